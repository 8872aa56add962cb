/-
  Functions of the reference's chapter 7: names.
-/
import Derived.Test.YtbljnbpddboohaaGreatF16
set_option linter.unusedVariables false
set_option linter.unusedSimpArgs false
namespace Go.Abs
open Go.RowKit Go.Proofs

def letterB (c : Int) : Bool := decide (97 ≤ c ∧ c ≤ 122) || decide (65 ≤ c ∧ c ≤ 90)
def figureB (c : Int) : Bool := decide (48 ≤ c ∧ c ≤ 57)
def partB (c : Int) : Bool := letterB c || figureB c || decide (c = 95)
theorem letterB_iff (c : Int) : letterB c = decide (classI c = 2) := by
  unfold letterB classI
  rw [Bool.eq_iff_iff]
  simp only [Bool.or_eq_true, decide_eq_true_eq]
  constructor
  · intro h; rw [if_pos h]
  · intro h
    by_cases h1 : (97 ≤ c ∧ c ≤ 122) ∨ (65 ≤ c ∧ c ≤ 90)
    · exact h1
    · rw [if_neg h1] at h
      repeat' split at h
      all_goals cases h
theorem partB_iff (c : Int) : partB c = okC (classI c) := by
  unfold partB letterB figureB okC classI
  rw [Bool.eq_iff_iff]
  simp only [Bool.or_eq_true, decide_eq_true_eq]
  by_cases h1 : (97 ≤ c ∧ c ≤ 122) ∨ (65 ≤ c ∧ c ≤ 90)
  · rw [if_pos h1]; simp [h1]
  · rw [if_neg h1]
    by_cases h2 : 48 ≤ c ∧ c ≤ 57
    · rw [if_pos h2]; simp [h2]
    · rw [if_neg h2]
      by_cases h3 : c = 95
      · rw [if_pos h3]; simp [h3]
      · rw [if_neg h3]
        simp only [h1, h2, h3, or_self, false_iff]
        repeat' split
        all_goals simp

theorem iLeI {A : Ops} {E : Env} (hA : A = stdOps E) (a b : Int) : A.iLe a b = decide (a ≤ b) := by subst hA; rfl

theorem ref07_Letter (c : Int) : CallsPV Tryz.prog 93 [.int .u8 c] (.bool (letterB c)) := by
  refine callsPV_by (clo := fun _ => false) (rows := false) env_ok Tryz.func93 rfl (enters_of Tryz.func93 (by kernel_rfl) rfl) (fun A q P Y hr hA hq => ?_)
  have fin : ∀ b : Bool, (b = true ↔ (97 ≤ c ∧ c ≤ 122) ∨ (65 ≤ c ∧ c ≤ 90)) → PV.bool b = q := fun b h => by
    rw [← hq]; congr 1; rw [Bool.eq_iff_iff, h]; simp [letterB]
  conv => cbv
  split
  · rename_i h1
    have h1' := leT hA h1
    conv => cbv
    split
    · rename_i h2
      have h2' := leT hA h2
      conv => cbv
      exact fin _ ⟨fun _ => by omega, fun _ => rfl⟩
    · rename_i h2
      have h2' := leF hA h2
      conv => cbv
      split
      · rename_i h3
        conv => cbv
        refine fin (A.iLe c 90) ?_
        rw [iLeI hA, decide_eq_true_iff]; omega
      · rename_i h3
        have h3' := leF hA h3
        conv => cbv
        exact fin _ ⟨fun h => Bool.noConfusion h, fun h => by omega⟩
  · rename_i h1
    have h1' := leF hA h1
    conv => cbv
    split
    · rename_i h3
      have h3' := leT hA h3
      conv => cbv
      refine fin (A.iLe c 90) ?_
      rw [iLeI hA, decide_eq_true_iff]; omega
    · rename_i h3
      have h3' := leF hA h3
      conv => cbv
      exact fin _ ⟨fun h => Bool.noConfusion h, fun h => by omega⟩

theorem ref07_Figure (c : Int) : CallsPV Tryz.prog 118 [.int .u8 c] (.bool (figureB c)) := by
  refine callsPV_by (clo := fun _ => false) (rows := false) env_ok Tryz.func118 rfl (enters_of Tryz.func118 (by kernel_rfl) rfl) (fun A q P Y hr hA hq => ?_)
  have fin : ∀ b : Bool, (b = true ↔ (48 ≤ c ∧ c ≤ 57)) → PV.bool b = q := fun b h => by
    rw [← hq]; congr 1; rw [Bool.eq_iff_iff, h]; simp [figureB]
  conv => cbv
  split
  · rename_i h1
    have h1' := leT hA h1
    conv => cbv
    refine fin (A.iLe c 57) ?_
    rw [iLeI hA, decide_eq_true_iff]; omega
  · rename_i h1
    have h1' := leF hA h1
    conv => cbv
    exact fin _ ⟨fun h => Bool.noConfusion h, fun h => by omega⟩

theorem ref07_part (c : Int) : CallsPV Tryz.prog 94 [.int .u8 c] (.bool (partB c)) := by
  refine callsPV_by (clo := fun _ => false) (rows := false) env_ok Tryz.func94 rfl (enters_of Tryz.func94 (by kernel_rfl) rfl) (fun A q P Y hr hA hq => ?_)
  have h1 := ref07_Letter c
  have h2 := ref07_Figure c
  have hP : partB c = (letterB c || figureB c || decide (c = 95)) := rfl
  rw [hP] at hq
  generalize letterB c = b1 at h1 hq
  generalize figureB c = b2 at h2 hq
  conv => cbv
  refine call_intro hA (h1) ?_
  conv => cbv
  cases b1 with
  | true =>
    conv => cbv
    exact hq
  | false =>
    conv => cbv
    refine call_intro hA (h2) ?_
    conv => cbv
    cases b2 with
    | true =>
      conv => cbv
      exact hq
    | false =>
      conv => cbv
      refine Eq.trans ?_ hq
      show PV.bool (A.iEq c 95) = _
      rw [iEqI hA]; rfl

theorem ref07_byte1 {A : Ops} {E : Env} (hA : A = stdOps E) (s : ByteArray) (n : Int) : CallsPV Tryz.prog 93 [.int .u8 (A.sByte s n)] (.bool (letterB (byteAt s n.toNat))) := by
  rw [byI hA]; exact ref07_Letter _
theorem ref07_byte2 {A : Ops} {E : Env} (hA : A = stdOps E) (s : ByteArray) (n : Int) : CallsPV Tryz.prog 94 [.int .u8 (A.sByte s n)] (.bool (partB (byteAt s n.toNat))) := by
  rw [byI hA]; exact ref07_part _

theorem ref07_Name (s : ByteArray) : CallsPV Tryz.prog 67 [.str s] (.bool (nameB s)) := by
  refine callsPV_by (clo := fun _ => false) (rows := false) env_ok Tryz.func67 rfl (enters_of Tryz.func67 (by kernel_rfl) rfl) (fun A q P Y hr hA hq => ?_)
  conv => cbv
  split
  · rename_i h
    have h' := ltT' hA (szI hA s) rfl h
    conv => cbv
    rw [← hq, nameB, decide_eq_true (p := s.size = 0) (by omega)]; rfl
  rename_i h1
  have h1' := ltF' hA (szI hA s) rfl h1
  conv => cbv
  split
  · rename_i h
    have h' := ltT' hA rfl (szI hA s) h
    conv => cbv
    rw [← hq, nameB, decide_eq_false (p := (s.size : Int) ≤ 32) (by omega)]; simp
  rename_i h2
  have h2' : (s.size : Int) ≤ 32 := ltF' hA rfl (szI hA s) h2
  conv => cbv
  refine ⟨withI hA (szI hA s) (by omega) (by omega), ?_⟩
  conv => cbv
  refine callB hA (ref07_byte1 hA s 0) rfl (fun c hc => ?_)
  conv => cbv
  rw [letterB_iff] at hc
  split
  · rename_i h
    have h' : classI (byteAt s 0) ≠ 2 := of_decide_eq_false (hc.symm.trans (notT hA h))
    conv => cbv
    rw [← hq, nameB, decide_eq_false (p := classI (byteAt s 0) = 2) h']; simp
  rename_i h3
  have h3' : classI (byteAt s 0) = 2 := of_decide_eq_true (hc.symm.trans (notF hA h3))
  clear hc
  conv => cbv
  refine loop_set hA (fun (i : Int) s => s.put (some 3) (.val (.int .i64 i))) (fun i => 0 ≤ i ∧ i ≤ (s.size : Int) ∧ (fun i => ∀ k, k < i.toNat → okC (classI (byteAt s k)) = true) i) (fun i => ((s.size : Int) - i).toNat) 0 ?_ ?_ ?_
  · conv => cbv
    exact wk_sl (by repeat (first | refine leL_same ?_ | refine leL_any ?_ | exact leL_nil))
  · exact ⟨Int.le_refl _, by omega, by simp⟩
  rintro R i ⟨hi0, hi1, hi2⟩ hRi
  conv => cbv
  split
  ·   rename_i hc
      have hi : i < (s.size : Int) := ltT' hA rfl (szI hA s) hc
      have his : A.iAdd i 1 = i + 1 := addI hA _ _
      have hir : A.inR (A.iAdd i 1) := inR' hA his (by unfold inI64; omega)
      have him : ((s.size : Int) - A.iAdd i 1).toNat < ((s.size : Int) - i).toNat := by rw [his]; omega
      have hin : (fun i => ∀ k, k < i.toNat → okC (classI (byteAt s k)) = true) (i + 1) → 0 ≤ A.iAdd i 1 ∧ A.iAdd i 1 ≤ (s.size : Int) ∧ (fun i => ∀ k, k < i.toNat → okC (classI (byteAt s k)) = true) (A.iAdd i 1) := fun h => by rw [his]; exact ⟨by omega, by omega, h⟩
      simp only at hin
      conv => cbv
      refine ⟨withI hA (szI hA s) hi0 hi, ?_⟩
      conv => cbv
      refine callB hA (ref07_byte2 hA s i) rfl (fun b hb => ?_)
      conv => cbv
      rw [partB_iff] at hb
      split
      · rename_i h
        conv => cbv
        rw [← hq, nameB_no (i := i.toNat) (by omega) (by rw [← hb]; exact notT hA h)]
      rename_i h
      have hb1 := notF hA h
      rw [hb1] at hb
      have nx : ∀ k, k < (i + 1).toNat → okC (classI (byteAt s k)) = true := fun k hk => by
        rcases Nat.lt_or_eq_of_le (Nat.le_of_lt_succ (show k < i.toNat + 1 by omega)) with h1 | h1
        · exact hi2 k h1
        · rw [h1]; exact hb.symm
      conv => cbv
      exact ⟨hir, hRi (A.iAdd i 1) _ (by (conv => cbv); exact wk_sl (by repeat (first | refine leL_same ?_ | refine leL_any ?_ | exact leL_nil))) (hin nx) him⟩
  rename_i hc
  have hi : i = (s.size : Int) := by have := ltF' hA rfl (szI hA s) hc; omega
  conv => cbv
  rw [← hq, nameB, decide_eq_false (p := s.size = 0) (by omega), decide_eq_true h2', decide_eq_true h3']
  have : ((List.range s.size).all fun i => okC (classI (byteAt s i))) = true := by
    rw [List.all_eq_true]
    intro k hk
    exact hi2 k (by have := List.mem_range.1 hk; omega)
  rw [this]; rfl
end Go.Abs
