/-
  Functions: names, flights.Check's closure.
-/
import Derived.Test.YtbljnbpddboohaaGreatC2
set_option linter.unusedVariables false
set_option linter.unusedSimpArgs false
namespace Go.Abs
open Go.RowKit Go.Proofs

def byteAt (s : ByteArray) (i : Nat) : Int := ((s.data.toList.getD i 0).toNat : Int)
def okC (c : Int) : Bool := decide (c = 2) || decide (c = 3) || decide (c = 5)
def nameB (s : ByteArray) : Bool := !decide (s.size = 0) && decide ((s.size : Int) ≤ 32) && decide (classI (byteAt s 0) = 2) && (List.range s.size).all fun i => okC (classI (byteAt s i))

section
variable {A : Ops} {E : Env}
theorem seqT (hA : A = stdOps E) {a b : ByteArray} (h : A.sEq a b = true) : a = b := by subst hA; simpa [stdOps] using h
theorem seqF (hA : A = stdOps E) {a b : ByteArray} (h : A.sEq a b = false) : a ≠ b := by subst hA; simpa [stdOps] using h
theorem szI (hA : A = stdOps E) (s : ByteArray) : A.sSize s = (s.size : Int) := by subst hA; rfl
theorem byI (hA : A = stdOps E) (s : ByteArray) (n : Int) : A.sByte s n = byteAt s n.toNat := by subst hA; rfl
end
theorem ba_nil {s : ByteArray} (h : s.size = 0) : s = ⟨#[]⟩ := by
  obtain ⟨d⟩ := s
  have h' : d.size = 0 := h
  rw [Array.size_eq_zero_iff.1 h']
theorem lex_byte {A : Ops} {E : Env} (hA : A = stdOps E) (s : ByteArray) (n : Int) : CallsPV Tryz.prog 56 [.int .u8 (A.sByte s n)] (.int .i64 (classI (byteAt s n.toNat))) := by
  rw [byI hA]; exact lex_class _

theorem nameB_no {s : ByteArray} {i : Nat} (hi : i < s.size) (h : okC (classI (byteAt s i)) = false) : nameB s = false := by
  have : ((List.range s.size).all fun i => okC (classI (byteAt s i))) = false := by
    rw [List.all_eq_false]
    exact ⟨i, List.mem_range.2 hi, by rw [h]; decide⟩
  rw [nameB, this, Bool.and_false]

theorem lex_Name (s : ByteArray) : CallsPV Tryz.prog 23 [.str s] (.bool (nameB s)) := by
  refine callsPV_by (clo := fun _ => false) (rows := false) env_ok Tryz.func23 rfl (enters_of Tryz.func23 (by kernel_rfl) rfl) (fun A q P Y hr hA hq => ?_)
  conv => cbv
  split
  · rename_i h
    conv => cbv
    rw [← hq, nameB, seqT hA h]; rfl
  rename_i h1
  have h1' : s.size ≠ 0 := fun e => seqF hA h1 (ba_nil e)
  conv => cbv
  split
  · rename_i h
    have h' := ltT' hA rfl (szI hA s) h
    conv => cbv
    rw [← hq, nameB, decide_eq_false (p := (s.size : Int) ≤ 32) (by omega)]; simp
  rename_i h2
  have h2' : (s.size : Int) ≤ 32 := ltF' hA rfl (szI hA s) h2
  conv => cbv
  refine ⟨withI hA (szI hA s) (by omega) (by omega), ?_⟩
  conv => cbv
  refine callI hA (lex_byte hA s 0) rfl (fun c hc => ?_)
  conv => cbv
  split
  · rename_i h
    have h' : classI (byteAt s 0) ≠ 2 := fun e => neT hA h (hc.trans e)
    conv => cbv
    rw [← hq, nameB, decide_eq_false (p := classI (byteAt s 0) = 2) h']; simp
  rename_i h3
  have h3' : classI (byteAt s 0) = 2 := hc.symm.trans (neF hA h3)
  clear hc
  conv => cbv
  refine loop_set hA (fun (i : Int) s => s.put (some 20) (.val (.int .i64 i))) (fun i => 0 ≤ i ∧ i ≤ (s.size : Int) ∧ (fun i => ∀ k, k < i.toNat → okC (classI (byteAt s k)) = true) i) (fun i => ((s.size : Int) - i).toNat) 0 ?_ ?_ ?_
  · conv => cbv
    exact wk_sl (by repeat (first | refine leL_same ?_ | refine leL_any ?_ | exact leL_nil))
  · exact ⟨Int.le_refl _, by omega, by simp⟩
  rintro R i ⟨hi0, hi1, hi2⟩ hRi
  conv => cbv
  split
  ·   rename_i hc
      have hi : i < (s.size : Int) := ltT' hA rfl (szI hA s) hc
      have his : A.iAdd i 1 = i + 1 := addI hA _ _
      have hir : A.inR (A.iAdd i 1) := inR' hA his (by unfold inI64; omega)
      have him : ((s.size : Int) - A.iAdd i 1).toNat < ((s.size : Int) - i).toNat := by rw [his]; omega
      have hin : (fun i => ∀ k, k < i.toNat → okC (classI (byteAt s k)) = true) (i + 1) → 0 ≤ A.iAdd i 1 ∧ A.iAdd i 1 ≤ (s.size : Int) ∧ (fun i => ∀ k, k < i.toNat → okC (classI (byteAt s k)) = true) (A.iAdd i 1) := fun h => by rw [his]; exact ⟨by omega, by omega, h⟩
      simp only at hin
      conv => cbv
      refine ⟨withI hA (szI hA s) hi0 hi, ?_⟩
      conv => cbv
      refine callI hA (lex_byte hA s i) rfl (fun b hb => ?_)
      conv => cbv
      have good : (b = 2 ∨ b = 3 ∨ b = 5) → ∀ k, k < (i + 1).toNat → okC (classI (byteAt s k)) = true := fun h k hk => by
        rcases Nat.lt_or_eq_of_le (Nat.le_of_lt_succ (show k < i.toNat + 1 by omega)) with h1 | h1
        · exact hi2 k h1
        · rw [h1, ← hb, okC]; rcases h with h | h | h <;> rw [h] <;> rfl
      split
      · rename_i c1
        conv => cbv
        split
        · rename_i c2
          conv => cbv
          split
          · rename_i c3
            conv => cbv
            rw [← hq, nameB_no (i := i.toNat) (by omega) (by rw [← hb, okC, decide_eq_false (neT hA c1), decide_eq_false (neT hA c2), decide_eq_false (neT hA c3)]; rfl)]
          · rename_i c3
            conv => cbv
            exact ⟨hir, hRi (A.iAdd i 1) _ (by (conv => cbv); exact wk_sl (by repeat (first | refine leL_same ?_ | refine leL_any ?_ | exact leL_nil))) (hin (good (.inr (.inr (neF hA c3))))) him⟩
        · rename_i c2
          conv => cbv
          exact ⟨hir, hRi (A.iAdd i 1) _ (by (conv => cbv); exact wk_sl (by repeat (first | refine leL_same ?_ | refine leL_any ?_ | exact leL_nil))) (hin (good (.inr (.inl (neF hA c2))))) him⟩
      · rename_i c1
        conv => cbv
        exact ⟨hir, hRi (A.iAdd i 1) _ (by (conv => cbv); exact wk_sl (by repeat (first | refine leL_same ?_ | refine leL_any ?_ | exact leL_nil))) (hin (good (.inl (neF hA c1)))) him⟩
  rename_i hc
  have hi : i = (s.size : Int) := by have := ltF' hA rfl (szI hA s) hc; omega
  conv => cbv
  rw [← hq, nameB, decide_eq_false h1', decide_eq_true h2', decide_eq_true h3']
  have : ((List.range s.size).all fun i => okC (classI (byteAt s i))) = true := by
    rw [List.all_eq_true]
    intro k hk
    exact hi2 k (by have := List.mem_range.1 hk; omega)
  rw [this]; rfl
end Go.Abs
