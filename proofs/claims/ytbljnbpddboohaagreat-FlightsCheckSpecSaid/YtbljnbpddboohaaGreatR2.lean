/-
  Functions of the reference: tables of few things.
-/
import Derived.Test.YtbljnbpddboohaaGreatF6
set_option linter.unusedVariables false
set_option linter.unusedSimpArgs false
namespace Go.Abs
open Go.RowKit Go.Proofs

def few10 (nv : Nat) (S : List Sector) (C : List Config) : Bool := S.all (fun s => decide (s.Volumes.length ≤ 10)) && C.all (fun c => decide (c.Sectors.length ≤ 10)) && (decide (nv ≤ 6) && (decide (S.length ≤ 12) && decide (C.length ≤ 7)))

set_option maxHeartbeats 1000000 in
theorem ref_Few10 (m : Nat) (vs : List PV) (S : List Sector) (C : List Config) {ss cs : List PV} (hS : ss = encSectors S) (hC : cs = encConfigs C) : CallsPV Tryz.prog 21 [encAir m vs ss cs] (.bool (few10 vs.length S C)) := by
  refine callsPV_by (clo := fun _ => false) (rows := false) env_ok Tryz.func21 rfl (enters_of Tryz.func21 (by kernel_rfl) rfl) (fun A q P Y hr hA hq => ?_)
  have hsl : A.lLen ss = S.length := by subst hA; show (ss.length : Int) = _; rw [hS]; simp [encSectors]
  have hcl : A.lLen cs = C.length := by subst hA; show (cs.length : Int) = _; rw [hC]; simp [encConfigs]
  have hsb : S.length ≤ 9223372036854775807 := by
    have := (Real.cell (show Real [.agg _] from hr) (c := .list 5 ss) (by simp)).len
    rw [hS] at this; simpa [encSectors] using this
  have hcb : C.length ≤ 9223372036854775807 := by
    have := (Real.cell (show Real [.agg _] from hr) (c := .list 3 cs) (by simp)).len
    rw [hC] at this; simpa [encConfigs] using this
  obtain ⟨n, hn⟩ : ∃ n, n = vs.length := ⟨_, rfl⟩
  have hvl : A.lLen vs = n := by subst hA; rw [hn]; rfl
  rw [← hn] at hq
  conv => cbv
  refine loop_set hA (fun (i : Int) s => s.put (some 3) (.val (.int .i64 i))) (fun i => 0 ≤ i ∧ i ≤ S.length ∧ (S.take i.toNat).all (fun s => decide (s.Volumes.length ≤ 10)) = true) (fun i => (S.length - i).toNat) 0 ?_ ?_ ?_
  · conv => cbv
    exact wk_sl (by simp [leL, leS])
  · exact ⟨Int.le_refl _, by omega, by simp⟩
  rintro R i ⟨hi0, hi1, hi2⟩ hR
  conv => cbv
  split
  · rename_i hc
    have hc' : i < S.length := by
      have h' : A.iLt i (A.lLen ss) = true := hc
      rw [hsl] at h'; subst hA; simpa [stdOps] using h'
    conv => cbv
    refine idx_Sector hA hS hi0 hc' (fun x u1 u2 hx hu1 hu2 => ?_)
    have htake := take_snoc' hi0 hx
    have hul : A.lLen u2 = x.Volumes.length := by subst hA; show (u2.length : Int) = _; rw [hu2]; simp [encInts]
    have hi1' : A.iAdd i 1 = i + 1 := by subst hA; rfl
    have hinr : A.inR (A.iAdd i 1) := by rw [hi1']; subst hA; show inI64 (i + 1); unfold inI64; omega
    conv => cbv
    split
    · rename_i hc2
      have h2 : ¬ x.Volumes.length ≤ 10 := by
        have h' : A.iLt 10 (A.lLen u2) = true := hc2
        rw [hul] at h'; subst hA; simp [stdOps] at h'; omega
      conv => cbv
      have : S.all (fun s => decide (s.Volumes.length ≤ 10)) = false := by
        rw [List.all_eq_false]; exact ⟨x, List.mem_of_getElem? hx, by simp; omega⟩
      rw [← hq]; unfold few10; rw [this]; rfl
    · rename_i hc2
      have h2 : x.Volumes.length ≤ 10 := by
        have h' : A.iLt 10 (A.lLen u2) = false := hc2
        rw [hul] at h'; subst hA; simp [stdOps] at h'; omega
      conv => cbv
      refine ⟨hinr, hR (A.iAdd i 1) _ (by (conv => cbv); exact wk_sl (by simp [leL, leS])) ?_ ?_⟩
      · rw [hi1', htake]
        exact ⟨by omega, by omega, by rw [List.all_append, hi2]; simp [h2]⟩
      · rw [hi1']; omega
  rename_i hc
  have hc' : ¬ i < S.length := by
    have h' : A.iLt i (A.lLen ss) = false := hc
    rw [hsl] at h'; subst hA; simp [stdOps] at h'; omega
  rw [List.take_of_length_le (by omega)] at hi2
  clear hR hc hc'
  conv => cbv
  refine loop_set hA (fun (i : Int) s => s.put (some 4) (.val (.int .i64 i))) (fun i => 0 ≤ i ∧ i ≤ C.length ∧ (C.take i.toNat).all (fun s => decide (s.Sectors.length ≤ 10)) = true) (fun i => (C.length - i).toNat) 0 ?_ ?_ ?_
  · conv => cbv
    exact wk_sl (by simp [leL, leS])
  · exact ⟨Int.le_refl _, by omega, by simp⟩
  rintro R j ⟨hj0, hj1, hj2⟩ hR
  conv => cbv
  split
  · rename_i hc
    have hc' : j < C.length := by
      have h' : A.iLt j (A.lLen cs) = true := hc
      rw [hcl] at h'; subst hA; simpa [stdOps] using h'
    conv => cbv
    refine idx_Config hA hC hj0 hc' (fun x u1 u2 hx hu1 hu2 => ?_)
    have htake := take_snoc' hj0 hx
    have hul : A.lLen u2 = x.Sectors.length := by subst hA; show (u2.length : Int) = _; rw [hu2]; simp [encInts]
    have hi1' : A.iAdd j 1 = j + 1 := by subst hA; rfl
    have hinr : A.inR (A.iAdd j 1) := by rw [hi1']; subst hA; show inI64 (j + 1); unfold inI64; omega
    conv => cbv
    split
    · rename_i hc2
      have h2 : ¬ x.Sectors.length ≤ 10 := by
        have h' : A.iLt 10 (A.lLen u2) = true := hc2
        rw [hul] at h'; subst hA; simp [stdOps] at h'; omega
      conv => cbv
      have : C.all (fun s => decide (s.Sectors.length ≤ 10)) = false := by
        rw [List.all_eq_false]; exact ⟨x, List.mem_of_getElem? hx, by simp; omega⟩
      rw [← hq]; unfold few10; rw [this, Bool.and_false]; rfl
    · rename_i hc2
      have h2 : x.Sectors.length ≤ 10 := by
        have h' : A.iLt 10 (A.lLen u2) = false := hc2
        rw [hul] at h'; subst hA; simp [stdOps] at h'; omega
      conv => cbv
      refine ⟨hinr, hR (A.iAdd j 1) _ (by (conv => cbv); exact wk_sl (by simp [leL, leS])) ?_ ?_⟩
      · rw [hi1', htake]
        exact ⟨by omega, by omega, by rw [List.all_append, hj2]; simp [h2]⟩
      · rw [hi1']; omega
  rename_i hc
  have hc' : ¬ j < C.length := by
    have h' : A.iLt j (A.lLen cs) = false := hc
    rw [hcl] at h'; subst hA; simp [stdOps] at h'; omega
  rw [List.take_of_length_le (by omega)] at hj2
  unfold few10 at hq
  rw [hi2, hj2] at hq
  simp only [Bool.true_and] at hq
  have e1 : A.iLe (A.lLen vs) 6 = decide (n ≤ 6) := by rw [hvl]; subst hA; show decide ((n : Int) ≤ 6) = _; simp; omega
  have e2 : A.iLe (A.lLen ss) 12 = decide (S.length ≤ 12) := by rw [hsl]; subst hA; show decide ((S.length : Int) ≤ 12) = _; simp; omega
  have e3 : A.iLe (A.lLen cs) 7 = decide (C.length ≤ 7) := by rw [hcl]; subst hA; show decide ((C.length : Int) ≤ 7) = _; simp; omega
  rw [← e1, ← e2, ← e3] at hq
  conv => cbv
  split
  · rename_i hc2
    have h2 : A.iLe (A.lLen vs) 6 = true := hc2
    rw [h2] at hq
    conv => cbv
    split
    · rename_i hc3
      have h3 : A.iLe (A.lLen ss) 12 = true := hc3
      rw [h3] at hq
      conv => cbv
      rw [← hq]; rfl
    · rename_i hc3
      have h3 : A.iLe (A.lLen ss) 12 = false := hc3
      rw [h3] at hq
      conv => cbv
      rw [← hq]; rfl
  · rename_i hc2
    have h2 : A.iLe (A.lLen vs) 6 = false := hc2
    rw [h2] at hq
    conv => cbv
    rw [← hq]; rfl
end Go.Abs
