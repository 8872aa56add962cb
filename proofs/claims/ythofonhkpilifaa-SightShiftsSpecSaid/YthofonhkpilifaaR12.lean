/-
  References: sight's Shifts.
-/
import Derived.Test.YthofonhkpilifaaR10
import Derived.Test.YthofonhkpilifaaF9
namespace Go.Abs
open Go.RowKit Go.Proofs

/-- From -m to below n. -/
def rangeTo (m n : Int) : List Int := (List.range (n + m).toNat).map fun (i : Nat) => (i : Int) - m
theorem rangeTo_all (m : Int) : rangeTo m (m + 1) = rangeI m := by unfold rangeTo rangeI; rw [show m + 1 + m = 2 * m + 1 by omega]
theorem rangeTo_none (m : Int) : rangeTo m (-m) = [] := by unfold rangeTo; rw [show -m + m = 0 by omega]; rfl
theorem rangeTo_snoc {m n : Int} (h : -m ≤ n) : rangeTo m (n + 1) = rangeTo m n ++ [n] := by
  unfold rangeTo
  rw [show (n + 1 + m).toNat = (n + m).toNat + 1 by omega, List.range_succ, List.map_append]
  congr 1
  simp only [List.map_cons, List.map_nil]
  congr 1
  omega

def snocs (m n : Int) (p : List Int) : List (List Int) := (rangeTo m n).map fun x => p ++ [x]
theorem shiftsL_snoc (x : Station) : ∀ a : List Station, shiftsL (a ++ [x]) = (shiftsL a).flatMap (snocs x.Shift (x.Shift + 1))
  | [] => by
    simp only [List.nil_append, shiftsL, snocs, rangeTo_all, List.flatMap_cons, List.flatMap_nil, List.append_nil, List.map_cons, List.map_nil]
    generalize rangeI x.Shift = R
    induction R with
    | nil => rfl
    | cons a r ih => rw [List.flatMap_cons, List.map_cons, ih]; rfl
  | y :: r => by
    simp only [List.cons_append, shiftsL, shiftsL_snoc x r, List.flatMap_assoc, List.map_flatMap, List.flatMap_map, snocs, List.map_map]
    rfl

theorem encIntLs_append (a b : List (List Int)) : encIntLs (a ++ b) = encIntLs a ++ encIntLs b := by simp [encIntLs]

theorem shiftsL_all : ∀ (l : List Station) (a : List Int), a ∈ shiftsL l → a.length = l.length
  | [], a, h => by simp [shiftsL] at h; simp [h]
  | x :: r, a, h => by
    simp only [shiftsL, List.mem_flatMap, List.mem_map] at h
    obtain ⟨n, _, b, hb, rfl⟩ := h
    simp [shiftsL_all r b hb]

theorem shiftsOk_iff (l : List Station) : shiftsOk l = true ↔ l.length ≤ 4 ∧ ∀ s ∈ l, 0 ≤ s.Shift ∧ s.Shift ≤ 3 := by
  unfold shiftsOk shiftBad inB
  simp

set_option maxHeartbeats 4000000 in
theorem ref23_Shifts (l : List Station) {xs : List PV} (hx : xs = encStations l) : CallsPV Try.prog 17 [.list 3 xs] (if shiftsOk l then .tup [.list 1 (encIntLs (shiftsL l)), .int .i64 0] else .tup [.list 0 [], .int .i64 230]) := by
  refine callsPV_by (clo := fun _ => false) (rows := false) env_ok Try.func17 rfl (enters_of Try.func17 (by kernel_rfl) rfl) (fun A q P Y hr hA hq => ?_)
  have hll : xs.length = l.length := by rw [hx]; simp [encStations]
  have hK := shiftsOk_iff l
  have hbad : ¬ shiftsOk l = true → PV.tup [.list 0 [], .int .i64 230] = q := fun h => by rw [← hq, if_neg h]
  conv => cbv
  split
  · rename_i hc
    conv => cbv
    exact hbad (fun h => by have := hK.1 h; have := ltT' hA rfl (lenI hA hll) hc; omega)
  rename_i c1; replace c1 := ltF' hA rfl (lenI hA hll) c1
  conv => cbv
  refine loop_set hA (fun (z : Int × List PV) s => (s.put (some 5) (.val (.int .i64 z.1))).put (some 4) (.val (.list 1 z.2)))
    (fun z => 0 ≤ z.1 ∧ z.1 ≤ l.length ∧ z.2 = encIntLs (shiftsL (l.take z.1.toNat)) ∧ ∀ s ∈ l.take z.1.toNat, 0 ≤ s.Shift ∧ s.Shift ≤ 3) (fun z => (l.length - z.1).toNat) (0, [.list 1 []]) ?_ ?_ ?_
  · conv => cbv
    exact wk_sl (by repeat (first | refine leL_same ?_ | refine leL_any ?_ | refine leL_lit ?_ | exact leL_nil))
  · exact ⟨Int.le_refl _, by omega, rfl, by simp⟩
  rintro R ⟨i, LL⟩ ⟨hi0, hi1, hLL, hsh⟩ hR
  simp only at hi0 hi1 hLL hsh
  conv => cbv
  split
  · rename_i hc
    have hi : i < l.length := ltT' hA rfl (lenI hA hll) hc
    have his : A.iAdd i 1 = i + 1 := addI hA _ _
    have hir : A.inR (A.iAdd i 1) := inR' hA his (by unfold inI64; omega)
    conv => cbv
    refine idx_Station hA hx hi0 hi (fun s v hs hv => ?_)
    have ht := take_snoc' hi0 hs
    have hm := List.mem_of_getElem? hs
    have hsn := shiftsL_snoc s (l.take i.toNat)
    rw [← ht] at hsn
    have hbad2 : ¬ (0 ≤ s.Shift ∧ s.Shift ≤ 3) → PV.tup [.list 0 [], .int .i64 230] = q := fun h => hbad (fun h' => h ((hK.1 h').2 s hm))
    obtain ⟨s1, s2, s3⟩ := s
    simp only at hv hsn hbad2
    conv => cbv
    split
    · rename_i hc
      conv => cbv
      exact hbad2 (fun h => by have := ltT hA hc; omega)
    rename_i d1; replace d1 := ltF hA d1
    conv => cbv
    refine idx_Station hA hx hi0 hi (fun z w hz hw => ?_)
    obtain rfl := Option.some.inj ((hs).symm.trans hz)
    conv => cbv
    split
    · rename_i hc
      conv => cbv
      exact hbad2 (fun h => by have := ltT hA hc; omega)
    rename_i d2; replace d2 := ltF hA d2
    conv => cbv
    obtain ⟨S, hS⟩ : ∃ S, S = shiftsL (l.take i.toNat) := ⟨_, rfl⟩
    rw [← hS] at hLL hsn
    have hLl : LL.length = S.length := by rw [hLL]; simp [encIntLs]
    have hSl := (shiftsL_len (l.take i.toNat) hsh).1
    have hS24 : (S.length : Int) ≤ 2401 := by
      rw [hS]
      have h7 : 7 ^ (l.take i.toNat).length ≤ 7 ^ 4 := Nat.pow_le_pow_right (by omega) (by rw [List.length_take]; omega)
      omega
    refine loop_set hA (fun (z : Int × List PV) s => { (s.put (some 7) (.val (.int .i64 z.1))).put (some 6) (.own 0 1 z.2) with tk := [(A.nLen z.2, 40)] })
      (fun z => 0 ≤ z.1 ∧ z.1 ≤ S.length ∧ z.2 = encIntLs ((S.take z.1.toNat).flatMap (snocs s2 (s2 + 1)))) (fun z => (S.length - z.1).toNat) (0, []) ?_ ?_ ?_
    · conv => cbv
      exact wk_own 6 1 1 [] _ rfl (.inr rfl) (by repeat (first | refine leL_same ?_ | refine leL_any ?_ | refine leL_own ?_ | refine leL_lit ?_ | exact leL_nil)) (by subst hA; rfl)
    · exact ⟨Int.le_refl _, by omega, rfl⟩
    rintro R3 ⟨k, M⟩ ⟨hk0, hk1, hM⟩ hR3
    simp only at hk0 hk1 hM
    conv => cbv
    split
    · rename_i hc
      have hk : k < S.length := ltT' hA rfl (lenI hA hLl) hc
      have hks : A.iAdd k 1 = k + 1 := addI hA _ _
      have hkr : A.inR (A.iAdd k 1) := inR' hA hks (by unfold inI64; omega)
      obtain ⟨p, hp⟩ : ∃ p, S[k.toNat]? = some p := ⟨_, List.getElem?_eq_getElem (by omega)⟩
      have htp := take_snoc' hk0 hp
      have hng : A.iNeg s2 = -s2 := by subst hA; rfl
      conv => cbv
      refine idx_Station hA hx hi0 hi (fun z w hz hw => ?_)
      obtain rfl := Option.some.inj ((hs).symm.trans hz)
      conv => cbv
      refine ⟨by subst hA; show -9223372036854775808 < s2 ∧ s2 ≤ 9223372036854775807; omega, ?_⟩
      obtain ⟨pre, hpre⟩ : ∃ pre, pre = (S.take k.toNat).flatMap (snocs s2 (s2 + 1)) := ⟨_, rfl⟩
      rw [← hpre] at hM
      have hprel : pre.length ≤ 7 * S.length := by
        have : ∀ L : List (List Int), (L.flatMap (snocs s2 (s2 + 1))).length ≤ 7 * L.length := by
          intro L
          induction L with
          | nil => simp
          | cons a r ih => rw [List.flatMap_cons, List.length_append, List.length_cons]; unfold snocs rangeTo at *; simp only [List.length_map, List.length_range] at *; omega
        have h := this (S.take k.toNat)
        rw [← hpre] at h
        have : (S.take k.toNat).length ≤ S.length := by rw [List.length_take]; omega
        omega
      refine loop_set hA (fun (z : Int × List PV) s => { (s.put (some 8) (.val (.int .i64 z.1))).put (some 6) (.own 0 1 z.2) with tk := [(A.nLen z.2, 40)] })
        (fun z => -s2 ≤ z.1 ∧ z.1 ≤ s2 + 1 ∧ z.2 = encIntLs (pre ++ snocs s2 z.1 p)) (fun z => (s2 + 1 - z.1).toNat) (A.iNeg s2, M) ?_ ?_ ?_
      · conv => cbv
        exact wk_sl (by repeat (first | refine leL_same ?_ | refine leL_any ?_ | refine leL_own ?_ | refine leL_lit ?_ | exact leL_nil))
      · refine ⟨by show -s2 ≤ A.iNeg s2; omega, by show A.iNeg s2 ≤ s2 + 1; omega, ?_⟩
        show M = encIntLs (pre ++ snocs s2 (A.iNeg s2) p)
        rw [hng, snocs, rangeTo_none, List.map_nil, List.append_nil]; exact hM
      rintro R4 ⟨n, M⟩ ⟨hn0, hn1, hM⟩ hR4
      simp only at hn0 hn1 hM
      have hMl : M.length ≤ 7 * S.length + 7 := by
        rw [hM]; unfold encIntLs snocs rangeTo
        simp only [List.length_map, List.length_append, List.length_range]; omega
      conv => cbv
      refine idx_Station hA hx hi0 hi (fun z w hz hw => ?_)
      obtain rfl := Option.some.inj ((hs).symm.trans hz)
      conv => cbv
      split
      · rename_i hc
        have hn : n ≤ s2 := leT hA hc
        have hns : A.iAdd n 1 = n + 1 := addI hA _ _
        have hnr : A.inR (A.iAdd n 1) := inR' hA hns (by unfold inI64; omega)
        conv => cbv
        refine idx_IntL hA hLL hk0 hk (fun x v hx' hv' => ?_)
        have hv2 : v = encInts p := by rw [hv', Option.some.inj (hx'.symm.trans hp)]
        clear hv' hx'
        conv => cbv
        have hpl : p.length ≤ 4 := by
          rw [shiftsL_all (l.take i.toNat) p (by rw [← hS]; exact List.mem_of_getElem? hp), List.length_take]; omega
        have hvl : v.length = p.length := by rw [hv2]; simp [encInts]
        have r1 : A.room (A.nLen (A.lApp [] v)) 8 := by subst hA; show ([] ++ v).length * (8 + 1) ≤ 140737488355328; simp; omega
        have r2 : A.room (A.nLen (A.lApp (A.lApp [] v) [PV.int IntKind.i64 n])) 8 := by subst hA; show (([] ++ v) ++ [_]).length * (8 + 1) ≤ 140737488355328; simp; omega
        have r3 : A.room (A.nLen (A.lApp M [PV.list 1 (A.lApp (A.lApp [] v) [PV.int IntKind.i64 n])])) 24 := by subst hA; show (M ++ [_]).length * (24 + 1) ≤ 140737488355328; rw [List.length_append, List.length_singleton]; omega
        have tk1 : A.tkEq (A.nLen (A.lApp [] v)) (A.nLen (A.lApp [] v)) := by subst hA; rfl
        have tk2 : A.tkEq (A.nLen M) (A.nLen M) := by subst hA; rfl
        have hnext : A.lApp M [PV.list 1 (A.lApp (A.lApp [] v) [PV.int IntKind.i64 n])] = encIntLs (pre ++ snocs s2 (n + 1) p) := by
          subst hA
          show M ++ [PV.list 1 (([] ++ v) ++ [PV.int IntKind.i64 n])] = _
          rw [hM, hv2]
          unfold snocs
          rw [rangeTo_snoc hn0]
          simp [encIntLs, encIntL, encInts, encInt]
        refine ⟨r1, ⟨tk1, r2⟩, ⟨tk2, r3⟩, hnr, hR4 (A.iAdd n 1, A.lApp M [PV.list 1 (A.lApp (A.lApp [] v) [PV.int IntKind.i64 n])]) _ ?_ ?_ ?_⟩
        · conv => cbv
          exact wk_roundT (bx := []) (bx' := []) (tk := [_]) (tk' := [_]) (by repeat (first | refine leL_same ?_ | refine leL_any ?_ | refine leL_own ?_ | refine leL_lit ?_ | exact leL_nil)) rfl rfl rfl rfl
        · show -s2 ≤ A.iAdd n 1 ∧ A.iAdd n 1 ≤ s2 + 1 ∧ _
          rw [hns]; exact ⟨by omega, by omega, hnext⟩
        · show (s2 + 1 - A.iAdd n 1).toNat < (s2 + 1 - n).toNat
          rw [hns]; omega
      · rename_i hc
        have hn : n = s2 + 1 := by have := leF hA hc; omega
        conv => cbv
        refine ⟨hkr, hR3 (A.iAdd k 1, M) _ ?_ ?_ ?_⟩
        · conv => cbv
          exact wk_sl (by repeat (first | refine leL_same ?_ | refine leL_any ?_ | refine leL_own ?_ | refine leL_lit ?_ | exact leL_nil))
        · show 0 ≤ A.iAdd k 1 ∧ A.iAdd k 1 ≤ S.length ∧ M = _
          rw [hks]
          refine ⟨by omega, by omega, ?_⟩
          rw [hM, htp, List.flatMap_append, ← hpre, hn]; simp
        · show ((S.length : Int) - A.iAdd k 1).toNat < ((S.length : Int) - k).toNat
          rw [hks]; omega
    · rename_i hc
      have hk : S.length ≤ k := ltF' hA rfl (lenI hA hLl) hc
      rw [List.take_of_length_le (by omega)] at hM
      conv => cbv
      refine ⟨hir, hR (A.iAdd i 1, M) _ ?_ ?_ ?_⟩
      · conv => cbv
        exact wk_roundT (bx := []) (bx' := []) (tk := []) (tk' := [_]) (by repeat (first | refine leL_same ?_ | refine leL_any ?_ | refine leL_own ?_ | refine leL_lit ?_ | exact leL_nil)) rfl rfl rfl rfl
      · show 0 ≤ A.iAdd i 1 ∧ A.iAdd i 1 ≤ l.length ∧ M = _ ∧ _
        rw [his]
        exact ⟨by omega, by omega, by rw [hM, hsn], mem_snoc ht hsh ⟨d1, d2⟩⟩
      · show ((l.length : Int) - A.iAdd i 1).toNat < ((l.length : Int) - i).toNat
        rw [his]; omega
  · rename_i hc
    have hi : l.length ≤ i := ltF' hA rfl (lenI hA hll) hc
    rw [List.take_of_length_le (by omega)] at hLL hsh
    conv => cbv
    rw [← hq, if_pos (hK.2 ⟨by omega, hsh⟩), hLL]
end Go.Abs
