/-
  References: has, indices, divides, the check of configurations.
-/
import Derived.Test.YtbljnbpddboohaaGreatR5
set_option linter.unusedVariables false
set_option linter.unusedSimpArgs false
namespace Go.Abs
open Go.RowKit Go.Proofs

theorem ref10_has {xs : List PV} (l : List Int) (hx : xs = encInts l) (n : Int) : CallsPV Tryz.prog 117 [.list 1 xs, .int .i64 n] (.bool (decide (n ∈ l))) := by
  refine callsPV_by (clo := fun _ => false) (rows := false) env_ok Tryz.func117 rfl (enters_of Tryz.func117 (by kernel_rfl) rfl) (fun A q P Y hr hA hq => ?_)
  have hll : xs.length = l.length := by rw [hx]; simp [encInts]
  have hlen : l.length ≤ 9223372036854775807 := by have := (hr.mem (p := .list 1 xs) (by simp)).len; omega
  conv => cbv
  refine loop_set hA (fun (i : Int) s => s.put (some 5) (.val (.int .i64 i))) (fun i => 0 ≤ i ∧ i ≤ (l.length : Int) ∧ (fun i => ∀ x ∈ l.take i.toNat, x ≠ n) i) (fun i => ((l.length : Int) - i).toNat) 0 ?_ ?_ ?_
  · conv => cbv
    exact wk_sl (by repeat (first | refine leL_same ?_ | refine leL_any ?_ | exact leL_nil))
  · exact ⟨Int.le_refl _, by omega, by simp⟩
  · rintro R i ⟨hi0, hi1, hi2⟩ hRi
    conv => cbv
    split
    · rename_i hc
      have hi : i < (l.length : Int) := ltT' hA rfl (lenI hA hll) hc
      have his : A.iAdd i 1 = i + 1 := addI hA _ _
      have hir : A.inR (A.iAdd i 1) := inR' hA his (by unfold inI64; omega)
      have him : ((l.length : Int) - A.iAdd i 1).toNat < ((l.length : Int) - i).toNat := by rw [his]; omega
      have hin : (fun i => ∀ x ∈ l.take i.toNat, x ≠ n) (i + 1) → 0 ≤ A.iAdd i 1 ∧ A.iAdd i 1 ≤ (l.length : Int) ∧ (fun i => ∀ x ∈ l.take i.toNat, x ≠ n) (A.iAdd i 1) := fun h => by rw [his]; exact ⟨by omega, by omega, h⟩
      simp only at hin
      conv => cbv
      refine idx_Int hA hx hi0 hi (fun x hx0 => ?_)
      have ht := take_snoc' hi0 hx0
      conv => cbv
      split
      · rename_i hc
        conv => cbv
        rw [← hq, show decide (n ∈ l) = true from decide_eq_true (by rw [← eqT hA hc]; exact List.mem_of_getElem? hx0)]
      rename_i c1
      conv => cbv
      exact ⟨hir, hRi (A.iAdd i 1) _ (by (conv => cbv); exact wk_sl (by repeat (first | refine leL_same ?_ | refine leL_any ?_ | exact leL_nil))) (hin (mem_snoc ht hi2 (eqF hA c1))) him⟩
    · rename_i hc
      have hi : i = (l.length : Int) := by have := ltF' hA rfl (lenI hA hll) hc; omega
      conv => cbv
      rw [← hq, show decide (n ∈ l) = false from decide_eq_false (fun h => take_all hi hi2 n h rfl)]

theorem idxB_iff (n : Int) (l : List Int) : idxB n l = true ↔ (∀ x ∈ l, 0 ≤ x ∧ x < n) ∧ l.Nodup := by
  simp only [idxB, Bool.and_eq_true, List.all_eq_true, decide_eq_true_eq]

theorem ref10_indices {xs : List PV} (l : List Int) (hx : xs = encInts l) (n : Int) : CallsPV Tryz.prog 90 [.list 1 xs, .int .i64 n] (.bool (idxB n l)) := by
  refine callsPV_by (clo := fun _ => false) (rows := false) env_ok Tryz.func90 rfl (enters_of Tryz.func90 (by kernel_rfl) rfl) (fun A q P Y hr hA hq => ?_)
  have hll : xs.length = l.length := by rw [hx]; simp [encInts]
  have hlen : l.length ≤ 9223372036854775807 := by have := (hr.mem (p := .list 1 xs) (by simp)).len; omega
  have hbad : ¬ idxB n l = true → PV.bool false = q := fun h => by rw [← hq, Bool.eq_false_iff.2 h]
  conv => cbv
  refine loop_set hA (fun (i : Int) s => s.put (some 5) (.val (.int .i64 i))) (fun i => 0 ≤ i ∧ i ≤ (l.length : Int) ∧ (fun i => (∀ x ∈ l.take i.toNat, 0 ≤ x ∧ x < n) ∧ (l.take i.toNat).Nodup) i) (fun i => ((l.length : Int) - i).toNat) 0 ?_ ?_ ?_
  · conv => cbv
    exact wk_sl (by repeat (first | refine leL_same ?_ | refine leL_any ?_ | exact leL_nil))
  · exact ⟨Int.le_refl _, by omega, by simp⟩
  · rintro R i ⟨hi0, hi1, hi2⟩ hRi
    conv => cbv
    split
    · rename_i hc
      have hi : i < (l.length : Int) := ltT' hA rfl (lenI hA hll) hc
      have his : A.iAdd i 1 = i + 1 := addI hA _ _
      have hir : A.inR (A.iAdd i 1) := inR' hA his (by unfold inI64; omega)
      have him : ((l.length : Int) - A.iAdd i 1).toNat < ((l.length : Int) - i).toNat := by rw [his]; omega
      have hin : (fun i => (∀ x ∈ l.take i.toNat, 0 ≤ x ∧ x < n) ∧ (l.take i.toNat).Nodup) (i + 1) → 0 ≤ A.iAdd i 1 ∧ A.iAdd i 1 ≤ (l.length : Int) ∧ (fun i => (∀ x ∈ l.take i.toNat, 0 ≤ x ∧ x < n) ∧ (l.take i.toNat).Nodup) (A.iAdd i 1) := fun h => by rw [his]; exact ⟨by omega, by omega, h⟩
      simp only at hin
      conv => cbv
      refine ⟨draw_intro hA (by kernel_rfl), ?_⟩
      refine idx_Int hA hx hi0 hi (fun x hx0 => ?_)
      have ht := take_snoc' hi0 hx0
      have hm := List.mem_of_getElem? hx0
      have hsub : A.lSub xs 0 i = encInts (l.take i.toNat) := by subst hA; show (xs.take i.toNat).drop (0 : Int).toNat = _; rw [hx]; simp [encInts, List.map_take]
      have hhas := ref10_has (xs := A.lSub xs 0 i) (l.take i.toNat) hsub x
      conv => cbv
      split
      · rename_i hc
        conv => cbv
        exact hbad (fun h => by have := ((idxB_iff n l).1 h).1 x hm; have := ltT hA hc; omega)
      rename_i c1
      conv => cbv
      refine idx_Int hA hx hi0 hi (fun z hz => ?_)
      obtain rfl := Option.some.inj ((hx0).symm.trans hz)
      conv => cbv
      split
      · rename_i hc
        conv => cbv
        exact hbad (fun h => by have := ((idxB_iff n l).1 h).1 x hm; have := leT hA hc; omega)
      rename_i c2
      conv => cbv
      refine ⟨by subst hA; show (0 : Int) ≤ 0 ∧ 0 ≤ i ∧ i ≤ (xs.length : Int); omega, ?_⟩
      refine idx_Int hA hx hi0 hi (fun z hz => ?_)
      obtain rfl := Option.some.inj ((hx0).symm.trans hz)
      conv => cbv
      refine callB hA hhas rfl (fun b hb => ?_)
      conv => cbv
      cases b with
      | true =>
        conv => cbv
        exact hbad (fun h => by
          have hn := ((idxB_iff n l).1 h).2
          have e : l = l.take (i + 1).toNat ++ l.drop (i + 1).toNat := (List.take_append_drop _ _).symm
          rw [e, ht, List.append_assoc, List.nodup_append] at hn
          exact hn.2.2 x (of_decide_eq_true hb.symm) x (by simp) rfl)
      | false =>
        conv => cbv
        exact ⟨hir, hRi (A.iAdd i 1) _ (by (conv => cbv); exact wk_sl (by repeat (first | refine leL_same ?_ | refine leL_any ?_ | exact leL_nil))) (hin (by rw [ht]; refine ⟨mem_snoc rfl hi2.1 ⟨ltF hA c1, leF hA c2⟩, ?_⟩; rw [List.nodup_append]; refine ⟨hi2.2, by simp, ?_⟩; intro a ha b hb' e; rw [List.mem_singleton] at hb'; subst hb' e; exact of_decide_eq_false hb.symm ha)) him⟩
    · rename_i hc
      have hi : i = (l.length : Int) := by have := ltF' hA rfl (lenI hA hll) hc; omega
      conv => cbv
      rw [← hq, (idxB_iff n l).2]
      rw [List.take_of_length_le (by omega)] at hi2
      exact hi2

theorem cntSec_snoc (S : List Sector) (a : List Int) (x v : Int) : cntSec S (a ++ [x]) v = cntSec S a v + if inSec S v x then 1 else 0 := by
  unfold cntSec
  rw [List.filter_append, List.length_append, List.filter_cons, List.filter_nil]
  split <;> simp_all
theorem cntSec_le (S : List Sector) (a : List Int) (v : Int) : cntSec S a v ≤ a.length := List.length_filter_le _ _

theorem encConfig_eq (c : Config) {ns xs : List PV} (h1 : ns = encStrs c.Names) (h2 : xs = encInts c.Sectors) : encConfig c = .agg [.str c.Name, .list 1 ns, .list 1 xs] := by rw [h1, h2]; rfl

set_option maxHeartbeats 1000000 in
theorem ref10_divides {vs ss cs : List PV} (mv n : Nat) (hv : vs.length = n) (S : List Sector) (hS : ss = encSectors S) (c : Config) (hsl : S.length ≤ 64) (hn : n ≤ 64) :
    CallsPV Tryz.prog 91 [encAir mv vs ss cs, encConfig c] (.bool (divB n S c)) := by
  refine callsPV_by (clo := fun _ => false) (rows := false) env_ok Tryz.func91 rfl (enters_of Tryz.func91 (by kernel_rfl) rfl) (fun A q P Y hr hA hq => ?_)
  obtain ⟨ns, hns⟩ : ∃ ns, ns = encStrs c.Names := ⟨_, rfl⟩
  obtain ⟨xs, hxs⟩ : ∃ xs, xs = encInts c.Sectors := ⟨_, rfl⟩
  have hxl : xs.length = c.Sectors.length := by rw [hxs]; simp [encInts]
  have hssl : ss.length = S.length := by rw [hS]; simp [encSectors]
  have hlen : c.Sectors.length ≤ 9223372036854775807 := by
    have := (Real.cell (cs := [.str c.Name, .list 1 ns, .list 1 xs]) (by rw [← encConfig_eq c hns hxs]; exact Real.mem hr (by simp)) (c := .list 1 xs) (by simp)).len
    omega
  have hcall := ref10_indices c.Sectors hxs (A.lLen ss)
  rw [lenI hA hssl] at hcall
  have hD : divB n S c = (idxB S.length c.Sectors && (List.range n).all fun v => decide (cntSec S c.Sectors (v : Int) = 1)) := rfl
  have hbad : ∀ v : Nat, v < n → cntSec S c.Sectors (v : Int) ≠ 1 → PV.bool false = q := fun v hv h => by
    rw [← hq, hD, show ((List.range n).all fun v => decide (cntSec S c.Sectors (v : Int) = 1)) = false by rw [List.all_eq_false]; exact ⟨v, List.mem_range.2 hv, by simp [h]⟩]; simp
  rw [encConfig_eq c hns hxs]
  obtain ⟨c1, c2, C⟩ := c
  simp only at hns hxs hxl hlen hcall hD hbad ⊢
  conv => cbv
  refine callB hA hcall (by subst hA; show [_, PV.int _ ((ss.length : Nat) : Int)] = _; rw [hssl]) (fun b hb => ?_)
  rw [← hb] at hD
  have hix := (idxB_iff S.length C).1
  rw [← hb] at hix
  conv => cbv
  cases b with
  | false =>
    split
    rotate_left
    · rename_i hc
      cases (nF hA hc)
    conv => cbv
    rw [← hq, hD]; rfl
  | true =>
  split
  · rename_i hc
    cases (nT hA hc)
  conv => cbv
  obtain ⟨hix, _⟩ := hix rfl
  refine loop_set hA (fun (i : Int) s => s.put (some 5) (.val (.int .i64 i))) (fun i => 0 ≤ i ∧ i ≤ (n : Int) ∧ (fun i => ∀ v : Nat, v < i.toNat → cntSec S C (v : Int) = 1) i) (fun i => ((n : Int) - i).toNat) 0 ?_ ?_ ?_
  · conv => cbv
    exact wk_sl (by repeat (first | refine leL_same ?_ | refine leL_any ?_ | exact leL_nil))
  · exact ⟨Int.le_refl _, by omega, (by intro v hv; simp at hv)⟩
  · rintro R i ⟨hi0, hi1, hi2⟩ hRi
    conv => cbv
    split
    · rename_i hc
      have hi : i < (n : Int) := ltT' hA rfl (lenI hA hv) hc
      have his : A.iAdd i 1 = i + 1 := addI hA _ _
      have hir : A.inR (A.iAdd i 1) := inR' hA his (by unfold inI64; omega)
      have him : ((n : Int) - A.iAdd i 1).toNat < ((n : Int) - i).toNat := by rw [his]; omega
      have hin : (fun i => ∀ v : Nat, v < i.toNat → cntSec S C (v : Int) = 1) (i + 1) → 0 ≤ A.iAdd i 1 ∧ A.iAdd i 1 ≤ (n : Int) ∧ (fun i => ∀ v : Nat, v < i.toNat → cntSec S C (v : Int) = 1) (A.iAdd i 1) := fun h => by rw [his]; exact ⟨by omega, by omega, h⟩
      simp only at hin
      conv => cbv
      refine loop_set hA (fun (z : Int × Int) s => (s.put (some 7) (.val (.int .i64 z.1))).put (some 6) (.val (.int .i64 z.2))) (fun z => 0 ≤ z.1 ∧ z.1 ≤ C.length ∧ z.2 = cntSec S (C.take z.1.toNat) i) (fun z => (C.length - z.1).toNat) (0, 0) ?_ ?_ ?_
      · conv => cbv
        exact wk_sl (by repeat (first | refine leL_same ?_ | refine leL_any ?_ | exact leL_nil))
      · exact ⟨Int.le_refl _, by omega, by simp [cntSec]⟩
      rintro R2 ⟨k, m⟩ ⟨hk0, hk1, hk2⟩ hR2
      simp only at hk0 hk1 hk2
      conv => cbv
      split
      · rename_i hc
        have hk : k < C.length := ltT' hA rfl (lenI hA hxl) hc
        have hks : A.iAdd k 1 = k + 1 := addI hA _ _
        have hkr : A.inR (A.iAdd k 1) := inR' hA hks (by unfold inI64; omega)
        have hkm : (C.length - A.iAdd k 1).toNat < (C.length - k).toNat := by rw [hks]; omega
        conv => cbv
        refine ⟨draw_intro hA (by kernel_rfl), ?_⟩
        refine idx_Int hA hxs hk0 hk (fun s hs0 => ?_)
        have ht := take_snoc' hk0 hs0
        have hsr := hix s (List.mem_of_getElem? hs0)
        have hcs := cntSec_snoc S (C.take k.toNat) s i
        have hcl := cntSec_le S (C.take k.toNat) i
        have htl : ((C.take k.toNat).length : Int) ≤ k := by rw [List.length_take]; omega
        conv => cbv
        refine idx_Sector hA hS hsr.1 hsr.2 (fun x u1 u2 hx0 hu1 hu2 => ?_)
        conv => cbv
        refine callB hA (ref10_has x.Volumes hu2 i) rfl (fun b hb => ?_)
        have hin : inSec S i s = b := by unfold inSec; rw [hx0, hb]
        rw [hin] at hcs
        conv => cbv
        cases b with
        | true =>
          have hms : A.iAdd m 1 = m + 1 := addI hA _ _
          conv => cbv
          refine ⟨inR' hA hms (by unfold inI64; omega), hkr, hR2 (A.iAdd k 1, A.iAdd m 1) _ ?_ ?_ hkm⟩
          · conv => cbv
            exact wk_sl (by repeat (first | refine leL_same ?_ | refine leL_any ?_ | exact leL_nil))
          · show 0 ≤ A.iAdd k 1 ∧ A.iAdd k 1 ≤ C.length ∧ A.iAdd m 1 = _
            rw [hks, hms, ht, hcs]; simp; omega
        | false =>
          conv => cbv
          refine ⟨hkr, hR2 (A.iAdd k 1, m) _ ?_ ?_ hkm⟩
          · conv => cbv
            exact wk_sl (by repeat (first | refine leL_same ?_ | refine leL_any ?_ | exact leL_nil))
          · show 0 ≤ A.iAdd k 1 ∧ A.iAdd k 1 ≤ C.length ∧ m = _
            rw [hks, ht, hcs]; simp; omega
      · rename_i hc
        have hk : C.length ≤ k := ltF' hA rfl (lenI hA hxl) hc
        rw [List.take_of_length_le (by omega)] at hk2
        conv => cbv
        have hiN : ((i.toNat : Nat) : Int) = i := by omega
        split
        · rename_i hc2
          have := neT hA hc2
          conv => cbv
          exact hbad i.toNat (by omega) (fun e => this (by rw [hk2, ← hiN, e]; rfl))
        · rename_i hc2
          have h1 := neF hA hc2
          conv => cbv
          exact ⟨hir, hRi (A.iAdd i 1) _ (by (conv => cbv); exact wk_sl (by repeat (first | refine leL_same ?_ | refine leL_any ?_ | exact leL_nil))) (hin (by intro v hv'; by_cases e : v < i.toNat; exact hi2 v e; rw [show (v : Int) = i by omega]; omega)) him⟩
    · rename_i hc
      have hi : i = (n : Int) := by have := ltF' hA rfl (lenI hA hv) hc; omega
      conv => cbv
      rw [← hq, hD, show ((List.range n).all fun v => decide (cntSec S C (v : Int) = 1)) = true by rw [List.all_eq_true]; intro v hv'; rw [List.mem_range] at hv'; exact decide_eq_true (hi2 v (by omega))]
      rfl
end Go.Abs
