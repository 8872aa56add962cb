/-
  References: the checks of configurations and of tables.
  References: the check of tables.
-/
import Derived.Test.YtcafjndjnfdnpaaGreatR4
set_option linter.unusedVariables false
set_option linter.unusedSimpArgs false
namespace Go.Abs
open Go.RowKit Go.Proofs

theorem divOk_iff (n : Nat) (S : List Sector) (C : List Config) : divOk n S C = true ↔ 1 ≤ n ∧ n ≤ 64 ∧ S.length ≤ 64 ∧ 1 ≤ C.length ∧ C.length ≤ 32 ∧ (∀ s ∈ S, s.Volumes.length ≠ 0 ∧ idxB n s.Volumes = true) ∧ ∀ c ∈ C, divB n S c = true := by
  unfold divOk
  simp only [Bool.and_eq_true, decide_eq_true_eq, and_assoc]
  constructor
  · rintro ⟨h1, h2, h3, h4, h5, h6, h7⟩
    refine ⟨h1, h2, h3, h4, h5, fun s hs => ?_, fun c hc => ?_⟩
    · have := List.all_eq_true.1 h6 s hs
      rw [sectorIx_eq] at this
      simpa using this
    · rw [← configOk_eq h6]; exact List.all_eq_true.1 h7 c hc
  · rintro ⟨h1, h2, h3, h4, h5, h6, h7⟩
    have h6' : S.all (sectorIx n) = true := by
      rw [List.all_eq_true]
      intro s hs
      rw [sectorIx_eq]
      have := h6 s hs
      simp [this]
    refine ⟨h1, h2, h3, h4, h5, h6', ?_⟩
    rw [List.all_eq_true]
    intro c hc
    rw [configOk_eq h6']; exact h7 c hc

set_option maxHeartbeats 1000000 in
theorem ref10_Check {vs ss cs : List PV} (mv n : Nat) (hv : vs.length = n) (S : List Sector) (hS : ss = encSectors S) (C : List Config) (hC : cs = encConfigs C) :
    CallsPV Tryz.prog 201 [encAir mv vs ss cs] (.int .i64 (if divOk n S C then 0 else 100)) := by
  refine callsPV_by (clo := fun _ => false) (rows := false) env_ok Tryz.func201 rfl (enters_of Tryz.func201 (by kernel_rfl) rfl) (fun A q P Y hr hA hq => ?_)
  have hssl : ss.length = S.length := by rw [hS]; simp [encSectors]
  have hcsl : cs.length = C.length := by rw [hC]; simp [encConfigs]
  have hK := (divOk_iff n S C).1
  have hK2 := (divOk_iff n S C).2
  have hbad : ¬ divOk n S C = true → PV.int .i64 100 = q := fun h => by rw [← hq, if_neg h]
  generalize divOk n S C = kb at hbad hK hK2 hq
  have hlv : A.lLen vs = n := lenI hA hv
  conv => cbv
  split
  · rename_i hc
    conv => cbv
    exact hbad (fun h => by have := hK h; have := ltT' hA (lenI hA hv) rfl hc; omega)
  rename_i c1; replace c1 := ltF' hA (lenI hA hv) rfl c1
  conv => cbv
  split
  · rename_i hc
    conv => cbv
    exact hbad (fun h => by have := hK h; have := ltT' hA rfl (lenI hA hv) hc; omega)
  rename_i c2; replace c2 := ltF' hA rfl (lenI hA hv) c2
  conv => cbv
  split
  · rename_i hc
    conv => cbv
    exact hbad (fun h => by have := hK h; have := ltT' hA rfl (lenI hA hssl) hc; omega)
  rename_i c3; replace c3 := ltF' hA rfl (lenI hA hssl) c3
  conv => cbv
  split
  · rename_i hc
    conv => cbv
    exact hbad (fun h => by have := hK h; have := ltT' hA (lenI hA hcsl) rfl hc; omega)
  rename_i c4; replace c4 := ltF' hA (lenI hA hcsl) rfl c4
  conv => cbv
  split
  · rename_i hc
    conv => cbv
    exact hbad (fun h => by have := hK h; have := ltT' hA rfl (lenI hA hcsl) hc; omega)
  rename_i c5; replace c5 := ltF' hA rfl (lenI hA hcsl) c5
  conv => cbv
  refine loop_set hA (fun (i : Int) s => s.put (some 3) (.val (.int .i64 i))) (fun i => 0 ≤ i ∧ i ≤ (S.length : Int) ∧ (fun i => ∀ s ∈ S.take i.toNat, s.Volumes.length ≠ 0 ∧ idxB n s.Volumes = true) i) (fun i => ((S.length : Int) - i).toNat) 0 ?_ ?_ ?_
  · conv => cbv
    exact wk_sl (by repeat (first | refine leL_same ?_ | refine leL_any ?_ | exact leL_nil))
  · exact ⟨Int.le_refl _, by omega, by simp⟩
  · rintro R i ⟨hi0, hi1, hi2⟩ hRi
    conv => cbv
    split
    · rename_i hc
      have hi : i < (S.length : Int) := ltT' hA rfl (lenI hA hssl) hc
      have his : A.iAdd i 1 = i + 1 := addI hA _ _
      have hir : A.inR (A.iAdd i 1) := inR' hA his (by unfold inI64; omega)
      have him : ((S.length : Int) - A.iAdd i 1).toNat < ((S.length : Int) - i).toNat := by rw [his]; omega
      have hin : (fun i => ∀ s ∈ S.take i.toNat, s.Volumes.length ≠ 0 ∧ idxB n s.Volumes = true) (i + 1) → 0 ≤ A.iAdd i 1 ∧ A.iAdd i 1 ≤ (S.length : Int) ∧ (fun i => ∀ s ∈ S.take i.toNat, s.Volumes.length ≠ 0 ∧ idxB n s.Volumes = true) (A.iAdd i 1) := fun h => by rw [his]; exact ⟨by omega, by omega, h⟩
      simp only at hin
      conv => cbv
      refine ⟨draw_intro hA (by kernel_rfl), ?_⟩
      refine idx_Sector hA hS hi0 hi (fun x u1 u2 hx0 hu1 hu2 => ?_)
      have hm := List.mem_of_getElem? hx0
      have ht := take_snoc' hi0 hx0
      have hul : u2.length = x.Volumes.length := by rw [hu2]; simp [encInts]
      obtain ⟨x1, x2, x3, x4, x5⟩ := x
      simp only at hu1 hu2 hul
      conv => cbv
      split
      · rename_i hc
        conv => cbv
        exact hbad (fun h => by have h1 := ((hK h).2.2.2.2.2.1 _ hm).1; have := eqT' hA (lenI hA hul) rfl hc; simp only at h1; omega)
      rename_i d1; replace d1 := eqF' hA (lenI hA hul) rfl d1
      conv => cbv
      refine idx_Sector hA hS hi0 hi (fun z w1 w2 hz hw1 hw2 => ?_)
      obtain rfl := Option.some.inj ((hx0).symm.trans hz)
      conv => cbv
      refine callB hA (ref10_indices x3 (xs := w2) hw2 (A.lLen vs)) rfl (fun b hb => ?_)
      rw [hlv] at hb
      conv => cbv
      cases b with
      | false =>
        split
        rotate_left
        · rename_i hc
          cases (nF hA hc)
        conv => cbv
        exact hbad (fun h => by have h1 := ((hK h).2.2.2.2.2.1 _ hm).2; simp only at h1; rw [h1] at hb; cases hb)
      | true =>
        split
        · rename_i hc
          cases (nT hA hc)
        conv => cbv
        exact ⟨hir, hRi (A.iAdd i 1) _ (by (conv => cbv); exact wk_sl (by repeat (first | refine leL_same ?_ | refine leL_any ?_ | exact leL_nil))) (hin (mem_snoc ht hi2 ⟨by simp only; omega, hb.symm⟩)) him⟩
    · rename_i hc
      have hi : i = (S.length : Int) := by have := ltF' hA rfl (lenI hA hssl) hc; omega
      conv => cbv
      have hS2 := take_all hi hi2
      refine loop_set hA (fun (i : Int) s => s.put (some 4) (.val (.int .i64 i))) (fun i => 0 ≤ i ∧ i ≤ (C.length : Int) ∧ (fun i => ∀ s ∈ C.take i.toNat, divB n S s = true) i) (fun i => ((C.length : Int) - i).toNat) 0 ?_ ?_ ?_
      · conv => cbv
        exact wk_sl (by repeat (first | refine leL_same ?_ | refine leL_any ?_ | exact leL_nil))
      · exact ⟨Int.le_refl _, by omega, by simp⟩
      · rintro R j ⟨hj0, hj1, hj2⟩ hRj
        conv => cbv
        split
        · rename_i hc
          have hj : j < (C.length : Int) := ltT' hA rfl (lenI hA hcsl) hc
          have hjs : A.iAdd j 1 = j + 1 := addI hA _ _
          have hjr : A.inR (A.iAdd j 1) := inR' hA hjs (by unfold inI64; omega)
          have hjm : ((C.length : Int) - A.iAdd j 1).toNat < ((C.length : Int) - j).toNat := by rw [hjs]; omega
          have hjn : (fun i => ∀ s ∈ C.take i.toNat, divB n S s = true) (j + 1) → 0 ≤ A.iAdd j 1 ∧ A.iAdd j 1 ≤ (C.length : Int) ∧ (fun i => ∀ s ∈ C.take i.toNat, divB n S s = true) (A.iAdd j 1) := fun h => by rw [hjs]; exact ⟨by omega, by omega, h⟩
          simp only at hjn
          conv => cbv
          refine ⟨draw_intro hA (by kernel_rfl), ?_⟩
          refine idx_Config hA hC hj0 hj (fun x u1 u2 hx0 hu1 hu2 => ?_)
          have hm := List.mem_of_getElem? hx0
          have ht := take_snoc' hj0 hx0
          have hcall := ref10_divides (cs := cs) mv n hv S hS x (by omega) (by omega)
          rw [encConfig_eq x hu1 hu2] at hcall
          conv => cbv
          refine callB hA hcall rfl (fun b hb => ?_)
          conv => cbv
          cases b with
          | false =>
            split
            rotate_left
            · rename_i hc
              cases (nF hA hc)
            conv => cbv
            exact hbad (fun h => by have h1 := (hK h).2.2.2.2.2.2 _ hm; rw [h1] at hb; cases hb)
          | true =>
            split
            · rename_i hc
              cases (nT hA hc)
            conv => cbv
            exact ⟨hjr, hRj (A.iAdd j 1) _ (by (conv => cbv); exact wk_sl (by repeat (first | refine leL_same ?_ | refine leL_any ?_ | exact leL_nil))) (hjn (mem_snoc ht hj2 hb.symm)) hjm⟩
        · rename_i hc
          have hj : j = (C.length : Int) := by have := ltF' hA rfl (lenI hA hcsl) hc; omega
          conv => cbv
          rw [← hq, if_pos (hK2 ⟨by omega, by omega, by omega, by omega, by omega, hS2, take_all hj hj2⟩)]

theorem ref14_in (n lo hi : Int) : CallsPV Tryz.prog 202 [.int .i64 n, .int .i64 lo, .int .i64 hi] (.bool (inB n lo hi)) := by
  refine callsPV_by (clo := fun _ => false) (rows := false) env_ok Tryz.func202 rfl (enters_of Tryz.func202 (by kernel_rfl) rfl) (fun A q P Y hr hA hq => ?_)
  conv => cbv
  split <;> (rename_i h; conv => cbv) <;> (subst hA; subst hq; simp_all [stdOps, inB]; try omega)

theorem ref14_isMode {xs : List PV} (l : List Int) (hx : xs = encInts l) : CallsPV Tryz.prog 203 [.list 1 xs] (.bool (modeOk l)) := by
  refine callsPV_by (clo := fun _ => false) (rows := false) env_ok Tryz.func203 rfl (enters_of Tryz.func203 (by kernel_rfl) rfl) (fun A q P Y hr hA hq => ?_)
  have hll : xs.length = l.length := by rw [hx]; simp [encInts]
  have hlen : l.length ≤ 9223372036854775807 := by have := (hr.mem (p := .list 1 xs) (by simp)).len; omega
  have hM : modeOk l = (inB l.length 1 16 && l.all fun n => inB n 0 64) := rfl
  conv => cbv
  refine loop_set hA (fun (i : Int) s => s.put (some 3) (.val (.int .i64 i))) (fun i => 0 ≤ i ∧ i ≤ (l.length : Int) ∧ (fun i => ∀ x ∈ l.take i.toNat, inB x 0 64 = true) i) (fun i => ((l.length : Int) - i).toNat) 0 ?_ ?_ ?_
  · conv => cbv
    exact wk_sl (by repeat (first | refine leL_same ?_ | refine leL_any ?_ | exact leL_nil))
  · exact ⟨Int.le_refl _, by omega, by simp⟩
  · rintro R i ⟨hi0, hi1, hi2⟩ hRi
    conv => cbv
    split
    · rename_i hc
      have hi : i < (l.length : Int) := ltT' hA rfl (lenI hA hll) hc
      have his : A.iAdd i 1 = i + 1 := addI hA _ _
      have hir : A.inR (A.iAdd i 1) := inR' hA his (by unfold inI64; omega)
      have him : ((l.length : Int) - A.iAdd i 1).toNat < ((l.length : Int) - i).toNat := by rw [his]; omega
      have hin : (fun i => ∀ x ∈ l.take i.toNat, inB x 0 64 = true) (i + 1) → 0 ≤ A.iAdd i 1 ∧ A.iAdd i 1 ≤ (l.length : Int) ∧ (fun i => ∀ x ∈ l.take i.toNat, inB x 0 64 = true) (A.iAdd i 1) := fun h => by rw [his]; exact ⟨by omega, by omega, h⟩
      simp only at hin
      conv => cbv
      refine idx_Int hA hx hi0 hi (fun x hx0 => ?_)
      have ht := take_snoc' hi0 hx0
      conv => cbv
      refine callB hA (ref14_in x 0 64) rfl (fun b hb => ?_)
      conv => cbv
      cases b with
      | false =>
        split
        rotate_left
        · rename_i hc
          cases (nF hA hc)
        conv => cbv
        rw [← hq, hM, show (l.all fun n => inB n 0 64) = false by rw [List.all_eq_false]; exact ⟨x, List.mem_of_getElem? hx0, by rw [← hb]; simp⟩, Bool.and_false]
      | true =>
        split
        · rename_i hc
          cases (nT hA hc)
        conv => cbv
        exact ⟨hir, hRi (A.iAdd i 1) _ (by (conv => cbv); exact wk_sl (by repeat (first | refine leL_same ?_ | refine leL_any ?_ | exact leL_nil))) (hin (mem_snoc ht hi2 hb.symm)) him⟩
    · rename_i hc
      have hi : i = (l.length : Int) := by have := ltF' hA rfl (lenI hA hll) hc; omega
      conv => cbv
      refine callB hA (ref14_in (A.lLen xs) 1 16) rfl (fun b hb => ?_)
      rw [lenI hA hll] at hb
      conv => cbv
      rw [← hq, hM, all_t (take_all hi hi2), Bool.and_true, hb]

theorem encLeg_eq (x : Leg) {ms : List PV} (h1 : ms = encSpans x.Minutes) : encLeg x = .agg [.int .i64 x.Segment, .int .i64 x.Volume, .int .i64 x.Length, .list 2 ms] := by rw [h1]; rfl
theorem encWay_eq (x : Way) {ls : List PV} (h1 : ls = encLegs x.Legs) : encWay x = .agg [.int .i64 x.From, .int .i64 x.To, .list 4 ls] := by rw [h1]; rfl
theorem encKind_eq (x : Kind) {ls : List PV} (h1 : ls = encSpanLs x.Curfews) : encKind x = .agg [.int .i64 x.Slow, .int .i64 x.Fast, .int .i64 x.Places, .int .i64 x.Weight, .int .i64 x.Longest, .list 1 ls] := by rw [h1]; rfl

theorem legOk_iff (nv : Int) (x : Leg) : legOk nv x = true ↔ inB x.Segment 0 127 = true ∧ inB x.Volume 0 (nv - 1) = true ∧ inB x.Length 1 4096 = true ∧ x.Minutes.length ≠ 0 ∧ hoursOk x.Minutes = true := by
  unfold legOk
  simp only [Bool.and_eq_true, decide_eq_true_eq, and_assoc, Nat.pos_iff_ne_zero]
theorem wayOk_iff (nv nm : Int) (w : Way) : wayOk nv nm w = true ↔ inB w.From 0 (nm - 1) = true ∧ inB w.To 0 (nm - 1) = true ∧ inB w.Legs.length 1 8 = true ∧ ∀ x ∈ w.Legs, legOk nv x = true := by
  unfold wayOk
  simp only [Bool.and_eq_true, and_assoc, List.all_eq_true]

set_option maxHeartbeats 2000000 in
theorem ref14_isWay (nv : Int) (hnv : inI64 (nv - 1)) (ss cs ws ms ks : List PV) (hms : ms.length ≤ 1000) (w : Way) :
    CallsPV Tryz.prog 204 [.agg [.int .i64 nv, .list 5 ss, .list 3 cs, .list 3 ws, .list 1 ms, .list 6 ks], encWay w] (.bool (wayOk nv ms.length w)) := by
  refine callsPV_by (clo := fun _ => false) (rows := false) env_ok Tryz.func204 rfl (enters_of Tryz.func204 (by kernel_rfl) rfl) (fun A q P Y hr hA hq => ?_)
  obtain ⟨ls, hls⟩ : ∃ ls, ls = encLegs w.Legs := ⟨_, rfl⟩
  have hll : ls.length = w.Legs.length := by rw [hls]; simp [encLegs]
  have hlen : w.Legs.length ≤ 9223372036854775807 := by
    have := (Real.cell (cs := [.int .i64 w.From, .int .i64 w.To, .list 4 ls]) (by rw [← encWay_eq w hls]; exact Real.mem hr (by simp)) (c := .list 4 ls) (by simp)).len
    omega
  have hK := (wayOk_iff nv ms.length w).1
  have hK2 := (wayOk_iff nv ms.length w).2
  have hbad : ¬ wayOk nv ms.length w = true → PV.bool false = q := fun h => by rw [← hq, Bool.eq_false_iff.2 h]
  generalize wayOk nv ms.length w = kb at hbad hK hK2 hq
  have hsm : A.iSub (A.lLen ms) 1 = (ms.length : Int) - 1 := by rw [subI hA, lenI hA rfl]
  have hsr : A.inR (A.iSub (A.lLen ms) 1) := inR' hA hsm (by unfold inI64; omega)
  have hsv : A.iSub nv 1 = nv - 1 := subI hA _ _
  rw [encWay_eq w hls]
  obtain ⟨w1, w2, L⟩ := w
  simp only at hls hll hlen hK hK2 ⊢
  conv => cbv
  refine ⟨hsr, ?_⟩
  refine callB hA (ref14_in w1 0 (A.iSub (A.lLen ms) 1)) rfl (fun b hb => ?_)
  rw [hsm] at hb
  conv => cbv
  cases b with
  | false =>
    split
    rotate_left
    · rename_i hc
      cases (nF hA hc)
    conv => cbv
    exact hbad (fun h => by have := (hK h).1; rw [this] at hb; cases hb)
  | true =>
  split
  · rename_i hc
    cases (nT hA hc)
  conv => cbv
  refine ⟨hsr, ?_⟩
  refine callB hA (ref14_in w2 0 (A.iSub (A.lLen ms) 1)) rfl (fun b hb2 => ?_)
  rw [hsm] at hb2
  conv => cbv
  cases b with
  | false =>
    split
    rotate_left
    · rename_i hc
      cases (nF hA hc)
    conv => cbv
    exact hbad (fun h => by have := (hK h).2.1; rw [this] at hb2; cases hb2)
  | true =>
  split
  · rename_i hc
    cases (nT hA hc)
  conv => cbv
  refine callB hA (ref14_in (A.lLen ls) 1 8) rfl (fun b hb3 => ?_)
  rw [lenI hA hll] at hb3
  conv => cbv
  cases b with
  | false =>
    split
    rotate_left
    · rename_i hc
      cases (nF hA hc)
    conv => cbv
    exact hbad (fun h => by have := (hK h).2.2.1; rw [this] at hb3; cases hb3)
  | true =>
  split
  · rename_i hc
    cases (nT hA hc)
  conv => cbv
  refine loop_set hA (fun (i : Int) s => s.put (some 5) (.val (.int .i64 i))) (fun i => 0 ≤ i ∧ i ≤ (L.length : Int) ∧ (fun i => ∀ x ∈ L.take i.toNat, legOk nv x = true) i) (fun i => ((L.length : Int) - i).toNat) 0 ?_ ?_ ?_
  · conv => cbv
    exact wk_sl (by repeat (first | refine leL_same ?_ | refine leL_any ?_ | exact leL_nil))
  · exact ⟨Int.le_refl _, by omega, by simp⟩
  · rintro R i ⟨hi0, hi1, hi2⟩ hRi
    conv => cbv
    split
    · rename_i hc
      have hi : i < (L.length : Int) := ltT' hA rfl (lenI hA hll) hc
      have his : A.iAdd i 1 = i + 1 := addI hA _ _
      have hir : A.inR (A.iAdd i 1) := inR' hA his (by unfold inI64; omega)
      have him : ((L.length : Int) - A.iAdd i 1).toNat < ((L.length : Int) - i).toNat := by rw [his]; omega
      have hin : (fun i => ∀ x ∈ L.take i.toNat, legOk nv x = true) (i + 1) → 0 ≤ A.iAdd i 1 ∧ A.iAdd i 1 ≤ (L.length : Int) ∧ (fun i => ∀ x ∈ L.take i.toNat, legOk nv x = true) (A.iAdd i 1) := fun h => by rw [his]; exact ⟨by omega, by omega, h⟩
      simp only at hin
      conv => cbv
      refine idx_Leg hA hls hi0 hi (fun x v hx0 hv => ?_)
      have ht := take_snoc' hi0 hx0
      have hm := List.mem_of_getElem? hx0
      have hvl : v.length = x.Minutes.length := by rw [hv]; simp [encSpans]
      have hQ := (legOk_iff nv x).1
      have hQ2 := (legOk_iff nv x).2
      have hbad2 : ¬ legOk nv x = true → PV.bool false = q := fun h => hbad (fun h' => h ((hK h').2.2.2 x hm))
      have hnx : legOk nv x = true → ∀ y ∈ L.take (i + 1).toNat, legOk nv y = true := fun h => mem_snoc ht hi2 h
      have hcall := ref05_Check x.Minutes hv
      obtain ⟨x1, x2, x3, x4⟩ := x
      simp only at hvl hQ hQ2 hcall
      conv => cbv
      refine callB hA (ref14_in x1 0 127) rfl (fun b e1 => ?_)
      conv => cbv
      cases b with
      | false =>
        split
        rotate_left
        · rename_i hc
          cases (nF hA hc)
        conv => cbv
        exact hbad2 (fun h => by have := (hQ h).1; rw [this] at e1; cases e1)
      | true =>
      split
      · rename_i hc
        cases (nT hA hc)
      conv => cbv
      refine ⟨inR' hA hsv hnv, ?_⟩
      refine callB hA (ref14_in x2 0 (A.iSub nv 1)) rfl (fun b e2 => ?_)
      rw [hsv] at e2
      conv => cbv
      cases b with
      | false =>
        split
        rotate_left
        · rename_i hc
          cases (nF hA hc)
        conv => cbv
        exact hbad2 (fun h => by have := (hQ h).2.1; rw [this] at e2; cases e2)
      | true =>
      split
      · rename_i hc
        cases (nT hA hc)
      conv => cbv
      refine callB hA (ref14_in x3 1 4096) rfl (fun b e3 => ?_)
      conv => cbv
      cases b with
      | false =>
        split
        rotate_left
        · rename_i hc
          cases (nF hA hc)
        conv => cbv
        exact hbad2 (fun h => by have := (hQ h).2.2.1; rw [this] at e3; cases e3)
      | true =>
      split
      · rename_i hc
        cases (nT hA hc)
      conv => cbv
      split
      · rename_i hc
        conv => cbv
        exact hbad2 (fun h => by have := (hQ h).2.2.2.1; have := eqT' hA (lenI hA hvl) rfl hc; omega)
      rename_i e4; replace e4 := eqF' hA (lenI hA hvl) rfl e4
      conv => cbv
      cases e5 : hoursOk x4 with
      | false =>
        rw [e5, if_neg (by simp)] at hcall
        refine call_intro hA (hcall) ?_
        conv => cbv
        split
        rotate_left
        · rename_i hc
          cases ((show False by have := neF hA hc; omega))
        conv => cbv
        exact hbad2 (fun h => by have := (hQ h).2.2.2.2; rw [e5] at this; cases this)
      | true =>
      rw [e5, if_pos rfl] at hcall
      refine call_intro hA (hcall) ?_
      conv => cbv
      split
      · rename_i hc
        cases (neT hA hc rfl)
      conv => cbv
      exact ⟨hir, hRi (A.iAdd i 1) _ (by (conv => cbv); exact wk_round (bx := [_, _]) (bx' := [_]) (mp := []) (mp' := []) (by repeat (first | refine leL_same ?_ | refine leL_any ?_ | exact leL_nil)) (by simp) (by simp) rfl rfl) (hin (hnx (hQ2 ⟨e1.symm, e2.symm, e3.symm, by omega, e5⟩))) him⟩
    · rename_i hc
      have hi : i = (L.length : Int) := by have := ltF' hA rfl (lenI hA hll) hc; omega
      conv => cbv
      rw [← hq, hK2 ⟨hb.symm, hb2.symm, hb3.symm, take_all hi hi2⟩]
end Go.Abs

namespace Go.Abs
open Go.RowKit Go.Proofs

def air0 : PV := .agg [.list 0 [], .list 0 [], .list 0 [], .list 0 [], .list 0 [], .list 0 [], .list 0 [], .list 0 []]

theorem ref14_divided (nv : Int) (ss cs ws ms ks : List PV) : CallsPV Tryz.prog 200 [.agg [.int .i64 nv, .list 5 ss, .list 3 cs, .list 3 ws, .list 1 ms, .list 6 ks]]
    (if inB nv 1 64 then .tup [encAir 2 (List.replicate nv.toNat zeroVolume) ss cs, .bool true] else .tup [air0, .bool false]) := by
  refine callsPV_by (clo := fun _ => false) (rows := false) env_ok Tryz.func200 rfl (enters_of Tryz.func200 (by kernel_rfl) rfl) (fun A q P Y hr hA hq => ?_)
  conv => cbv
  refine callB hA (ref14_in nv 1 64) rfl (fun b hb => ?_)
  rw [← hb] at hq
  conv => cbv
  cases b with
  | false =>
    split
    rotate_left
    · rename_i hc
      cases (nF hA hc)
    conv => cbv
    exact hq
  | true =>
    have hn : 1 ≤ nv ∧ nv ≤ 64 := by simpa [inB] using hb.symm
    split
    · rename_i hc
      cases (nT hA hc)
    conv => cbv
    refine ⟨draw_intro hA (by kernel_rfl), ?_⟩
    refine ⟨by subst hA; show (0 ≤ nv ∧ nv = nv ∧ nv * _ ≤ _ ∧ nv ≤ _); omega, ?_⟩
    rw [← hq]
    subst hA
    rfl

theorem airOk_iff (t : Tables) : airOk t = true ↔ inB t.Volumes 1 64 = true ∧ divOk t.Volumes.toNat t.Sectors t.Configs = true ∧ t.Modes.length ≤ 16 ∧ t.Ways.length ≤ 64 ∧ t.Kinds.length ≤ 8 ∧
    (∀ s ∈ t.Sectors, sectorOk s = true) ∧ (∀ m ∈ t.Modes, modeOk m = true) ∧ (∀ w ∈ t.Ways, wayOk t.Volumes t.Modes.length w = true) ∧ ∀ k ∈ t.Kinds, kindOk k = true ∧ k.Curfews.length = t.Modes.length := by
  unfold airOk
  simp only [Bool.and_eq_true, decide_eq_true_eq, List.all_eq_true, and_assoc]
  constructor
  · rintro ⟨a, b, c, d, e, f, g, h, i⟩; exact ⟨a, b, d, f, h, c, e, g, i⟩
  · rintro ⟨a, b, d, f, h, c, e, g, i⟩; exact ⟨a, b, c, d, e, f, g, h, i⟩

set_option maxHeartbeats 4000000 in
theorem ref14_Check (t : Tables) : CallsPV Tryz.prog 150 [encTables t] (.int .i64 (if airOk t then 0 else 140)) := by
  refine callsPV_by (clo := fun _ => false) (rows := false) env_ok Tryz.func150 rfl (enters_of Tryz.func150 (by kernel_rfl) rfl) (fun A q P Y hr hA hq => ?_)
  have hlw : t.Ways.length ≤ 9223372036854775807 := by
    have := (Real.cell (show Real [.agg _] from hr) (c := .list 3 (encWays t.Ways)) (by simp)).len
    simpa [encWays] using this
  have hlk : t.Kinds.length ≤ 9223372036854775807 := by
    have := (Real.cell (show Real [.agg _] from hr) (c := .list 6 (encKinds t.Kinds)) (by simp)).len
    simpa [encKinds] using this
  have hlm : t.Modes.length ≤ 9223372036854775807 := by
    have := (Real.cell (show Real [.agg _] from hr) (c := .list 1 (encIntLs t.Modes)) (by simp)).len
    simpa [encIntLs] using this
  have hls : t.Sectors.length ≤ 9223372036854775807 := by
    have := (Real.cell (show Real [.agg _] from hr) (c := .list 5 (encSectors t.Sectors)) (by simp)).len
    simpa [encSectors] using this
  obtain ⟨ss, hss⟩ : ∃ ss, ss = encSectors t.Sectors := ⟨_, rfl⟩
  obtain ⟨cs, hcs⟩ : ∃ cs, cs = encConfigs t.Configs := ⟨_, rfl⟩
  obtain ⟨ws, hws⟩ : ∃ ws, ws = encWays t.Ways := ⟨_, rfl⟩
  obtain ⟨ms, hms⟩ : ∃ ms, ms = encIntLs t.Modes := ⟨_, rfl⟩
  obtain ⟨ks, hks⟩ : ∃ ks, ks = encKinds t.Kinds := ⟨_, rfl⟩
  obtain ⟨nv, hnv⟩ : ∃ nv, nv = t.Volumes := ⟨_, rfl⟩
  have htab : encTables t = .agg [.int .i64 nv, .list 5 ss, .list 3 cs, .list 3 ws, .list 1 ms, .list 6 ks] := by rw [encTables_eq t hss hcs hws hms hks, hnv]
  rw [htab]
  have lss : ss.length = t.Sectors.length := by rw [hss]; simp [encSectors]
  have lcs : cs.length = t.Configs.length := by rw [hcs]; simp [encConfigs]
  have lws : ws.length = t.Ways.length := by rw [hws]; simp [encWays]
  have lms : ms.length = t.Modes.length := by rw [hms]; simp [encIntLs]
  have lks : ks.length = t.Kinds.length := by rw [hks]; simp [encKinds]
  have hK := (airOk_iff t).1
  have hK2 := (airOk_iff t).2
  have hbad : ¬ airOk t = true → PV.int .i64 140 = q := fun h => by rw [← hq, if_neg h]
  generalize airOk t = kb at hbad hK hK2 hq
  have hdiv := ref14_divided nv ss cs ws ms ks
  have hchk := ref10_Check (vs := List.replicate nv.toNat zeroVolume) (ss := ss) (cs := cs) 2 nv.toNat (by simp) t.Sectors hss t.Configs hcs
  rw [← hnv] at hK hK2
  conv => cbv
  cases hin : inB nv 1 64 with
  | false =>
    rw [hin] at hdiv
    refine call_intro hA hdiv ?_
    conv => cbv
    split
    rotate_left
    · rename_i hc
      cases (nF hA hc)
    conv => cbv
    exact hbad (fun h => by have := (hK h).1; rw [hin] at this; cases this)
  | true =>
  have hn : 1 ≤ nv ∧ nv ≤ 64 := by simpa [inB] using hin
  rw [hin, if_pos rfl] at hdiv
  obtain ⟨vl, hvl⟩ : ∃ vl, vl = List.replicate nv.toNat zeroVolume := ⟨_, rfl⟩
  rw [← hvl] at hdiv hchk
  refine call_intro hA hdiv ?_
  conv => cbv
  split
  · rename_i hc
    cases (nT hA hc)
  conv => cbv
  cases hd : divOk nv.toNat t.Sectors t.Configs with
  | false =>
    rw [hd, if_neg (by simp)] at hchk
    refine call_intro hA (hchk) ?_
    conv => cbv
    split
    rotate_left
    · rename_i hc
      cases ((show False by have := neF hA hc; omega))
    conv => cbv
    exact hbad (fun h => by have := (hK h).2.1; rw [hd] at this; cases this)
  | true =>
  rw [hd, if_pos rfl] at hchk
  refine call_intro hA (hchk) ?_
  conv => cbv
  split
  · rename_i hc
    cases (neT hA hc rfl)
  conv => cbv
  split
  · rename_i hc
    conv => cbv
    exact hbad (fun h => by have := hK h; have := ltT' hA rfl (lenI hA lms) hc; omega)
  rename_i c3; replace c3 := ltF' hA rfl (lenI hA lms) c3
  conv => cbv
  split
  · rename_i hc
    conv => cbv
    exact hbad (fun h => by have := hK h; have := ltT' hA rfl (lenI hA lws) hc; omega)
  rename_i c4; replace c4 := ltF' hA rfl (lenI hA lws) c4
  conv => cbv
  split
  · rename_i hc
    conv => cbv
    exact hbad (fun h => by have := hK h; have := ltT' hA rfl (lenI hA lks) hc; omega)
  rename_i c5; replace c5 := ltF' hA rfl (lenI hA lks) c5
  conv => cbv
  refine loop_set hA (fun (i : Int) s => s.put (some 5) (.val (.int .i64 i))) (fun i => 0 ≤ i ∧ i ≤ (t.Sectors.length : Int) ∧ (fun i => ∀ s ∈ t.Sectors.take i.toNat, sectorOk s = true) i) (fun i => ((t.Sectors.length : Int) - i).toNat) 0 ?_ ?_ ?_
  · conv => cbv
    exact wk_sl (by repeat (first | refine leL_same ?_ | refine leL_any ?_ | exact leL_nil))
  · exact ⟨Int.le_refl _, by omega, by simp⟩
  rintro R i ⟨hi0, hi1, hi2⟩ hRi
  conv => cbv
  split
  ·   rename_i hc
      have hi : i < (t.Sectors.length : Int) := ltT' hA rfl (lenI hA lss) hc
      have his : A.iAdd i 1 = i + 1 := addI hA _ _
      have hir : A.inR (A.iAdd i 1) := inR' hA his (by unfold inI64; omega)
      have him : ((t.Sectors.length : Int) - A.iAdd i 1).toNat < ((t.Sectors.length : Int) - i).toNat := by rw [his]; omega
      have hin : (fun i => ∀ s ∈ t.Sectors.take i.toNat, sectorOk s = true) (i + 1) → 0 ≤ A.iAdd i 1 ∧ A.iAdd i 1 ≤ (t.Sectors.length : Int) ∧ (fun i => ∀ s ∈ t.Sectors.take i.toNat, sectorOk s = true) (A.iAdd i 1) := fun h => by rw [his]; exact ⟨by omega, by omega, h⟩
      simp only at hin
      conv => cbv
      refine ⟨draw_intro hA (by kernel_rfl), ?_⟩
      refine idx_Sector hA hss hi0 hi (fun x u1 u2 hx0 hu1 hu2 => ?_)
      have hm := List.mem_of_getElem? hx0
      have ht := take_snoc' hi0 hx0
      have hS : sectorOk x = (inB x.Radar 0 64 && inB x.Procedural 0 x.Radar) := rfl
      obtain ⟨x1, x2, x3, x4, x5⟩ := x
      simp only at hu1 hu2 hS
      conv => cbv
      refine callB hA (ref14_in x4 0 64) rfl (fun b e1 => ?_)
      conv => cbv
      cases b with
      | false =>
        split
        rotate_left
        · rename_i hc
          cases (nF hA hc)
        conv => cbv
        exact hbad (fun h => by have := (hK h).2.2.2.2.2.1 _ hm; rw [hS, ← e1] at this; cases this)
      | true =>
      split
      · rename_i hc
        cases (nT hA hc)
      conv => cbv
      refine idx_Sector hA hss hi0 hi (fun z w1 w2 hz hw1 hw2 => ?_)
      obtain rfl := Option.some.inj ((hx0).symm.trans hz)
      conv => cbv
      refine idx_Sector hA hss hi0 hi (fun z y1 y2 hz hy1 hy2 => ?_)
      obtain rfl := Option.some.inj ((hx0).symm.trans hz)
      conv => cbv
      refine callB hA (ref14_in x5 0 x4) rfl (fun b e2 => ?_)
      conv => cbv
      cases b with
      | false =>
        split
        rotate_left
        · rename_i hc
          cases (nF hA hc)
        conv => cbv
        exact hbad (fun h => by have := (hK h).2.2.2.2.2.1 _ hm; rw [hS, ← e1, ← e2] at this; cases this)
      | true =>
      split
      · rename_i hc
        cases (nT hA hc)
      conv => cbv
      exact ⟨hir, hRi (A.iAdd i 1) _ (by (conv => cbv); exact wk_sl (by repeat (first | refine leL_same ?_ | refine leL_any ?_ | exact leL_nil))) (hin (mem_snoc ht hi2 (by rw [hS, ← e1, ← e2]; rfl))) him⟩
  rename_i hc
  have hi : i = (t.Sectors.length : Int) := by have := ltF' hA rfl (lenI hA lss) hc; omega
  conv => cbv
  have hS2 := take_all hi hi2
  refine loop_set hA (fun (i : Int) s => s.put (some 6) (.val (.int .i64 i))) (fun i => 0 ≤ i ∧ i ≤ (t.Modes.length : Int) ∧ (fun i => ∀ s ∈ t.Modes.take i.toNat, modeOk s = true) i) (fun i => ((t.Modes.length : Int) - i).toNat) 0 ?_ ?_ ?_
  · conv => cbv
    exact wk_sl (by repeat (first | refine leL_same ?_ | refine leL_any ?_ | exact leL_nil))
  · exact ⟨Int.le_refl _, by omega, by simp⟩
  rintro R j ⟨hj0, hj1, hj2⟩ hRj
  conv => cbv
  split
  ·   rename_i hc
      have hj : j < (t.Modes.length : Int) := ltT' hA rfl (lenI hA lms) hc
      have hjs : A.iAdd j 1 = j + 1 := addI hA _ _
      have hjr : A.inR (A.iAdd j 1) := inR' hA hjs (by unfold inI64; omega)
      have hjm : ((t.Modes.length : Int) - A.iAdd j 1).toNat < ((t.Modes.length : Int) - j).toNat := by rw [hjs]; omega
      have hjn : (fun i => ∀ s ∈ t.Modes.take i.toNat, modeOk s = true) (j + 1) → 0 ≤ A.iAdd j 1 ∧ A.iAdd j 1 ≤ (t.Modes.length : Int) ∧ (fun i => ∀ s ∈ t.Modes.take i.toNat, modeOk s = true) (A.iAdd j 1) := fun h => by rw [hjs]; exact ⟨by omega, by omega, h⟩
      simp only at hjn
      conv => cbv
      refine idx_IntL hA hms hj0 hj (fun x v hx0 hv => ?_)
      have hm := List.mem_of_getElem? hx0
      have ht := take_snoc' hj0 hx0
      conv => cbv
      refine callB hA (ref14_isMode x hv) rfl (fun b e1 => ?_)
      conv => cbv
      cases b with
      | false =>
        split
        rotate_left
        · rename_i hc
          cases (nF hA hc)
        conv => cbv
        exact hbad (fun h => by have := (hK h).2.2.2.2.2.2.1 _ hm; rw [← e1] at this; cases this)
      | true =>
      split
      · rename_i hc
        cases (nT hA hc)
      conv => cbv
      exact ⟨hjr, hRj (A.iAdd j 1) _ (by (conv => cbv); exact wk_sl (by repeat (first | refine leL_same ?_ | refine leL_any ?_ | exact leL_nil))) (hjn (mem_snoc ht hj2 e1.symm)) hjm⟩
  rename_i hc
  have hj : j = (t.Modes.length : Int) := by have := ltF' hA rfl (lenI hA lms) hc; omega
  conv => cbv
  have hM2 := take_all hj hj2
  refine loop_set hA (fun (i : Int) s => s.put (some 7) (.val (.int .i64 i))) (fun i => 0 ≤ i ∧ i ≤ (t.Ways.length : Int) ∧ (fun i => ∀ s ∈ t.Ways.take i.toNat, wayOk nv t.Modes.length s = true) i) (fun i => ((t.Ways.length : Int) - i).toNat) 0 ?_ ?_ ?_
  · conv => cbv
    exact wk_sl (by repeat (first | refine leL_same ?_ | refine leL_any ?_ | exact leL_nil))
  · exact ⟨Int.le_refl _, by omega, by simp⟩
  rintro R k ⟨hk0, hk1, hk2⟩ hRk
  conv => cbv
  split
  ·   rename_i hc
      have hk : k < (t.Ways.length : Int) := ltT' hA rfl (lenI hA lws) hc
      have hks : A.iAdd k 1 = k + 1 := addI hA _ _
      have hkr : A.inR (A.iAdd k 1) := inR' hA hks (by unfold inI64; omega)
      have hkm : ((t.Ways.length : Int) - A.iAdd k 1).toNat < ((t.Ways.length : Int) - k).toNat := by rw [hks]; omega
      have hkn : (fun i => ∀ s ∈ t.Ways.take i.toNat, wayOk nv t.Modes.length s = true) (k + 1) → 0 ≤ A.iAdd k 1 ∧ A.iAdd k 1 ≤ (t.Ways.length : Int) ∧ (fun i => ∀ s ∈ t.Ways.take i.toNat, wayOk nv t.Modes.length s = true) (A.iAdd k 1) := fun h => by rw [hks]; exact ⟨by omega, by omega, h⟩
      simp only at hkn
      conv => cbv
      refine ⟨draw_intro hA (by kernel_rfl), ?_⟩
      refine idx_Way hA hws hk0 hk (fun x v hx0 hv => ?_)
      have hm := List.mem_of_getElem? hx0
      have ht := take_snoc' hk0 hx0
      have hcall := ref14_isWay nv (by unfold inI64; omega) ss cs ws ms ks (by omega) x
      rw [encWay_eq x hv] at hcall
      conv => cbv
      refine callB hA hcall rfl (fun b e1 => ?_)
      rw [lms] at e1
      conv => cbv
      cases b with
      | false =>
        split
        rotate_left
        · rename_i hc
          cases (nF hA hc)
        conv => cbv
        exact hbad (fun h => by have := (hK h).2.2.2.2.2.2.2.1 _ hm; rw [← e1] at this; cases this)
      | true =>
      split
      · rename_i hc
        cases (nT hA hc)
      conv => cbv
      exact ⟨hkr, hRk (A.iAdd k 1) _ (by (conv => cbv); exact wk_sl (by repeat (first | refine leL_same ?_ | refine leL_any ?_ | exact leL_nil))) (hkn (mem_snoc ht hk2 e1.symm)) hkm⟩
  rename_i hc
  have hk : k = (t.Ways.length : Int) := by have := ltF' hA rfl (lenI hA lws) hc; omega
  conv => cbv
  have hW2 := take_all hk hk2
  refine loop_set hA (fun (i : Int) s => s.put (some 8) (.val (.int .i64 i))) (fun i => 0 ≤ i ∧ i ≤ (t.Kinds.length : Int) ∧ (fun i => ∀ s ∈ t.Kinds.take i.toNat, kindOk s = true ∧ s.Curfews.length = t.Modes.length) i) (fun i => ((t.Kinds.length : Int) - i).toNat) 0 ?_ ?_ ?_
  · conv => cbv
    exact wk_sl (by repeat (first | refine leL_same ?_ | refine leL_any ?_ | exact leL_nil))
  · exact ⟨Int.le_refl _, by omega, by simp⟩
  rintro R l ⟨hl0, hl1, hl2⟩ hRl
  conv => cbv
  split
  ·   rename_i hc
      have hl : l < (t.Kinds.length : Int) := ltT' hA rfl (lenI hA lks) hc
      have hls : A.iAdd l 1 = l + 1 := addI hA _ _
      have hlr : A.inR (A.iAdd l 1) := inR' hA hls (by unfold inI64; omega)
      have hlm : ((t.Kinds.length : Int) - A.iAdd l 1).toNat < ((t.Kinds.length : Int) - l).toNat := by rw [hls]; omega
      have hln : (fun i => ∀ s ∈ t.Kinds.take i.toNat, kindOk s = true ∧ s.Curfews.length = t.Modes.length) (l + 1) → 0 ≤ A.iAdd l 1 ∧ A.iAdd l 1 ≤ (t.Kinds.length : Int) ∧ (fun i => ∀ s ∈ t.Kinds.take i.toNat, kindOk s = true ∧ s.Curfews.length = t.Modes.length) (A.iAdd l 1) := fun h => by rw [hls]; exact ⟨by omega, by omega, h⟩
      simp only at hln
      conv => cbv
      refine ⟨draw_intro hA (by kernel_rfl), ?_⟩
      refine idx_Kind hA hks hl0 hl (fun x v hx0 hv => ?_)
      have hm := List.mem_of_getElem? hx0
      have ht := take_snoc' hl0 hx0
      have hcall := ref12_Check x
      have hvl : v.length = x.Curfews.length := by rw [hv]; simp [encSpanLs]
      rw [encKind_eq x hv] at hcall
      conv => cbv
      cases hk : kindOk x with
      | false =>
        rw [hk, if_neg (by simp)] at hcall
        refine call_intro hA (hcall) ?_
        conv => cbv
        split
        rotate_left
        · rename_i hc
          cases ((show False by have := neF hA hc; omega))
        conv => cbv
        exact hbad (fun h => by have := ((hK h).2.2.2.2.2.2.2.2 _ hm).1; rw [hk] at this; cases this)
      | true =>
      rw [hk, if_pos rfl] at hcall
      refine call_intro hA (hcall) ?_
      conv => cbv
      split
      · rename_i hc
        cases (neT hA hc rfl)
      conv => cbv
      refine idx_Kind hA hks hl0 hl (fun z w hz hw => ?_)
      obtain rfl := Option.some.inj ((hx0).symm.trans hz)
      conv => cbv
      have hwl : w.length = x.Curfews.length := by rw [hw]; simp [encSpanLs]
      split
      · rename_i hc
        conv => cbv
        exact hbad (fun h => by have := ((hK h).2.2.2.2.2.2.2.2 _ hm).2; have := neT' hA (lenI hA hwl) (lenI hA lms) hc; omega)
      rename_i d1; replace d1 := neF' hA (lenI hA hwl) (lenI hA lms) d1
      conv => cbv
      exact ⟨hlr, hRl (A.iAdd l 1) _ (by (conv => cbv); exact wk_sl (by repeat (first | refine leL_same ?_ | refine leL_any ?_ | exact leL_nil))) (hln (mem_snoc ht hl2 ⟨hk, by omega⟩)) hlm⟩
  rename_i hc
  have hl : l = (t.Kinds.length : Int) := by have := ltF' hA rfl (lenI hA lks) hc; omega
  conv => cbv
  rw [← hq, if_pos (hK2 ⟨hin, hd, by omega, by omega, by omega, hS2, hM2, hW2, take_all hl hl2⟩)]
end Go.Abs
