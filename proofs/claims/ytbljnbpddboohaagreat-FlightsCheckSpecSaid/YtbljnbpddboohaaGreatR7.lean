/-
  References: the checks of configurations and of tables.
-/
import Derived.Test.YtbljnbpddboohaaGreatR6
set_option linter.unusedVariables false
set_option linter.unusedSimpArgs false
namespace Go.Abs
open Go.RowKit Go.Proofs

theorem divOk_iff (n : Nat) (S : List Sector) (C : List Config) : divOk n S C = true ↔ 1 ≤ n ∧ n ≤ 64 ∧ S.length ≤ 64 ∧ 1 ≤ C.length ∧ C.length ≤ 32 ∧ (∀ s ∈ S, s.Volumes.length ≠ 0 ∧ idxB n s.Volumes = true) ∧ ∀ c ∈ C, divB n S c = true := by
  unfold divOk
  simp only [Bool.and_eq_true, decide_eq_true_eq, and_assoc]
  constructor
  · rintro ⟨h1, h2, h3, h4, h5, h6, h7⟩
    refine ⟨h1, h2, h3, h4, h5, fun s hs => ?_, fun c hc => ?_⟩
    · have := List.all_eq_true.1 h6 s hs
      rw [sectorIx_eq] at this
      simpa using this
    · rw [← configOk_eq h6]; exact List.all_eq_true.1 h7 c hc
  · rintro ⟨h1, h2, h3, h4, h5, h6, h7⟩
    have h6' : S.all (sectorIx n) = true := by
      rw [List.all_eq_true]
      intro s hs
      rw [sectorIx_eq]
      have := h6 s hs
      simp [this]
    refine ⟨h1, h2, h3, h4, h5, h6', ?_⟩
    rw [List.all_eq_true]
    intro c hc
    rw [configOk_eq h6']; exact h7 c hc

set_option maxHeartbeats 1000000 in
theorem ref10_Check {vs ss cs : List PV} (mv n : Nat) (hv : vs.length = n) (S : List Sector) (hS : ss = encSectors S) (C : List Config) (hC : cs = encConfigs C) :
    CallsPV Tryz.prog 62 [encAir mv vs ss cs] (.int .i64 (if divOk n S C then 0 else 100)) := by
  refine callsPV_by (clo := fun _ => false) (rows := false) env_ok Tryz.func62 rfl (enters_of Tryz.func62 (by kernel_rfl) rfl) (fun A q P Y hr hA hq => ?_)
  have hssl : ss.length = S.length := by rw [hS]; simp [encSectors]
  have hcsl : cs.length = C.length := by rw [hC]; simp [encConfigs]
  have hK := (divOk_iff n S C).1
  have hK2 := (divOk_iff n S C).2
  have hbad : ¬ divOk n S C = true → PV.int .i64 100 = q := fun h => by rw [← hq, if_neg h]
  generalize divOk n S C = kb at hbad hK hK2 hq
  have hlv : A.lLen vs = n := lenI hA hv
  conv => cbv
  split
  · rename_i hc
    conv => cbv
    exact hbad (fun h => by have := hK h; have := ltT' hA (lenI hA hv) rfl hc; omega)
  rename_i c1; replace c1 := ltF' hA (lenI hA hv) rfl c1
  conv => cbv
  split
  · rename_i hc
    conv => cbv
    exact hbad (fun h => by have := hK h; have := ltT' hA rfl (lenI hA hv) hc; omega)
  rename_i c2; replace c2 := ltF' hA rfl (lenI hA hv) c2
  conv => cbv
  split
  · rename_i hc
    conv => cbv
    exact hbad (fun h => by have := hK h; have := ltT' hA rfl (lenI hA hssl) hc; omega)
  rename_i c3; replace c3 := ltF' hA rfl (lenI hA hssl) c3
  conv => cbv
  split
  · rename_i hc
    conv => cbv
    exact hbad (fun h => by have := hK h; have := ltT' hA (lenI hA hcsl) rfl hc; omega)
  rename_i c4; replace c4 := ltF' hA (lenI hA hcsl) rfl c4
  conv => cbv
  split
  · rename_i hc
    conv => cbv
    exact hbad (fun h => by have := hK h; have := ltT' hA rfl (lenI hA hcsl) hc; omega)
  rename_i c5; replace c5 := ltF' hA rfl (lenI hA hcsl) c5
  conv => cbv
  refine loop_set hA (fun (i : Int) s => s.put (some 3) (.val (.int .i64 i))) (fun i => 0 ≤ i ∧ i ≤ (S.length : Int) ∧ (fun i => ∀ s ∈ S.take i.toNat, s.Volumes.length ≠ 0 ∧ idxB n s.Volumes = true) i) (fun i => ((S.length : Int) - i).toNat) 0 ?_ ?_ ?_
  · conv => cbv
    exact wk_sl (by repeat (first | refine leL_same ?_ | refine leL_any ?_ | exact leL_nil))
  · exact ⟨Int.le_refl _, by omega, by simp⟩
  · rintro R i ⟨hi0, hi1, hi2⟩ hRi
    conv => cbv
    split
    · rename_i hc
      have hi : i < (S.length : Int) := ltT' hA rfl (lenI hA hssl) hc
      have his : A.iAdd i 1 = i + 1 := addI hA _ _
      have hir : A.inR (A.iAdd i 1) := inR' hA his (by unfold inI64; omega)
      have him : ((S.length : Int) - A.iAdd i 1).toNat < ((S.length : Int) - i).toNat := by rw [his]; omega
      have hin : (fun i => ∀ s ∈ S.take i.toNat, s.Volumes.length ≠ 0 ∧ idxB n s.Volumes = true) (i + 1) → 0 ≤ A.iAdd i 1 ∧ A.iAdd i 1 ≤ (S.length : Int) ∧ (fun i => ∀ s ∈ S.take i.toNat, s.Volumes.length ≠ 0 ∧ idxB n s.Volumes = true) (A.iAdd i 1) := fun h => by rw [his]; exact ⟨by omega, by omega, h⟩
      simp only at hin
      conv => cbv
      refine ⟨draw_intro hA (by kernel_rfl), ?_⟩
      refine idx_Sector hA hS hi0 hi (fun x u1 u2 hx0 hu1 hu2 => ?_)
      have hm := List.mem_of_getElem? hx0
      have ht := take_snoc' hi0 hx0
      have hul : u2.length = x.Volumes.length := by rw [hu2]; simp [encInts]
      obtain ⟨x1, x2, x3, x4, x5⟩ := x
      simp only at hu1 hu2 hul
      conv => cbv
      split
      · rename_i hc
        conv => cbv
        exact hbad (fun h => by have h1 := ((hK h).2.2.2.2.2.1 _ hm).1; have := eqT' hA (lenI hA hul) rfl hc; simp only at h1; omega)
      rename_i d1; replace d1 := eqF' hA (lenI hA hul) rfl d1
      conv => cbv
      refine idx_Sector hA hS hi0 hi (fun z w1 w2 hz hw1 hw2 => ?_)
      obtain rfl := Option.some.inj ((hx0).symm.trans hz)
      conv => cbv
      refine callB hA (ref10_indices x3 (xs := w2) hw2 (A.lLen vs)) rfl (fun b hb => ?_)
      rw [hlv] at hb
      conv => cbv
      cases b with
      | false =>
        split
        rotate_left
        · rename_i hc
          cases (nF hA hc)
        conv => cbv
        exact hbad (fun h => by have h1 := ((hK h).2.2.2.2.2.1 _ hm).2; simp only at h1; rw [h1] at hb; cases hb)
      | true =>
        split
        · rename_i hc
          cases (nT hA hc)
        conv => cbv
        exact ⟨hir, hRi (A.iAdd i 1) _ (by (conv => cbv); exact wk_sl (by repeat (first | refine leL_same ?_ | refine leL_any ?_ | exact leL_nil))) (hin (mem_snoc ht hi2 ⟨by simp only; omega, hb.symm⟩)) him⟩
    · rename_i hc
      have hi : i = (S.length : Int) := by have := ltF' hA rfl (lenI hA hssl) hc; omega
      conv => cbv
      have hS2 := take_all hi hi2
      refine loop_set hA (fun (i : Int) s => s.put (some 4) (.val (.int .i64 i))) (fun i => 0 ≤ i ∧ i ≤ (C.length : Int) ∧ (fun i => ∀ s ∈ C.take i.toNat, divB n S s = true) i) (fun i => ((C.length : Int) - i).toNat) 0 ?_ ?_ ?_
      · conv => cbv
        exact wk_sl (by repeat (first | refine leL_same ?_ | refine leL_any ?_ | exact leL_nil))
      · exact ⟨Int.le_refl _, by omega, by simp⟩
      · rintro R j ⟨hj0, hj1, hj2⟩ hRj
        conv => cbv
        split
        · rename_i hc
          have hj : j < (C.length : Int) := ltT' hA rfl (lenI hA hcsl) hc
          have hjs : A.iAdd j 1 = j + 1 := addI hA _ _
          have hjr : A.inR (A.iAdd j 1) := inR' hA hjs (by unfold inI64; omega)
          have hjm : ((C.length : Int) - A.iAdd j 1).toNat < ((C.length : Int) - j).toNat := by rw [hjs]; omega
          have hjn : (fun i => ∀ s ∈ C.take i.toNat, divB n S s = true) (j + 1) → 0 ≤ A.iAdd j 1 ∧ A.iAdd j 1 ≤ (C.length : Int) ∧ (fun i => ∀ s ∈ C.take i.toNat, divB n S s = true) (A.iAdd j 1) := fun h => by rw [hjs]; exact ⟨by omega, by omega, h⟩
          simp only at hjn
          conv => cbv
          refine ⟨draw_intro hA (by kernel_rfl), ?_⟩
          refine idx_Config hA hC hj0 hj (fun x u1 u2 hx0 hu1 hu2 => ?_)
          have hm := List.mem_of_getElem? hx0
          have ht := take_snoc' hj0 hx0
          have hcall := ref10_divides (cs := cs) mv n hv S hS x (by omega) (by omega)
          rw [encConfig_eq x hu1 hu2] at hcall
          conv => cbv
          refine callB hA hcall rfl (fun b hb => ?_)
          conv => cbv
          cases b with
          | false =>
            split
            rotate_left
            · rename_i hc
              cases (nF hA hc)
            conv => cbv
            exact hbad (fun h => by have h1 := (hK h).2.2.2.2.2.2 _ hm; rw [h1] at hb; cases hb)
          | true =>
            split
            · rename_i hc
              cases (nT hA hc)
            conv => cbv
            exact ⟨hjr, hRj (A.iAdd j 1) _ (by (conv => cbv); exact wk_sl (by repeat (first | refine leL_same ?_ | refine leL_any ?_ | exact leL_nil))) (hjn (mem_snoc ht hj2 hb.symm)) hjm⟩
        · rename_i hc
          have hj : j = (C.length : Int) := by have := ltF' hA rfl (lenI hA hcsl) hc; omega
          conv => cbv
          rw [← hq, if_pos (hK2 ⟨by omega, by omega, by omega, by omega, by omega, hS2, take_all hj hj2⟩)]

theorem ref14_in (n lo hi : Int) : CallsPV Tryz.prog 63 [.int .i64 n, .int .i64 lo, .int .i64 hi] (.bool (inB n lo hi)) := by
  refine callsPV_by (clo := fun _ => false) (rows := false) env_ok Tryz.func63 rfl (enters_of Tryz.func63 (by kernel_rfl) rfl) (fun A q P Y hr hA hq => ?_)
  conv => cbv
  split <;> (rename_i h; conv => cbv) <;> (subst hA; subst hq; simp_all [stdOps, inB]; try omega)

theorem ref14_isMode {xs : List PV} (l : List Int) (hx : xs = encInts l) : CallsPV Tryz.prog 64 [.list 1 xs] (.bool (modeOk l)) := by
  refine callsPV_by (clo := fun _ => false) (rows := false) env_ok Tryz.func64 rfl (enters_of Tryz.func64 (by kernel_rfl) rfl) (fun A q P Y hr hA hq => ?_)
  have hll : xs.length = l.length := by rw [hx]; simp [encInts]
  have hlen : l.length ≤ 9223372036854775807 := by have := (hr.mem (p := .list 1 xs) (by simp)).len; omega
  have hM : modeOk l = (inB l.length 1 16 && l.all fun n => inB n 0 64) := rfl
  conv => cbv
  refine loop_set hA (fun (i : Int) s => s.put (some 3) (.val (.int .i64 i))) (fun i => 0 ≤ i ∧ i ≤ (l.length : Int) ∧ (fun i => ∀ x ∈ l.take i.toNat, inB x 0 64 = true) i) (fun i => ((l.length : Int) - i).toNat) 0 ?_ ?_ ?_
  · conv => cbv
    exact wk_sl (by repeat (first | refine leL_same ?_ | refine leL_any ?_ | exact leL_nil))
  · exact ⟨Int.le_refl _, by omega, by simp⟩
  · rintro R i ⟨hi0, hi1, hi2⟩ hRi
    conv => cbv
    split
    · rename_i hc
      have hi : i < (l.length : Int) := ltT' hA rfl (lenI hA hll) hc
      have his : A.iAdd i 1 = i + 1 := addI hA _ _
      have hir : A.inR (A.iAdd i 1) := inR' hA his (by unfold inI64; omega)
      have him : ((l.length : Int) - A.iAdd i 1).toNat < ((l.length : Int) - i).toNat := by rw [his]; omega
      have hin : (fun i => ∀ x ∈ l.take i.toNat, inB x 0 64 = true) (i + 1) → 0 ≤ A.iAdd i 1 ∧ A.iAdd i 1 ≤ (l.length : Int) ∧ (fun i => ∀ x ∈ l.take i.toNat, inB x 0 64 = true) (A.iAdd i 1) := fun h => by rw [his]; exact ⟨by omega, by omega, h⟩
      simp only at hin
      conv => cbv
      refine idx_Int hA hx hi0 hi (fun x hx0 => ?_)
      have ht := take_snoc' hi0 hx0
      conv => cbv
      refine callB hA (ref14_in x 0 64) rfl (fun b hb => ?_)
      conv => cbv
      cases b with
      | false =>
        split
        rotate_left
        · rename_i hc
          cases (nF hA hc)
        conv => cbv
        rw [← hq, hM, show (l.all fun n => inB n 0 64) = false by rw [List.all_eq_false]; exact ⟨x, List.mem_of_getElem? hx0, by rw [← hb]; simp⟩, Bool.and_false]
      | true =>
        split
        · rename_i hc
          cases (nT hA hc)
        conv => cbv
        exact ⟨hir, hRi (A.iAdd i 1) _ (by (conv => cbv); exact wk_sl (by repeat (first | refine leL_same ?_ | refine leL_any ?_ | exact leL_nil))) (hin (mem_snoc ht hi2 hb.symm)) him⟩
    · rename_i hc
      have hi : i = (l.length : Int) := by have := ltF' hA rfl (lenI hA hll) hc; omega
      conv => cbv
      refine callB hA (ref14_in (A.lLen xs) 1 16) rfl (fun b hb => ?_)
      rw [lenI hA hll] at hb
      conv => cbv
      rw [← hq, hM, all_t (take_all hi hi2), Bool.and_true, hb]

theorem encLeg_eq (x : Leg) {ms : List PV} (h1 : ms = encSpans x.Minutes) : encLeg x = .agg [.int .i64 x.Segment, .int .i64 x.Volume, .int .i64 x.Length, .list 2 ms] := by rw [h1]; rfl
theorem encWay_eq (x : Way) {ls : List PV} (h1 : ls = encLegs x.Legs) : encWay x = .agg [.int .i64 x.From, .int .i64 x.To, .list 4 ls] := by rw [h1]; rfl
theorem encKind_eq (x : Kind) {ls : List PV} (h1 : ls = encSpanLs x.Curfews) : encKind x = .agg [.int .i64 x.Slow, .int .i64 x.Fast, .int .i64 x.Places, .int .i64 x.Weight, .int .i64 x.Longest, .list 1 ls] := by rw [h1]; rfl

theorem legOk_iff (nv : Int) (x : Leg) : legOk nv x = true ↔ inB x.Segment 0 127 = true ∧ inB x.Volume 0 (nv - 1) = true ∧ inB x.Length 1 4096 = true ∧ x.Minutes.length ≠ 0 ∧ hoursOk x.Minutes = true := by
  unfold legOk
  simp only [Bool.and_eq_true, decide_eq_true_eq, and_assoc, Nat.pos_iff_ne_zero]
theorem wayOk_iff (nv nm : Int) (w : Way) : wayOk nv nm w = true ↔ inB w.From 0 (nm - 1) = true ∧ inB w.To 0 (nm - 1) = true ∧ inB w.Legs.length 1 8 = true ∧ ∀ x ∈ w.Legs, legOk nv x = true := by
  unfold wayOk
  simp only [Bool.and_eq_true, and_assoc, List.all_eq_true]

set_option maxHeartbeats 2000000 in
theorem ref14_isWay (nv : Int) (hnv : inI64 (nv - 1)) (ss cs ws ms ks : List PV) (hms : ms.length ≤ 1000) (w : Way) :
    CallsPV Tryz.prog 65 [.agg [.int .i64 nv, .list 5 ss, .list 3 cs, .list 3 ws, .list 1 ms, .list 6 ks], encWay w] (.bool (wayOk nv ms.length w)) := by
  refine callsPV_by (clo := fun _ => false) (rows := false) env_ok Tryz.func65 rfl (enters_of Tryz.func65 (by kernel_rfl) rfl) (fun A q P Y hr hA hq => ?_)
  obtain ⟨ls, hls⟩ : ∃ ls, ls = encLegs w.Legs := ⟨_, rfl⟩
  have hll : ls.length = w.Legs.length := by rw [hls]; simp [encLegs]
  have hlen : w.Legs.length ≤ 9223372036854775807 := by
    have := (Real.cell (cs := [.int .i64 w.From, .int .i64 w.To, .list 4 ls]) (by rw [← encWay_eq w hls]; exact Real.mem hr (by simp)) (c := .list 4 ls) (by simp)).len
    omega
  have hK := (wayOk_iff nv ms.length w).1
  have hK2 := (wayOk_iff nv ms.length w).2
  have hbad : ¬ wayOk nv ms.length w = true → PV.bool false = q := fun h => by rw [← hq, Bool.eq_false_iff.2 h]
  generalize wayOk nv ms.length w = kb at hbad hK hK2 hq
  have hsm : A.iSub (A.lLen ms) 1 = (ms.length : Int) - 1 := by rw [subI hA, lenI hA rfl]
  have hsr : A.inR (A.iSub (A.lLen ms) 1) := inR' hA hsm (by unfold inI64; omega)
  have hsv : A.iSub nv 1 = nv - 1 := subI hA _ _
  rw [encWay_eq w hls]
  obtain ⟨w1, w2, L⟩ := w
  simp only at hls hll hlen hK hK2 ⊢
  conv => cbv
  refine ⟨hsr, ?_⟩
  refine callB hA (ref14_in w1 0 (A.iSub (A.lLen ms) 1)) rfl (fun b hb => ?_)
  rw [hsm] at hb
  conv => cbv
  cases b with
  | false =>
    split
    rotate_left
    · rename_i hc
      cases (nF hA hc)
    conv => cbv
    exact hbad (fun h => by have := (hK h).1; rw [this] at hb; cases hb)
  | true =>
  split
  · rename_i hc
    cases (nT hA hc)
  conv => cbv
  refine ⟨hsr, ?_⟩
  refine callB hA (ref14_in w2 0 (A.iSub (A.lLen ms) 1)) rfl (fun b hb2 => ?_)
  rw [hsm] at hb2
  conv => cbv
  cases b with
  | false =>
    split
    rotate_left
    · rename_i hc
      cases (nF hA hc)
    conv => cbv
    exact hbad (fun h => by have := (hK h).2.1; rw [this] at hb2; cases hb2)
  | true =>
  split
  · rename_i hc
    cases (nT hA hc)
  conv => cbv
  refine callB hA (ref14_in (A.lLen ls) 1 8) rfl (fun b hb3 => ?_)
  rw [lenI hA hll] at hb3
  conv => cbv
  cases b with
  | false =>
    split
    rotate_left
    · rename_i hc
      cases (nF hA hc)
    conv => cbv
    exact hbad (fun h => by have := (hK h).2.2.1; rw [this] at hb3; cases hb3)
  | true =>
  split
  · rename_i hc
    cases (nT hA hc)
  conv => cbv
  refine loop_set hA (fun (i : Int) s => s.put (some 5) (.val (.int .i64 i))) (fun i => 0 ≤ i ∧ i ≤ (L.length : Int) ∧ (fun i => ∀ x ∈ L.take i.toNat, legOk nv x = true) i) (fun i => ((L.length : Int) - i).toNat) 0 ?_ ?_ ?_
  · conv => cbv
    exact wk_sl (by repeat (first | refine leL_same ?_ | refine leL_any ?_ | exact leL_nil))
  · exact ⟨Int.le_refl _, by omega, by simp⟩
  · rintro R i ⟨hi0, hi1, hi2⟩ hRi
    conv => cbv
    split
    · rename_i hc
      have hi : i < (L.length : Int) := ltT' hA rfl (lenI hA hll) hc
      have his : A.iAdd i 1 = i + 1 := addI hA _ _
      have hir : A.inR (A.iAdd i 1) := inR' hA his (by unfold inI64; omega)
      have him : ((L.length : Int) - A.iAdd i 1).toNat < ((L.length : Int) - i).toNat := by rw [his]; omega
      have hin : (fun i => ∀ x ∈ L.take i.toNat, legOk nv x = true) (i + 1) → 0 ≤ A.iAdd i 1 ∧ A.iAdd i 1 ≤ (L.length : Int) ∧ (fun i => ∀ x ∈ L.take i.toNat, legOk nv x = true) (A.iAdd i 1) := fun h => by rw [his]; exact ⟨by omega, by omega, h⟩
      simp only at hin
      conv => cbv
      refine idx_Leg hA hls hi0 hi (fun x v hx0 hv => ?_)
      have ht := take_snoc' hi0 hx0
      have hm := List.mem_of_getElem? hx0
      have hvl : v.length = x.Minutes.length := by rw [hv]; simp [encSpans]
      have hQ := (legOk_iff nv x).1
      have hQ2 := (legOk_iff nv x).2
      have hbad2 : ¬ legOk nv x = true → PV.bool false = q := fun h => hbad (fun h' => h ((hK h').2.2.2 x hm))
      have hnx : legOk nv x = true → ∀ y ∈ L.take (i + 1).toNat, legOk nv y = true := fun h => mem_snoc ht hi2 h
      have hcall := ref05_Check x.Minutes hv
      obtain ⟨x1, x2, x3, x4⟩ := x
      simp only at hvl hQ hQ2 hcall
      conv => cbv
      refine callB hA (ref14_in x1 0 127) rfl (fun b e1 => ?_)
      conv => cbv
      cases b with
      | false =>
        split
        rotate_left
        · rename_i hc
          cases (nF hA hc)
        conv => cbv
        exact hbad2 (fun h => by have := (hQ h).1; rw [this] at e1; cases e1)
      | true =>
      split
      · rename_i hc
        cases (nT hA hc)
      conv => cbv
      refine ⟨inR' hA hsv hnv, ?_⟩
      refine callB hA (ref14_in x2 0 (A.iSub nv 1)) rfl (fun b e2 => ?_)
      rw [hsv] at e2
      conv => cbv
      cases b with
      | false =>
        split
        rotate_left
        · rename_i hc
          cases (nF hA hc)
        conv => cbv
        exact hbad2 (fun h => by have := (hQ h).2.1; rw [this] at e2; cases e2)
      | true =>
      split
      · rename_i hc
        cases (nT hA hc)
      conv => cbv
      refine callB hA (ref14_in x3 1 4096) rfl (fun b e3 => ?_)
      conv => cbv
      cases b with
      | false =>
        split
        rotate_left
        · rename_i hc
          cases (nF hA hc)
        conv => cbv
        exact hbad2 (fun h => by have := (hQ h).2.2.1; rw [this] at e3; cases e3)
      | true =>
      split
      · rename_i hc
        cases (nT hA hc)
      conv => cbv
      split
      · rename_i hc
        conv => cbv
        exact hbad2 (fun h => by have := (hQ h).2.2.2.1; have := eqT' hA (lenI hA hvl) rfl hc; omega)
      rename_i e4; replace e4 := eqF' hA (lenI hA hvl) rfl e4
      conv => cbv
      cases e5 : hoursOk x4 with
      | false =>
        rw [e5, if_neg (by simp)] at hcall
        refine call_intro hA (hcall) ?_
        conv => cbv
        split
        rotate_left
        · rename_i hc
          cases ((show False by have := neF hA hc; omega))
        conv => cbv
        exact hbad2 (fun h => by have := (hQ h).2.2.2.2; rw [e5] at this; cases this)
      | true =>
      rw [e5, if_pos rfl] at hcall
      refine call_intro hA (hcall) ?_
      conv => cbv
      split
      · rename_i hc
        cases (neT hA hc rfl)
      conv => cbv
      exact ⟨hir, hRi (A.iAdd i 1) _ (by (conv => cbv); exact wk_round (bx := [_, _]) (bx' := [_]) (mp := []) (mp' := []) (by repeat (first | refine leL_same ?_ | refine leL_any ?_ | exact leL_nil)) (by simp) (by simp) rfl rfl) (hin (hnx (hQ2 ⟨e1.symm, e2.symm, e3.symm, by omega, e5⟩))) him⟩
    · rename_i hc
      have hi : i = (L.length : Int) := by have := ltF' hA rfl (lenI hA hll) hc; omega
      conv => cbv
      rw [← hq, hK2 ⟨hb.symm, hb2.symm, hb3.symm, take_all hi hi2⟩]
end Go.Abs
