/-
  References: ref17.FewTables, ref20.FewPaths, Same.
-/
import Derived.Test.YtjiimmaikohliaaGreatR36
set_option linter.unusedVariables false
set_option linter.unusedSimpArgs false
namespace Go.Abs
open Go.RowKit Go.Proofs

def fewW (w : Way) : Bool := decide (w.Legs.length ≤ 10) && w.Legs.all fun x => decide (x.Minutes.length ≤ 40)
def fewK (k : Kind) : Bool := decide (k.Curfews.length ≤ 20) && k.Curfews.all fun l => decide (l.length ≤ 40)
def few17 (t : Tables) : Bool :=
  decide (t.Sectors.length ≤ 12) && decide (t.Configs.length ≤ 8) && decide (t.Ways.length ≤ 8) && decide (t.Modes.length ≤ 8) && decide (t.Kinds.length ≤ 6) && t.Ways.all fewW && t.Kinds.all fewK
theorem few17_iff {t : Tables} : few17 t = true ↔ t.Sectors.length ≤ 12 ∧ t.Configs.length ≤ 8 ∧ t.Ways.length ≤ 8 ∧ t.Modes.length ≤ 8 ∧ t.Kinds.length ≤ 6 ∧ (∀ w ∈ t.Ways, w.Legs.length ≤ 10 ∧ ∀ x ∈ w.Legs, x.Minutes.length ≤ 40) ∧ ∀ k ∈ t.Kinds, k.Curfews.length ≤ 20 ∧ ∀ x ∈ k.Curfews, x.length ≤ 40 := by
  unfold few17 fewW fewK
  simp only [Bool.and_eq_true, decide_eq_true_eq, List.all_eq_true, and_assoc]

theorem ref05_Few (l : List Span) {xs : List PV} (hx : xs = encSpans l) : CallsPV Tryz.prog 48 [.list 2 xs] (.bool (decide (l.length ≤ 40))) := by
  refine callsPV_by (clo := fun _ => false) (rows := false) env_ok Tryz.func48 rfl (enters_of Tryz.func48 (by kernel_rfl) rfl) (fun A q P Y hr hA hq => ?_)
  have hxl : xs.length = l.length := by rw [hx]; simp [encSpans]
  conv => cbv
  rw [← hq]
  congr 1
  subst hA
  show decide ((xs.length : Int) ≤ 40) = _
  rw [hxl, decide_eq_decide]
  omega

set_option maxRecDepth 40000 in
set_option maxHeartbeats 8000000 in
theorem ref17_FewTables (t : Tables) : CallsPV Tryz.prog 30 [encTables t] (.bool (few17 t)) := by
  refine callsPV_by (clo := fun _ => false) (rows := false) env_ok Tryz.func30 rfl (enters_of Tryz.func30 (by kernel_rfl) rfl) (fun A q P Y hr hA hq => ?_)
  have hbad : ¬ few17 t = true → PV.bool false = q := fun h => by rw [← hq, Bool.eq_false_iff.2 h]
  have hK := (few17_iff (t := t)).1
  have hK2 := (few17_iff (t := t)).2
  generalize few17 t = kb at hbad hK hK2 hq
  obtain ⟨ss, hss⟩ : ∃ ss, ss = encSectors t.Sectors := ⟨_, rfl⟩
  obtain ⟨cs, hcs⟩ : ∃ cs, cs = encConfigs t.Configs := ⟨_, rfl⟩
  obtain ⟨ws, hws⟩ : ∃ ws, ws = encWays t.Ways := ⟨_, rfl⟩
  obtain ⟨ms, hms⟩ : ∃ ms, ms = encIntLs t.Modes := ⟨_, rfl⟩
  obtain ⟨ks, hks⟩ : ∃ ks, ks = encKinds t.Kinds := ⟨_, rfl⟩
  obtain ⟨nv, hnv⟩ : ∃ nv, nv = t.Volumes := ⟨_, rfl⟩
  have htab : encTables t = .agg [.int .i64 nv, .list 5 ss, .list 3 cs, .list 3 ws, .list 1 ms, .list 6 ks] := by rw [encTables_eq t hss hcs hws hms hks, hnv]
  rw [htab]
  have hsl : ss.length = t.Sectors.length := by rw [hss]; simp [encSectors]
  have hcl : cs.length = t.Configs.length := by rw [hcs]; simp [encConfigs]
  have hwl : ws.length = t.Ways.length := by rw [hws]; simp [encWays]
  have hml : ms.length = t.Modes.length := by rw [hms]; simp [encIntLs]
  have hkl : ks.length = t.Kinds.length := by rw [hks]; simp [encKinds]
  conv => cbv
  split
  · rename_i hc
    conv => cbv
    exact hbad (fun h => by have := hK h; have := ltT' hA rfl (lenI hA hsl) hc; omega)
  rename_i g1; replace g1 := ltF' hA rfl (lenI hA hsl) g1
  conv => cbv
  split
  · rename_i hc
    conv => cbv
    exact hbad (fun h => by have := hK h; have := ltT' hA rfl (lenI hA hcl) hc; omega)
  rename_i g2; replace g2 := ltF' hA rfl (lenI hA hcl) g2
  conv => cbv
  split
  · rename_i hc
    conv => cbv
    exact hbad (fun h => by have := hK h; have := ltT' hA rfl (lenI hA hwl) hc; omega)
  rename_i g3; replace g3 := ltF' hA rfl (lenI hA hwl) g3
  conv => cbv
  split
  · rename_i hc
    conv => cbv
    exact hbad (fun h => by have := hK h; have := ltT' hA rfl (lenI hA hml) hc; omega)
  rename_i g4; replace g4 := ltF' hA rfl (lenI hA hml) g4
  conv => cbv
  split
  · rename_i hc
    conv => cbv
    exact hbad (fun h => by have := hK h; have := ltT' hA rfl (lenI hA hkl) hc; omega)
  rename_i g5; replace g5 := ltF' hA rfl (lenI hA hkl) g5
  conv => cbv
  refine loop_set hA (fun (i : Int) s => s.put (some 3) (.val (.int .i64 i))) (fun i => 0 ≤ i ∧ i ≤ (t.Ways.length : Int) ∧ (fun i => ∀ w ∈ t.Ways.take i.toNat, w.Legs.length ≤ 10 ∧ ∀ x ∈ w.Legs, x.Minutes.length ≤ 40) i) (fun i => ((t.Ways.length : Int) - i).toNat) 0 ?_ ?_ ?_
  · conv => cbv
    exact wk_sl (by repeat (first | refine leL_same ?_ | refine leL_any ?_ | exact leL_nil))
  · exact ⟨Int.le_refl _, by omega, by simp⟩
  rintro R i ⟨hi0, hi1, hi2⟩ hRi
  conv => cbv
  split
  ·   rename_i hc
      have hi : i < (t.Ways.length : Int) := ltT' hA rfl (lenI hA hwl) hc
      have his : A.iAdd i 1 = i + 1 := addI hA _ _
      have hir : A.inR (A.iAdd i 1) := inR' hA his (by unfold inI64; omega)
      have him : ((t.Ways.length : Int) - A.iAdd i 1).toNat < ((t.Ways.length : Int) - i).toNat := by rw [his]; omega
      have hin : (fun i => ∀ w ∈ t.Ways.take i.toNat, w.Legs.length ≤ 10 ∧ ∀ x ∈ w.Legs, x.Minutes.length ≤ 40) (i + 1) → 0 ≤ A.iAdd i 1 ∧ A.iAdd i 1 ≤ (t.Ways.length : Int) ∧ (fun i => ∀ w ∈ t.Ways.take i.toNat, w.Legs.length ≤ 10 ∧ ∀ x ∈ w.Legs, x.Minutes.length ≤ 40) (A.iAdd i 1) := fun h => by rw [his]; exact ⟨by omega, by omega, h⟩
      simp only at hin
      conv => cbv
      refine idx_Way hA hws hi0 hi (fun w v hw hv => ?_)
      have ht := take_snoc' hi0 hw
      have hm := List.mem_of_getElem? hw
      have hvl : v.length = w.Legs.length := by rw [hv]; simp [encLegs]
      have hwx := hw
      have hmw := fun (h : kb = true) => (hK h).2.2.2.2.2.1 w hm
      have hnx : w.Legs.length ≤ 10 → (∀ x ∈ w.Legs, x.Minutes.length ≤ 40) → ∀ w ∈ t.Ways.take (i + 1).toNat, w.Legs.length ≤ 10 ∧ ∀ x ∈ w.Legs, x.Minutes.length ≤ 40 := fun h1 h2 => mem_snoc ht hi2 ⟨h1, h2⟩
      clear hi2 ht hm
      obtain ⟨w1, w2, w3⟩ := w
      simp only at hvl hmw hnx hv
      conv => cbv
      split
      · rename_i hc
        conv => cbv
        exact hbad (fun h => by have := hmw h; have := ltT' hA rfl (lenI hA hvl) hc; omega)
      rename_i g6; replace g6 := ltF' hA rfl (lenI hA hvl) g6
      conv => cbv
      refine loop_set hA (fun (k : Int) s => s.put (some 4) (.val (.int .i64 k))) (fun k => 0 ≤ k ∧ k ≤ w3.length ∧ ∀ x ∈ w3.take k.toNat, x.Minutes.length ≤ 40) (fun k => (w3.length - k).toNat) 0 ?_ ?_ ?_
      · conv => cbv
        exact wk_sl (by repeat (first | refine leL_same ?_ | refine leL_any ?_ | exact leL_nil))
      · exact ⟨Int.le_refl _, by omega, by simp⟩
      rintro R3 k ⟨hk0, hk1, hk2⟩ hR3
      conv => cbv
      refine idx_Way hA hws hi0 hi (fun z u hz hu => ?_)
      rw [hwx] at hz
      cases hz
      have hu' : u = v := by rw [hu, hv]
      subst hu'
      conv => cbv
      split
      rotate_left
      · rename_i hc
        have hge : (w3.length : Int) ≤ k := ltF' hA rfl (lenI hA hvl) hc
        rw [List.take_of_length_le (by omega)] at hk2
        conv => cbv
        exact ⟨hir, hRi (A.iAdd i 1) _ (by (conv => cbv); exact wk_sl (by repeat (first | refine leL_same ?_ | refine leL_any ?_ | exact leL_nil))) (hin (hnx (by omega) hk2)) him⟩
      rename_i hc
      have hk : k < w3.length := ltT' hA rfl (lenI hA hvl) hc
      have hks' : A.iAdd k 1 = k + 1 := addI hA _ _
      have hkr : A.inR (A.iAdd k 1) := inR' hA hks' (by unfold inI64; omega)
      conv => cbv
      refine idx_Way hA hws hi0 hi (fun z u' hz hu' => ?_)
      rw [hwx] at hz
      cases hz
      have hu'' : u' = u := by rw [hu', hv]
      subst hu''
      conv => cbv
      refine idx_Leg hA hv hk0 hk (fun x y hx hy => ?_)
      have hm2 := List.mem_of_getElem? hx
      have htk := take_snoc' hk0 hx
      have hfew := ref05_Few x.Minutes hy
      by_cases hf : x.Minutes.length ≤ 40
      · rw [decide_eq_true hf] at hfew
        obtain ⟨x1, x2, x3, x4⟩ := x
        simp only at hf
        conv => cbv
        refine call_intro hA (hfew) ?_
        conv => cbv
        split
        · rename_i hc
          cases ((nT hA hc))
        conv => cbv
        refine ⟨hkr, hR3 (A.iAdd k 1) _ ?_ ?_ ?_⟩
        · conv => cbv
          exact wk_sl (by repeat (first | refine leL_same ?_ | refine leL_any ?_ | exact leL_nil))
        · rw [hks']
          exact ⟨by omega, by omega, mem_snoc htk hk2 hf⟩
        · rw [hks']; omega
      · rw [decide_eq_false hf] at hfew
        have hf2 := hbad (fun h => hf ((hmw h).2 _ hm2))
        obtain ⟨x1, x2, x3, x4⟩ := x
        conv => cbv
        refine call_intro hA (hfew) ?_
        conv => cbv
        split
        rotate_left
        · rename_i hc
          cases ((nF hA hc))
        conv => cbv
        exact hf2
  rename_i hc
  have hi : i = (t.Ways.length : Int) := by have := ltF' hA rfl (lenI hA hwl) hc; omega
  conv => cbv
  have hW := take_all hi hi2
  clear hi2 hi hi0 hi1
  refine loop_set hA (fun (i : Int) s => s.put (some 5) (.val (.int .i64 i))) (fun i => 0 ≤ i ∧ i ≤ (t.Kinds.length : Int) ∧ (fun i => ∀ w ∈ t.Kinds.take i.toNat, w.Curfews.length ≤ 20 ∧ ∀ x ∈ w.Curfews, x.length ≤ 40) i) (fun i => ((t.Kinds.length : Int) - i).toNat) 0 ?_ ?_ ?_
  · conv => cbv
    exact wk_sl (by repeat (first | refine leL_same ?_ | refine leL_any ?_ | exact leL_nil))
  · exact ⟨Int.le_refl _, by omega, by simp⟩
  rintro R i ⟨hi0, hi1, hi2⟩ hRi
  conv => cbv
  split
  ·   rename_i hc
      have hi : i < (t.Kinds.length : Int) := ltT' hA rfl (lenI hA hkl) hc
      have his : A.iAdd i 1 = i + 1 := addI hA _ _
      have hir : A.inR (A.iAdd i 1) := inR' hA his (by unfold inI64; omega)
      have him : ((t.Kinds.length : Int) - A.iAdd i 1).toNat < ((t.Kinds.length : Int) - i).toNat := by rw [his]; omega
      have hin : (fun i => ∀ w ∈ t.Kinds.take i.toNat, w.Curfews.length ≤ 20 ∧ ∀ x ∈ w.Curfews, x.length ≤ 40) (i + 1) → 0 ≤ A.iAdd i 1 ∧ A.iAdd i 1 ≤ (t.Kinds.length : Int) ∧ (fun i => ∀ w ∈ t.Kinds.take i.toNat, w.Curfews.length ≤ 20 ∧ ∀ x ∈ w.Curfews, x.length ≤ 40) (A.iAdd i 1) := fun h => by rw [his]; exact ⟨by omega, by omega, h⟩
      simp only at hin
      conv => cbv
      refine idx_Kind hA hks hi0 hi (fun w v hw hv => ?_)
      have ht := take_snoc' hi0 hw
      have hm := List.mem_of_getElem? hw
      have hvl : v.length = w.Curfews.length := by rw [hv]; simp [encSpanLs]
      have hwx := hw
      have hmw := fun (h : kb = true) => (hK h).2.2.2.2.2.2 w hm
      have hnx : w.Curfews.length ≤ 20 → (∀ x ∈ w.Curfews, x.length ≤ 40) → ∀ w ∈ t.Kinds.take (i + 1).toNat, w.Curfews.length ≤ 20 ∧ ∀ x ∈ w.Curfews, x.length ≤ 40 := fun h1 h2 => mem_snoc ht hi2 ⟨h1, h2⟩
      clear hi2 ht hm
      obtain ⟨w1, w2, w4, w5, w6, w3⟩ := w
      simp only at hvl hmw hnx hv
      conv => cbv
      split
      · rename_i hc
        conv => cbv
        exact hbad (fun h => by have := hmw h; have := ltT' hA rfl (lenI hA hvl) hc; omega)
      rename_i g6; replace g6 := ltF' hA rfl (lenI hA hvl) g6
      conv => cbv
      refine loop_set hA (fun (k : Int) s => s.put (some 6) (.val (.int .i64 k))) (fun k => 0 ≤ k ∧ k ≤ w3.length ∧ ∀ x ∈ w3.take k.toNat, x.length ≤ 40) (fun k => (w3.length - k).toNat) 0 ?_ ?_ ?_
      · conv => cbv
        exact wk_sl (by repeat (first | refine leL_same ?_ | refine leL_any ?_ | exact leL_nil))
      · exact ⟨Int.le_refl _, by omega, by simp⟩
      rintro R3 k ⟨hk0, hk1, hk2⟩ hR3
      conv => cbv
      refine idx_Kind hA hks hi0 hi (fun z u hz hu => ?_)
      rw [hwx] at hz
      cases hz
      have hu' : u = v := by rw [hu, hv]
      subst hu'
      conv => cbv
      split
      rotate_left
      · rename_i hc
        have hge : (w3.length : Int) ≤ k := ltF' hA rfl (lenI hA hvl) hc
        rw [List.take_of_length_le (by omega)] at hk2
        conv => cbv
        exact ⟨hir, hRi (A.iAdd i 1) _ (by (conv => cbv); exact wk_sl (by repeat (first | refine leL_same ?_ | refine leL_any ?_ | exact leL_nil))) (hin (hnx (by omega) hk2)) him⟩
      rename_i hc
      have hk : k < w3.length := ltT' hA rfl (lenI hA hvl) hc
      have hks' : A.iAdd k 1 = k + 1 := addI hA _ _
      have hkr : A.inR (A.iAdd k 1) := inR' hA hks' (by unfold inI64; omega)
      conv => cbv
      refine idx_Kind hA hks hi0 hi (fun z u' hz hu' => ?_)
      rw [hwx] at hz
      cases hz
      have hu'' : u' = u := by rw [hu', hv]
      subst hu''
      conv => cbv
      refine idx_SpanL hA hv hk0 hk (fun x y hx hy => ?_)
      have hm2 := List.mem_of_getElem? hx
      have htk := take_snoc' hk0 hx
      have hfew := ref05_Few x hy
      by_cases hf : x.length ≤ 40
      · rw [decide_eq_true hf] at hfew
        conv => cbv
        refine call_intro hA (hfew) ?_
        conv => cbv
        split
        · rename_i hc
          cases ((nT hA hc))
        conv => cbv
        refine ⟨hkr, hR3 (A.iAdd k 1) _ ?_ ?_ ?_⟩
        · conv => cbv
          exact wk_sl (by repeat (first | refine leL_same ?_ | refine leL_any ?_ | exact leL_nil))
        · rw [hks']
          exact ⟨by omega, by omega, mem_snoc htk hk2 hf⟩
        · rw [hks']; omega
      · rw [decide_eq_false hf] at hfew
        have hf2 := hbad (fun h => hf ((hmw h).2 _ hm2))
        conv => cbv
        refine call_intro hA (hfew) ?_
        conv => cbv
        split
        rotate_left
        · rename_i hc
          cases ((nF hA hc))
        conv => cbv
        exact hf2
  rename_i hc
  have hi : i = (t.Kinds.length : Int) := by have := ltF' hA rfl (lenI hA hkl) hc; omega
  conv => cbv
  rw [← hq, hK2 ⟨by omega, by omega, by omega, by omega, by omega, hW, take_all hi hi2⟩]
end Go.Abs
