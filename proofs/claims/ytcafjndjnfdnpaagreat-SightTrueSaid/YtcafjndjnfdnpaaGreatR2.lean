/-
  Functions of the reference: tables of few things.
  Functions of the reference: tables of few things, the whole (printed by program).
-/
import Derived.Test.YtcafjndjnfdnpaaGreatF4
set_option linter.unusedVariables false
set_option linter.unusedSimpArgs false
namespace Go.Abs
open Go.RowKit Go.Proofs

def few10 (nv : Nat) (S : List Sector) (C : List Config) : Bool := S.all (fun s => decide (s.Volumes.length ≤ 10)) && C.all (fun c => decide (c.Sectors.length ≤ 10)) && (decide (nv ≤ 6) && (decide (S.length ≤ 12) && decide (C.length ≤ 7)))

set_option maxHeartbeats 1000000 in
theorem ref_Few10 (m : Nat) (vs : List PV) (S : List Sector) (C : List Config) {ss cs : List PV} (hS : ss = encSectors S) (hC : cs = encConfigs C) : CallsPV Tryz.prog 48 [encAir m vs ss cs] (.bool (few10 vs.length S C)) := by
  refine callsPV_by (clo := fun _ => false) (rows := false) env_ok Tryz.func48 rfl (enters_of Tryz.func48 (by kernel_rfl) rfl) (fun A q P Y hr hA hq => ?_)
  have hsl : A.lLen ss = S.length := by subst hA; show (ss.length : Int) = _; rw [hS]; simp [encSectors]
  have hcl : A.lLen cs = C.length := by subst hA; show (cs.length : Int) = _; rw [hC]; simp [encConfigs]
  have hsb : S.length ≤ 9223372036854775807 := by
    have := (Real.cell (show Real [.agg _] from hr) (c := .list 5 ss) (by simp)).len
    rw [hS] at this; simpa [encSectors] using this
  have hcb : C.length ≤ 9223372036854775807 := by
    have := (Real.cell (show Real [.agg _] from hr) (c := .list 3 cs) (by simp)).len
    rw [hC] at this; simpa [encConfigs] using this
  obtain ⟨n, hn⟩ : ∃ n, n = vs.length := ⟨_, rfl⟩
  have hvl : A.lLen vs = n := by subst hA; rw [hn]; rfl
  rw [← hn] at hq
  conv => cbv
  refine loop_set hA (fun (i : Int) s => s.put (some 3) (.val (.int .i64 i))) (fun i => 0 ≤ i ∧ i ≤ S.length ∧ (S.take i.toNat).all (fun s => decide (s.Volumes.length ≤ 10)) = true) (fun i => (S.length - i).toNat) 0 ?_ ?_ ?_
  · conv => cbv
    exact wk_sl (by simp [leL, leS])
  · exact ⟨Int.le_refl _, by omega, by simp⟩
  rintro R i ⟨hi0, hi1, hi2⟩ hR
  conv => cbv
  split
  · rename_i hc
    have hc' : i < S.length := by
      have h' : A.iLt i (A.lLen ss) = true := hc
      rw [hsl] at h'; subst hA; simpa [stdOps] using h'
    conv => cbv
    refine idx_Sector hA hS hi0 hc' (fun x u1 u2 hx hu1 hu2 => ?_)
    have htake := take_snoc' hi0 hx
    have hul : A.lLen u2 = x.Volumes.length := by subst hA; show (u2.length : Int) = _; rw [hu2]; simp [encInts]
    have hi1' : A.iAdd i 1 = i + 1 := by subst hA; rfl
    have hinr : A.inR (A.iAdd i 1) := by rw [hi1']; subst hA; show inI64 (i + 1); unfold inI64; omega
    conv => cbv
    split
    · rename_i hc2
      have h2 : ¬ x.Volumes.length ≤ 10 := by
        have h' : A.iLt 10 (A.lLen u2) = true := hc2
        rw [hul] at h'; subst hA; simp [stdOps] at h'; omega
      conv => cbv
      have : S.all (fun s => decide (s.Volumes.length ≤ 10)) = false := by
        rw [List.all_eq_false]; exact ⟨x, List.mem_of_getElem? hx, by simp; omega⟩
      rw [← hq]; unfold few10; rw [this]; rfl
    · rename_i hc2
      have h2 : x.Volumes.length ≤ 10 := by
        have h' : A.iLt 10 (A.lLen u2) = false := hc2
        rw [hul] at h'; subst hA; simp [stdOps] at h'; omega
      conv => cbv
      refine ⟨hinr, hR (A.iAdd i 1) _ (by (conv => cbv); exact wk_sl (by simp [leL, leS])) ?_ ?_⟩
      · rw [hi1', htake]
        exact ⟨by omega, by omega, by rw [List.all_append, hi2]; simp [h2]⟩
      · rw [hi1']; omega
  rename_i hc
  have hc' : ¬ i < S.length := by
    have h' : A.iLt i (A.lLen ss) = false := hc
    rw [hsl] at h'; subst hA; simp [stdOps] at h'; omega
  rw [List.take_of_length_le (by omega)] at hi2
  clear hR hc hc'
  conv => cbv
  refine loop_set hA (fun (i : Int) s => s.put (some 4) (.val (.int .i64 i))) (fun i => 0 ≤ i ∧ i ≤ C.length ∧ (C.take i.toNat).all (fun s => decide (s.Sectors.length ≤ 10)) = true) (fun i => (C.length - i).toNat) 0 ?_ ?_ ?_
  · conv => cbv
    exact wk_sl (by simp [leL, leS])
  · exact ⟨Int.le_refl _, by omega, by simp⟩
  rintro R j ⟨hj0, hj1, hj2⟩ hR
  conv => cbv
  split
  · rename_i hc
    have hc' : j < C.length := by
      have h' : A.iLt j (A.lLen cs) = true := hc
      rw [hcl] at h'; subst hA; simpa [stdOps] using h'
    conv => cbv
    refine idx_Config hA hC hj0 hc' (fun x u1 u2 hx hu1 hu2 => ?_)
    have htake := take_snoc' hj0 hx
    have hul : A.lLen u2 = x.Sectors.length := by subst hA; show (u2.length : Int) = _; rw [hu2]; simp [encInts]
    have hi1' : A.iAdd j 1 = j + 1 := by subst hA; rfl
    have hinr : A.inR (A.iAdd j 1) := by rw [hi1']; subst hA; show inI64 (j + 1); unfold inI64; omega
    conv => cbv
    split
    · rename_i hc2
      have h2 : ¬ x.Sectors.length ≤ 10 := by
        have h' : A.iLt 10 (A.lLen u2) = true := hc2
        rw [hul] at h'; subst hA; simp [stdOps] at h'; omega
      conv => cbv
      have : C.all (fun s => decide (s.Sectors.length ≤ 10)) = false := by
        rw [List.all_eq_false]; exact ⟨x, List.mem_of_getElem? hx, by simp; omega⟩
      rw [← hq]; unfold few10; rw [this, Bool.and_false]; rfl
    · rename_i hc2
      have h2 : x.Sectors.length ≤ 10 := by
        have h' : A.iLt 10 (A.lLen u2) = false := hc2
        rw [hul] at h'; subst hA; simp [stdOps] at h'; omega
      conv => cbv
      refine ⟨hinr, hR (A.iAdd j 1) _ (by (conv => cbv); exact wk_sl (by simp [leL, leS])) ?_ ?_⟩
      · rw [hi1', htake]
        exact ⟨by omega, by omega, by rw [List.all_append, hj2]; simp [h2]⟩
      · rw [hi1']; omega
  rename_i hc
  have hc' : ¬ j < C.length := by
    have h' : A.iLt j (A.lLen cs) = false := hc
    rw [hcl] at h'; subst hA; simp [stdOps] at h'; omega
  rw [List.take_of_length_le (by omega)] at hj2
  unfold few10 at hq
  rw [hi2, hj2] at hq
  simp only [Bool.true_and] at hq
  have e1 : A.iLe (A.lLen vs) 6 = decide (n ≤ 6) := by rw [hvl]; subst hA; show decide ((n : Int) ≤ 6) = _; simp; omega
  have e2 : A.iLe (A.lLen ss) 12 = decide (S.length ≤ 12) := by rw [hsl]; subst hA; show decide ((S.length : Int) ≤ 12) = _; simp; omega
  have e3 : A.iLe (A.lLen cs) 7 = decide (C.length ≤ 7) := by rw [hcl]; subst hA; show decide ((C.length : Int) ≤ 7) = _; simp; omega
  rw [← e1, ← e2, ← e3] at hq
  conv => cbv
  split
  · rename_i hc2
    have h2 : A.iLe (A.lLen vs) 6 = true := hc2
    rw [h2] at hq
    conv => cbv
    split
    · rename_i hc3
      have h3 : A.iLe (A.lLen ss) 12 = true := hc3
      rw [h3] at hq
      conv => cbv
      rw [← hq]; rfl
    · rename_i hc3
      have h3 : A.iLe (A.lLen ss) 12 = false := hc3
      rw [h3] at hq
      conv => cbv
      rw [← hq]; rfl
  · rename_i hc2
    have h2 : A.iLe (A.lLen vs) 6 = false := hc2
    rw [h2] at hq
    conv => cbv
    rw [← hq]; rfl
end Go.Abs

namespace Go.Abs
open Go.RowKit Go.Proofs

def fewWay (w : Way) : Bool := w.Legs.all (fun x => decide (x.Minutes.length ≤ 10)) && decide (w.Legs.length ≤ 10)
def fewKind (w : Kind) : Bool := w.Curfews.all (fun x => decide (x.length ≤ 10)) && decide (w.Curfews.length ≤ 10)
def few14 (t : Tables) : Bool := t.Ways.all fewWay && t.Kinds.all fewKind && t.Modes.all (fun l => decide (l.length ≤ 20)) && (decide (t.Volumes ≤ 6) && (few10 0 t.Sectors t.Configs && (decide (t.Ways.length ≤ 8) && (decide (t.Modes.length ≤ 6) && decide (t.Kinds.length ≤ 6)))))

set_option maxHeartbeats 4000000 in
theorem ref_Few14 (t : Tables) : CallsPV Tryz.prog 12 [encTables t] (.bool (few14 t)) := by
  refine callsPV_by (clo := fun _ => false) (rows := false) env_ok Tryz.func12 rfl (enters_of Tryz.func12 (by kernel_rfl) rfl) (fun A q P Y hr hA hq => ?_)
  have hlw : t.Ways.length ≤ 9223372036854775807 := by
    have := (Real.cell (show Real [.agg _] from hr) (c := .list 3 (encWays t.Ways)) (by simp)).len
    simpa [encWays] using this
  have hlk : t.Kinds.length ≤ 9223372036854775807 := by
    have := (Real.cell (show Real [.agg _] from hr) (c := .list 6 (encKinds t.Kinds)) (by simp)).len
    simpa [encKinds] using this
  have hlm : t.Modes.length ≤ 9223372036854775807 := by
    have := (Real.cell (show Real [.agg _] from hr) (c := .list 1 (encIntLs t.Modes)) (by simp)).len
    simpa [encIntLs] using this
  obtain ⟨ss, hss⟩ : ∃ ss, ss = encSectors t.Sectors := ⟨_, rfl⟩
  obtain ⟨cs, hcs⟩ : ∃ cs, cs = encConfigs t.Configs := ⟨_, rfl⟩
  obtain ⟨ws, hws⟩ : ∃ ws, ws = encWays t.Ways := ⟨_, rfl⟩
  obtain ⟨ms, hms⟩ : ∃ ms, ms = encIntLs t.Modes := ⟨_, rfl⟩
  obtain ⟨ks, hks⟩ : ∃ ks, ks = encKinds t.Kinds := ⟨_, rfl⟩
  have hwl : A.lLen ws = t.Ways.length := by subst hA; show (ws.length : Int) = _; rw [hws]; simp [encWays]
  have hkl : A.lLen ks = t.Kinds.length := by subst hA; show (ks.length : Int) = _; rw [hks]; simp [encKinds]
  have hml : A.lLen ms = t.Modes.length := by subst hA; show (ms.length : Int) = _; rw [hms]; simp [encIntLs]
  have h10 := ref_Few10 0 [] t.Sectors t.Configs hss hcs
  rw [encTables_eq t hss hcs hws hms hks]
  obtain ⟨b10, hb10⟩ : ∃ b, b = few10 (([] : List PV).length) t.Sectors t.Configs := ⟨_, rfl⟩
  have hfw : ∀ w ∈ t.Ways, fewWay w = false → few14 t = false := fun w hw h => by
    unfold few14
    rw [List.all_eq_false.2 ⟨w, hw, by rw [h]; simp⟩]; rfl
  have hfk : ∀ w ∈ t.Kinds, fewKind w = false → few14 t = false := fun w hw h => by
    unfold few14
    rw [show t.Kinds.all fewKind = false from List.all_eq_false.2 ⟨w, hw, by rw [h]; simp⟩, Bool.and_false]; rfl
  have hfm : ∀ l ∈ t.Modes, ¬ l.length ≤ 20 → few14 t = false := fun l hl h => by
    unfold few14
    rw [show t.Modes.all (fun l => decide (l.length ≤ 20)) = false from List.all_eq_false.2 ⟨l, hl, by simp; omega⟩, Bool.and_false]; rfl
  obtain ⟨nv, hnv⟩ : ∃ nv, nv = t.Volumes := ⟨_, rfl⟩
  rw [← hnv]
  conv => cbv
  refine loop_set hA (fun (i : Int) s => s.put (some 3) (.val (.int .i64 i))) (fun i => 0 ≤ i ∧ i ≤ t.Ways.length ∧ (t.Ways.take i.toNat).all fewWay = true) (fun i => (t.Ways.length - i).toNat) 0 ?_ ?_ ?_
  · conv => cbv
    exact wk_sl (by simp [leL, leS])
  · exact ⟨Int.le_refl _, by omega, by simp⟩
  rintro R i ⟨hi0, hi1, hi2⟩ hR
  conv => cbv
  split
  · rename_i hc
    have hc' : i < t.Ways.length := by
      have h' : A.iLt i (A.lLen ws) = true := hc
      rw [hwl] at h'; subst hA; simpa [stdOps] using h'
    conv => cbv
    refine loop_set hA (fun (k : Int) s => s.put (some 4) (.val (.int .i64 k))) (fun k => 0 ≤ k ∧ ∀ x, t.Ways[i.toNat]? = some x → k ≤ x.Legs.length ∧ k ≤ 10 ∧ (x.Legs.take k.toNat).all (fun x => decide (x.Minutes.length ≤ 10)) = true) (fun k => (10 - k).toNat) 0 ?_ ?_ ?_
    · conv => cbv
      exact wk_sl (by simp [leL, leS])
    · exact ⟨Int.le_refl _, fun x _ => ⟨by omega, by omega, by simp⟩⟩
    rintro R2 k ⟨hk0, hk1⟩ hR2
    conv => cbv
    refine idx_Way hA hws hi0 hc' (fun x u hx hu => ?_)
    obtain ⟨hk2, hk3, hk4⟩ := hk1 x hx
    have htake := take_snoc' hi0 hx
    have hul : A.lLen u = x.Legs.length := by subst hA; show (u.length : Int) = _; rw [hu]; simp [encLegs]
    have hmem := List.mem_of_getElem? hx
    have hi1' : A.iAdd i 1 = i + 1 := by subst hA; rfl
    have hk1' : A.iAdd k 1 = k + 1 := by subst hA; rfl
    have hinr : A.inR (A.iAdd i 1) := by rw [hi1']; subst hA; show inI64 (i + 1); unfold inI64; omega
    have hinrk : A.inR (A.iAdd k 1) := by rw [hk1']; subst hA; show inI64 (k + 1); unfold inI64; omega
    conv => cbv
    split
    · rename_i hc2
      have hc2' : k < x.Legs.length := by
        have h' : A.iLt k (A.lLen u) = true := hc2
        rw [hul] at h'; subst hA; simpa [stdOps] using h'
      conv => cbv
      split
      · rename_i hc3
        have h3 : 10 ≤ k := by
          have h' : A.iLe 10 k = true := hc3
          subst hA; simpa [stdOps] using h'
        conv => cbv
        rw [← hq, hfw x hmem (by unfold fewWay; rw [decide_eq_false (show ¬ x.Legs.length ≤ 10 by omega), Bool.and_false])]
      · rename_i hc3
        have h3 : k < 10 := by
          have h' : A.iLe 10 k = false := hc3
          subst hA; simp [stdOps] at h'; omega
        conv => cbv
        refine idx_Way hA hws hi0 hc' (fun x' u' hx' hu' => ?_)
        rw [hx] at hx'
        simp only [Option.some.injEq] at hx'
        subst hx'
        rw [← hu] at hu'
        subst hu'
        conv => cbv
        refine idx_Leg hA hu hk0 hc2' (fun y v hy hv => ?_)
        have htk := take_snoc' hk0 hy
        have hvl : A.lLen v = y.Minutes.length := by subst hA; show (v.length : Int) = _; rw [hv]; simp [encSpans]
        conv => cbv
        split
        · rename_i hc4
          have h4 : ¬ y.Minutes.length ≤ 10 := by
            have h' : A.iLt 10 (A.lLen v) = true := hc4
            rw [hvl] at h'; subst hA; simp [stdOps] at h'; omega
          conv => cbv
          rw [← hq, hfw x hmem (by unfold fewWay; rw [show x.Legs.all (fun x => decide (x.Minutes.length ≤ 10)) = false from List.all_eq_false.2 ⟨y, List.mem_of_getElem? hy, by simp; omega⟩]; rfl)]
        · rename_i hc4
          have h4 : y.Minutes.length ≤ 10 := by
            have h' : A.iLt 10 (A.lLen v) = false := hc4
            rw [hvl] at h'; subst hA; simp [stdOps] at h'; omega
          conv => cbv
          refine ⟨hinrk, hR2 (A.iAdd k 1) _ (by (conv => cbv); exact wk_sl (by simp [leL, leS])) ?_ ?_⟩
          · rw [hk1']
            refine ⟨by omega, fun x2 hx2 => ?_⟩
            rw [hx] at hx2
            simp only [Option.some.injEq] at hx2
            subst hx2
            exact ⟨by omega, by omega, by rw [htk, List.all_append, hk4]; simp [h4]⟩
          · rw [hk1']; omega
    · rename_i hc2
      have hc2' : ¬ k < x.Legs.length := by
        have h' : A.iLt k (A.lLen u) = false := hc2
        rw [hul] at h'; subst hA; simp [stdOps] at h'; omega
      rw [List.take_of_length_le (by omega)] at hk4
      have hok : fewWay x = true := by unfold fewWay; rw [hk4, decide_eq_true (by omega)]; rfl
      conv => cbv
      refine ⟨hinr, hR (A.iAdd i 1) _ (by (conv => cbv); exact wk_sl (by simp [leL, leS])) ?_ ?_⟩
      · rw [hi1', htake]
        exact ⟨by omega, by omega, by rw [List.all_append, hi2]; simp [hok]⟩
      · rw [hi1']; omega
  rename_i hc
  have hc' : ¬ i < t.Ways.length := by
    have h' : A.iLt i (A.lLen ws) = false := hc
    rw [hwl] at h'; subst hA; simp [stdOps] at h'; omega
  rw [List.take_of_length_le (by omega)] at hi2
  have hW := hi2
  clear hi2 hc hc' hR
  conv => cbv
  refine loop_set hA (fun (i : Int) s => s.put (some 5) (.val (.int .i64 i))) (fun i => 0 ≤ i ∧ i ≤ t.Kinds.length ∧ (t.Kinds.take i.toNat).all fewKind = true) (fun i => (t.Kinds.length - i).toNat) 0 ?_ ?_ ?_
  · conv => cbv
    exact wk_sl (by simp [leL, leS])
  · exact ⟨Int.le_refl _, by omega, by simp⟩
  rintro R i ⟨hi0, hi1, hi2⟩ hR
  conv => cbv
  split
  · rename_i hc
    have hc' : i < t.Kinds.length := by
      have h' : A.iLt i (A.lLen ks) = true := hc
      rw [hkl] at h'; subst hA; simpa [stdOps] using h'
    conv => cbv
    refine loop_set hA (fun (k : Int) s => s.put (some 6) (.val (.int .i64 k))) (fun k => 0 ≤ k ∧ ∀ x, t.Kinds[i.toNat]? = some x → k ≤ x.Curfews.length ∧ k ≤ 10 ∧ (x.Curfews.take k.toNat).all (fun x => decide (x.length ≤ 10)) = true) (fun k => (10 - k).toNat) 0 ?_ ?_ ?_
    · conv => cbv
      exact wk_sl (by simp [leL, leS])
    · exact ⟨Int.le_refl _, fun x _ => ⟨by omega, by omega, by simp⟩⟩
    rintro R2 k ⟨hk0, hk1⟩ hR2
    conv => cbv
    refine idx_Kind hA hks hi0 hc' (fun x u hx hu => ?_)
    obtain ⟨hk2, hk3, hk4⟩ := hk1 x hx
    have htake := take_snoc' hi0 hx
    have hul : A.lLen u = x.Curfews.length := by subst hA; show (u.length : Int) = _; rw [hu]; simp [encSpanLs]
    have hmem := List.mem_of_getElem? hx
    have hi1' : A.iAdd i 1 = i + 1 := by subst hA; rfl
    have hk1' : A.iAdd k 1 = k + 1 := by subst hA; rfl
    have hinr : A.inR (A.iAdd i 1) := by rw [hi1']; subst hA; show inI64 (i + 1); unfold inI64; omega
    have hinrk : A.inR (A.iAdd k 1) := by rw [hk1']; subst hA; show inI64 (k + 1); unfold inI64; omega
    conv => cbv
    split
    · rename_i hc2
      have hc2' : k < x.Curfews.length := by
        have h' : A.iLt k (A.lLen u) = true := hc2
        rw [hul] at h'; subst hA; simpa [stdOps] using h'
      conv => cbv
      split
      · rename_i hc3
        have h3 : 10 ≤ k := by
          have h' : A.iLe 10 k = true := hc3
          subst hA; simpa [stdOps] using h'
        conv => cbv
        rw [← hq, hfk x hmem (by unfold fewKind; rw [decide_eq_false (show ¬ x.Curfews.length ≤ 10 by omega), Bool.and_false])]
      · rename_i hc3
        have h3 : k < 10 := by
          have h' : A.iLe 10 k = false := hc3
          subst hA; simp [stdOps] at h'; omega
        conv => cbv
        refine idx_Kind hA hks hi0 hc' (fun x' u' hx' hu' => ?_)
        rw [hx] at hx'
        simp only [Option.some.injEq] at hx'
        subst hx'
        rw [← hu] at hu'
        subst hu'
        conv => cbv
        refine idx_SpanL hA hu hk0 hc2' (fun y v hy hv => ?_)
        have htk := take_snoc' hk0 hy
        have hvl : A.lLen v = y.length := by subst hA; show (v.length : Int) = _; rw [hv]; simp [encSpans]
        conv => cbv
        split
        · rename_i hc4
          have h4 : ¬ y.length ≤ 10 := by
            have h' : A.iLt 10 (A.lLen v) = true := hc4
            rw [hvl] at h'; subst hA; simp [stdOps] at h'; omega
          conv => cbv
          rw [← hq, hfk x hmem (by unfold fewKind; rw [show x.Curfews.all (fun x => decide (x.length ≤ 10)) = false from List.all_eq_false.2 ⟨y, List.mem_of_getElem? hy, by simp; omega⟩]; rfl)]
        · rename_i hc4
          have h4 : y.length ≤ 10 := by
            have h' : A.iLt 10 (A.lLen v) = false := hc4
            rw [hvl] at h'; subst hA; simp [stdOps] at h'; omega
          conv => cbv
          refine ⟨hinrk, hR2 (A.iAdd k 1) _ (by (conv => cbv); exact wk_sl (by simp [leL, leS])) ?_ ?_⟩
          · rw [hk1']
            refine ⟨by omega, fun x2 hx2 => ?_⟩
            rw [hx] at hx2
            simp only [Option.some.injEq] at hx2
            subst hx2
            exact ⟨by omega, by omega, by rw [htk, List.all_append, hk4]; simp [h4]⟩
          · rw [hk1']; omega
    · rename_i hc2
      have hc2' : ¬ k < x.Curfews.length := by
        have h' : A.iLt k (A.lLen u) = false := hc2
        rw [hul] at h'; subst hA; simp [stdOps] at h'; omega
      rw [List.take_of_length_le (by omega)] at hk4
      have hok : fewKind x = true := by unfold fewKind; rw [hk4, decide_eq_true (by omega)]; rfl
      conv => cbv
      refine ⟨hinr, hR (A.iAdd i 1) _ (by (conv => cbv); exact wk_sl (by simp [leL, leS])) ?_ ?_⟩
      · rw [hi1', htake]
        exact ⟨by omega, by omega, by rw [List.all_append, hi2]; simp [hok]⟩
      · rw [hi1']; omega
  rename_i hc
  have hc' : ¬ i < t.Kinds.length := by
    have h' : A.iLt i (A.lLen ks) = false := hc
    rw [hkl] at h'; subst hA; simp [stdOps] at h'; omega
  rw [List.take_of_length_le (by omega)] at hi2
  have hK := hi2
  clear hi2 hc hc' hR
  conv => cbv
  refine loop_set hA (fun (i : Int) s => s.put (some 7) (.val (.int .i64 i))) (fun i => 0 ≤ i ∧ i ≤ t.Modes.length ∧ (t.Modes.take i.toNat).all (fun l => decide (l.length ≤ 20)) = true) (fun i => (t.Modes.length - i).toNat) 0 ?_ ?_ ?_
  · conv => cbv
    exact wk_sl (by simp [leL, leS])
  · exact ⟨Int.le_refl _, by omega, by simp⟩
  rintro R i ⟨hi0, hi1, hi2⟩ hR
  conv => cbv
  split
  · rename_i hc
    have hc' : i < t.Modes.length := by
      have h' : A.iLt i (A.lLen ms) = true := hc
      rw [hml] at h'; subst hA; simpa [stdOps] using h'
    conv => cbv
    refine idx_IntL hA hms hi0 hc' (fun x u hx hu => ?_)
    have htake := take_snoc' hi0 hx
    have hul : A.lLen u = x.length := by subst hA; show (u.length : Int) = _; rw [hu]; simp [encInts]
    have hi1' : A.iAdd i 1 = i + 1 := by subst hA; rfl
    have hinr : A.inR (A.iAdd i 1) := by rw [hi1']; subst hA; show inI64 (i + 1); unfold inI64; omega
    conv => cbv
    split
    · rename_i hc2
      have h2 : ¬ x.length ≤ 20 := by
        have h' : A.iLt 20 (A.lLen u) = true := hc2
        rw [hul] at h'; subst hA; simp [stdOps] at h'; omega
      conv => cbv
      rw [← hq, hfm x (List.mem_of_getElem? hx) h2]
    · rename_i hc2
      have h2 : x.length ≤ 20 := by
        have h' : A.iLt 20 (A.lLen u) = false := hc2
        rw [hul] at h'; subst hA; simp [stdOps] at h'; omega
      conv => cbv
      refine ⟨hinr, hR (A.iAdd i 1) _ (by (conv => cbv); exact wk_sl (by simp [leL, leS])) ?_ ?_⟩
      · rw [hi1', htake]
        exact ⟨by omega, by omega, by rw [List.all_append, hi2]; simp [h2]⟩
      · rw [hi1']; omega
  rename_i hc
  have hc' : ¬ i < t.Modes.length := by
    have h' : A.iLt i (A.lLen ms) = false := hc
    rw [hml] at h'; subst hA; simp [stdOps] at h'; omega
  rw [List.take_of_length_le (by omega)] at hi2
  unfold few14 at hq
  rw [hW, hK, hi2] at hq
  simp only [Bool.true_and] at hq
  have e0 : A.iLe nv 6 = decide (t.Volumes ≤ 6) := by rw [← hnv]; subst hA; rfl
  have e1 : A.iLe (A.lLen ws) 8 = decide (t.Ways.length ≤ 8) := by rw [hwl]; subst hA; show decide ((t.Ways.length : Int) ≤ 8) = _; simp; omega
  have e2 : A.iLe (A.lLen ms) 6 = decide (t.Modes.length ≤ 6) := by rw [hml]; subst hA; show decide ((t.Modes.length : Int) ≤ 6) = _; simp; omega
  have e3 : A.iLe (A.lLen ks) 6 = decide (t.Kinds.length ≤ 6) := by rw [hkl]; subst hA; show decide ((t.Kinds.length : Int) ≤ 6) = _; simp; omega
  rw [show few10 0 t.Sectors t.Configs = b10 from hb10.symm, ← e0, ← e1, ← e2, ← e3] at hq
  rw [← hb10] at h10
  conv => cbv
  split
  rotate_left
  · rename_i c
    rw [show A.iLe nv 6 = false from c] at hq
    conv => cbv
    rw [← hq]; rfl
  rename_i c
  rw [show A.iLe nv 6 = true from c] at hq
  conv => cbv
  refine call_intro hA h10 ?_
  conv => cbv
  cases b10 with
  | false =>
    conv => cbv
    rw [← hq]; rfl
  | true =>
  conv => cbv
  split
  rotate_left
  · rename_i c
    rw [show A.iLe (A.lLen ws) 8 = false from c] at hq
    conv => cbv
    rw [← hq]; rfl
  rename_i c
  rw [show A.iLe (A.lLen ws) 8 = true from c] at hq
  conv => cbv
  split
  rotate_left
  · rename_i c
    rw [show A.iLe (A.lLen ms) 6 = false from c] at hq
    conv => cbv
    rw [← hq]; rfl
  rename_i c
  rw [show A.iLe (A.lLen ms) 6 = true from c] at hq
  conv => cbv
  rw [← hq]
  rfl
end Go.Abs
