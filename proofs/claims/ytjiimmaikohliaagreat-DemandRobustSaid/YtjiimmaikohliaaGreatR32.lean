/-
  References: ref19.In, Sector, Few.
-/
import Derived.Test.YtjiimmaikohliaaGreatR31
set_option linter.unusedVariables false
set_option linter.unusedSimpArgs false
namespace Go.Abs
open Go.RowKit Go.Proofs

/-- The change in force, by its index. -/
def BestAt (s : List Change) (o : Option Change) (b i : Int) : Prop := match o with
  | none => b = -1
  | some d => 0 ≤ b ∧ b < i ∧ s[b.toNat]? = some d
set_option maxHeartbeats 4000000 in
theorem ref19_In (s : List Change) (m : Int) : CallsPV Tryz.prog 115 [encScheme s, .int .i64 m] (inR_ s m) := by
  refine callsPV_by (clo := fun _ => false) (rows := false) env_ok Tryz.func115 rfl (enters_of Tryz.func115 (by kernel_rfl) rfl) (fun A q P Y hr hA hq => ?_)
  obtain ⟨xs, hxs⟩ : ∃ xs, xs = encChanges s := ⟨_, rfl⟩
  have hxl : xs.length = s.length := by rw [hxs]; simp [encChanges]
  have hlen : s.length ≤ 9223372036854775807 := by
    have := (Real.cell (show Real [.agg [_]] from hr.mem (p := encScheme s) (by simp)) (c := .list 3 (encChanges s)) (by simp)).len
    rw [← hxs, hxl] at this; exact this
  rw [encScheme_eq hxs]
  conv => cbv
  refine loop_set hA (fun (y : Int × Int) s => (s.put (some 7) (.val (.int .i64 y.1))).put (some 6) (.val (.int .i64 y.2)))
    (fun y => 0 ≤ y.1 ∧ y.1 ≤ s.length ∧ BestAt s ((s.take y.1.toNat).foldl (inStep m) none) y.2 y.1) (fun y => (s.length - y.1).toNat) (0, -1) ?_ ?_ ?_
  · conv => cbv
    exact wk_sl (by repeat (first | refine leL_same ?_ | refine leL_any ?_ | exact leL_nil))
  · exact ⟨Int.le_refl _, by omega, rfl⟩
  rintro R ⟨i, b⟩ ⟨hi0, hi1, hi2⟩ hR
  simp only at hi0 hi1 hi2
  conv => cbv
  split
  · rename_i hc
    have hi : i < s.length := ltT' hA rfl (lenI hA hxl) hc
    conv => cbv
    refine ⟨draw_intro hA (by kernel_rfl), ?_⟩
    refine idx_Change hA hxs hi0 hi (fun x v hx hv => ?_)
    have ht : (s.take (i + 1).toNat).foldl (inStep m) none = inStep m ((s.take i.toNat).foldl (inStep m) none) x := by
      rw [take_snoc' hi0 hx, foldl_snoc]
    generalize (s.take i.toNat).foldl (inStep m) none = o at hi2 ht
    have his : A.iAdd i 1 = i + 1 := addI hA _ _
    have hir : A.inR (A.iAdd i 1) := inR' hA his (by unfold inI64; omega)
    have him : ((s.length : Int) - A.iAdd i 1).toNat < (s.length - i).toNat := by rw [his]; omega
    have hnx : ∀ b', BestAt s (inStep m o x) b' (i + 1) → 0 ≤ A.iAdd i 1 ∧ A.iAdd i 1 ≤ s.length ∧ BestAt s ((s.take (A.iAdd i 1).toNat).foldl (inStep m) none) b' (A.iAdd i 1) := fun b' h => by
      rw [his, ht]; exact ⟨by omega, by omega, h⟩
    have hgo : (∀ d, o = some d → d.From ≤ x.From) → x.From ≤ m → BestAt s (inStep m o x) i (i + 1) := fun h1 h2 => by
      have : inStep m o x = some x := by
        unfold inStep
        rw [if_pos h2]
        cases o with
        | none => rfl
        | some d => simp only; rw [if_pos (h1 d rfl)]
      rw [this]
      exact ⟨hi0, by omega, hx⟩
    have hstay : m < x.From ∨ (∃ d, o = some d ∧ x.From < d.From) → BestAt s (inStep m o x) b (i + 1) := fun h => by
      have : inStep m o x = o := by
        unfold inStep
        split
        · rcases h with h | ⟨d, rfl, h⟩
          · omega
          · simp only; rw [if_neg (by omega)]
        · rfl
      rw [this]
      cases o with
      | none => exact hi2
      | some d => exact ⟨hi2.1, by have := hi2.2.1; omega, hi2.2.2⟩
    have hxx := hx
    obtain ⟨x1, x2, x3⟩ := x
    simp only at hv hgo hstay
    conv => cbv
    split
    rotate_left
    · rename_i hc
      have g1 := leF hA hc
      conv => cbv
      exact ⟨hir, hR (A.iAdd i 1, b) _ (by (conv => cbv); exact wk_sl (by repeat (first | refine leL_same ?_ | refine leL_any ?_ | exact leL_nil))) (hnx _ (hstay (.inl g1))) him⟩
    rename_i hc
    have g1 := leT hA hc
    conv => cbv
    split
    · rename_i hc
      have g2 := ltT hA hc
      have ho : o = none := by
        cases o with
        | none => rfl
        | some d => have := hi2.1; omega
      conv => cbv
      exact ⟨hir, hR (A.iAdd i 1, i) _ (by (conv => cbv); exact wk_sl (by repeat (first | refine leL_same ?_ | refine leL_any ?_ | exact leL_nil))) (hnx _ (hgo (fun d h => by rw [ho] at h; cases h) g1)) him⟩
    · rename_i hc
      have g2 := ltF hA hc
      obtain ⟨d, ho⟩ : ∃ d, o = some d := by
        cases o with
        | none => have hb : b = -1 := hi2; omega
        | some d => exact ⟨d, rfl⟩
      rw [ho] at hi2
      conv => cbv
      refine idx_Change hA hxs hi0 hi (fun z w hz hw => ?_)
      rw [hxx] at hz
      cases hz
      conv => cbv
      refine idx_Change hA hxs hi2.1 (by have := hi2.2.1; omega) (fun z w hz hw => ?_)
      rw [hi2.2.2] at hz
      cases hz
      obtain ⟨d1, d2, d3⟩ := d
      conv => cbv
      split
      · rename_i hc
        have g3 := leT hA hc
        conv => cbv
        exact ⟨hir, hR (A.iAdd i 1, i) _ (by (conv => cbv); exact wk_sl (by repeat (first | refine leL_same ?_ | refine leL_any ?_ | exact leL_nil))) (hnx _ (hgo (fun d h => by rw [ho] at h; cases h; exact g3) g1)) him⟩
      · rename_i hc
        have g3 := leF hA hc
        conv => cbv
        exact ⟨hir, hR (A.iAdd i 1, b) _ (by (conv => cbv); exact wk_sl (by repeat (first | refine leL_same ?_ | refine leL_any ?_ | exact leL_nil))) (hnx _ (hstay (.inr ⟨_, ho, g3⟩))) him⟩
  · rename_i hc
    have hi : i = s.length := by have := ltF' hA rfl (lenI hA hxl) hc; omega
    rw [show s.take i.toNat = s by rw [List.take_of_length_le (by omega)]] at hi2
    have h : BestAt s (inS s m) b i := hi2
    clear hi2
    unfold inR_ at hq
    cases ho : inS s m with
    | none =>
      rw [ho] at h hq
      have hb : b = -1 := h
      conv => cbv
      split
      rotate_left
      · rename_i hc
        have := ltF hA hc; omega
      conv => cbv
      exact hq
    | some d =>
      rw [ho] at h hq
      obtain ⟨h1, h2, h3⟩ := h
      conv => cbv
      split
      · rename_i hc
        have := ltT hA hc; omega
      conv => cbv
      refine idx_Change hA hxs h1 (by omega) (fun z w hz hw => ?_)
      rw [h3] at hz
      cases hz
      simp only at hq
      rw [encChange_eq d hw] at hq
      obtain ⟨d1, d2, d3⟩ := d
      conv => cbv
      exact hq

theorem ref19_Sector (t : Tables) (s : List Change) (v m : Int) : CallsPV Tryz.prog 82 [encTables t, encScheme s, .int .i64 v, .int .i64 m] (secR (secAt t s v m)) := by
  refine callsPV_by (clo := fun _ => false) (rows := false) env_ok Tryz.func82 rfl (enters_of Tryz.func82 (by kernel_rfl) rfl) (fun A q P Y hr hA hq => ?_)
  have h1 := ref19_In s m
  have h2 := fun c => ref14_Sector t c v
  obtain ⟨ss, hss⟩ : ∃ ss, ss = encSectors t.Sectors := ⟨_, rfl⟩
  obtain ⟨cs, hcs⟩ : ∃ cs, cs = encConfigs t.Configs := ⟨_, rfl⟩
  obtain ⟨ws, hws⟩ : ∃ ws, ws = encWays t.Ways := ⟨_, rfl⟩
  obtain ⟨ms, hms⟩ : ∃ ms, ms = encIntLs t.Modes := ⟨_, rfl⟩
  obtain ⟨ks, hks⟩ : ∃ ks, ks = encKinds t.Kinds := ⟨_, rfl⟩
  obtain ⟨nv, hnv⟩ : ∃ nv, nv = t.Volumes := ⟨_, rfl⟩
  have htab : encTables t = .agg [.int .i64 nv, .list 5 ss, .list 3 cs, .list 3 ws, .list 1 ms, .list 6 ks] := by rw [encTables_eq t hss hcs hws hms hks, hnv]
  rw [htab] at h2 ⊢
  obtain ⟨xs, hxs⟩ : ∃ xs, xs = encChanges s := ⟨_, rfl⟩
  rw [encScheme_eq hxs] at h1 ⊢
  unfold inR_ at h1
  unfold secAt at hq
  cases hI : inS s m with
  | none =>
    rw [hI] at h1 hq
    simp only at h1 hq
    conv => cbv
    refine call_intro hA (h1) ?_
    conv => cbv
    split
    rotate_left
    · rename_i hc
      cases ((nF hA hc))
    conv => cbv
    exact hq
  | some d =>
    rw [hI] at h1 hq
    obtain ⟨d1, d2, d3⟩ := d
    simp only at h1 hq
    have h3 := h2 d2
    unfold secR at h3 hq
    generalize (cfgSec t.Sectors t.Configs d2 v).getD 0 = z at h3 hq
    generalize (cfgSec t.Sectors t.Configs d2 v).isSome = b at h3 hq
    obtain ⟨ml, hml⟩ : ∃ ml, ml = encInts d3 := ⟨_, rfl⟩
    rw [encChange_eq ⟨d1, d2, d3⟩ hml] at h1
    conv => cbv
    refine call_intro hA (h1) ?_
    conv => cbv
    split
    · rename_i hc
      cases ((nT hA hc))
    conv => cbv
    refine call_intro hA (h3) ?_
    conv => cbv
    exact hq

def few19 (s : List Change) : Bool := (s.all fun c => decide (c.Modes.length ≤ 10)) && decide (s.length ≤ 10)
theorem ref19_Few (s : List Change) : CallsPV Tryz.prog 31 [encScheme s] (.bool (few19 s)) := by
  refine callsPV_by (clo := fun _ => false) (rows := false) env_ok Tryz.func31 rfl (enters_of Tryz.func31 (by kernel_rfl) rfl) (fun A q P Y hr hA hq => ?_)
  obtain ⟨xs, hxs⟩ : ∃ xs, xs = encChanges s := ⟨_, rfl⟩
  have hxl : xs.length = s.length := by rw [hxs]; simp [encChanges]
  have hlen : s.length ≤ 9223372036854775807 := by
    have := (Real.cell (show Real [.agg [_]] from hr.mem (p := encScheme s) (by simp)) (c := .list 3 (encChanges s)) (by simp)).len
    rw [← hxs, hxl] at this; exact this
  rw [encScheme_eq hxs]
  have hbad : ¬ (s.all fun c => decide (c.Modes.length ≤ 10)) = true → PV.bool false = q := fun h => by rw [← hq]; unfold few19; rw [Bool.eq_false_iff.2 h]; rfl
  have hgood : (s.all fun c => decide (c.Modes.length ≤ 10)) = true → PV.bool (decide (s.length ≤ 10)) = q := fun h => by rw [← hq]; unfold few19; rw [h]; rfl
  clear hq
  conv => cbv
  refine loop_set hA (fun (i : Int) s => s.put (some 3) (.val (.int .i64 i))) (fun i => 0 ≤ i ∧ i ≤ (s.length : Int) ∧ (fun i => ∀ x ∈ s.take i.toNat, x.Modes.length ≤ 10) i) (fun i => ((s.length : Int) - i).toNat) 0 ?_ ?_ ?_
  · conv => cbv
    exact wk_sl (by repeat (first | refine leL_same ?_ | refine leL_any ?_ | exact leL_nil))
  · exact ⟨Int.le_refl _, by omega, by simp⟩
  rintro R i ⟨hi0, hi1, hi2⟩ hRi
  conv => cbv
  split
  ·   rename_i hc
      have hi : i < (s.length : Int) := ltT' hA rfl (lenI hA hxl) hc
      have his : A.iAdd i 1 = i + 1 := addI hA _ _
      have hir : A.inR (A.iAdd i 1) := inR' hA his (by unfold inI64; omega)
      have him : ((s.length : Int) - A.iAdd i 1).toNat < ((s.length : Int) - i).toNat := by rw [his]; omega
      have hin : (fun i => ∀ x ∈ s.take i.toNat, x.Modes.length ≤ 10) (i + 1) → 0 ≤ A.iAdd i 1 ∧ A.iAdd i 1 ≤ (s.length : Int) ∧ (fun i => ∀ x ∈ s.take i.toNat, x.Modes.length ≤ 10) (A.iAdd i 1) := fun h => by rw [his]; exact ⟨by omega, by omega, h⟩
      simp only at hin
      conv => cbv
      refine idx_Change hA hxs hi0 hi (fun x v hx hv => ?_)
      have ht := take_snoc' hi0 hx
      have hvl : v.length = x.Modes.length := by rw [hv]; simp [encInts]
      have hm := List.mem_of_getElem? hx
      obtain ⟨x1, x2, x3⟩ := x
      simp only at hvl
      conv => cbv
      split
      · rename_i hc
        have g1 := ltT' hA rfl (lenI hA hvl) hc
        conv => cbv
        exact hbad (fun h => by have := List.all_eq_true.1 h _ hm; simp at this; omega)
      · rename_i hc
        have g1 := ltF' hA rfl (lenI hA hvl) hc
        conv => cbv
        exact ⟨hir, hRi (A.iAdd i 1) _ (by (conv => cbv); exact wk_sl (by repeat (first | refine leL_same ?_ | refine leL_any ?_ | exact leL_nil))) (hin (mem_snoc ht hi2 (by simp only; omega))) him⟩
  rename_i hc
  have hi : i = (s.length : Int) := by have := ltF' hA rfl (lenI hA hxl) hc; omega
  conv => cbv
  have h1 := hgood (List.all_eq_true.2 fun x hx => by simpa using take_all hi hi2 x hx)
  rw [← h1]
  congr 1
  subst hA
  show decide ((xs.length : Int) ≤ 10) = _
  rw [hxl]
  rw [decide_eq_decide]
  omega
end Go.Abs
