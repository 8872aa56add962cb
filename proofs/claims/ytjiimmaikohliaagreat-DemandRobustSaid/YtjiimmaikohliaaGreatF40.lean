/-
  Functions: slices.Contains at ints; capacity.fits, valid, Check, In, Sector; airspace.Sector, configs.Sector.
-/
import Derived.Test.YtjiimmaikohliaaGreatD2
import Derived.Test.YtjiimmaikohliaaGreatF4
set_option linter.unusedVariables false
set_option linter.unusedSimpArgs false
namespace Go.Abs
open Go.RowKit Go.Proofs

theorem index_Int (v : Int) (l : List Int) {xs : List PV} (hx : xs = encInts l) : CallsPV Tryz.prog 158 [.list 1 xs, .int .i64 v] (.int .i64 (findI (fun x => decide (v = x)) l)) := by
  refine callsPV_by (clo := fun _ => false) (rows := false) env_ok Tryz.func158 rfl (enters_of Tryz.func158 (by kernel_rfl) rfl) (fun A q P Y hr hA hq => ?_)
  have hlen := (hr.mem (p := .list 1 xs) (by simp)).len
  have hll : xs.length = l.length := by rw [hx]; simp [encInts]
  conv => cbv
  refine loop_set hA (fun (i : Int) s => s.put (some 8) (.val (.int .i64 i))) (fun i => 0 ≤ i ∧ i ≤ (l.length : Int) ∧ (fun i => ∀ x ∈ l.take i.toNat, decide (v = x) = false) i) (fun i => ((l.length : Int) - i).toNat) 0 ?_ ?_ ?_
  · conv => cbv
    exact wk_sl (by repeat (first | refine leL_same ?_ | refine leL_any ?_ | exact leL_nil))
  · exact ⟨Int.le_refl _, by omega, by simp⟩
  rintro R i ⟨hi0, hi1, hi2⟩ hRi
  conv => cbv
  split
  ·   rename_i hc
      have hi : i < (l.length : Int) := ltT' hA rfl (lenI hA hll) hc
      have his : A.iAdd i 1 = i + 1 := addI hA _ _
      have hir : A.inR (A.iAdd i 1) := inR' hA his (by unfold inI64; omega)
      have him : ((l.length : Int) - A.iAdd i 1).toNat < ((l.length : Int) - i).toNat := by rw [his]; omega
      have hin : (fun i => ∀ x ∈ l.take i.toNat, decide (v = x) = false) (i + 1) → 0 ≤ A.iAdd i 1 ∧ A.iAdd i 1 ≤ (l.length : Int) ∧ (fun i => ∀ x ∈ l.take i.toNat, decide (v = x) = false) (A.iAdd i 1) := fun h => by rw [his]; exact ⟨by omega, by omega, h⟩
      simp only at hin
      conv => cbv
      refine idx_Int hA hx hi0 hi (fun x hx0 => ?_)
      have ht := take_snoc' hi0 hx0
      conv => cbv
      split
      · rename_i h
        have h' : decide (v = x) = true := decide_eq_true (eqT hA h)
        conv => cbv
        rw [← hq, findI_hit hi0 hx0 h' hi2]
      · rename_i h
        have h' : decide (v = x) = false := decide_eq_false (eqF hA h)
        conv => cbv
        exact ⟨hir, hRi (A.iAdd i 1) _ (by (conv => cbv); exact wk_sl (by repeat (first | refine leL_same ?_ | refine leL_any ?_ | exact leL_nil))) (hin (mem_snoc ht hi2 h')) him⟩
  rename_i hc
  have hi : i = (l.length : Int) := by have := ltF' hA rfl (lenI hA hll) hc; omega
  conv => cbv
  rw [← hq, findI_miss (take_all hi hi2)]

theorem contains_Int (v : Int) (l : List Int) {xs : List PV} (hx : xs = encInts l) : CallsPV Tryz.prog 156 [.list 1 xs, .int .i64 v] (.bool (decide (v ∈ l))) := by
  refine callsPV_by (clo := fun _ => false) (rows := false) env_ok Tryz.func156 rfl (enters_of Tryz.func156 (by kernel_rfl) rfl) (fun A q P Y hr hA hq => ?_)
  have hi := index_Int v l hx
  have ha : l.any (fun x => decide (v = x)) = decide (v ∈ l) := by
    rw [Bool.eq_iff_iff]; simp
  rw [← ha, ← findI_any] at hq
  generalize findI (fun x => decide (v = x)) l = r at hi hq
  conv => cbv
  refine call_intro hA hi ?_
  conv => cbv
  rw [← hq]
  subst hA
  rfl

theorem changeOk_iff {nc : Nat} {M : List (List Int)} {c : Change} : changeOk nc M c = true ↔ 0 ≤ c.From ∧ c.From < 1440 ∧ 0 ≤ c.Config ∧ c.Config < nc ∧ c.Modes.length = M.length ∧ ∀ p ∈ c.Modes.zip M, modeB p = true := by
  unfold changeOk
  simp only [Bool.and_eq_true, decide_eq_true_eq, List.all_eq_true, and_assoc]

theorem zip_at {α β : Type} {a : List α} {b : List β} {i : Int} {x : α} {y : β} (hx : a[i.toNat]? = some x) (hy : b[i.toNat]? = some y) : (a.zip b)[i.toNat]? = some (x, y) := by
  rw [List.getElem?_zip_eq_some]; exact ⟨hx, hy⟩

set_option maxHeartbeats 1000000 in
theorem cap_fits (t : Tables) (c : Change) : CallsPV Tryz.prog 131 [encTables t, encChange c] (.bool (changeOk t.Configs.length t.Modes c)) := by
  refine callsPV_by (clo := fun _ => false) (rows := false) env_ok Tryz.func131 rfl (enters_of Tryz.func131 (by kernel_rfl) rfl) (fun A q P Y hr hA hq => ?_)
  have hbad : ¬ changeOk t.Configs.length t.Modes c = true → PV.bool false = q := fun h => by rw [← hq, Bool.eq_false_iff.2 h]
  have hK := (changeOk_iff (nc := t.Configs.length) (M := t.Modes) (c := c)).1
  have hK2 := (changeOk_iff (nc := t.Configs.length) (M := t.Modes) (c := c)).2
  generalize changeOk t.Configs.length t.Modes c = kb at hbad hK hK2 hq
  obtain ⟨ss, hss⟩ : ∃ ss, ss = encSectors t.Sectors := ⟨_, rfl⟩
  obtain ⟨cs, hcs⟩ : ∃ cs, cs = encConfigs t.Configs := ⟨_, rfl⟩
  obtain ⟨ws, hws⟩ : ∃ ws, ws = encWays t.Ways := ⟨_, rfl⟩
  obtain ⟨ms, hms⟩ : ∃ ms, ms = encIntLs t.Modes := ⟨_, rfl⟩
  obtain ⟨ks, hks⟩ : ∃ ks, ks = encKinds t.Kinds := ⟨_, rfl⟩
  obtain ⟨nv, hnv⟩ : ∃ nv, nv = t.Volumes := ⟨_, rfl⟩
  have htab : encTables t = .agg [.int .i64 nv, .list 5 ss, .list 3 cs, .list 3 ws, .list 1 ms, .list 6 ks] := by rw [encTables_eq t hss hcs hws hms hks, hnv]
  rw [htab]
  have hcl : cs.length = t.Configs.length := by rw [hcs]; simp [encConfigs]
  have hml : ms.length = t.Modes.length := by rw [hms]; simp [encIntLs]
  obtain ⟨c1, c2, c3⟩ := c
  obtain ⟨mo, hmo⟩ : ∃ mo, mo = encInts c3 := ⟨_, rfl⟩
  rw [show encChange ⟨c1, c2, c3⟩ = .agg [.int .i64 c1, .int .i64 c2, .list 1 mo] by rw [hmo]; rfl]
  have hol : mo.length = c3.length := by rw [hmo]; simp [encInts]
  have hlen : c3.length ≤ 9223372036854775807 := by
    have := (Real.cell (show Real [.agg [_, _, _]] from hr.mem (p := encChange ⟨c1, c2, c3⟩) (by simp)) (c := .list 1 (encInts c3)) (by simp)).len
    rw [← hmo, hol] at this; exact this
  simp only at hK hK2 ⊢
  conv => cbv
  split
  · rename_i hc
    conv => cbv
    exact hbad (fun h => by have := hK h; have := ltT hA hc; omega)
  rename_i g1; replace g1 := ltF hA g1
  conv => cbv
  split
  · rename_i hc
    conv => cbv
    exact hbad (fun h => by have := hK h; have := leT hA hc; omega)
  rename_i g2; replace g2 := leF hA g2
  conv => cbv
  split
  · rename_i hc
    conv => cbv
    exact hbad (fun h => by have := hK h; have := ltT hA hc; omega)
  rename_i g3; replace g3 := ltF hA g3
  conv => cbv
  split
  · rename_i hc
    conv => cbv
    exact hbad (fun h => by have := hK h; have := leT' hA (lenI hA hcl) rfl hc; omega)
  rename_i g4; replace g4 := leF' hA (lenI hA hcl) rfl g4
  conv => cbv
  split
  · rename_i hc
    conv => cbv
    exact hbad (fun h => by have := hK h; have := neT' hA (lenI hA hol) (lenI hA hml) hc; omega)
  rename_i g5; replace g5 := neF' hA (lenI hA hol) (lenI hA hml) g5
  conv => cbv
  refine loop_set hA (fun (i : Int) s => s.put (some 40) (.val (.int .i64 i))) (fun i => 0 ≤ i ∧ i ≤ (c3.length : Int) ∧ (fun i => ∀ p ∈ (c3.zip t.Modes).take i.toNat, modeB p = true) i) (fun i => ((c3.length : Int) - i).toNat) 0 ?_ ?_ ?_
  · conv => cbv
    exact wk_sl (by repeat (first | refine leL_same ?_ | refine leL_any ?_ | exact leL_nil))
  · exact ⟨Int.le_refl _, by omega, by simp⟩
  rintro R i ⟨hi0, hi1, hi2⟩ hRi
  conv => cbv
  split
  ·   rename_i hc
      have hi : i < (c3.length : Int) := ltT' hA rfl (lenI hA hol) hc
      have his : A.iAdd i 1 = i + 1 := addI hA _ _
      have hir : A.inR (A.iAdd i 1) := inR' hA his (by unfold inI64; omega)
      have him : ((c3.length : Int) - A.iAdd i 1).toNat < ((c3.length : Int) - i).toNat := by rw [his]; omega
      have hin : (fun i => ∀ p ∈ (c3.zip t.Modes).take i.toNat, modeB p = true) (i + 1) → 0 ≤ A.iAdd i 1 ∧ A.iAdd i 1 ≤ (c3.length : Int) ∧ (fun i => ∀ p ∈ (c3.zip t.Modes).take i.toNat, modeB p = true) (A.iAdd i 1) := fun h => by rw [his]; exact ⟨by omega, by omega, h⟩
      simp only at hin
      conv => cbv
      have hl0 : i.toNat < t.Modes.length := by omega
      have hl1 := List.getElem?_eq_getElem hl0
      refine idx_Int hA hmo hi0 hi (fun m hm => ?_)
      have hbad2 : ∀ l, t.Modes[i.toNat]? = some l → modeB (m, l) = false → PV.bool false = q := fun l hl h => hbad (fun hk => by
        have := (hK hk).2.2.2.2.2 (m, l) (List.mem_of_getElem? (zip_at hm hl))
        rw [h] at this; cases this)
      conv => cbv
      split
      · rename_i hc
        have := ltT hA hc
        conv => cbv
        exact hbad2 _ hl1 (by unfold modeB; simp; omega)
      rename_i g6; replace g6 := ltF hA g6
      conv => cbv
      refine idx_IntL hA hms hi0 (by omega) (fun l v hl hv => ?_)
      have hvl : v.length = l.length := by rw [hv]; simp [encInts]
      have ht := take_snoc' hi0 (zip_at hm hl)
      conv => cbv
      split
      · rename_i hc
        have := leT' hA (lenI hA hvl) rfl hc
        conv => cbv
        exact hbad2 l hl (by unfold modeB; simp; omega)
      rename_i g7; replace g7 := leF' hA (lenI hA hvl) rfl g7
      conv => cbv
      exact ⟨hir, hRi (A.iAdd i 1) _ (by (conv => cbv); exact wk_sl (by repeat (first | refine leL_same ?_ | refine leL_any ?_ | exact leL_nil))) (hin (mem_snoc ht hi2 (by unfold modeB; simp; omega))) him⟩
  rename_i hc
  have hi : i = (c3.length : Int) := by have := ltF' hA rfl (lenI hA hol) hc; omega
  conv => cbv
  rw [← hq, hK2 ⟨by omega, by omega, by omega, by omega, by omega, take_all (l := c3.zip t.Modes) (by rw [List.length_zip]; omega) hi2⟩]
theorem encScheme_eq {s : List Change} {xs : List PV} (h : xs = encChanges s) : encScheme s = .agg [.list 3 xs] := by rw [h]; rfl
theorem encChange_eq (c : Change) {ms : List PV} (h : ms = encInts c.Modes) : encChange c = .agg [.int .i64 c.From, .int .i64 c.Config, .list 1 ms] := by rw [h]; rfl

set_option maxHeartbeats 4000000 in
theorem cap_valid (t : Tables) (s : List Change) : CallsPV Tryz.prog 103 [encTables t, encScheme s] (.bool (schemeOk t.Configs.length t.Modes s)) := by
  refine callsPV_by (clo := fun _ => false) (rows := false) env_ok Tryz.func103 rfl (enters_of Tryz.func103 (by kernel_rfl) rfl) (fun A q P Y hr hA hq => ?_)
  have hbad : ¬ schemeOk t.Configs.length t.Modes s = true → PV.bool false = q := fun h => by rw [← hq, Bool.eq_false_iff.2 h]
  have hK := (schemeOk_iff (nc := t.Configs.length) (M := t.Modes) (s := s)).1
  have hK2 := (schemeOk_iff (nc := t.Configs.length) (M := t.Modes) (s := s)).2
  have hfit := fun c => cap_fits t c
  generalize schemeOk t.Configs.length t.Modes s = kb at hbad hK hK2 hq
  generalize hfb : changeOk t.Configs.length t.Modes = fb at hK hK2 hfit
  obtain ⟨xs, hxs⟩ : ∃ xs, xs = encChanges s := ⟨_, rfl⟩
  have hxl : xs.length = s.length := by rw [hxs]; simp [encChanges]
  have hlen : s.length ≤ 9223372036854775807 := by
    have := (Real.cell (show Real [.agg [_]] from hr.mem (p := encScheme s) (by simp)) (c := .list 3 (encChanges s)) (by simp)).len
    rw [← hxs, hxl] at this; exact this
  obtain ⟨ss, hss⟩ : ∃ ss, ss = encSectors t.Sectors := ⟨_, rfl⟩
  obtain ⟨cs, hcs⟩ : ∃ cs, cs = encConfigs t.Configs := ⟨_, rfl⟩
  obtain ⟨ws, hws⟩ : ∃ ws, ws = encWays t.Ways := ⟨_, rfl⟩
  obtain ⟨ms, hms⟩ : ∃ ms, ms = encIntLs t.Modes := ⟨_, rfl⟩
  obtain ⟨ks, hks⟩ : ∃ ks, ks = encKinds t.Kinds := ⟨_, rfl⟩
  obtain ⟨nv, hnv⟩ : ∃ nv, nv = t.Volumes := ⟨_, rfl⟩
  have htab : encTables t = .agg [.int .i64 nv, .list 5 ss, .list 3 cs, .list 3 ws, .list 1 ms, .list 6 ks] := by rw [encTables_eq t hss hcs hws hms hks, hnv]
  rw [htab] at hfit ⊢
  rw [encScheme_eq hxs]
  conv => cbv
  split
  · rename_i hc
    conv => cbv
    exact hbad (fun h => by obtain ⟨⟨c, h1, _⟩, _⟩ := hK h; have := eqT' hA (lenI hA hxl) rfl hc; have := (List.getElem?_eq_some_iff.1 h1).1; omega)
  rename_i g1; replace g1 := eqF' hA (lenI hA hxl) rfl g1
  conv => cbv
  refine idx_Change hA hxs (Int.le_refl 0) (by omega) (fun c0 v0 hc0 hv0 => ?_)
  have hc00 : s[0]? = some c0 := hc0
  obtain ⟨k1, k2, k3⟩ := c0
  conv => cbv
  split
  · rename_i hc
    conv => cbv
    exact hbad (fun h => by obtain ⟨⟨c, h1, h2⟩, _⟩ := hK h; rw [hc00] at h1; cases h1; exact neT hA hc h2)
  rename_i g2; replace g2 := neF hA g2
  conv => cbv
  refine loop_set hA (fun (i : Int) s => s.put (some 22) (.val (.int .i64 i))) (fun i => 0 ≤ i ∧ i ≤ (s.length : Int) ∧ (fun i => (∀ x ∈ s.take i.toNat, fb x = true) ∧ ∀ (k : Nat) (x y : Change), (k : Int) + 1 < i → s[k]? = some x → s[k + 1]? = some y → x.From < y.From) i) (fun i => ((s.length : Int) - i).toNat) 0 ?_ ?_ ?_
  · conv => cbv
    exact wk_sl (by repeat (first | refine leL_same ?_ | refine leL_any ?_ | exact leL_nil))
  · exact ⟨Int.le_refl _, by omega, by constructor; simp; intro k x y h; omega⟩
  rintro R i ⟨hi0, hi1, hi2⟩ hRi
  conv => cbv
  split
  ·   rename_i hc
      have hi : i < (s.length : Int) := ltT' hA rfl (lenI hA hxl) hc
      have his : A.iAdd i 1 = i + 1 := addI hA _ _
      have hir : A.inR (A.iAdd i 1) := inR' hA his (by unfold inI64; omega)
      have him : ((s.length : Int) - A.iAdd i 1).toNat < ((s.length : Int) - i).toNat := by rw [his]; omega
      have hin : (fun i => (∀ x ∈ s.take i.toNat, fb x = true) ∧ ∀ (k : Nat) (x y : Change), (k : Int) + 1 < i → s[k]? = some x → s[k + 1]? = some y → x.From < y.From) (i + 1) → 0 ≤ A.iAdd i 1 ∧ A.iAdd i 1 ≤ (s.length : Int) ∧ (fun i => (∀ x ∈ s.take i.toNat, fb x = true) ∧ ∀ (k : Nat) (x y : Change), (k : Int) + 1 < i → s[k]? = some x → s[k + 1]? = some y → x.From < y.From) (A.iAdd i 1) := fun h => by rw [his]; exact ⟨by omega, by omega, h⟩
      simp only at hin
      conv => cbv
      obtain ⟨hi3, hi4⟩ := hi2
      refine idx_Change hA hxs hi0 hi (fun x v hx hv => ?_)
      have ht := take_snoc' hi0 hx
      have hm := List.mem_of_getElem? hx
      have hf := hfit x
      rw [encChange_eq x hv] at hf
      have hxx := hx
      obtain ⟨x1, x2, x3⟩ := x
      simp only at hf hv
      conv => cbv
      refine ⟨draw_intro hA (by kernel_rfl), ?_⟩
      conv => cbv
      cases hb : fb ⟨x1, x2, x3⟩ with
      | false =>
        rw [hb] at hf
        refine call_intro hA (hf) ?_
        conv => cbv
        split
        rotate_left
        · rename_i hc
          cases ((nF hA hc))
        conv => cbv
        exact hbad (fun h => by have := (hK h).2.1 _ hm; rw [hb] at this; cases this)
      | true =>
        rw [hb] at hf
        refine call_intro hA (hf) ?_
        conv => cbv
        split
        · rename_i hc
          cases ((nT hA hc))
        conv => cbv
        have hnx : (∀ c, s[(i - 1).toNat]? = some c → 0 < i → c.From < x1) → (∀ x ∈ s.take (i + 1).toNat, fb x = true) ∧ ∀ (k : Nat) (x y : Change), (k : Int) + 1 < i + 1 → s[k]? = some x → s[k + 1]? = some y → x.From < y.From := fun h => by
          refine ⟨mem_snoc ht hi3 hb, fun k x y hk hx hy => ?_⟩
          by_cases e : (k : Int) + 1 < i
          · exact hi4 k x y e hx hy
          · have e1 : k + 1 = i.toNat := by omega
            rw [e1, hxx] at hy
            cases hy
            exact h x (by rw [show (i - 1).toNat = k by omega]; exact hx) (by omega)
        split
        · rename_i hc
          have g3 := ltT hA hc
          have hsub : A.iSub i 1 = i - 1 := subI hA _ _
          conv => cbv
          refine ⟨inR' hA hsub (by unfold inI64; omega), ?_⟩
          conv => cbv
          refine idx_Change hA hxs (n := A.iSub i 1) (by rw [hsub]; omega) (by rw [hsub]; omega) (fun y v2 hy hv2 => ?_)
          rw [hsub] at hy
          obtain ⟨y1, y2, y3⟩ := y
          simp only at hv2 ⊢
          have hyf : y1 < x1 ∨ PV.bool false = q ∧ x1 ≤ y1 := by
            rcases Int.lt_or_le y1 x1 with h | h
            · exact .inl h
            · refine .inr ⟨hbad (fun h2 => ?_), h⟩
              have := (hK h2).2.2 (i - 1).toNat _ _ hy (by rw [show (i - 1).toNat + 1 = i.toNat by omega]; exact hxx)
              simp only at this
              omega
          conv => cbv
          split
          · rename_i hc
            have g4 := leT hA hc
            conv => cbv
            exact hyf.elim (fun h => by omega) (fun h => h.1)
          rename_i g4; replace g4 := leF hA g4
          conv => cbv
          exact ⟨hir, hRi (A.iAdd i 1) _ (by (conv => cbv); exact wk_round (bx := [_, _]) (bx' := [_]) (mp := []) (mp' := []) (by repeat (first | refine leL_same ?_ | refine leL_any ?_ | exact leL_nil)) (by simp) (by simp) rfl rfl) (hin (hnx (fun c h1 _ => by rw [hy] at h1; cases h1; omega))) him⟩
        · rename_i hc
          have g3 := ltF hA hc
          conv => cbv
          exact ⟨hir, hRi (A.iAdd i 1) _ (by (conv => cbv); exact wk_round (bx := [_, _]) (bx' := [_]) (mp := []) (mp' := []) (by repeat (first | refine leL_same ?_ | refine leL_any ?_ | exact leL_nil)) (by simp) (by simp) rfl rfl) (hin (hnx (fun c h1 h2 => by omega))) him⟩
  rename_i hc
  have hi : i = (s.length : Int) := by have := ltF' hA rfl (lenI hA hxl) hc; omega
  conv => cbv
  rw [← hq, hK2 ⟨⟨_, hc00, g2⟩, take_all hi hi2.1, fun k x y hx hy => hi2.2 k x y (by have := (List.getElem?_eq_some_iff.1 hy).1; omega) hx hy⟩]
theorem cap_Check (t : Tables) (s : List Change) : CallsPV Tryz.prog 77 [encTables t, encScheme s] (.int .i64 (capErr t s)) := by
  refine callsPV_by (clo := fun _ => false) (rows := false) env_ok Tryz.func77 rfl (enters_of Tryz.func77 (by kernel_rfl) rfl) (fun A q P Y hr hA hq => ?_)
  have h1 := air_Check t
  have h2 := cap_valid t s
  have hE : capErr t s = if airOk t then (if schemeOk t.Configs.length t.Modes s then 0 else 190) else 140 := rfl
  rw [hE] at hq
  generalize airOk t = a at h1 hq
  generalize schemeOk t.Configs.length t.Modes s = b at h2 hq
  obtain ⟨ss, hss⟩ : ∃ ss, ss = encSectors t.Sectors := ⟨_, rfl⟩
  obtain ⟨cs, hcs⟩ : ∃ cs, cs = encConfigs t.Configs := ⟨_, rfl⟩
  obtain ⟨ws, hws⟩ : ∃ ws, ws = encWays t.Ways := ⟨_, rfl⟩
  obtain ⟨ms, hms⟩ : ∃ ms, ms = encIntLs t.Modes := ⟨_, rfl⟩
  obtain ⟨ks, hks⟩ : ∃ ks, ks = encKinds t.Kinds := ⟨_, rfl⟩
  obtain ⟨nv, hnv⟩ : ∃ nv, nv = t.Volumes := ⟨_, rfl⟩
  have htab : encTables t = .agg [.int .i64 nv, .list 5 ss, .list 3 cs, .list 3 ws, .list 1 ms, .list 6 ks] := by rw [encTables_eq t hss hcs hws hms hks, hnv]
  rw [htab] at h1 h2 ⊢
  obtain ⟨xs, hxs⟩ : ∃ xs, xs = encChanges s := ⟨_, rfl⟩
  rw [encScheme_eq hxs] at h2 ⊢
  conv => cbv
  refine callI hA h1 rfl (fun r hr => ?_)
  conv => cbv
  cases a with
  | false =>
    split
    · conv => cbv
      exact hq ▸ hr ▸ rfl
    · rename_i hc
      have := neF hA hc
      rw [hr] at this
      simp at this
  | true =>
    split
    · rename_i hc
      have := neT hA hc
      rw [hr] at this
      simp at this
    conv => cbv
    cases b with
    | false =>
      refine call_intro hA h2 ?_
      conv => cbv
      split
      rotate_left
      · rename_i hc
        cases ((nF hA hc))
      conv => cbv
      exact hq
    | true =>
      refine call_intro hA h2 ?_
      conv => cbv
      split
      · rename_i hc
        cases ((nT hA hc))
      conv => cbv
      exact hq

def inR_ (s : List Change) (m : Int) : PV := match inS s m with
  | some c => .tup [encChange c, .bool true]
  | none => .tup [.agg [.int .i64 0, .int .i64 0, .list 0 []], .bool false]
/-- What the variable holds while a scheme is gone through. -/
def InAt (o : Option Change) (F C : Int) (n : Nat) (vs : List PV) (ok : Bool) : Prop := match o with
  | some d => F = d.From ∧ C = d.Config ∧ (n = 1 ∧ vs = encInts d.Modes) ∧ ok = true
  | none => F = 0 ∧ C = 0 ∧ (n = 0 ∧ vs = []) ∧ ok = false
theorem InAt.go {o : Option Change} {F C : Int} {n : Nat} {vs : List PV} {ok : Bool} {x1 x2 m : Int} {x3 : List Int} {v : List PV} (hv : v = encInts x3) (h : InAt o F C n vs ok) (h1 : x1 ≤ m) (h2 : ok = true → F ≤ x1) : InAt (inStep m o ⟨x1, x2, x3⟩) x1 x2 1 v true := by
  unfold inStep
  simp only [if_pos h1]
  cases o with
  | none => exact ⟨rfl, rfl, ⟨rfl, hv⟩, rfl⟩
  | some d =>
    obtain ⟨e1, e2, e3, e4⟩ := h
    have := h2 e4
    simp only
    rw [if_pos (by omega)]
    exact ⟨rfl, rfl, ⟨rfl, hv⟩, rfl⟩
theorem InAt.stay {o : Option Change} {F C : Int} {n : Nat} {vs : List PV} {ok : Bool} {x1 x2 m : Int} {x3 : List Int} (h : InAt o F C n vs ok) (h1 : m < x1 ∨ ok = true ∧ x1 < F) : InAt (inStep m o ⟨x1, x2, x3⟩) F C n vs ok := by
  unfold inStep
  rcases h1 with h1 | ⟨h1, h2⟩
  · simp only [if_neg (show ¬ x1 ≤ m by omega)]; exact h
  · cases o with
    | none => exact absurd (h.2.2.2.symm.trans h1) (by decide)
    | some d =>
      have := h.1
      simp only [if_neg (show ¬ d.From ≤ x1 by omega)]
      split <;> exact h
set_option maxHeartbeats 4000000 in
theorem cap_In (s : List Change) (m : Int) : CallsPV Tryz.prog 132 [encScheme s, .int .i64 m] (inR_ s m) := by
  refine callsPV_by (clo := fun _ => false) (rows := false) env_ok Tryz.func132 rfl (enters_of Tryz.func132 (by kernel_rfl) rfl) (fun A q P Y hr hA hq => ?_)
  obtain ⟨xs, hxs⟩ : ∃ xs, xs = encChanges s := ⟨_, rfl⟩
  have hxl : xs.length = s.length := by rw [hxs]; simp [encChanges]
  have hlen : s.length ≤ 9223372036854775807 := by
    have := (Real.cell (show Real [.agg [_]] from hr.mem (p := encScheme s) (by simp)) (c := .list 3 (encChanges s)) (by simp)).len
    rw [← hxs, hxl] at this; exact this
  rw [encScheme_eq hxs]
  conv => cbv
  refine loop_set hA (fun (y : Int × Int × Int × (Nat × List PV) × Bool) s => { ((s.put (some 11) (.val (.int .i64 y.1))).put (some 5) (.val (.bool y.2.2.2.2))) with bx := [some [.val (.list 3 xs)], some [.val (.int .i64 y.2.1), .val (.int .i64 y.2.2.1), .val (.list y.2.2.2.1.1 y.2.2.2.1.2)]] })
    (fun y => 0 ≤ y.1 ∧ y.1 ≤ s.length ∧ InAt ((s.take y.1.toNat).foldl (inStep m) none) y.2.1 y.2.2.1 y.2.2.2.1.1 y.2.2.2.1.2 y.2.2.2.2) (fun y => (s.length - y.1).toNat) (0, 0, 0, (0, []), false) ?_ ?_ ?_
  · conv => cbv
    exact Wk.trans _ _ _ (Wk.forgetBx _ _ [some [.val (.list 3 xs)], some [.val (.int .i64 0), .val (.int .i64 0), .val (.list 0 [])]] _ _ ⟨leL_same leL_nil, leL_same (leL_same (leL_lit leL_nil)), trivial⟩) (wk_sl (by repeat (first | refine leL_same ?_ | refine leL_any ?_ | exact leL_nil)))
  · exact ⟨Int.le_refl _, by omega, rfl, rfl, ⟨rfl, rfl⟩, rfl⟩
  rintro R ⟨i, F, C, ⟨n, vs⟩, ok⟩ ⟨hi0, hi1, hi2⟩ hR
  simp only at hi0 hi1 hi2
  conv => cbv
  split
  · rename_i hc
    have hi : i < s.length := ltT' hA rfl (lenI hA hxl) hc
    conv => cbv
    refine idx_Change hA hxs hi0 hi (fun x v hx hv => ?_)
    have ht : (s.take (i + 1).toNat).foldl (inStep m) none = inStep m ((s.take i.toNat).foldl (inStep m) none) x := by
      rw [take_snoc' hi0 hx, foldl_snoc]
    generalize (s.take i.toNat).foldl (inStep m) none = o at hi2 ht
    obtain ⟨x1, x2, x3⟩ := x
    simp only at hv
    have his : A.iAdd i 1 = i + 1 := addI hA _ _
    have hir : A.inR (A.iAdd i 1) := inR' hA his (by unfold inI64; omega)
    have him : ((s.length : Int) - A.iAdd i 1).toNat < (s.length - i).toNat := by rw [his]; omega
    have hnx : ∀ F' C' n' vs' ok', InAt (inStep m o ⟨x1, x2, x3⟩) F' C' n' vs' ok' → 0 ≤ A.iAdd i 1 ∧ A.iAdd i 1 ≤ s.length ∧ InAt ((s.take (A.iAdd i 1).toNat).foldl (inStep m) none) F' C' n' vs' ok' := fun F' C' n' vs' ok' h => by
      rw [his, ht]; exact ⟨by omega, by omega, h⟩
    have hgo := InAt.go (x1 := x1) (x2 := x2) (m := m) hv hi2
    have hstay := InAt.stay (x1 := x1) (x2 := x2) (m := m) (x3 := x3) hi2
    conv => cbv
    split
    · rename_i hc
      have g1 := leT hA hc
      conv => cbv
      cases hok : ok with
      | false =>
        rw [hok] at hi2 hgo
        split
        · rename_i hc
          conv => cbv
          exact ⟨hir, hR (A.iAdd i 1, x1, x2, (1, v), true) _ (by (conv => cbv); exact wk_round (bx := [_, _]) (bx' := [_]) (mp := []) (mp' := []) (by repeat (first | refine leL_same ?_ | refine leL_any ?_ | exact leL_nil)) (by simp) (by simp) rfl rfl) (hnx _ _ _ _ _ (hgo g1 (fun h => by cases h))) him⟩
        · rename_i hc
          cases (nF hA hc)
      | true =>
        rw [hok] at hi2 hgo hstay
        split
        · rename_i hc
          cases (nT hA hc)
        conv => cbv
        split
        · rename_i hc
          have g2 := leT hA hc
          conv => cbv
          exact ⟨hir, hR (A.iAdd i 1, x1, x2, (1, v), true) _ (by (conv => cbv); exact wk_round (bx := [_, _]) (bx' := [_]) (mp := []) (mp' := []) (by repeat (first | refine leL_same ?_ | refine leL_any ?_ | exact leL_nil)) (by simp) (by simp) rfl rfl) (hnx _ _ _ _ _ (hgo g1 (fun _ => g2))) him⟩
        · rename_i hc
          have g2 := leF hA hc
          conv => cbv
          exact ⟨hir, hR (A.iAdd i 1, F, C, (n, vs), true) _ (by (conv => cbv); exact wk_round (bx := [_, _]) (bx' := [_]) (mp := []) (mp' := []) (by repeat (first | refine leL_same ?_ | refine leL_any ?_ | exact leL_nil)) (by simp) (by simp) rfl rfl) (hnx _ _ _ _ _ (hstay (.inr ⟨rfl, g2⟩))) him⟩
    · rename_i hc
      have g1 := leF hA hc
      conv => cbv
      exact ⟨hir, hR (A.iAdd i 1, F, C, (n, vs), ok) _ (by (conv => cbv); exact wk_round (bx := [_, _]) (bx' := [_]) (mp := []) (mp' := []) (by repeat (first | refine leL_same ?_ | refine leL_any ?_ | exact leL_nil)) (by simp) (by simp) rfl rfl) (hnx _ _ _ _ _ (hstay (.inl g1))) him⟩
  · rename_i hc
    have hi : i = s.length := by have := ltF' hA rfl (lenI hA hxl) hc; omega
    rw [show s.take i.toNat = s by rw [List.take_of_length_le (by omega)]] at hi2
    conv => cbv
    have hR2 : PV.tup [.agg [.int .i64 F, .int .i64 C, .list n vs], .bool ok] = q := by
      rw [← hq]
      unfold inR_
      have h : InAt (inS s m) F C n vs ok := hi2
      cases ho : inS s m with
      | none =>
        rw [ho] at h
        obtain ⟨rfl, rfl, ⟨rfl, rfl⟩, rfl⟩ := h
        rfl
      | some d =>
        rw [ho] at h
        obtain ⟨rfl, rfl, ⟨rfl, rfl⟩, rfl⟩ := h
        rfl
    exact hR2

theorem find_at {α : Type} {p : α → Bool} {l : List α} {i : Int} {x : α} (hx : l[i.toNat]? = some x) (hp : p x = true) (h : ∀ y ∈ l.take i.toNat, p y = false) : l.find? p = some x := by
  rw [List.find?_eq_some_iff_append]
  have hlt := List.getElem?_eq_some_iff.1 hx
  refine ⟨hp, l.take i.toNat, l.drop (i.toNat + 1), ?_, fun y hy => by simp [h y hy]⟩
  conv => lhs; rw [← List.take_append_drop i.toNat l, List.drop_eq_getElem_cons hlt.1, hlt.2]

def secR (o : Option Int) : PV := .tup [.int .i64 (o.getD 0), .bool o.isSome]
set_option maxHeartbeats 4000000 in
theorem cfg_Sector (ss : List Sector) (cs : List Config) (n : Nat) (vs : List PV) (c v : Int) {xs ys : List PV} (hx : xs = encSectors ss) (hy : ys = encConfigs cs) :
    CallsPV Tryz.prog 149 [.agg [.list n vs, .list 5 xs, .list 3 ys, .list 0 [], .list 0 [], .list 0 [], .list 0 [], .list 0 []], .int .i64 c, .int .i64 v] (secR (cfgSec ss cs c v)) := by
  refine callsPV_by (clo := fun _ => false) (rows := false) env_ok Tryz.func149 rfl (enters_of Tryz.func149 (by kernel_rfl) rfl) (fun A q P Y hr hA hq => ?_)
  have hxl : xs.length = ss.length := by rw [hx]; simp [encSectors]
  have hyl : ys.length = cs.length := by rw [hy]; simp [encConfigs]
  have hcl : ∀ k ∈ cs, k.Sectors.length ≤ 9223372036854775807 := fun k hk => by
    have h1 := Real.cell (show Real [.agg [_, _, _, _, _, _, _, _]] from hr.mem (p := .agg [.list n vs, .list 5 xs, .list 3 ys, .list 0 [], .list 0 [], .list 0 [], .list 0 [], .list 0 []]) (by simp)) (c := .list 3 ys) (by simp)
    have := (Real.elem h1 (x := encConfig k) (by rw [hy]; exact List.mem_map_of_mem hk) (c := .list 1 (encInts k.Sectors)) (by simp [encConfig, PV.cells])).len
    simpa [encInts] using this
  have hno : cfgSec ss cs c v = none → PV.tup [.int .i64 0, .bool false] = q := fun h => by rw [← hq, h]; rfl
  have hyes : ∀ z, cfgSec ss cs c v = some z → PV.tup [.int .i64 z, .bool true] = q := fun z h => by rw [← hq, h]; rfl
  clear hq
  conv => cbv
  split
  · rename_i hc
    conv => cbv
    exact hno (by have := ltT hA hc; unfold cfgSec; rw [if_neg (by omega)])
  rename_i g1; replace g1 := ltF hA g1
  conv => cbv
  split
  · rename_i hc
    conv => cbv
    exact hno (by have := leT' hA (lenI hA hyl) rfl hc; unfold cfgSec; rw [if_pos g1, List.getElem?_eq_none (by omega)])
  rename_i g2; replace g2 := leF' hA (lenI hA hyl) rfl g2
  conv => cbv
  refine idx_Config hA hy g1 g2 (fun k v1 v2 hk hv1 hv2 => ?_)
  have hfd : cfgSec ss cs c v = k.Sectors.find? (volIn ss v) := by unfold cfgSec; rw [if_pos g1, hk]
  have hkl := hcl k (List.mem_of_getElem? hk)
  rw [hfd] at hno hyes
  obtain ⟨k1, k2, k3⟩ := k
  simp only at hkl hno hyes hv2
  have hul : v2.length = k3.length := by rw [hv2]; simp [encInts]
  conv => cbv
  refine loop_set hA (fun (i : Int) s => s.put (some 26) (.val (.int .i64 i))) (fun i => 0 ≤ i ∧ i ≤ (k3.length : Int) ∧ (fun i => ∀ x ∈ k3.take i.toNat, volIn ss v x = false) i) (fun i => ((k3.length : Int) - i).toNat) 0 ?_ ?_ ?_
  · conv => cbv
    exact wk_sl (by repeat (first | refine leL_same ?_ | refine leL_any ?_ | exact leL_nil))
  · exact ⟨Int.le_refl _, by omega, by simp⟩
  rintro R i ⟨hi0, hi1, hi2⟩ hRi
  conv => cbv
  split
  ·   rename_i hc
      have hi : i < (k3.length : Int) := ltT' hA rfl (lenI hA hul) hc
      have his : A.iAdd i 1 = i + 1 := addI hA _ _
      have hir : A.inR (A.iAdd i 1) := inR' hA his (by unfold inI64; omega)
      have him : ((k3.length : Int) - A.iAdd i 1).toNat < ((k3.length : Int) - i).toNat := by rw [his]; omega
      have hin : (fun i => ∀ x ∈ k3.take i.toNat, volIn ss v x = false) (i + 1) → 0 ≤ A.iAdd i 1 ∧ A.iAdd i 1 ≤ (k3.length : Int) ∧ (fun i => ∀ x ∈ k3.take i.toNat, volIn ss v x = false) (A.iAdd i 1) := fun h => by rw [his]; exact ⟨by omega, by omega, h⟩
      simp only at hin
      conv => cbv
      refine idx_Int hA hv2 hi0 hi (fun x hx0 => ?_)
      have ht := take_snoc' hi0 hx0
      conv => cbv
      split
      rotate_left
      · rename_i hc
        have g3 := leF hA hc
        conv => cbv
        exact ⟨hir, hRi (A.iAdd i 1) _ (by (conv => cbv); exact wk_sl (by repeat (first | refine leL_same ?_ | refine leL_any ?_ | exact leL_nil))) (hin (mem_snoc ht hi2 (by unfold volIn; rw [decide_eq_false (by omega)]; rfl))) him⟩
      rename_i g3; replace g3 := leT hA g3
      conv => cbv
      split
      rotate_left
      · rename_i hc
        have g4 := ltF' hA rfl (lenI hA hxl) hc
        conv => cbv
        exact ⟨hir, hRi (A.iAdd i 1) _ (by (conv => cbv); exact wk_sl (by repeat (first | refine leL_same ?_ | refine leL_any ?_ | exact leL_nil))) (hin (mem_snoc ht hi2 (by unfold volIn; rw [List.getElem?_eq_none (by omega)]; simp))) him⟩
      rename_i g4; replace g4 := ltT' hA rfl (lenI hA hxl) g4
      conv => cbv
      refine idx_Sector hA hx g3 g4 (fun s w1 w2 hs hw1 hw2 => ?_)
      have hvi : volIn ss v x = decide (v ∈ s.Volumes) := by unfold volIn; rw [hs, decide_eq_true g3]; rfl
      have hcall := contains_Int v s.Volumes hw2
      rw [← hvi] at hcall
      obtain ⟨s1, s2, s3, s4, s5⟩ := s
      conv => cbv
      cases hb : volIn ss v x with
      | true =>
        rw [hb] at hcall
        refine call_intro hA (hcall) ?_
        conv => cbv
        exact hyes x (find_at hx0 hb hi2)
      | false =>
        rw [hb] at hcall
        refine call_intro hA (hcall) ?_
        conv => cbv
        exact ⟨hir, hRi (A.iAdd i 1) _ (by (conv => cbv); exact wk_sl (by repeat (first | refine leL_same ?_ | refine leL_any ?_ | exact leL_nil))) (hin (mem_snoc ht hi2 hb)) him⟩
  rename_i hc
  have hi : i = (k3.length : Int) := by have := ltF' hA rfl (lenI hA hul) hc; omega
  conv => cbv
  exact hno (by rw [List.find?_eq_none]; intro x hx; rw [take_all hi hi2 x hx]; simp)

theorem air_Sector (t : Tables) (c v : Int) : CallsPV Tryz.prog 133 [encTables t, .int .i64 c, .int .i64 v] (secR (cfgSec t.Sectors t.Configs c v)) := by
  refine callsPV_by (clo := fun _ => false) (rows := false) env_ok Tryz.func133 rfl (enters_of Tryz.func133 (by kernel_rfl) rfl) (fun A q P Y hr hA hq => ?_)
  obtain ⟨ss, hss⟩ : ∃ ss, ss = encSectors t.Sectors := ⟨_, rfl⟩
  obtain ⟨cs, hcs⟩ : ∃ cs, cs = encConfigs t.Configs := ⟨_, rfl⟩
  obtain ⟨ws, hws⟩ : ∃ ws, ws = encWays t.Ways := ⟨_, rfl⟩
  obtain ⟨ms, hms⟩ : ∃ ms, ms = encIntLs t.Modes := ⟨_, rfl⟩
  obtain ⟨ks, hks⟩ : ∃ ks, ks = encKinds t.Kinds := ⟨_, rfl⟩
  obtain ⟨nv, hnv⟩ : ∃ nv, nv = t.Volumes := ⟨_, rfl⟩
  have htab : encTables t = .agg [.int .i64 nv, .list 5 ss, .list 3 cs, .list 3 ws, .list 1 ms, .list 6 ks] := by rw [encTables_eq t hss hcs hws hms hks, hnv]
  rw [htab]
  have h := fun n vs => cfg_Sector t.Sectors t.Configs n vs c v hss hcs
  unfold secR at h hq
  generalize (cfgSec t.Sectors t.Configs c v).getD 0 = z at h hq
  generalize (cfgSec t.Sectors t.Configs c v).isSome = b at h hq
  conv => cbv
  refine call_intro hA (h _ _) ?_
  conv => cbv
  exact hq

theorem cap_Sector (t : Tables) (s : List Change) (v m : Int) : CallsPV Tryz.prog 105 [encTables t, encScheme s, .int .i64 v, .int .i64 m] (secR (secAt t s v m)) := by
  refine callsPV_by (clo := fun _ => false) (rows := false) env_ok Tryz.func105 rfl (enters_of Tryz.func105 (by kernel_rfl) rfl) (fun A q P Y hr hA hq => ?_)
  have h1 := cap_In s m
  have h2 := fun c => air_Sector t c v
  obtain ⟨ss, hss⟩ : ∃ ss, ss = encSectors t.Sectors := ⟨_, rfl⟩
  obtain ⟨cs, hcs⟩ : ∃ cs, cs = encConfigs t.Configs := ⟨_, rfl⟩
  obtain ⟨ws, hws⟩ : ∃ ws, ws = encWays t.Ways := ⟨_, rfl⟩
  obtain ⟨ms, hms⟩ : ∃ ms, ms = encIntLs t.Modes := ⟨_, rfl⟩
  obtain ⟨ks, hks⟩ : ∃ ks, ks = encKinds t.Kinds := ⟨_, rfl⟩
  obtain ⟨nv, hnv⟩ : ∃ nv, nv = t.Volumes := ⟨_, rfl⟩
  have htab : encTables t = .agg [.int .i64 nv, .list 5 ss, .list 3 cs, .list 3 ws, .list 1 ms, .list 6 ks] := by rw [encTables_eq t hss hcs hws hms hks, hnv]
  rw [htab] at h2 ⊢
  obtain ⟨xs, hxs⟩ : ∃ xs, xs = encChanges s := ⟨_, rfl⟩
  rw [encScheme_eq hxs] at h1 ⊢
  unfold inR_ at h1
  unfold secAt at hq
  cases hI : inS s m with
  | none =>
    rw [hI] at h1 hq
    simp only at h1 hq
    conv => cbv
    refine call_intro hA (h1) ?_
    conv => cbv
    split
    rotate_left
    · rename_i hc
      cases ((nF hA hc))
    conv => cbv
    exact hq
  | some d =>
    rw [hI] at h1 hq
    obtain ⟨d1, d2, d3⟩ := d
    simp only at h1 hq
    have h3 := h2 d2
    unfold secR at h3 hq
    generalize (cfgSec t.Sectors t.Configs d2 v).getD 0 = z at h3 hq
    generalize (cfgSec t.Sectors t.Configs d2 v).isSome = b at h3 hq
    obtain ⟨ml, hml⟩ : ∃ ml, ml = encInts d3 := ⟨_, rfl⟩
    rw [encChange_eq ⟨d1, d2, d3⟩ hml] at h1
    conv => cbv
    refine call_intro hA (h1) ?_
    conv => cbv
    split
    · rename_i hc
      cases ((nT hA hc))
    conv => cbv
    refine call_intro hA (h3) ?_
    conv => cbv
    exact hq
end Go.Abs
