/-
  Law TrajectoryWindow.
-/
import Derived.Test.YtheofohbhklekaaGreatL3
import Derived.Test.YtheofohbhklekaaGreatR26
import Derived.Test.YtheofohbhklekaaGreatG1
set_option linter.unusedVariables false
set_option linter.unusedSimpArgs false
namespace Go.Abs
open Go.RowKit Go.Proofs

theorem winL_mono (t : Tables) (f : Flight) (o : Opt) {n m : Nat} (h : n ≤ m) : (winL t f o n).length ≤ (winL t f o m).length := by
  induction m with
  | zero => rw [Nat.le_zero.1 h]; exact Nat.le_refl _
  | succ m ih =>
    rcases Nat.lt_or_eq_of_le h with h1 | h1
    · refine Nat.le_trans (ih (by omega)) ?_
      rw [winL_succ, List.length_append]
      omega
    · rw [h1]; exact Nat.le_refl _

set_option maxHeartbeats 4000000 in
theorem law_TrajectoryWindow (t : Tables) (f : Flight) (o : Opt) (_ : okTables t) (_ : okFlight f) (_ : okOpt o) : CallsPV Tryz.prog 8 [encTables t, encFlight f, encOpt o] (.bool true) := by
  have hfew := law16_few t f
  have h3 := ref16_Light t f o 600
  have h4 := tr_All t f o
  have hcase := countE_case t f o
  have h5 : countE t f o = 0 → ∀ m, f.Window.From ≤ m → m < f.Window.To → CallsPV Tryz.prog 21 [encTables t, encFlight (oneF f m), encOpt o] (.tup [.list 2 (encPaths (allP t (oneF f m) o)), .int .i64 0]) := fun h m h0 h1 => by
    have := tr_All t (oneF f m) o
    rw [(window_one h h0 h1).1] at this
    exact this
  have hW0 : winL t f o 0 = [] := rfl
  have hW1 : ∀ m, f.Window.From ≤ m → winL t f o (m + 1 - f.Window.From).toNat = winL t f o (m - f.Window.From).toNat ++ allP t (oneF f m) o := fun m hm => by
    rw [show (m + 1 - f.Window.From).toNat = (m - f.Window.From).toNat + 1 by omega, winL_succ, show f.Window.From + ((m - f.Window.From).toNat : Int) = m by omega]
  have hW2 := @winL_all t f o
  have hW3 := fun n m => @winL_mono t f o n m
  have hwin : countE t f o = 0 → 0 ≤ f.Window.From ∧ f.Window.From < f.Window.To ∧ f.Window.To ≤ 1440 := fun h => by
    obtain ⟨k, w, hp⟩ := planE_plan (countE_plan h).1
    exact ⟨hp.win.1, hp.win.2.1, hp.win.2.2.1⟩
  have hsame := fun xs hx => ref16_SamePaths (allP t f o) (allP t f o) (xs := xs) (ys := xs) hx hx
  rw [decide_eq_true rfl] at hsame
  unfold oneF at h5 hW1
  generalize (few14 t && fewF f) = b1 at hfew
  generalize (!decide (countE t f o = 0) || decide (countN t f o ≤ 600)) = b3 at h3
  generalize hP : (fun m : Int => allP t { f with Window := ⟨m, m + 1⟩ } o) = P1
  have hP' : ∀ m, allP t { f with Window := ⟨m, m + 1⟩ } o = P1 m := fun m => by rw [← hP]
  simp only [hP'] at h5 hW1
  clear hP hP'
  generalize winL t f o = W at hW0 hW1 hW2 hW3
  generalize countE t f o = e2 at h4 hcase h5 hW2 hwin
  generalize countN t f o = n at hcase
  generalize allP t f o = M at h4 hcase hW2 hsame
  generalize allT t f o = T at hcase
  obtain ⟨xs, hxs⟩ : ∃ xs, xs = encPaths M := ⟨_, rfl⟩
  have hxl : xs.length = M.length := by rw [hxs]; simp [encPaths]
  rw [← hxs] at h4
  replace hsame := hsame xs hxs
  refine callsPV_by (clo := fun _ => false) (rows := false) env_ok Tryz.func8 rfl (enters_of Tryz.func8 (by kernel_rfl) rfl) (fun A q P Y hr hA hq => ?_)
  obtain ⟨ss, hss⟩ : ∃ ss, ss = encSectors t.Sectors := ⟨_, rfl⟩
  obtain ⟨cs, hcs⟩ : ∃ cs, cs = encConfigs t.Configs := ⟨_, rfl⟩
  obtain ⟨ws, hws⟩ : ∃ ws, ws = encWays t.Ways := ⟨_, rfl⟩
  obtain ⟨ms, hms⟩ : ∃ ms, ms = encIntLs t.Modes := ⟨_, rfl⟩
  obtain ⟨ks, hks⟩ : ∃ ks, ks = encKinds t.Kinds := ⟨_, rfl⟩
  obtain ⟨nv, hnv⟩ : ∃ nv, nv = t.Volumes := ⟨_, rfl⟩
  have htab : encTables t = .agg [.int .i64 nv, .list 5 ss, .list 3 cs, .list 3 ws, .list 1 ms, .list 6 ks] := by rw [encTables_eq t hss hcs hws hms hks, hnv]
  rw [htab] at hfew h3 h4 h5 ⊢
  obtain ⟨f1, f2, f3, f4, f5, ⟨f6, f7⟩, f8⟩ := f
  obtain ⟨fl, hfl⟩ : ∃ fl, fl = encInts f5 := ⟨_, rfl⟩
  rw [encFlight_eq _ hfl] at hfew h3 h4 ⊢
  simp only at h5
  have he5 := fun m : Int => encFlight_eq (⟨f1, f2, f3, f4, f5, ⟨m, m + 1⟩, f8⟩ : Flight) hfl
  simp only at he5
  simp only [he5] at h5
  have h5' := h5
  obtain ⟨a1, a2, a3, a4⟩ := o
  simp only at hfew h3 h4 h5' hW1 hW2 hwin ⊢
  conv => cbv
  refine call_intro hA (law16_sane) ?_
  conv => cbv
  split
  · rename_i hc
    cases (nT hA hc)
  conv => cbv
  refine call_intro hA (hfew) ?_
  conv => cbv
  split
  · conv => cbv
    exact hq
  conv => cbv
  refine call_intro hA (h3) ?_
  conv => cbv
  split
  · conv => cbv
    exact hq
  conv => cbv
  refine call_intro hA (h4) ?_
  conv => cbv
  split
  · conv => cbv
    exact hq
  rename_i hc
  have he := neF hA hc
  rcases hcase with ⟨h0, _⟩ | ⟨h0, _, _, _, hM1, hM2⟩
  · exact absurd he h0
  have hw := hwin h0
  have hW2' := hW2 h0
  have hWl : ∀ m, m ≤ f7 → (W (m - f6).toNat).length ≤ 4096 := fun m hm => by
    have := hW3 (m - f6).toNat (f7 - f6).toNat (by omega)
    rw [hW2'] at this
    omega
  have h6 := h5' h0
  clear hW2 hwin h5 h5' hfew h3 h4
  conv => cbv
  refine loop_set hA (fun (z : Int × List PV) s => { (s.put (some 10) (.val (.int .i64 z.1))).put (some 9) (.own 0 2 z.2) with tk := [(A.nLen z.2, 47)] })
    (fun z => f6 ≤ z.1 ∧ z.1 ≤ f7 ∧ z.2 = encPaths (W (z.1 - f6).toNat)) (fun z => (f7 - z.1).toNat) (f6, []) ?_ ?_ ?_
  · conv => cbv
    exact wk_own 9 0 2 [] _ rfl (.inr rfl) (by repeat (first | refine leL_same ?_ | refine leL_any ?_ | exact leL_nil)) (by subst hA; rfl)
  · exact ⟨Int.le_refl _, by omega, by simp [hW0, encPaths]⟩
  rintro R ⟨m, L⟩ ⟨hm0, hm1, hL⟩ hR
  simp only at hm0 hm1 hL
  conv => cbv
  split
  · rename_i hc
    have hm : m < f7 := ltT hA hc
    have hms : A.iAdd m 1 = m + 1 := addI hA _ _
    have hmr : A.inR (A.iAdd m 1) := inR' hA hms (by unfold inI64; omega)
    have hc5 := h6 m hm0 hm
    rw [← hms] at hc5
    obtain ⟨ps, hps⟩ : ∃ ps, ps = encPaths (P1 m) := ⟨_, rfl⟩
    rw [← hps] at hc5
    have hLa : A.lApp L ps = encPaths (W (m + 1 - f6).toNat) := by
      rw [hW1 m hm0, hL, hps]
      subst hA
      show encPaths _ ++ encPaths _ = _
      simp [encPaths]
    have htk : A.tkEq (A.nLen L) (A.nLen L) := by subst hA; rfl
    have hroom : A.room (A.nLen (A.lApp L ps)) 32 := by
      rw [hLa]
      have := hWl (m + 1) (by omega)
      subst hA
      show (encPaths _).length * (32 + 1) ≤ 140737488355328
      simp only [encPaths, List.length_map]
      omega
    conv => cbv
    refine ⟨hmr, ?_⟩
    refine call_intro hA (hc5) ?_
    conv => cbv
    split
    · rename_i hc
      cases (neT hA hc rfl)
    conv => cbv
    refine ⟨⟨htk, hroom⟩, hmr, hR (A.iAdd m 1, A.lApp L ps) _ ?_ ?_ ?_⟩
    · conv => cbv
      exact wk_round (bx := [_, _, _]) (bx' := [_]) (mp := []) (mp' := []) (by repeat (first | refine leL_same ?_ | refine leL_any ?_ | refine leL_own ?_ | exact leL_nil)) (by simp) (by simp) rfl rfl
    · show f6 ≤ A.iAdd m 1 ∧ A.iAdd m 1 ≤ f7 ∧ _ = encPaths (W (A.iAdd m 1 - f6).toNat)
      rw [hms]
      exact ⟨by omega, by omega, hLa⟩
    · show (f7 - A.iAdd m 1).toNat < (f7 - m).toNat
      rw [hms]; omega
  · rename_i hc
    have hm : m = f7 := by have := ltF hA hc; omega
    have hLx : L = xs := by rw [hL, hm, hW2', hxs]
    rw [hLx]
    conv => cbv
    refine call_intro hA (hsame) ?_
    conv => cbv
    exact hq
end Go.Abs
