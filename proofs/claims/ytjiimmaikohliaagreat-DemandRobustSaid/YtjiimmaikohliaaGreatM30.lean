/-
  Laws DemandUsesSpec, DemandAddSpec, DemandOrder.
-/
import Derived.Test.YtjiimmaikohliaaGreatL4
import Derived.Test.YtjiimmaikohliaaGreatG2
set_option linter.unusedVariables false
set_option linter.unusedSimpArgs false
namespace Go.Abs
open Go.RowKit Go.Proofs

def few20 (t : Tables) (s : List Change) (l : List Path) : Bool := few17 t && (few19 s && few20P l)
theorem few20_len {t : Tables} {s : List Change} {l : List Path} (h : few20 t s l = true) : l.length ≤ 12 := by
  unfold few20 few20P at h
  simp only [Bool.and_eq_true, decide_eq_true_eq] at h
  exact h.2.2.2
theorem law20_few (t : Tables) (s : List Change) (l : List Path) {xs : List PV} (hx : xs = encPaths l) : CallsPV Tryz.prog 11 [encTables t, encScheme s, .list 2 xs] (.bool (few20 t s l)) := by
  refine callsPV_by (clo := fun _ => false) (rows := false) env_ok Tryz.func11 rfl (enters_of Tryz.func11 (by kernel_rfl) rfl) (fun A q P Y hr hA hq => ?_)
  have h1 := ref17_FewTables t
  have h2 := ref19_Few s
  have h3 := ref20_FewPaths l hx
  have hF : few20 t s l = (few17 t && (few19 s && few20P l)) := rfl
  rw [hF] at hq
  generalize few17 t = b1 at h1 hq
  generalize few19 s = b2 at h2 hq
  generalize few20P l = b3 at h3 hq
  obtain ⟨ss, hss⟩ : ∃ ss, ss = encSectors t.Sectors := ⟨_, rfl⟩
  obtain ⟨cs, hcs⟩ : ∃ cs, cs = encConfigs t.Configs := ⟨_, rfl⟩
  obtain ⟨ws, hws⟩ : ∃ ws, ws = encWays t.Ways := ⟨_, rfl⟩
  obtain ⟨ms, hms⟩ : ∃ ms, ms = encIntLs t.Modes := ⟨_, rfl⟩
  obtain ⟨ks, hks⟩ : ∃ ks, ks = encKinds t.Kinds := ⟨_, rfl⟩
  obtain ⟨nv, hnv⟩ : ∃ nv, nv = t.Volumes := ⟨_, rfl⟩
  have htab : encTables t = .agg [.int .i64 nv, .list 5 ss, .list 3 cs, .list 3 ws, .list 1 ms, .list 6 ks] := by rw [encTables_eq t hss hcs hws hms hks, hnv]
  rw [htab] at h1 ⊢
  obtain ⟨sc, hsc⟩ : ∃ sc, sc = encChanges s := ⟨_, rfl⟩
  rw [encScheme_eq hsc] at h2 ⊢
  conv => cbv
  refine call_intro hA (h1) ?_
  conv => cbv
  cases b1 with
  | false =>
    conv => cbv
    exact hq
  | true =>
    conv => cbv
    refine call_intro hA (h2) ?_
    conv => cbv
    cases b2 with
    | false =>
      conv => cbv
      exact hq
    | true =>
      conv => cbv
      refine call_intro hA (h3) ?_
      conv => cbv
      exact hq

set_option maxHeartbeats 2000000 in
theorem law_DemandUsesSpec (t : Tables) (s : List Change) (cl : Int) (l : List Path) (_ : okTables t) (_ : okScheme s) (_ : okI cl) (_ : ∀ x ∈ l, okPath x) : CallsPV Tryz.prog 3 [encTables t, encScheme s, .int .i64 cl, .list 2 (encPaths l)] (.bool true) := by
  obtain ⟨xs, hxs⟩ : ∃ xs, xs = encPaths l := ⟨_, rfl⟩
  rw [← hxs]
  have hfew := law20_few t s l hxs
  have hlen := few20_len (t := t) (s := s) (l := l)
  generalize few20 t s l = fb at hfew hlen
  have h1 := fun h => dm_Uses t s cl l hxs h
  have h2 := fun h => ref20_Uses t s cl l hxs h
  have h3 := fun h => dm_Sure t s cl l hxs h
  have h4 := fun h => ref20_Sure t s cl l hxs h
  have e1 : ∃ (us : List Use) (m : Nat) (e : Int), leastR t s cl l 1 = .tup [.list m (encUses us), .int .i64 e] ∧ (m = 4 ∨ us = []) := by
    unfold leastR
    split
    · exact ⟨[], 0, _, rfl, .inr rfl⟩
    · exact ⟨_, 4, _, rfl, .inl rfl⟩
  have e2 : ∃ (us : List Use) (m : Nat) (e : Int), leastR t s cl l l.length = .tup [.list m (encUses us), .int .i64 e] ∧ (m = 4 ∨ us = []) ∧ (l = [] → us = [] ∧ e = cntErr t s cl l) := by
    unfold leastR
    split
    · exact ⟨[], 0, _, rfl, .inr rfl, fun _ => ⟨rfl, rfl⟩⟩
    · rename_i h
      refine ⟨_, 4, _, rfl, .inl rfl, ?_⟩
      rintro rfl
      refine ⟨by simp [leastU, leastC, sortC], ?_⟩
      have : cntErr t s cl [] = 0 := by simpa using h
      exact this.symm
  obtain ⟨us1, m1, e1, hr1, hm1⟩ := e1
  obtain ⟨us2, m2, e2, hr2, hm2, hn2⟩ := e2
  rw [hr1] at h1 h2
  rw [hr2] at h3 h4
  have h4' : ∀ h, ∃ m3, CallsPV Tryz.prog 15 [encTables t, encScheme s, .int .i64 cl, .list 2 xs] (.tup [.list m3 (encUses us2), .int .i64 e2]) ∧ (m3 = 4 ∨ us2 = []) := fun h => by
    have := h4 h
    by_cases h0 : l = []
    · rw [if_pos h0, ← (hn2 h0).2] at this
      refine ⟨0, ?_, .inr (hn2 h0).1⟩
      rw [(hn2 h0).1]
      exact this
    · rw [if_neg h0] at this
      exact ⟨m2, this, hm2⟩
  clear hr1 hr2 hn2 h4
  have hsame : ∀ (us : List Use) (m m' : Nat), (m = 4 ∨ us = []) → (m' = 4 ∨ us = []) → CallsPV Tryz.prog 16 [.list m (encUses us), .list m' (encUses us)] (.bool true) := fun us m m' hm hm' => by
    have h := ref20_Same us us rfl rfl
    rw [decide_eq_true rfl] at h
    have hle : ∀ k, (k = 4 ∨ us = []) → LeP (.list k (encUses us)) (.list 4 (encUses us)) := fun k hk => by
      rcases hk with rfl | rfl
      · exact .refl _
      · exact .nil _ _
    exact h.le (.cons (hle _ hm) (.cons (hle _ hm') .nil)) (.refl _)
  refine callsPV_by (clo := fun _ => false) (rows := false) env_ok Tryz.func3 rfl (enters_of Tryz.func3 (by kernel_rfl) rfl) (fun A q P Y hr hA hq => ?_)
  obtain ⟨ss, hss⟩ : ∃ ss, ss = encSectors t.Sectors := ⟨_, rfl⟩
  obtain ⟨cs, hcs⟩ : ∃ cs, cs = encConfigs t.Configs := ⟨_, rfl⟩
  obtain ⟨ws, hws⟩ : ∃ ws, ws = encWays t.Ways := ⟨_, rfl⟩
  obtain ⟨ms, hms⟩ : ∃ ms, ms = encIntLs t.Modes := ⟨_, rfl⟩
  obtain ⟨ks, hks⟩ : ∃ ks, ks = encKinds t.Kinds := ⟨_, rfl⟩
  obtain ⟨nv, hnv⟩ : ∃ nv, nv = t.Volumes := ⟨_, rfl⟩
  have htab : encTables t = .agg [.int .i64 nv, .list 5 ss, .list 3 cs, .list 3 ws, .list 1 ms, .list 6 ks] := by rw [encTables_eq t hss hcs hws hms hks, hnv]
  rw [htab] at hfew h1 h2 h3 h4' ⊢
  obtain ⟨sc, hsc⟩ : ∃ sc, sc = encChanges s := ⟨_, rfl⟩
  rw [encScheme_eq hsc] at hfew h1 h2 h3 h4' ⊢
  conv => cbv
  refine call_intro hA (law20_sane) ?_
  conv => cbv
  split
  · rename_i hc
    cases (nT hA hc)
  conv => cbv
  refine call_intro hA (hfew) ?_
  conv => cbv
  split
  · conv => cbv
    exact hq
  rename_i hc
  have hl := hlen (notF hA hc)
  have h1 := h1 (by omega)
  have h2 := h2 (by omega)
  have h3 := h3 (by omega)
  obtain ⟨m3, h4, hm3⟩ := h4' (by omega)
  have d1 := hsame us1 m1 m1 hm1 hm1
  have d2 := hsame us2 m2 m3 hm2 hm3
  generalize encUses us1 = u1 at h1 h2 d1
  generalize encUses us2 = u2 at h3 h4 d2
  conv => cbv
  refine call_intro hA (h1) ?_
  conv => cbv
  refine call_intro hA (h2) ?_
  conv => cbv
  refine call_intro hA (h3) ?_
  conv => cbv
  refine call_intro hA (h4) ?_
  conv => cbv
  refine call_intro hA (d1) ?_
  conv => cbv
  split
  rotate_left
  · rename_i hc
    cases (eqF hA hc rfl)
  conv => cbv
  refine call_intro hA (d2) ?_
  conv => cbv
  rw [← hq]
  show PV.bool (A.iEq e2 e2) = _
  rw [iEqI hA, decide_eq_true rfl]
end Go.Abs
