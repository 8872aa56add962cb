/-
  flights.Measures, flights.Delay.
-/
import Derived.Test.YtbljnbpddboohaaGreatF18
import Derived.Test.YtbljnbpddboohaaGreatF19
import Derived.Test.YtbljnbpddboohaaGreatW1
set_option linter.unusedVariables false
set_option linter.unusedSimpArgs false
namespace Go.Abs
open Go.RowKit Go.Proofs

/-- The measures of a flight that is valid. -/
def measL (t : Tables) (f : Flight) : List Opt :=
  match t.Kinds[f.Class.toNat]? with
  | some k => measO k.Longest f.Ways.length f.Cancel
  | none => []
def measuresF (t : Tables) (f : Flight) : List Opt := if checkF t f = 0 then measL t f else []

theorem checkF_zero {t : Tables} {f : Flight} (h : checkF t f = 0) : airOk t = true ∧ flightB t f = true := by
  unfold checkF at h
  split at h
  · split at h
    · exact ⟨‹_›, ‹_›⟩
    · cases h
  · cases h

/-- What a valid flight's class is like. -/
theorem checkF_kind {t : Tables} {f : Flight} (h : checkF t f = 0) : ∃ k, t.Kinds[f.Class.toNat]? = some k ∧ 0 ≤ f.Class ∧ 0 ≤ k.Longest ∧ k.Longest ≤ 60 ∧ k.Longest.tmod 10 = 0 ∧ 1 ≤ k.Weight ∧ k.Weight ≤ 8 ∧ 1 ≤ f.Ways.length ∧ f.Ways.length ≤ 4 := by
  obtain ⟨h1, h2⟩ := checkF_zero h
  simp only [flightB, Bool.and_eq_true, Bool.not_eq_true'] at h2
  obtain ⟨⟨⟨⟨⟨⟨⟨⟨_, _⟩, hc⟩, _⟩, hw⟩, _⟩, _⟩, _⟩, _⟩ := h2
  simp [outB] at hc hw
  have hlt : f.Class.toNat < t.Kinds.length := by omega
  refine ⟨t.Kinds[f.Class.toNat], List.getElem?_eq_getElem hlt, hc.1, ?_⟩
  simp only [airOk, Bool.and_eq_true, List.all_eq_true, decide_eq_true_eq] at h1
  have hk := (h1.2 _ (List.getElem_mem hlt)).1
  generalize t.Kinds[f.Class.toNat] = k at hk ⊢
  simp [kindOk, withinL] at hk
  refine ⟨by omega, by omega, by omega, by omega, by omega, by omega, by omega⟩

theorem fl_Measures (t : Tables) (f : Flight) : CallsPV Tryz.prog 12 [encTables t, encFlight f] (.tup [.list 4 (encOpts (measuresF t f)), .int .i64 (checkF t f)]) := by
  have hchk := fl_Check t f
  obtain ⟨ck, hck⟩ : ∃ ck, ck = checkF t f := ⟨_, rfl⟩
  by_cases h0 : ck = 0
  · obtain ⟨k, hk, hc0, hL0, hL1, _, _, _, hw1, hw4⟩ := checkF_kind (hck ▸ h0)
    have hml : measuresF t f = measO k.Longest f.Ways.length f.Cancel := by
      rw [measuresF, if_pos (hck ▸ h0), measL, hk]
    rw [hml, ← hck, h0]
    rw [← hck, h0] at hchk
    refine callsPV_by (clo := fun _ => false) (rows := false) env_ok Tryz.func12 rfl (enters_of Tryz.func12 (by kernel_rfl) rfl) (fun A q P Y hr hA hq => ?_)
    obtain ⟨ss, hss⟩ : ∃ ss, ss = encSectors t.Sectors := ⟨_, rfl⟩
    obtain ⟨cs, hcs⟩ : ∃ cs, cs = encConfigs t.Configs := ⟨_, rfl⟩
    obtain ⟨ws, hws⟩ : ∃ ws, ws = encWays t.Ways := ⟨_, rfl⟩
    obtain ⟨ms, hms⟩ : ∃ ms, ms = encIntLs t.Modes := ⟨_, rfl⟩
    obtain ⟨ks, hks⟩ : ∃ ks, ks = encKinds t.Kinds := ⟨_, rfl⟩
    obtain ⟨nv, hnv⟩ : ∃ nv, nv = t.Volumes := ⟨_, rfl⟩
    have htab : encTables t = .agg [.int .i64 nv, .list 5 ss, .list 3 cs, .list 3 ws, .list 1 ms, .list 6 ks] := by rw [encTables_eq t hss hcs hws hms hks, hnv]
    have hseq := fun wl (hwl : wl = encInts f.Ways) => fl_measures1 t.Kinds f k hc0 hk hL0 hL1 (by omega) nv ss cs ws ms ks wl hks hwl
    have hmk := fun wl => fl_measures nv ss cs ws ms ks f.ID f.Airline f.Class f.Window.From f.Window.To f.Call wl f.Cancel
    rw [htab] at hchk ⊢
    have hlen : (measO k.Longest f.Ways.length f.Cancel).length ≤ 1000 := by
      rw [measO_len]
      have h1 : (k.Longest / 10 + 1).toNat ≤ 7 := by omega
      have h2 : (k.Longest / 10 + 1).toNat * (3 * f.Ways.length) ≤ 7 * (3 * 4) := Nat.mul_le_mul h1 (by omega)
      split <;> omega
    generalize measO k.Longest f.Ways.length f.Cancel = M at hseq hq hlen
    obtain ⟨f1, f2, f3, f4, f5, ⟨f6, f7⟩, f8⟩ := f
    obtain ⟨fl, hfl⟩ : ∃ fl, fl = encInts f5 := ⟨_, rfl⟩
    rw [encFlight_eq _ hfl] at hchk ⊢
    have hs := hseq fl hfl
    have hm := hmk fl
    simp only at hchk hs hm ⊢
    clear hseq hmk
    conv => cbv
    refine call_intro hA hchk ?_
    conv => cbv
    split
    · rename_i h
      cases (neT hA h rfl)
    conv => cbv
    refine call_intro hA hm ?_
    conv => cbv
    refine rng_intro hA hs (fun x hx => ?_) (fun (L : List PV) s => { s with bx := s.bx.set 2 (some [.own 0 4 L]), tk := [(A.nLen L, 42)] })
      (fun k L => L = encOpts (M.take k)) [] (fun _ => rfl) ?_ ?_ ?_ ?_
    · obtain ⟨o, _, rfl⟩ := List.mem_map.1 hx; rfl
    · subst hA
      exact Wk.ownBx _ _ [] _ 2 0 0 4 [.lit 0 []] [] 42 rfl rfl (.inr rfl)
    · rfl
    · intro R k L x hx hL hR
      rw [List.getElem?_map, Option.map_eq_some_iff] at hx
      obtain ⟨o, ho, rfl⟩ := hx
      have hkl : k < M.length := (List.getElem?_eq_some_iff.1 ho).1
      have hLl : L.length ≤ 1000 := by rw [hL]; simp [encOpts]; omega
      obtain ⟨o1, o2, o3, o4⟩ := o
      have hnext : A.lApp L [encOpt ⟨o1, o2, o3, o4⟩] = encOpts (M.take (k + 1)) := by
        subst hA hL
        rw [List.take_add_one, ho]
        show encOpts _ ++ _ = _
        simp [encOpts]
      have htk : A.tkEq (A.nLen L) (A.nLen L) := by subst hA; rfl
      have hroom : A.room (A.nLen (A.lApp L [encOpt ⟨o1, o2, o3, o4⟩])) 32 := by
        subst hA
        show (L ++ [_]).length * (32 + 1) ≤ 140737488355328
        rw [List.length_append, List.length_singleton]; omega
      conv => cbv
      refine ⟨⟨htk, hroom⟩, hR (A.lApp L [.agg [.int .i64 o1, .int .i64 o2, .int .i64 o3, .bool o4]]) _ ?_ hnext⟩
      conv => cbv
      exact wk_round (bx := [_, _, _]) (bx' := [_]) (mp := []) (mp' := []) (by repeat (first | refine leL_same ?_ | refine leL_any ?_ | exact leL_nil)) (by simp) (by simp) rfl rfl
    · intro L hL
      rw [List.take_of_length_le (by simp)] at hL
      conv => cbv
      rw [← hq, hL]
  · have hml : measuresF t f = [] := by rw [measuresF, if_neg (hck ▸ h0)]
    rw [hml, ← hck]
    rw [← hck] at hchk
    refine CallsPV.le (p := .tup [.list 0 [], .int .i64 ck]) (args' := [encTables t, encFlight f]) ?_ (.cons (.refl _) (.cons (.refl _) .nil)) (.tup _ _ rfl fun i x y hx hy => ?_)
    · refine callsPV_by (clo := fun _ => false) (rows := false) env_ok Tryz.func12 rfl (enters_of Tryz.func12 (by kernel_rfl) rfl) (fun A q P Y hr hA hq => ?_)
      obtain ⟨ss, hss⟩ : ∃ ss, ss = encSectors t.Sectors := ⟨_, rfl⟩
      obtain ⟨cs, hcs⟩ : ∃ cs, cs = encConfigs t.Configs := ⟨_, rfl⟩
      obtain ⟨ws, hws⟩ : ∃ ws, ws = encWays t.Ways := ⟨_, rfl⟩
      obtain ⟨ms, hms⟩ : ∃ ms, ms = encIntLs t.Modes := ⟨_, rfl⟩
      obtain ⟨ks, hks⟩ : ∃ ks, ks = encKinds t.Kinds := ⟨_, rfl⟩
      obtain ⟨nv, hnv⟩ : ∃ nv, nv = t.Volumes := ⟨_, rfl⟩
      have htab : encTables t = .agg [.int .i64 nv, .list 5 ss, .list 3 cs, .list 3 ws, .list 1 ms, .list 6 ks] := by rw [encTables_eq t hss hcs hws hms hks, hnv]
      rw [htab] at hchk ⊢
      obtain ⟨f1, f2, f3, f4, f5, ⟨f6, f7⟩, f8⟩ := f
      obtain ⟨fl, hfl⟩ : ∃ fl, fl = encInts f5 := ⟨_, rfl⟩
      rw [encFlight_eq _ hfl] at hchk ⊢
      simp only at hchk ⊢
      conv => cbv
      refine call_intro hA hchk ?_
      conv => cbv
      split
      · conv => cbv
        exact hq
      · rename_i h
        exact absurd (neF hA h) h0
    · match i, hx, hy with
      | 0, hx, hy => simp at hx hy; subst hx hy; exact .nil _ _
      | 1, hx, hy => simp at hx hy; subst hx hy; exact .refl _
      | i + 2, hx, hy => simp at hx
end Go.Abs
