/-
  flights.Delay.
-/
import Derived.Test.YtbljnbpddboohaaGreatF20
set_option linter.unusedVariables false
set_option linter.unusedSimpArgs false
namespace Go.Abs
open Go.RowKit Go.Proofs

def weightOf (t : Tables) (f : Flight) : Int := match t.Kinds[f.Class.toNat]? with | some k => k.Weight | none => 0
def minutesOf (o : Opt) : Int := if o.Cancel then 120 else o.Delay + o.Hold
/-- Delay, weight and error. -/
def delayF (t : Tables) (f : Flight) (o : Opt) : Int × Int × Int :=
  if checkF t f = 0 then if o ∈ measL t f then (minutesOf o, minutesOf o * weightOf t f, 0) else (0, 0, 150) else (0, 0, checkF t f)

theorem measO_mem {L : Int} {n : Nat} {c : Bool} (hL0 : 0 ≤ L) (hL : L ≤ 60) {o : Opt} (h : o ∈ measO L n c) : 0 ≤ o.Delay ∧ o.Delay ≤ 60 ∧ 0 ≤ o.Hold ∧ o.Hold ≤ 10 := by
  unfold measO at h
  rcases List.mem_append.1 h with h | h
  · obtain ⟨k, hk, rfl⟩ := List.mem_map.1 h
    have hk' := List.mem_range.1 hk
    have hB : 0 < 3 * n := by
      rcases Nat.eq_zero_or_pos n with h0 | h0
      · subst h0; simp at hk'
      · omega
    have h1 : k / (3 * n) < (L / 10 + 1).toNat := (Nat.div_lt_iff_lt_mul hB).2 hk'
    have h2 : k % 3 < 3 := Nat.mod_lt _ (by omega)
    simp only [optAt]
    omega
  · cases c
    · simp at h
    · simp at h; subst h; simp

theorem fl_Delay (t : Tables) (f : Flight) (o : Opt) : CallsPV Tryz.prog 14 [encTables t, encFlight f, encOpt o] (.tup [.int .i64 (delayF t f o).1, .int .i64 (delayF t f o).2.1, .int .i64 (delayF t f o).2.2]) := by
  have hmeas := fl_Measures t f
  obtain ⟨ck, hck⟩ : ∃ ck, ck = checkF t f := ⟨_, rfl⟩
  rw [← hck] at hmeas
  by_cases h0 : ck = 0
  · obtain ⟨k, hk, hc0, hL0, hL1, _, hW1, hW8, hw1, hw4⟩ := checkF_kind (hck ▸ h0)
    have hml : measuresF t f = measL t f := by rw [measuresF, if_pos (hck ▸ h0)]
    have hmO : measL t f = measO k.Longest f.Ways.length f.Cancel := by rw [measL, hk]
    have hwt : weightOf t f = k.Weight := by rw [weightOf, hk]
    have hin : o ∈ measL t f → 0 ≤ o.Delay ∧ o.Delay ≤ 60 ∧ 0 ≤ o.Hold ∧ o.Hold ≤ 10 := fun h => measO_mem hL0 hL1 (hmO ▸ h)
    have hcon := fun xs (hx : xs = encOpts (measL t f)) => contains_Opt o (measL t f) hx
    rw [hml, h0] at hmeas
    have hcf : checkF t f = 0 := hck ▸ h0
    have hD : delayF t f o = if o ∈ measL t f then (minutesOf o, minutesOf o * k.Weight, 0) else (0, 0, 150) := by rw [delayF, if_pos hcf, hwt]
    rw [hD]
    refine callsPV_by (clo := fun _ => false) (rows := false) env_ok Tryz.func14 rfl (enters_of Tryz.func14 (by kernel_rfl) rfl) (fun A q P Y hr hA hq => ?_)
    have hkl0 : f.Class.toNat < t.Kinds.length := (List.getElem?_eq_some_iff.1 hk).1
    obtain ⟨ss, hss⟩ : ∃ ss, ss = encSectors t.Sectors := ⟨_, rfl⟩
    obtain ⟨cs, hcs⟩ : ∃ cs, cs = encConfigs t.Configs := ⟨_, rfl⟩
    obtain ⟨ws, hws⟩ : ∃ ws, ws = encWays t.Ways := ⟨_, rfl⟩
    obtain ⟨ms, hms⟩ : ∃ ms, ms = encIntLs t.Modes := ⟨_, rfl⟩
    obtain ⟨ks, hks⟩ : ∃ ks, ks = encKinds t.Kinds := ⟨_, rfl⟩
    obtain ⟨nv, hnv⟩ : ∃ nv, nv = t.Volumes := ⟨_, rfl⟩
    have htab : encTables t = .agg [.int .i64 nv, .list 5 ss, .list 3 cs, .list 3 ws, .list 1 ms, .list 6 ks] := by rw [encTables_eq t hss hcs hws hms hks, hnv]
    rw [htab] at hmeas ⊢
    generalize measL t f = M at hmeas hcon hin hq
    clear hml hmO hwt hcf hD
    obtain ⟨xs, hxs⟩ : ∃ xs, xs = encOpts M := ⟨_, rfl⟩
    rw [← hxs] at hmeas
    have hco := hcon xs hxs
    obtain ⟨f1, f2, f3, f4, f5, ⟨f6, f7⟩, f8⟩ := f
    obtain ⟨fl, hfl⟩ : ∃ fl, fl = encInts f5 := ⟨_, rfl⟩
    rw [encFlight_eq _ hfl] at hmeas ⊢
    obtain ⟨o1, o2, o3, o4⟩ := o
    simp only at hmeas hco hk hkl0 hc0 hin hq ⊢
    clear hcon
    conv => cbv
    refine call_intro hA hmeas ?_
    conv => cbv
    split
    · rename_i h
      cases (neT hA h rfl)
    conv => cbv
    refine callB hA hco rfl (fun r hr => ?_)
    conv => cbv
    split
    · rename_i h
      have h' := notT hA h
      have hno : (⟨o1, o2, o3, o4⟩ : Opt) ∉ M := by rw [h'] at hr; exact of_decide_eq_false hr.symm
      rw [if_neg hno] at hq
      conv => cbv
      exact hq
    rename_i h
    have h' := notF hA h
    have hyes : (⟨o1, o2, o3, o4⟩ : Opt) ∈ M := by rw [h'] at hr; exact of_decide_eq_true hr.symm
    rw [if_pos hyes] at hq
    have hb := hin hyes
    have hadd : A.iAdd o1 o3 = o1 + o3 := addI hA _ _
    clear h
    conv => cbv
    refine ⟨inR' hA hadd (by unfold inI64; omega), ?_⟩
    obtain ⟨k1, k2, k3, k4, k5, k6⟩ := k
    simp only at hW1 hW8 hq
    cases o4 with
    | true =>
      have hm : A.iMul 120 k4 = 120 * k4 := mulI hA _ _
      conv => cbv
      refine ⟨draw_intro hA (by kernel_rfl), ?_⟩
      refine idx_Kind hA hks hc0 (by omega) (fun z v hz hv => ?_)
      obtain rfl := Option.some.inj (hk.symm.trans hz)
      conv => cbv
      refine ⟨inR' hA hm (by unfold inI64; omega), ?_⟩
      show PV.tup [_, .int .i64 (A.iMul 120 k4), _] = _
      rw [← hq, hm]
      rfl
    | false =>
      have hm : A.iMul (A.iAdd o1 o3) k4 = (o1 + o3) * k4 := by rw [mulI hA, hadd]
      have hu : (o1 + o3) * k4 ≤ 70 * 8 := Int.mul_le_mul (by omega) hW8 (by omega) (by omega)
      have hl : 0 ≤ (o1 + o3) * k4 := Int.mul_nonneg (by omega) (by omega)
      conv => cbv
      refine ⟨draw_intro hA (by kernel_rfl), ?_⟩
      refine idx_Kind hA hks hc0 (by omega) (fun z v hz hv => ?_)
      obtain rfl := Option.some.inj (hk.symm.trans hz)
      conv => cbv
      refine ⟨inR' hA hm (by unfold inI64; omega), ?_⟩
      show PV.tup [.int .i64 (A.iAdd o1 o3), .int .i64 (A.iMul (A.iAdd o1 o3) k4), _] = _
      rw [← hq, hm, hadd]
      rfl
  · have hD : delayF t f o = (0, 0, ck) := by rw [delayF, if_neg (hck ▸ h0), hck]
    have hml : measuresF t f = [] := by rw [measuresF, if_neg (hck ▸ h0)]
    rw [hml] at hmeas
    rw [hD]
    refine callsPV_by (clo := fun _ => false) (rows := false) env_ok Tryz.func14 rfl (enters_of Tryz.func14 (by kernel_rfl) rfl) (fun A q P Y hr hA hq => ?_)
    obtain ⟨ss, hss⟩ : ∃ ss, ss = encSectors t.Sectors := ⟨_, rfl⟩
    obtain ⟨cs, hcs⟩ : ∃ cs, cs = encConfigs t.Configs := ⟨_, rfl⟩
    obtain ⟨ws, hws⟩ : ∃ ws, ws = encWays t.Ways := ⟨_, rfl⟩
    obtain ⟨ms, hms⟩ : ∃ ms, ms = encIntLs t.Modes := ⟨_, rfl⟩
    obtain ⟨ks, hks⟩ : ∃ ks, ks = encKinds t.Kinds := ⟨_, rfl⟩
    obtain ⟨nv, hnv⟩ : ∃ nv, nv = t.Volumes := ⟨_, rfl⟩
    have htab : encTables t = .agg [.int .i64 nv, .list 5 ss, .list 3 cs, .list 3 ws, .list 1 ms, .list 6 ks] := by rw [encTables_eq t hss hcs hws hms hks, hnv]
    rw [htab] at hmeas ⊢
    obtain ⟨f1, f2, f3, f4, f5, ⟨f6, f7⟩, f8⟩ := f
    obtain ⟨fl, hfl⟩ : ∃ fl, fl = encInts f5 := ⟨_, rfl⟩
    rw [encFlight_eq _ hfl] at hmeas ⊢
    obtain ⟨o1, o2, o3, o4⟩ := o
    simp only at hmeas ⊢
    conv => cbv
    refine call_intro hA hmeas ?_
    conv => cbv
    split
    · conv => cbv
      exact hq
    · rename_i h
      exact absurd (neF hA h) h0
end Go.Abs
