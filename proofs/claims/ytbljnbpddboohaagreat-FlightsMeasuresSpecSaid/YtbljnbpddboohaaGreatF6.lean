/-
  Functions: the check of an airspace.
-/
import Derived.Test.YtbljnbpddboohaaGreatF5
set_option linter.unusedVariables false
set_option linter.unusedSimpArgs false
namespace Go.Abs
open Go.RowKit Go.Proofs

theorem configs_Check {vs ss cs : List PV} (mv : Nat) (n : Nat) (hv : vs.length = n) (l : List Sector) (hss : ss = encSectors l) (c : List Config) (hcs : cs = encConfigs c) :
    CallsPV Tryz.prog 49 [encAir mv vs ss cs] (.int .i64 (if divOk n l c then 0 else 100)) := by
  refine callsPV_by (clo := fun _ => false) (rows := false) env_ok Tryz.func49 rfl (enters_of Tryz.func49 (by kernel_rfl) rfl) (fun A q P Y hr hA hq => ?_)
  have h := configs_divisions mv n hv l hss c hcs
  cases hd : divOk n l c with
  | true =>
    rw [hd] at h hq
    generalize List.replicate c.length PV.ref = rs at h
    conv => cbv
    refine call_intro hA h ?_
    conv => cbv
    split
    · rename_i hx; exact absurd hx (by subst hA; simp [stdOps])
    · conv => cbv
      rw [← hq]; rfl
  | false =>
    rw [hd] at h hq
    conv => cbv
    refine call_intro hA h ?_
    conv => cbv
    split
    · conv => cbv
      rw [← hq]; rfl
    · rename_i hx; exact absurd hx (by subst hA; simp [stdOps])

def zeroVolume : PV := .agg [.str ByteArray.empty, .list 0 []]
theorem air_divided (nv : Int) (h1 : 1 ≤ nv) (h2 : nv ≤ 64) (ss cs ws ms ks : List PV) : CallsPV Tryz.prog 50 [.agg [.int .i64 nv, .list 5 ss, .list 3 cs, .list 3 ws, .list 1 ms, .list 6 ks]] (encAir 2 (List.replicate nv.toNat zeroVolume) ss cs) := by
  refine callsPV_by (clo := fun _ => false) (rows := false) env_ok Tryz.func50 rfl (enters_of Tryz.func50 (by kernel_rfl) rfl) (fun A q P Y hr hA hq => ?_)
  conv => cbv
  refine ⟨draw_intro hA (by kernel_rfl), ?_⟩
  refine ⟨by subst hA; show (0 ≤ nv ∧ nv = nv ∧ nv * _ ≤ _ ∧ nv ≤ _); omega, ?_⟩
  rw [← hq]
  subst hA
  rfl

set_option maxHeartbeats 2000000 in
theorem air_Check (t : Tables) : CallsPV Tryz.prog 20 [encTables t] (.int .i64 (if airOk t then 0 else 140)) := by
  refine callsPV_by (clo := fun _ => false) (rows := false) env_ok Tryz.func20 rfl (enters_of Tryz.func20 (by kernel_rfl) rfl) (fun A q P Y hr hA hq => ?_)
  have hbd : ∀ k ∈ t.Kinds, k.Curfews.length ≤ 9223372036854775807 := fun k hk => by
    have h1 := Real.cell (show Real [.agg _] from hr) (c := .list 6 (encKinds t.Kinds)) (by simp)
    have h2 := h1.elem (x := encKind k) (List.mem_map_of_mem hk) (c := .list 1 (encSpanLs k.Curfews)) (by simp [encKind, PV.cells])
    have := h2.len
    simpa [encSpanLs] using this
  have bad : ∀ b, airOk t = b → b = false → PV.int .i64 140 = q := by
    intro b hb hbf
    subst hbf
    rw [← hq, hb]; rfl
  obtain ⟨nv, S, C, W, M, K⟩ := t
  simp only [encTables] at hr ⊢
  simp only at hbd
  obtain ⟨ss, hss⟩ : ∃ ss, ss = encSectors S := ⟨_, rfl⟩
  obtain ⟨cs, hcs⟩ : ∃ cs, cs = encConfigs C := ⟨_, rfl⟩
  obtain ⟨ws, hws⟩ : ∃ ws, ws = encWays W := ⟨_, rfl⟩
  obtain ⟨ms, hms⟩ : ∃ ms, ms = encIntLs M := ⟨_, rfl⟩
  obtain ⟨ks, hks⟩ : ∃ ks, ks = encKinds K := ⟨_, rfl⟩
  have hwl : ws.length = W.length := by rw [hws]; simp [encWays]
  have hml : ms.length = M.length := by rw [hms]; simp [encIntLs]
  have hkl : ks.length = K.length := by rw [hks]; simp [encKinds]
  rw [← hss, ← hcs, ← hws, ← hms, ← hks]
  conv => cbv
  refine callB hA (air_in nv 1 64) rfl (fun r1 hr1 => ?_)
  conv => cbv
  split
  · rename_i h
    have h1 : r1 = false := by subst hA; simpa [stdOps] using h
    conv => cbv
    exact bad _ rfl (by unfold airOk; rw [← hr1, h1]; rfl)
  rename_i h
  have h1 : r1 = true := by subst hA; simpa [stdOps] using h
  rw [h1] at hr1
  have hnv : 1 ≤ nv ∧ nv ≤ 64 := by simpa [inB] using hr1.symm
  conv => cbv
  refine call_intro hA (air_divided nv hnv.1 hnv.2 ss cs ws ms ks) ?_
  obtain ⟨vs, hvs⟩ : ∃ vs, vs = List.replicate nv.toNat zeroVolume := ⟨_, rfl⟩
  rw [← hvs]
  conv => cbv
  refine callI hA (configs_Check 2 nv.toNat (by rw [hvs]; simp) S hss C hcs) rfl (fun r2 hr2 => ?_)
  conv => cbv
  split
  · rename_i h
    have h2 : divOk nv.toNat S C = false := by
      subst hA
      cases hd : divOk nv.toNat S C with
      | false => rfl
      | true => rw [hd] at hr2; subst hr2; simp [stdOps] at h
    conv => cbv
    exact bad _ rfl (by unfold airOk; simp [h2])
  rename_i h
  have h2 : divOk nv.toNat S C = true := by
    subst hA
    cases hd : divOk nv.toNat S C with
    | true => rfl
    | false => rw [hd] at hr2; subst hr2; simp [stdOps] at h
  conv => cbv
  refine callB hA (all_Sector sectorOk S hss fun x _ => air_sector x) rfl (fun r3 hr3 => ?_)
  conv => cbv
  split
  · rename_i h
    have h3 : r3 = false := by subst hA; simpa [stdOps] using h
    conv => cbv
    exact bad _ rfl (by unfold airOk; simp [← hr3, h3])
  rename_i h
  have h3 : r3 = true := by subst hA; simpa [stdOps] using h
  rw [h3] at hr3
  conv => cbv
  split
  · rename_i h
    have h4 : ¬ M.length ≤ 16 := by subst hA; have t := h; simp [stdOps] at t; omega
    conv => cbv
    exact bad _ rfl (by unfold airOk; simp [h4])
  rename_i h
  have h4 : M.length ≤ 16 := by subst hA; have t := h; simp [stdOps] at t; omega
  have hmb : ms.length ≤ 1000 := by omega
  conv => cbv
  refine callB hA (all_ListInt modeOk M hms fun x _ => air_mode x rfl) rfl (fun r5 hr5 => ?_)
  conv => cbv
  split
  · rename_i h
    have h5 : r5 = false := by subst hA; simpa [stdOps] using h
    conv => cbv
    exact bad _ rfl (by unfold airOk; simp [← hr5, h5])
  rename_i h
  have h5 : r5 = true := by subst hA; simpa [stdOps] using h
  rw [h5] at hr5
  conv => cbv
  split
  · rename_i h
    have h6 : ¬ W.length ≤ 64 := by subst hA; have t := h; simp [stdOps] at t; omega
    conv => cbv
    exact bad _ rfl (by unfold airOk; simp [h6])
  rename_i h
  have h6 : W.length ≤ 64 := by subst hA; have t := h; simp [stdOps] at t; omega
  conv => cbv
  refine callB hA (all_Way (wayOk nv ms.length) W hws fun x _ => air_way nv hnv ms hmb (.list 5 ss) (.list 3 cs) (.list 3 ws) (.list 6 ks) x) rfl (fun r7 hr7 => ?_)
  rw [hml] at hr7
  conv => cbv
  split
  · rename_i h
    have h7 : r7 = false := by subst hA; simpa [stdOps] using h
    conv => cbv
    exact bad _ rfl (by unfold airOk; simp [← hr7, h7])
  rename_i h
  have h7 : r7 = true := by subst hA; simpa [stdOps] using h
  rw [h7] at hr7
  conv => cbv
  split
  · rename_i h
    have h8 : ¬ K.length ≤ 8 := by subst hA; have t := h; simp [stdOps] at t; omega
    conv => cbv
    exact bad _ rfl (by unfold airOk; simp [h8])
  rename_i h
  have h8 : K.length ≤ 8 := by subst hA; have t := h; simp [stdOps] at t; omega
  conv => cbv
  refine callB hA (all_Kind (fun k => kindOk k && decide (k.Curfews.length = ms.length)) K hks fun x hx => air_kind ms hmb _ (.list 5 ss) (.list 3 cs) (.list 3 ws) (.list 6 ks) x (hbd x hx)) rfl (fun r9 hr9 => ?_)
  rw [hml] at hr9
  conv => cbv
  split
  · rename_i h
    have h9 : r9 = false := by subst hA; simpa [stdOps] using h
    conv => cbv
    exact bad _ rfl (by unfold airOk; simp only [← hr9, h9]; simp)
  rename_i h
  have h9 : r9 = true := by subst hA; simpa [stdOps] using h
  rw [h9] at hr9
  conv => cbv
  have hok : airOk ⟨nv, S, C, W, M, K⟩ = true := by unfold airOk; simp only [← hr1, h2, ← hr3, ← hr5, ← hr7, ← hr9]; simp [h4, h6, h8]
  rw [← hq, hok]; rfl
end Go.Abs
