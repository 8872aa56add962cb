/-
  Functions of the reference's chapter 15: Is, Compare, Delay, Decided.
-/
import Derived.Test.YtbljnbpddboohaaGreatR15
set_option linter.unusedVariables false
set_option linter.unusedSimpArgs false
namespace Go.Abs
open Go.RowKit Go.Proofs

/-- What is a measure, as the reference asks it. -/
def isO (L : Int) (n : Nat) (c : Bool) (o : Opt) : Prop :=
  (o.Cancel = true ∧ c = true ∧ o = ⟨0, 0, 0, true⟩) ∨ (o.Cancel = false ∧ 0 ≤ o.Delay ∧ o.Delay.tmod 10 = 0 ∧ o.Delay ≤ L ∧ 0 ≤ o.Way ∧ o.Way < n ∧ 0 ≤ o.Hold ∧ o.Hold.tmod 5 = 0 ∧ o.Hold ≤ 10)

theorem measO_iff {L : Int} {n : Nat} {c : Bool} (o : Opt) : o ∈ measO L n c ↔ isO L n c o := by
  unfold measO
  rw [List.mem_append]
  constructor
  · rintro (h | h)
    · obtain ⟨k, hk, rfl⟩ := List.mem_map.1 h
      have hk' := List.mem_range.1 hk
      have hn : 0 < n := by
        rcases Nat.eq_zero_or_pos n with h0 | h0
        · subst h0; simp at hk'
        · exact h0
      have hB : 0 < 3 * n := by omega
      have h1 : k / (3 * n) < (L / 10 + 1).toNat := (Nat.div_lt_iff_lt_mul hB).2 hk'
      have h2 : k % (3 * n) < 3 * n := Nat.mod_lt _ hB
      have h3 : k % 3 < 3 := Nat.mod_lt _ (by omega)
      refine .inr ⟨rfl, ?_⟩
      simp only [optAt]
      refine ⟨by omega, ?_, by omega, by omega, by omega, by omega, ?_, by omega⟩
      · rw [Int.tmod_eq_emod_of_nonneg (by omega)]; omega
      · rw [Int.tmod_eq_emod_of_nonneg (by omega)]; omega
    · cases c with
      | false => simp at h
      | true => simp at h; subst h; exact .inl ⟨rfl, rfl, rfl⟩
  · rintro (⟨_, rfl, rfl⟩ | ⟨h0, h1, h2, h3, h4, h5, h6, h7, h8⟩)
    · exact .inr (by simp)
    · obtain ⟨o1, o2, o3, o4⟩ := o
      simp only at h0 h1 h2 h3 h4 h5 h6 h7 h8
      subst h0
      rw [Int.tmod_eq_emod_of_nonneg h1] at h2
      rw [Int.tmod_eq_emod_of_nonneg h6] at h7
      refine .inl (List.mem_map.2 ⟨(o1.toNat / 10) * (3 * n) + (3 * o2.toNat + o3.toNat / 5), List.mem_range.2 ?_, ?_⟩)
      · have h9 : (o1.toNat / 10 + 1) * (3 * n) ≤ (L / 10 + 1).toNat * (3 * n) := Nat.mul_le_mul_right _ (by omega)
        rw [Nat.add_mul, Nat.one_mul] at h9
        omega
      · rw [optAt_eq (by omega) (by omega)]
        simp only [Opt.mk.injEq, and_true]
        omega

theorem eqOB {A : Ops} {E : Env} (hA : A = stdOps E) (x1 x2 x3 : Int) (x4 : Bool) (o1 o2 o3 : Int) (o4 : Bool) :
    A.bAnd (A.iEq x1 o1) (A.bAnd (A.iEq x2 o2) (A.bAnd (A.iEq x3 o3) (A.bAnd (A.bEq x4 o4) true))) = decide ((⟨x1, x2, x3, x4⟩ : Opt) = ⟨o1, o2, o3, o4⟩) := by
  subst hA
  rw [Bool.eq_iff_iff]
  simp [stdOps]

theorem ref15_Is (t : Tables) (f : Flight) (o : Opt) (k : Kind) (hc0 : 0 ≤ f.Class) (hk : t.Kinds[f.Class.toNat]? = some k) (b : Bool) (hb : b = true ↔ isO k.Longest f.Ways.length f.Cancel o) :
    CallsPV Tryz.prog 33 [encTables t, encFlight f, encOpt o] (.bool b) := by
  have hcl := (List.getElem?_eq_some_iff.1 hk).1
  refine callsPV_by (clo := fun _ => false) (rows := false) env_ok Tryz.func33 rfl (enters_of Tryz.func33 (by kernel_rfl) rfl) (fun A q P Y hr hA hq => ?_)
  have fin : ∀ r : Bool, (r = true ↔ isO k.Longest f.Ways.length f.Cancel o) → PV.bool r = q := fun r h => by
    rw [← hq]; congr 1; rw [Bool.eq_iff_iff, h, hb]
  clear hq hb
  obtain ⟨ss, hss⟩ : ∃ ss, ss = encSectors t.Sectors := ⟨_, rfl⟩
  obtain ⟨cs, hcs⟩ : ∃ cs, cs = encConfigs t.Configs := ⟨_, rfl⟩
  obtain ⟨ws, hws⟩ : ∃ ws, ws = encWays t.Ways := ⟨_, rfl⟩
  obtain ⟨ms, hms⟩ : ∃ ms, ms = encIntLs t.Modes := ⟨_, rfl⟩
  obtain ⟨ks, hks⟩ : ∃ ks, ks = encKinds t.Kinds := ⟨_, rfl⟩
  obtain ⟨nv, hnv⟩ : ∃ nv, nv = t.Volumes := ⟨_, rfl⟩
  have htab : encTables t = .agg [.int .i64 nv, .list 5 ss, .list 3 cs, .list 3 ws, .list 1 ms, .list 6 ks] := by rw [encTables_eq t hss hcs hws hms hks, hnv]
  rw [htab]
  obtain ⟨f1, f2, f3, f4, f5, ⟨f6, f7⟩, f8⟩ := f
  obtain ⟨fl, hfl⟩ : ∃ fl, fl = encInts f5 := ⟨_, rfl⟩
  have hfl' : fl.length = f5.length := by rw [hfl]; simp [encInts]
  rw [encFlight_eq _ hfl]
  obtain ⟨k1, k2, k3, k4, k5, k6⟩ := k
  obtain ⟨o1, o2, o3, o4⟩ := o
  simp only at hk hcl hc0 fin ⊢
  have nz10 : A.nz 10 := by subst hA; show (10 : Int) ≠ 0; decide
  have nz5 : A.nz 5 := by subst hA; show (5 : Int) ≠ 0; decide
  have m10 : A.iMod o1 10 = o1.tmod 10 := modI hA _ _
  have m5 : A.iMod o3 5 = o3.tmod 5 := modI hA _ _
  cases o4 with
  | true =>
    have fin' : ∀ r : Bool, (r = true ↔ f8 = true ∧ (⟨o1, o2, o3, true⟩ : Opt) = ⟨0, 0, 0, true⟩) → PV.bool r = q := fun r h => fin r (by simp only [isO]; rw [h]; simp)
    conv => cbv
    cases f8 with
    | true =>
      conv => cbv
      refine fin' (A.bAnd (A.iEq o1 0) (A.bAnd (A.iEq o2 0) (A.bAnd (A.iEq o3 0) (A.bAnd (A.bEq true true) true)))) ?_
      rw [eqOB hA, decide_eq_true_iff]; simp
    | false =>
      conv => cbv
      exact fin' false (by simp)
  | false =>
    have fin' : ∀ r : Bool, (r = true ↔ 0 ≤ o1 ∧ o1.tmod 10 = 0 ∧ o1 ≤ k5 ∧ 0 ≤ o2 ∧ o2 < f5.length ∧ 0 ≤ o3 ∧ o3.tmod 5 = 0 ∧ o3 ≤ 10) → PV.bool r = q := fun r h => fin r (by simp only [isO]; rw [h]; simp)
    have no : ¬ (0 ≤ o1 ∧ o1.tmod 10 = 0 ∧ o1 ≤ k5 ∧ 0 ≤ o2 ∧ o2 < f5.length ∧ 0 ≤ o3 ∧ o3.tmod 5 = 0 ∧ o3 ≤ 10) → PV.bool false = q := fun h => fin' false ⟨fun h1 => Bool.noConfusion h1, fun h1 => absurd h1 h⟩
    clear fin
    conv => cbv
    refine ⟨draw_intro hA (by kernel_rfl), ?_⟩
    split
    rotate_left
    · rename_i hc
      have := leF hA hc
      conv => cbv
      exact no (by omega)
    rename_i hc
    have c1 := leT hA hc
    conv => cbv
    refine ⟨nz10, ?_⟩
    conv => cbv
    split
    rotate_left
    · rename_i hc
      have := eqF' hA m10 rfl hc
      conv => cbv
      exact no (by omega)
    rename_i hc
    have c2 := eqT' hA m10 rfl hc
    conv => cbv
    refine idx_Kind hA hks hc0 (by omega) (fun z v hz hv => ?_)
    obtain rfl := Option.some.inj (hk.symm.trans hz)
    conv => cbv
    split
    rotate_left
    · rename_i hc
      have := leF hA hc
      conv => cbv
      exact no (by omega)
    rename_i hc
    have c3 := leT hA hc
    conv => cbv
    split
    rotate_left
    · rename_i hc
      have := leF hA hc
      conv => cbv
      exact no (by omega)
    rename_i hc
    have c4 := leT hA hc
    conv => cbv
    split
    rotate_left
    · rename_i hc
      have := ltF' hA rfl (lenI hA hfl') hc
      conv => cbv
      exact no (by omega)
    rename_i hc
    have c5 := ltT' hA rfl (lenI hA hfl') hc
    conv => cbv
    split
    rotate_left
    · rename_i hc
      have := leF hA hc
      conv => cbv
      exact no (by omega)
    rename_i hc
    have c6 := leT hA hc
    conv => cbv
    refine ⟨nz5, ?_⟩
    conv => cbv
    split
    rotate_left
    · rename_i hc
      have := eqF' hA m5 rfl hc
      conv => cbv
      exact no (by omega)
    rename_i hc
    have c7 := eqT' hA m5 rfl hc
    conv => cbv
    refine fin' (A.iLe o3 10) ?_
    rw [iLeI hA, decide_eq_true_iff]
    exact ⟨fun h => ⟨c1, c2, c3, c4, c5, c6, c7, h⟩, fun h => h.2.2.2.2.2.2.2⟩

theorem ref15_compare (a b : Int) : CallsPV Tryz.prog 36 [.int .i64 a, .int .i64 b] (.int .i64 (cmpI a b)) := by
  refine callsPV_by (clo := fun _ => false) (rows := false) env_ok Tryz.func36 rfl (enters_of Tryz.func36 (by kernel_rfl) rfl) (fun A q P Y hr hA hq => ?_)
  have hC : cmpI a b = if a < b then -1 else if b < a then 1 else 0 := rfl
  rw [hC] at hq
  conv => cbv
  split
  · rename_i h
    conv => cbv
    rw [← hq, if_pos (ltT hA h)]
  rename_i h1
  conv => cbv
  split
  · rename_i h
    conv => cbv
    rw [← hq, if_neg (by have := ltF hA h1; omega), if_pos (ltT hA h)]
  rename_i h2
  conv => cbv
  rw [← hq, if_neg (by have := ltF hA h1; omega), if_neg (by have := ltF hA h2; omega)]

theorem cmpI_ne {a b : Int} (h : a ≠ b) : cmpI a b ≠ 0 := by unfold cmpI; split <;> (try split) <;> omega
theorem cmpI_eq {a b : Int} (h : a = b) : cmpI a b = 0 := by unfold cmpI; split <;> (try split) <;> omega
theorem ref15_Compare (a b : Opt) : CallsPV Tryz.prog 18 [encOpt a, encOpt b] (.int .i64 (cmpOpt a b)) := by
  refine callsPV_by (clo := fun _ => false) (rows := false) env_ok Tryz.func18 rfl (enters_of Tryz.func18 (by kernel_rfl) rfl) (fun A q P Y hr hA hq => ?_)
  obtain ⟨a1, a2, a3, a4⟩ := a
  obtain ⟨b1, b2, b3, b4⟩ := b
  have hC : cmpOpt ⟨a1, a2, a3, a4⟩ ⟨b1, b2, b3, b4⟩ = if a4 = b4 then orI [cmpI a1 b1, cmpI a2 b2, cmpI a3 b3] else if a4 then 1 else -1 := rfl
  have hO : ∀ x y z : Int, orI [x, y, z] = if x ≠ 0 then x else if y ≠ 0 then y else z := fun x y z => by
    unfold orI orI orI orI
    split
    · rfl
    · split
      · rfl
      · split
        · rfl
        · omega
  rw [hC, hO] at hq
  have c1 := ref15_compare a1 b1
  have c2 := ref15_compare a2 b2
  have c3 := ref15_compare a3 b3
  have d1 : a1 ≠ b1 → cmpI a1 b1 ≠ 0 := cmpI_ne
  have d2 : a2 ≠ b2 → cmpI a2 b2 ≠ 0 := cmpI_ne
  have e1 : a1 = b1 → cmpI a1 b1 = 0 := cmpI_eq
  have e2 : a2 = b2 → cmpI a2 b2 = 0 := cmpI_eq
  generalize cmpI a1 b1 = n1 at c1 hq d1 e1
  generalize cmpI a2 b2 = n2 at c2 hq d2 e2
  generalize cmpI a3 b3 = n3 at c3 hq
  conv => cbv
  split
  · rename_i h
    have h' := bneT hA h
    rw [if_neg h'] at hq
    cases b4 with
    | true =>
      cases a4 with
      | true => exact absurd rfl h'
      | false =>
        conv => cbv
        exact hq
    | false =>
      cases a4 with
      | false => exact absurd rfl h'
      | true =>
        conv => cbv
        exact hq
  · rename_i h
    have h' := bneF hA h
    rw [if_pos h'] at hq
    conv => cbv
    split
    · rename_i h
      rw [if_pos (d1 (neT hA h))] at hq
      conv => cbv
      refine call_intro hA (c1) ?_
      conv => cbv
      exact hq
    rename_i h
    rw [if_neg (fun x => x (e1 (neF hA h)))] at hq
    conv => cbv
    split
    · rename_i h
      rw [if_pos (d2 (neT hA h))] at hq
      conv => cbv
      refine call_intro hA (c2) ?_
      conv => cbv
      exact hq
    rename_i h
    rw [if_neg (fun x => x (e2 (neF hA h)))] at hq
    conv => cbv
    refine call_intro hA (c3) ?_
    conv => cbv
    exact hq

theorem ref15_Decided (f : Flight) (hf : inI64 (f.Window.From - 30) ∨ f.Window.From < 30) : CallsPV Tryz.prog 11 [encFlight f] (.int .i64 (if f.Window.From < 30 then 0 else f.Window.From - 30)) := by
  refine callsPV_by (clo := fun _ => false) (rows := false) env_ok Tryz.func11 rfl (enters_of Tryz.func11 (by kernel_rfl) rfl) (fun A q P Y hr hA hq => ?_)
  obtain ⟨f1, f2, f3, f4, f5, ⟨f6, f7⟩, f8⟩ := f
  obtain ⟨ws, hws⟩ : ∃ ws, ws = encInts f5 := ⟨_, rfl⟩
  rw [show encFlight ⟨f1, f2, f3, f4, f5, ⟨f6, f7⟩, f8⟩ = .agg [.int .i64 f1, .int .i64 f2, .int .i64 f3, .str f4, .list 1 ws, .int .i64 f6, .int .i64 f7, .bool f8] by rw [hws]; rfl]
  simp only at hf hq
  conv => cbv
  split
  · rename_i h
    conv => cbv
    rw [← hq, if_pos (ltT hA h)]
  · rename_i h
    have h' := ltF hA h
    conv => cbv
    refine ⟨inR' hA (subI hA f6 30) (by rcases hf with hf | hf; exact hf; omega), ?_⟩
    rw [← hq, if_neg (by omega)]
    show PV.int .i64 (A.iSub f6 30) = _
    rw [subI hA]

theorem ref15_Delay (t : Tables) (f : Flight) (o : Opt) : CallsPV Tryz.prog 15 [encTables t, encFlight f, encOpt o] (.tup [.int .i64 (delayF t f o).1, .int .i64 (delayF t f o).2.1, .int .i64 (delayF t f o).2.2]) := by
  have hchk := ref15_Check t f
  obtain ⟨ck, hck⟩ : ∃ ck, ck = checkF t f := ⟨_, rfl⟩
  rw [← hck] at hchk
  by_cases h0 : ck = 0
  · obtain ⟨k, hk, hc0, hL0, hL1, _, hW1, hW8, hw1, hw4⟩ := checkF_kind (hck ▸ h0)
    have hmO : measL t f = measO k.Longest f.Ways.length f.Cancel := by rw [measL, hk]
    have hwt : weightOf t f = k.Weight := by rw [weightOf, hk]
    have hin : o ∈ measL t f → 0 ≤ o.Delay ∧ o.Delay ≤ 60 ∧ 0 ≤ o.Hold ∧ o.Hold ≤ 10 := fun h => measO_mem hL0 hL1 (hmO ▸ h)
    have his := ref15_Is t f o k hc0 hk (decide (o ∈ measL t f)) (by rw [decide_eq_true_iff, hmO]; exact measO_iff o)
    rw [h0] at hchk
    have hcf : checkF t f = 0 := hck ▸ h0
    have hD : delayF t f o = if o ∈ measL t f then (minutesOf o, minutesOf o * k.Weight, 0) else (0, 0, 150) := by rw [delayF, if_pos hcf, hwt]
    rw [hD]
    refine callsPV_by (clo := fun _ => false) (rows := false) env_ok Tryz.func15 rfl (enters_of Tryz.func15 (by kernel_rfl) rfl) (fun A q P Y hr hA hq => ?_)
    have hkl0 : f.Class.toNat < t.Kinds.length := (List.getElem?_eq_some_iff.1 hk).1
    obtain ⟨ss, hss⟩ : ∃ ss, ss = encSectors t.Sectors := ⟨_, rfl⟩
    obtain ⟨cs, hcs⟩ : ∃ cs, cs = encConfigs t.Configs := ⟨_, rfl⟩
    obtain ⟨ws, hws⟩ : ∃ ws, ws = encWays t.Ways := ⟨_, rfl⟩
    obtain ⟨ms, hms⟩ : ∃ ms, ms = encIntLs t.Modes := ⟨_, rfl⟩
    obtain ⟨ks, hks⟩ : ∃ ks, ks = encKinds t.Kinds := ⟨_, rfl⟩
    obtain ⟨nv, hnv⟩ : ∃ nv, nv = t.Volumes := ⟨_, rfl⟩
    have htab : encTables t = .agg [.int .i64 nv, .list 5 ss, .list 3 cs, .list 3 ws, .list 1 ms, .list 6 ks] := by rw [encTables_eq t hss hcs hws hms hks, hnv]
    rw [htab] at hchk his ⊢
    generalize measL t f = M at his hin hq
    clear hmO hwt hcf hD
    obtain ⟨f1, f2, f3, f4, f5, ⟨f6, f7⟩, f8⟩ := f
    obtain ⟨fl, hfl⟩ : ∃ fl, fl = encInts f5 := ⟨_, rfl⟩
    rw [encFlight_eq _ hfl] at hchk his ⊢
    obtain ⟨o1, o2, o3, o4⟩ := o
    simp only at hchk his hk hkl0 hc0 hin hq ⊢
    conv => cbv
    refine call_intro hA (hchk) ?_
    conv => cbv
    split
    · rename_i hc
      cases (neT hA hc rfl)
    conv => cbv
    refine callB hA his rfl (fun r hr => ?_)
    conv => cbv
    split
    · rename_i h
      have h' := notT hA h
      have hno : (⟨o1, o2, o3, o4⟩ : Opt) ∉ M := by rw [h'] at hr; exact of_decide_eq_false hr.symm
      rw [if_neg hno] at hq
      conv => cbv
      exact hq
    rename_i h
    have h' := notF hA h
    have hyes : (⟨o1, o2, o3, o4⟩ : Opt) ∈ M := by rw [h'] at hr; exact of_decide_eq_true hr.symm
    rw [if_pos hyes] at hq
    have hb := hin hyes
    have hadd : A.iAdd o1 o3 = o1 + o3 := addI hA _ _
    clear h
    conv => cbv
    refine ⟨inR' hA hadd (by unfold inI64; omega), ?_⟩
    obtain ⟨k1, k2, k3, k4, k5, k6⟩ := k
    simp only at hW1 hW8 hq
    cases o4 with
    | true =>
      have hm : A.iMul 120 k4 = 120 * k4 := mulI hA _ _
      conv => cbv
      refine ⟨draw_intro hA (by kernel_rfl), ?_⟩
      refine idx_Kind hA hks hc0 (by omega) (fun z v hz hv => ?_)
      obtain rfl := Option.some.inj (hk.symm.trans hz)
      conv => cbv
      refine ⟨inR' hA hm (by unfold inI64; omega), ?_⟩
      show PV.tup [_, .int .i64 (A.iMul 120 k4), _] = _
      rw [← hq, hm]
      rfl
    | false =>
      have hm : A.iMul (A.iAdd o1 o3) k4 = (o1 + o3) * k4 := by rw [mulI hA, hadd]
      have hu : (o1 + o3) * k4 ≤ 70 * 8 := Int.mul_le_mul (by omega) hW8 (by omega) (by omega)
      have hl : 0 ≤ (o1 + o3) * k4 := Int.mul_nonneg (by omega) (by omega)
      conv => cbv
      refine ⟨draw_intro hA (by kernel_rfl), ?_⟩
      refine idx_Kind hA hks hc0 (by omega) (fun z v hz hv => ?_)
      obtain rfl := Option.some.inj (hk.symm.trans hz)
      conv => cbv
      refine ⟨inR' hA hm (by unfold inI64; omega), ?_⟩
      show PV.tup [.int .i64 (A.iAdd o1 o3), .int .i64 (A.iMul (A.iAdd o1 o3) k4), _] = _
      rw [← hq, hm, hadd]
      rfl
  · have hD : delayF t f o = (0, 0, ck) := by rw [delayF, if_neg (hck ▸ h0), hck]
    rw [hD]
    refine callsPV_by (clo := fun _ => false) (rows := false) env_ok Tryz.func15 rfl (enters_of Tryz.func15 (by kernel_rfl) rfl) (fun A q P Y hr hA hq => ?_)
    obtain ⟨ss, hss⟩ : ∃ ss, ss = encSectors t.Sectors := ⟨_, rfl⟩
    obtain ⟨cs, hcs⟩ : ∃ cs, cs = encConfigs t.Configs := ⟨_, rfl⟩
    obtain ⟨ws, hws⟩ : ∃ ws, ws = encWays t.Ways := ⟨_, rfl⟩
    obtain ⟨ms, hms⟩ : ∃ ms, ms = encIntLs t.Modes := ⟨_, rfl⟩
    obtain ⟨ks, hks⟩ : ∃ ks, ks = encKinds t.Kinds := ⟨_, rfl⟩
    obtain ⟨nv, hnv⟩ : ∃ nv, nv = t.Volumes := ⟨_, rfl⟩
    have htab : encTables t = .agg [.int .i64 nv, .list 5 ss, .list 3 cs, .list 3 ws, .list 1 ms, .list 6 ks] := by rw [encTables_eq t hss hcs hws hms hks, hnv]
    rw [htab] at hchk ⊢
    obtain ⟨f1, f2, f3, f4, f5, ⟨f6, f7⟩, f8⟩ := f
    obtain ⟨fl, hfl⟩ : ∃ fl, fl = encInts f5 := ⟨_, rfl⟩
    rw [encFlight_eq _ hfl] at hchk ⊢
    obtain ⟨o1, o2, o3, o4⟩ := o
    simp only at hchk ⊢
    conv => cbv
    refine call_intro hA (hchk) ?_
    conv => cbv
    split
    rotate_left
    · rename_i hc
      cases ((h0 (neF hA hc)))
    conv => cbv
    exact hq
end Go.Abs
