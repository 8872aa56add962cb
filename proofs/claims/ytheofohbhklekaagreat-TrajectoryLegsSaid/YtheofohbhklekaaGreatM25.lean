/-
  Law TrajectoryLegs.
-/
import Derived.Test.YtheofohbhklekaaGreatL3
import Derived.Test.YtheofohbhklekaaGreatR26
import Derived.Test.YtheofohbhklekaaGreatG1
set_option linter.unusedVariables false
set_option linter.unusedSimpArgs false
namespace Go.Abs
open Go.RowKit Go.Proofs

set_option maxRecDepth 4000 in
set_option maxHeartbeats 8000000 in
theorem law_TrajectoryLegs (t : Tables) (f : Flight) (o : Opt) (_ : okTables t) (_ : okFlight f) (_ : okOpt o) : CallsPV Tryz.prog 9 [encTables t, encFlight f, encOpt o] (.bool true) := by
  have hfew := law16_few t f
  have h3 := ref16_Light t f o 600
  have h4 := tr_All t f o
  have hcase := countE_case t f o
  have hsm := fun h p => @times_small t f o h p
  have hld : countE t f o = 0 → ∃ (pw : Int) (k : Kind) (w : Way), 0 ≤ f.Class ∧ t.Kinds[f.Class.toNat]? = some k ∧ (1 ≤ k.Slow ∧ k.Slow ≤ k.Fast ∧ k.Fast ≤ 64) ∧ (0 ≤ o.Way ∧ o.Way < f.Ways.length) ∧ f.Ways[o.Way.toNat]? = some pw ∧
      (0 ≤ pw ∧ pw < t.Ways.length) ∧ t.Ways[pw.toNat]? = some w ∧ legsOk w.Legs ∧ (0 ≤ o.Hold ∧ o.Hold ≤ 10) ∧ ∀ p ∈ allP t f o, p.Way = pw ∧ p.Times.length = w.Legs.length + 1 ∧
      ∀ (n : Nat) (l : Leg) (x y : Int), w.Legs[n]? = some l → p.Times[n]? = some x → p.Times[n + 1]? = some y →
        1 ≤ y - x - (if n + 1 = w.Legs.length then o.Hold else 0) ∧ l.Length ≤ (y - x - (if n + 1 = w.Legs.length then o.Hold else 0)) * k.Fast ∧ (y - x - (if n + 1 = w.Legs.length then o.Hold else 0) - 1) * k.Slow < l.Length ∧
        y - x - (if n + 1 = w.Legs.length then o.Hold else 0) ≤ 4096 := fun h => by
    obtain ⟨k, w, hp, hd⟩ := @legs_dur t f o h
    exact ⟨planW f o, k, w, hp.k0, hp.hk, ⟨hp.kok.s1, hp.kok.s2, hp.kok.s3⟩, hp.w0, hp.hw, hp.p0, hp.hl, hp.lok, ⟨hp.h0.1, hp.h0.2.1⟩, hd⟩
  generalize (few14 t && fewF f) = b1 at hfew
  generalize (!decide (countE t f o = 0) || decide (countN t f o ≤ 600)) = b3 at h3
  generalize countE t f o = e2 at h4 hcase hsm hld
  generalize countN t f o = n at hcase
  generalize allP t f o = M at h4 hcase hsm hld
  generalize allT t f o = T at hcase
  obtain ⟨xs, hxs⟩ : ∃ xs, xs = encPaths M := ⟨_, rfl⟩
  have hxl : xs.length = M.length := by rw [hxs]; simp [encPaths]
  rw [← hxs] at h4
  refine callsPV_by (clo := fun _ => false) (rows := false) env_ok Tryz.func9 rfl (enters_of Tryz.func9 (by kernel_rfl) rfl) (fun A q P Y hr hA hq => ?_)
  obtain ⟨ss, hss⟩ : ∃ ss, ss = encSectors t.Sectors := ⟨_, rfl⟩
  obtain ⟨cs, hcs⟩ : ∃ cs, cs = encConfigs t.Configs := ⟨_, rfl⟩
  obtain ⟨ws, hws⟩ : ∃ ws, ws = encWays t.Ways := ⟨_, rfl⟩
  obtain ⟨ms, hms⟩ : ∃ ms, ms = encIntLs t.Modes := ⟨_, rfl⟩
  obtain ⟨ks, hks⟩ : ∃ ks, ks = encKinds t.Kinds := ⟨_, rfl⟩
  obtain ⟨nv, hnv⟩ : ∃ nv, nv = t.Volumes := ⟨_, rfl⟩
  have htab : encTables t = .agg [.int .i64 nv, .list 5 ss, .list 3 cs, .list 3 ws, .list 1 ms, .list 6 ks] := by rw [encTables_eq t hss hcs hws hms hks, hnv]
  have hkl : ks.length = t.Kinds.length := by rw [hks]; simp [encKinds]
  have hwl : ws.length = t.Ways.length := by rw [hws]; simp [encWays]
  rw [htab] at hfew h3 h4 ⊢
  obtain ⟨f1, f2, f3, f4, f5, ⟨f6, f7⟩, f8⟩ := f
  obtain ⟨fl, hfl⟩ : ∃ fl, fl = encInts f5 := ⟨_, rfl⟩
  have hfll : fl.length = f5.length := by rw [hfl]; simp [encInts]
  rw [encFlight_eq _ hfl] at hfew h3 h4 ⊢
  obtain ⟨a1, a2, a3, a4⟩ := o
  simp only at hfew h3 h4 hld ⊢
  conv => cbv
  refine call_intro hA (law16_sane) ?_
  conv => cbv
  split
  · rename_i hc
    cases (nT hA hc)
  conv => cbv
  refine call_intro hA (hfew) ?_
  conv => cbv
  split
  · conv => cbv
    exact hq
  conv => cbv
  refine call_intro hA (h3) ?_
  conv => cbv
  split
  · conv => cbv
    exact hq
  conv => cbv
  refine call_intro hA (h4) ?_
  conv => cbv
  split
  · conv => cbv
    exact hq
  rename_i hc
  have he := neF hA hc
  rcases hcase with ⟨h0, _⟩ | ⟨h0, _, _, _, hM1, hM2⟩
  · exact absurd he h0
  obtain ⟨pw, k, w, k0, hk, kok, w0, hw, p0, hl, lok, hh0, hd⟩ := hld h0
  have hsm' := fun p hp => hsm h0 p hp
  clear hsm hld hfew h3 h4
  have hkk : f3.toNat < t.Kinds.length := (List.getElem?_eq_some_iff.1 hk).1
  have lok8 := lok.2.1
  conv => cbv
  refine ⟨draw_intro hA (by kernel_rfl), ?_⟩
  split
  · rename_i hc
    cases ((show False by have h1 : f3 < 0 := ltT hA hc; omega))
  conv => cbv
  split
  · rename_i hc
    cases ((show False by have h1 := leT' hA (lenI hA hkl) rfl hc; omega))
  conv => cbv
  split
  · rename_i hc
    cases ((show False by have h1 : a2 < 0 := ltT hA hc; omega))
  conv => cbv
  split
  · rename_i hc
    cases ((show False by have h1 := leT' hA (lenI hA hfll) rfl hc; omega))
  conv => cbv
  refine idx_Int hA hfl w0.1 w0.2 (fun z hz => ?_)
  obtain rfl := Option.some.inj ((hw).symm.trans hz)
  clear hz
  conv => cbv
  split
  · rename_i hc
    cases ((show False by have h1 : pw < 0 := ltT hA hc; omega))
  conv => cbv
  refine idx_Int hA hfl w0.1 w0.2 (fun z hz => ?_)
  obtain rfl := Option.some.inj ((hw).symm.trans hz)
  clear hz
  conv => cbv
  split
  · rename_i hc
    cases ((show False by have h1 := leT' hA (lenI hA hwl) rfl hc; omega))
  conv => cbv
  refine idx_Kind hA hks k0 (by omega) (fun z kv hz hkv => ?_)
  obtain rfl := Option.some.inj ((hk).symm.trans hz)
  clear hz
  conv => cbv
  refine ⟨draw_intro hA (by kernel_rfl), ?_⟩
  refine idx_Int hA hfl w0.1 w0.2 (fun z hz => ?_)
  obtain rfl := Option.some.inj ((hw).symm.trans hz)
  clear hz
  conv => cbv
  refine idx_Way hA hws p0.1 p0.2 (fun z lg hz hlg => ?_)
  obtain rfl := Option.some.inj ((hl).symm.trans hz)
  clear hz
  have hlgl : lg.length = w.Legs.length := by rw [hlg]; simp [encLegs]
  conv => cbv
  refine loop_set hA (fun (i : Int) s => s.put (some 11) (.val (.int .i64 i))) (fun i => 0 ≤ i ∧ i ≤ (M.length : Int) ∧ (fun _ => True) i) (fun i => ((M.length : Int) - i).toNat) 0 ?_ ?_ ?_
  · conv => cbv
    exact wk_sl (by repeat (first | refine leL_same ?_ | refine leL_any ?_ | exact leL_nil))
  · exact ⟨Int.le_refl _, by omega, trivial⟩
  rintro R i ⟨hi0, hi1, hi2⟩ hRi
  conv => cbv
  split
  ·   rename_i hc
      have hi : i < (M.length : Int) := ltT' hA rfl (lenI hA hxl) hc
      have his : A.iAdd i 1 = i + 1 := addI hA _ _
      have hir : A.inR (A.iAdd i 1) := inR' hA his (by unfold inI64; omega)
      have him : ((M.length : Int) - A.iAdd i 1).toNat < ((M.length : Int) - i).toNat := by rw [his]; omega
      have hin : (fun _ => True) (i + 1) → 0 ≤ A.iAdd i 1 ∧ A.iAdd i 1 ≤ (M.length : Int) ∧ (fun _ => True) (A.iAdd i 1) := fun h => by rw [his]; exact ⟨by omega, by omega, h⟩
      simp only at hin
      conv => cbv
      obtain ⟨x, hx0⟩ : ∃ x, M[i.toNat]? = some x := ⟨_, List.getElem?_eq_getElem (show i.toNat < M.length by omega)⟩
      have hxm := List.mem_of_getElem? hx0
      have hsx := hsm' x hxm
      obtain ⟨hway, htl, hdx⟩ := hd x hxm
      obtain ⟨v, hv⟩ : ∃ v, v = encInts x.Times := ⟨_, rfl⟩
      have hvl : v.length = x.Times.length := by rw [hv]; simp [encInts]
      refine ⟨draw_intro hA (by kernel_rfl), ?_⟩
      refine idx_Path hA hxs hi0 hi (fun z zv hz hzv => ?_)
      obtain rfl := Option.some.inj ((hx0).symm.trans hz)
      obtain rfl : v = zv := hv.trans hzv.symm
      clear hz hzv
      conv => cbv
      refine idx_Int hA hfl w0.1 w0.2 (fun z hz => ?_)
      obtain rfl := Option.some.inj ((hw).symm.trans hz)
      clear hz
      conv => cbv
      split
      · rename_i hc
        cases (neT' hA rfl rfl hc hway)
      conv => cbv
      refine idx_Path hA hxs hi0 hi (fun z zv hz hzv => ?_)
      obtain rfl := Option.some.inj ((hx0).symm.trans hz)
      obtain rfl : v = zv := hv.trans hzv.symm
      clear hz hzv
      conv => cbv
      have e1 : A.iAdd (A.lLen lg) 1 = (w.Legs.length : Int) + 1 := by rw [addI hA, lenI hA hlgl]
      refine ⟨inR' hA e1 (by unfold inI64; omega), ?_⟩
      split
      · rename_i hc
        cases (neT' hA (lenI hA hvl) e1 hc (by omega))
      conv => cbv
      refine loop_set hA (fun (i : Int) s => s.put (some 12) (.val (.int .i64 i))) (fun i => 0 ≤ i ∧ i ≤ (w.Legs.length : Int) ∧ (fun _ => True) i) (fun i => ((w.Legs.length : Int) - i).toNat) 0 ?_ ?_ ?_
      · conv => cbv
        exact wk_sl (by repeat (first | refine leL_same ?_ | refine leL_any ?_ | exact leL_nil))
      · exact ⟨Int.le_refl _, by omega, trivial⟩
      rintro R n ⟨hn0, hn1, hn2⟩ hRn
      conv => cbv
      split
      ·   rename_i hc
          have hn : n < (w.Legs.length : Int) := ltT' hA rfl (lenI hA hlgl) hc
          have hns : A.iAdd n 1 = n + 1 := addI hA _ _
          have hnr : A.inR (A.iAdd n 1) := inR' hA hns (by unfold inI64; omega)
          have hnm : ((w.Legs.length : Int) - A.iAdd n 1).toNat < ((w.Legs.length : Int) - n).toNat := by rw [hns]; omega
          have hnn : (fun _ => True) (n + 1) → 0 ≤ A.iAdd n 1 ∧ A.iAdd n 1 ≤ (w.Legs.length : Int) ∧ (fun _ => True) (A.iAdd n 1) := fun h => by rw [hns]; exact ⟨by omega, by omega, h⟩
          simp only at hnn
          conv => cbv
          obtain ⟨l, hl0⟩ : ∃ l, w.Legs[n.toNat]? = some l := ⟨_, List.getElem?_eq_getElem (show n.toNat < w.Legs.length by omega)⟩
          obtain ⟨a, ha⟩ : ∃ a, x.Times[n.toNat]? = some a := ⟨_, List.getElem?_eq_getElem (show n.toNat < x.Times.length by omega)⟩
          obtain ⟨b, hb⟩ : ∃ b, x.Times[n.toNat + 1]? = some b := ⟨_, List.getElem?_eq_getElem (show n.toNat + 1 < x.Times.length by omega)⟩
          have hdn := hdx n.toNat l a b hl0 ha hb
          obtain ⟨d, hdd⟩ : ∃ d, d = b - a - (if n.toNat + 1 = w.Legs.length then a3 else 0) := ⟨_, rfl⟩
          rw [← hdd] at hdn
          obtain ⟨d1, d2, d3, d4⟩ := hdn
          have m1 : d * k.Fast ≤ 4096 * 64 := Int.mul_le_mul d4 (by omega) (by omega) (by omega)
          have m2 : 0 ≤ d * k.Fast := Int.mul_nonneg (by omega) (by omega)
          have m3 : (d - 1) * k.Slow ≤ 4096 * 64 := Int.mul_le_mul (by omega) (by omega) (by omega) (by omega)
          have m4 : 0 ≤ (d - 1) * k.Slow := Int.mul_nonneg (by omega) (by omega)
          have ea := hsx.2.2 _ _ ha
          have eb := hsx.2.2 _ _ hb
          have e2 : A.iAdd n 1 = n + 1 := addI hA _ _
          have e3 : A.iSub (A.lLen lg) 1 = (w.Legs.length : Int) - 1 := by rw [subI hA, lenI hA hlgl]
          have e4 : A.iSub b a = b - a := subI hA _ _
          refine ⟨draw_intro hA (by kernel_rfl), ?_⟩
          refine idx_Path hA hxs hi0 hi (fun z zv hz hzv => ?_)
          obtain rfl := Option.some.inj ((hx0).symm.trans hz)
          obtain rfl : v = zv := hv.trans hzv.symm
          clear hz hzv
          conv => cbv
          refine ⟨inR' hA e2 (by unfold inI64; omega), ?_⟩
          refine idx_Int hA hv (n := A.iAdd n 1) (by rw [e2]; omega) (by rw [e2]; omega) (fun z hz => ?_)
          rw [e2, show (n + 1).toNat = n.toNat + 1 by omega] at hz
          obtain rfl := Option.some.inj ((hb).symm.trans hz)
          clear hz
          conv => cbv
          refine idx_Path hA hxs hi0 hi (fun z zv hz hzv => ?_)
          obtain rfl := Option.some.inj ((hx0).symm.trans hz)
          obtain rfl : v = zv := hv.trans hzv.symm
          clear hz hzv
          conv => cbv
          refine idx_Int hA hv hn0 (by omega) (fun z hz => ?_)
          obtain rfl := Option.some.inj ((ha).symm.trans hz)
          clear hz
          conv => cbv
          refine ⟨inR' hA e4 (by unfold inI64; omega), ?_⟩
          refine ⟨inR' hA e3 (by unfold inI64; omega), ?_⟩
          split
          all_goals rename_i hc2
          all_goals first
            | (have h1 := eqT' hA rfl e3 hc2
               rw [if_pos (by omega)] at hdd
               have hD : A.iSub (A.iSub b a) a3 = d := by rw [e4, subI hA, hdd]
               (conv => cbv)
               refine ⟨inR' hA hD (by unfold inI64; omega), ?_⟩)
            | (have h1 := eqF' hA rfl e3 hc2
               rw [if_neg (by omega)] at hdd
               have hD : A.iSub b a = d := by rw [e4, hdd]; omega
               (conv => cbv))
          all_goals
            have e5 := (subI hA _ 1).trans (congrArg (· - 1) hD)
            refine ⟨draw_intro hA (by kernel_rfl), ?_⟩
            split
            · rename_i hc
              cases ((show False by have h1 : d < 1 := ltT' hA hD rfl hc; omega))
            conv => cbv
            refine ⟨inR' hA ((mulI hA _ _).trans (congrArg (· * k.Fast) hD)) (by show inI64 (d * k.Fast); unfold inI64; omega), ?_⟩
            refine idx_Leg hA hlg hn0 hn (fun z u hz hu => ?_)
            obtain rfl := Option.some.inj ((hl0).symm.trans hz)
            clear hz hu
            conv => cbv
            split
            · rename_i hc
              cases ((show False by have h1 : d * k.Fast < l.Length := ltT' hA ((mulI hA _ _).trans (congrArg (· * k.Fast) hD)) rfl hc; omega))
            conv => cbv
            refine ⟨inR' hA e5 (by show inI64 (d - 1); unfold inI64; omega), ?_⟩
            refine ⟨inR' hA ((mulI hA _ _).trans (congrArg (· * k.Slow) e5)) (by show inI64 ((d - 1) * k.Slow); unfold inI64; omega), ?_⟩
            refine idx_Leg hA hlg hn0 hn (fun z u hz hu => ?_)
            obtain rfl := Option.some.inj ((hl0).symm.trans hz)
            clear hz hu
            conv => cbv
            split
            · rename_i hc
              cases ((show False by have h1 : l.Length ≤ (d - 1) * k.Slow := leT' hA rfl ((mulI hA _ _).trans (congrArg (· * k.Slow) e5)) hc; omega))
            conv => cbv
            exact ⟨hnr, hRn (A.iAdd n 1) _ (by (conv => cbv); exact wk_sl (by repeat (first | refine leL_same ?_ | refine leL_any ?_ | exact leL_nil))) (hnn trivial) hnm⟩
      rename_i hc
      have hn : n = (w.Legs.length : Int) := by have := ltF' hA rfl (lenI hA hlgl) hc; omega
      conv => cbv
      exact ⟨hir, hRi (A.iAdd i 1) _ (by (conv => cbv); exact wk_sl (by repeat (first | refine leL_same ?_ | refine leL_any ?_ | exact leL_nil))) (hin trivial) him⟩
  rename_i hc
  have hi : i = (M.length : Int) := by have := ltF' hA rfl (lenI hA hxl) hc; omega
  conv => cbv
  exact hq
end Go.Abs
