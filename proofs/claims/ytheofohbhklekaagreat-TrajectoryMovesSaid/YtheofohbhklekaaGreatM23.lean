/-
  Law TrajectoryMoves.
-/
import Derived.Test.YtheofohbhklekaaGreatL3
import Derived.Test.YtheofohbhklekaaGreatR26
import Derived.Test.YtheofohbhklekaaGreatG1
set_option linter.unusedVariables false
set_option linter.unusedSimpArgs false
namespace Go.Abs
open Go.RowKit Go.Proofs

/-- A region that is gone through in each order, and leaves one of two states; what comes behind it. -/
theorem skip_each2 {A : Ops} {E : Env} {id : Nat} {ops : Array Oper} {c : Code} {nb : Nat × Nat} {st : St} {Q Q2 : AX → St → Prop} (st1 st2 : St) (hQ : ∀ s, Q .normal s = wpC' A E (.seq (.region id ops true) c) nb s Q2)
    (hm : drawMode E true id ops.size = .each) (h1 : ∀ K : St → Prop, K st1 → K st2 → wpAll' A E ops ops.size (Array.replicate ops.size false) st K) (h2 : wpC' A E c nb st1 Q2) (h3 : wpC' A E c nb st2 Q2) : wpC' A E .skip nb st Q := by
  unfold wpC'
  rw [hQ]
  unfold wpC'
  unfold wpC'
  rw [hm]
  exact h1 _ h2 h3

def cloMv (n : Nat) : Bool := n == 1000008

set_option maxRecDepth 4000 in
set_option maxHeartbeats 8000000 in
theorem law_TrajectoryMoves (t : Tables) (f : Flight) (o : Opt) (_ : okTables t) (_ : okFlight f) (_ : okOpt o) : CallsPV Tryz.prog 7 [encTables t, encFlight f, encOpt o] (.bool true) := by
  have hfew := law16_few t f
  have h3 := ref16_Light t f o 600
  have h4 := tr_All t f o
  have h5 := tr_All t f { o with Delay := 0 }
  have h6 := tr_All t f { o with Hold := 0 }
  have hcase := countE_case t f o
  have hsm := fun h p => @times_small t f o h p
  have hg := @moves_ground t f o
  have ha := @moves_air t f o
  have hopt : countE t f o = 0 → 0 ≤ o.Delay ∧ o.Delay ≤ 60 ∧ 0 ≤ o.Hold ∧ o.Hold ≤ 10 := fun h => by
    obtain ⟨k, w, hp⟩ := planE_plan (countE_plan h).1
    exact ⟨hp.d0.1, hp.d0.2.1, hp.h0.1, hp.h0.2.1⟩
  generalize (few14 t && fewF f) = b1 at hfew
  generalize (!decide (countE t f o = 0) || decide (countN t f o ≤ 600)) = b3 at h3
  generalize countE t f { o with Delay := 0 } = e5 at h5 hg
  generalize countE t f { o with Hold := 0 } = e6 at h6 ha
  generalize allP t f { o with Delay := 0 } = G at h5 hg
  generalize allP t f { o with Hold := 0 } = H at h6 ha
  generalize countE t f o = e2 at h4 hcase hsm hg ha hopt
  generalize countN t f o = n at hcase
  generalize allP t f o = M at h4 hcase hsm hg ha
  generalize allT t f o = T at hcase
  obtain ⟨xs, hxs⟩ : ∃ xs, xs = encPaths M := ⟨_, rfl⟩
  obtain ⟨ys, hys⟩ : ∃ ys, ys = encPaths G := ⟨_, rfl⟩
  obtain ⟨zs, hzs⟩ : ∃ zs, zs = encPaths H := ⟨_, rfl⟩
  have hxl : xs.length = M.length := by rw [hxs]; simp [encPaths]
  have hyl : ys.length = G.length := by rw [hys]; simp [encPaths]
  have hzl : zs.length = H.length := by rw [hzs]; simp [encPaths]
  rw [← hxs] at h4
  rw [← hys] at h5
  rw [← hzs] at h6
  refine callsPV_by (clo := cloMv) (rows := false) env_ok Tryz.func7 rfl (enters_of Tryz.func7 (by kernel_rfl) rfl) (fun A q P Y hr hA hq => ?_)
  obtain ⟨ss, hss⟩ : ∃ ss, ss = encSectors t.Sectors := ⟨_, rfl⟩
  obtain ⟨cs, hcs⟩ : ∃ cs, cs = encConfigs t.Configs := ⟨_, rfl⟩
  obtain ⟨ws, hws⟩ : ∃ ws, ws = encWays t.Ways := ⟨_, rfl⟩
  obtain ⟨ms, hms⟩ : ∃ ms, ms = encIntLs t.Modes := ⟨_, rfl⟩
  obtain ⟨ks, hks⟩ : ∃ ks, ks = encKinds t.Kinds := ⟨_, rfl⟩
  obtain ⟨nv, hnv⟩ : ∃ nv, nv = t.Volumes := ⟨_, rfl⟩
  have htab : encTables t = .agg [.int .i64 nv, .list 5 ss, .list 3 cs, .list 3 ws, .list 1 ms, .list 6 ks] := by rw [encTables_eq t hss hcs hws hms hks, hnv]
  rw [htab] at hfew h3 h4 h5 h6 ⊢
  obtain ⟨f1, f2, f3, f4, f5, ⟨f6, f7⟩, f8⟩ := f
  obtain ⟨fl, hfl⟩ : ∃ fl, fl = encInts f5 := ⟨_, rfl⟩
  rw [encFlight_eq _ hfl] at hfew h3 h4 h5 h6 ⊢
  obtain ⟨a1, a2, a3, a4⟩ := o
  simp only at hfew h3 h4 h5 h6 hg ha hopt ⊢
  conv => cbv
  refine call_intro hA (law16_sane) ?_
  conv => cbv
  split
  · rename_i hc
    cases (nT hA hc)
  conv => cbv
  refine call_intro hA (hfew) ?_
  conv => cbv
  split
  · conv => cbv
    exact hq
  conv => cbv
  refine call_intro hA (h3) ?_
  conv => cbv
  split
  · conv => cbv
    exact hq
  conv => cbv
  refine call_intro hA (h4) ?_
  conv => cbv
  split
  · conv => cbv
    exact hq
  rename_i hc
  have he := neF hA hc
  rcases hcase with ⟨h0, _⟩ | ⟨h0, _, _, _, hM1, hM2⟩
  · exact absurd he h0
  obtain ⟨hg1, hg2⟩ := hg h0
  obtain ⟨ha1, ha2⟩ := ha h0
  have ho := hopt h0
  have hsm' := fun p hp => hsm h0 p hp
  have hGl : G.length = M.length := by rw [hg2]; simp
  have hHl : H.length = M.length := by rw [ha2]; simp
  clear hg ha hopt hsm hfew h3 h4
  rw [hg1] at h5
  rw [ha1] at h6
  apply skip_each2 (hQ := fun _ => rfl)
  case hm => rfl
  case h1 =>
    intro K hK1 hK2
    conv => cbv
    repeat' first
      | exact hK1
      | exact hK2
      | apply And.intro
  all_goals
    conv => cbv
    refine call_intro hA (h5) ?_
    conv => cbv
    refine call_intro hA (h6) ?_
    conv => cbv
    split
    · rename_i hc
      cases (neT hA hc rfl)
    conv => cbv
    split
    · rename_i hc
      cases (neT hA hc rfl)
    conv => cbv
    split
    · rename_i hc
      cases (neT' hA (lenI hA hyl) (lenI hA hxl) hc (by rw [hGl]))
    conv => cbv
    split
    · rename_i hc
      cases (neT' hA (lenI hA hzl) (lenI hA hxl) hc (by rw [hHl]))
    conv => cbv
    refine loop_set hA (fun (i : Int) s => s.put (some 15) (.val (.int .i64 i))) (fun i => 0 ≤ i ∧ i ≤ (M.length : Int) ∧ (fun _ => True) i) (fun i => ((M.length : Int) - i).toNat) 0 ?_ ?_ ?_
    · conv => cbv
      exact wk_sl (by repeat (first | refine leL_same ?_ | refine leL_any ?_ | exact leL_nil))
    · exact ⟨Int.le_refl _, by omega, trivial⟩
    rintro R i ⟨hi0, hi1, hi2⟩ hRi
    conv => cbv
    split
    ·   rename_i hc
        have hi : i < (M.length : Int) := ltT' hA rfl (lenI hA hxl) hc
        have his : A.iAdd i 1 = i + 1 := addI hA _ _
        have hir : A.inR (A.iAdd i 1) := inR' hA his (by unfold inI64; omega)
        have him : ((M.length : Int) - A.iAdd i 1).toNat < ((M.length : Int) - i).toNat := by rw [his]; omega
        have hin : (fun _ => True) (i + 1) → 0 ≤ A.iAdd i 1 ∧ A.iAdd i 1 ≤ (M.length : Int) ∧ (fun _ => True) (A.iAdd i 1) := fun h => by rw [his]; exact ⟨by omega, by omega, h⟩
        simp only at hin
        conv => cbv
        obtain ⟨x, hx0⟩ : ∃ x, M[i.toNat]? = some x := ⟨_, List.getElem?_eq_getElem (show i.toNat < M.length by omega)⟩
        obtain ⟨g, hg0, hxT1⟩ : ∃ g, G[i.toNat]? = some g ∧ x.Times = g.Times.map (· + a1) := by
          have h1 := hx0
          rw [hg2, List.getElem?_map] at h1
          obtain ⟨g, h2, h3⟩ := Option.map_eq_some_iff.1 h1
          exact ⟨g, h2, by rw [← h3]⟩
        obtain ⟨h, hh0, hxT2⟩ : ∃ h, H[i.toNat]? = some h ∧ x.Times = lateL a3 h.Times := by
          have h1 := hx0
          rw [ha2, List.getElem?_map] at h1
          obtain ⟨g, h2, h3⟩ := Option.map_eq_some_iff.1 h1
          exact ⟨g, h2, by rw [← h3]⟩
        have hsx := hsm' x (List.mem_of_getElem? hx0)
        have hgl : g.Times.length = x.Times.length := by rw [hxT1]; simp
        have hhl : h.Times.length = x.Times.length := by rw [hxT2, lateL_len]
        obtain ⟨v, hv⟩ : ∃ v, v = encInts x.Times := ⟨_, rfl⟩
        obtain ⟨gv, hgv⟩ : ∃ v, v = encInts g.Times := ⟨_, rfl⟩
        obtain ⟨hv2, hhv2⟩ : ∃ v, v = encInts h.Times := ⟨_, rfl⟩
        have hvl : v.length = x.Times.length := by rw [hv]; simp [encInts]
        have hgvl : gv.length = g.Times.length := by rw [hgv]; simp [encInts]
        have hhvl : hv2.length = h.Times.length := by rw [hhv2]; simp [encInts]
        refine ⟨draw_intro hA (by kernel_rfl), ?_⟩
        refine idx_Path hA hys hi0 (by omega) (fun z zv hz hzv => ?_)
        obtain rfl := Option.some.inj ((hg0).symm.trans hz)
        obtain rfl : gv = zv := hgv.trans hzv.symm
        clear hz hzv
        conv => cbv
        refine idx_Path hA hxs hi0 (by omega) (fun z zv hz hzv => ?_)
        obtain rfl := Option.some.inj ((hx0).symm.trans hz)
        obtain rfl : v = zv := hv.trans hzv.symm
        clear hz hzv
        conv => cbv
        split
        · rename_i hc
          cases (neT' hA (lenI hA hgvl) (lenI hA hvl) hc (by rw [hgl]))
        conv => cbv
        refine idx_Path hA hzs hi0 (by omega) (fun z zv hz hzv => ?_)
        obtain rfl := Option.some.inj ((hh0).symm.trans hz)
        obtain rfl : hv2 = zv := hhv2.trans hzv.symm
        clear hz hzv
        conv => cbv
        refine idx_Path hA hxs hi0 (by omega) (fun z zv hz hzv => ?_)
        obtain rfl := Option.some.inj ((hx0).symm.trans hz)
        obtain rfl : v = zv := hv.trans hzv.symm
        clear hz hzv
        conv => cbv
        split
        · rename_i hc
          cases (neT' hA (lenI hA hhvl) (lenI hA hvl) hc (by rw [hhl]))
        conv => cbv
        refine loop_set hA (fun (k : Int) s => s.put (some 16) (.val (.int .i64 k))) (fun k => 0 ≤ k ∧ k ≤ (x.Times.length : Int)) (fun k => ((x.Times.length : Int) - k).toNat) 0 ?_ ?_ ?_
        · conv => cbv
          exact wk_sl (by repeat (first | refine leL_same ?_ | refine leL_any ?_ | exact leL_nil))
        · exact ⟨Int.le_refl _, by omega⟩
        rintro R2 k ⟨hk0, hk1⟩ hR2
        conv => cbv
        refine idx_Path hA hxs hi0 (by omega) (fun z zv hz hzv => ?_)
        obtain rfl := Option.some.inj ((hx0).symm.trans hz)
        obtain rfl : v = zv := hv.trans hzv.symm
        clear hz hzv
        conv => cbv
        split
        · rename_i hc
          have hk : k < (x.Times.length : Int) := ltT' hA rfl (lenI hA hvl) hc
          obtain ⟨xk, hxk⟩ : ∃ xk, x.Times[k.toNat]? = some xk := ⟨_, List.getElem?_eq_getElem (show k.toNat < x.Times.length by omega)⟩
          obtain ⟨gk, hgk, hxg⟩ : ∃ gk, g.Times[k.toNat]? = some gk ∧ xk = gk + a1 := by
            have h1 := hxk
            rw [hxT1, List.getElem?_map] at h1
            obtain ⟨y, h2, h3⟩ := Option.map_eq_some_iff.1 h1
            exact ⟨y, h2, h3.symm⟩
          obtain ⟨hk2, hhk, hxh⟩ : ∃ y, h.Times[k.toNat]? = some y ∧ xk = if k.toNat + 1 = h.Times.length then y + a3 else y := by
            have h1 := hxk
            rw [hxT2, lateL_get] at h1
            obtain ⟨y, h2, h3⟩ := Option.map_eq_some_iff.1 h1
            exact ⟨y, h2, h3.symm⟩
          have hxs1 := hsx.2.2 k.toNat xk hxk
          have hx9 := hsx.2.1
          have e3 : A.iSub (A.lLen v) 1 = (x.Times.length : Int) - 1 := by rw [subI hA, lenI hA hvl]
          have hks : A.iAdd k 1 = k + 1 := addI hA _ _
          have hkr : A.inR (A.iAdd k 1) := inR' hA hks (by unfold inI64; omega)
          conv => cbv
          refine idx_Path hA hxs hi0 (by omega) (fun z zv hz hzv => ?_)
          obtain rfl := Option.some.inj ((hx0).symm.trans hz)
          obtain rfl : v = zv := hv.trans hzv.symm
          clear hz hzv
          conv => cbv
          refine ⟨inR' hA e3 (by unfold inI64; omega), ?_⟩
          split
          all_goals rename_i hc2
          all_goals first
            | have hlt : xk = hk2 + a3 := by
                have h1 := eqT' hA rfl e3 hc2
                rw [if_pos (by omega)] at hxh
                exact hxh
            | have hlt : xk = hk2 + 0 := by
                have h1 := eqF' hA rfl e3 hc2
                rw [if_neg (by omega)] at hxh
                omega
          all_goals
            conv => cbv
            refine ⟨draw_intro hA (by kernel_rfl), ?_⟩
            refine idx_Path hA hxs hi0 (by omega) (fun z zv hz hzv => ?_)
            obtain rfl := Option.some.inj ((hx0).symm.trans hz)
            obtain rfl : v = zv := hv.trans hzv.symm
            clear hz hzv
            conv => cbv
            refine idx_Int hA hv hk0 (by omega) (fun z hz => ?_)
            obtain rfl := Option.some.inj ((hxk).symm.trans hz)
            clear hz
            conv => cbv
            refine idx_Path hA hys hi0 (by omega) (fun z zv hz hzv => ?_)
            obtain rfl := Option.some.inj ((hg0).symm.trans hz)
            obtain rfl : gv = zv := hgv.trans hzv.symm
            clear hz hzv
            conv => cbv
            refine idx_Int hA hgv hk0 (by omega) (fun z hz => ?_)
            obtain rfl := Option.some.inj ((hgk).symm.trans hz)
            clear hz
            conv => cbv
            refine ⟨inR' hA (addI hA gk a1) (by unfold inI64; omega), ?_⟩
            split
            · rename_i hc
              cases (neT' hA rfl (addI hA gk a1) hc hxg)
            conv => cbv
            refine idx_Path hA hxs hi0 (by omega) (fun z zv hz hzv => ?_)
            obtain rfl := Option.some.inj ((hx0).symm.trans hz)
            obtain rfl : v = zv := hv.trans hzv.symm
            clear hz hzv
            conv => cbv
            refine idx_Int hA hv hk0 (by omega) (fun z hz => ?_)
            obtain rfl := Option.some.inj ((hxk).symm.trans hz)
            clear hz
            conv => cbv
            refine idx_Path hA hzs hi0 (by omega) (fun z zv hz hzv => ?_)
            obtain rfl := Option.some.inj ((hh0).symm.trans hz)
            obtain rfl : hv2 = zv := hhv2.trans hzv.symm
            clear hz hzv
            conv => cbv
            refine idx_Int hA hhv2 hk0 (by omega) (fun z hz => ?_)
            obtain rfl := Option.some.inj ((hhk).symm.trans hz)
            clear hz
            conv => cbv
            refine ⟨inR' hA (addI hA hk2 _) (by unfold inI64; omega), ?_⟩
            split
            · rename_i hc
              cases (neT' hA rfl (addI hA hk2 _) hc hlt)
            conv => cbv
            exact ⟨hkr, hR2 (A.iAdd k 1) _ (by (conv => cbv); exact wk_sl (by repeat (first | refine leL_same ?_ | refine leL_any ?_ | exact leL_nil))) (by rw [hks]; exact ⟨by omega, by omega⟩) (by rw [hks]; omega)⟩
        · rename_i hc
          conv => cbv
          exact ⟨hir, hRi (A.iAdd i 1) _ (by (conv => cbv); exact wk_sl (by repeat (first | refine leL_same ?_ | refine leL_any ?_ | exact leL_nil))) (hin trivial) him⟩
    rename_i hc
    have hi : i = (M.length : Int) := by have := ltF' hA rfl (lenI hA hxl) hc; omega
    conv => cbv
    exact hq
end Go.Abs
