/-
  Functions: trajectory.Flies.
-/
import Derived.Test.YtheofohbhklekaaGreatF24
set_option linter.unusedVariables false
set_option linter.unusedSimpArgs false
namespace Go.Abs
open Go.RowKit Go.Proofs

set_option maxRecDepth 4000 in
set_option maxHeartbeats 2000000 in
theorem tr_Flies (t : Tables) (f : Flight) (o : Opt) (p : Path) : CallsPV Tryz.prog 18 [encTables t, encFlight f, encOpt o, encPath p] (.tup [.bool (fliesB t f o p), .int .i64 (planE t f o)]) := by
  have hpl := tr_planned t f o
  by_cases h0 : planE t f o = 0
  · obtain ⟨k, w, h⟩ := planE_plan h0
    have hff := fliesB_ok (p := p) h0
    rw [flies_iff] at hff
    rw [planPV_ok h0, h0] at hpl
    rw [h0]
    have hfb := h.first
    have hlb := h.bounds
    generalize fliesB t f o p = fb at hff ⊢
    generalize planW f o = pw at hpl hff
    generalize firstB f o = fb at hpl hfb hff
    generalize planL t f o = pL at hpl hlb hff
    obtain ⟨b1, b2⟩ := fb
    simp only at hfb hff
    obtain ⟨bl, hbl⟩ : ∃ bl, bl = encBounds pL := ⟨_, rfl⟩
    have hbl' : bl.length = pL.length := by rw [hbl]; simp [encBounds]
    rw [← hbl] at hpl
    clear h h0
    refine callsPV_by (clo := fun _ => false) (rows := false) env_ok Tryz.func18 rfl (enters_of Tryz.func18 (by kernel_rfl) rfl) (fun A q P Y hr hA hq => ?_)
    obtain ⟨ss, hss⟩ : ∃ ss, ss = encSectors t.Sectors := ⟨_, rfl⟩
    obtain ⟨cs, hcs⟩ : ∃ cs, cs = encConfigs t.Configs := ⟨_, rfl⟩
    obtain ⟨ws, hws⟩ : ∃ ws, ws = encWays t.Ways := ⟨_, rfl⟩
    obtain ⟨ms, hms⟩ : ∃ ms, ms = encIntLs t.Modes := ⟨_, rfl⟩
    obtain ⟨ks, hks⟩ : ∃ ks, ks = encKinds t.Kinds := ⟨_, rfl⟩
    obtain ⟨nv, hnv⟩ : ∃ nv, nv = t.Volumes := ⟨_, rfl⟩
    have htab : encTables t = .agg [.int .i64 nv, .list 5 ss, .list 3 cs, .list 3 ws, .list 1 ms, .list 6 ks] := by rw [encTables_eq t hss hcs hws hms hks, hnv]
    rw [htab] at hpl ⊢
    obtain ⟨f1, f2, f3, f4, f5, ⟨f6, f7⟩, f8⟩ := f
    obtain ⟨fl, hfl⟩ : ∃ fl, fl = encInts f5 := ⟨_, rfl⟩
    rw [encFlight_eq _ hfl] at hpl ⊢
    obtain ⟨o1, o2, o3, o4⟩ := o
    obtain ⟨tp, htp⟩ : ∃ tp, tp = encInts p.Times := ⟨_, rfl⟩
    rw [encPath_eq p htp] at hr ⊢
    have hplen : p.Times.length ≤ 9223372036854775807 := by
      have h1 := Real.cell (show Real [.agg _] from hr.mem (p := .agg [.int .i64 p.Way, .list 1 tp]) (by simp)) (c := .list 1 tp) (by simp)
      have := h1.len
      rw [htp] at this; simpa [encInts] using this
    obtain ⟨p1, T⟩ := p
    simp only at hpl hff htp hplen ⊢
    have htl : tp.length = T.length := by rw [htp]; simp [encInts]
    have bad : ¬ (p1 = pw ∧ T.length = pL.length + 1 ∧ (∀ x, T[0]? = some x → b1 ≤ x ∧ x ≤ b2) ∧ ∀ (i : Nat) (b : Bound) (x y : Int), pL[i]? = some b → T[i]? = some x → T[i + 1]? = some y → x + b.Lo ≤ y ∧ y ≤ x + b.Hi) → PV.tup [.bool false, .int .i64 0] = q := fun hn => by
      rw [← hq]
      cases fb with
      | false => rfl
      | true => exact absurd (hff.1 rfl) hn
    have good : (p1 = pw ∧ T.length = pL.length + 1 ∧ (∀ x, T[0]? = some x → b1 ≤ x ∧ x ≤ b2) ∧ ∀ (i : Nat) (b : Bound) (x y : Int), pL[i]? = some b → T[i]? = some x → T[i + 1]? = some y → x + b.Lo ≤ y ∧ y ≤ x + b.Hi) → PV.tup [.bool true, .int .i64 0] = q := fun hn => by rw [← hq, hff.2 hn]
    have e1 : A.iAdd (A.lLen bl) 1 = (pL.length : Int) + 1 := by rw [addI hA, lenI hA hbl']
    clear hff hq
    conv => cbv
    refine call_intro hA (hpl) ?_
    conv => cbv
    split
    · rename_i hc
      cases (neT hA hc rfl)
    conv => cbv
    refine ⟨draw_intro hA (by kernel_rfl), ?_⟩
    split
    · rename_i hc
      have h1 := neT hA hc
      conv => cbv
      exact bad fun h => h1 h.1
    rename_i hc
    have g1 := neF hA hc
    conv => cbv
    refine ⟨inR' hA e1 (by unfold inI64; omega), ?_⟩
    conv => cbv
    split
    · rename_i hc
      have h1 := neT' hA (lenI hA htl) e1 hc
      conv => cbv
      exact bad fun h => h1 (by rw [h.2.1]; omega)
    rename_i hc
    have g2 := neF' hA (lenI hA htl) e1 hc
    obtain ⟨x0, hx0⟩ : ∃ x, T[0]? = some x := ⟨T[0]'(by omega), List.getElem?_eq_getElem (by omega)⟩
    conv => cbv
    refine idx_Int hA htp (Int.le_refl 0) (by omega) (fun z hz => ?_)
    obtain rfl := Option.some.inj ((hx0).symm.trans hz)
    conv => cbv
    split
    · rename_i hc
      have h1 := ltT hA hc
      conv => cbv
      exact bad fun h => by have := h.2.2.1 x0 hx0; omega
    rename_i hc
    have g3 := ltF hA hc
    conv => cbv
    refine idx_Int hA htp (Int.le_refl 0) (by omega) (fun z hz => ?_)
    obtain rfl := Option.some.inj ((hx0).symm.trans hz)
    conv => cbv
    split
    · rename_i hc
      have h1 := ltT hA hc
      conv => cbv
      exact bad fun h => by have := h.2.2.1 x0 hx0; omega
    rename_i hc
    have g4 := ltF hA hc
    conv => cbv
    refine loop_set hA (fun (i : Int) s => s.put (some 61) (.val (.int .i64 i))) (fun i => 0 ≤ i ∧ i ≤ (pL.length : Int) ∧ (fun i => (∃ x, T[i.toNat]? = some x ∧ 0 ≤ x ∧ x ≤ 1500 + 5000 * i) ∧ ∀ (j : Nat) (b : Bound) (x y : Int), j < i.toNat → pL[j]? = some b → T[j]? = some x → T[j + 1]? = some y → x + b.Lo ≤ y ∧ y ≤ x + b.Hi) i) (fun i => ((pL.length : Int) - i).toNat) 0 ?_ ?_ ?_
    · conv => cbv
      exact wk_sl (by repeat (first | refine leL_same ?_ | refine leL_any ?_ | exact leL_nil))
    · exact ⟨Int.le_refl _, by omega, ⟨⟨x0, hx0, by omega, by omega⟩, by simp⟩⟩
    rintro R i ⟨hi0, hi1, hi2⟩ hRi
    conv => cbv
    split
    ·   rename_i hc
        have hi : i < (pL.length : Int) := ltT' hA rfl (lenI hA hbl') hc
        have his : A.iAdd i 1 = i + 1 := addI hA _ _
        have hir : A.inR (A.iAdd i 1) := inR' hA his (by unfold inI64; omega)
        have him : ((pL.length : Int) - A.iAdd i 1).toNat < ((pL.length : Int) - i).toNat := by rw [his]; omega
        have hin : (fun i => (∃ x, T[i.toNat]? = some x ∧ 0 ≤ x ∧ x ≤ 1500 + 5000 * i) ∧ ∀ (j : Nat) (b : Bound) (x y : Int), j < i.toNat → pL[j]? = some b → T[j]? = some x → T[j + 1]? = some y → x + b.Lo ≤ y ∧ y ≤ x + b.Hi) (i + 1) → 0 ≤ A.iAdd i 1 ∧ A.iAdd i 1 ≤ (pL.length : Int) ∧ (fun i => (∃ x, T[i.toNat]? = some x ∧ 0 ≤ x ∧ x ≤ 1500 + 5000 * i) ∧ ∀ (j : Nat) (b : Bound) (x y : Int), j < i.toNat → pL[j]? = some b → T[j]? = some x → T[j + 1]? = some y → x + b.Lo ≤ y ∧ y ≤ x + b.Hi) (A.iAdd i 1) := fun h => by rw [his]; exact ⟨by omega, by omega, h⟩
        simp only at hin
        conv => cbv
        obtain ⟨⟨x, hx, d1, d2⟩, hj⟩ := hi2
        refine idx_Bound hA hbl hi0 hi (fun b hb0 => ?_)
        have hbb := hlb.1 b (List.mem_of_getElem? hb0)
        obtain ⟨c1, c2⟩ := b
        simp only at hbb
        obtain ⟨y, hy⟩ : ∃ y, T[i.toNat + 1]? = some y := ⟨T[i.toNat + 1]'(by omega), List.getElem?_eq_getElem (by omega)⟩
        have hy' : T[(A.iAdd i 1).toNat]? = some y := by rw [his, show (i + 1).toNat = i.toNat + 1 by omega]; exact hy
        have j0 : 0 ≤ A.iAdd i 1 := by rw [his]; omega
        have j1 : A.iAdd i 1 < T.length := by rw [his]; omega
        have a1 : A.iAdd x c1 = x + c1 := addI hA _ _
        have a2 : A.iAdd x c2 = x + c2 := addI hA _ _
        conv => cbv
        refine ⟨draw_intro hA (by kernel_rfl), ?_⟩
        refine ⟨hir, ?_⟩
        refine idx_Int hA htp j0 j1 (fun z hz => ?_)
        obtain rfl := Option.some.inj (hy'.symm.trans hz)
        conv => cbv
        refine idx_Int hA htp hi0 (by omega) (fun z hz => ?_)
        obtain rfl := Option.some.inj ((hx).symm.trans hz)
        conv => cbv
        refine ⟨inR' hA a1 (by unfold inI64; omega), ?_⟩
        conv => cbv
        split
        · rename_i hc
          have h1 := ltT' hA rfl a1 hc
          conv => cbv
          exact bad fun h => by have := h.2.2.2 i.toNat ⟨c1, c2⟩ x y hb0 hx hy; simp only at this; omega
        rename_i hc
        have g5 := ltF' hA rfl a1 hc
        conv => cbv
        refine ⟨hir, ?_⟩
        refine idx_Int hA htp j0 j1 (fun z hz => ?_)
        obtain rfl := Option.some.inj (hy'.symm.trans hz)
        conv => cbv
        refine idx_Int hA htp hi0 (by omega) (fun z hz => ?_)
        obtain rfl := Option.some.inj ((hx).symm.trans hz)
        conv => cbv
        refine ⟨inR' hA a2 (by unfold inI64; omega), ?_⟩
        conv => cbv
        split
        · rename_i hc
          have h1 := ltT' hA a2 rfl hc
          conv => cbv
          exact bad fun h => by have := h.2.2.2 i.toNat ⟨c1, c2⟩ x y hb0 hx hy; simp only at this; omega
        rename_i hc
        have g6 := ltF' hA a2 rfl hc
        have nx : (∃ x, T[(i + 1).toNat]? = some x ∧ 0 ≤ x ∧ x ≤ 1500 + 5000 * (i + 1)) ∧ ∀ (j : Nat) (b : Bound) (x y : Int), j < (i + 1).toNat → pL[j]? = some b → T[j]? = some x → T[j + 1]? = some y → x + b.Lo ≤ y ∧ y ≤ x + b.Hi := by
          refine ⟨⟨y, by rw [show (i + 1).toNat = i.toNat + 1 by omega]; exact hy, by omega, by omega⟩, fun j b x' y' hj1 hb1 hx1 hy1 => ?_⟩
          rcases Nat.lt_or_ge j i.toNat with h | h
          · exact hj j b x' y' h hb1 hx1 hy1
          · have hji : j = i.toNat := by omega
            subst hji
            rw [hb0] at hb1
            rw [hx] at hx1
            rw [hy] at hy1
            cases hb1
            cases hx1
            cases hy1
            exact ⟨g5, g6⟩
        conv => cbv
        exact ⟨hir, hRi (A.iAdd i 1) _ (by (conv => cbv); exact wk_round (bx := [_, _, _, _, _]) (bx' := [_]) (mp := []) (mp' := []) (by repeat (first | refine leL_same ?_ | refine leL_any ?_ | exact leL_nil)) (by simp) (by simp) rfl rfl) (hin nx) him⟩
    rename_i hc
    have hi : i = (pL.length : Int) := by have := ltF' hA rfl (lenI hA hbl') hc; omega
    conv => cbv
    refine good ⟨g1, by omega, fun x hx => ?_, fun i b x y hb hx hy => hi2.2 i b x y ?_ hb hx hy⟩
    · rw [hx0] at hx; cases hx; exact ⟨g3, g4⟩
    · have := (List.getElem?_eq_some_iff.1 hb).1
      omega
  · rw [planPV_no h0] at hpl
    rw [fliesB_no h0]
    generalize planE t f o = e at hpl h0
    refine callsPV_by (clo := fun _ => false) (rows := false) env_ok Tryz.func18 rfl (enters_of Tryz.func18 (by kernel_rfl) rfl) (fun A q P Y hr hA hq => ?_)
    obtain ⟨ss, hss⟩ : ∃ ss, ss = encSectors t.Sectors := ⟨_, rfl⟩
    obtain ⟨cs, hcs⟩ : ∃ cs, cs = encConfigs t.Configs := ⟨_, rfl⟩
    obtain ⟨ws, hws⟩ : ∃ ws, ws = encWays t.Ways := ⟨_, rfl⟩
    obtain ⟨ms, hms⟩ : ∃ ms, ms = encIntLs t.Modes := ⟨_, rfl⟩
    obtain ⟨ks, hks⟩ : ∃ ks, ks = encKinds t.Kinds := ⟨_, rfl⟩
    obtain ⟨nv, hnv⟩ : ∃ nv, nv = t.Volumes := ⟨_, rfl⟩
    have htab : encTables t = .agg [.int .i64 nv, .list 5 ss, .list 3 cs, .list 3 ws, .list 1 ms, .list 6 ks] := by rw [encTables_eq t hss hcs hws hms hks, hnv]
    rw [htab] at hpl ⊢
    obtain ⟨f1, f2, f3, f4, f5, ⟨f6, f7⟩, f8⟩ := f
    obtain ⟨fl, hfl⟩ : ∃ fl, fl = encInts f5 := ⟨_, rfl⟩
    rw [encFlight_eq _ hfl] at hpl ⊢
    obtain ⟨o1, o2, o3, o4⟩ := o
    obtain ⟨tp, htp⟩ : ∃ tp, tp = encInts p.Times := ⟨_, rfl⟩
    rw [encPath_eq p htp]
    obtain ⟨p1, T⟩ := p
    simp only at hpl ⊢
    conv => cbv
    refine call_intro hA (hpl) ?_
    conv => cbv
    split
    rotate_left
    · rename_i hc
      cases ((h0 (neF hA hc)))
    conv => cbv
    exact hq
end Go.Abs
