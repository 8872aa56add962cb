/-
  Functions of the reference's chapter 16: extend.
  Functions of the reference's chapter 16: All.
-/
import Derived.Test.YtheofohbhklekaaGreatR20
import Derived.Test.YtheofohbhklekaaGreatF29
set_option linter.unusedVariables false
set_option linter.unusedSimpArgs false
namespace Go.Abs
open Go.RowKit Go.Proofs

theorem le_sum : ∀ {l : List Nat} {x : Nat}, x ∈ l → x ≤ l.sum
  | y :: r, x, h => by
    rw [List.sum_cons]
    rcases List.mem_cons.1 h with rfl | h
    · omega
    · have := le_sum h; omega

set_option maxHeartbeats 2000000 in
theorem ref16_extend (first : Bound) (legs : List Bound) (hb : ∀ b ∈ first :: legs, -10000 ≤ b.Lo ∧ b.Lo ≤ b.Hi ∧ b.Hi ≤ 10000) (hl : legs.length ≤ 100) {bl : List PV} (hbl : bl = encBounds legs) :
    ∀ (d : Nat) (ts : List Int), ts.length + d = legs.length + 1 → 0 < ts.length → (-10000 * (ts.length : Int) ≤ ts.getLastD 0 ∧ ts.getLastD 0 ≤ 10000 * (ts.length : Int)) → (extT first legs ts).length ≤ 5000 →
      CallsPV Tryz.prog 38 [.list 1 (encInts ts), .list 2 bl, .int .i64 ((ts.length : Int) - 1)] (.list 1 (encIntLs (extT first legs ts))) := by
  have hbll : bl.length = legs.length := by rw [hbl]; simp [encBounds]
  intro d
  induction d with
  | zero =>
    intro ts hts hpos hlast hsz
    rw [extT_end (by omega)]
    refine callsPV_by (clo := fun _ => false) (rows := false) env_ok Tryz.func38 rfl (enters_of Tryz.func38 (by kernel_rfl) rfl) (fun A q P Y hr hA hq => ?_)
    obtain ⟨at_, hat⟩ : ∃ a : Int, a = (ts.length : Int) - 1 := ⟨_, rfl⟩
    obtain ⟨xs, hxs⟩ : ∃ xs, xs = encInts ts := ⟨_, rfl⟩
    rw [← hat, ← hxs]
    conv => cbv
    split
    rotate_left
    · rename_i hc
      cases ((show False by have := eqF' hA rfl (lenI hA hbll) hc; omega))
    conv => cbv
    rw [← hq, hxs]; rfl
  | succ d ih =>
    intro ts hts hpos hlast hsz
    have hlt : ts.length < (first :: legs).length := by simp; omega
    obtain ⟨b, hbn⟩ : ∃ b, (first :: legs)[ts.length]? = some b := ⟨_, List.getElem?_eq_getElem hlt⟩
    have hbb := hb b (List.mem_of_getElem? hbn)
    have hstep := extT_step hbn
    obtain ⟨last, hla⟩ : ∃ last, last = ts.getLastD 0 := ⟨_, rfl⟩
    rw [← hla] at hlast hstep
    obtain ⟨at_, hat⟩ : ∃ a : Int, a = (ts.length : Int) - 1 := ⟨_, rfl⟩
    have hlb : legs[at_.toNat]? = some b := by
      have h' := hbn
      rw [show ts.length = at_.toNat + 1 by omega, List.getElem?_cons_succ] at h'
      exact h'
    have hlt2 : ts[at_.toNat]? = some last := by
      rw [hla, show at_.toNat = ts.length - 1 by omega, List.getLastD_eq_getLast?, List.getLast?_eq_getElem?]
      rw [List.getElem?_eq_getElem (by omega)] <;> rfl
    have hpart : ∀ (t : Int), last + b.Lo ≤ t → t ≤ last + b.Hi → (extT first legs (ts ++ [t])).length ≤ 5000 := fun t h1 h2 => by
      refine Nat.le_trans ?_ hsz
      rw [hstep, List.length_flatMap]
      exact le_sum (List.mem_map.2 ⟨t, mem_rangeL.2 ⟨h1, h2⟩, rfl⟩)
    have hih := fun (t : Int) (h1 : last + b.Lo ≤ t) (h2 : t ≤ last + b.Hi) => ih (ts ++ [t]) (by simp; omega) (by simp) (by simp; omega) (hpart t h1 h2)
    rw [hstep] at hsz ⊢
    refine callsPV_by (clo := fun _ => false) (rows := false) env_ok Tryz.func38 rfl (enters_of Tryz.func38 (by kernel_rfl) rfl) (fun A q P Y hr hA hq => ?_)
    obtain ⟨xs, hxs⟩ : ∃ xs, xs = encInts ts := ⟨_, rfl⟩
    have hxl : xs.length = ts.length := by rw [hxs]; simp [encInts]
    rw [← hat, ← hxs]
    obtain ⟨c1, c2⟩ := b
    simp only at hbb hih hsz hq
    have e3 : A.iSub (A.lLen xs) 1 = at_ := by rw [subI hA, lenI hA hxl, hat]
    have i0 : 0 ≤ A.iSub (A.lLen xs) 1 := by rw [e3]; omega
    have i2 : A.iSub (A.lLen xs) 1 < ts.length := by rw [e3]; omega
    have hlt3 : ts[(A.iSub (A.lLen xs) 1).toNat]? = some last := by rw [e3]; exact hlt2
    have hatl : 0 ≤ at_ ∧ at_ < legs.length := by omega
    obtain ⟨F, hF⟩ : ∃ F : Int → List (List Int), F = fun n => extT first legs (ts ++ [last + n]) := ⟨_, rfl⟩
    have hfl : (rangeL (last + c1) (last + c2)).flatMap (fun t => extT first legs (ts ++ [t])) = (rangeL c1 c2).flatMap F := by
      rw [show last + c1 = c1 + last by omega, show last + c2 = c2 + last by omega, rangeL_add, List.flatMap_map, hF]
      congr 1
      funext n
      rw [show n + last = last + n by omega]
    rw [hfl] at hsz hq
    have hFl : ∀ (n : Int), c1 ≤ n → n ≤ c2 → ((rangeL c1 c2).take (n + 1 - c1).toNat).flatMap F = ((rangeL c1 c2).take (n - c1).toNat).flatMap F ++ F n := fun n h1 h2 => by
      rw [rangeL_take h1 h2, List.flatMap_append]; simp
    have hFs : ∀ (k : Nat), (((rangeL c1 c2).take k).flatMap F).length ≤ 5000 := fun k => by
      refine Nat.le_trans ?_ hsz
      conv => rhs; rw [← List.take_append_drop k (rangeL c1 c2), List.flatMap_append, List.length_append]
      omega
    conv => cbv
    split
    · rename_i hc
      cases ((show False by have := eqT' hA rfl (lenI hA hbll) hc; omega))
    conv => cbv
    refine ⟨inR' hA e3 (by unfold inI64; omega), ?_⟩
    refine idx_Int hA hxs i0 i2 (fun z hz => ?_)
    obtain rfl := Option.some.inj (hlt3.symm.trans hz)
    conv => cbv
    refine idx_Bound hA hbl hatl.1 hatl.2 (fun z hz => ?_)
    obtain rfl := Option.some.inj ((hlb).symm.trans hz)
    conv => cbv
    refine loop_set hA (fun (z : Int × List PV) s => { (s.put (some 9) (.val (.int .i64 z.1))).put (some 7) (.own 0 1 z.2) with tk := [(A.nLen z.2, 29)] })
      (fun z => c1 ≤ z.1 ∧ z.1 ≤ c2 + 1 ∧ z.2 = encIntLs (((rangeL c1 c2).take (z.1 - c1).toNat).flatMap F)) (fun z => (c2 + 1 - z.1).toNat) (c1, []) ?_ ?_ ?_
    · conv => cbv
      exact wk_own 7 0 1 [] _ rfl (.inr rfl) (by repeat (first | refine leL_same ?_ | refine leL_any ?_ | refine leL_own ?_ | refine leL_lit ?_ | exact leL_nil)) (by subst hA; rfl)
    · exact ⟨Int.le_refl _, by omega, by simp [encIntLs]⟩
    rintro R ⟨n, M⟩ ⟨hn0, hn1, hM⟩ hR
    simp only at hn0 hn1 hM
    have hMl : M.length ≤ 5000 := by rw [hM]; have := hFs (n - c1).toNat; simpa [encIntLs] using this
    conv => cbv
    refine idx_Bound hA hbl hatl.1 hatl.2 (fun z hz => ?_)
    obtain rfl := Option.some.inj ((hlb).symm.trans hz)
    conv => cbv
    split
    · rename_i hc
      have hn : n ≤ c2 := leT hA hc
      have hns : A.iAdd n 1 = n + 1 := addI hA _ _
      have hnr : A.inR (A.iAdd n 1) := inR' hA hns (by unfold inI64; omega)
      have hln : A.iAdd last n = last + n := addI hA _ _
      have hat1 : A.iAdd at_ 1 = at_ + 1 := addI hA _ _
      have r1 : A.room (A.nLen (A.lApp [] xs)) 8 := by subst hA; show ([] ++ xs).length * (8 + 1) ≤ 140737488355328; simp; omega
      have r2 : A.room (A.nLen (A.lApp (A.lApp [] xs) [PV.int IntKind.i64 (A.iAdd last n)])) 8 := by subst hA; show (([] ++ xs) ++ [_]).length * (8 + 1) ≤ 140737488355328; simp; omega
      have tk1 : A.tkEq (A.nLen (A.lApp [] xs)) (A.nLen (A.lApp [] xs)) := by subst hA; rfl
      have tk2 : A.tkEq (A.nLen M) (A.nLen M) := by subst hA; rfl
      have hcall := hih (last + n) (by omega) (by omega)
      have hap : A.lApp (A.lApp [] xs) [PV.int IntKind.i64 (A.iAdd last n)] = encInts (ts ++ [last + n]) := by
        rw [hln, hxs]
        subst hA
        show ([] ++ encInts ts) ++ _ = _
        simp [encInts, encInt]
      rw [← hap, show (((ts ++ [last + n]).length : Nat) : Int) - 1 = A.iAdd at_ 1 by rw [hat1, List.length_append, List.length_singleton]; omega, show extT first legs (ts ++ [last + n]) = F n by rw [hF]] at hcall
      obtain ⟨rs, hrs⟩ : ∃ rs, rs = encIntLs (F n) := ⟨_, rfl⟩
      rw [← hrs] at hcall
      have hnext : A.lApp M rs = encIntLs (((rangeL c1 c2).take (n + 1 - c1).toNat).flatMap F) := by
        rw [hFl n hn0 hn, hM, hrs]
        subst hA
        show encIntLs _ ++ encIntLs _ = _
        simp [encIntLs]
      have r3 : A.room (A.nLen (A.lApp M rs)) 24 := by
        rw [hnext]
        subst hA
        show (encIntLs _).length * (24 + 1) ≤ 140737488355328
        have := hFs (n + 1 - c1).toNat
        simp only [encIntLs, List.length_map]; omega
      conv => cbv
      refine ⟨r1, inR' hA hln (by unfold inI64; omega), ⟨tk1, r2⟩, inR' hA hat1 (by unfold inI64; omega), ?_⟩
      refine call_intro hA hcall ?_
      conv => cbv
      refine ⟨⟨tk2, r3⟩, hnr, hR (A.iAdd n 1, A.lApp M rs) _ ?_ ?_ ?_⟩
      · conv => cbv
        exact wk_roundT (bx := []) (bx' := []) (tk := [_]) (tk' := [_]) (by repeat (first | refine leL_same ?_ | refine leL_any ?_ | refine leL_own ?_ | refine leL_lit ?_ | exact leL_nil)) rfl rfl rfl rfl
      · show c1 ≤ A.iAdd n 1 ∧ A.iAdd n 1 ≤ c2 + 1 ∧ A.lApp M rs = encIntLs (((rangeL c1 c2).take (A.iAdd n 1 - c1).toNat).flatMap F)
        rw [hns]; exact ⟨by omega, by omega, hnext⟩
      · show (c2 + 1 - A.iAdd n 1).toNat < (c2 + 1 - n).toNat
        rw [hns]; omega
    · rename_i hc
      have hn : n = c2 + 1 := by have := leF hA hc; omega
      conv => cbv
      rw [← hq, hM, hn, List.take_of_length_le (by rw [rangeL_len]; omega)]
end Go.Abs

namespace Go.Abs
open Go.RowKit Go.Proofs

set_option maxHeartbeats 2000000 in
theorem ref16_All (t : Tables) (f : Flight) (o : Opt) : CallsPV Tryz.prog 22 [encTables t, encFlight f, encOpt o] (.tup [.list 2 (encPaths (allP t f o)), .int .i64 (countE t f o)]) := by
  have hcnt := ref16_Count t f o
  have hpl := ref16_legs t f o
  by_cases h0 : countE t f o = 0
  · obtain ⟨hp0, hmany⟩ := countE_plan h0
    obtain ⟨k, w, h⟩ := planE_plan hp0
    have hall : allP t f o = (allT t f o).map fun ts => ⟨planW f o, ts⟩ := by rw [allP, if_pos h0]
    have hTl := allT_len t f o
    have hTe : allT t f o = extT (firstB f o) (planL t f o) [] := (extT_nil _ _).symm
    have hst := extT_step (first := firstB f o) (legs := planL t f o) (ts := []) (b := firstB f o) rfl
    rw [← hTe] at hst
    have hext := fun bl hbl => ref16_extend (firstB f o) (planL t f o) h.all (by have := h.bounds.2.2.2; omega) (bl := bl) hbl
    have hwin := h.win
    have hdl := h.d0
    have h6 := h.w0
    have h7 := h.hw
    have hlb := h.bounds.2.2.2
    have hfb : firstB f o = ⟨f.Window.From + o.Delay, f.Window.To - 1 + o.Delay⟩ := rfl
    rw [legsR, if_pos hp0, hp0] at hpl
    rw [h0] at hcnt
    rw [hall, h0]
    generalize countN t f o = cn at hcnt
    generalize planW f o = pw at h7
    generalize allT t f o = T at hTl hst
    generalize planL t f o = pL at hpl hst hext hlb
    rw [hfb] at hst hext
    obtain ⟨bl, hbl⟩ : ∃ bl, bl = encBounds pL := ⟨_, rfl⟩
    have hex2 := fun d ts => hext bl hbl d ts
    rw [← hbl] at hpl
    clear hext hall hTe h h0 hp0 hfb
    refine callsPV_by (clo := fun _ => false) (rows := false) env_ok Tryz.func22 rfl (enters_of Tryz.func22 (by kernel_rfl) rfl) (fun A q P Y hr hA hq => ?_)
    obtain ⟨ss, hss⟩ : ∃ ss, ss = encSectors t.Sectors := ⟨_, rfl⟩
    obtain ⟨cs, hcs⟩ : ∃ cs, cs = encConfigs t.Configs := ⟨_, rfl⟩
    obtain ⟨ws, hws⟩ : ∃ ws, ws = encWays t.Ways := ⟨_, rfl⟩
    obtain ⟨ms, hms⟩ : ∃ ms, ms = encIntLs t.Modes := ⟨_, rfl⟩
    obtain ⟨ks, hks⟩ : ∃ ks, ks = encKinds t.Kinds := ⟨_, rfl⟩
    obtain ⟨nv, hnv⟩ : ∃ nv, nv = t.Volumes := ⟨_, rfl⟩
    have htab : encTables t = .agg [.int .i64 nv, .list 5 ss, .list 3 cs, .list 3 ws, .list 1 ms, .list 6 ks] := by rw [encTables_eq t hss hcs hws hms hks, hnv]
    rw [htab] at hpl hcnt ⊢
    obtain ⟨f1, f2, f3, f4, f5, ⟨f6, f7⟩, f8⟩ := f
    obtain ⟨fl, hfl⟩ : ∃ fl, fl = encInts f5 := ⟨_, rfl⟩
    rw [encFlight_eq _ hfl] at hpl hcnt ⊢
    obtain ⟨o1, o2, o3, o4⟩ := o
    simp only at hpl hcnt hwin hdl h6 h7 hst hex2 ⊢
    obtain ⟨E1, hE1⟩ : ∃ E1 : Int → List (List Int), E1 = fun m => extT ⟨f6 + o1, f7 - 1 + o1⟩ pL [m + o1] := ⟨_, rfl⟩
    have hT : T = (rangeL f6 (f7 - 1)).flatMap E1 := by
      rw [hst, hE1, show ([] : List Int).getLastD 0 + (f6 + o1) = f6 + o1 by simp, show ([] : List Int).getLastD 0 + (f7 - 1 + o1) = f7 - 1 + o1 by simp, rangeL_add, List.flatMap_map]
      rfl
    have hTk : ∀ (a : Nat), (((rangeL f6 (f7 - 1)).take a).flatMap E1).length ≤ 4096 := fun a => by
      have h1 : T.length ≤ 4096 := by omega
      rw [hT] at h1
      refine Nat.le_trans ?_ h1
      conv => rhs; rw [← List.take_append_drop a (rangeL f6 (f7 - 1)), List.flatMap_append, List.length_append]
      omega
    have hTs : ∀ (m : Int), f6 ≤ m → m ≤ f7 - 1 → ((rangeL f6 (f7 - 1)).take (m + 1 - f6).toNat).flatMap E1 = ((rangeL f6 (f7 - 1)).take (m - f6).toNat).flatMap E1 ++ E1 m := fun m h1 h2 => by
      rw [rangeL_take h1 h2, List.flatMap_append]; simp
    obtain ⟨G, hG⟩ : ∃ G : List (List Int) → List PV, G = fun l => encPaths (l.map fun ts => ⟨pw, ts⟩) := ⟨_, rfl⟩
    have hGl : ∀ l, (G l).length = l.length := fun l => by rw [hG]; simp [encPaths]
    have hGs : ∀ l ts, G (l ++ [ts]) = G l ++ [.agg [.int .i64 pw, .list 1 (encInts ts)]] := fun l ts => by rw [hG]; simp [encPaths, encPath]
    have hq' : PV.tup [.list 2 (G T), .int .i64 0] = q := by rw [← hq, hG]
    clear hq
    conv => cbv
    refine call_intro hA (hcnt) ?_
    conv => cbv
    split
    · rename_i hc
      cases (neT hA hc rfl)
    conv => cbv
    refine call_intro hA (hpl) ?_
    conv => cbv
    refine loop_set hA (fun (z : Int × List PV) s => { (s.put (some 13) (.val (.int .i64 z.1))).put (some 12) (.own 0 2 z.2) with tk := [(A.nLen z.2, 47)] })
      (fun z => f6 ≤ z.1 ∧ z.1 ≤ f7 ∧ z.2 = G (((rangeL f6 (f7 - 1)).take (z.1 - f6).toNat).flatMap E1)) (fun z => (f7 - z.1).toNat) (f6, []) ?_ ?_ ?_
    · conv => cbv
      exact wk_own 12 0 2 [] _ rfl (.inr rfl) (by repeat (first | refine leL_same ?_ | refine leL_any ?_ | refine leL_own ?_ | refine leL_lit ?_ | exact leL_nil)) (by subst hA; rfl)
    · refine ⟨Int.le_refl _, by simp only; omega, ?_⟩
      show [] = G _
      rw [hG]; simp [encPaths]
    rintro R ⟨m, X⟩ ⟨hm0, hm1, hX⟩ hR
    simp only at hm0 hm1 hX
    conv => cbv
    split
    · rename_i hc
      have hm : m < f7 := ltT hA hc
      have hms : A.iAdd m 1 = m + 1 := addI hA _ _
      have hmr : A.inR (A.iAdd m 1) := inR' hA hms (by unfold inI64; omega)
      have hmo : A.iAdd m o1 = m + o1 := addI hA _ _
      have hEl : (E1 m).length ≤ 4096 := by
        have := hTk (m + 1 - f6).toNat
        rw [hTs m hm0 (by omega), List.length_append] at this
        omega
      have hcall := hex2 pL.length [m + o1] (by simp; omega) (by simp) (by simp; omega) (by have := hEl; rw [hE1] at this; simp only at this; omega)
      rw [show encInts [m + o1] = [.int .i64 (A.iAdd m o1)] by rw [hmo]; rfl, show ((([m + o1] : List Int).length : Nat) : Int) - 1 = 0 by simp, show extT ⟨f6 + o1, f7 - 1 + o1⟩ pL [m + o1] = E1 m by rw [hE1]] at hcall
      obtain ⟨el, hel⟩ : ∃ el, el = encIntLs (E1 m) := ⟨_, rfl⟩
      have hell : el.length = (E1 m).length := by rw [hel]; simp [encIntLs]
      rw [← hel] at hcall
      obtain ⟨pre, hpre⟩ : ∃ pre, pre = ((rangeL f6 (f7 - 1)).take (m - f6).toNat).flatMap E1 := ⟨_, rfl⟩
      have hprl : pre.length ≤ 4096 := by rw [hpre]; exact hTk _
      rw [← hpre] at hX
      conv => cbv
      refine ⟨inR' hA hmo (by unfold inI64; omega), ?_⟩
      refine call_intro hA hcall ?_
      conv => cbv
      refine loop_set hA (fun (z : Int × List PV) s => { (s.put (some 15) (.val (.int .i64 z.1))).put (some 12) (.own 0 2 z.2) with tk := [(A.nLen z.2, 47)] })
        (fun z => 0 ≤ z.1 ∧ z.1 ≤ (E1 m).length ∧ z.2 = G (pre ++ (E1 m).take z.1.toNat)) (fun z => ((E1 m).length - z.1).toNat) (0, X) ?_ ?_ ?_
      · conv => cbv
        exact wk_sl (by repeat (first | refine leL_same ?_ | refine leL_any ?_ | refine leL_own ?_ | refine leL_lit ?_ | exact leL_nil))
      · exact ⟨Int.le_refl _, by simp only; omega, by simpa using hX⟩
      rintro R2 ⟨i, Y1⟩ ⟨hi0, hi1, hY1⟩ hR2
      simp only at hi0 hi1 hY1
      conv => cbv
      split
      · rename_i hc
        have hi : i < (E1 m).length := ltT' hA rfl (lenI hA hell) hc
        have his : A.iAdd i 1 = i + 1 := addI hA _ _
        have hir : A.inR (A.iAdd i 1) := inR' hA his (by unfold inI64; omega)
        have hYl : Y1.length ≤ 9000 := by rw [hY1, hGl, List.length_append, List.length_take]; omega
        have htk : A.tkEq (A.nLen Y1) (A.nLen Y1) := by subst hA; rfl
        conv => cbv
        refine ⟨draw_intro hA (by kernel_rfl), ?_⟩
        refine idx_Int hA hfl h6.1 h6.2 (fun z hz => ?_)
        obtain rfl := Option.some.inj (h7.symm.trans hz)
        conv => cbv
        refine idx_IntL hA hel hi0 hi (fun ts v hts hv => ?_)
        have hnext : A.lApp Y1 [.agg [.int .i64 pw, .list 1 v]] = G (pre ++ (E1 m).take (i + 1).toNat) := by
          rw [take_snoc' hi0 hts, ← List.append_assoc, hGs, hY1, hv]
          subst hA
          rfl
        have hroom : A.room (A.nLen (A.lApp Y1 [.agg [.int .i64 pw, .list 1 v]])) 32 := by
          subst hA
          show (Y1 ++ [_]).length * (32 + 1) ≤ 140737488355328
          rw [List.length_append, List.length_singleton]; omega
        conv => cbv
        refine ⟨⟨htk, hroom⟩, hir, hR2 (A.iAdd i 1, A.lApp Y1 [.agg [.int .i64 pw, .list 1 v]]) _ ?_ ?_ ?_⟩
        · conv => cbv
          exact wk_sl (by repeat (first | refine leL_same ?_ | refine leL_any ?_ | refine leL_own ?_ | refine leL_lit ?_ | exact leL_nil))
        · show 0 ≤ A.iAdd i 1 ∧ A.iAdd i 1 ≤ (E1 m).length ∧ _ = G (pre ++ (E1 m).take (A.iAdd i 1).toNat)
          rw [his]; exact ⟨by omega, by omega, hnext⟩
        · show (((E1 m).length : Int) - A.iAdd i 1).toNat < (((E1 m).length : Int) - i).toNat
          rw [his]; omega
      · rename_i hc
        have hi : (E1 m).length ≤ i := ltF' hA rfl (lenI hA hell) hc
        rw [List.take_of_length_le (by omega)] at hY1
        conv => cbv
        refine ⟨hmr, hR (A.iAdd m 1, Y1) _ ?_ ?_ ?_⟩
        · conv => cbv
          exact wk_sl (by repeat (first | refine leL_same ?_ | refine leL_any ?_ | refine leL_own ?_ | refine leL_lit ?_ | exact leL_nil))
        · show f6 ≤ A.iAdd m 1 ∧ A.iAdd m 1 ≤ f7 ∧ Y1 = G (((rangeL f6 (f7 - 1)).take (A.iAdd m 1 - f6).toNat).flatMap E1)
          rw [hms, hTs m hm0 (by omega), ← hpre]
          exact ⟨by omega, by omega, hY1⟩
        · show (f7 - A.iAdd m 1).toNat < (f7 - m).toNat
          rw [hms]; omega
    · rename_i hc
      have hm : m = f7 := by have := ltF hA hc; omega
      rw [hm, List.take_of_length_le (by rw [rangeL_len]; omega), ← hT] at hX
      conv => cbv
      rw [← hq', hX]
  · have hall : allP t f o = [] := by rw [allP, if_neg h0]
    rw [hall]
    generalize countN t f o = cn at hcnt
    generalize countE t f o = ce at hcnt h0
    clear hpl hall
    refine CallsPV.le (p := .tup [.list 0 [], .int .i64 ce]) (args' := [encTables t, encFlight f, encOpt o]) ?_ (.cons (.refl _) (.cons (.refl _) (.cons (.refl _) .nil))) (.tup _ _ rfl fun i x y hx hy => ?_)
    · refine callsPV_by (clo := fun _ => false) (rows := false) env_ok Tryz.func22 rfl (enters_of Tryz.func22 (by kernel_rfl) rfl) (fun A q P Y hr hA hq => ?_)
      obtain ⟨ss, hss⟩ : ∃ ss, ss = encSectors t.Sectors := ⟨_, rfl⟩
      obtain ⟨cs, hcs⟩ : ∃ cs, cs = encConfigs t.Configs := ⟨_, rfl⟩
      obtain ⟨ws, hws⟩ : ∃ ws, ws = encWays t.Ways := ⟨_, rfl⟩
      obtain ⟨ms, hms⟩ : ∃ ms, ms = encIntLs t.Modes := ⟨_, rfl⟩
      obtain ⟨ks, hks⟩ : ∃ ks, ks = encKinds t.Kinds := ⟨_, rfl⟩
      obtain ⟨nv, hnv⟩ : ∃ nv, nv = t.Volumes := ⟨_, rfl⟩
      have htab : encTables t = .agg [.int .i64 nv, .list 5 ss, .list 3 cs, .list 3 ws, .list 1 ms, .list 6 ks] := by rw [encTables_eq t hss hcs hws hms hks, hnv]
      rw [htab] at hcnt ⊢
      obtain ⟨f1, f2, f3, f4, f5, ⟨f6, f7⟩, f8⟩ := f
      obtain ⟨fl, hfl⟩ : ∃ fl, fl = encInts f5 := ⟨_, rfl⟩
      rw [encFlight_eq _ hfl] at hcnt ⊢
      obtain ⟨o1, o2, o3, o4⟩ := o
      simp only at hcnt ⊢
      conv => cbv
      refine call_intro hA (hcnt) ?_
      conv => cbv
      split
      rotate_left
      · rename_i hc
        cases ((h0 (neF hA hc)))
      conv => cbv
      exact hq
    · match i, hx, hy with
      | 0, hx, hy => simp at hx hy; subst hx hy; exact .nil _ _
      | 1, hx, hy => simp at hx hy; subst hx hy; exact .refl _
      | i + 2, hx, hy => simp at hx
end Go.Abs
