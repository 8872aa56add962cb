/-
  References: occupancy's.
-/
import Derived.Test.YtjiimmaikohliaaGreatR7
import Derived.Test.YtjiimmaikohliaaGreatF10
set_option linter.unusedVariables false
set_option linter.unusedSimpArgs false
namespace Go.Abs
open Go.RowKit Go.Proofs

set_option maxHeartbeats 1000000 in
theorem ref17_Valid (t : Tables) (hair : airOk t = true) (p : Path) : CallsPV Tryz.prog 113 [encTables t, encPath p] (.bool (pathOk t.Ways p)) := by
  refine callsPV_by (clo := fun _ => false) (rows := false) env_ok Tryz.func113 rfl (enters_of Tryz.func113 (by kernel_rfl) rfl) (fun A q P Y hr hA hq => ?_)
  have hlenT : p.Times.length ≤ 9223372036854775807 := by
    have h1 := Real.cell (show Real [.agg _] from hr.mem (p := encPath p) (by simp)) (c := .list 1 (encInts p.Times)) (by simp)
    simpa [encInts] using h1.len
  obtain ⟨ss, hss⟩ : ∃ ss, ss = encSectors t.Sectors := ⟨_, rfl⟩
  obtain ⟨cs, hcs⟩ : ∃ cs, cs = encConfigs t.Configs := ⟨_, rfl⟩
  obtain ⟨ws, hws⟩ : ∃ ws, ws = encWays t.Ways := ⟨_, rfl⟩
  obtain ⟨ms, hms⟩ : ∃ ms, ms = encIntLs t.Modes := ⟨_, rfl⟩
  obtain ⟨ks, hks⟩ : ∃ ks, ks = encKinds t.Kinds := ⟨_, rfl⟩
  obtain ⟨nv, hnv⟩ : ∃ nv, nv = t.Volumes := ⟨_, rfl⟩
  have htab : encTables t = .agg [.int .i64 nv, .list 5 ss, .list 3 cs, .list 3 ws, .list 1 ms, .list 6 ks] := by rw [encTables_eq t hss hcs hws hms hks, hnv]
  obtain ⟨ts, hts⟩ : ∃ ts, ts = encInts p.Times := ⟨_, rfl⟩
  have hwl : ws.length = t.Ways.length := by rw [hws]; simp [encWays]
  have htl : ts.length = p.Times.length := by rw [hts]; simp [encInts]
  have bad : ¬ pathOk t.Ways p = true → PV.bool false = q := fun h => by rw [← hq, Bool.eq_false_iff.2 h]
  rw [htab, encPath_eq p hts]
  obtain ⟨way, T⟩ := p
  simp only at bad hts htl hlenT hq ⊢
  conv => cbv
  refine ⟨draw_intro hA (by kernel_rfl), ?_⟩
  split
  · rename_i hc
    conv => cbv
    exact bad (fun h => by have h1 := ltT hA hc; unfold pathOk at h; simp only at h; rw [if_neg (by omega)] at h; cases h)
  rename_i c1; replace c1 := ltF hA c1
  conv => cbv
  split
  · rename_i hc
    conv => cbv
    exact bad (fun h => by have h1 := leT' hA (lenI hA hwl) rfl hc; unfold pathOk at h; simp only at h; rw [if_pos c1, List.getElem?_eq_none (by omega)] at h; cases h)
  rename_i c2; replace c2 := leF' hA (lenI hA hwl) rfl c2
  conv => cbv
  refine idx_Way hA hws c1 c2 (fun w v hw hv => ?_)
  have hvl : v.length = w.Legs.length := by rw [hv]; simp [encLegs]
  have hP : pathOk t.Ways ⟨way, T⟩ = (decide (T.length = w.Legs.length + 1) && timesFrom (-1) T) := by
    unfold pathOk; simp only; rw [if_pos c1, hw]
  have hw8 := air_legs hair (List.mem_of_getElem? hw)
  obtain ⟨w1, w2, w3⟩ := w
  simp only at hvl hP hw8
  have hadd : A.iAdd (A.lLen v) 1 = (w3.length : Int) + 1 := by rw [addI hA, lenI hA hvl]
  conv => cbv
  refine ⟨inR' hA hadd (by unfold inI64; omega), ?_⟩
  split
  · rename_i hc
    conv => cbv
    exact bad (fun h => by have h1 := neT' hA (lenI hA htl) hadd hc; rw [hP, Bool.and_eq_true, decide_eq_true_eq] at h; omega)
  rename_i c3; replace c3 := neF' hA (lenI hA htl) hadd c3
  rw [show (decide (T.length = w3.length + 1) && timesFrom (-1) T) = timesFrom (-1) T by simp; omega] at hP
  rw [hP] at hq bad
  conv => cbv
  refine loop_set hA (fun (i : Int) s => s.put (some 5) (.val (.int .i64 i))) (fun i => 0 ≤ i ∧ i ≤ (T.length : Int) ∧ (fun i => timesFrom (-1) T = timesFrom (prevT T i) (T.drop i.toNat)) i) (fun i => ((T.length : Int) - i).toNat) 0 ?_ ?_ ?_
  · conv => cbv
    exact wk_sl (by repeat (first | refine leL_same ?_ | refine leL_any ?_ | exact leL_nil))
  · exact ⟨Int.le_refl _, by omega, by simp [prevT]⟩
  rintro R i ⟨hi0, hi1, hi2⟩ hRi
  conv => cbv
  split
  ·   rename_i hc
      have hi : i < (T.length : Int) := ltT' hA rfl (lenI hA htl) hc
      have his : A.iAdd i 1 = i + 1 := addI hA _ _
      have hir : A.inR (A.iAdd i 1) := inR' hA his (by unfold inI64; omega)
      have him : ((T.length : Int) - A.iAdd i 1).toNat < ((T.length : Int) - i).toNat := by rw [his]; omega
      have hin : (fun i => timesFrom (-1) T = timesFrom (prevT T i) (T.drop i.toNat)) (i + 1) → 0 ≤ A.iAdd i 1 ∧ A.iAdd i 1 ≤ (T.length : Int) ∧ (fun i => timesFrom (-1) T = timesFrom (prevT T i) (T.drop i.toNat)) (A.iAdd i 1) := fun h => by rw [his]; exact ⟨by omega, by omega, h⟩
      simp only at hin
      conv => cbv
      have hn : i.toNat < T.length := by omega
      rw [timesFrom_drop T i.toNat hn] at hi2
      refine ⟨draw_intro hA (by kernel_rfl), ?_⟩
      refine idx_Int hA hts hi0 hi (fun x hx => ?_)
      have hxv : T[i.toNat] = x := (List.getElem?_eq_some_iff.1 hx).2
      rw [hxv] at hi2
      have step : 0 ≤ x → x ≤ 65535 → prevT T i < x → timesFrom (-1) T = timesFrom (prevT T (i + 1)) (T.drop (i + 1).toNat) := by
        intro a1 a2 a3
        rw [hi2, show (i + 1).toNat = i.toNat + 1 by omega]
        simp only [a1, a2, a3, decide_true, Bool.true_and]
        congr 1
        unfold prevT
        rw [if_neg (by omega), show (i + 1 - 1) = i by omega, List.getD_eq_getElem?_getD, hx]; rfl
      conv => cbv
      split
      · rename_i hc
        conv => cbv
        exact bad (fun h => by have h1 := ltT hA hc; rw [hi2] at h; simp only [Bool.and_eq_true, decide_eq_true_eq] at h; omega)
      rename_i d1; replace d1 := ltF hA d1
      conv => cbv
      refine idx_Int hA hts hi0 hi (fun z hz => ?_)
      obtain rfl := Option.some.inj ((hx).symm.trans hz)
      conv => cbv
      split
      · rename_i hc
        conv => cbv
        exact bad (fun h => by have h1 := ltT hA hc; rw [hi2] at h; simp only [Bool.and_eq_true, decide_eq_true_eq] at h; omega)
      rename_i d2; replace d2 := ltF hA d2
      conv => cbv
      split
      · rename_i hc
        have d3 := ltT hA hc
        have hsub : A.iSub i 1 = i - 1 := subI hA _ _
        conv => cbv
        refine ⟨inR' hA hsub (by unfold inI64; omega), ?_⟩
        refine idx_Int hA hts (n := A.iSub i 1) (by rw [hsub]; omega) (by rw [hsub]; omega) (fun y hy => ?_)
        rw [hsub] at hy
        have hpy : prevT T i = y := by unfold prevT; rw [if_neg (by omega), List.getD_eq_getElem?_getD, hy]; rfl
        conv => cbv
        refine idx_Int hA hts hi0 hi (fun z hz => ?_)
        obtain rfl := Option.some.inj ((hx).symm.trans hz)
        conv => cbv
        split
        · rename_i hc
          conv => cbv
          exact bad (fun h => by have h1 := leT hA hc; rw [hi2, hpy] at h; simp only [Bool.and_eq_true, decide_eq_true_eq] at h; omega)
        rename_i d4; replace d4 := leF hA d4
        conv => cbv
        exact ⟨hir, hRi (A.iAdd i 1) _ (by (conv => cbv); exact wk_sl (by repeat (first | refine leL_same ?_ | refine leL_any ?_ | exact leL_nil))) (hin (step d1 d2 (by omega))) him⟩
      · rename_i hc
        have d3 := ltF hA hc
        have hp0 : prevT T i = -1 := by unfold prevT; rw [if_pos (by omega)]
        conv => cbv
        exact ⟨hir, hRi (A.iAdd i 1) _ (by (conv => cbv); exact wk_sl (by repeat (first | refine leL_same ?_ | refine leL_any ?_ | exact leL_nil))) (hin (step d1 d2 (by omega))) him⟩
  rename_i hc
  have hi : i = (T.length : Int) := by have := ltF' hA rfl (lenI hA htl) hc; omega
  conv => cbv
  rw [← hq, hi2, List.drop_eq_nil_of_le (by omega)]
  rfl

theorem legStays_get : ∀ (ls : List Leg) (T : List Int) (k : Nat) {lg : Leg} {u v : Int}, ls[k]? = some lg → T[k]? = some u → T[k + 1]? = some v → (legStays ls T)[k]? = some ⟨false, lg.Volume, ⟨u, v⟩⟩
  | [], _, _, _, _, _, h, _, _ => by simp at h
  | _ :: _, [], _, _, _, _, _, h, _ => by simp at h
  | _ :: _, [_], k, _, _, _, _, _, h => by simp at h
  | y :: r, a :: b :: T, 0, lg, u, v, h1, h2, h3 => by
    simp at h1 h2 h3
    subst h1 h2 h3
    rfl
  | y :: r, a :: b :: T, k + 1, lg, u, v, h1, h2, h3 => by
    simp only [legStays, List.getElem?_cons_succ] at h1 h2 h3 ⊢
    exact legStays_get r (b :: T) k h1 h2 h3

set_option maxHeartbeats 1000000 in
theorem ref17_stays (t : Tables) (p : Path) (w : Way) (h0 : 0 ≤ p.Way) (hw : t.Ways[p.Way.toNat]? = some w) (hl : p.Times.length = w.Legs.length + 1) (h8 : w.Legs.length ≤ 8) (hb : ∀ m ∈ p.Times, inI64 (m + 1)) :
    CallsPV Tryz.prog 114 [encTables t, encPath p] (.list 4 (encStays (staysOf w p.Times))) := by
  refine callsPV_by (clo := fun _ => false) (rows := false) env_ok Tryz.func114 rfl (enters_of Tryz.func114 (by kernel_rfl) rfl) (fun A q P Y hr hA hq => ?_)
  have hlt := (List.getElem?_eq_some_iff.1 hw).1
  obtain ⟨ss, hss⟩ : ∃ ss, ss = encSectors t.Sectors := ⟨_, rfl⟩
  obtain ⟨cs, hcs⟩ : ∃ cs, cs = encConfigs t.Configs := ⟨_, rfl⟩
  obtain ⟨ws, hws⟩ : ∃ ws, ws = encWays t.Ways := ⟨_, rfl⟩
  obtain ⟨ms, hms⟩ : ∃ ms, ms = encIntLs t.Modes := ⟨_, rfl⟩
  obtain ⟨ks, hks⟩ : ∃ ks, ks = encKinds t.Kinds := ⟨_, rfl⟩
  obtain ⟨nv, hnv⟩ : ∃ nv, nv = t.Volumes := ⟨_, rfl⟩
  have htab : encTables t = .agg [.int .i64 nv, .list 5 ss, .list 3 cs, .list 3 ws, .list 1 ms, .list 6 ks] := by rw [encTables_eq t hss hcs hws hms hks, hnv]
  obtain ⟨ts, hts⟩ : ∃ ts, ts = encInts p.Times := ⟨_, rfl⟩
  have htl : ts.length = p.Times.length := by rw [hts]; simp [encInts]
  rw [htab, encPath_eq p hts]
  obtain ⟨way, T⟩ := p
  simp only at h0 hw hl h8 hb hts hlt hq htl ⊢
  conv => cbv
  refine idx_Way hA hws h0 (by omega) (fun w' v hw' hv => ?_)
  obtain rfl := Option.some.inj (hw'.symm.trans hw)
  have hvl : v.length = w'.Legs.length := by rw [hv]; simp [encLegs]
  obtain ⟨w1, w2, ls⟩ := w'
  simp only at hl h8 hv hvl hq ⊢
  conv => cbv
  refine ⟨draw_intro hA (by kernel_rfl), ?_⟩
  refine idx_Int hA hts (n := 0) (by omega) (by omega) (fun a ha => ?_)
  conv => cbv
  refine idx_Int hA hts (n := 0) (by omega) (by omega) (fun z hz => ?_)
  obtain rfl := Option.some.inj (hz.symm.trans ha)
  have haT : z ∈ T := List.mem_of_getElem? ha
  have hz1 : A.iAdd z 1 = z + 1 := addI hA _ _
  conv => cbv
  refine ⟨inR' hA hz1 (hb z haT), ?_⟩
  have hsl : (legStays ls T).length = ls.length := (legStays_len ls T).trans (legRows_len ls T hl)
  obtain ⟨a1, ha1⟩ : ∃ a1, a1 = A.iAdd z 1 := ⟨_, rfl⟩
  refine loop_set hA (fun (y : Int × List PV) s => { (s.put (some 8) (.val (.int .i64 y.1))).put (some 7) (.own 0 4 y.2) with tk := [(A.nLen y.2, 150)] })
    (fun y => 0 ≤ y.1 ∧ y.1 ≤ ls.length ∧ y.2 = encStays (⟨true, w1, ⟨z, z + 1⟩⟩ :: (legStays ls T).take y.1.toNat)) (fun y => (ls.length - y.1).toNat) (0, [.agg [.bool true, .int .i64 w1, .int .i64 z, .int .i64 (A.iAdd z 1)]]) ?_ ?_ ?_
  · conv => cbv
    exact wk_own 7 4 4 _ _ rfl (.inl rfl) (by repeat (first | refine leL_same ?_ | refine leL_any ?_ | exact leL_nil)) (by subst hA; rfl)
  · refine ⟨Int.le_refl _, by omega, ?_⟩
    show [PV.agg [.bool true, .int .i64 w1, .int .i64 z, .int .i64 (A.iAdd z 1)]] = _
    rw [hz1]; rfl
  rintro R ⟨i, L⟩ ⟨hi0, hi1, hL⟩ hR
  simp only at hi0 hi1 hL
  have hLl : L.length ≤ 9 := by rw [hL]; simp [encStays]; omega
  have htk : A.tkEq (A.nLen L) (A.nLen L) := by subst hA; rfl
  conv => cbv
  split
  · rename_i hc
    have hi : i < ls.length := ltT' hA rfl (lenI hA hvl) hc
    have his : A.iAdd i 1 = i + 1 := addI hA _ _
    have hir : A.inR (A.iAdd i 1) := inR' hA his (by unfold inI64; omega)
    conv => cbv
    refine ⟨draw_intro hA (by kernel_rfl), ?_⟩
    refine idx_Leg hA hv hi0 hi (fun lg u hlg hu => ?_)
    obtain ⟨l1, l2, l3, l4⟩ := lg
    conv => cbv
    refine idx_Int hA hts hi0 (by omega) (fun x hx => ?_)
    conv => cbv
    refine ⟨hir, ?_⟩
    refine idx_Int hA hts (n := A.iAdd i 1) (by rw [his]; omega) (by rw [his]; omega) (fun y hy => ?_)
    rw [his] at hy
    have hst := legStays_get ls T i.toNat hlg hx (by rw [show i.toNat + 1 = (i + 1).toNat by omega]; exact hy)
    have hnext : A.lApp L [.agg [.bool false, .int .i64 l2, .int .i64 x, .int .i64 y]] = encStays (⟨true, w1, ⟨z, z + 1⟩⟩ :: (legStays ls T).take (i + 1).toNat) := by
      subst hA hL
      rw [show (i + 1).toNat = i.toNat + 1 by omega, List.take_add_one, hst]
      show encStays _ ++ _ = _
      simp [encStays, encStay]
    have hroom : A.room (A.nLen (A.lApp L [.agg [.bool false, .int .i64 l2, .int .i64 x, .int .i64 y]])) 32 := by
      subst hA
      show (L ++ [_]).length * (32 + 1) ≤ 140737488355328
      rw [List.length_append, List.length_singleton]; omega
    conv => cbv
    refine ⟨⟨htk, hroom⟩, hir, hR (A.iAdd i 1, A.lApp L [.agg [.bool false, .int .i64 l2, .int .i64 x, .int .i64 y]]) _ ?_ ?_ ?_⟩
    · conv => cbv
      exact wk_sl (by repeat (first | refine leL_same ?_ | refine leL_any ?_ | exact leL_nil))
    · rw [his]; exact ⟨by omega, by omega, hnext⟩
    · show ((ls.length : Int) - A.iAdd i 1).toNat < ((ls.length : Int) - i).toNat
      rw [his]; omega
  · rename_i hc
    have hi : ls.length ≤ i := ltF' hA rfl (lenI hA hvl) hc
    rw [List.take_of_length_le (by omega)] at hL
    conv => cbv
    refine ⟨draw_intro hA (by kernel_rfl), ?_⟩
    have hN : A.lLen v = (ls.length : Int) := lenI hA hvl
    refine idx_Int hA hts (n := A.lLen v) (by omega) (by omega) (fun y hy => ?_)
    have hyT := List.mem_of_getElem? hy
    have hy1 : A.iAdd y 1 = y + 1 := addI hA _ _
    conv => cbv
    refine idx_Int hA hts (n := A.lLen v) (by omega) (by omega) (fun y' hy' => ?_)
    obtain rfl := Option.some.inj (hy'.symm.trans hy)
    have hroom : A.room (A.nLen (A.lApp L [.agg [.bool true, .int .i64 w2, .int .i64 y', .int .i64 (A.iAdd y' 1)]])) 32 := by
      subst hA
      show (L ++ [_]).length * (32 + 1) ≤ 140737488355328
      rw [List.length_append, List.length_singleton]; omega
    have hres : A.lApp L [.agg [.bool true, .int .i64 w2, .int .i64 y', .int .i64 (A.iAdd y' 1)]] = encStays (staysOf ⟨w1, w2, ls⟩ T) := by
      have hh : T.headD 0 = z := by
        rw [Int.toNat_zero] at ha
        cases T with
        | nil => simp at ha
        | cons x r => simp at ha; exact ha
      have hg : T.getLastD 0 = y' := by
        rw [hN, Int.toNat_natCast] at hy
        rw [List.getLastD_eq_getLast?, List.getLast?_eq_getElem?, show T.length - 1 = ls.length by omega, hy]; rfl
      unfold staysOf
      rw [hh, hg, hy1]
      subst hA hL
      show encStays _ ++ _ = _
      simp [encStays, encStay]
    conv => cbv
    refine ⟨inR' hA hy1 (hb y' hyT), ⟨htk, hroom⟩, ?_⟩
    rw [← hq, ← hres]

theorem ref17_Stays (t : Tables) (p : Path) : CallsPV Tryz.prog 81 [encTables t, encPath p] (.tup [stRes1 t p, .int .i64 (stErr1 t p)]) := by
  refine callsPV_by (clo := fun _ => false) (rows := false) env_ok Tryz.func81 rfl (enters_of Tryz.func81 (by kernel_rfl) rfl) (fun A q P Y hr hA hq => ?_)
  have h1 := ref14_Check t
  have h2 : airOk t = true → CallsPV Tryz.prog 113 [encTables t, encPath p] (.bool (pathOk t.Ways p)) := fun h => ref17_Valid t h p
  have h3 : airOk t = true → pathOk t.Ways p = true → CallsPV Tryz.prog 114 [encTables t, encPath p] (.list 4 (encStays (staysP t p))) := fun ha h => by
    obtain ⟨w, a1, a2, a3, a4, a5⟩ := pathOk_way h
    rw [a5]
    exact ref17_stays t p w a1 a2 a3 (air_legs ha (List.mem_of_getElem? a2)).1 (fun m hm => by have := a4 m hm; unfold inI64; omega)
  have e0 : stErr1 t p = if airOk t then (if pathOk t.Ways p then 0 else 160) else 140 := rfl
  have e1 : stRes1 t p = if stErr1 t p = 0 then .list 4 (encStays (staysP t p)) else .list 0 [] := rfl
  rw [e1, e0] at hq
  generalize encStays (staysP t p) = L at h3 hq
  generalize airOk t = b1 at h1 h2 h3 hq
  generalize pathOk t.Ways p = b2 at h2 h3 hq
  obtain ⟨ss, hss⟩ : ∃ ss, ss = encSectors t.Sectors := ⟨_, rfl⟩
  obtain ⟨cs, hcs⟩ : ∃ cs, cs = encConfigs t.Configs := ⟨_, rfl⟩
  obtain ⟨ws, hws⟩ : ∃ ws, ws = encWays t.Ways := ⟨_, rfl⟩
  obtain ⟨ms, hms⟩ : ∃ ms, ms = encIntLs t.Modes := ⟨_, rfl⟩
  obtain ⟨ks, hks⟩ : ∃ ks, ks = encKinds t.Kinds := ⟨_, rfl⟩
  obtain ⟨nv, hnv⟩ : ∃ nv, nv = t.Volumes := ⟨_, rfl⟩
  have htab : encTables t = .agg [.int .i64 nv, .list 5 ss, .list 3 cs, .list 3 ws, .list 1 ms, .list 6 ks] := by rw [encTables_eq t hss hcs hws hms hks, hnv]
  obtain ⟨ts, hts⟩ : ∃ ts, ts = encInts p.Times := ⟨_, rfl⟩
  rw [htab] at h1 h2 h3 ⊢
  rw [encPath_eq p hts] at h2 h3 ⊢
  obtain ⟨way, hway⟩ : ∃ way, way = p.Way := ⟨_, rfl⟩
  rw [← hway] at h2 h3 ⊢
  conv => cbv
  cases b1 with
  | false =>
    refine call_intro hA h1 ?_
    conv => cbv
    split
    rotate_left
    · rename_i hc
      cases ((show False by have := neF hA hc; omega))
    conv => cbv
    rw [← hq]; rfl
  | true =>
    refine call_intro hA h1 ?_
    conv => cbv
    split
    · rename_i hc
      cases (neT hA hc rfl)
    conv => cbv
    cases b2 with
    | false =>
      refine call_intro hA (h2 rfl) ?_
      conv => cbv
      split
      rotate_left
      · rename_i hc
        cases (nF hA hc)
      conv => cbv
      rw [← hq]; rfl
    | true =>
      refine call_intro hA (h2 rfl) ?_
      conv => cbv
      split
      · rename_i hc
        cases (nT hA hc)
      conv => cbv
      refine call_intro hA (h3 rfl rfl) ?_
      conv => cbv
      rw [← hq]; rfl
end Go.Abs
