/-
  References: sight's Sees and Wrong.
-/
import Derived.Test.YthofonhkpilifaaR10
import Derived.Test.YthofonhkpilifaaM4
namespace Go.Abs
open Go.RowKit Go.Proofs

theorem ref23_Sees (t : Tables) (r : Report) (shift : Int) (l : List Path) (hl : l.length ≤ 1000) {xs : List PV} (hx : xs = encPaths l) : CallsPV Try.prog 12 [encTables t, encReport r, .int .i64 shift, .list 2 xs] (.tup [.bool (seesB t r shift l), .int .i64 (seesErr t r shift l)]) := by
  refine callsPV_by (clo := fun _ => false) (rows := false) env_ok Try.func12 rfl (enters_of Try.func12 (by kernel_rfl) rfl) (fun A q P Y hr hA hq => ?_)
  have hcall := ref23_stays t l hl hx
  have hright : isShiftB shift = true → isMinuteB r.Minute = true → ∀ L, L = encStays (stL t l) → CallsPV Try.prog 28 [encReport r, .int .i64 shift, .list 4 L] (.bool (rightB r shift (stL t l))) := fun h1 h2 L hL => by
    simp only [isShiftB, isMinuteB, inB, Bool.and_eq_true, decide_eq_true_eq] at h1 h2
    exact ref23_right r shift (by unfold inI64; omega) _ hL
  obtain ⟨L, hL⟩ : ∃ L, L = encStays (stL t l) := ⟨_, rfl⟩
  have hright := fun a b => hright a b L hL
  have hs : seesErr t r shift l = if isShiftB shift && isMinuteB r.Minute then stErr t l else 230 := rfl
  have hb : seesB t r shift l = if seesErr t r shift l = 0 then rightB r shift (stL t l) else false := rfl
  rw [hb, hs] at hq
  unfold stRes at hcall
  rw [← hL] at hcall
  generalize stErr t l = e at hcall hq
  generalize rightB r shift (stL t l) = rb at hright hq
  obtain ⟨ss, hss⟩ : ∃ ss, ss = encSectors t.Sectors := ⟨_, rfl⟩
  obtain ⟨cs, hcs⟩ : ∃ cs, cs = encConfigs t.Configs := ⟨_, rfl⟩
  obtain ⟨ws, hws⟩ : ∃ ws, ws = encWays t.Ways := ⟨_, rfl⟩
  obtain ⟨ms, hms⟩ : ∃ ms, ms = encIntLs t.Modes := ⟨_, rfl⟩
  obtain ⟨ks, hks⟩ : ∃ ks, ks = encKinds t.Kinds := ⟨_, rfl⟩
  obtain ⟨nv, hnv⟩ : ∃ nv, nv = t.Volumes := ⟨_, rfl⟩
  have htab : encTables t = .agg [.int .i64 nv, .list 5 ss, .list 3 cs, .list 3 ws, .list 1 ms, .list 6 ks] := by rw [encTables_eq t hss hcs hws hms hks, hnv]
  rw [htab] at hcall ⊢
  obtain ⟨r1, r2, r3, r4, r5, r6⟩ := r
  simp only at hq hright
  conv => cbv
  refine callB hA (ref23_isShift shift) rfl (fun b1 hb1 => ?_)
  rw [← hb1] at hq hright
  conv => cbv
  cases b1 with
  | false =>
    split
    rotate_left
    · rename_i hc
      cases (nF hA hc)
    conv => cbv
    rw [← hq]; rfl
  | true =>
  split
  · rename_i hc
    cases (nT hA hc)
  conv => cbv
  refine callB hA (ref23_isMinute r3) rfl (fun b2 hb2 => ?_)
  rw [← hb2] at hq hright
  conv => cbv
  cases b2 with
  | false =>
    split
    rotate_left
    · rename_i hc
      cases (nF hA hc)
    conv => cbv
    rw [← hq]; rfl
  | true =>
  split
  · rename_i hc
    cases (nT hA hc)
  conv => cbv
  by_cases h0 : e = 0
  · rw [if_pos h0, h0] at hcall
    refine call_intro hA (hcall) ?_
    conv => cbv
    split
    · rename_i hc
      cases (neT hA hc rfl)
    conv => cbv
    refine call_intro hA (hright rfl rfl) ?_
    conv => cbv
    rw [← hq, h0]; rfl
  · rw [if_neg h0] at hcall
    refine call_intro hA (hcall) ?_
    conv => cbv
    split
    rotate_left
    · rename_i hc
      cases (h0 (neF hA hc))
    conv => cbv
    rw [← hq, show (if (true && true) = true then e else 230) = e from rfl, if_neg h0]

theorem repBad_iff (many : Int) (r : Report) : repBad many r = false ↔ 0 ≤ r.Station ∧ r.Station < many ∧ isMinuteB r.Minute = true := by
  unfold repBad inB
  cases isMinuteB r.Minute <;> simp <;> omega

set_option maxRecDepth 100000 in
set_option maxHeartbeats 4000000 in
theorem ref23_Wrong (t : Tables) (many : Int) (reports : List Report) (shifts : List Int) (l : List Path) (hl : l.length ≤ 1000) (hrl : reports.length ≤ 1000000) {xs ys zs : List PV} (hx : xs = encPaths l) (hy : ys = encReports reports) (hz : zs = encInts shifts) :
    CallsPV Try.prog 14 [encTables t, .int .i64 many, .list 6 ys, .list 1 zs, .list 2 xs] (.tup [wrongRes t many reports shifts l, .int .i64 (wrongErr t many reports shifts l)]) := by
  refine callsPV_by (clo := fun _ => false) (rows := true) env_ok Try.func14 rfl (enters_of Try.func14 (by kernel_rfl) rfl) (fun A q P Y hr hA hq => ?_)
  have hyl : ys.length = reports.length := by rw [hy]; simp [encReports]
  have hzl : zs.length = shifts.length := by rw [hz]; simp [encInts]
  have hcall := ref23_stays t l hl hx
  have hWin : wrongIn many reports shifts = true ↔ (0 ≤ many ∧ many ≤ 4) ∧ (shifts.length : Int) = many ∧ (∀ s ∈ shifts, isShiftB s = true) ∧ ∀ r ∈ reports, repBad many r = false := by
    unfold wrongIn inB
    simp only [Bool.and_eq_true, decide_eq_true_eq, List.all_eq_true, Bool.not_eq_true', List.any_eq_false, and_assoc, Bool.not_eq_true]
  have hE : wrongErr t many reports shifts l = if wrongIn many reports shifts then stErr t l else 230 := rfl
  have hRes : wrongRes t many reports shifts l = if wrongErr t many reports shifts l = 0 then .list 1 (encInts (wrongL t many reports shifts l)) else .list 0 [] := rfl
  have hbad : ¬ wrongIn many reports shifts = true → PV.tup [.list 0 [], .int .i64 230] = q := fun h => by rw [← hq, hRes, hE, if_neg h]; rfl
  obtain ⟨L, hL⟩ : ∃ L, L = encStays (stL t l) := ⟨_, rfl⟩
  unfold stRes at hcall
  rw [← hL] at hcall
  obtain ⟨e, he⟩ : ∃ e, e = stErr t l := ⟨_, rfl⟩
  rw [← he] at hcall hE
  obtain ⟨ss, hss⟩ : ∃ ss, ss = encSectors t.Sectors := ⟨_, rfl⟩
  obtain ⟨cs, hcs⟩ : ∃ cs, cs = encConfigs t.Configs := ⟨_, rfl⟩
  obtain ⟨ws, hws⟩ : ∃ ws, ws = encWays t.Ways := ⟨_, rfl⟩
  obtain ⟨ms, hms⟩ : ∃ ms, ms = encIntLs t.Modes := ⟨_, rfl⟩
  obtain ⟨ks, hks⟩ : ∃ ks, ks = encKinds t.Kinds := ⟨_, rfl⟩
  obtain ⟨nv, hnv⟩ : ∃ nv, nv = t.Volumes := ⟨_, rfl⟩
  have htab : encTables t = .agg [.int .i64 nv, .list 5 ss, .list 3 cs, .list 3 ws, .list 1 ms, .list 6 ks] := by rw [encTables_eq t hss hcs hws hms hks, hnv]
  rw [htab] at hcall ⊢
  conv => cbv
  split
  · rename_i hc
    conv => cbv
    refine ⟨_, Frz.refl _ _, ?_⟩
    conv => cbv
    exact hbad (fun h => by have := (hWin.1 h).1; have := ltT hA hc; omega)
  rename_i c1; replace c1 := ltF hA c1
  conv => cbv
  split
  · rename_i hc
    conv => cbv
    refine ⟨_, Frz.refl _ _, ?_⟩
    conv => cbv
    exact hbad (fun h => by have := (hWin.1 h).1; have := ltT hA hc; omega)
  rename_i c2; replace c2 := ltF hA c2
  conv => cbv
  split
  · rename_i hc
    conv => cbv
    refine ⟨_, Frz.refl _ _, ?_⟩
    conv => cbv
    exact hbad (fun h => by have := (hWin.1 h).2.1; have := neT' hA (lenI hA hzl) rfl hc; omega)
  rename_i c3; replace c3 := neF' hA (lenI hA hzl) rfl c3
  conv => cbv
  refine loop_set hA (fun (i : Int) s => s.put (some 12) (.val (.int .i64 i))) (fun i => 0 ≤ i ∧ i ≤ many ∧ (fun i => ∀ s ∈ shifts.take i.toNat, isShiftB s = true) i) (fun i => (many - i).toNat) 0 ?_ ?_ ?_
  · conv => cbv
    exact wk_sl (by repeat (first | refine leL_same ?_ | refine leL_any ?_ | exact leL_nil))
  · exact ⟨Int.le_refl _, by omega, by simp⟩
  rintro R i ⟨hi0, hi1, hi2⟩ hRi
  conv => cbv
  split
  ·   rename_i hc
      have hi : i < many := ltT' hA rfl rfl hc
      have his : A.iAdd i 1 = i + 1 := addI hA _ _
      have hir : A.inR (A.iAdd i 1) := inR' hA his (by unfold inI64; omega)
      have him : (many - A.iAdd i 1).toNat < (many - i).toNat := by rw [his]; omega
      have hin : (fun i => ∀ s ∈ shifts.take i.toNat, isShiftB s = true) (i + 1) → 0 ≤ A.iAdd i 1 ∧ A.iAdd i 1 ≤ many ∧ (fun i => ∀ s ∈ shifts.take i.toNat, isShiftB s = true) (A.iAdd i 1) := fun h => by rw [his]; exact ⟨by omega, by omega, h⟩
      simp only at hin
      conv => cbv
      refine idx_Int hA hz hi0 (by omega) (fun s hs0 => ?_)
      have ht := take_snoc' hi0 hs0
      conv => cbv
      refine callB hA (ref23_isShift s) rfl (fun b hb => ?_)
      conv => cbv
      cases b with
      | false =>
        split
        rotate_left
        · rename_i hc
          cases (nF hA hc)
        conv => cbv
        refine ⟨_, Frz.refl _ _, ?_⟩
        conv => cbv
        exact hbad (fun h => by have := (hWin.1 h).2.2.1 s (List.mem_of_getElem? hs0); rw [this] at hb; cases hb)
      | true =>
        split
        · rename_i hc
          cases (nT hA hc)
        conv => cbv
        exact ⟨hir, hRi (A.iAdd i 1) _ (by (conv => cbv); exact wk_sl (by repeat (first | refine leL_same ?_ | refine leL_any ?_ | exact leL_nil))) (hin (mem_snoc ht hi2 hb.symm)) him⟩
  rename_i hc
  have hi : i = many := by have := ltF' hA rfl rfl hc; omega
  conv => cbv
  rw [List.take_of_length_le (by omega)] at hi2
  refine loop_set hA (fun (i : Int) s => s.put (some 13) (.val (.int .i64 i))) (fun i => 0 ≤ i ∧ i ≤ (reports.length : Int) ∧ (fun i => ∀ r ∈ reports.take i.toNat, repBad many r = false) i) (fun i => ((reports.length : Int) - i).toNat) 0 ?_ ?_ ?_
  · conv => cbv
    exact wk_sl (by repeat (first | refine leL_same ?_ | refine leL_any ?_ | exact leL_nil))
  · exact ⟨Int.le_refl _, by omega, by simp⟩
  rintro R j ⟨hj0, hj1, hj2⟩ hRj
  conv => cbv
  split
  ·   rename_i hc
      have hj : j < (reports.length : Int) := ltT' hA rfl (lenI hA hyl) hc
      have hjs : A.iAdd j 1 = j + 1 := addI hA _ _
      have hjr : A.inR (A.iAdd j 1) := inR' hA hjs (by unfold inI64; omega)
      have hjm : ((reports.length : Int) - A.iAdd j 1).toNat < ((reports.length : Int) - j).toNat := by rw [hjs]; omega
      have hjn : (fun i => ∀ r ∈ reports.take i.toNat, repBad many r = false) (j + 1) → 0 ≤ A.iAdd j 1 ∧ A.iAdd j 1 ≤ (reports.length : Int) ∧ (fun i => ∀ r ∈ reports.take i.toNat, repBad many r = false) (A.iAdd j 1) := fun h => by rw [hjs]; exact ⟨by omega, by omega, h⟩
      simp only at hjn
      conv => cbv
      refine idx_Report hA hy hj0 hj (fun r hr0 => ?_)
      have ht := take_snoc' hj0 hr0
      have hm := List.mem_of_getElem? hr0
      have hB := repBad_iff many r
      have hbad2 : ¬ repBad many r = false → PV.tup [.list 0 [], .int .i64 230] = q := fun h => hbad (fun h' => h ((hWin.1 h').2.2.2 r hm))
      obtain ⟨r1, r2, r3, r4, r5, r6⟩ := r
      simp only at hB
      conv => cbv
      split
      · rename_i hc
        conv => cbv
        refine ⟨_, Frz.refl _ _, ?_⟩
        conv => cbv
        exact hbad2 (fun h => by have := (hB.1 h).1; have := ltT hA hc; omega)
      rename_i d1; replace d1 := ltF hA d1
      conv => cbv
      refine idx_Report hA hy hj0 hj (fun z hz => ?_)
      obtain rfl := Option.some.inj ((hr0).symm.trans hz)
      conv => cbv
      split
      · rename_i hc
        conv => cbv
        refine ⟨_, Frz.refl _ _, ?_⟩
        conv => cbv
        exact hbad2 (fun h => by have := (hB.1 h).2.1; have := leT hA hc; omega)
      rename_i d2; replace d2 := leF hA d2
      conv => cbv
      refine idx_Report hA hy hj0 hj (fun z hz => ?_)
      obtain rfl := Option.some.inj ((hr0).symm.trans hz)
      conv => cbv
      refine callB hA (ref23_isMinute r3) rfl (fun b hb => ?_)
      conv => cbv
      cases b with
      | false =>
        split
        rotate_left
        · rename_i hc
          cases (nF hA hc)
        conv => cbv
        refine ⟨_, Frz.refl _ _, ?_⟩
        conv => cbv
        exact hbad2 (fun h => by have := (hB.1 h).2.2; rw [this] at hb; cases hb)
      | true =>
        split
        · rename_i hc
          cases (nT hA hc)
        conv => cbv
        exact ⟨hjr, hRj (A.iAdd j 1) _ (by (conv => cbv); exact wk_sl (by repeat (first | refine leL_same ?_ | refine leL_any ?_ | exact leL_nil))) (hjn (mem_snoc ht hj2 (hB.2 ⟨d1, d2, hb.symm⟩))) hjm⟩
  rename_i hc
  have hj : j = (reports.length : Int) := by have := ltF' hA rfl (lenI hA hyl) hc; omega
  conv => cbv
  have hR2 := take_all hj hj2
  have hW : wrongIn many reports shifts = true := hWin.2 ⟨⟨c1, c2⟩, c3, hi2, hR2⟩
  rw [if_pos hW] at hE
  rw [hE] at hRes hq
  rw [hRes] at hq
  by_cases h0 : e = 0
  rotate_left
  · rw [if_neg h0] at hcall hq
    refine call_intro hA (hcall) ?_
    conv => cbv
    split
    rotate_left
    · rename_i hc
      cases (h0 (neF hA hc))
    conv => cbv
    refine ⟨_, Frz.refl _ _, ?_⟩
    conv => cbv
    exact hq
  rw [if_pos h0, h0] at hcall
  rw [if_pos h0, h0] at hq
  refine call_intro hA (hcall) ?_
  conv => cbv
  split
  · rename_i hc
    cases (neT hA hc rfl)
  conv => cbv
  have hst : ∀ r ∈ reports, 0 ≤ r.Station ∧ r.Station < many ∧ 0 ≤ r.Minute ∧ r.Minute ≤ 1439 := fun r hr => by
    have h := (repBad_iff many r).1 (hR2 r hr)
    have h3 := h.2.2
    simp only [isMinuteB, inB, Bool.and_eq_true, decide_eq_true_eq] at h3
    exact ⟨h.1, h.2.1, h3⟩
  have hshf : ∀ s ∈ shifts, -3 ≤ s ∧ s ≤ 3 := fun s hs => by
    have h := hi2 s hs
    simpa only [isShiftB, inB, Bool.and_eq_true, decide_eq_true_eq] using h
  refine ⟨by subst hA; exact ⟨c1, rfl, by omega, by omega⟩, ?_⟩
  refine loop_set hA (fun (z : Int × List SV) s => { s.put (some 17) (.val (.int .i64 z.1)) with bx := s.bx.set 1 (some z.2) })
    (fun z => 0 ≤ z.1 ∧ z.1 ≤ reports.length ∧ z.2 = (List.range many.toNat).map fun j => SV.val (.int .i64 (wrongN shifts (stL t l) (reports.take z.1.toNat) j))) (fun z => (reports.length - z.1).toNat) (0, A.rowZ many [.int .i64 0]) ?_ ?_ ?_
  · conv => cbv
    exact wk_sl (by repeat (first | refine leL_same ?_ | refine leL_any ?_ | exact leL_nil))
  · refine ⟨Int.le_refl _, by omega, ?_⟩
    show A.rowZ many [.int .i64 0] = _
    subst hA
    exact rowZ_list many _ (fun j => by simp [wrongN])
  rintro R ⟨i, C⟩ ⟨hi0, hi1, hC⟩ hR
  simp only at hi0 hi1 hC
  have hCl : C.length = many.toNat := by rw [hC]; simp
  have hCw : ∀ a b c, C.all (SV.within a b c) = true := by
    intro a b c
    rw [hC, List.all_eq_true]
    intro x hx
    obtain ⟨j, _, rfl⟩ := List.mem_map.1 hx
    rfl
  conv => cbv
  split
  · rename_i hc
    have hi : i < reports.length := ltT' hA rfl (lenI hA hyl) hc
    have his : A.iAdd i 1 = i + 1 := addI hA _ _
    have hir : A.inR (A.iAdd i 1) := inR' hA his (by unfold inI64; omega)
    have him : ((reports.length : Int) - A.iAdd i 1).toNat < ((reports.length : Int) - i).toNat := by rw [his]; omega
    conv => cbv
    refine idx_Report hA hy hi0 hi (fun r hr0 => ?_)
    have ht := take_snoc' hi0 hr0
    obtain ⟨q1, q2, q3, q4⟩ := hst r (List.mem_of_getElem? hr0)
    have hcr : ∀ x, -3 ≤ x → x ≤ 3 → CallsPV Try.prog 28 [encReport r, .int .i64 x, .list 4 L] (.bool (rightB r x (stL t l))) := fun x h1 h2 => ref23_right r x (by unfold inI64; omega) _ hL
    have hsn := wrongN_snoc shifts (stL t l) (reports.take i.toNat) r
    rw [← ht] at hsn
    have hdef : ∀ x, shifts[r.Station.toNat]? = some x → shifts.getD r.Station.toNat 0 = x := fun x hx => by rw [List.getD_eq_getElem?_getD, hx]; rfl
    have hset := fun (m : Nat) (f g : Nat → Int) (j0 : Nat) => set_count m (f := f) (g := g) (r := r) (j0 := j0)
    obtain ⟨r1, r2, r3, r4, r5, r6⟩ := r
    simp only at q1 q2 q3 q4 hcr hsn hdef hset
    conv => cbv
    refine ⟨draw_intro hA (by kernel_rfl), ?_⟩
    refine idx_Int hA hz q1 (by omega) (fun x hxs => ?_)
    obtain ⟨s1, s2⟩ := hshf x (List.mem_of_getElem? hxs)
    rw [hdef x hxs] at hsn
    conv => cbv
    refine callB hA (hcr x s1 s2) rfl (fun rb hrb => ?_)
    rw [← hrb] at hsn
    conv => cbv
    cases rb with
    | true =>
      split
      · rename_i hc
        cases (nT hA hc)
      conv => cbv
      refine ⟨hir, hR (A.iAdd i 1, C) _ ?_ ⟨by show 0 ≤ A.iAdd i 1; omega, by show A.iAdd i 1 ≤ _; omega, ?_⟩ him⟩
      · (conv => cbv)
        exact wk_round (bx := [_, _]) (bx' := [_]) (mp := []) (mp' := []) (by repeat (first | refine leL_same ?_ | refine leL_any ?_ | exact leL_nil)) (by simp) (by simp) rfl (by simp [hCw, SV.within])
      · show C = _
        rw [hC, his]
        apply List.map_congr_left
        intro j _
        rw [hsn j]; simp
    | false =>
      split
      rotate_left
      · rename_i hc
        cases (nF hA hc)
      conv => cbv
      have hwl := wrongN_le shifts (stL t l) (reports.take i.toNat) r1.toNat
      have htl : (reports.take i.toNat).length ≤ reports.length := by rw [List.length_take]; omega
      have hcell : C[0 + A.nNat r1 * 1 + 0]? = some (SV.val (.int .i64 (wrongN shifts (stL t l) (reports.take i.toNat) r1.toNat))) := by
        rw [natN hA, hC, List.getElem?_map, show 0 + r1.toNat * 1 + 0 = r1.toNat by omega, List.getElem?_range (by omega)]
        rfl
      obtain ⟨n, hn⟩ : ∃ n, n = wrongN shifts (stL t l) (reports.take i.toNat) r1.toNat := ⟨_, rfl⟩
      rw [← hn] at hcell hwl
      have hn1 : A.iAdd n 1 = n + 1 := addI hA _ _
      have hwith : A.within r1 (A.iNat (A.nNat many)) := withI hA (natNat hA c1) q1 q2
      obtain ⟨C2, hC2⟩ : ∃ C2, C2 = C.set (0 + A.nNat r1 * 1 + 0) (.val (.int .i64 (A.iAdd n 1))) := ⟨_, rfl⟩
      have hC2' : C2 = (List.range many.toNat).map fun j => SV.val (.int .i64 (wrongN shifts (stL t l) (reports.take (i + 1).toNat) j)) := by
        rw [hC2, natN hA, show 0 + r1.toNat * 1 + 0 = r1.toNat by omega, hC, hn1, hn]
        exact hset many.toNat _ _ r1.toNat (by omega) (fun j => by rw [hsn j]; simp) (by omega)
      have hCw2 : ∀ a b c, C2.all (SV.within a b c) = true := by
        intro a b c
        rw [hC2', List.all_eq_true]
        intro x hx
        obtain ⟨j, _, rfl⟩ := List.mem_map.1 hx
        rfl
      refine ⟨draw_intro hA (by kernel_rfl), ?_⟩
      refine ⟨hwith, rld_cell (E := ⟨Try.prog, tab, fun _ => false, true, .none⟩) hA rfl rfl rfl hcell ?_⟩
      conv => cbv
      refine ⟨inR' hA hn1 (by unfold inI64; omega), hwith, rst_cell (E := ⟨Try.prog, tab, fun _ => false, true, .none⟩) hA rfl rfl rfl rfl (by show 0 + A.nNat r1 * 1 + 0 < C.length; rw [natN hA, hCl]; omega) hC2 ?_⟩
      conv => cbv
      refine ⟨hir, hR (A.iAdd i 1, C2) _ ?_ ⟨by show 0 ≤ A.iAdd i 1; omega, by show A.iAdd i 1 ≤ _; omega, ?_⟩ him⟩
      · (conv => cbv)
        exact wk_round (bx := [_, _]) (bx' := [_]) (mp := []) (mp' := []) (by repeat (first | refine leL_same ?_ | refine leL_any ?_ | exact leL_nil)) (by simp) (by simp) rfl (by simp [hCw2, SV.within])
      · show C2 = _
        rw [hC2', his]
  · rename_i hc
    have hi : reports.length ≤ i := ltF' hA rfl (lenI hA hyl) hc
    rw [List.take_of_length_le (by omega)] at hC
    conv => cbv
    have hCW : C = ((encInts (wrongL t many reports shifts l)).flatMap PV.cells).map SV.val := by
      rw [flat_ints', hC]; unfold wrongL encInts; rw [List.map_map, List.map_map]; rfl
    have hlist : encInts (wrongL t many reports shifts l) = (encInts (wrongL t many reports shifts l)).take (A.nNat many) := by
      rw [natN hA, List.take_of_length_le (by simp [encInts, wrongL_len])]
    rw [← hq, hlist]
    exact ret_row (E := ⟨P, tab, fun _ => false, true, Y⟩) rfl (id := 1) (m := 1) (cs := C) (xs := encInts (wrongL t many reports shifts l)) (n := A.nNat many) (t1 := 10) (t2 := 11) (e := 0) rfl hCW (fun x hx => by simp only [encInts, List.mem_map] at hx; obtain ⟨y, _, rfl⟩ := hx; rfl) (by rw [natN hA]; simp [encInts, wrongL_len]) rfl rfl
end Go.Abs
