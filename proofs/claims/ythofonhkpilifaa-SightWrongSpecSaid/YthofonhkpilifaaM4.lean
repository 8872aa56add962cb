/-
  Law SightMore.
-/
import Derived.Test.YthofonhkpilifaaL1
import Derived.Test.YthofonhkpilifaaH1
namespace Go.Abs
open Go.RowKit Go.Proofs
def allN (l : List Report) (j : Nat) : Int := ((l.filter fun r => decide (r.Station = (j : Int))).length : Nat)
theorem allN_snoc (l : List Report) (r : Report) (j : Nat) : allN (l ++ [r]) j = allN l j + if r.Station = (j : Int) then 1 else 0 := by
  unfold allN
  rw [List.filter_append, List.length_append, List.filter_cons, List.filter_nil]
  by_cases h : r.Station = (j : Int) <;> simp [h]
theorem allN_le (l : List Report) (j : Nat) : 0 ≤ allN l j ∧ allN l j ≤ l.length := by
  unfold allN
  have := List.length_filter_le (fun r : Report => decide (r.Station = (j : Int))) l
  omega
theorem filter_mono {α : Type} {p q : α → Bool} {l : List α} (h : ∀ x ∈ l, p x = true → q x = true) : ((l.filter p).length : Int) ≤ (l.filter q).length := by
  have := List.countP_mono_left h
  rw [List.countP_eq_length_filter, List.countP_eq_length_filter] at this
  omega
theorem wrongN_all (shifts : List Int) (st : List Stay) (j : Nat) (l : List Report) : wrongN shifts st l j ≤ allN l j :=
  filter_mono fun r _ h => by rw [Bool.and_eq_true] at h; exact h.1
theorem rightB_nil (r : Report) (s : Int) : rightB r s [] = false := rfl
theorem wrongN_none (shifts : List Int) (l : List Report) (j : Nat) : wrongN shifts [] l j = allN l j := by
  unfold wrongN allN
  simp only [rightB_nil, Bool.not_false, Bool.and_true]
theorem rightB_append (r : Report) (s : Int) (a b : List Stay) : rightB r s (a ++ b) = (rightB r s a || rightB r s b) := by unfold rightB; rw [List.any_append]
theorem wrongN_more (shifts : List Int) (a b : List Stay) (j : Nat) (l : List Report) : wrongN shifts (a ++ b) l j ≤ wrongN shifts a l j :=
  filter_mono fun r _ h => by
    rw [Bool.and_eq_true] at h ⊢
    rw [rightB_append] at h
    refine ⟨h.1, ?_⟩
    cases hb : rightB r (shifts.getD r.Station.toNat 0) a with
    | false => rfl
    | true => rw [hb] at h; simp at h
theorem stL_append (t : Tables) (a b : List Path) : stL t (a ++ b) = stL t a ++ stL t b := by unfold stL; rw [List.flatMap_append]
theorem wrongErr_nil {t : Tables} {many : Int} {reports : List Report} {shifts : List Int} {l : List Path} (h : wrongErr t many reports shifts l = 0) : wrongErr t many reports shifts [] = 0 := by
  unfold wrongErr at *
  split at h
  · rename_i h1; rw [if_pos h1]; rfl
  · cases h
theorem wrongErr_in {t : Tables} {many : Int} {reports : List Report} {shifts : List Int} {l : List Path} (h : wrongErr t many reports shifts l = 0) : 0 ≤ many ∧ many ≤ 4 ∧ ∀ r ∈ reports, 0 ≤ r.Station ∧ r.Station < many := by
  unfold wrongErr at h
  split at h
  · rename_i h1
    simp only [wrongIn, Bool.and_eq_true, Bool.not_eq_true', List.any_eq_false, inB, decide_eq_true_eq] at h1
    refine ⟨h1.1.1.1.1, h1.1.1.1.2, fun r hr => ?_⟩
    have h := h1.2 r hr
    simp only [repBad, inB, isMinuteB, Bool.or_eq_true, Bool.not_eq_true', Bool.and_eq_false_iff, decide_eq_false_iff_not] at h
    omega
  · cases h
theorem wrongL_get {t : Tables} {many : Int} {reports : List Report} {shifts : List Int} {l : List Path} {j : Nat} {x : Int} (h : (wrongL t many reports shifts l)[j]? = some x) : x = wrongN shifts (stL t l) reports j := by
  unfold wrongL at h
  rw [List.getElem?_map, Option.map_eq_some_iff] at h
  obtain ⟨i, h1, rfl⟩ := h
  rw [List.getElem?_eq_some_iff] at h1
  obtain ⟨h2, rfl⟩ := h1
  simp
theorem wrongL_len (t : Tables) (many : Int) (reports : List Report) (shifts : List Int) (l : List Path) : (wrongL t many reports shifts l).length = many.toNat := by simp [wrongL]

theorem wrong_call {t : Tables} {many : Int} {reports : List Report} {shifts : List Int} {l : List Path} (hl : l.length ≤ 1000) (hrl : reports.length ≤ 1000000) {xs ys zs : List PV} (hx : xs = encPaths l) (hy : ys = encReports reports) (hz : zs = encInts shifts) (m : Nat) (hm : m = 2 ∨ l = []) :
    (∃ W, W = encInts (wrongL t many reports shifts l) ∧ wrongErr t many reports shifts l = 0 ∧ CallsPV Try.prog 13 [encTables t, .int .i64 many, .list 6 ys, .list 1 zs, .list m xs] (.tup [.list 1 W, .int .i64 0])) ∨
    (∃ e, e ≠ 0 ∧ wrongErr t many reports shifts l = e ∧ CallsPV Try.prog 13 [encTables t, .int .i64 many, .list 6 ys, .list 1 zs, .list m xs] (.tup [.list 0 [], .int .i64 e])) := by
  have h := sight_Wrong t many reports shifts l hl hrl hx hy hz
  have h' : CallsPV Try.prog 13 [encTables t, .int .i64 many, .list 6 ys, .list 1 zs, .list m xs] (.tup [wrongRes t many reports shifts l, .int .i64 (wrongErr t many reports shifts l)]) := by
    rcases hm with rfl | rfl
    · exact h
    · refine h.le (.cons (.refl _) (.cons (.refl _) (.cons (.refl _) (.cons (.refl _) (.cons ?_ .nil))))) (.refl _)
      rw [hx]; exact .nil _ _
  unfold wrongRes at h'
  by_cases h0 : wrongErr t many reports shifts l = 0
  · rw [if_pos h0, h0] at h'
    exact .inl ⟨_, rfl, h0, h'⟩
  · rw [if_neg h0] at h'
    exact .inr ⟨_, h0, rfl, h'⟩

theorem rowZ_list (many : Int) (f : Nat → Int) (h : ∀ j, f j = 0) : (List.replicate many.toNat [PV.int .i64 0]).flatten.map SV.val = (List.range many.toNat).map fun j => SV.val (.int .i64 (f j)) := by
  apply List.ext_getElem?
  intro j
  have e : (List.replicate many.toNat [PV.int .i64 0]).flatten = List.replicate many.toNat (PV.int .i64 0) := by
    induction many.toNat with
    | zero => rfl
    | succ n ih => rw [List.replicate_succ, List.flatten_cons, ih]; rfl
  rw [e]
  by_cases hj : j < many.toNat
  · simp [hj, h]
  · simp [hj]

theorem set_count (m : Nat) {f g : Nat → Int} {r : Report} {j0 : Nat} (hj : j0 < m) (h : ∀ j, g j = f j + if r.Station = (j : Int) then 1 else 0) (hr : r.Station = (j0 : Int)) :
    ((List.range m).map fun j => SV.val (.int .i64 (f j))).set j0 (.val (.int .i64 (f j0 + 1))) = (List.range m).map fun j => SV.val (.int .i64 (g j)) := by
  apply List.ext_getElem?
  intro j
  rw [List.getElem?_set]
  simp only [List.length_map, List.length_range, List.getElem?_map]
  by_cases e : j0 = j
  · subst e
    rw [if_pos rfl, if_pos hj, List.getElem?_range hj]
    simp only [Option.map_some, h, hr, if_true]
  · rw [if_neg e]
    by_cases hm : j < m
    · rw [List.getElem?_range hm]
      simp only [Option.map_some, h]
      rw [if_neg (by rw [hr]; omega)]
      simp
    · rw [List.getElem?_eq_none (by simp; omega)]; rfl

set_option maxHeartbeats 4000000 in
theorem law_SightMore (t : Tables) (many : Int) (reports : List Report) (shifts : List Int) (l more : List Path) :
    CallsPV Try.prog 6 [encTables t, .int .i64 many, .list 6 (encReports reports), .list 1 (encInts shifts), .list 2 (encPaths l), .list 2 (encPaths more)] (.bool true) := by
  refine callsPV_by (clo := fun f => decide (f = 2000000 + 31)) (rows := true) env_ok Try.func6 rfl (enters_of Try.func6 (by kernel_rfl) rfl) (fun A q P Y hr hA hq => ?_)
  obtain ⟨ss, hss⟩ : ∃ ss, ss = encSectors t.Sectors := ⟨_, rfl⟩
  obtain ⟨cs, hcs⟩ : ∃ cs, cs = encConfigs t.Configs := ⟨_, rfl⟩
  obtain ⟨ws, hws⟩ : ∃ ws, ws = encWays t.Ways := ⟨_, rfl⟩
  obtain ⟨ms, hms⟩ : ∃ ms, ms = encIntLs t.Modes := ⟨_, rfl⟩
  obtain ⟨ks, hks⟩ : ∃ ks, ks = encKinds t.Kinds := ⟨_, rfl⟩
  obtain ⟨rs, hrs⟩ : ∃ rs, rs = encReports reports := ⟨_, rfl⟩
  obtain ⟨zs, hzs⟩ : ∃ zs, zs = encInts shifts := ⟨_, rfl⟩
  obtain ⟨xs, hxs⟩ : ∃ xs, xs = encPaths l := ⟨_, rfl⟩
  obtain ⟨ys, hys⟩ : ∃ ys, ys = encPaths more := ⟨_, rfl⟩
  have cF := ref_Few14 t
  rw [encTables_eq t hss hcs hws hms hks] at cF ⊢
  rw [← hrs, ← hzs, ← hxs, ← hys]
  obtain ⟨nv, hnv⟩ : ∃ nv, nv = t.Volumes := ⟨_, rfl⟩
  rw [← hnv] at cF ⊢
  conv => cbv
  refine callB hA law_sane rfl (fun b0 hb0 => ?_)
  subst hb0
  conv => cbv
  split
  · rename_i hc
    cases (nT hA hc)
  conv => cbv
  refine callB hA cF rfl (fun b1 hb1 => ?_)
  conv => cbv
  split
  · conv => cbv
    refine ⟨_, Frz.refl _ _, ?_⟩
    conv => cbv
    exact hq
  conv => cbv
  refine callB hA (ref_Few23 l rs 6 2 (.inl rfl) hxs) rfl (fun b2 hb2 => ?_)
  conv => cbv
  split
  · conv => cbv
    refine ⟨_, Frz.refl _ _, ?_⟩
    conv => cbv
    exact hq
  rename_i hf2
  conv => cbv
  refine callB hA (ref_Few23 more [] 0 2 (.inl rfl) hys) rfl (fun b3 hb3 => ?_)
  conv => cbv
  split
  · conv => cbv
    refine ⟨_, Frz.refl _ _, ?_⟩
    conv => cbv
    exact hq
  rename_i hf3
  conv => cbv
  split
  · conv => cbv
    refine ⟨_, Frz.refl _ _, ?_⟩
    conv => cbv
    exact hq
  conv => cbv
  have hb2 : few23 rs.length l = true := by rw [← hb2]; exact notF hA hf2
  have hb3 : few23 0 more = true := by rw [show (0 : Nat) = ([] : List PV).length from rfl, ← hb3]; exact notF hA hf3
  have hrl : rs.length = reports.length := by rw [hrs]; simp [encReports]
  have hb2' : rs.length ≤ 20 ∧ l.length ≤ 20 := by simp only [few23, Bool.and_eq_true, decide_eq_true_eq] at hb2; exact ⟨hb2.1.2, hb2.2⟩
  have hb3' : more.length ≤ 20 := by simp only [few23, Bool.and_eq_true, decide_eq_true_eq] at hb3; exact hb3.2
  have hxl : xs.length = l.length := by rw [hxs]; simp [encPaths]
  have hyl : ys.length = more.length := by rw [hys]; simp [encPaths]
  have w1 := wrong_call (t := t) (many := many) (reports := reports) (shifts := shifts) (l := l) (by omega) (by omega) hxs hrs hzs 2 (.inl rfl)
  have w2 := wrong_call (t := t) (many := many) (reports := reports) (shifts := shifts) (l := l ++ more) (xs := xs ++ ys) (by rw [List.length_append]; omega) (by omega) (by rw [hxs, hys]; simp [encPaths]) hrs hzs 2 (.inl rfl)
  have w3 := wrong_call (t := t) (many := many) (reports := reports) (shifts := shifts) (l := []) (xs := []) (by simp) (by omega) rfl hrs hzs 0 (.inr rfl)
  have hin := @wrongErr_in t many reports shifts l
  have hnil := @wrongErr_nil t many reports shifts l
  rw [encTables_eq t hss hcs hws hms hks, ← hnv] at w1 w2 w3
  have fin : wrongErr t many reports shifts l = 0 → wrongErr t many reports shifts (l ++ more) = 0 → wrongErr t many reports shifts [] = 0 := fun h _ => hnil h
  have hroom1 : A.room (A.nLen (A.lApp [] xs)) 32 := by subst hA; show ([] ++ xs).length * (32 + 1) ≤ 140737488355328; simp; omega
  have hroom2 : A.room (A.nLen (A.lApp (A.lApp [] xs) ys)) 32 := by subst hA; show (([] ++ xs) ++ ys).length * (32 + 1) ≤ 140737488355328; simp; omega
  have htk : A.tkEq (A.nLen (A.lApp [] xs)) (A.nLen (A.lApp [] xs)) := by subst hA; rfl
  have hargs : A.lApp (A.lApp [] xs) ys = xs ++ ys := by subst hA; rfl
  have hz0 : A.iEq (A.lLen []) 0 = true := by subst hA; rfl
  have hz0' : PV.bool (A.iEq (A.lLen []) 0) = q := by rw [← hq, hz0]
  rcases w1 with ⟨W1, hW1, e1, w1⟩ | ⟨e, he, e1, w1⟩
  · refine call_intro hA w1 ?_
    conv => cbv
    refine ⟨draw_intro hA (by kernel_rfl), hroom1, ⟨htk, hroom2⟩, ?_⟩
    rcases w2 with ⟨W2, hW2, e2, w2⟩ | ⟨e, he, e2, w2⟩
    · refine call_intro' hA w2 (by subst hA; rfl) ?_
      conv => cbv
      split
      · rename_i hc
        cases (neT hA hc rfl)
      conv => cbv
      split
      · rename_i hc
        cases (neT hA hc rfl)
      conv => cbv
      rcases w3 with ⟨W3, hW3, e3, w3⟩ | ⟨e, he, e3, w3⟩
      rotate_left
      · cases (he (e3.symm.trans (hnil e1)))
      obtain ⟨hm0, hm4, hst⟩ := hin e1
      have hlen : ∀ L, A.lLen (encInts (wrongL t many reports shifts L)) = many := fun L => by
        rw [lenI hA (show (encInts (wrongL t many reports shifts L)).length = many.toNat by simp [encInts, wrongL_len])]; omega
      have hl1 : A.lLen W1 = many := by rw [hW1]; exact hlen _
      have hl2 : A.lLen W2 = many := by rw [hW2]; exact hlen _
      have hl3 : A.lLen W3 = many := by rw [hW3]; exact hlen _
      refine call_intro hA w3 ?_
      conv => cbv
      split
      · rename_i hc
        cases (neT hA hc rfl)
      conv => cbv
      split
      · rename_i hc
        cases (neT' hA hl1 rfl hc rfl)
      conv => cbv
      split
      · rename_i hc
        cases (neT' hA hl2 rfl hc rfl)
      conv => cbv
      split
      · rename_i hc
        cases (neT' hA hl3 rfl hc rfl)
      conv => cbv
      refine ⟨by subst hA; exact ⟨hm0, rfl, by omega, by omega⟩, ?_⟩
      refine loop_set hA (fun (z : Int × List SV) s => { s.put (some 20) (.val (.int .i64 z.1)) with bx := s.bx.set 1 (some z.2) })
        (fun z => 0 ≤ z.1 ∧ z.1 ≤ reports.length ∧ z.2 = (List.range many.toNat).map fun j => SV.val (.int .i64 (allN (reports.take z.1.toNat) j))) (fun z => (reports.length - z.1).toNat) (0, A.rowZ many [.int .i64 0]) ?_ ?_ ?_
      · conv => cbv
        exact wk_sl (by repeat (first | refine leL_same ?_ | refine leL_any ?_ | exact leL_nil))
      · refine ⟨Int.le_refl _, by omega, ?_⟩
        show A.rowZ many [.int .i64 0] = _
        subst hA
        exact rowZ_list many _ (fun j => by simp [allN])
      · rintro R ⟨i, C⟩ ⟨hi0, hi1, hC⟩ hR
        simp only at hi0 hi1 hC
        have hCl : C.length = many.toNat := by rw [hC]; simp
        conv => cbv
        split
        · rename_i hc
          have hc' : i < reports.length := ltT' hA rfl (lenI hA hrl) hc
          conv => cbv
          refine idx_Report hA hrs hi0 hc' (fun r hr0 => ?_)
          obtain ⟨q1, q2⟩ := hst r (List.mem_of_getElem? hr0)
          have htake := take_snoc' hi0 hr0
          obtain ⟨r1, r2, r3, r4, r5, r6⟩ := r
          simp only at q1 q2
          conv => cbv
          split
          · rename_i hd
            cases (show False by have := ltT hA hd; omega)
          conv => cbv
          refine idx_Report hA hrs hi0 hc' (fun r' hr1 => ?_)
          obtain rfl := Option.some.inj (hr1.symm.trans hr0)
          conv => cbv
          split
          · rename_i hd
            cases (show False by have := leT hA hd; omega)
          conv => cbv
          refine idx_Report hA hrs hi0 hc' (fun r' hr2 => ?_)
          obtain rfl := Option.some.inj (hr2.symm.trans hr0)
          conv => cbv
          have hn := allN_le (reports.take i.toNat) r1.toNat
          have htl : (reports.take i.toNat).length ≤ reports.length := by rw [List.length_take]; omega
          have hcell : C[0 + A.nNat r1 * 1 + 0]? = some (SV.val (.int .i64 (allN (reports.take i.toNat) r1.toNat))) := by
            rw [natN hA, hC, List.getElem?_map, show 0 + r1.toNat * 1 + 0 = r1.toNat by omega, List.getElem?_range (by omega)]
            rfl
          obtain ⟨n, hn'⟩ : ∃ n, n = allN (reports.take i.toNat) r1.toNat := ⟨_, rfl⟩
          rw [← hn'] at hcell hn
          have hwith : A.within r1 (A.iNat (A.nNat many)) := withI hA (natNat hA hm0) q1 q2
          have hn1 : A.iAdd n 1 = n + 1 := addI hA _ _
          have hi1' : A.iAdd i 1 = i + 1 := addI hA _ _
          obtain ⟨C2, hC2⟩ : ∃ C2, C2 = C.set (0 + A.nNat r1 * 1 + 0) (.val (.int .i64 (A.iAdd n 1))) := ⟨_, rfl⟩
          refine ⟨hwith, rld_cell (E := ⟨Try.prog, tab, fun f => decide (f = 2000000 + 31), true, .none⟩) hA rfl rfl rfl hcell ?_⟩
          conv => cbv
          refine ⟨inR' hA hn1 (by unfold inI64; omega), hwith, rst_cell (E := ⟨Try.prog, tab, fun f => decide (f = 2000000 + 31), true, .none⟩) hA rfl rfl rfl rfl (by show 0 + A.nNat r1 * 1 + 0 < C.length; rw [natN hA, hCl]; omega) hC2 ?_⟩
          conv => cbv
          refine ⟨inR' hA hi1' (by unfold inI64; omega), hR (A.iAdd i 1, C2) _ ?_ ?_ ?_⟩
          · conv => cbv
            exact wk_sl (by repeat (first | refine leL_same ?_ | refine leL_any ?_ | exact leL_nil))
          · show 0 ≤ A.iAdd i 1 ∧ A.iAdd i 1 ≤ reports.length ∧ C2 = _
            rw [hi1']
            refine ⟨by omega, by omega, ?_⟩
            rw [htake, hC2, natN hA, show 0 + r1.toNat * 1 + 0 = r1.toNat by omega, hC, hn1, hn']
            exact set_count many.toNat (by omega) (fun j => allN_snoc _ _ j) (by show r1 = _; omega)
          · show (reports.length - A.iAdd i 1).toNat < (reports.length - i).toNat
            rw [hi1']; omega
        · rename_i hc
          have hc' : reports.length ≤ i := ltF' hA rfl (lenI hA hrl) hc
          rw [List.take_of_length_le (by omega)] at hC
          conv => cbv
          refine loop_set hA (fun (i : Int) s => s.put (some 21) (.val (.int .i64 i))) (fun i => 0 ≤ i ∧ i ≤ many) (fun i => (many - i).toNat) 0 ?_ ?_ ?_
          · conv => cbv
            exact wk_sl (by repeat (first | refine leL_same ?_ | refine leL_any ?_ | exact leL_nil))
          · exact ⟨Int.le_refl _, hm0⟩
          · rintro R k ⟨hk0, hk1⟩ hR2
            conv => cbv
            split
            · rename_i hd
              have hd' : k < many := ltT hA hd
              conv => cbv
              refine ⟨draw_intro hA (by kernel_rfl), ?_⟩
              have hkl : ∀ L, k < (wrongL t many reports shifts L).length := fun L => by rw [wrongL_len]; omega
              have hcell : C[0 + A.nNat k * 1 + 0]? = some (SV.val (.int .i64 (allN reports k.toNat))) := by
                rw [natN hA, hC, List.getElem?_map, show 0 + k.toNat * 1 + 0 = k.toNat by omega, List.getElem?_range (by omega)]
                rfl
              have hn := allN_le reports k.toNat
              obtain ⟨n, hn'⟩ : ∃ n, n = allN reports k.toNat := ⟨_, rfl⟩
              rw [← hn'] at hcell hn
              refine idx_Int hA hW2 hk0 (hkl _) (fun x2 hx2 => ?_)
              have hx2' := wrongL_get hx2
              have hx0 := wrongN_le shifts (stL t (l ++ more)) reports k.toNat
              conv => cbv
              refine idx_Int hA hW1 hk0 (hkl _) (fun x1 hx1 => ?_)
              have hx1' := wrongL_get hx1
              have hx12 := wrongN_more shifts (stL t l) (stL t more) k.toNat reports
              rw [← stL_append] at hx12
              have hx1a := wrongN_all shifts (stL t l) k.toNat reports
              conv => cbv
              split
              · rename_i hd
                cases (show False by have := ltT hA hd; omega)
              conv => cbv
              refine idx_Int hA hW1 hk0 (hkl _) (fun x1' hx1 => ?_)
              have hx1' := wrongL_get hx1
              conv => cbv
              refine ⟨withI hA (natNat hA hm0) hk0 hd', rld_cell (E := ⟨Try.prog, tab, fun f => decide (f = 2000000 + 31), true, .none⟩) hA rfl rfl rfl hcell ?_⟩
              conv => cbv
              split
              · rename_i hd
                cases (show False by have := ltT hA hd; omega)
              conv => cbv
              refine idx_Int hA hW2 hk0 (hkl _) (fun x2' hx2 => ?_)
              have hx2'' := wrongL_get hx2
              conv => cbv
              split
              · rename_i hd
                cases (show False by have := ltT hA hd; omega)
              conv => cbv
              refine idx_Int hA hW3 hk0 (hkl _) (fun x3 hx3 => ?_)
              have hx3' := wrongL_get hx3
              have hx30 := wrongN_none shifts reports k.toNat
              conv => cbv
              refine ⟨withI hA (natNat hA hm0) hk0 hd', rld_cell (E := ⟨Try.prog, tab, fun f => decide (f = 2000000 + 31), true, .none⟩) hA rfl rfl rfl hcell ?_⟩
              conv => cbv
              split
              · rename_i hd
                cases (show False by have := neT hA hd; exact this (by rw [hx3', hn']; exact hx30))
              conv => cbv
              have hk1' : A.iAdd k 1 = k + 1 := addI hA _ _
              refine ⟨inR' hA hk1' (by unfold inI64; omega), hR2 (A.iAdd k 1) _ ?_ ?_ ?_⟩
              · conv => cbv
                exact wk_sl (by repeat (first | refine leL_same ?_ | refine leL_any ?_ | exact leL_nil))
              · show 0 ≤ A.iAdd k 1 ∧ A.iAdd k 1 ≤ many
                rw [hk1']; omega
              · show (many - A.iAdd k 1).toNat < (many - k).toNat
                rw [hk1']; omega
            · conv => cbv
              refine ⟨_, Frz.refl _ _, ?_⟩
              conv => cbv
              exact hq
    · refine call_intro' hA w2 (by subst hA; rfl) ?_
      conv => cbv
      split
      · rename_i hc
        cases (neT hA hc rfl)
      conv => cbv
      split
      rotate_left
      · rename_i hc
        cases (he (neF hA hc))
      conv => cbv
      split
      rotate_left
      · rename_i hc
        cases (eqF hA hc rfl)
      conv => cbv
      split
      · rename_i hc
        cases (he (eqT hA hc))
      conv => cbv
      refine ⟨_, Frz.refl _ _, ?_⟩
      conv => cbv
      exact hz0'
  · refine call_intro hA w1 ?_
    conv => cbv
    refine ⟨draw_intro hA (by kernel_rfl), hroom1, ⟨htk, hroom2⟩, ?_⟩
    rcases w2 with ⟨W2, hW2, e2, w2⟩ | ⟨f, hf, e2, w2⟩
    all_goals
      refine call_intro' hA w2 (by subst hA; rfl) ?_
      conv => cbv
      split
      rotate_left
      · rename_i hc
        cases (he (neF hA hc))
      conv => cbv
      split
      · rename_i hc
        cases (he (eqT hA hc))
      conv => cbv
      split
      rotate_left
      · rename_i hc
        have hf : False := absurd (show A.iEq (A.lLen []) 0 = false from hc) (by rw [hz0]; simp); cases hf
      conv => cbv
    · split
      rotate_left
      · rename_i hc
        cases (eqF hA hc rfl)
      conv => cbv
      refine ⟨_, Frz.refl _ _, ?_⟩
      conv => cbv
      exact hq
    · split
      · rename_i hc
        cases (hf (eqT hA hc))
      conv => cbv
      refine ⟨_, Frz.refl _ _, ?_⟩
      conv => cbv
      exact hz0'
end Go.Abs
