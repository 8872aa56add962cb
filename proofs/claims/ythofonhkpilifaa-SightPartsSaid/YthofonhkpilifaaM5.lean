/-
  Law SightParts.
-/
import Derived.Test.YthofonhkpilifaaM4
import Derived.Test.YthofonhkpilifaaG2
namespace Go.Abs
open Go.RowKit Go.Proofs

theorem wrongN_append (shifts : List Int) (st : List Stay) (a b : List Report) (j : Nat) : wrongN shifts st (a ++ b) j = wrongN shifts st a j + wrongN shifts st b j := by
  unfold wrongN
  rw [List.filter_append, List.length_append]; omega
theorem wrongN_one (shifts : List Int) (st : List Stay) (r : Report) (h : 0 ≤ r.Station) : wrongN shifts st [r] r.Station.toNat = if rightB r (shifts.getD r.Station.toNat 0) st then 0 else 1 := by
  unfold wrongN
  rw [List.filter_cons, List.filter_nil]
  have e : r.Station = (r.Station.toNat : Int) := by omega
  cases rightB r (shifts.getD r.Station.toNat 0) st <;> simp [← e]
theorem wrongErr_app (t : Tables) (many : Int) (a b : List Report) (shifts : List Int) (l : List Path) : wrongErr t many (a ++ b) shifts l = 0 ↔ wrongErr t many a shifts l = 0 ∧ wrongErr t many b shifts l = 0 := by
  have e : wrongIn many (a ++ b) shifts = (wrongIn many a shifts && wrongIn many b shifts) := by
    unfold wrongIn
    rw [List.any_append]
    cases inB many 0 4 <;> cases decide ((shifts.length : Int) = many) <;> cases shifts.all isShiftB <;> cases a.any (repBad many) <;> cases b.any (repBad many) <;> rfl
  unfold wrongErr
  rw [e]
  cases wrongIn many a shifts <;> cases wrongIn many b shifts <;> simp
theorem wrongErr_mem {t : Tables} {many : Int} {a : List Report} {shifts : List Int} {l : List Path} (h : wrongErr t many a shifts l = 0) {r : Report} (hr : r ∈ a) : wrongErr t many [r] shifts l = 0 := by
  obtain ⟨x, y, rfl⟩ := List.append_of_mem hr
  rw [show x ++ r :: y = x ++ ([r] ++ y) by simp, wrongErr_app, wrongErr_app] at h
  exact h.2.1
theorem wrongErr_sees {t : Tables} {many : Int} {a : List Report} {shifts : List Int} {l : List Path} (h : wrongErr t many a shifts l = 0) {r : Report} (hr : r ∈ a) {s : Int} (hs : s ∈ shifts) : seesErr t r s l = 0 := by
  unfold wrongErr at h
  split at h
  · rename_i h1
    simp only [wrongIn, Bool.and_eq_true, Bool.not_eq_true', List.any_eq_false, List.all_eq_true] at h1
    have h2 := h1.1.2 s hs
    have h3 := h1.2 r hr
    unfold seesErr
    rw [h2]
    have h4 : isMinuteB r.Minute = true := by
      unfold repBad at h3
      cases hb : isMinuteB r.Minute with
      | true => rfl
      | false => rw [hb] at h3; simp at h3
    rw [h4]
    exact h
  · cases h
theorem wrongErr_len {t : Tables} {many : Int} {a : List Report} {shifts : List Int} {l : List Path} (h : wrongErr t many a shifts l = 0) : (shifts.length : Int) = many := by
  unfold wrongErr at h
  split at h
  · rename_i h1
    simp only [wrongIn, Bool.and_eq_true, decide_eq_true_eq] at h1
    exact h1.1.1.2
  · cases h

set_option maxHeartbeats 4000000 in
set_option maxRecDepth 100000 in
theorem law_SightParts (t : Tables) (many : Int) (a b : List Report) (shifts : List Int) (l : List Path) (_ : okTables t) (_ : okI many) (_ : ∀ x ∈ a, okReport x) (_ : ∀ x ∈ b, okReport x) (_ : okIs shifts) (_ : ∀ x ∈ l, okPath x) :
    CallsPV Try.prog 7 [encTables t, .int .i64 many, .list 6 (encReports a), .list 6 (encReports b), .list 1 (encInts shifts), .list 2 (encPaths l)] (.bool true) := by
  refine callsPV_by (clo := fun _ => false) (rows := false) env_ok Try.func7 rfl (enters_of Try.func7 (by kernel_rfl) rfl) (fun A q P Y hr hA hq => ?_)
  obtain ⟨ss, hss⟩ : ∃ ss, ss = encSectors t.Sectors := ⟨_, rfl⟩
  obtain ⟨cs, hcs⟩ : ∃ cs, cs = encConfigs t.Configs := ⟨_, rfl⟩
  obtain ⟨ws, hws⟩ : ∃ ws, ws = encWays t.Ways := ⟨_, rfl⟩
  obtain ⟨ms, hms⟩ : ∃ ms, ms = encIntLs t.Modes := ⟨_, rfl⟩
  obtain ⟨ks, hks⟩ : ∃ ks, ks = encKinds t.Kinds := ⟨_, rfl⟩
  obtain ⟨aS, haS⟩ : ∃ aS, aS = encReports a := ⟨_, rfl⟩
  obtain ⟨bS, hbS⟩ : ∃ bS, bS = encReports b := ⟨_, rfl⟩
  obtain ⟨zs, hzs⟩ : ∃ zs, zs = encInts shifts := ⟨_, rfl⟩
  obtain ⟨xs, hxs⟩ : ∃ xs, xs = encPaths l := ⟨_, rfl⟩
  have cF := ref_Few14 t
  rw [encTables_eq t hss hcs hws hms hks] at cF ⊢
  rw [← haS, ← hbS, ← hzs, ← hxs]
  obtain ⟨nv, hnv⟩ : ∃ nv, nv = t.Volumes := ⟨_, rfl⟩
  rw [← hnv] at cF ⊢
  conv => cbv
  refine callB hA law_sane rfl (fun b0 hb0 => ?_)
  subst hb0
  conv => cbv
  split
  · rename_i hc
    cases (nT hA hc)
  conv => cbv
  refine callB hA cF rfl (fun b1 hb1 => ?_)
  conv => cbv
  split
  · conv => cbv
    exact hq
  conv => cbv
  refine callB hA (ref_Few23 l aS 6 2 (.inl rfl) hxs) rfl (fun b2 hb2 => ?_)
  conv => cbv
  split
  · conv => cbv
    exact hq
  rename_i hf2
  conv => cbv
  refine callB hA (ref_Few23 [] bS 6 0 (.inr rfl) rfl) rfl (fun b3 hb3 => ?_)
  conv => cbv
  split
  · conv => cbv
    exact hq
  rename_i hf3
  conv => cbv
  split
  · conv => cbv
    exact hq
  conv => cbv
  have hb2 : few23 aS.length l = true := by rw [← hb2]; exact notF hA hf2
  have hb3 : few23 bS.length [] = true := by rw [← hb3]; exact notF hA hf3
  have hal : aS.length = a.length := by rw [haS]; simp [encReports]
  have hbl : bS.length = b.length := by rw [hbS]; simp [encReports]
  have hb2' : aS.length ≤ 20 ∧ l.length ≤ 20 := by simp only [few23, Bool.and_eq_true, decide_eq_true_eq] at hb2; exact ⟨hb2.1.2, hb2.2⟩
  have hb3' : bS.length ≤ 20 := by simp only [few23, Bool.and_eq_true, decide_eq_true_eq] at hb3; exact hb3.1.2
  have w1 := wrong_call (t := t) (many := many) (reports := a) (shifts := shifts) (l := l) (by omega) (by omega) hxs haS hzs 2 (.inl rfl)
  have w2 := wrong_call (t := t) (many := many) (reports := b) (shifts := shifts) (l := l) (by omega) (by omega) hxs hbS hzs 2 (.inl rfl)
  have w3 := wrong_call (t := t) (many := many) (reports := a ++ b) (shifts := shifts) (l := l) (ys := aS ++ bS) (by omega) (by rw [List.length_append]; omega) hxs (by rw [haS, hbS]; simp [encReports]) hzs 2 (.inl rfl)
  have happ := wrongErr_app t many a b shifts l
  have w4 := fun r : Report => wrong_call (t := t) (many := many) (reports := [r]) (shifts := shifts) (l := l) (ys := [encReport r]) (by omega) (by simp) hxs rfl hzs 2 (.inl rfl)
  have w5 := fun (r : Report) (s : Int) => sight_Sees t r s l (by omega) hxs
  rw [encTables_eq t hss hcs hws hms hks, ← hnv] at w1 w2 w3
  simp only [encTables_eq t hss hcs hws hms hks, ← hnv] at w4 w5
  have hroom1 : A.room (A.nLen (A.lApp [] aS)) 56 := by subst hA; show ([] ++ aS).length * (56 + 1) ≤ 140737488355328; simp; omega
  have hroom2 : A.room (A.nLen (A.lApp (A.lApp [] aS) bS)) 56 := by subst hA; show (([] ++ aS) ++ bS).length * (56 + 1) ≤ 140737488355328; simp; omega
  have htk : A.tkEq (A.nLen (A.lApp [] aS)) (A.nLen (A.lApp [] aS)) := by subst hA; rfl
  have hz0 : A.iEq (A.lLen []) 0 = true := by subst hA; rfl
  have hz0' : PV.bool (A.iEq (A.lLen []) 0) = q := by rw [← hq, hz0]
  rcases w1 with ⟨W1, hW1, e1, w1⟩ | ⟨e, he, e1, w1⟩
  rotate_left
  · refine call_intro hA w1 ?_
    conv => cbv
    rcases w2 with ⟨W2, hW2, e2, w2⟩ | ⟨f, hf, e2, w2⟩
    all_goals
      refine call_intro hA w2 ?_
      conv => cbv
      refine ⟨draw_intro hA (by kernel_rfl), hroom1, ⟨htk, hroom2⟩, ?_⟩
      rcases w3 with ⟨W3, hW3, e3, w3⟩ | ⟨g, hg, e3, w3⟩
      · cases (show False from he (e1.symm.trans (happ.1 e3).1))
      refine call_intro' hA w3 (by subst hA; rfl) ?_
      conv => cbv
      split
      rotate_left
      · rename_i hc
        cases (he (neF hA hc))
      conv => cbv
      split
      rotate_left
      · rename_i hc
        cases (hg (neF hA hc))
      conv => cbv
      exact hz0'
  · refine call_intro hA w1 ?_
    conv => cbv
    rcases w2 with ⟨W2, hW2, e2, w2⟩ | ⟨f, hf, e2, w2⟩
    rotate_left
    · refine call_intro hA w2 ?_
      conv => cbv
      refine ⟨draw_intro hA (by kernel_rfl), hroom1, ⟨htk, hroom2⟩, ?_⟩
      rcases w3 with ⟨W3, hW3, e3, w3⟩ | ⟨g, hg, e3, w3⟩
      · cases (show False from hf (e2.symm.trans (happ.1 e3).2))
      refine call_intro' hA w3 (by subst hA; rfl) ?_
      conv => cbv
      split
      · rename_i hc
        cases (neT hA hc rfl)
      conv => cbv
      split
      rotate_left
      · rename_i hc
        cases (hf (neF hA hc))
      conv => cbv
      split
      rotate_left
      · rename_i hc
        cases (hg (neF hA hc))
      conv => cbv
      exact hz0'
    refine call_intro hA w2 ?_
    conv => cbv
    refine ⟨draw_intro hA (by kernel_rfl), hroom1, ⟨htk, hroom2⟩, ?_⟩
    rcases w3 with ⟨W3, hW3, e3, w3⟩ | ⟨g, hg, e3, w3⟩
    rotate_left
    · cases (show False from hg (e3.symm.trans (happ.2 ⟨e1, e2⟩)))
    refine call_intro' hA w3 (by subst hA; rfl) ?_
    conv => cbv
    split
    · rename_i hc
      cases (neT hA hc rfl)
    conv => cbv
    split
    · rename_i hc
      cases (neT hA hc rfl)
    conv => cbv
    obtain ⟨hm0, hm4, hst⟩ := wrongErr_in e1
    have hlen : ∀ R, A.lLen (encInts (wrongL t many R shifts l)) = many := fun R => by
      rw [lenI hA (show (encInts (wrongL t many R shifts l)).length = many.toNat by simp [encInts, wrongL_len])]; omega
    have hl1 : A.lLen W1 = many := by rw [hW1]; exact hlen _
    have hl2 : A.lLen W2 = many := by rw [hW2]; exact hlen _
    have hl3 : A.lLen W3 = many := by rw [hW3]; exact hlen _
    split
    · rename_i hc
      cases (neT hA hc rfl)
    conv => cbv
    split
    · rename_i hc
      cases (neT' hA hl1 rfl hc rfl)
    conv => cbv
    split
    · rename_i hc
      cases (neT' hA hl2 rfl hc rfl)
    conv => cbv
    split
    · rename_i hc
      cases (neT' hA hl3 rfl hc rfl)
    conv => cbv
    refine loop_set hA (fun (i : Int) s => s.put (some 19) (.val (.int .i64 i))) (fun i => 0 ≤ i ∧ i ≤ many) (fun i => (many - i).toNat) 0 ?_ ?_ ?_
    · conv => cbv
      exact wk_sl (by repeat (first | refine leL_same ?_ | refine leL_any ?_ | exact leL_nil))
    · exact ⟨Int.le_refl _, hm0⟩
    · rintro R k ⟨hk0, hk1⟩ hR2
      conv => cbv
      split
      · rename_i hd
        have hd' : k < many := ltT hA hd
        have hkl : ∀ L, k < (wrongL t many L shifts l).length := fun L => by rw [wrongL_len]; omega
        conv => cbv
        refine ⟨draw_intro hA (by kernel_rfl), ?_⟩
        refine idx_Int hA hW3 hk0 (hkl _) (fun x3 hx3 => ?_)
        have hx3 := wrongL_get hx3
        conv => cbv
        refine idx_Int hA hW1 hk0 (hkl _) (fun x1 hx1 => ?_)
        have hx1 := wrongL_get hx1
        conv => cbv
        refine idx_Int hA hW2 hk0 (hkl _) (fun x2 hx2 => ?_)
        have hx2 := wrongL_get hx2
        have b1 := wrongN_le shifts (stL t l) a k.toNat
        have b2 := wrongN_le shifts (stL t l) b k.toNat
        have hsum := wrongN_append shifts (stL t l) a b k.toNat
        conv => cbv
        refine ⟨inR' hA (addI hA x1 x2) (by unfold inI64; omega), ?_⟩
        split
        · rename_i hd
          cases (show False from neT' hA rfl (addI hA x1 x2) hd (by omega))
        conv => cbv
        have hk1' : A.iAdd k 1 = k + 1 := addI hA _ _
        refine ⟨inR' hA hk1' (by unfold inI64; omega), hR2 (A.iAdd k 1) _ ?_ ?_ ?_⟩
        · conv => cbv
          exact wk_sl (by repeat (first | refine leL_same ?_ | refine leL_any ?_ | exact leL_nil))
        · show 0 ≤ A.iAdd k 1 ∧ A.iAdd k 1 ≤ many
          rw [hk1']; omega
        · show (many - A.iAdd k 1).toNat < (many - k).toNat
          rw [hk1']; omega
      · conv => cbv
        refine loop_set hA (fun (i : Int) s => s.put (some 20) (.val (.int .i64 i))) (fun i => 0 ≤ i ∧ i ≤ (a.length : Int) ∧ (fun _ => True) i) (fun i => ((a.length : Int) - i).toNat) 0 ?_ ?_ ?_
        · conv => cbv
          exact wk_sl (by repeat (first | refine leL_same ?_ | refine leL_any ?_ | exact leL_nil))
        · exact ⟨Int.le_refl _, by omega, trivial⟩
        rintro R j ⟨hj0, hj1, hj2⟩ hRj
        conv => cbv
        split
        ·   rename_i hc
            have hj : j < (a.length : Int) := ltT' hA rfl (lenI hA hal) hc
            have hjs : A.iAdd j 1 = j + 1 := addI hA _ _
            have hjr : A.inR (A.iAdd j 1) := inR' hA hjs (by unfold inI64; omega)
            have hjm : ((a.length : Int) - A.iAdd j 1).toNat < ((a.length : Int) - j).toNat := by rw [hjs]; omega
            have hjn : (fun _ => True) (j + 1) → 0 ≤ A.iAdd j 1 ∧ A.iAdd j 1 ≤ (a.length : Int) ∧ (fun _ => True) (A.iAdd j 1) := fun h => by rw [hjs]; exact ⟨by omega, by omega, h⟩
            simp only at hjn
            conv => cbv
            obtain ⟨r, hr0⟩ : ∃ r, a[j.toNat]? = some r := ⟨_, List.getElem?_eq_getElem (by omega)⟩
            have hm := List.mem_of_getElem? hr0
            have hsub : A.lSub aS j (A.iAdd j 1) = [encReport r] := by
              rw [hjs]
              subst hA
              show (aS.take (j + 1).toNat).drop j.toNat = _
              rw [haS, show (j + 1).toNat = j.toNat + 1 by omega, encReports, ← List.map_take, ← List.map_drop, List.take_add_one, hr0, List.drop_append_of_le_length (by simp; omega), List.drop_eq_nil_of_le (by simp; omega)]
              rfl
            refine ⟨draw_intro hA (by kernel_rfl), ?_⟩
            refine ⟨hjr, slI hA rfl hjs (lenI hA hal) hj0 (by omega) (by omega), ?_⟩
            rcases w4 r with ⟨W4, hW4, e4, w4⟩ | ⟨g, hg, e4, w4⟩
            rotate_left
            · cases (show False from hg (e4.symm.trans (wrongErr_mem e1 hm)))
            refine call_intro' hA w4 (by show [_, _, PV.list 6 (A.lSub aS j (A.iAdd j 1)), _, _] = _; rw [hsub]) ?_
            have hl4 : A.lLen W4 = many := by rw [hW4]; exact hlen _
            obtain ⟨q1, q2⟩ := hst r hm
            have hlsh := wrongErr_len e1
            have hone := wrongN_one shifts (stL t l) r q1
            have hse := fun s hs => wrongErr_sees (s := s) e1 hm hs
            have hsb : ∀ s, s ∈ shifts → seesB t r s l = rightB r s (stL t l) := fun s hs => by unfold seesB; rw [if_pos (hse s hs)]
            obtain ⟨r1, r2, r3, r4, r5, r6⟩ := r
            simp only at q1 q2 hone
            conv => cbv
            refine ⟨draw_intro hA (by kernel_rfl), ?_⟩
            refine idx_Report hA haS hj0 hj (fun z hz => ?_)
            obtain rfl := Option.some.inj (hr0.symm.trans hz)
            conv => cbv
            refine idx_Report hA haS hj0 hj (fun z hz => ?_)
            obtain rfl := Option.some.inj ((hr0).symm.trans hz)
            conv => cbv
            refine idx_Int hA hzs q1 (by omega) (fun s hs => ?_)
            have hsm := List.mem_of_getElem? hs
            have w7 := w5 ⟨r1, r2, r3, r4, r5, r6⟩ s
            rw [hse s hsm, hsb s hsm] at w7
            rw [List.getD_eq_getElem?_getD, hs, Option.getD_some] at hone
            obtain ⟨rb, hrb⟩ : ∃ rb, rb = rightB ⟨r1, r2, r3, r4, r5, r6⟩ s (stL t l) := ⟨_, rfl⟩
            rw [← hrb] at w7 hone
            conv => cbv
            refine call_intro hA w7 ?_
            conv => cbv
            split
            · rename_i hc
              cases (neT hA hc rfl)
            conv => cbv
            split
            · rename_i hc
              cases (neT hA hc rfl)
            conv => cbv
            split
            · rename_i hc
              cases (neT' hA hl4 rfl hc rfl)
            conv => cbv
            refine idx_Report hA haS hj0 hj (fun z hz => ?_)
            obtain rfl := Option.some.inj ((hr0).symm.trans hz)
            conv => cbv
            refine idx_Int hA hW4 q1 (by rw [wrongL_len]; omega) (fun x hx => ?_)
            have hx := wrongL_get hx
            rw [hone] at hx
            conv => cbv
            split
            · rename_i hc
              cases ((show False by have h := bneIT hA hc; rw [hx] at h; cases rb <;> simp at h))
            conv => cbv
            exact ⟨hjr, hRj (A.iAdd j 1) _ (by (conv => cbv); exact wk_sl (by repeat (first | refine leL_same ?_ | refine leL_any ?_ | exact leL_nil))) (hjn trivial) hjm⟩
        rename_i hc
        have hj : j = (a.length : Int) := by have := ltF' hA rfl (lenI hA hal) hc; omega
        conv => cbv
        exact hq
end Go.Abs
