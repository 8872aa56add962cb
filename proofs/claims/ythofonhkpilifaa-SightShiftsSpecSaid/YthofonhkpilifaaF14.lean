/-
  Functions: sight.Wrong.
-/
import Derived.Test.YthofonhkpilifaaF13
namespace Go.Abs
open Go.RowKit Go.Proofs

theorem rld_cell {A : Ops} {E : Env} (hA : A = stdOps E) {t : TypeId} {id off i m k : Nat} {st : St} {K : SV → St → Prop} {C : List SV} {c : SV} (hb : st.bx.getD id none = some C) (ha : (E.T t).agg = false) (hs : (E.T t).size = 1) (hc : C[off + i * m + k]? = some c) (hk : K c st) :
    A.rld t (.rbx id off i m k) st K := by
  refine rld_intro hA ?_
  simp only [SV.norm, opLoad, hb, ha, hs, Bool.false_eq_true, if_false, if_true]
  refine ⟨(List.getElem?_eq_some_iff.1 hc).1, ?_⟩
  simp only [List.getD_eq_getElem?_getD, hc, Option.getD_some]
  exact hk
theorem rst_cell {A : Ops} {E : Env} (hA : A = stdOps E) {t : TypeId} {id off i m k : Nat} {st : St} {K : SV → St → Prop} {C C2 : List SV} {v : SV} (hb : st.bx.getD id none = some C) (ha : (E.T t).agg = false) (hs : (E.T t).size = 1) (hv : v.one = true) (hc : off + i * m + k < C.length)
    (h2 : C2 = C.set (off + i * m + k) v) (hk : K .undef (st.setBx id (some C2))) : A.rst t (.rbx id off i m k) v st K := by
  refine rst_intro hA ?_
  simp only [SV.norm, opStore, hb, ha, hs, hv, Bool.false_eq_true, if_false, and_self, if_true]
  subst h2
  exact ⟨hc, hk⟩

theorem ret_row {E : Env} (hrows : E.rows = true) {st : St} {id m : Nat} {cs : List SV} {xs : List PV} {n t1 t2 : Nat} {e : Int} (h1 : st.bx.getD id none = some cs) (h2 : cs = (xs.flatMap PV.cells).map SV.val) (hm : ∀ x ∈ xs, x.cells.length = m) (hn : n ≤ xs.length)
    (hs1 : st.sl[t1]? = some (.msl id 0 n)) (hs2 : st.sl[t2]? = some (.val (.int .i64 e))) : retFz E [.tmp t1, .tmp t2] st (.tup [.list m (xs.take n), .int .i64 e]) := by
  unfold retFz
  rw [hrows]
  refine ⟨_, Frz.row id m cs xs st _ [] [] h1 h2 hm (Frz.refl _ _), ?_⟩
  have e1 : ((st.sealRow id m xs).sl.getD t1 .undef) = .val (.list m (xs.take n)) := by
    simp only [St.sealRow, List.getD_eq_getElem?_getD, List.getElem?_map, hs1, Option.map_some, Option.getD_some, rowSV]
    rw [if_pos ⟨trivial, trivial, hn⟩]
  have e2 : ((st.sealRow id m xs).sl.getD t2 .undef) = .val (.int .i64 e) := by
    simp only [St.sealRow, List.getD_eq_getElem?_getD, List.getElem?_map, hs2, Option.map_some, Option.getD_some, rowSV]
    rfl
  unfold retOk
  simp only [resPV, e1, e2, SV.pv]
  exact ⟨trivial, rfl⟩

/-- How many reports of a station are wrong. -/
def wrongN (shifts : List Int) (st : List Stay) (l : List Report) (j : Nat) : Int := ((l.filter fun r => decide (r.Station = (j : Int)) && !rightB r (shifts.getD r.Station.toNat 0) st).length : Nat)
def wrongIn (many : Int) (reports : List Report) (shifts : List Int) : Bool := inB many 0 4 && decide ((shifts.length : Int) = many) && shifts.all isShiftB && !reports.any (repBad many)
def wrongErr (t : Tables) (many : Int) (reports : List Report) (shifts : List Int) (l : List Path) : Int := if wrongIn many reports shifts then stErr t l else 230
def wrongL (t : Tables) (many : Int) (reports : List Report) (shifts : List Int) (l : List Path) : List Int := (List.range many.toNat).map (wrongN shifts (stL t l) reports)
def wrongRes (t : Tables) (many : Int) (reports : List Report) (shifts : List Int) (l : List Path) : PV := if wrongErr t many reports shifts l = 0 then .list 1 (encInts (wrongL t many reports shifts l)) else .list 0 []

theorem wrongN_snoc (shifts : List Int) (st : List Stay) (l : List Report) (r : Report) (j : Nat) : wrongN shifts st (l ++ [r]) j = wrongN shifts st l j + if r.Station = (j : Int) ∧ rightB r (shifts.getD r.Station.toNat 0) st = false then 1 else 0 := by
  unfold wrongN
  rw [List.filter_append, List.length_append, List.filter_cons, List.filter_nil]
  by_cases h1 : r.Station = (j : Int)
  · cases h2 : rightB r (shifts.getD r.Station.toNat 0) st <;> simp only [h1, decide_true, Bool.true_and, Bool.not_true, Bool.not_false, if_true, Bool.false_eq_true, if_false, true_and, and_true, and_false, List.length_nil, List.length_singleton] <;> first | rfl | omega
  · simp [h1]

theorem wrongN_le (shifts : List Int) (st : List Stay) (l : List Report) (j : Nat) : 0 ≤ wrongN shifts st l j ∧ wrongN shifts st l j ≤ l.length := by
  unfold wrongN
  have := List.length_filter_le (fun r => decide (r.Station = (j : Int)) && !rightB r (shifts.getD r.Station.toNat 0) st) l
  omega

theorem flat_ints' (l : List Int) : (encInts l).flatMap PV.cells = encInts l := by
  induction l with
  | nil => rfl
  | cons x r ih => simp only [encInts, List.map_cons, List.flatMap_cons] at ih ⊢; rw [ih]; rfl

set_option maxHeartbeats 1000000 in
theorem sight_Wrong (t : Tables) (many : Int) (reports : List Report) (shifts : List Int) (l : List Path) (hl : l.length ≤ 1000) (hrl : reports.length ≤ 1000000) {xs ys zs : List PV} (hx : xs = encPaths l) (hy : ys = encReports reports) (hz : zs = encInts shifts) :
    CallsPV Try.prog 13 [encTables t, .int .i64 many, .list 6 ys, .list 1 zs, .list 2 xs] (.tup [wrongRes t many reports shifts l, .int .i64 (wrongErr t many reports shifts l)]) := by
  refine callsPV_by (clo := fun _ => false) (rows := true) env_ok Try.func13 rfl (enters_of Try.func13 (by kernel_rfl) rfl) (fun A q P Y hr hA hq => ?_)
  have hyl : A.lLen ys = reports.length := by subst hA; show (ys.length : Int) = _; rw [hy]; simp [encReports]
  have hzl : A.lLen zs = shifts.length := by subst hA; show (zs.length : Int) = _; rw [hz]; simp [encInts]
  have hcall := sight_stays t l hl hx
  have hany1 := containsFunc_Int (fun s => !isShiftB s) shifts hz (fun x _ => sight_Wrong2 x)
  have hany2 : inB many 0 4 = true → CallsPV Try.prog 33 [.list 6 ys, .fn 29 [.ptr [.int .i64 many] 0]] (.bool (reports.any (repBad many))) := fun h => by
    simp only [inB, Bool.and_eq_true, decide_eq_true_eq] at h
    exact containsFunc_Report (repBad many) reports hy (fun x _ => sight_Wrong1 many (by omega) x)
  have hE : wrongErr t many reports shifts l = if wrongIn many reports shifts then stErr t l else 230 := rfl
  have hRes : wrongRes t many reports shifts l = if wrongErr t many reports shifts l = 0 then .list 1 (encInts (wrongL t many reports shifts l)) else .list 0 [] := rfl
  have hbad : wrongIn many reports shifts = false → PV.tup [.list 0 [], .int .i64 230] = q := fun h => by rw [← hq, hRes, hE, h]; rfl
  have hWin : wrongIn many reports shifts = (inB many 0 4 && decide ((shifts.length : Int) = many) && shifts.all isShiftB && !reports.any (repBad many)) := rfl
  have hall : shifts.all isShiftB = !shifts.any (fun s => !isShiftB s) := by rw [List.any_eq_not_all_not]; simp
  obtain ⟨L, hL⟩ : ∃ L, L = encStays (stL t l) := ⟨_, rfl⟩
  obtain ⟨b3, hb3⟩ : ∃ b3, b3 = shifts.any (fun s => !isShiftB s) := ⟨_, rfl⟩
  obtain ⟨b4, hb4⟩ : ∃ b4, b4 = reports.any (repBad many) := ⟨_, rfl⟩
  rw [hall, ← hb3, ← hb4] at hWin
  rw [← hb3] at hany1
  rw [← hb4] at hany2
  unfold stRes at hcall
  rw [← hL] at hcall
  obtain ⟨e, he⟩ : ∃ e, e = stErr t l := ⟨_, rfl⟩
  rw [← he] at hcall hE
  obtain ⟨ss, hss⟩ : ∃ ss, ss = encSectors t.Sectors := ⟨_, rfl⟩
  obtain ⟨cs, hcs⟩ : ∃ cs, cs = encConfigs t.Configs := ⟨_, rfl⟩
  obtain ⟨ws, hws⟩ : ∃ ws, ws = encWays t.Ways := ⟨_, rfl⟩
  obtain ⟨ms, hms⟩ : ∃ ms, ms = encIntLs t.Modes := ⟨_, rfl⟩
  obtain ⟨ks, hks⟩ : ∃ ks, ks = encKinds t.Kinds := ⟨_, rfl⟩
  rw [encTables_eq t hss hcs hws hms hks] at hcall ⊢
  obtain ⟨nv, hnv⟩ : ∃ nv, nv = t.Volumes := ⟨_, rfl⟩
  rw [← hnv] at hcall ⊢
  conv => cbv
  refine callB hA (sight_within many 0 4) rfl (fun b1 hb1 => ?_)
  rw [← hb1] at hWin hany2
  conv => cbv
  split
  · rename_i hc
    have h1 : b1 = false := by subst hA; simpa [stdOps] using hc
    conv => cbv
    exact ⟨_, Frz.refl _ _, trivial, hbad (by rw [hWin, h1]; rfl)⟩
  rename_i hc
  have h1 : b1 = true := by subst hA; simpa [stdOps] using hc
  rw [h1] at hb1
  have hm : 0 ≤ many ∧ many ≤ 4 := by simpa [inB] using hb1.symm
  conv => cbv
  split
  · rename_i hc
    have h2 : ¬ (shifts.length : Int) = many := by
      have h' : A.bNot (A.iEq (A.lLen zs) many) = true := hc
      rw [hzl] at h'; subst hA; simpa [stdOps] using h'
    conv => cbv
    exact ⟨_, Frz.refl _ _, trivial, hbad (by rw [hWin]; simp [h2])⟩
  rename_i hc
  have h2 : (shifts.length : Int) = many := by
    have h' : A.bNot (A.iEq (A.lLen zs) many) = false := hc
    rw [hzl] at h'; subst hA; simpa [stdOps] using h'
  conv => cbv
  refine call_intro hA hany1 ?_
  conv => cbv
  cases b3 with
  | true =>
    conv => cbv
    exact ⟨_, Frz.refl _ _, trivial, hbad (by rw [hWin]; simp)⟩
  | false =>
  conv => cbv
  refine call_intro hA (hany2 h1) ?_
  conv => cbv
  cases b4 with
  | true =>
    conv => cbv
    exact ⟨_, Frz.refl _ _, trivial, hbad (by rw [hWin]; simp)⟩
  | false =>
  have hw : wrongIn many reports shifts = true := by rw [hWin, h1]; simp [h2]
  rw [hw, if_pos rfl] at hE
  rw [hE] at hRes hq
  rw [hRes] at hq
  conv => cbv
  by_cases h0 : e = 0
  rotate_left
  · rw [if_neg h0] at hcall hq
    refine call_intro hA hcall ?_
    conv => cbv
    split
    · conv => cbv
      rw [← hq]
      exact ⟨_, Frz.refl _ _, trivial, rfl⟩
    · rename_i hc
      have : e = 0 := by
        have h' : A.bNot (A.iEq e 0) = false := hc
        subst hA; simpa [stdOps] using h'
      exact absurd this h0
  rw [if_pos h0, h0] at hcall
  rw [if_pos h0, h0] at hq
  have heq : A.bNot (A.iEq 0 0) = false := by subst hA; rfl
  refine call_intro hA hcall ?_
  conv => cbv
  split
  · rename_i hc
    have hf : False := absurd (show A.bNot (A.iEq 0 0) = true from hc) (by rw [heq]; simp); cases hf
  have hrep : ∀ r ∈ reports, 0 ≤ r.Station ∧ r.Station < many ∧ 0 ≤ r.Minute ∧ r.Minute ≤ 1439 := fun r hr => by
    have h := (List.any_eq_false.1 hb4.symm) r hr
    simp only [repBad, inB, isMinuteB, Bool.or_eq_true, Bool.not_eq_true', Bool.and_eq_false_iff, decide_eq_false_iff_not] at h
    omega
  have hshf : ∀ s ∈ shifts, -3 ≤ s ∧ s ≤ 3 := fun s hs => by
    have h := (List.any_eq_false.1 hb3.symm) s hs
    simp only [isShiftB, inB, Bool.not_eq_true', Bool.and_eq_false_iff, decide_eq_false_iff_not] at h
    omega
  have hn4 : A.iNat 4 = 4 := by subst hA; rfl
  conv => cbv
  refine loop_set hA (fun (z : Int × List SV) s => { s.put (some 47) (.val (.int .i64 z.1)) with bx := s.bx.set 2 (some z.2) })
    (fun z => 0 ≤ z.1 ∧ z.1 ≤ reports.length ∧ z.2 = (List.range 4).map fun j => SV.val (.int .i64 (wrongN shifts (stL t l) (reports.take z.1.toNat) j))) (fun z => (reports.length - z.1).toNat) (0, [.val (.int .i64 0), .val (.int .i64 0), .val (.int .i64 0), .val (.int .i64 0)]) ?_ ?_ ?_
  · conv => cbv
    exact wk_sl (by simp [leL, leS])
  · exact ⟨Int.le_refl _, by omega, rfl⟩
  · rintro R ⟨i, C⟩ ⟨hi0, hi1, hC⟩ hR
    simp only at hi0 hi1 hC
    have hCl : C.length = 4 := by rw [hC]; rfl
    have hCw : ∀ a b c, C.all (SV.within a b c) = true := by intro a b c; rw [hC]; rfl
    conv => cbv
    split
    · rename_i hc
      have hc' : i < reports.length := by
        have h' : A.iLt i (A.lLen ys) = true := hc
        rw [hyl] at h'; subst hA; simpa [stdOps] using h'
      conv => cbv
      refine idx_Report hA hy hi0 hc' (fun r hr0 => ?_)
      have htake := take_snoc' hi0 hr0
      obtain ⟨q1, q2, q3, q4⟩ := hrep r (List.mem_of_getElem? hr0)
      have hi1' : A.iAdd i 1 = i + 1 := by subst hA; rfl
      have hinr : A.inR (A.iAdd i 1) := by rw [hi1']; subst hA; show inI64 (i + 1); unfold inI64; omega
      have hmu : (reports.length - A.iAdd i 1).toNat < (reports.length - i).toNat := by rw [hi1']; omega
      have hcr : ∀ x, -3 ≤ x → x ≤ 3 → CallsPV Try.prog 24 [encReport r, .int .i64 x, .list 4 L] (.bool (rightB r x (stL t l))) := fun x h1 h2 => sight_right r x (by unfold inI64; omega) _ hL
      have hstep : ∀ x, shifts[r.Station.toNat]? = some x → ∀ C2, C2 = (if rightB r x (stL t l) then C else C.set r.Station.toNat (.val (.int .i64 (wrongN shifts (stL t l) (reports.take i.toNat) r.Station.toNat + 1)))) →
          0 ≤ A.iAdd i 1 ∧ A.iAdd i 1 ≤ reports.length ∧ C2 = (List.range 4).map fun j => SV.val (.int .i64 (wrongN shifts (stL t l) (reports.take (A.iAdd i 1).toNat) j)) := by
        intro x hx C2 hC2
        rw [hi1']
        refine ⟨by omega, by omega, ?_⟩
        rw [htake, hC2]
        have hgx : shifts.getD r.Station.toNat 0 = x := by rw [List.getD_eq_getElem?_getD, hx]; rfl
        apply List.ext_getElem?
        intro j
        cases hb : rightB r x (stL t l) with
        | true =>
          rw [if_pos rfl, hC]
          simp only [List.getElem?_map]
          cases (List.range 4)[j]? with
          | none => rfl
          | some j' => simp only [Option.map_some, wrongN_snoc, hgx, hb]; simp
        | false =>
          simp only [Bool.false_eq_true, if_false]
          rw [List.getElem?_set, hC]
          simp only [List.length_map, List.length_range, List.getElem?_map]
          by_cases hj : r.Station.toNat = j
          · subst hj
            rw [if_pos rfl, if_pos (by omega), List.getElem?_range (by omega)]
            simp only [Option.map_some, wrongN_snoc, hgx, hb]
            rw [if_pos ⟨by omega, trivial⟩]
          · rw [if_neg hj]
            cases hj4 : (List.range 4)[j]? with
            | none => rfl
            | some j' =>
              have : j' = j := by
                have := List.getElem?_eq_some_iff.1 hj4
                obtain ⟨h1, h2⟩ := this
                simpa using h2.symm
              subst this
              simp only [Option.map_some, wrongN_snoc]
              rw [if_neg (by rintro ⟨h, _⟩; omega)]
              simp
      obtain ⟨r1, r2, r3, r4, r5, r6⟩ := r
      simp only at q1 q2 q3 q4 hcr hstep
      have hidx : A.nNat r1 = r1.toNat := by subst hA; rfl
      conv => cbv
      refine ⟨draw_intro hA (by kernel_rfl), ?_⟩
      refine idx_Int hA hz q1 (by omega) (fun x hxs => ?_)
      obtain ⟨s1, s2⟩ := hshf x (List.mem_of_getElem? hxs)
      have hst := hstep x hxs
      conv => cbv
      refine callB hA (hcr x s1 s2) rfl (fun rb hrb => ?_)
      rw [← hrb] at hst
      conv => cbv
      cases rb with
      | true =>
        have hbt : A.bNot true = false := by subst hA; rfl
        split
        · rename_i hc
          have hf : False := absurd (show A.bNot true = true from hc) (by rw [hbt]; simp); cases hf
        conv => cbv
        refine ⟨hinr, hR (A.iAdd i 1, C) _ ?_ (hst C rfl) hmu⟩
        (conv => cbv)
        exact wk_round (bx := [_, _, _]) (bx' := [_]) (mp := []) (mp' := []) (by simp [leL, leS]) (by simp) (by simp) rfl (by simp [hCw, SV.within])
      | false =>
        have hbt : A.bNot false = true := by subst hA; rfl
        split
        rotate_left
        · rename_i hc
          have hf : False := absurd (show A.bNot false = false from hc) (by rw [hbt]; simp); cases hf
        conv => cbv
        have hwl := wrongN_le shifts (stL t l) (reports.take i.toNat) r1.toNat
        have htl : (reports.take i.toNat).length ≤ reports.length := by rw [List.length_take]; omega
        have hcell : C[0 + A.nNat r1 * 1 + 0]? = some (SV.val (.int .i64 (wrongN shifts (stL t l) (reports.take i.toNat) r1.toNat))) := by
          rw [hidx, hC, List.getElem?_map, List.getElem?_range (by omega)]
          simp
        obtain ⟨n, hn⟩ : ∃ n, n = wrongN shifts (stL t l) (reports.take i.toNat) r1.toNat := ⟨_, rfl⟩
        rw [← hn] at hcell hst hwl
        have hwith : A.within r1 (A.iNat 4) := by rw [hn4]; subst hA; show 0 ≤ r1 ∧ r1 < 4; omega
        have hn1 : A.iAdd n 1 = n + 1 := by subst hA; rfl
        have hinn : A.inR (A.iAdd n 1) := by rw [hn1]; subst hA; show inI64 (n + 1); unfold inI64; omega
        obtain ⟨C2, hC2⟩ : ∃ C2, C2 = C.set (0 + A.nNat r1 * 1 + 0) (.val (.int .i64 (A.iAdd n 1))) := ⟨_, rfl⟩
        have hC2' : C2 = if false = true then C else C.set r1.toNat (.val (.int .i64 (n + 1))) := by rw [hC2, hidx, hn1]; simp
        have hst2 := hst C2 hC2'
        have hCw2 : ∀ a b c, C2.all (SV.within a b c) = true := by intro a b c; rw [hst2.2.2]; rfl
        refine ⟨hwith, rld_cell (E := ⟨Try.prog, tab, fun _ => false, true, .none⟩) hA rfl rfl rfl hcell ?_⟩
        conv => cbv
        refine ⟨hinn, hwith, rst_cell (E := ⟨Try.prog, tab, fun _ => false, true, .none⟩) hA rfl rfl rfl rfl (by show 0 + A.nNat r1 * 1 + 0 < C.length; rw [hidx, hCl]; omega) hC2 ?_⟩
        conv => cbv
        refine ⟨hinr, hR (A.iAdd i 1, C2) _ ?_ hst2 hmu⟩
        (conv => cbv)
        exact wk_round (bx := [_, _, _]) (bx' := [_]) (mp := []) (mp' := []) (by simp [leL, leS]) (by simp) (by simp) rfl (by simp [hCw2, SV.within])
    · rename_i hc
      have hc' : ¬ i < reports.length := by
        have h' : A.iLt i (A.lLen ys) = false := hc
        rw [hyl] at h'; subst hA; simp [stdOps] at h'; omega
      conv => cbv
      rw [List.take_of_length_le (by omega)] at hC
      obtain ⟨W, hW⟩ : ∃ W, W = (List.range 4).map (wrongN shifts (stL t l) reports) := ⟨_, rfl⟩
      have hCW : C = ((encInts W).flatMap PV.cells).map SV.val := by
        rw [flat_ints', hC, hW]; rfl
      have hnm : A.nNat many = many.toNat := by subst hA; rfl
      have hlist : encInts (wrongL t many reports shifts l) = (encInts W).take (A.nNat many) := by
        rw [hnm, hW]
        unfold wrongL encInts
        rw [← List.map_take, ← List.map_take, List.take_range, Nat.min_eq_left (by omega)]
      refine ⟨⟨by subst hA; exact ⟨Int.le_refl _, hm.1, Int.le_refl _⟩, by show A.sl 0 many (A.iNat 4); rw [hn4]; subst hA; exact ⟨Int.le_refl _, hm.1, hm.2⟩⟩, ?_⟩
      rw [← hq, hlist]
      exact ret_row (E := ⟨P, tab, fun _ => false, true, Y⟩) rfl (id := 2) (m := 1) (cs := C) (xs := encInts W) (n := A.nNat many) (t1 := 10) (t2 := 11) (e := 0) rfl hCW (fun x hx => by simp only [encInts, List.mem_map] at hx; obtain ⟨y, _, rfl⟩ := hx; rfl) (by rw [hnm, hW]; simp [encInts]; omega) rfl rfl
end Go.Abs
