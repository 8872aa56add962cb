/-
  Functions: occupancy's.
  Functions: occupancy.Stays.
  Functions: occupancy.Stays, sight.stays, sight.Sees.
  Functions: sight.Wrong.
-/
import Derived.Test.YtcafjndjnfdnpaaGreatF4
import Derived.Test.YtcafjndjnfdnpaaGreatS1
import Derived.Test.YtcafjndjnfdnpaaGreatF7
set_option linter.unusedVariables false
set_option linter.unusedSimpArgs false
namespace Go.Abs
open Go.RowKit Go.Proofs

theorem timesFrom_drop (l : List Int) (i : Nat) (h : i < l.length) (p : Int) : timesFrom p (l.drop i) = (decide (0 ≤ l[i]) && decide (l[i] ≤ 65535) && decide (p < l[i]) && timesFrom l[i] (l.drop (i + 1))) := by
  rw [List.drop_eq_getElem_cons h, timesFrom]

/-- The minute before. -/
def prevT (l : List Int) (i : Int) : Int := if i = 0 then -1 else l.getD (i - 1).toNat 0

set_option maxHeartbeats 1000000 in
theorem occ_check (t : Tables) (hair : airOk t = true) (p : Path) : CallsPV Tryz.prog 60 [encTables t, encPath p] (.int .i64 (if pathOk t.Ways p then 0 else 160)) := by
  refine callsPV_by (clo := fun _ => false) (rows := false) env_ok Tryz.func60 rfl (enters_of Tryz.func60 (by kernel_rfl) rfl) (fun A q P Y hr hA hq => ?_)
  have bad : ∀ b, pathOk t.Ways p = b → b = false → PV.int .i64 160 = q := by
    intro b hb hbf
    subst hbf
    rw [← hq, hb]; rfl
  have hlenT : p.Times.length ≤ 9223372036854775807 := by
    have h1 := Real.cell (show Real [.agg _] from hr.mem (p := encPath p) (by simp)) (c := .list 1 (encInts p.Times)) (by simp)
    simpa [encInts] using h1.len
  obtain ⟨ss, hss⟩ : ∃ ss, ss = encSectors t.Sectors := ⟨_, rfl⟩
  obtain ⟨cs, hcs⟩ : ∃ cs, cs = encConfigs t.Configs := ⟨_, rfl⟩
  obtain ⟨ws, hws⟩ : ∃ ws, ws = encWays t.Ways := ⟨_, rfl⟩
  obtain ⟨ms, hms⟩ : ∃ ms, ms = encIntLs t.Modes := ⟨_, rfl⟩
  obtain ⟨ks, hks⟩ : ∃ ks, ks = encKinds t.Kinds := ⟨_, rfl⟩
  obtain ⟨ts, hts⟩ : ∃ ts, ts = encInts p.Times := ⟨_, rfl⟩
  have hwl : ws.length = t.Ways.length := by rw [hws]; simp [encWays]
  have htl : ts.length = p.Times.length := by rw [hts]; simp [encInts]
  rw [encTables_eq t hss hcs hws hms hks, encPath_eq p hts]
  obtain ⟨way, T⟩ := p
  simp only at bad hts htl hlenT hq ⊢
  obtain ⟨nv, hnv⟩ : ∃ nv, nv = t.Volumes := ⟨_, rfl⟩
  rw [← hnv]
  conv => cbv
  refine ⟨draw_intro hA (by kernel_rfl), ?_⟩
  split
  · rename_i h
    have h1 : way < 0 := by subst hA; simpa [stdOps] using h
    conv => cbv
    exact bad _ rfl (by unfold pathOk; simp only; rw [if_neg (by omega)])
  rename_i h
  have h1 : 0 ≤ way := by subst hA; have t := h; simp [stdOps] at t; omega
  conv => cbv
  split
  · rename_i h
    have h2 : t.Ways.length ≤ way := by subst hA; have t := h; simp [stdOps] at t; omega
    conv => cbv
    exact bad _ rfl (by unfold pathOk; simp only; rw [if_pos h1, List.getElem?_eq_none (by omega)])
  rename_i h
  have h2 : way < t.Ways.length := by subst hA; have t := h; simp [stdOps] at t; omega
  conv => cbv
  refine idx_Way hA hws h1 h2 (fun w v hw hv => ?_)
  have hvl : v.length = w.Legs.length := by rw [hv]; simp [encLegs]
  have hP : pathOk t.Ways ⟨way, T⟩ = (decide (T.length = w.Legs.length + 1) && timesFrom (-1) T) := by
    unfold pathOk; simp only; rw [if_pos h1, hw]
  obtain ⟨w1, w2, w3⟩ := w
  have hw8 := air_legs hair (List.mem_of_getElem? hw)
  simp only at hvl hP hw8
  have hv8 : A.lLen v = w3.length := by subst hA; show (v.length : Int) = _; rw [hvl]
  have htT : A.lLen ts = T.length := by subst hA; show (ts.length : Int) = _; rw [htl]
  have hadd : A.iAdd (A.lLen v) 1 = w3.length + 1 := by rw [hv8]; subst hA; rfl
  conv => cbv
  refine ⟨by subst hA; show inI64 (v.length + 1); unfold inI64; omega, ?_⟩
  split
  · rename_i h
    have h3 : ¬ T.length = w3.length + 1 := by
      have h' : A.bNot (A.iEq (A.lLen ts) (A.iAdd (A.lLen v) 1)) = true := h
      rw [htT, hadd] at h'
      subst hA; simp [stdOps] at h'; omega
    conv => cbv
    exact bad _ rfl (by rw [hP]; simp [h3])
  rename_i h
  have h3 : T.length = w3.length + 1 := by
    have h' : A.bNot (A.iEq (A.lLen ts) (A.iAdd (A.lLen v) 1)) = false := h
    rw [htT, hadd] at h'
    subst hA; simp [stdOps] at h'; omega
  rw [show (decide (T.length = w3.length + 1) && timesFrom (-1) T) = timesFrom (-1) T by simp [h3]] at hP
  rw [hP] at hq bad
  conv => cbv
  refine loop_set hA (fun (i : Int) s => s.put (some 36) (.val (.int .i64 i))) (fun i => 0 ≤ i ∧ i ≤ T.length ∧ timesFrom (-1) T = timesFrom (prevT T i) (T.drop i.toNat)) (fun i => (T.length - i).toNat) 0 ?_ ?_ ?_
  · conv => cbv
    exact wk_sl (by simp [leL, leS])
  · exact ⟨Int.le_refl _, by omega, by simp [prevT]⟩
  · rintro R i ⟨hi0, hi1, hi2⟩ hR
    conv => cbv
    split
    · rename_i hc
      have hc' : i < T.length := by
        have h' : A.iLt i (A.lLen ts) = true := hc
        rw [htT] at h'; subst hA; simpa [stdOps] using h'
      have hn : i.toNat < T.length := by omega
      rw [timesFrom_drop T i.toNat hn] at hi2
      conv => cbv
      refine idx_Int hA hts hi0 hc' (fun x hx => ?_)
      have hxv : T[i.toNat] = x := (List.getElem?_eq_some_iff.1 hx).2
      rw [hxv] at hi2
      have step : 0 ≤ x → x ≤ 65535 → prevT T i < x → (0 ≤ A.iAdd i 1 ∧ A.iAdd i 1 ≤ T.length ∧ timesFrom (-1) T = timesFrom (prevT T (A.iAdd i 1)) (T.drop (A.iAdd i 1).toNat)) ∧ (T.length - A.iAdd i 1).toNat < (T.length - i).toNat := by
        intro a1 a2 a3
        have e : A.iAdd i 1 = i + 1 := by subst hA; rfl
        rw [e]
        refine ⟨⟨by omega, by omega, ?_⟩, by omega⟩
        rw [hi2, show (i + 1).toNat = i.toNat + 1 by omega]
        simp only [a1, a2, a3, decide_true, Bool.true_and]
        congr 1
        unfold prevT
        rw [if_neg (by omega), show (i + 1 - 1) = i by omega, List.getD_eq_getElem?_getD, hx]; rfl
      have hinr : A.inR (A.iAdd i 1) := by subst hA; show inI64 (i + 1); unfold inI64; omega
      conv => cbv
      split
      · rename_i c1
        have d1 : x < 0 := by subst hA; simpa [stdOps] using c1
        conv => cbv
        exact bad _ rfl (by rw [hi2]; simp; omega)
      rename_i c1
      have d1 : 0 ≤ x := by subst hA; have t := c1; simp [stdOps] at t; omega
      conv => cbv
      split
      · rename_i c2
        have d2 : 65535 < x := by subst hA; simpa [stdOps] using c2
        conv => cbv
        exact bad _ rfl (by rw [hi2]; simp; omega)
      rename_i c2
      have d2 : x ≤ 65535 := by subst hA; have t := c2; simp [stdOps] at t; omega
      conv => cbv
      split
      · rename_i c3
        have d3 : 0 < i := by subst hA; simpa [stdOps] using c3
        conv => cbv
        refine ⟨by subst hA; show inI64 (i - 1); unfold inI64; omega, ?_⟩
        refine idx_Int hA hts (n := A.iSub i 1) (by subst hA; show 0 ≤ i - 1; omega) (by subst hA; show i - 1 < T.length; omega) (fun y hy => ?_)
        have hpy : prevT T i = y := by
          have hy' : T[(i - 1).toNat]? = some y := by subst hA; exact hy
          unfold prevT; rw [if_neg (by omega), List.getD_eq_getElem?_getD, hy']; rfl
        conv => cbv
        split
        · rename_i c4
          have d4 : x ≤ y := by subst hA; simpa [stdOps] using c4
          conv => cbv
          exact bad _ rfl (by rw [hi2, hpy]; simp; omega)
        rename_i c4
        have d4 : y < x := by subst hA; have t := c4; simp [stdOps] at t; omega
        have s12 := step d1 d2 (by omega)
        conv => cbv
        exact ⟨hinr, hR (A.iAdd i 1) _ (by (conv => cbv); exact wk_sl (by simp [leL, leS])) s12.1 s12.2⟩
      · rename_i c3
        have d3 : i = 0 := by subst hA; have t := c3; simp [stdOps] at t; omega
        have hp0 : prevT T i = -1 := by unfold prevT; rw [if_pos d3]
        have s12 := step d1 d2 (by omega)
        conv => cbv
        exact ⟨hinr, hR (A.iAdd i 1) _ (by (conv => cbv); exact wk_sl (by simp [leL, leS])) s12.1 s12.2⟩
    · rename_i hc
      have hc' : ¬ i < T.length := by
        have h' : A.iLt i (A.lLen ts) = false := hc
        rw [htT] at h'; subst hA; simp [stdOps] at h'; omega
      conv => cbv
      rw [← hq, hi2, List.drop_eq_nil_of_le (by omega)]
      rfl
end Go.Abs

namespace Go.Abs
open Go.RowKit Go.Proofs

/-- The legs of a path, with their minutes. -/
def legRows : List Leg → List Int → List (List PV)
  | x :: r, a :: b :: ts => [encLeg x, encSpan ⟨a, b⟩] :: legRows r (b :: ts)
  | _, _ => []

theorem legRows_get : ∀ (ls : List Leg) (ts : List Int) (k : Nat) (x : Leg) (a b : Int), ls[k]? = some x → ts[k]? = some a → ts[k + 1]? = some b → (legRows ls ts)[k]? = some [encLeg x, encSpan ⟨a, b⟩]
  | [], _, k, x, a, b, h, _, _ => by simp at h
  | _ :: _, [], k, x, a, b, _, h, _ => by simp at h
  | _ :: _, [_], k, x, a, b, _, _, h => by simp at h
  | y :: r, u :: v :: ts, 0, x, a, b, h1, h2, h3 => by simp at h1 h2 h3; subst h1 h2 h3; rfl
  | y :: r, u :: v :: ts, k + 1, x, a, b, h1, h2, h3 => by
    simp only [legRows, List.getElem?_cons_succ] at h1 h2 h3 ⊢
    exact legRows_get r (v :: ts) k x a b h1 h2 h3

theorem legRows_len : ∀ (ls : List Leg) (ts : List Int), ts.length = ls.length + 1 → (legRows ls ts).length = ls.length
  | [], _, _ => by simp [legRows]
  | _ :: _, [], h => by simp at h
  | _ :: _, [_], h => by simp at h
  | y :: r, u :: v :: ts, h => by simp only [legRows, List.length_cons]; rw [legRows_len r (v :: ts) (by simpa using h)]

theorem occ_legs1 (t : Tables) (p : Path) (w : Way) (h0 : 0 ≤ p.Way) (hw : t.Ways[p.Way.toNat]? = some w) (hl : p.Times.length = w.Legs.length + 1) (h8 : w.Legs.length ≤ 8) {ss cs ws ms ks ts : List PV} (hws : ws = encWays t.Ways) (hts : ts = encInts p.Times) :
    SeqPV Tryz.prog 163 [.ptr [.int .i64 t.Volumes, .list 5 ss, .list 3 cs, .list 3 ws, .list 1 ms, .list 6 ks] 0, .ptr [.int .i64 p.Way, .list 1 ts] 0] (legRows w.Legs p.Times) := by
  refine seqPV_by (clo := fun n => n == 1000003 || n == 3000314) (rows := false) env_ok Tryz.func163 rfl (enters_of Tryz.func163 (by kernel_rfl) rfl) rfl (fun A P Y Y' y R hr hys hy hA hR => ?_)
  have hT : A.bNot true = false := by subst hA; rfl
  have hF : A.bNot false = true := by subst hA; rfl
  have hlt := (List.getElem?_eq_some_iff.1 hw).1
  obtain ⟨nv, hnv⟩ : ∃ nv, nv = t.Volumes := ⟨_, rfl⟩
  rw [← hnv]
  obtain ⟨way, T⟩ := p
  obtain ⟨w1, w2, ls⟩ := w
  simp only at h0 hw hl h8 hts hys hR hlt ⊢
  rw [legRows_len ls T hl] at hR
  have hyl : Y.ys.length = ls.length := by rw [hys]; exact legRows_len ls T hl
  conv => cbv
  refine idx_Way hA hws h0 (by omega) (fun w v hw' hv => ?_)
  rw [hw] at hw'
  simp only [Option.some.injEq] at hw'
  subst hw'
  simp only at hv
  have hvl : A.lLen v = ls.length := by subst hA; show (v.length : Int) = _; rw [hv]; simp [encLegs]
  conv => cbv
  refine loop_set hA (fun (k : Nat) s => { s.put (some 14) (.val (.int .i64 k)) with ax := ⟨s.ax.mp, k⟩ }) (fun k => k ≤ ls.length) (fun k => ls.length - k) 0 ?_ ?_ ?_
  · conv => cbv
    exact wk_sl (by simp [leL, leS])
  · exact Nat.zero_le _
  · intro R2 k hk hR2
    obtain ⟨i, hi⟩ : ∃ i, i = (k : Int) := ⟨_, rfl⟩
    rw [← hi]
    conv => cbv
    split
    · rename_i hc
      have hc' : k < ls.length := by
        have h' : A.iLt i (A.lLen v) = true := hc
        rw [hvl, hi] at h'; subst hA; simpa [stdOps] using h'
      conv => cbv
      refine idx_Leg hA hv (by omega) (by omega) (fun x u hx hu => ?_)
      have hxk : ls[k]? = some x := by rw [hi, Int.toNat_natCast] at hx; exact hx
      have hi1 : A.iAdd i 1 = ((k + 1 : Nat) : Int) := by subst hA; show i + 1 = _; omega
      have hinr : A.inR (A.iAdd i 1) := by rw [hi1]; subst hA; show inI64 _; unfold inI64; omega
      have hfin : ∀ s', Wk (0, 0) s' _ → R2 s' := fun s' hw => hR2 (k + 1) s' hw (by omega) (by omega)
      obtain ⟨x1, x2, x3, x4⟩ := x
      conv => cbv
      refine ⟨cut_intro hA (by kernel_rfl), ?_⟩
      refine idx_Int hA hts (by omega) (by omega) (fun a ha => ?_)
      conv => cbv
      refine ⟨hinr, ?_⟩
      refine idx_Int hA hts (n := A.iAdd i 1) (by omega) (by omega) (fun b hb => ?_)
      have hget : Y.ys[k]? = some [encLeg ⟨x1, x2, x3, x4⟩, encSpan ⟨a, b⟩] := by
        rw [hys]
        refine legRows_get ls T k _ a b hxk ?_ ?_
        · rw [hi, Int.toNat_natCast] at ha; exact ha
        · rw [hi1, Int.toNat_natCast] at hb; exact hb
      have hgu : Y.ys[k]? = some [.agg [.int .i64 x1, .int .i64 x2, .int .i64 x3, .list 2 u], .agg [.int .i64 a, .int .i64 b]] := by rw [hget, hu]; rfl
      conv => cbv
      refine yld_intro' hA rfl hy hgu ?_ (fun n hn => ?_)
      · conv => cbv
        split
        · rename_i c3
          have hf : False := absurd (show A.bNot true = true from c3) (by rw [hT]; simp); cases hf
        · conv => cbv
          refine ⟨hinr, hfin _ ?_⟩
          rw [← hi1]
          (conv => cbv)
          exact wk_round (bx := []) (bx' := [_]) (mp := []) (mp' := []) (by simp [leL, leS]) (by simp) (by simp) rfl rfl
      · conv => cbv
        split
        · conv => cbv
          exact hR _ (.inr (by rw [hn, hyl]))
        · rename_i c3
          have hf : False := absurd (show A.bNot false = false from c3) (by rw [hF]; simp); cases hf
    · rename_i hc
      have hc' : k = ls.length := by
        have h' : A.iLt i (A.lLen v) = false := hc
        rw [hvl, hi] at h'; subst hA; simp [stdOps] at h'; omega
      conv => cbv
      exact hR _ (.inl hc')


theorem legRows_stay : ∀ (ls : List Leg) (ts : List Int) (k : Nat) (x : List PV), (legRows ls ts)[k]? = some x → ∃ (lg : Leg) (a b : Int), x = [encLeg lg, encSpan ⟨a, b⟩] ∧ (legStays ls ts)[k]? = some ⟨false, lg.Volume, ⟨a, b⟩⟩
  | [], _, k, x, h => by simp [legRows] at h
  | _ :: _, [], k, x, h => by simp [legRows] at h
  | _ :: _, [_], k, x, h => by simp [legRows] at h
  | y :: r, u :: v :: ts, 0, x, h => by simp [legRows] at h; exact ⟨y, u, v, h.symm, rfl⟩
  | y :: r, u :: v :: ts, k + 1, x, h => by
    simp only [legRows, legStays, List.getElem?_cons_succ] at h ⊢
    exact legRows_stay r (v :: ts) k x h

theorem legStays_len : ∀ (ls : List Leg) (ts : List Int), (legStays ls ts).length = (legRows ls ts).length
  | [], _ => by simp [legRows, legStays]
  | _ :: _, [] => by simp [legRows, legStays]
  | _ :: _, [_] => by simp [legRows, legStays]
  | y :: r, u :: v :: ts => by simp only [legRows, legStays, List.length_cons]; rw [legStays_len r (v :: ts)]

theorem occ_legs (nv way : Int) (ss cs ws ms ks ts : List PV) : CallsPV Tryz.prog 94 [.agg [.int .i64 nv, .list 5 ss, .list 3 cs, .list 3 ws, .list 1 ms, .list 6 ks], .agg [.int .i64 way, .list 1 ts]]
    (.fn 163 [.ptr [.int .i64 nv, .list 5 ss, .list 3 cs, .list 3 ws, .list 1 ms, .list 6 ks] 0, .ptr [.int .i64 way, .list 1 ts] 0]) := by
  refine callsPV_by (clo := fun _ => false) (rows := false) env_ok Tryz.func94 rfl (enters_of Tryz.func94 (by kernel_rfl) rfl) (fun A q P Y hr hA hq => ?_)
  conv => cbv
  rw [← hq]

theorem occ_stays1 (a m : Int) (hm : inI64 (m + 1)) : CallsPV Tryz.prog 135 [.int .i64 a, .int .i64 m] (.agg [.bool true, .int .i64 a, .int .i64 m, .int .i64 (m + 1)]) := by
  refine callsPV_by (clo := fun _ => false) (rows := false) env_ok Tryz.func135 rfl (enters_of Tryz.func135 (by kernel_rfl) rfl) (fun A q P Y hr hA hq => ?_)
  conv => cbv
  refine ⟨by subst hA; exact hm, ?_⟩
  rw [← hq]
  subst hA
  rfl

theorem occ_stays (t : Tables) (p : Path) (w : Way) (h0 : 0 ≤ p.Way) (hw : t.Ways[p.Way.toNat]? = some w) (hl : p.Times.length = w.Legs.length + 1) (h8 : w.Legs.length ≤ 8) (hb : ∀ m ∈ p.Times, inI64 (m + 1)) :
    CallsPV Tryz.prog 61 [encTables t, encPath p] (.list 4 (encStays (staysOf w p.Times))) := by
  refine callsPV_by (clo := fun _ => false) (rows := false) env_ok Tryz.func61 rfl (enters_of Tryz.func61 (by kernel_rfl) rfl) (fun A q P Y hr hA hq => ?_)
  have hlt := (List.getElem?_eq_some_iff.1 hw).1
  obtain ⟨ss, hss⟩ : ∃ ss, ss = encSectors t.Sectors := ⟨_, rfl⟩
  obtain ⟨cs, hcs⟩ : ∃ cs, cs = encConfigs t.Configs := ⟨_, rfl⟩
  obtain ⟨ws, hws⟩ : ∃ ws, ws = encWays t.Ways := ⟨_, rfl⟩
  obtain ⟨ms, hms⟩ : ∃ ms, ms = encIntLs t.Modes := ⟨_, rfl⟩
  obtain ⟨ks, hks⟩ : ∃ ks, ks = encKinds t.Kinds := ⟨_, rfl⟩
  obtain ⟨ts, hts⟩ : ∃ ts, ts = encInts p.Times := ⟨_, rfl⟩
  have htl : ts.length = p.Times.length := by rw [hts]; simp [encInts]
  have hseq := occ_legs1 t p w h0 hw hl h8 (ss := ss) (cs := cs) (ms := ms) (ks := ks) hws hts
  rw [encTables_eq t hss hcs hws hms hks, encPath_eq p hts]
  obtain ⟨way, T⟩ := p
  obtain ⟨w1, w2, ls⟩ := w
  simp only at h0 hw hl h8 hb hts hlt hq htl hseq ⊢
  obtain ⟨nv, hnv⟩ : ∃ nv, nv = t.Volumes := ⟨_, rfl⟩
  rw [← hnv] at hseq ⊢
  have hlen0 : A.lLen ts = T.length := by subst hA; show (ts.length : Int) = _; rw [htl]
  conv => cbv
  refine idx_Way hA hws h0 (by omega) (fun w v hw' hv => ?_)
  rw [hw] at hw'
  simp only [Option.some.injEq] at hw'
  subst hw'
  simp only at hv
  conv => cbv
  refine ⟨draw_intro hA (by kernel_rfl), ?_⟩
  refine idx_Int hA hts (n := 0) (by omega) (by omega) (fun a ha => ?_)
  have haT : a ∈ T := List.mem_of_getElem? ha
  conv => cbv
  refine call_intro hA (occ_stays1 w1 a (hb a haT)) ?_
  obtain ⟨a1, ha1⟩ : ∃ a1, a1 = a + 1 := ⟨_, rfl⟩
  rw [← ha1]
  conv => cbv
  refine ⟨by subst hA; show (0 + 1) * (32 + 1) ≤ 140737488355328; omega, ?_⟩
  refine call_intro hA (occ_legs nv way ss cs ws ms ks ts) ?_
  conv => cbv
  have hll := legRows_len ls T hl
  have hsl := legStays_len ls T
  refine rng_intro hA hseq (fun x hx => ?_) (fun (L : List PV) s => { s with bx := s.bx.set 2 (some [.own 0 4 L]), tk := [(A.nLen L, 85)] })
    (fun k L => L = encStays (⟨true, w1, ⟨a, a1⟩⟩ :: (legStays ls T).take k)) [.agg [.bool true, .int .i64 w1, .int .i64 a, .int .i64 a1]] (fun _ => rfl) ?_ ?_ ?_ ?_
  · obtain ⟨k, hk⟩ := List.getElem?_of_mem hx
    obtain ⟨lg, u, v, rfl, _⟩ := legRows_stay ls T k x hk
    rfl
  · conv => cbv
    exact Wk.refl _
  · rfl
  · intro R k L x hx hL hR
    have hkl : k < (legRows ls T).length := (List.getElem?_eq_some_iff.1 hx).1
    obtain ⟨lg, u, v, rfl, hst⟩ := legRows_stay ls T k x hx
    have hLl : L.length ≤ 9 := by rw [hL]; simp [encStays]; omega
    have hnext : A.lApp L [.agg [.bool false, .int .i64 lg.Volume, .int .i64 u, .int .i64 v]] = encStays (⟨true, w1, ⟨a, a1⟩⟩ :: (legStays ls T).take (k + 1)) := by
      subst hA hL
      rw [List.take_add_one, hst]
      show encStays _ ++ _ = _
      simp [encStays, encStay]
    have htk : A.tkEq (A.nLen L) (A.nLen L) := by subst hA; rfl
    have hroom : A.room (A.nLen (A.lApp L [.agg [.bool false, .int .i64 lg.Volume, .int .i64 u, .int .i64 v]])) 32 := by
      subst hA
      show (L ++ [_]).length * (32 + 1) ≤ 140737488355328
      rw [List.length_append, List.length_singleton]; omega
    obtain ⟨l1, l2, l3, l4⟩ := lg
    rw [show encLeg ⟨l1, l2, l3, l4⟩ = .agg [.int .i64 l1, .int .i64 l2, .int .i64 l3, .list 2 (encSpans l4)] from rfl]
    generalize encSpans l4 = u4
    simp only at hnext hroom
    conv => cbv
    refine ⟨⟨htk, hroom⟩, hR (A.lApp L [.agg [.bool false, .int .i64 l2, .int .i64 u, .int .i64 v]]) _ ?_ hnext⟩
    conv => cbv
    exact wk_round (bx := [_, _, _, _]) (bx' := [_, _]) (mp := []) (mp' := []) (by simp [leL, leS]) (by simp) (by simp) rfl rfl
  · intro L hL
    rw [hll, List.take_of_length_le (by omega)] at hL
    have hLl : L.length ≤ 9 := by rw [hL]; simp [encStays]; omega
    have hsub : A.iSub (A.lLen ts) 1 = ls.length := by rw [hlen0]; subst hA; show (T.length : Int) - 1 = _; omega
    conv => cbv
    refine ⟨draw_intro hA (by kernel_rfl), by (show A.inR (A.iSub (A.lLen ts) 1)); rw [hsub]; subst hA; show inI64 _; unfold inI64; omega, ?_⟩
    refine idx_Int hA hts (n := A.iSub (A.lLen ts) 1) (by omega) (by omega) (fun z hz => ?_)
    rw [hsub, Int.toNat_natCast] at hz
    have hzT : z ∈ T := List.mem_of_getElem? hz
    have hroom : A.room (A.nLen (A.lApp L [.agg [.bool true, .int .i64 w2, .int .i64 z, .int .i64 (z + 1)]])) 32 := by
      subst hA
      show (L ++ [_]).length * (32 + 1) ≤ 140737488355328
      rw [List.length_append, List.length_singleton]; omega
    have hres : A.lApp L [.agg [.bool true, .int .i64 w2, .int .i64 z, .int .i64 (z + 1)]] = encStays (staysOf ⟨w1, w2, ls⟩ T) := by
      have hh : T.headD 0 = a := by rw [Int.toNat_zero] at ha; cases T with
        | nil => simp at ha
        | cons x r => simp at ha; exact ha
      have hg : T.getLastD 0 = z := by
        rw [List.getLastD_eq_getLast?, List.getLast?_eq_getElem?, show T.length - 1 = ls.length by omega, hz]; rfl
      unfold staysOf
      rw [hh, hg, ← ha1]
      subst hA hL
      show encStays _ ++ _ = _
      simp [encStays, encStay]
    have htk : A.tkEq (A.nLen L) (A.nLen L) := by subst hA; rfl
    conv => cbv
    refine call_intro hA (occ_stays1 w2 z (hb z hzT)) ?_
    obtain ⟨z1, hz1⟩ : ∃ z1, z1 = z + 1 := ⟨_, rfl⟩
    rw [← hz1] at hroom hres ⊢
    conv => cbv
    refine ⟨⟨htk, hroom⟩, ?_⟩
    rw [← hq, ← hres]
end Go.Abs

namespace Go.Abs
open Go.RowKit Go.Proofs

/-- The stays on a path of valid tables. -/
def staysP (t : Tables) (p : Path) : List Stay :=
  match (if 0 ≤ p.Way then t.Ways[p.Way.toNat]? else none) with
  | none => []
  | some w => staysOf w p.Times
def stErr1 (t : Tables) (p : Path) : Int := if airOk t then (if pathOk t.Ways p then 0 else 160) else 140
def stRes1 (t : Tables) (p : Path) : PV := if stErr1 t p = 0 then .list 4 (encStays (staysP t p)) else .list 0 []

theorem timesFrom_mem : ∀ (l : List Int) (p : Int), timesFrom p l = true → ∀ m ∈ l, 0 ≤ m ∧ m ≤ 65535
  | [], _, _, m, hm => by cases hm
  | x :: r, p, h, m, hm => by
    simp only [timesFrom, Bool.and_eq_true, decide_eq_true_eq] at h
    rcases List.mem_cons.1 hm with rfl | hm
    · omega
    · exact timesFrom_mem r x h.2 m hm

theorem pathOk_way {t : Tables} {p : Path} (h : pathOk t.Ways p = true) : ∃ w, 0 ≤ p.Way ∧ t.Ways[p.Way.toNat]? = some w ∧ p.Times.length = w.Legs.length + 1 ∧ (∀ m ∈ p.Times, 0 ≤ m ∧ m ≤ 65535) ∧ staysP t p = staysOf w p.Times := by
  unfold pathOk at h
  split at h
  · cases h
  · rename_i w hw
    split at hw
    · rename_i h0
      simp only [Bool.and_eq_true, decide_eq_true_eq] at h
      exact ⟨w, h0, hw, h.1, timesFrom_mem _ _ h.2, by unfold staysP; rw [if_pos h0, hw]⟩
    · cases hw

theorem occ_Stays (t : Tables) (p : Path) : CallsPV Tryz.prog 17 [encTables t, encPath p] (.tup [stRes1 t p, .int .i64 (stErr1 t p)]) := by
  refine callsPV_by (clo := fun _ => false) (rows := false) env_ok Tryz.func17 rfl (enters_of Tryz.func17 (by kernel_rfl) rfl) (fun A q P Y hr hA hq => ?_)
  have h1 := air_Check t
  have h2 : airOk t = true → CallsPV Tryz.prog 60 [encTables t, encPath p] (.int .i64 (if pathOk t.Ways p then 0 else 160)) := fun h => occ_check t h p
  have h3 : airOk t = true → pathOk t.Ways p = true → CallsPV Tryz.prog 61 [encTables t, encPath p] (.list 4 (encStays (staysP t p))) := fun ha h => by
    obtain ⟨w, a1, a2, a3, a4, a5⟩ := pathOk_way h
    rw [a5]
    exact occ_stays t p w a1 a2 a3 (air_legs ha (List.mem_of_getElem? a2)).1 (fun m hm => by have := a4 m hm; unfold inI64; omega)
  have e0 : stErr1 t p = if airOk t then (if pathOk t.Ways p then 0 else 160) else 140 := rfl
  have e1 : stRes1 t p = if stErr1 t p = 0 then .list 4 (encStays (staysP t p)) else .list 0 [] := rfl
  rw [e1, e0] at hq
  generalize encStays (staysP t p) = L at h3 hq
  generalize airOk t = b1 at h1 h2 h3 hq
  generalize pathOk t.Ways p = b2 at h2 h3 hq
  obtain ⟨ss, hss⟩ : ∃ ss, ss = encSectors t.Sectors := ⟨_, rfl⟩
  obtain ⟨cs, hcs⟩ : ∃ cs, cs = encConfigs t.Configs := ⟨_, rfl⟩
  obtain ⟨ws, hws⟩ : ∃ ws, ws = encWays t.Ways := ⟨_, rfl⟩
  obtain ⟨ms, hms⟩ : ∃ ms, ms = encIntLs t.Modes := ⟨_, rfl⟩
  obtain ⟨ks, hks⟩ : ∃ ks, ks = encKinds t.Kinds := ⟨_, rfl⟩
  obtain ⟨ts, hts⟩ : ∃ ts, ts = encInts p.Times := ⟨_, rfl⟩
  rw [encTables_eq t hss hcs hws hms hks] at h1 h2 h3 ⊢
  rw [encPath_eq p hts] at h2 h3 ⊢
  have hne : A.bNot (A.iEq 140 0) = true := by subst hA; rfl
  have hne2 : A.bNot (A.iEq 160 0) = true := by subst hA; rfl
  have heq : A.bNot (A.iEq 0 0) = false := by subst hA; rfl
  obtain ⟨nv, hnv⟩ : ∃ nv, nv = t.Volumes := ⟨_, rfl⟩
  obtain ⟨way, hway⟩ : ∃ way, way = p.Way := ⟨_, rfl⟩
  rw [← hnv] at h1 h2 h3 ⊢
  rw [← hway] at h2 h3 ⊢
  conv => cbv
  cases b1 with
  | false =>
    refine call_intro hA h1 ?_
    conv => cbv
    split
    · conv => cbv
      rw [← hq]; rfl
    · rename_i hc
      have hf : False := absurd (show A.bNot (A.iEq 140 0) = false from hc) (by rw [hne]; simp); cases hf
  | true =>
    refine call_intro hA h1 ?_
    conv => cbv
    split
    · rename_i hc
      have hf : False := absurd (show A.bNot (A.iEq 0 0) = true from hc) (by rw [heq]; simp); cases hf
    conv => cbv
    cases b2 with
    | false =>
      refine call_intro hA (h2 rfl) ?_
      conv => cbv
      split
      · conv => cbv
        rw [← hq]; rfl
      · rename_i hc
        have hf : False := absurd (show A.bNot (A.iEq 160 0) = false from hc) (by rw [hne2]; simp); cases hf
    | true =>
      refine call_intro hA (h2 rfl) ?_
      conv => cbv
      split
      · rename_i hc
        have hf : False := absurd (show A.bNot (A.iEq 0 0) = true from hc) (by rw [heq]; simp); cases hf
      conv => cbv
      refine call_intro hA (h3 rfl rfl) ?_
      conv => cbv
      rw [← hq]; rfl

/-- The stays on some paths; what is wrong with them. -/
def stL (t : Tables) (l : List Path) : List Stay := l.flatMap (staysP t)
def stErr (t : Tables) : List Path → Int
  | [] => 0
  | p :: r => if stErr1 t p = 0 then stErr t r else stErr1 t p
def stRes (t : Tables) (l : List Path) : PV := if stErr t l = 0 then .list 4 (encStays (stL t l)) else .list 0 []

theorem stErr_append (t : Tables) : ∀ (l m : List Path), stErr t l = 0 → stErr t (l ++ m) = stErr t m
  | [], m, _ => rfl
  | p :: r, m, h => by
    simp only [stErr, List.cons_append] at h ⊢
    split at h
    · rename_i h0; rw [if_pos h0]; exact stErr_append t r m h
    · rename_i h0; exact absurd h h0

theorem legStays_le : ∀ (ls : List Leg) (ts : List Int), (legStays ls ts).length ≤ ls.length
  | [], _ => by simp [legStays]
  | _ :: _, [] => by simp [legStays]
  | _ :: _, [_] => by simp [legStays]
  | y :: r, u :: v :: ts => by simp only [legStays, List.length_cons]; have := legStays_le r (v :: ts); omega

theorem staysP_len {t : Tables} {p : Path} (h : stErr1 t p = 0) : (staysP t p).length ≤ 10 := by
  unfold stErr1 at h
  split at h
  · rename_i ha
    split at h
    · rename_i hp
      obtain ⟨w, a1, a2, a3, a4, a5⟩ := pathOk_way hp
      rw [a5]
      have := (air_legs ha (List.mem_of_getElem? a2)).1
      have := legStays_le w.Legs p.Times
      simp [staysOf]; omega
    · cases h
  · cases h

theorem sight_stays (t : Tables) (l : List Path) (hl : l.length ≤ 1000) {xs : List PV} (hx : xs = encPaths l) : CallsPV Tryz.prog 64 [encTables t, .list 2 xs] (.tup [stRes t l, .int .i64 (stErr t l)]) := by
  refine callsPV_by (clo := fun _ => false) (rows := false) env_ok Tryz.func64 rfl (enters_of Tryz.func64 (by kernel_rfl) rfl) (fun A q P Y hr hA hq => ?_)
  have hll : A.lLen xs = l.length := by subst hA; show (xs.length : Int) = _; rw [hx]; simp [encPaths]
  have hcall := occ_Stays t
  obtain ⟨ss, hss⟩ : ∃ ss, ss = encSectors t.Sectors := ⟨_, rfl⟩
  obtain ⟨cs, hcs⟩ : ∃ cs, cs = encConfigs t.Configs := ⟨_, rfl⟩
  obtain ⟨ws, hws⟩ : ∃ ws, ws = encWays t.Ways := ⟨_, rfl⟩
  obtain ⟨ms, hms⟩ : ∃ ms, ms = encIntLs t.Modes := ⟨_, rfl⟩
  obtain ⟨ks, hks⟩ : ∃ ks, ks = encKinds t.Kinds := ⟨_, rfl⟩
  rw [encTables_eq t hss hcs hws hms hks] at hcall ⊢
  obtain ⟨nv, hnv⟩ : ∃ nv, nv = t.Volumes := ⟨_, rfl⟩
  rw [← hnv] at hcall ⊢
  conv => cbv
  refine loop_set hA (fun (z : Int × List PV) s => { (s.put (some 12) (.val (.int .i64 z.1))).put (some 4) (.own 0 4 z.2) with tk := [(A.nLen z.2, 85)] })
    (fun z => 0 ≤ z.1 ∧ z.1 ≤ l.length ∧ stErr t (l.take z.1.toNat) = 0 ∧ z.2 = encStays (stL t (l.take z.1.toNat)) ∧ z.2.length ≤ 10 * z.1.toNat) (fun z => (l.length - z.1).toNat) (0, []) ?_ ?_ ?_
  · conv => cbv
    exact wk_own 4 0 4 [] _ rfl (.inr rfl) (by simp [leL, leS]) (by subst hA; rfl)
  · exact ⟨Int.le_refl _, by omega, rfl, rfl, by simp⟩
  · rintro R ⟨i, L⟩ ⟨hi0, hi1, he, hL, hLl⟩ hR
    simp only at hi0 hi1 he hL hLl
    conv => cbv
    split
    · rename_i hc
      have hc' : i < l.length := by
        have h' : A.iLt i (A.lLen xs) = true := hc
        rw [hll] at h'; subst hA; simpa [stdOps] using h'
      conv => cbv
      refine idx_Path hA hx hi0 hc' (fun p ts hp hts => ?_)
      have htake := take_snoc' hi0 hp
      have hcp := hcall p
      rw [encPath_eq p hts] at hcp
      have hi1' : A.iAdd i 1 = i + 1 := by subst hA; rfl
      have hbad : stErr1 t p ≠ 0 → stErr t l = stErr1 t p := by
        intro h
        have e : l = l.take i.toNat ++ (p :: l.drop (i.toNat + 1)) := by
          have h1 := List.getElem?_eq_some_iff.1 hp
          rw [← h1.2, List.getElem_cons_drop h1.1, List.take_append_drop]
        rw [e, stErr_append t _ _ he, stErr, if_neg h]
      have hgood : stErr1 t p = 0 → stErr t (l.take (i + 1).toNat) = 0 ∧ stL t (l.take (i + 1).toNat) = stL t (l.take i.toNat) ++ staysP t p := by
        intro h
        rw [htake, stErr_append t _ _ he]
        exact ⟨by simp [stErr, h], by simp [stL]⟩
      have hinr : A.inR (A.iAdd i 1) := by rw [hi1']; subst hA; show inI64 (i + 1); unfold inI64; omega
      have hlp := fun h => staysP_len (t := t) (p := p) h
      obtain ⟨e, hee⟩ : ∃ e, e = stErr1 t p := ⟨_, rfl⟩
      obtain ⟨M, hM⟩ : ∃ M, M = encStays (staysP t p) := ⟨_, rfl⟩
      have hMl : M.length = (staysP t p).length := by rw [hM]; simp [encStays]
      unfold stRes1 at hcp
      rw [← hee, ← hM] at hcp
      rw [← hee] at hbad hgood hlp
      obtain ⟨way, T⟩ := p
      simp only at hcp hts
      conv => cbv
      by_cases h0 : e = 0
      · rw [if_pos h0, h0] at hcp
        obtain ⟨g1, g2⟩ := hgood h0
        have hml := hlp h0
        have hnext : A.lApp L M = encStays (stL t (l.take (i + 1).toNat)) := by
          rw [g2]; subst hA hL hM; show encStays _ ++ encStays _ = _; simp [encStays]
        have hnl : (A.lApp L M).length ≤ 10 * (i + 1).toNat := by
          subst hA; show (L ++ M).length ≤ _; rw [List.length_append]; omega
        have hroom : A.room (A.nLen (A.lApp L M)) 32 := by
          have : A.nLen (A.lApp L M) = (A.lApp L M).length := by subst hA; rfl
          rw [this]
          subst hA
          show (L ++ M).length * (32 + 1) ≤ 140737488355328
          have hq : (L ++ M).length ≤ 10 * (i + 1).toNat := hnl
          have : (i + 1).toNat ≤ 1000 := by omega
          have : (L ++ M).length ≤ 10000 := by omega
          omega
        have htk : A.tkEq (A.nLen L) (A.nLen L) := by subst hA; rfl
        have heq : A.bNot (A.iEq 0 0) = false := by subst hA; rfl
        refine call_intro hA hcp ?_
        conv => cbv
        split
        · rename_i hc
          have hf : False := absurd (show A.bNot (A.iEq 0 0) = true from hc) (by rw [heq]; simp); cases hf
        conv => cbv
        refine ⟨⟨htk, hroom⟩, hinr, hR (A.iAdd i 1, A.lApp L M) _ ?_ ?_ ?_⟩
        · (conv => cbv)
          exact wk_round (bx := [_]) (bx' := [_]) (mp := []) (mp' := []) (by simp [leL, leS]) (by simp) (by simp) rfl rfl
        · rw [hi1']; exact ⟨by omega, by omega, g1, hnext, hnl⟩
        · rw [hi1']; simp only; omega
      · rw [if_neg h0] at hcp
        refine call_intro hA hcp ?_
        conv => cbv
        split
        · conv => cbv
          unfold stRes at hq
          rw [hbad h0, if_neg h0] at hq
          rw [← hq]
        · rename_i hc
          have : e = 0 := by
            have h' : A.bNot (A.iEq e 0) = false := hc
            subst hA; simpa [stdOps] using h'
          exact absurd this h0
    · rename_i hc
      have hc' : ¬ i < l.length := by
        have h' : A.iLt i (A.lLen xs) = false := hc
        rw [hll] at h'; subst hA; simp [stdOps] at h'; omega
      conv => cbv
      rw [List.take_of_length_le (by omega)] at he hL
      unfold stRes at hq
      rw [he, if_pos rfl, ← hL] at hq
      rw [← hq]

def seesErr (t : Tables) (r : Report) (shift : Int) (l : List Path) : Int := if isShiftB shift && isMinuteB r.Minute then stErr t l else 230
def seesB (t : Tables) (r : Report) (shift : Int) (l : List Path) : Bool := if seesErr t r shift l = 0 then rightB r shift (stL t l) else false

theorem sight_Sees (t : Tables) (r : Report) (shift : Int) (l : List Path) (hl : l.length ≤ 1000) {xs : List PV} (hx : xs = encPaths l) : CallsPV Tryz.prog 18 [encTables t, encReport r, .int .i64 shift, .list 2 xs] (.tup [.bool (seesB t r shift l), .int .i64 (seesErr t r shift l)]) := by
  refine callsPV_by (clo := fun _ => false) (rows := false) env_ok Tryz.func18 rfl (enters_of Tryz.func18 (by kernel_rfl) rfl) (fun A q P Y hr hA hq => ?_)
  have hcall := sight_stays t l hl hx
  have hright : isShiftB shift = true → isMinuteB r.Minute = true → ∀ L, L = encStays (stL t l) → CallsPV Tryz.prog 65 [encReport r, .int .i64 shift, .list 4 L] (.bool (rightB r shift (stL t l))) := fun h1 h2 L hL => by
    simp only [isShiftB, isMinuteB, inB, Bool.and_eq_true, decide_eq_true_eq] at h1 h2
    exact sight_right r shift (by unfold inI64; omega) _ hL
  obtain ⟨L, hL⟩ : ∃ L, L = encStays (stL t l) := ⟨_, rfl⟩
  have hright := fun a b => hright a b L hL
  have hs : seesErr t r shift l = if isShiftB shift && isMinuteB r.Minute then stErr t l else 230 := rfl
  have hb : seesB t r shift l = if seesErr t r shift l = 0 then rightB r shift (stL t l) else false := rfl
  rw [hb, hs] at hq
  unfold stRes at hcall
  rw [← hL] at hcall
  generalize stErr t l = e at hcall hq
  generalize rightB r shift (stL t l) = rb at hright hq
  obtain ⟨ss, hss⟩ : ∃ ss, ss = encSectors t.Sectors := ⟨_, rfl⟩
  obtain ⟨cs, hcs⟩ : ∃ cs, cs = encConfigs t.Configs := ⟨_, rfl⟩
  obtain ⟨ws, hws⟩ : ∃ ws, ws = encWays t.Ways := ⟨_, rfl⟩
  obtain ⟨ms, hms⟩ : ∃ ms, ms = encIntLs t.Modes := ⟨_, rfl⟩
  obtain ⟨ks, hks⟩ : ∃ ks, ks = encKinds t.Kinds := ⟨_, rfl⟩
  rw [encTables_eq t hss hcs hws hms hks] at hcall ⊢
  obtain ⟨nv, hnv⟩ : ∃ nv, nv = t.Volumes := ⟨_, rfl⟩
  rw [← hnv] at hcall ⊢
  obtain ⟨r1, r2, r3, r4, r5, r6⟩ := r
  simp only at hq hright
  conv => cbv
  refine callB hA (sight_isShift shift) rfl (fun b1 hb1 => ?_)
  rw [← hb1] at hq hright
  conv => cbv
  cases b1 with
  | false =>
    split
    · conv => cbv
      rw [← hq]; rfl
    · rename_i hc
      have : A.bNot false = true := by subst hA; rfl
      have hf : False := absurd (show A.bNot false = false from hc) (by rw [this]; simp); cases hf
  | true =>
    split
    · rename_i hc
      have : A.bNot true = false := by subst hA; rfl
      have hf : False := absurd (show A.bNot true = true from hc) (by rw [this]; simp); cases hf
    conv => cbv
    refine callB hA (sight_isMinute r3) rfl (fun b2 hb2 => ?_)
    rw [← hb2] at hq hright
    conv => cbv
    cases b2 with
    | false =>
      split
      · conv => cbv
        rw [← hq]; rfl
      · rename_i hc
        have : A.bNot false = true := by subst hA; rfl
        have hf : False := absurd (show A.bNot false = false from hc) (by rw [this]; simp); cases hf
    | true =>
      split
      · rename_i hc
        have : A.bNot true = false := by subst hA; rfl
        have hf : False := absurd (show A.bNot true = true from hc) (by rw [this]; simp); cases hf
      conv => cbv
      simp only [Bool.and_self, if_true] at hq
      by_cases h0 : e = 0
      · rw [if_pos h0, h0] at hcall
        rw [if_pos h0, h0] at hq
        have heq : A.bNot (A.iEq 0 0) = false := by subst hA; rfl
        refine call_intro hA hcall ?_
        conv => cbv
        split
        · rename_i hc
          have hf : False := absurd (show A.bNot (A.iEq 0 0) = true from hc) (by rw [heq]; simp); cases hf
        conv => cbv
        refine callB hA (hright rfl rfl) rfl (fun b3 hb3 => ?_)
        conv => cbv
        rw [← hq, hb3]
      · rw [if_neg h0] at hcall hq
        refine call_intro hA hcall ?_
        conv => cbv
        split
        · conv => cbv
          rw [← hq]
        · rename_i hc
          have : e = 0 := by
            have h' : A.bNot (A.iEq e 0) = false := hc
            subst hA; simpa [stdOps] using h'
          exact absurd this h0
end Go.Abs

namespace Go.Abs
open Go.RowKit Go.Proofs

theorem rld_cell {A : Ops} {E : Env} (hA : A = stdOps E) {t : TypeId} {id off i m k : Nat} {st : St} {K : SV → St → Prop} {C : List SV} {c : SV} (hb : st.bx.getD id none = some C) (ha : (E.T t).agg = false) (hs : (E.T t).size = 1) (hc : C[off + i * m + k]? = some c) (hk : K c st) :
    A.rld t (.rbx id off i m k) st K := by
  refine rld_intro hA ?_
  simp only [SV.norm, opLoad, hb, ha, hs, Bool.false_eq_true, if_false, if_true]
  refine ⟨(List.getElem?_eq_some_iff.1 hc).1, ?_⟩
  simp only [List.getD_eq_getElem?_getD, hc, Option.getD_some]
  exact hk
theorem rst_cell {A : Ops} {E : Env} (hA : A = stdOps E) {t : TypeId} {id off i m k : Nat} {st : St} {K : SV → St → Prop} {C C2 : List SV} {v : SV} (hb : st.bx.getD id none = some C) (ha : (E.T t).agg = false) (hs : (E.T t).size = 1) (hv : v.one = true) (hc : off + i * m + k < C.length)
    (h2 : C2 = C.set (off + i * m + k) v) (hk : K .undef (st.setBx id (some C2))) : A.rst t (.rbx id off i m k) v st K := by
  refine rst_intro hA ?_
  simp only [SV.norm, opStore, hb, ha, hs, hv, Bool.false_eq_true, if_false, and_self, if_true]
  subst h2
  exact ⟨hc, hk⟩

theorem ret_row {E : Env} (hrows : E.rows = true) {st : St} {id m : Nat} {cs : List SV} {xs : List PV} {n t1 t2 : Nat} {e : Int} (h1 : st.bx.getD id none = some cs) (h2 : cs = (xs.flatMap PV.cells).map SV.val) (hm : ∀ x ∈ xs, x.cells.length = m) (hn : n ≤ xs.length)
    (hs1 : st.sl[t1]? = some (.msl id 0 n)) (hs2 : st.sl[t2]? = some (.val (.int .i64 e))) (hm0 : m ≠ 0 := by decide) : retFz E [.tmp t1, .tmp t2] st (.tup [.list m (xs.take n), .int .i64 e]) := by
  unfold retFz
  rw [hrows]
  refine ⟨_, Frz.row id m cs xs st _ [] [] h1 h2 hm (Frz.refl _ _) hm0, ?_⟩
  have e1 : ((st.sealRow id m xs).sl.getD t1 .undef) = .val (.list m (xs.take n)) := by
    simp only [St.sealRow, List.getD_eq_getElem?_getD, List.getElem?_map, hs1, Option.map_some, Option.getD_some, rowSV]
    rw [if_pos ⟨trivial, trivial, hn⟩]
  have e2 : ((st.sealRow id m xs).sl.getD t2 .undef) = .val (.int .i64 e) := by
    simp only [St.sealRow, List.getD_eq_getElem?_getD, List.getElem?_map, hs2, Option.map_some, Option.getD_some, rowSV]
    rfl
  unfold retOk
  simp only [resPV, e1, e2, SV.pv]
  exact ⟨trivial, rfl⟩

/-- How many reports of a station are wrong. -/
def wrongN (shifts : List Int) (st : List Stay) (l : List Report) (j : Nat) : Int := ((l.filter fun r => decide (r.Station = (j : Int)) && !rightB r (shifts.getD r.Station.toNat 0) st).length : Nat)
def wrongIn (many : Int) (reports : List Report) (shifts : List Int) : Bool := inB many 0 4 && decide ((shifts.length : Int) = many) && shifts.all isShiftB && !reports.any (repBad many)
def wrongErr (t : Tables) (many : Int) (reports : List Report) (shifts : List Int) (l : List Path) : Int := if wrongIn many reports shifts then stErr t l else 230
def wrongL (t : Tables) (many : Int) (reports : List Report) (shifts : List Int) (l : List Path) : List Int := (List.range many.toNat).map (wrongN shifts (stL t l) reports)
def wrongRes (t : Tables) (many : Int) (reports : List Report) (shifts : List Int) (l : List Path) : PV := if wrongErr t many reports shifts l = 0 then .list 1 (encInts (wrongL t many reports shifts l)) else .list 0 []

theorem wrongN_snoc (shifts : List Int) (st : List Stay) (l : List Report) (r : Report) (j : Nat) : wrongN shifts st (l ++ [r]) j = wrongN shifts st l j + if r.Station = (j : Int) ∧ rightB r (shifts.getD r.Station.toNat 0) st = false then 1 else 0 := by
  unfold wrongN
  rw [List.filter_append, List.length_append, List.filter_cons, List.filter_nil]
  by_cases h1 : r.Station = (j : Int)
  · cases h2 : rightB r (shifts.getD r.Station.toNat 0) st <;> simp only [h1, decide_true, Bool.true_and, Bool.not_true, Bool.not_false, if_true, Bool.false_eq_true, if_false, true_and, and_true, and_false, List.length_nil, List.length_singleton] <;> first | rfl | omega
  · simp [h1]

theorem wrongN_le (shifts : List Int) (st : List Stay) (l : List Report) (j : Nat) : 0 ≤ wrongN shifts st l j ∧ wrongN shifts st l j ≤ l.length := by
  unfold wrongN
  have := List.length_filter_le (fun r => decide (r.Station = (j : Int)) && !rightB r (shifts.getD r.Station.toNat 0) st) l
  omega

theorem flat_ints' (l : List Int) : (encInts l).flatMap PV.cells = encInts l := by
  induction l with
  | nil => rfl
  | cons x r ih => simp only [encInts, List.map_cons, List.flatMap_cons] at ih ⊢; rw [ih]; rfl

set_option maxHeartbeats 1000000 in
theorem sight_Wrong (t : Tables) (many : Int) (reports : List Report) (shifts : List Int) (l : List Path) (hl : l.length ≤ 1000) (hrl : reports.length ≤ 1000000) {xs ys zs : List PV} (hx : xs = encPaths l) (hy : ys = encReports reports) (hz : zs = encInts shifts) :
    CallsPV Tryz.prog 44 [encTables t, .int .i64 many, .list 6 ys, .list 1 zs, .list 2 xs] (.tup [wrongRes t many reports shifts l, .int .i64 (wrongErr t many reports shifts l)]) := by
  refine callsPV_by (clo := fun _ => false) (rows := true) env_ok Tryz.func44 rfl (enters_of Tryz.func44 (by kernel_rfl) rfl) (fun A q P Y hr hA hq => ?_)
  have hyl : A.lLen ys = reports.length := by subst hA; show (ys.length : Int) = _; rw [hy]; simp [encReports]
  have hzl : A.lLen zs = shifts.length := by subst hA; show (zs.length : Int) = _; rw [hz]; simp [encInts]
  have hcall := sight_stays t l hl hx
  have hany1 := containsFunc_Int (fun s => !isShiftB s) shifts hz (fun x _ => sight_Wrong2 x)
  have hany2 : inB many 0 4 = true → CallsPV Tryz.prog 102 [.list 6 ys, .fn 99 [.ptr [.int .i64 many] 0]] (.bool (reports.any (repBad many))) := fun h => by
    simp only [inB, Bool.and_eq_true, decide_eq_true_eq] at h
    exact containsFunc_Report (repBad many) reports hy (fun x _ => sight_Wrong1 many (by omega) x)
  have hE : wrongErr t many reports shifts l = if wrongIn many reports shifts then stErr t l else 230 := rfl
  have hRes : wrongRes t many reports shifts l = if wrongErr t many reports shifts l = 0 then .list 1 (encInts (wrongL t many reports shifts l)) else .list 0 [] := rfl
  have hbad : wrongIn many reports shifts = false → PV.tup [.list 0 [], .int .i64 230] = q := fun h => by rw [← hq, hRes, hE, h]; rfl
  have hWin : wrongIn many reports shifts = (inB many 0 4 && decide ((shifts.length : Int) = many) && shifts.all isShiftB && !reports.any (repBad many)) := rfl
  have hall : shifts.all isShiftB = !shifts.any (fun s => !isShiftB s) := by rw [List.any_eq_not_all_not]; simp
  obtain ⟨L, hL⟩ : ∃ L, L = encStays (stL t l) := ⟨_, rfl⟩
  obtain ⟨b3, hb3⟩ : ∃ b3, b3 = shifts.any (fun s => !isShiftB s) := ⟨_, rfl⟩
  obtain ⟨b4, hb4⟩ : ∃ b4, b4 = reports.any (repBad many) := ⟨_, rfl⟩
  rw [hall, ← hb3, ← hb4] at hWin
  rw [← hb3] at hany1
  rw [← hb4] at hany2
  unfold stRes at hcall
  rw [← hL] at hcall
  obtain ⟨e, he⟩ : ∃ e, e = stErr t l := ⟨_, rfl⟩
  rw [← he] at hcall hE
  obtain ⟨ss, hss⟩ : ∃ ss, ss = encSectors t.Sectors := ⟨_, rfl⟩
  obtain ⟨cs, hcs⟩ : ∃ cs, cs = encConfigs t.Configs := ⟨_, rfl⟩
  obtain ⟨ws, hws⟩ : ∃ ws, ws = encWays t.Ways := ⟨_, rfl⟩
  obtain ⟨ms, hms⟩ : ∃ ms, ms = encIntLs t.Modes := ⟨_, rfl⟩
  obtain ⟨ks, hks⟩ : ∃ ks, ks = encKinds t.Kinds := ⟨_, rfl⟩
  rw [encTables_eq t hss hcs hws hms hks] at hcall ⊢
  obtain ⟨nv, hnv⟩ : ∃ nv, nv = t.Volumes := ⟨_, rfl⟩
  rw [← hnv] at hcall ⊢
  conv => cbv
  refine callB hA (sight_within many 0 4) rfl (fun b1 hb1 => ?_)
  rw [← hb1] at hWin hany2
  conv => cbv
  split
  · rename_i hc
    have h1 : b1 = false := by subst hA; simpa [stdOps] using hc
    conv => cbv
    exact ⟨_, Frz.refl _ _, trivial, hbad (by rw [hWin, h1]; rfl)⟩
  rename_i hc
  have h1 : b1 = true := by subst hA; simpa [stdOps] using hc
  rw [h1] at hb1
  have hm : 0 ≤ many ∧ many ≤ 4 := by simpa [inB] using hb1.symm
  conv => cbv
  split
  · rename_i hc
    have h2 : ¬ (shifts.length : Int) = many := by
      have h' : A.bNot (A.iEq (A.lLen zs) many) = true := hc
      rw [hzl] at h'; subst hA; simpa [stdOps] using h'
    conv => cbv
    exact ⟨_, Frz.refl _ _, trivial, hbad (by rw [hWin]; simp [h2])⟩
  rename_i hc
  have h2 : (shifts.length : Int) = many := by
    have h' : A.bNot (A.iEq (A.lLen zs) many) = false := hc
    rw [hzl] at h'; subst hA; simpa [stdOps] using h'
  conv => cbv
  refine call_intro hA hany1 ?_
  conv => cbv
  cases b3 with
  | true =>
    conv => cbv
    exact ⟨_, Frz.refl _ _, trivial, hbad (by rw [hWin]; simp)⟩
  | false =>
  conv => cbv
  refine call_intro hA (hany2 h1) ?_
  conv => cbv
  cases b4 with
  | true =>
    conv => cbv
    exact ⟨_, Frz.refl _ _, trivial, hbad (by rw [hWin]; simp)⟩
  | false =>
  have hw : wrongIn many reports shifts = true := by rw [hWin, h1]; simp [h2]
  rw [hw, if_pos rfl] at hE
  rw [hE] at hRes hq
  rw [hRes] at hq
  conv => cbv
  by_cases h0 : e = 0
  rotate_left
  · rw [if_neg h0] at hcall hq
    refine call_intro hA hcall ?_
    conv => cbv
    split
    · conv => cbv
      rw [← hq]
      exact ⟨_, Frz.refl _ _, trivial, rfl⟩
    · rename_i hc
      have : e = 0 := by
        have h' : A.bNot (A.iEq e 0) = false := hc
        subst hA; simpa [stdOps] using h'
      exact absurd this h0
  rw [if_pos h0, h0] at hcall
  rw [if_pos h0, h0] at hq
  have heq : A.bNot (A.iEq 0 0) = false := by subst hA; rfl
  refine call_intro hA hcall ?_
  conv => cbv
  split
  · rename_i hc
    have hf : False := absurd (show A.bNot (A.iEq 0 0) = true from hc) (by rw [heq]; simp); cases hf
  have hrep : ∀ r ∈ reports, 0 ≤ r.Station ∧ r.Station < many ∧ 0 ≤ r.Minute ∧ r.Minute ≤ 1439 := fun r hr => by
    have h := (List.any_eq_false.1 hb4.symm) r hr
    simp only [repBad, inB, isMinuteB, Bool.or_eq_true, Bool.not_eq_true', Bool.and_eq_false_iff, decide_eq_false_iff_not] at h
    omega
  have hshf : ∀ s ∈ shifts, -3 ≤ s ∧ s ≤ 3 := fun s hs => by
    have h := (List.any_eq_false.1 hb3.symm) s hs
    simp only [isShiftB, inB, Bool.not_eq_true', Bool.and_eq_false_iff, decide_eq_false_iff_not] at h
    omega
  have hn4 : A.iNat 4 = 4 := by subst hA; rfl
  conv => cbv
  refine loop_set hA (fun (z : Int × List SV) s => { s.put (some 47) (.val (.int .i64 z.1)) with bx := s.bx.set 2 (some z.2) })
    (fun z => 0 ≤ z.1 ∧ z.1 ≤ reports.length ∧ z.2 = (List.range 4).map fun j => SV.val (.int .i64 (wrongN shifts (stL t l) (reports.take z.1.toNat) j))) (fun z => (reports.length - z.1).toNat) (0, [.val (.int .i64 0), .val (.int .i64 0), .val (.int .i64 0), .val (.int .i64 0)]) ?_ ?_ ?_
  · conv => cbv
    exact wk_sl (by simp [leL, leS])
  · exact ⟨Int.le_refl _, by omega, rfl⟩
  · rintro R ⟨i, C⟩ ⟨hi0, hi1, hC⟩ hR
    simp only at hi0 hi1 hC
    have hCl : C.length = 4 := by rw [hC]; rfl
    have hCw : ∀ a b c, C.all (SV.within a b c) = true := by intro a b c; rw [hC]; rfl
    conv => cbv
    split
    · rename_i hc
      have hc' : i < reports.length := by
        have h' : A.iLt i (A.lLen ys) = true := hc
        rw [hyl] at h'; subst hA; simpa [stdOps] using h'
      conv => cbv
      refine idx_Report hA hy hi0 hc' (fun r hr0 => ?_)
      have htake := take_snoc' hi0 hr0
      obtain ⟨q1, q2, q3, q4⟩ := hrep r (List.mem_of_getElem? hr0)
      have hi1' : A.iAdd i 1 = i + 1 := by subst hA; rfl
      have hinr : A.inR (A.iAdd i 1) := by rw [hi1']; subst hA; show inI64 (i + 1); unfold inI64; omega
      have hmu : (reports.length - A.iAdd i 1).toNat < (reports.length - i).toNat := by rw [hi1']; omega
      have hcr : ∀ x, -3 ≤ x → x ≤ 3 → CallsPV Tryz.prog 65 [encReport r, .int .i64 x, .list 4 L] (.bool (rightB r x (stL t l))) := fun x h1 h2 => sight_right r x (by unfold inI64; omega) _ hL
      have hstep : ∀ x, shifts[r.Station.toNat]? = some x → ∀ C2, C2 = (if rightB r x (stL t l) then C else C.set r.Station.toNat (.val (.int .i64 (wrongN shifts (stL t l) (reports.take i.toNat) r.Station.toNat + 1)))) →
          0 ≤ A.iAdd i 1 ∧ A.iAdd i 1 ≤ reports.length ∧ C2 = (List.range 4).map fun j => SV.val (.int .i64 (wrongN shifts (stL t l) (reports.take (A.iAdd i 1).toNat) j)) := by
        intro x hx C2 hC2
        rw [hi1']
        refine ⟨by omega, by omega, ?_⟩
        rw [htake, hC2]
        have hgx : shifts.getD r.Station.toNat 0 = x := by rw [List.getD_eq_getElem?_getD, hx]; rfl
        apply List.ext_getElem?
        intro j
        cases hb : rightB r x (stL t l) with
        | true =>
          rw [if_pos rfl, hC]
          simp only [List.getElem?_map]
          cases (List.range 4)[j]? with
          | none => rfl
          | some j' => simp only [Option.map_some, wrongN_snoc, hgx, hb]; simp
        | false =>
          simp only [Bool.false_eq_true, if_false]
          rw [List.getElem?_set, hC]
          simp only [List.length_map, List.length_range, List.getElem?_map]
          by_cases hj : r.Station.toNat = j
          · subst hj
            rw [if_pos rfl, if_pos (by omega), List.getElem?_range (by omega)]
            simp only [Option.map_some, wrongN_snoc, hgx, hb]
            rw [if_pos ⟨by omega, trivial⟩]
          · rw [if_neg hj]
            cases hj4 : (List.range 4)[j]? with
            | none => rfl
            | some j' =>
              have : j' = j := by
                have := List.getElem?_eq_some_iff.1 hj4
                obtain ⟨h1, h2⟩ := this
                simpa using h2.symm
              subst this
              simp only [Option.map_some, wrongN_snoc]
              rw [if_neg (by rintro ⟨h, _⟩; omega)]
              simp
      obtain ⟨r1, r2, r3, r4, r5, r6⟩ := r
      simp only at q1 q2 q3 q4 hcr hstep
      have hidx : A.nNat r1 = r1.toNat := by subst hA; rfl
      conv => cbv
      refine ⟨draw_intro hA (by kernel_rfl), ?_⟩
      refine idx_Int hA hz q1 (by omega) (fun x hxs => ?_)
      obtain ⟨s1, s2⟩ := hshf x (List.mem_of_getElem? hxs)
      have hst := hstep x hxs
      conv => cbv
      refine callB hA (hcr x s1 s2) rfl (fun rb hrb => ?_)
      rw [← hrb] at hst
      conv => cbv
      cases rb with
      | true =>
        have hbt : A.bNot true = false := by subst hA; rfl
        split
        · rename_i hc
          have hf : False := absurd (show A.bNot true = true from hc) (by rw [hbt]; simp); cases hf
        conv => cbv
        refine ⟨hinr, hR (A.iAdd i 1, C) _ ?_ (hst C rfl) hmu⟩
        (conv => cbv)
        exact wk_round (bx := [_, _, _]) (bx' := [_]) (mp := []) (mp' := []) (by simp [leL, leS]) (by simp) (by simp) rfl (by simp [hCw, SV.within])
      | false =>
        have hbt : A.bNot false = true := by subst hA; rfl
        split
        rotate_left
        · rename_i hc
          have hf : False := absurd (show A.bNot false = false from hc) (by rw [hbt]; simp); cases hf
        conv => cbv
        have hwl := wrongN_le shifts (stL t l) (reports.take i.toNat) r1.toNat
        have htl : (reports.take i.toNat).length ≤ reports.length := by rw [List.length_take]; omega
        have hcell : C[0 + A.nNat r1 * 1 + 0]? = some (SV.val (.int .i64 (wrongN shifts (stL t l) (reports.take i.toNat) r1.toNat))) := by
          rw [hidx, hC, List.getElem?_map, List.getElem?_range (by omega)]
          simp
        obtain ⟨n, hn⟩ : ∃ n, n = wrongN shifts (stL t l) (reports.take i.toNat) r1.toNat := ⟨_, rfl⟩
        rw [← hn] at hcell hst hwl
        have hwith : A.within r1 (A.iNat 4) := by rw [hn4]; subst hA; show 0 ≤ r1 ∧ r1 < 4; omega
        have hn1 : A.iAdd n 1 = n + 1 := by subst hA; rfl
        have hinn : A.inR (A.iAdd n 1) := by rw [hn1]; subst hA; show inI64 (n + 1); unfold inI64; omega
        obtain ⟨C2, hC2⟩ : ∃ C2, C2 = C.set (0 + A.nNat r1 * 1 + 0) (.val (.int .i64 (A.iAdd n 1))) := ⟨_, rfl⟩
        have hC2' : C2 = if false = true then C else C.set r1.toNat (.val (.int .i64 (n + 1))) := by rw [hC2, hidx, hn1]; simp
        have hst2 := hst C2 hC2'
        have hCw2 : ∀ a b c, C2.all (SV.within a b c) = true := by intro a b c; rw [hst2.2.2]; rfl
        refine ⟨hwith, rld_cell (E := ⟨Tryz.prog, tab, fun _ => false, true, .none⟩) hA rfl rfl rfl hcell ?_⟩
        conv => cbv
        refine ⟨hinn, hwith, rst_cell (E := ⟨Tryz.prog, tab, fun _ => false, true, .none⟩) hA rfl rfl rfl rfl (by show 0 + A.nNat r1 * 1 + 0 < C.length; rw [hidx, hCl]; omega) hC2 ?_⟩
        conv => cbv
        refine ⟨hinr, hR (A.iAdd i 1, C2) _ ?_ hst2 hmu⟩
        (conv => cbv)
        exact wk_round (bx := [_, _, _]) (bx' := [_]) (mp := []) (mp' := []) (by simp [leL, leS]) (by simp) (by simp) rfl (by simp [hCw2, SV.within])
    · rename_i hc
      have hc' : ¬ i < reports.length := by
        have h' : A.iLt i (A.lLen ys) = false := hc
        rw [hyl] at h'; subst hA; simp [stdOps] at h'; omega
      conv => cbv
      rw [List.take_of_length_le (by omega)] at hC
      obtain ⟨W, hW⟩ : ∃ W, W = (List.range 4).map (wrongN shifts (stL t l) reports) := ⟨_, rfl⟩
      have hCW : C = ((encInts W).flatMap PV.cells).map SV.val := by
        rw [flat_ints', hC, hW]; rfl
      have hnm : A.nNat many = many.toNat := by subst hA; rfl
      have hlist : encInts (wrongL t many reports shifts l) = (encInts W).take (A.nNat many) := by
        rw [hnm, hW]
        unfold wrongL encInts
        rw [← List.map_take, ← List.map_take, List.take_range, Nat.min_eq_left (by omega)]
      refine ⟨⟨by subst hA; exact ⟨Int.le_refl _, hm.1, Int.le_refl _⟩, by show A.sl 0 many (A.iNat 4); rw [hn4]; subst hA; exact ⟨Int.le_refl _, hm.1, hm.2⟩⟩, ?_⟩
      rw [← hq, hlist]
      exact ret_row (E := ⟨P, tab, fun _ => false, true, Y⟩) rfl (id := 2) (m := 1) (cs := C) (xs := encInts W) (n := A.nNat many) (t1 := 10) (t2 := 11) (e := 0) rfl hCW (fun x hx => by simp only [encInts, List.mem_map] at hx; obtain ⟨y, _, rfl⟩ := hx; rfl) (by rw [hnm, hW]; simp [encInts]; omega) rfl rfl
end Go.Abs
