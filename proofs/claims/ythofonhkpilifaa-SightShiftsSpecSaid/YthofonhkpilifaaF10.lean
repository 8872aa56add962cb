/-
  Functions: occupancy's.
-/
import Derived.Test.YthofonhkpilifaaF6
import Derived.Test.YthofonhkpilifaaS2
namespace Go.Abs
open Go.RowKit Go.Proofs

theorem encPath_eq (p : Path) {ts : List PV} (h : ts = encInts p.Times) : encPath p = .agg [.int .i64 p.Way, .list 1 ts] := by rw [h]; rfl
theorem encTables_eq (t : Tables) {ss cs ws ms ks : List PV} (h1 : ss = encSectors t.Sectors) (h2 : cs = encConfigs t.Configs) (h3 : ws = encWays t.Ways) (h4 : ms = encIntLs t.Modes) (h5 : ks = encKinds t.Kinds) :
    encTables t = .agg [.int .i64 t.Volumes, .list 5 ss, .list 3 cs, .list 3 ws, .list 1 ms, .list 6 ks] := by rw [h1, h2, h3, h4, h5]; rfl

theorem air_legs {t : Tables} (h : airOk t = true) {w : Way} (hw : w ∈ t.Ways) : w.Legs.length ≤ 8 ∧ 1 ≤ w.Legs.length := by
  unfold airOk at h
  simp only [Bool.and_eq_true, List.all_eq_true] at h
  have := h.1.1.2 w hw
  simp only [wayOk, inB, Bool.and_eq_true, decide_eq_true_eq] at this
  omega

theorem timesFrom_drop (l : List Int) (i : Nat) (h : i < l.length) (p : Int) : timesFrom p (l.drop i) = (decide (0 ≤ l[i]) && decide (l[i] ≤ 65535) && decide (p < l[i]) && timesFrom l[i] (l.drop (i + 1))) := by
  rw [List.drop_eq_getElem_cons h, timesFrom]

/-- The minute before. -/
def prevT (l : List Int) (i : Int) : Int := if i = 0 then -1 else l.getD (i - 1).toNat 0

set_option maxHeartbeats 1000000 in
theorem occ_check (t : Tables) (hair : airOk t = true) (p : Path) : CallsPV Try.prog 45 [encTables t, encPath p] (.int .i64 (if pathOk t.Ways p then 0 else 160)) := by
  refine callsPV_by (clo := fun _ => false) (rows := false) env_ok Try.func45 rfl (enters_of Try.func45 (by kernel_rfl) rfl) (fun A q P Y hr hA hq => ?_)
  have bad : ∀ b, pathOk t.Ways p = b → b = false → PV.int .i64 160 = q := by
    intro b hb hbf
    subst hbf
    rw [← hq, hb]; rfl
  have hlenT : p.Times.length ≤ 9223372036854775807 := by
    have h1 := Real.cell (show Real [.agg _] from hr.mem (p := encPath p) (by simp)) (c := .list 1 (encInts p.Times)) (by simp)
    simpa [encInts] using h1.len
  obtain ⟨ss, hss⟩ : ∃ ss, ss = encSectors t.Sectors := ⟨_, rfl⟩
  obtain ⟨cs, hcs⟩ : ∃ cs, cs = encConfigs t.Configs := ⟨_, rfl⟩
  obtain ⟨ws, hws⟩ : ∃ ws, ws = encWays t.Ways := ⟨_, rfl⟩
  obtain ⟨ms, hms⟩ : ∃ ms, ms = encIntLs t.Modes := ⟨_, rfl⟩
  obtain ⟨ks, hks⟩ : ∃ ks, ks = encKinds t.Kinds := ⟨_, rfl⟩
  obtain ⟨ts, hts⟩ : ∃ ts, ts = encInts p.Times := ⟨_, rfl⟩
  have hwl : ws.length = t.Ways.length := by rw [hws]; simp [encWays]
  have htl : ts.length = p.Times.length := by rw [hts]; simp [encInts]
  rw [encTables_eq t hss hcs hws hms hks, encPath_eq p hts]
  obtain ⟨way, T⟩ := p
  simp only at bad hts htl hlenT hq ⊢
  obtain ⟨nv, hnv⟩ : ∃ nv, nv = t.Volumes := ⟨_, rfl⟩
  rw [← hnv]
  conv => cbv
  refine ⟨draw_intro hA (by kernel_rfl), ?_⟩
  split
  · rename_i h
    have h1 : way < 0 := by subst hA; simpa [stdOps] using h
    conv => cbv
    exact bad _ rfl (by unfold pathOk; simp only; rw [if_neg (by omega)])
  rename_i h
  have h1 : 0 ≤ way := by subst hA; have t := h; simp [stdOps] at t; omega
  conv => cbv
  split
  · rename_i h
    have h2 : t.Ways.length ≤ way := by subst hA; have t := h; simp [stdOps] at t; omega
    conv => cbv
    exact bad _ rfl (by unfold pathOk; simp only; rw [if_pos h1, List.getElem?_eq_none (by omega)])
  rename_i h
  have h2 : way < t.Ways.length := by subst hA; have t := h; simp [stdOps] at t; omega
  conv => cbv
  refine idx_Way hA hws h1 h2 (fun w v hw hv => ?_)
  have hvl : v.length = w.Legs.length := by rw [hv]; simp [encLegs]
  have hP : pathOk t.Ways ⟨way, T⟩ = (decide (T.length = w.Legs.length + 1) && timesFrom (-1) T) := by
    unfold pathOk; simp only; rw [if_pos h1, hw]
  obtain ⟨w1, w2, w3⟩ := w
  have hw8 := air_legs hair (List.mem_of_getElem? hw)
  simp only at hvl hP hw8
  have hv8 : A.lLen v = w3.length := by subst hA; show (v.length : Int) = _; rw [hvl]
  have htT : A.lLen ts = T.length := by subst hA; show (ts.length : Int) = _; rw [htl]
  have hadd : A.iAdd (A.lLen v) 1 = w3.length + 1 := by rw [hv8]; subst hA; rfl
  conv => cbv
  refine ⟨by subst hA; show inI64 (v.length + 1); unfold inI64; omega, ?_⟩
  split
  · rename_i h
    have h3 : ¬ T.length = w3.length + 1 := by
      have h' : A.bNot (A.iEq (A.lLen ts) (A.iAdd (A.lLen v) 1)) = true := h
      rw [htT, hadd] at h'
      subst hA; simp [stdOps] at h'; omega
    conv => cbv
    exact bad _ rfl (by rw [hP]; simp [h3])
  rename_i h
  have h3 : T.length = w3.length + 1 := by
    have h' : A.bNot (A.iEq (A.lLen ts) (A.iAdd (A.lLen v) 1)) = false := h
    rw [htT, hadd] at h'
    subst hA; simp [stdOps] at h'; omega
  rw [show (decide (T.length = w3.length + 1) && timesFrom (-1) T) = timesFrom (-1) T by simp [h3]] at hP
  rw [hP] at hq bad
  conv => cbv
  refine loop_set hA (fun (i : Int) s => s.put (some 36) (.val (.int .i64 i))) (fun i => 0 ≤ i ∧ i ≤ T.length ∧ timesFrom (-1) T = timesFrom (prevT T i) (T.drop i.toNat)) (fun i => (T.length - i).toNat) 0 ?_ ?_ ?_
  · conv => cbv
    exact wk_sl (by simp [leL, leS])
  · exact ⟨Int.le_refl _, by omega, by simp [prevT]⟩
  · rintro R i ⟨hi0, hi1, hi2⟩ hR
    conv => cbv
    split
    · rename_i hc
      have hc' : i < T.length := by
        have h' : A.iLt i (A.lLen ts) = true := hc
        rw [htT] at h'; subst hA; simpa [stdOps] using h'
      have hn : i.toNat < T.length := by omega
      rw [timesFrom_drop T i.toNat hn] at hi2
      conv => cbv
      refine idx_Int hA hts hi0 hc' (fun x hx => ?_)
      have hxv : T[i.toNat] = x := (List.getElem?_eq_some_iff.1 hx).2
      rw [hxv] at hi2
      have step : 0 ≤ x → x ≤ 65535 → prevT T i < x → (0 ≤ A.iAdd i 1 ∧ A.iAdd i 1 ≤ T.length ∧ timesFrom (-1) T = timesFrom (prevT T (A.iAdd i 1)) (T.drop (A.iAdd i 1).toNat)) ∧ (T.length - A.iAdd i 1).toNat < (T.length - i).toNat := by
        intro a1 a2 a3
        have e : A.iAdd i 1 = i + 1 := by subst hA; rfl
        rw [e]
        refine ⟨⟨by omega, by omega, ?_⟩, by omega⟩
        rw [hi2, show (i + 1).toNat = i.toNat + 1 by omega]
        simp only [a1, a2, a3, decide_true, Bool.true_and]
        congr 1
        unfold prevT
        rw [if_neg (by omega), show (i + 1 - 1) = i by omega, List.getD_eq_getElem?_getD, hx]; rfl
      have hinr : A.inR (A.iAdd i 1) := by subst hA; show inI64 (i + 1); unfold inI64; omega
      conv => cbv
      split
      · rename_i c1
        have d1 : x < 0 := by subst hA; simpa [stdOps] using c1
        conv => cbv
        exact bad _ rfl (by rw [hi2]; simp; omega)
      rename_i c1
      have d1 : 0 ≤ x := by subst hA; have t := c1; simp [stdOps] at t; omega
      conv => cbv
      split
      · rename_i c2
        have d2 : 65535 < x := by subst hA; simpa [stdOps] using c2
        conv => cbv
        exact bad _ rfl (by rw [hi2]; simp; omega)
      rename_i c2
      have d2 : x ≤ 65535 := by subst hA; have t := c2; simp [stdOps] at t; omega
      conv => cbv
      split
      · rename_i c3
        have d3 : 0 < i := by subst hA; simpa [stdOps] using c3
        conv => cbv
        refine ⟨by subst hA; show inI64 (i - 1); unfold inI64; omega, ?_⟩
        refine idx_Int hA hts (n := A.iSub i 1) (by subst hA; show 0 ≤ i - 1; omega) (by subst hA; show i - 1 < T.length; omega) (fun y hy => ?_)
        have hpy : prevT T i = y := by
          have hy' : T[(i - 1).toNat]? = some y := by subst hA; exact hy
          unfold prevT; rw [if_neg (by omega), List.getD_eq_getElem?_getD, hy']; rfl
        conv => cbv
        split
        · rename_i c4
          have d4 : x ≤ y := by subst hA; simpa [stdOps] using c4
          conv => cbv
          exact bad _ rfl (by rw [hi2, hpy]; simp; omega)
        rename_i c4
        have d4 : y < x := by subst hA; have t := c4; simp [stdOps] at t; omega
        have s12 := step d1 d2 (by omega)
        conv => cbv
        exact ⟨hinr, hR (A.iAdd i 1) _ (by (conv => cbv); exact wk_sl (by simp [leL, leS])) s12.1 s12.2⟩
      · rename_i c3
        have d3 : i = 0 := by subst hA; have t := c3; simp [stdOps] at t; omega
        have hp0 : prevT T i = -1 := by unfold prevT; rw [if_pos d3]
        have s12 := step d1 d2 (by omega)
        conv => cbv
        exact ⟨hinr, hR (A.iAdd i 1) _ (by (conv => cbv); exact wk_sl (by simp [leL, leS])) s12.1 s12.2⟩
    · rename_i hc
      have hc' : ¬ i < T.length := by
        have h' : A.iLt i (A.lLen ts) = false := hc
        rw [htT] at h'; subst hA; simp [stdOps] at h'; omega
      conv => cbv
      rw [← hq, hi2, List.drop_eq_nil_of_le (by omega)]
      rfl
end Go.Abs
