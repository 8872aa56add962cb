/-
  Functions: demand.least, Uses, Sure.
-/
import Derived.Test.YtjiimmaikohliaaGreatF46
set_option linter.unusedVariables false
set_option linter.unusedSimpArgs false
namespace Go.Abs
open Go.RowKit Go.Proofs

/-- The places of a class. -/
def placesC (t : Tables) (cl : Int) : Int := match t.Kinds[cl.toNat]? with | some k => k.Places | none => 0
/-- The cells that are in at least so many lists. -/
def leastC (css : List (List Cell)) (many : Int) : List Cell := sortC (css.flatten.eraseDups.filter fun c => decide (many ≤ (cntC css c : Int)))
def leastU (css : List (List Cell)) (many pl : Int) : List Use := (leastC css many).map fun c => ⟨c, pl⟩
def leastR (t : Tables) (s : List Change) (cl : Int) (l : List Path) (many : Int) : PV :=
  if cntErr t s cl l ≠ 0 then .tup [.list 0 [], .int .i64 (cntErr t s cl l)] else .tup [.list 4 (encUses (leastU (l.map (pathCells t s)) many (placesC t cl))), .int .i64 0]

/-- What the map holds in the end. -/
def LeastOk (es : List (Cell × Int)) (css : List (List Cell)) (many pl : Int) : Prop := NodM es ∧ ∀ c, lookM es c = if many ≤ (cntC css c : Int) ∧ cntC css c ≠ 0 then some pl else none

theorem nodup_eraseDups {α : Type} [BEq α] [LawfulBEq α] : ∀ (n : Nat) (l : List α), l.length ≤ n → l.eraseDups.Nodup
  | 0, l, h => by
    have h0 : l = [] := List.eq_nil_of_length_eq_zero (Nat.le_zero.1 h)
    subst h0; simp
  | n + 1, [], _ => by simp
  | n + 1, x :: l, h => by
    rw [List.eraseDups_cons, List.nodup_cons]
    refine ⟨fun hm => ?_, nodup_eraseDups n _ (Nat.le_trans (List.length_filter_le _ _) (by simp at h; omega))⟩
    rw [List.mem_eraseDups, List.mem_filter] at hm
    simp at hm
theorem cntC_pos {css : List (List Cell)} {c : Cell} : cntC css c ≠ 0 ↔ c ∈ css.flatten := by
  unfold cntC
  rw [← Nat.pos_iff_ne_zero, List.length_filter_pos_iff]
  simp only [decide_eq_true_eq, List.mem_flatten]

theorem usesM_least {es : List (Cell × Int)} {css : List (List Cell)} {many pl : Int} (h : LeastOk es css many pl) : usesM es = leastU css many pl := by
  unfold usesM leastU leastC
  have hmem : ∀ c, c ∈ es.map (·.1) ↔ many ≤ (cntC css c : Int) ∧ cntC css c ≠ 0 := fun c => by
    rw [← hasM_iff]
    have h1 := h.2 c
    constructor
    · intro h2
      by_cases h3 : many ≤ (cntC css c : Int) ∧ cntC css c ≠ 0
      · exact h3
      · rw [if_neg h3] at h1
        rw [lookM_none.1 h1] at h2; cases h2
    · intro h3
      rw [if_pos h3] at h1
      cases h4 : hasM es c with
      | true => rfl
      | false => rw [lookM_none.2 h4] at h1; cases h1
  have hperm : (es.map fun p : Cell × Int => p.1).Perm (css.flatten.eraseDups.filter fun c => decide (many ≤ (cntC css c : Int))) := by
    refine (List.perm_ext_iff_of_nodup h.1 (List.Nodup.sublist List.filter_sublist (nodup_eraseDups _ _ (Nat.le_refl _)))).2 fun c => ?_
    rw [hmem c, List.mem_filter, List.mem_eraseDups, decide_eq_true_eq, cntC_pos, and_comm]
  rw [sortC_congr hperm]
  refine List.map_congr_left fun c hc => ?_
  have h1 : c ∈ es.map fun p : Cell × Int => p.1 := hperm.mem_iff.2 ((sortC_perm _).mem_iff.1 hc)
  rw [h.2 c, if_pos ((hmem c).1 h1)]
  rfl

def cloL (n : Nat) : Bool := n == 9000000 || n == 1000009 || n == 3000908 || n == 5000000 + 49 || n == 5000000 + 39

theorem lookM_del {es : List (Cell × Int)} {c d : Cell} : lookM (delM es c) d = if d = c then none else lookM es d := by
  unfold lookM delM
  by_cases h : d = c
  · subst h
    rw [if_pos rfl]
    simp only [List.find?_filter, Option.map_eq_none_iff, List.find?_eq_none]
    intro p _
    simp
  · rw [if_neg h]
    congr 1
    rw [List.find?_filter]
    congr 1
    funext p
    by_cases e : d = p.1
    · subst e; simp [Ne.symm h]
    · simp [e]

theorem pathCells_len {t : Tables} {s : List Change} {p : Path} (h : stErr1 t p = 0) : (pathCells t s p).length ≤ 14400 := by
  have h1 := staysP_len h
  unfold pathCells cellsOf
  have h2 : ∀ x : Stay, (cellsS t s x).length ≤ 1440 := fun x => by
    unfold cellsS
    refine Nat.le_trans (List.length_filterMap_le _ _) ?_
    rw [rangeL_len]
    unfold hiM loM
    omega
  generalize staysP t p = l at h1
  have h3 : (l.flatMap (cellsS t s)).length ≤ l.length * 1440 := by
    clear h1
    induction l with
    | nil => simp
    | cons x l ih => rw [List.flatMap_cons, List.length_append, List.length_cons]; have := h2 x; omega
  omega
theorem stErr_mem {t : Tables} : ∀ {l : List Path}, stErr t l = 0 → ∀ p ∈ l, stErr1 t p = 0
  | [], _, p, hp => by cases hp
  | x :: l, h, p, hp => by
    unfold stErr at h
    split at h
    · rename_i h1
      rcases List.mem_cons.1 hp with rfl | h2
      · exact h1
      · exact stErr_mem h p h2
    · rename_i h1; exact absurd h h1
theorem cnt_len {t : Tables} {s : List Change} {cl : Int} {l : List Path} (h : cntErr t s cl l = 0) : (l.map (pathCells t s)).flatten.length ≤ 14400 * l.length := by
  have h1 : stErr t l = 0 := by
    unfold cntErr at h
    split at h
    · rename_i h1; exact absurd h h1
    · split at h
      · cases h
      · exact h
  have h2 := stErr_mem h1
  clear h h1
  induction l with
  | nil => simp
  | cons x l ih =>
    rw [List.map_cons, List.flatten_cons, List.length_append, List.length_cons]
    have h3 := ih fun p hp => h2 p (by simp [hp])
    have h4 := pathCells_len (s := s) (h2 x (by simp))
    omega

set_option maxRecDepth 40000 in
set_option maxHeartbeats 4000000 in
theorem dm_least (t : Tables) (s : List Change) (cl : Int) (l : List Path) (many : Int) {xs : List PV} (hx : xs = encPaths l) (hlen : l.length ≤ 60) :
    CallsPV Tryz.prog 33 [encTables t, encScheme s, .int .i64 cl, .list 2 xs, .int .i64 many] (leastR t s cl l many) := by
  refine callsPV_by (clo := cloL) (rows := true) env_ok Tryz.func33 rfl (enters_of Tryz.func33 (by kernel_rfl) rfl) (fun A q P Y hr hA hq => ?_)
  have hct := fun c0 c1 h0 h1 => CallsR.flags (clo' := cloL) (rows' := true) (dm_counted t s cl l c0 c1 h0 h1 hx (by omega))
  unfold leastR at hq
  unfold cntQ at hct
  obtain ⟨css, hcss⟩ : ∃ css, css = l.map (pathCells t s) := ⟨_, rfl⟩
  rw [← hcss] at hq hct
  have hclk : cntErr t s cl l = 0 → 0 ≤ cl ∧ cl < t.Kinds.length := fun h => by
    unfold cntErr at h
    split at h
    · rename_i h1; exact absurd h h1
    · split at h
      · cases h
      · omega
  have hcl : cntErr t s cl l = 0 → css.flatten.length ≤ 14400 * l.length := fun h => by rw [hcss]; exact cnt_len h
  generalize cntErr t s cl l = e at hq hct hclk hcl
  have hsort := fun es h1 h2 => dm_sorted es h1 h2 (ks := keysM es) (vs := valsM es) (xs := encUses (usesM es)) rfl rfl rfl
  have hpl : ∀ k, t.Kinds[cl.toNat]? = some k → placesC t cl = k.Places := fun k h => by unfold placesC; rw [h]
  generalize placesC t cl = pl at hq hpl
  obtain ⟨ss, hss⟩ : ∃ ss, ss = encSectors t.Sectors := ⟨_, rfl⟩
  obtain ⟨cs, hcs⟩ : ∃ cs, cs = encConfigs t.Configs := ⟨_, rfl⟩
  obtain ⟨ws, hws⟩ : ∃ ws, ws = encWays t.Ways := ⟨_, rfl⟩
  obtain ⟨ms, hms⟩ : ∃ ms, ms = encIntLs t.Modes := ⟨_, rfl⟩
  obtain ⟨ks, hks⟩ : ∃ ks, ks = encKinds t.Kinds := ⟨_, rfl⟩
  obtain ⟨nv, hnv⟩ : ∃ nv, nv = t.Volumes := ⟨_, rfl⟩
  have htab : encTables t = .agg [.int .i64 nv, .list 5 ss, .list 3 cs, .list 3 ws, .list 1 ms, .list 6 ks] := by rw [encTables_eq t hss hcs hws hms hks, hnv]
  rw [htab] at hct ⊢
  have hkl : ks.length = t.Kinds.length := by rw [hks]; simp [encKinds]
  obtain ⟨sc, hsc⟩ : ∃ sc, sc = encChanges s := ⟨_, rfl⟩
  rw [encScheme_eq hsc] at hct ⊢
  have hct := hct [.val (.int .i64 nv), .val (.list 5 ss), .val (.list 3 cs), .val (.list 3 ws), .val (.list 1 ms), .val (.list 6 ks)] [.val (.list 3 sc)] (by simp) (by simp)
  conv => cbv
  refine shareR_intro hA hct (fun r bx' tk' ax' h => ?_)
  obtain ⟨rfl, rfl, h⟩ := h
  rcases h with ⟨he, rfl, rfl⟩ | ⟨he, rfl, es0, hes0, rfl⟩
  · rw [if_pos he] at hq
    conv => cbv
    split
    · conv => cbv
      exact ⟨_, Frz.refl _ _, by (conv => cbv); exact hq⟩
    · rename_i hc
      exact absurd (neF hA hc) he
  rw [if_neg (by simp [he])] at hq
  subst he
  obtain ⟨hcl0, hcl1⟩ := hclk rfl
  have hcl := hcl rfl
  clear hclk
  obtain ⟨m, hm⟩ : ∃ m, m = encM encCell encInt es0 := ⟨_, rfl⟩
  rw [← hm]
  conv => cbv
  split
  · rename_i hc
    cases ((neT hA hc rfl))
  conv => cbv
  refine loop_set hA (fun (z : List PV × List (PV × PV)) s => { s with ax := ⟨[.ents z.2 none, .iter (some 0) [] z.1 none], s.ax.yk⟩ })
    (fun z => ∃ (left : List Cell) (es : List (Cell × Int)), z.1 = left.map encCell ∧ left.Nodup ∧ (∀ c ∈ left, cntC css c ≠ 0) ∧ z.2 = encM encCell encInt es ∧ NodM es ∧ ∀ c, lookM es c = if c ∈ left then cntO (cntC css c) else if many ≤ (cntC css c : Int) ∧ cntC css c ≠ 0 then some pl else none)
    (fun z => z.1.length) (A.eKeys m, m) ?_ ?_ ?_
  · conv => cbv
    exact wk_sl (by repeat (first | refine leL_same ?_ | refine leL_any ?_ | exact leL_nil))
  · refine ⟨es0.map fun p : Cell × Int => p.1, es0, ?_, hes0.1, fun c h => ?_, hm, hes0.1, fun c => ?_⟩
    · show A.eKeys m = _
      subst hA
      rw [hm]
      show (encM encCell _ es0).map (·.1) = _
      unfold encM
      rw [List.map_map, List.map_map]
      rfl
    · intro h0
      have h1 := hes0.2 c
      rw [h0] at h1
      have h2 := lookM_none.1 h1
      rw [hasM_iff.2 h] at h2; cases h2
    · split
      · exact hes0.2 c
      · rename_i h1
        have h2 : lookM es0 c = none := lookM_none.2 (by
          cases h : hasM es0 c with
          | false => rfl
          | true => exact absurd (hasM_iff.1 h) h1)
        have h3 := hes0.2 c
        rw [h2] at h3
        unfold cntO at h3
        split at h3
        · rename_i h4
          rw [h2, if_neg (by simp [h4])]
        · cases h3
  rintro R3 ⟨lf, m2⟩ ⟨left, es, hl1, hl2, hl3, hl4, hl5, hl6⟩ hR3
  simp only at hl1 hl4
  conv => cbv
  refine nxt_intro hA (fun h0 => ?_) (fun k w hk hkv => ?_)
  · have hl0 : left = [] := List.map_eq_nil_iff.1 (hl1.symm.trans h0)
    have hLO : LeastOk es css many pl := ⟨hl5, fun c => by rw [hl6 c, hl0]; simp⟩
    have hel : es.length ≤ 1000000 := by
      have h1 : (es.map fun p : Cell × Int => p.1).length ≤ css.flatten.length := List.Nodup.length_le_of_subset hl5 fun c hc => by
        obtain ⟨v, hv⟩ : ∃ v, lookM es c = some v := by
          cases h : lookM es c with
          | some v => exact ⟨v, rfl⟩
          | none => have := lookM_none.1 h; rw [hasM_iff.2 hc] at this; cases this
        rw [hLO.2 c] at hv
        split at hv
        · rename_i h; exact cntC_pos.1 h.2
        · cases hv
      rw [List.length_map] at h1
      omega
    conv => cbv
    refine frz_intro hA (Frz.map 0 m2 none (keysM es) (valsM es) _ _ _ _ rfl (by rw [hl4, encM_zip]) (by simp [keysM, valsM]) (Frz.refl _ _)) rfl (hsort es hl5 hel) ?_
    rw [usesM_least hLO]
    generalize encUses (leastU css many pl) = us at hq
    generalize keysM es = kk
    generalize valsM es = vv
    conv => cbv
    exact ⟨_, Frz.refl _ _, by (conv => cbv); exact hq⟩
  · rw [hl1] at hk
    obtain ⟨c, hcl, hck2⟩ := List.mem_map.1 hk
    subst hck2
    obtain ⟨k1, k2, k3⟩ := c
    obtain ⟨o, ho⟩ : ∃ o : Int, o = (cntC css ⟨k1, k2, k3⟩ : Nat) := ⟨_, rfl⟩
    have hlk : lookE m2 (encCell ⟨k1, k2, k3⟩) = some (.int .i64 o) := by
      rw [hl4, lookE_enc keq_Cell, hl6, if_pos hcl]
      unfold cntO
      rw [if_neg (hl3 _ hcl), ho]
      rfl
    conv => cbv
    refine ent_intro hA (v := .int .i64 o) hlk ?_
    conv => cbv
    have hdr : A.lDrop lf (.agg [.bool k1, .int .i64 k2, .int .i64 k3]) = (left.filter fun d => !decide ((⟨k1, k2, k3⟩ : Cell) = d)).map encCell := by
      subst hA
      rw [hl1]
      show (left.map encCell).filter (fun y => !keq (encCell ⟨k1, k2, k3⟩) y) = _
      rw [List.filter_map]
      simp only [Function.comp_def, keq_Cell]
    have hkk : keysOk true [.bool, .int, .int] m2 (.agg [.bool k1, .int .i64 k2, .int .i64 k3]) := by rw [hl4]; exact keysOk_Cell es ⟨k1, k2, k3⟩
    split
    · rename_i hc
      have hc := ltT hA hc
      conv => cbv
      refine ⟨kOk_intro hA hkk, hR3 (A.lDrop (A.lDrop lf (.agg [.bool k1, .int .i64 k2, .int .i64 k3])) (.agg [.bool k1, .int .i64 k2, .int .i64 k3]), A.eDel m2 (.agg [.bool k1, .int .i64 k2, .int .i64 k3])) _ ?_ ?_ ?_⟩
      · (conv => cbv)
        exact Wk.trans _ _ _ (Wk.forgetMp _ _ _ _ [.ents (A.eDel m2 (.agg [.bool k1, .int .i64 k2, .int .i64 k3])) none, .iter (some 0) [] (A.lDrop (A.lDrop lf (.agg [.bool k1, .int .i64 k2, .int .i64 k3])) (.agg [.bool k1, .int .i64 k2, .int .i64 k3])) none] _ ⟨⟨List.Perm.refl _, .inl rfl⟩, ⟨rfl, rfl, rfl, .inl rfl⟩, trivial⟩) (wk_round (bx := [_, _]) (bx' := [_]) (mp := [_, _]) (mp' := []) (by repeat (first | refine leL_same ?_ | refine leL_any ?_ | exact leL_nil)) (by simp) (by simp) rfl rfl)
      · refine ⟨left.filter fun d => !decide ((⟨k1, k2, k3⟩ : Cell) = d), delM es ⟨k1, k2, k3⟩, ?_, hl2.filter _, fun c h => hl3 c (List.mem_filter.1 h).1, ?_, hl5.del _, fun d => ?_⟩
        · show A.lDrop (A.lDrop lf _) _ = _
          rw [hdr]
          subst hA
          show (List.map encCell _).filter (fun y => !keq (encCell ⟨k1, k2, k3⟩) y) = _
          rw [List.filter_map, List.filter_filter]
          simp only [Function.comp_def, keq_Cell, Bool.and_self]
        · show A.eDel m2 _ = _
          subst hA
          rw [hl4]
          exact delE_enc keq_Cell es ⟨k1, k2, k3⟩
        · rw [lookM_del]
          by_cases e : d = ⟨k1, k2, k3⟩
          · subst e
            rw [if_pos rfl, if_neg (by simp), if_neg (by omega)]
          · rw [if_neg e, hl6]
            have : (d ∈ left.filter fun d => !decide ((⟨k1, k2, k3⟩ : Cell) = d)) ↔ d ∈ left := by simp [Ne.symm e]
            simp only [this]
      · show (A.lDrop (A.lDrop lf _) _).length < lf.length
        refine Nat.lt_of_le_of_lt (m := (A.lDrop lf (.agg [.bool k1, .int .i64 k2, .int .i64 k3])).length) ?_ ?_
        · subst hA; exact List.length_filter_le _ _
        · rw [hdr, hl1, List.length_map, List.length_map]
          exact List.length_filter_lt_length_iff_exists.2 ⟨_, hcl, by simp⟩
    · rename_i hc
      have hc := ltF hA hc
      conv => cbv
      refine ⟨cut_intro hA (by kernel_rfl), ?_⟩
      refine idx_Kind hA hks hcl0 hcl1 (fun kd kv hkd hkv => ?_)
      have hplk := hpl kd hkd
      obtain ⟨kd1, kd2, kd3, kd4, kd5, kd6⟩ := kd
      simp only at hplk
      subst hplk
      have hhas : A.eHas m2 (.agg [.bool k1, .int .i64 k2, .int .i64 k3]) := by
        subst hA
        show hasE m2 (encCell ⟨k1, k2, k3⟩) = true
        rw [hl4, hasE_enc keq_Cell]
        cases h : hasM es ⟨k1, k2, k3⟩ with
        | true => rfl
        | false =>
          have h1 := hl6 ⟨k1, k2, k3⟩
          rw [lookM_none.2 h, if_pos hcl] at h1
          unfold cntO at h1
          rw [if_neg (hl3 _ hcl)] at h1
          cases h1
      conv => cbv
      refine ⟨⟨kOk_intro hA hkk, hhas⟩, hR3 (A.lDrop lf (.agg [.bool k1, .int .i64 k2, .int .i64 k3]), A.ePut m2 (.agg [.bool k1, .int .i64 k2, .int .i64 k3]) (.int .i64 pl)) _ ?_ ?_ ?_⟩
      · (conv => cbv)
        exact Wk.trans _ _ _ (Wk.forgetMp _ _ _ _ [.ents (A.ePut m2 (.agg [.bool k1, .int .i64 k2, .int .i64 k3]) (.int .i64 pl)) none, .iter (some 0) [] (A.lDrop lf (.agg [.bool k1, .int .i64 k2, .int .i64 k3])) none] _ ⟨⟨List.Perm.refl _, .inl rfl⟩, ⟨rfl, rfl, rfl, .inl rfl⟩, trivial⟩) (wk_round (bx := [_, _]) (bx' := [_]) (mp := [_, _]) (mp' := []) (by repeat (first | refine leL_same ?_ | refine leL_any ?_ | exact leL_nil)) (by simp) (by simp) rfl rfl)
      · refine ⟨left.filter fun d => !decide ((⟨k1, k2, k3⟩ : Cell) = d), putM es ⟨k1, k2, k3⟩ pl, hdr, hl2.filter _, fun c h => hl3 c (List.mem_filter.1 h).1, ?_, hl5.put _ _, fun d => ?_⟩
        · show A.ePut m2 _ _ = _
          subst hA
          rw [hl4]
          exact putE_enc keq_Cell es ⟨k1, k2, k3⟩ pl
        · rw [lookM_put]
          by_cases e : d = ⟨k1, k2, k3⟩
          · subst e
            rw [if_pos rfl, if_neg (by simp), if_pos ⟨by omega, hl3 _ hcl⟩]
          · rw [if_neg e, hl6]
            have : (d ∈ left.filter fun d => !decide ((⟨k1, k2, k3⟩ : Cell) = d)) ↔ d ∈ left := by simp [Ne.symm e]
            simp only [this]
      · show (A.lDrop lf _).length < lf.length
        rw [hdr, hl1, List.length_map, List.length_map]
        exact List.length_filter_lt_length_iff_exists.2 ⟨_, hcl, by simp⟩

theorem leastR_cases (t : Tables) (s : List Change) (cl : Int) (l : List Path) (many : Int) : ∃ (us : Nat × List PV) (e : Int), leastR t s cl l many = .tup [.list us.1 us.2, .int .i64 e] := by
  unfold leastR
  split
  · exact ⟨(0, []), _, rfl⟩
  · exact ⟨(4, _), _, rfl⟩

theorem dm_Uses (t : Tables) (s : List Change) (cl : Int) (l : List Path) {xs : List PV} (hx : xs = encPaths l) (hlen : l.length ≤ 60) :
    CallsPV Tryz.prog 12 [encTables t, encScheme s, .int .i64 cl, .list 2 xs] (leastR t s cl l 1) := by
  refine callsPV_by (clo := fun _ => false) (rows := false) env_ok Tryz.func12 rfl (enters_of Tryz.func12 (by kernel_rfl) rfl) (fun A q P Y hr hA hq => ?_)
  have hcall := dm_least t s cl l 1 hx hlen
  obtain ⟨⟨m, us⟩, e, hr2⟩ := leastR_cases t s cl l 1
  rw [hr2] at hq hcall
  obtain ⟨ss, hss⟩ : ∃ ss, ss = encSectors t.Sectors := ⟨_, rfl⟩
  obtain ⟨cs, hcs⟩ : ∃ cs, cs = encConfigs t.Configs := ⟨_, rfl⟩
  obtain ⟨ws, hws⟩ : ∃ ws, ws = encWays t.Ways := ⟨_, rfl⟩
  obtain ⟨ms, hms⟩ : ∃ ms, ms = encIntLs t.Modes := ⟨_, rfl⟩
  obtain ⟨ks, hks⟩ : ∃ ks, ks = encKinds t.Kinds := ⟨_, rfl⟩
  obtain ⟨nv, hnv⟩ : ∃ nv, nv = t.Volumes := ⟨_, rfl⟩
  have htab : encTables t = .agg [.int .i64 nv, .list 5 ss, .list 3 cs, .list 3 ws, .list 1 ms, .list 6 ks] := by rw [encTables_eq t hss hcs hws hms hks, hnv]
  rw [htab] at hcall ⊢
  obtain ⟨sc, hsc⟩ : ∃ sc, sc = encChanges s := ⟨_, rfl⟩
  rw [encScheme_eq hsc] at hcall ⊢
  conv => cbv
  refine call_intro hA hcall ?_
  conv => cbv
  exact hq

theorem dm_Sure (t : Tables) (s : List Change) (cl : Int) (l : List Path) {xs : List PV} (hx : xs = encPaths l) (hlen : l.length ≤ 60) :
    CallsPV Tryz.prog 14 [encTables t, encScheme s, .int .i64 cl, .list 2 xs] (leastR t s cl l l.length) := by
  refine callsPV_by (clo := fun _ => false) (rows := false) env_ok Tryz.func14 rfl (enters_of Tryz.func14 (by kernel_rfl) rfl) (fun A q P Y hr hA hq => ?_)
  have hcall := dm_least t s cl l l.length hx hlen
  have hxl : xs.length = l.length := by rw [hx]; simp [encPaths]
  obtain ⟨⟨m, us⟩, e, hr2⟩ := leastR_cases t s cl l l.length
  rw [hr2] at hq hcall
  have hll : A.lLen xs = (l.length : Int) := lenI hA hxl
  rw [← hll] at hcall
  obtain ⟨ss, hss⟩ : ∃ ss, ss = encSectors t.Sectors := ⟨_, rfl⟩
  obtain ⟨cs, hcs⟩ : ∃ cs, cs = encConfigs t.Configs := ⟨_, rfl⟩
  obtain ⟨ws, hws⟩ : ∃ ws, ws = encWays t.Ways := ⟨_, rfl⟩
  obtain ⟨ms, hms⟩ : ∃ ms, ms = encIntLs t.Modes := ⟨_, rfl⟩
  obtain ⟨ks, hks⟩ : ∃ ks, ks = encKinds t.Kinds := ⟨_, rfl⟩
  obtain ⟨nv, hnv⟩ : ∃ nv, nv = t.Volumes := ⟨_, rfl⟩
  have htab : encTables t = .agg [.int .i64 nv, .list 5 ss, .list 3 cs, .list 3 ws, .list 1 ms, .list 6 ks] := by rw [encTables_eq t hss hcs hws hms hks, hnv]
  rw [htab] at hcall ⊢
  obtain ⟨sc, hsc⟩ : ∃ sc, sc = encChanges s := ⟨_, rfl⟩
  rw [encScheme_eq hsc] at hcall ⊢
  conv => cbv
  refine call_intro hA hcall ?_
  conv => cbv
  exact hq
end Go.Abs
