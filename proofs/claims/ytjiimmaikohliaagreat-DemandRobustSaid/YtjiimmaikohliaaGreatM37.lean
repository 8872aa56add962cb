/-
  Law DemandRobust (the walk).
-/
import Derived.Test.YtjiimmaikohliaaGreatP13
set_option linter.unusedVariables false
set_option linter.unusedSimpArgs false
namespace Go.Abs
open Go.RowKit Go.Proofs

theorem block_seq {A : Ops} {E : Env} {b : Nat} {a c : Code} {nb : Nat × Nat} {st : St} {Q0 : AX → St → Prop}
    (h : ∀ R3 : St → Prop, (∀ s, wpC' A E c nb s (fun e st' => match e with
      | .normal => Q0 .normal st'
      | .exit i => if i = b then Q0 .normal st' else Q0 (.exit i) st'
      | .ret => Q0 .ret st') → R3 s) → wpC' A E a nb st fun e s => match e with
      | .normal => R3 s
      | .exit i => if i = b then Q0 .normal s else Q0 (.exit i) s
      | .ret => Q0 .ret s) : wpC' A E (.block b (.seq a c)) nb st Q0 := by
  unfold wpC'
  exact seq_stop h
theorem leastR_two (e : Int) (us : List Use) : ∃ n zs, (if e ≠ 0 then PV.tup [.list 0 [], .int .i64 e] else .tup [.list 4 (encUses us), .int .i64 0]) = .tup [.list n zs, .int .i64 e] ∧ (e = 0 → n = 4 ∧ zs = encUses us) := by
  by_cases h : e = 0
  · subst h; exact ⟨4, encUses us, by simp, fun _ => ⟨rfl, rfl⟩⟩
  · exact ⟨0, [], by rw [if_pos h], fun h0 => absurd h0 h⟩
theorem addR_fine {ls : List (List Use)} (h : ls.any badB = false) : addR ls = .tup [.list 4 (encUses (addO ls.flatten)), .int .i64 0] := by
  unfold addR
  rw [if_neg (by simp [h])]
  rfl
theorem intR_fine {l1 l2 : List (List Use)} {c : Cell} (h1 : l1.any badB = false) (h2 : l2.any badB = false) : intR l1 l2 c = .tup [.int .i64 (sumAt l1 c), .int .i64 (sumAt l2 c), .int .i64 0] := by
  unfold intR
  rw [if_neg (by simp [h1, h2])]
/-- What is known of the three lists in the course of the loop. -/
structure Rob (n : Nat) (LS LP LR : List (List Use)) : Prop where
  b1 : LS.any badB = false
  b2 : LP.any badB = false
  b3 : LR.any badB = false
  n1 : LS.flatten.length ≤ 172800 * n
  n2 : LP.flatten.length ≤ 172800 * n
  n3 : LR.flatten.length ≤ 172800 * n
  l1 : LS.length = n
  l2 : LP.length = n
  l3 : LR.length = n
  lo : ∀ c, sumC LS.flatten c ≤ sumC LR.flatten c
  hi : ∀ c, sumC LR.flatten c ≤ sumC LP.flatten c
theorem Rob.snoc {n : Nat} {LS LP LR : List (List Use)} (h : Rob n LS LP LR) {t : Tables} {s : List Change} {cl : Int} {l : List Path} (hl : l.length ≤ 12) (hc : cntErr t s cl l = 0) {p : Path} (hp : p ∈ l) :
    Rob (n + 1) (LS ++ [leastU (l.map (pathCells t s)) l.length (placesC t cl)]) (LP ++ [leastU (l.map (pathCells t s)) 1 (placesC t cl)]) (LR ++ [leastU [pathCells t s p] 1 (placesC t cl)]) := by
  have hpl := cnt_facts hc
  have h1 : (l.map (pathCells t s)).flatten.length ≤ 172800 := Nat.le_trans (cnt_len hc) (by omega)
  have h2 : ([pathCells t s p] : List (List Cell)).flatten.length ≤ 172800 := by
    have := cnt_len (l := [p]) (cnt_part hc hp)
    have e : ([pathCells t s p] : List (List Cell)) = [p].map (pathCells t s) := rfl
    rw [e]
    exact Nat.le_trans this (by simp)
  have hr := fun c => robust_one (l.map (pathCells t s)) (pathCells t s p) (List.mem_map_of_mem hp) (placesC t cl) (by omega) c
  rw [List.length_map] at hr
  have hfl : ∀ (L : List (List Use)) (x : List Use), (L ++ [x]).flatten = L.flatten ++ x := fun L x => by simp
  refine ⟨?_, ?_, ?_, ?_, ?_, ?_, ?_, ?_, ?_, fun c => ?_, fun c => ?_⟩
  · rw [List.any_append, h.b1, List.any_cons, least_ok hpl]; rfl
  · rw [List.any_append, h.b2, List.any_cons, least_ok hpl]; rfl
  · rw [List.any_append, h.b3, List.any_cons, least_ok hpl]; rfl
  · have := h.n1; have := leastU_len (many := l.length) (pl := placesC t cl) h1; rw [hfl, List.length_append]; omega
  · have := h.n2; have := leastU_len (many := 1) (pl := placesC t cl) h1; rw [hfl, List.length_append]; omega
  · have := h.n3; have := leastU_len (many := 1) (pl := placesC t cl) h2; rw [hfl, List.length_append]; omega
  · rw [List.length_append, h.l1]; rfl
  · rw [List.length_append, h.l2]; rfl
  · rw [List.length_append, h.l3]; rfl
  · rw [hfl, hfl, sumC_append, sumC_append]; have := h.lo c; have := (hr c).1; omega
  · rw [hfl, hfl, sumC_append, sumC_append]; have := h.hi c; have := (hr c).2; omega

set_option maxRecDepth 10000 in
set_option maxHeartbeats 4000000 in
theorem law_DemandRobust (t : Tables) (s : List Change) (l : List Fleet) (_ : okTables t) (_ : okScheme s) (hok : ∀ x ∈ l, okFleet x) :
    CallsPV Tryz.prog 5 [encTables t, encScheme s, .list 3 (encFleets l)] (.bool true) := by
  obtain ⟨fs, hfs⟩ : ∃ fs, fs = encFleets l := ⟨_, rfl⟩
  rw [← hfs]
  have hfl : fs.length = l.length := by rw [hfs]; simp [encFleets]
  have hF := fun (L : List Path) (zs : List PV) (hz : zs = encPaths L) => law20_few t s L hz
  have hU := fun (cl : Int) (L : List Path) (zs : List PV) (hz : zs = encPaths L) (h : L.length ≤ 60) => dm_Uses t s cl L hz h
  have hS := fun (cl : Int) (L : List Path) (zs : List PV) (hz : zs = encPaths L) (h : L.length ≤ 60) => dm_Sure t s cl L hz h
  have hlR : ∀ cl L many, leastR t s cl L many = if cntErr t s cl L ≠ 0 then .tup [.list 0 [], .int .i64 (cntErr t s cl L)] else .tup [.list 4 (encUses (leastU (L.map (pathCells t s)) many (placesC t cl))), .int .i64 0] := fun cl L many => rfl
  refine callsPV_by (clo := fun _ => false) (rows := false) env_ok Tryz.func5 rfl (enters_of Tryz.func5 (by kernel_rfl) rfl) (fun A q P Y hr hA hq => ?_)
  have hsn := fun {n : Nat} {LS LP LR : List (List Use)} (h : Rob n LS LP LR) {cl : Int} {L : List Path} (hl : L.length ≤ 12) (hc : cntErr t s cl L = 0) {p : Path} (hp : p ∈ L) => Rob.snoc (t := t) (s := s) h hl hc hp
  have hpart := fun {cl : Int} {L : List Path} (hc : cntErr t s cl L = 0) {p : Path} (hp : p ∈ L) => cnt_part (t := t) (s := s) hc hp
  obtain ⟨ss, hss⟩ : ∃ ss, ss = encSectors t.Sectors := ⟨_, rfl⟩
  obtain ⟨cs, hcs⟩ : ∃ cs, cs = encConfigs t.Configs := ⟨_, rfl⟩
  obtain ⟨ws, hws⟩ : ∃ ws, ws = encWays t.Ways := ⟨_, rfl⟩
  obtain ⟨ms, hms⟩ : ∃ ms, ms = encIntLs t.Modes := ⟨_, rfl⟩
  obtain ⟨ks, hks⟩ : ∃ ks, ks = encKinds t.Kinds := ⟨_, rfl⟩
  obtain ⟨nv, hnv⟩ : ∃ nv, nv = t.Volumes := ⟨_, rfl⟩
  have htab : encTables t = .agg [.int .i64 nv, .list 5 ss, .list 3 cs, .list 3 ws, .list 1 ms, .list 6 ks] := by rw [encTables_eq t hss hcs hws hms hks, hnv]
  rw [htab] at hF hU hS ⊢
  obtain ⟨sc, hsc⟩ : ∃ sc, sc = encChanges s := ⟨_, rfl⟩
  rw [encScheme_eq hsc] at hF hU hS ⊢
  refine seq_stop (fun R hR => ?_)
  conv => cbv
  refine hR _ ?_
  clear hR
  refine seq_stop (fun R hR => ?_)
  conv => cbv
  refine call_intro hA (law20_sane) ?_
  conv => cbv
  split
  · rename_i hc
    cases (nT hA hc)
  conv => cbv
  refine hR _ ?_
  clear hR
  refine seq_stop (fun R hR => ?_)
  conv => cbv
  split
  · conv => cbv
    exact hq
  rename_i hc
  have hl5 : (l.length : Int) ≤ 5 := ltF' hA rfl (lenI hA hfl) hc
  refine hR _ ?_
  clear hR
  refine seq_stop (fun R hR => ?_)
  conv => cbv
  refine hR _ ?_
  clear hR
  refine seq_stop (fun R hR => ?_)
  refine seq_stop (fun R0 hR0 => ?_)
  conv => cbv
  refine hR0 _ ?_
  clear hR0
  conv => cbv
  refine loop_set hA (fun (z : Int × List PV × List PV × List PV) s => { ((((s.put (some 10) (.val (.int .i64 z.1))).put (some 7) (.own 0 1 z.2.1)).put (some 8) (.own 1 1 z.2.2.1)).put (some 9) (.own 2 1 z.2.2.2)) with tk := [(A.nLen z.2.1, 35), (A.nLen z.2.2.1, 35), (A.nLen z.2.2.2, 35)] })
    (fun z => 0 ≤ z.1 ∧ z.1 ≤ l.length ∧ ∃ LS LP LR, z.2.1 = encUseLs LS ∧ z.2.2.1 = encUseLs LP ∧ z.2.2.2 = encUseLs LR ∧ Rob z.1.toNat LS LP LR) (fun z => (l.length - z.1).toNat) (0, [], [], []) ?_ ?_ ?_
  · conv => cbv
    exact Wk.trans _ _ _ (Wk.own _ _ _ _ 7 0 1 [] 35 rfl (.inr rfl)) (Wk.trans _ _ _ (Wk.own _ _ _ _ 8 0 1 [] 35 rfl (.inr rfl)) (wk_own 9 0 1 [] 35 rfl (.inr rfl) (by repeat (first | refine leL_same ?_ | refine leL_any ?_ | exact leL_nil)) (by subst hA; rfl)))
  · exact ⟨Int.le_refl _, by omega, [], [], [], rfl, rfl, rfl, ⟨rfl, rfl, rfl, by simp, by simp, by simp, rfl, rfl, rfl, fun c => Int.le_refl _, fun c => Int.le_refl _⟩⟩
  rintro R2 ⟨i, la, lb, lc⟩ ⟨hi0, hi1, LS, LP, LR, ha, hb, hc', hrob⟩ hR2
  simp only at hi0 hi1 ha hb hc' hrob
  refine seq_stop (fun R3 hR3 => ?_)
  conv => cbv
  split
  rotate_left
  · rename_i hc
    have hge : (l.length : Int) ≤ i := ltF' hA rfl (lenI hA hfl) hc
    conv => cbv
    refine hR _ ?_
    clear hR hR2 hR3 hF hU hS hlR hsn hpart
    have hn : i.toNat = l.length := by omega
    rw [hn] at hrob
    clear hi0 hi1 hge hn
    have n1 : LS.flatten.length ≤ 1000000 := by have := hrob.n1; omega
    have n2 : LP.flatten.length ≤ 1000000 := by have := hrob.n2; omega
    have n3 : LR.flatten.length ≤ 1000000 := by have := hrob.n3; omega
    refine seq_stop (fun R hR => ?_)
    refine seq_stop (fun R0 hR0 => ?_)
    conv => cbv
    refine hR0 _ ?_
    clear hR0
    refine loop_set hA (fun (k : Int) s => s.put (some 151) (.val (.int .i64 k))) (fun k => 0 ≤ k ∧ k ≤ 3) (fun k => (3 - k).toNat) 0 ?_ ?_ ?_
    · conv => cbv
      exact wk_sl (by repeat (first | refine leL_same ?_ | refine leL_any ?_ | exact leL_nil))
    · exact ⟨Int.le_refl _, by omega⟩
    rintro R2 k ⟨hk0, hk1⟩ hR2
    have hl3 : A.lLen [PV.list 1 la, PV.list 1 lb, PV.list 1 lc] = 3 := by subst hA; rfl
    refine seq_stop (fun R3 hR3 => ?_)
    conv => cbv
    refine hR3 _ ?_
    clear hR3
    refine seq_stop (fun R3 hR3 => ?_)
    conv => cbv
    split
    rotate_left
    · rename_i hc
      conv => cbv
      refine hR _ ?_
      conv => cbv
      exact hq
    rename_i hc
    have hk3 : k < 3 := ltT' hA rfl hl3 hc
    refine hR3 _ ?_
    clear hR3 hR
    have hks : A.iAdd k 1 = k + 1 := addI hA _ _
    have hkr : A.inR (A.iAdd k 1) := inR' hA hks (by unfold inI64; omega)
    have hidL : ∀ K : List PV → Prop, (∀ (X : List (List Use)) (xv : List PV), X ∈ [LS, LP, LR] → xv = encUseLs X → K [.list 1 xv]) → A.idx [PV.list 1 la, PV.list 1 lb, PV.list 1 lc] k K := fun K hK =>
      idx_var hA (l := [LS, LP, LR]) (enc := fun L => PV.list 1 (encUseLs L)) (by rw [ha, hb, hc']; rfl) hk0 (by simp; omega) fun x hx => hK x _ (List.mem_of_getElem? hx) rfl
    refine seq_stop (fun R4 hR4 => ?_)
    refine block_seq (fun R3 hR3 => ?_)
    conv => cbv
    refine hidL _ (fun X xv hX hxv => ?_)
    clear hidL
    have hXn : X.flatten.length ≤ 1000000 := by
      rcases List.mem_cons.1 hX with rfl | hX
      · exact n1
      rcases List.mem_cons.1 hX with rfl | hX
      · exact n2
      rcases List.mem_cons.1 hX with rfl | hX
      · exact n3
      · cases hX
    have hXb : X.any badB = false := by
      rcases List.mem_cons.1 hX with rfl | hX
      · exact hrob.b1
      rcases List.mem_cons.1 hX with rfl | hX
      · exact hrob.b2
      rcases List.mem_cons.1 hX with rfl | hX
      · exact hrob.b3
      · cases hX
    clear hX
    have c4 := dm_Add X hxv hXn
    rw [addR_fine hXb] at c4
    have hUl : (addO X.flatten).length ≤ 1000000 := by
      refine Nat.le_trans ?_ hXn
      rw [addO_eq, List.length_map, (sortC_perm _).length_eq, List.length_map]
      exact sumU_len X.flatten
    generalize addO X.flatten = O at c4 hUl
    obtain ⟨U, hUe⟩ : ∃ U, U = encUses O := ⟨_, rfl⟩
    rw [← hUe] at c4
    have hUlen : U.length = O.length := by rw [hUe, encUses_len]
    conv => cbv
    refine hR3 _ ?_
    clear hR3
    refine seq_stop (fun R3 hR3 => ?_)
    conv => cbv
    refine call_intro hA (c4) ?_
    conv => cbv
    refine hR3 _ ?_
    clear hR3 c4
    refine seq_stop (fun R3 hR3 => ?_)
    conv => cbv
    split
    · rename_i hc
      cases (neT hA hc rfl)
    conv => cbv
    refine hR3 _ ?_
    clear hR3
    refine seq_stop (fun R3 hR3 => ?_)
    conv => cbv
    refine hR3 _ ?_
    clear hR3
    refine loop_set hA (fun (j : Int) s => s.put (some 22) (.val (.int .i64 j))) (fun j => 0 ≤ j ∧ j ≤ O.length) (fun j => (O.length - j).toNat) 0 ?_ ?_ ?_
    · conv => cbv
      exact wk_sl (by repeat (first | refine leL_same ?_ | refine leL_any ?_ | exact leL_nil))
    · exact ⟨Int.le_refl _, by omega⟩
    rintro R3 j ⟨hj0, hj1⟩ hR3
    refine seq_stop (fun R5 hR5 => ?_)
    conv => cbv
    split
    rotate_left
    · rename_i hc
      conv => cbv
      refine hR4 _ ?_
      conv => cbv
      refine ⟨hkr, hR2 (A.iAdd k 1) _ ?_ ?_ ?_⟩
      · conv => cbv
        exact wk_sl (by repeat (first | refine leL_same ?_ | refine leL_any ?_ | exact leL_nil))
      · rw [hks]; exact ⟨by omega, by omega⟩
      · rw [hks]; omega
    rename_i hc
    have hj : j < O.length := ltT' hA rfl (lenI hA hUlen) hc
    have hjs : A.iAdd j 1 = j + 1 := addI hA _ _
    have hjr : A.inR (A.iAdd j 1) := inR' hA hjs (by unfold inI64; omega)
    refine hR5 _ ?_
    clear hR5
    refine seq_stop (fun R5 hR5 => ?_)
    refine block_seq (fun R6 hR6 => ?_)
    obtain ⟨u, hu0⟩ : ∃ u, O[j.toNat]? = some u := ⟨O[j.toNat]'(by omega), List.getElem?_eq_getElem _⟩
    have hidu : ∀ K : List PV → Prop, K [.bool u.Cell.Airport, .int .i64 u.Cell.Index, .int .i64 u.Cell.Minute, .int .i64 u.Places] → A.idx U j K := fun K hK => idx_Use hA hUe hj0 hj (fun x hx => by
      rw [hu0] at hx
      cases hx
      exact hK)
    have c5 := dm_Interval LS LP u.Cell ha hb n1 n2
    have c6 := dm_Interval LR LR u.Cell hc' hc' n3 n3
    rw [intR_fine hrob.b1 hrob.b2] at c5
    rw [intR_fine hrob.b3 hrob.b3] at c6
    have q1 := hrob.lo u.Cell
    have q2 := hrob.hi u.Cell
    rw [← sumAt_eq, ← sumAt_eq] at q1 q2
    generalize sumAt LS u.Cell = w1 at c5 q1
    generalize sumAt LP u.Cell = w2 at c5 q2
    generalize sumAt LR u.Cell = w3 at c6 q1 q2
    obtain ⟨⟨u1, u2, u3⟩, u4⟩ := u
    simp only at hidu c5 c6
    conv => cbv
    refine hidu _ ?_
    conv => cbv
    refine call_intro hA (c5) ?_
    conv => cbv
    refine hR6 _ ?_
    clear hR6
    refine seq_stop (fun R6 hR6 => ?_)
    conv => cbv
    refine hidu _ ?_
    conv => cbv
    refine call_intro hA (c6) ?_
    conv => cbv
    refine hR6 _ ?_
    clear hR6
    conv => cbv
    split
    · rename_i hc
      cases (neT hA hc rfl)
    conv => cbv
    split
    · rename_i hc
      cases (neT hA hc rfl)
    conv => cbv
    split
    · rename_i hc
      cases (neT hA hc rfl)
    conv => cbv
    split
    · rename_i hc
      cases ((by have := ltT hA hc; omega : False))
    conv => cbv
    split
    · rename_i hc
      cases ((by have := ltT hA hc; omega : False))
    conv => cbv
    refine hR5 _ ?_
    clear hR5
    conv => cbv
    refine ⟨hjr, hR3 (A.iAdd j 1) _ ?_ ?_ ?_⟩
    · conv => cbv
      exact wk_sl (by repeat (first | refine leL_same ?_ | refine leL_any ?_ | exact leL_nil))
    · rw [hjs]; exact ⟨by omega, by omega⟩
    · rw [hjs]; omega
  rename_i hc
  have hi : i < l.length := ltT' hA rfl (lenI hA hfl) hc
  have his : A.iAdd i 1 = i + 1 := addI hA _ _
  have hir : A.inR (A.iAdd i 1) := inR' hA his (by unfold inI64; omega)
  obtain ⟨f, hf0⟩ : ∃ f, l[i.toNat]? = some f := ⟨l[i.toNat]'(by omega), List.getElem?_eq_getElem _⟩
  obtain ⟨v, hv⟩ : ∃ v, v = encPaths f.Paths := ⟨_, rfl⟩
  have hid : ∀ K : List PV → Prop, K [.int .i64 f.Class, .list 2 v, .int .u8 f.Takes] → A.idx fs i K := fun K hK => idx_Fleet hA hfs hi0 hi (fun x w hx hw => by
    rw [hf0] at hx
    cases hx
    rw [hw, ← hv]
    exact hK)
  have hvl : v.length = f.Paths.length := by rw [hv]; simp [encPaths]
  refine hR3 _ ?_
  clear hR3
  refine seq_stop (fun R3 hR3 => ?_)
  refine block_seq (fun R4 hR4 => ?_)
  have c0 := hF f.Paths v hv
  have hf12 := few20_len (t := t) (s := s) (l := f.Paths)
  generalize few20 t s f.Paths = b0 at c0 hf12
  conv => cbv
  refine ⟨draw_intro hA (by kernel_rfl), ?_⟩
  refine hid _ ?_
  conv => cbv
  refine call_intro hA (c0) ?_
  conv => cbv
  split
  · conv => cbv
    exact hq
  rename_i hc
  have g1 := hf12 (notF hA hc)
  conv => cbv
  refine hid _ ?_
  conv => cbv
  split
  · conv => cbv
    exact hq
  rename_i hc
  have g2 := eqF' hA (lenI hA hvl) rfl hc
  refine hR4 _ ?_
  clear hR4 c0 hf12
  have c1 := hS f.Class f.Paths v hv (by omega)
  have c2 := hU f.Class f.Paths v hv (by omega)
  rw [hlR] at c1 c2
  have htk : 0 ≤ f.Takes ∧ f.Takes ≤ 255 := by
    have h := (hok f (List.mem_of_getElem? hf0)).2.2.1
    simp [Lit.wf, IntKind.min, IntKind.max, IntKind.signed, IntKind.bits] at h
    omega
  have hlp : 0 < (f.Paths.length : Int) := by omega
  have hvi : A.lLen v = (f.Paths.length : Int) := lenI hA hvl
  have hwr : A.wrap .i64 f.Takes = f.Takes := by subst hA; exact wrap_in (by unfold inI64; omega)
  have hnz : A.nz (A.lLen v) := by
    rw [hvi]
    subst hA
    show (f.Paths.length : Int) ≠ 0
    omega
  have hmod : A.iMod (A.wrap .i64 f.Takes) (A.lLen v) = f.Takes % (f.Paths.length : Int) := by
    rw [hvi, hwr]
    subst hA
    show f.Takes.tmod _ = _
    exact Int.tmod_eq_emod_of_nonneg htk.1
  obtain ⟨kk, hkk⟩ : ∃ kk, kk = A.iMod (A.wrap .i64 f.Takes) (A.lLen v) := ⟨_, rfl⟩
  have hk0 : 0 ≤ kk ∧ kk < f.Paths.length := by
    rw [hkk, hmod]
    exact ⟨Int.emod_nonneg _ (by omega), Int.emod_lt_of_pos _ hlp⟩
  obtain ⟨p, hp⟩ : ∃ p, f.Paths[kk.toNat]? = some p := ⟨f.Paths[kk.toNat]'(by omega), List.getElem?_eq_getElem _⟩
  have hpm := List.mem_of_getElem? hp
  have hka : A.iAdd kk 1 = kk + 1 := addI hA _ _
  have hkr : A.inR (A.iAdd kk 1) := inR' hA hka (by unfold inI64; omega)
  have hsl : A.sl kk (A.iAdd kk 1) (A.lLen v) := by
    rw [hka, hvi]
    subst hA
    show 0 ≤ (kk : Int) ∧ kk ≤ kk + 1 ∧ kk + 1 ≤ (f.Paths.length : Int)
    omega
  have hsub : A.lSub v kk (A.iAdd kk 1) = encPaths [p] := by
    rw [hka]
    subst hA
    show (v.take (kk + 1 : Int).toNat).drop (kk : Int).toNat = _
    rw [hv, show (kk + 1 : Int).toNat = kk.toNat + 1 by omega]
    unfold encPaths
    rw [← List.map_take, ← List.map_drop]
    have h1 := (List.getElem?_eq_some_iff.1 hp)
    rw [List.take_add_one, hp, List.drop_append_of_le_length (by rw [List.length_take]; omega), List.drop_of_length_le (by rw [List.length_take]; omega)]
    rfl
  have c3 := hU f.Class [p] _ hsub (by simp)
  rw [hlR] at c3
  have hrobN := fun h => hsn hrob (cl := f.Class) g1 h hpm
  have hpz := fun h => hpart (cl := f.Class) (L := f.Paths) h hpm
  generalize cntErr t s f.Class f.Paths = e1 at c1 c2 hrobN hpz
  generalize cntErr t s f.Class [p] = e3 at c3 hpz
  obtain ⟨n1, u1, r1, o1⟩ := leastR_two e1 (leastU (f.Paths.map (pathCells t s)) f.Paths.length (placesC t f.Class))
  obtain ⟨n2, u2, r2, o2⟩ := leastR_two e1 (leastU (f.Paths.map (pathCells t s)) 1 (placesC t f.Class))
  obtain ⟨n3, u3, r3, o3⟩ := leastR_two e3 (leastU ([p].map (pathCells t s)) 1 (placesC t f.Class))
  rw [r1] at c1
  rw [r2] at c2
  rw [r3] at c3
  clear r1 r2 r3 hmod hwr hk0 hsub hka
  subst hkk
  refine seq_stop (fun R4 hR4 => ?_)
  conv => cbv
  refine ⟨draw_intro hA (by kernel_rfl), ?_⟩
  refine hid _ ?_
  conv => cbv
  refine hid _ ?_
  conv => cbv
  refine call_intro hA (c1) ?_
  conv => cbv
  refine hR4 _ ?_
  clear hR4
  refine seq_stop (fun R4 hR4 => ?_)
  conv => cbv
  refine ⟨draw_intro hA (by kernel_rfl), ?_⟩
  refine hid _ ?_
  conv => cbv
  refine hid _ ?_
  conv => cbv
  refine call_intro hA (c2) ?_
  conv => cbv
  refine hR4 _ ?_
  clear hR4
  refine seq_stop (fun R4 hR4 => ?_)
  conv => cbv
  refine ⟨draw_intro hA (by kernel_rfl), ?_⟩
  refine hid _ ?_
  conv => cbv
  refine hid _ ?_
  conv => cbv
  refine ⟨hnz, ?_⟩
  refine hR4 _ ?_
  clear hR4
  refine seq_stop (fun R4 hR4 => ?_)
  conv => cbv
  refine ⟨draw_intro hA (by kernel_rfl), ?_⟩
  refine hid _ ?_
  conv => cbv
  refine hid _ ?_
  conv => cbv
  refine ⟨hkr, hsl, ?_⟩
  refine call_intro hA (c3) ?_
  conv => cbv
  refine hR4 _ ?_
  clear hR4
  refine seq_stop (fun R4 hR4 => ?_)
  conv => cbv
  split
  · rename_i hc
    conv => cbv
    rw [← hq]
    exact congrArg PV.bool (show A.iEq e1 e1 = true by subst hA; simp [stdOps])
  rename_i hc
  have g := neF hA hc
  conv => cbv
  split
  · rename_i hc
    cases (neT hA hc g)
  conv => cbv
  refine hR4 _ ?_
  clear hR4
  have g3 := hpz g
  obtain ⟨y1, z1⟩ := o1 g
  obtain ⟨y2, z2⟩ := o2 g
  obtain ⟨y3, z3⟩ := o3 g3
  have hrob2 := hrobN g
  subst y1 y2 y3 g g3
  clear o1 o2 o3 hrobN hpz c1 c2 c3 hid hnz hkr hsl
  refine seq_stop (fun R4 hR4 => ?_)
  conv => cbv
  split
  · rename_i hc
    cases (neT hA hc rfl)
  conv => cbv
  refine hR4 _ ?_
  clear hR4
  have hsn1 : ∀ (xs : List PV) (L : List (List Use)) (u : List PV) (us : List Use), xs = encUseLs L → u = encUses us → A.lApp xs [.list 4 u] = encUseLs (L ++ [us]) := fun xs L u us h1 h2 => by
    subst hA
    show xs ++ [_] = _
    rw [h1, h2]
    unfold encUseLs encUseL
    rw [List.map_append]
    rfl
  have hroom : ∀ (l : List PV) (n : Nat), l.length ≤ 24 → n ≤ 1000 → A.room (A.nLen l) n := fun l n h h2 => by
    subst hA
    show l.length * (n + 1) ≤ _
    exact Nat.le_trans (Nat.mul_le_mul h (Nat.succ_le_succ h2)) (by decide)
  have htke : ∀ l : List PV, A.tkEq (A.nLen l) (A.nLen l) := fun l => by subst hA; rfl
  have ea := hsn1 la LS u1 _ ha z1
  have eb := hsn1 lb LP u2 _ hb z2
  have ec := hsn1 lc LR u3 _ hc' z3
  have na : (A.lApp la [.list 4 u1]).length ≤ 24 := by rw [ea]; simp [encUseLs, hrob.l1]; omega
  have nb : (A.lApp lb [.list 4 u2]).length ≤ 24 := by rw [eb]; simp [encUseLs, hrob.l2]; omega
  have nc : (A.lApp lc [.list 4 u3]).length ≤ 24 := by rw [ec]; simp [encUseLs, hrob.l3]; omega
  have hin : (i + 1).toNat = i.toNat + 1 := by omega
  conv => cbv
  refine ⟨⟨htke _, hroom _ _ na (by decide)⟩, ⟨htke _, hroom _ _ nb (by decide)⟩, ⟨htke _, hroom _ _ nc (by decide)⟩, hR3 _ ?_⟩
  conv => cbv
  refine ⟨hir, hR2 (A.iAdd i 1, A.lApp la [.list 4 u1], A.lApp lb [.list 4 u2], A.lApp lc [.list 4 u3]) _ ?_ ?_ ?_⟩
  · conv => cbv
    exact wk_sl (by repeat (first | refine leL_same ?_ | refine leL_any ?_ | exact leL_nil))
  · rw [his]
    exact ⟨by show 0 ≤ i + 1; omega, by show i + 1 ≤ _; omega, _, _, _, ea, eb, ec, by show Rob (i + 1).toNat _ _ _; rw [hin]; exact hrob2⟩
  · rw [his]; simp only; omega
end Go.Abs
