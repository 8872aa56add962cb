/-
  Law DemandParts (the walk).
-/
import Derived.Test.YtjiimmaikohliaaGreatM34
set_option linter.unusedVariables false
set_option linter.unusedSimpArgs false
namespace Go.Abs
open Go.RowKit Go.Proofs

theorem block_seq {A : Ops} {E : Env} {b : Nat} {a c : Code} {nb : Nat × Nat} {st : St} {Q0 : AX → St → Prop}
    (h : ∀ R3 : St → Prop, (∀ s, wpC' A E c nb s (fun e st' => match e with
      | .normal => Q0 .normal st'
      | .exit i => if i = b then Q0 .normal st' else Q0 (.exit i) st'
      | .ret => Q0 .ret st') → R3 s) → wpC' A E a nb st fun e s => match e with
      | .normal => R3 s
      | .exit i => if i = b then Q0 .normal s else Q0 (.exit i) s
      | .ret => Q0 .ret s) : wpC' A E (.block b (.seq a c)) nb st Q0 := by
  unfold wpC'
  exact seq_stop h
theorem leastR_sum (e : Int) (us : List Use) : ∃ n zs, (if e ≠ 0 then PV.tup [.list 0 [], .int .i64 e] else .tup [.list 4 (encUses us), .int .i64 0]) = .tup [.list n zs, .int .i64 e] ∧ (e = 0 → n = 4 ∧ zs = encUses us) := by
  by_cases h : e = 0
  · subst h; exact ⟨4, encUses us, by simp, fun _ => ⟨rfl, rfl⟩⟩
  · exact ⟨0, [], by rw [if_pos h], fun h0 => absurd h0 h⟩

set_option maxRecDepth 10000 in
set_option maxHeartbeats 4000000 in
theorem law_DemandParts (t : Tables) (s : List Change) (cl : Int) (l m : List Path) (_ : okTables t) (_ : okScheme s) (_ : okI cl) (_ : ∀ x ∈ l, okPath x) (_ : ∀ x ∈ m, okPath x) :
    CallsPV Tryz.prog 6 [encTables t, encScheme s, .int .i64 cl, .list 2 (encPaths l), .list 2 (encPaths m)] (.bool true) := by
  obtain ⟨xs, hxs⟩ : ∃ xs, xs = encPaths l := ⟨_, rfl⟩
  obtain ⟨ys, hys⟩ : ∃ ys, ys = encPaths m := ⟨_, rfl⟩
  rw [← hxs, ← hys]
  have hf1 := law20_few t s l hxs
  have hf2 := law20_few t s m hys
  have hl1 := few20_len (t := t) (s := s) (l := l)
  have hl2 := few20_len (t := t) (s := s) (l := m)
  generalize few20 t s l = b1 at hf1 hl1
  generalize few20 t s m = b2 at hf2 hl2
  have hU := fun (L : List Path) (zs : List PV) (hz : zs = encPaths L) (h : L.length ≤ 60) => dm_Uses t s cl L hz h
  have hS := fun (L : List Path) (zs : List PV) (hz : zs = encPaths L) (h : L.length ≤ 60) => dm_Sure t s cl L hz h
  refine callsPV_by (clo := fun _ => false) (rows := false) env_ok Tryz.func6 rfl (enters_of Tryz.func6 (by kernel_rfl) rfl) (fun A q P Y hr hA hq => ?_)
  have hxl : xs.length = l.length := by rw [hxs]; simp [encPaths]
  have hyl : ys.length = m.length := by rw [hys]; simp [encPaths]
  have hee := cntErr_append t s cl l m
  obtain ⟨pl, hpl⟩ : ∃ pl, pl = placesC t cl := ⟨_, rfl⟩
  have hlR : ∀ L many, leastR t s cl L many = if cntErr t s cl L ≠ 0 then .tup [.list 0 [], .int .i64 (cntErr t s cl L)] else .tup [.list 4 (encUses (leastU (L.map (pathCells t s)) many pl)), .int .i64 0] := fun L many => by rw [hpl]; rfl
  clear hpl
  obtain ⟨cc, hcc⟩ : ∃ cc, cc = pathCells t s := ⟨_, rfl⟩
  rw [← hcc] at hlR
  obtain ⟨ss, hss⟩ : ∃ ss, ss = encSectors t.Sectors := ⟨_, rfl⟩
  obtain ⟨cs, hcs⟩ : ∃ cs, cs = encConfigs t.Configs := ⟨_, rfl⟩
  obtain ⟨ws, hws⟩ : ∃ ws, ws = encWays t.Ways := ⟨_, rfl⟩
  obtain ⟨ms, hms⟩ : ∃ ms, ms = encIntLs t.Modes := ⟨_, rfl⟩
  obtain ⟨ks, hks⟩ : ∃ ks, ks = encKinds t.Kinds := ⟨_, rfl⟩
  obtain ⟨nv, hnv⟩ : ∃ nv, nv = t.Volumes := ⟨_, rfl⟩
  have htab : encTables t = .agg [.int .i64 nv, .list 5 ss, .list 3 cs, .list 3 ws, .list 1 ms, .list 6 ks] := by rw [encTables_eq t hss hcs hws hms hks, hnv]
  rw [htab] at hf1 hf2 hU hS ⊢
  obtain ⟨sc, hsc⟩ : ∃ sc, sc = encChanges s := ⟨_, rfl⟩
  rw [encScheme_eq hsc] at hf1 hf2 hU hS ⊢
  refine seq_stop (fun R hR => ?_)
  conv => cbv
  refine hR _ ?_
  clear hR
  refine seq_stop (fun R hR => ?_)
  conv => cbv
  refine call_intro hA (law20_sane) ?_
  conv => cbv
  split
  · rename_i hc
    cases (nT hA hc)
  conv => cbv
  refine hR _ ?_
  clear hR
  refine seq_stop (fun R hR => ?_)
  conv => cbv
  refine call_intro hA (hf1) ?_
  conv => cbv
  split
  · conv => cbv
    exact hq
  rename_i hc
  have g1 := hl1 (notF hA hc)
  conv => cbv
  refine call_intro hA (hf2) ?_
  conv => cbv
  split
  · conv => cbv
    exact hq
  rename_i hc
  have g2 := hl2 (notF hA hc)
  conv => cbv
  split
  · conv => cbv
    exact hq
  rename_i hc
  have g3 := eqF' hA (lenI hA hxl) rfl hc
  conv => cbv
  split
  · conv => cbv
    exact hq
  rename_i hc
  have g4 := eqF' hA (lenI hA hyl) rfl hc
  conv => cbv
  refine hR _ ?_
  clear hR
  have hal : A.lApp (A.lApp [] xs) ys = encPaths (l ++ m) := by
    rw [hxs, hys]
    subst hA
    show ([] ++ _) ++ _ = _
    unfold encPaths
    rw [List.map_append]; rfl
  have hn1 : (A.lApp [] xs).length ≤ 24 := by subst hA; show ([] ++ xs).length ≤ _; simp; omega
  have hn2 : (A.lApp (A.lApp [] xs) ys).length ≤ 24 := by rw [hal]; simp [encPaths]; omega
  have hroom : ∀ (l : List PV) (n : Nat), l.length ≤ 24 → n ≤ 1000 → A.room (A.nLen l) n := fun l n h h2 => by
    subst hA
    show l.length * (n + 1) ≤ _
    exact Nat.le_trans (Nat.mul_le_mul h (Nat.succ_le_succ h2)) (by decide)
  have htk : ∀ l : List PV, A.tkEq (A.nLen l) (A.nLen l) := fun l => by subst hA; rfl
  have c1 := hU l xs hxs (by omega)
  have c2 := hU m ys hys (by omega)
  have c3 := hU (l ++ m) _ hal (by rw [List.length_append]; omega)
  have c4 := hS l xs hxs (by omega)
  have c5 := hS m ys hys (by omega)
  have c6 := hS (l ++ m) _ hal (by rw [List.length_append]; omega)
  rw [hlR] at c1 c2 c3 c4 c5 c6
  clear hlR hU hS
  generalize cntErr t s cl l = e1 at c1 c4 hee
  generalize cntErr t s cl m = e2 at c2 c5 hee
  generalize cntErr t s cl (l ++ m) = e3 at c3 c6 hee
  obtain ⟨n1, u1, r1, o1⟩ := leastR_sum e1 (leastU (l.map cc) 1 pl)
  obtain ⟨n2, u2, r2, o2⟩ := leastR_sum e2 (leastU (m.map cc) 1 pl)
  obtain ⟨n3, u3, r3, o3⟩ := leastR_sum e3 (leastU ((l ++ m).map cc) 1 pl)
  obtain ⟨n4, u4, r4, o4⟩ := leastR_sum e1 (leastU (l.map cc) l.length pl)
  obtain ⟨n5, u5, r5, o5⟩ := leastR_sum e2 (leastU (m.map cc) m.length pl)
  obtain ⟨n6, u6, r6, o6⟩ := leastR_sum e3 (leastU ((l ++ m).map cc) (l ++ m).length pl)
  rw [r1] at c1
  rw [r2] at c2
  rw [r3] at c3
  rw [r4] at c4
  rw [r5] at c5
  rw [r6] at c6
  clear r1 r2 r3 r4 r5 r6
  refine seq_stop (fun R hR => ?_)
  conv => cbv
  refine ⟨hroom _ _ hn1 (by decide), ⟨htk _, hroom _ _ hn2 (by decide)⟩, ?_⟩
  refine hR _ ?_
  clear hR
  refine seq_stop (fun R hR => ?_)
  conv => cbv
  refine call_intro hA (c1) ?_
  conv => cbv
  refine hR _ ?_
  clear hR
  refine seq_stop (fun R hR => ?_)
  conv => cbv
  refine call_intro hA (c2) ?_
  conv => cbv
  refine hR _ ?_
  clear hR
  refine seq_stop (fun R hR => ?_)
  conv => cbv
  refine call_intro hA (c3) ?_
  conv => cbv
  refine hR _ ?_
  clear hR
  refine seq_stop (fun R hR => ?_)
  conv => cbv
  refine call_intro hA (c4) ?_
  conv => cbv
  refine hR _ ?_
  clear hR
  refine seq_stop (fun R hR => ?_)
  conv => cbv
  refine call_intro hA (c5) ?_
  conv => cbv
  refine hR _ ?_
  clear hR
  refine seq_stop (fun R hR => ?_)
  conv => cbv
  refine call_intro hA (c6) ?_
  conv => cbv
  refine hR _ ?_
  clear hR
  refine seq_stop (fun R hR => ?_)
  conv => cbv
  split
  · rename_i hc
    cases (neT hA hc rfl)
  conv => cbv
  split
  · rename_i hc
    cases (neT hA hc rfl)
  conv => cbv
  split
  · rename_i hc
    cases (neT hA hc rfl)
  conv => cbv
  refine hR _ ?_
  clear hR
  refine seq_stop (fun R hR => ?_)
  conv => cbv
  split
  · rename_i hc
    have g := neT hA hc
    rw [if_pos g] at hee
    subst hee
    conv => cbv
    split
    rotate_left
    · rename_i hc
      cases ((absurd (neF hA hc) g : False))
    conv => cbv
    split
    rotate_left
    · rename_i hc
      cases (eqF hA hc rfl)
    conv => cbv
    exact hq
  rename_i hc
  have g := neF hA hc
  rw [if_neg (by simp [g])] at hee
  subst hee
  conv => cbv
  split
  · rename_i hc
    have g2 := neT hA hc
    conv => cbv
    split
    · rename_i hc
      cases (neT hA hc g)
    conv => cbv
    split
    rotate_left
    · rename_i hc
      cases (eqF hA hc g)
    conv => cbv
    rw [← hq]
    exact congrArg PV.bool (show A.iEq e3 e3 = true by subst hA; simp [stdOps])
  rename_i hc
  have g2 := neF hA hc
  obtain ⟨y1, z1⟩ := o1 g
  obtain ⟨y2, z2⟩ := o2 g2
  obtain ⟨y3, z3⟩ := o3 g2
  obtain ⟨y4, z4⟩ := o4 g
  obtain ⟨y5, z5⟩ := o5 g2
  obtain ⟨y6, z6⟩ := o6 g2
  subst g g2 y1 y2 y3 y4 y5 y6
  refine hR _ ?_
  clear hR
  have k1 := law20_cells _ z1
  have k2 := law20_cells _ z2
  have k3 := law20_cells _ z3
  have k4 := law20_cells _ z4
  have k5 := law20_cells _ z5
  have k6 := law20_cells _ z6
  rw [cellsU_least] at k1 k2 k3 k4 k5 k6
  have hu3 : u3.length = (useSet ((l ++ m).map cc) 1).length := by rw [z3, encUses_len, ← useSet_len]
  have hu6 : u6.length = (useSet ((l ++ m).map cc) (l ++ m).length).length := by rw [z6, encUses_len, ← useSet_len]
  have hpu := parts_uses (l.map cc) (m.map cc)
  have hps := parts_sure (a := l.map cc) (b := m.map cc) (by intro h; exact g3 (by rw [List.map_eq_nil_iff.1 h]; rfl)) (by intro h; exact g4 (by rw [List.map_eq_nil_iff.1 h]; rfl))
  rw [← List.map_append] at hpu hps
  rw [List.length_map, List.length_map, List.length_map] at hps
  obtain ⟨X1, hX1⟩ : ∃ X, X = useSet (l.map cc) 1 := ⟨_, rfl⟩
  obtain ⟨X2, hX2⟩ : ∃ X, X = useSet (m.map cc) 1 := ⟨_, rfl⟩
  obtain ⟨X3, hX3⟩ : ∃ X, X = useSet ((l ++ m).map cc) 1 := ⟨_, rfl⟩
  obtain ⟨X4, hX4⟩ : ∃ X, X = useSet (l.map cc) l.length := ⟨_, rfl⟩
  obtain ⟨X5, hX5⟩ : ∃ X, X = useSet (m.map cc) m.length := ⟨_, rfl⟩
  obtain ⟨X6, hX6⟩ : ∃ X, X = useSet ((l ++ m).map cc) (l ++ m).length := ⟨_, rfl⟩
  rw [← hX1] at k1 hpu
  rw [← hX2] at k2 hpu
  rw [← hX3] at k3 hpu hu3
  have X1n : X1.Nodup := hX1 ▸ useSet_nodup _ _
  have X2n : X2.Nodup := hX2 ▸ useSet_nodup _ _
  have X3n : X3.Nodup := hX3 ▸ useSet_nodup _ _
  rw [← hX4] at k4 hps
  rw [← hX5] at k5 hps
  rw [← hX6] at k6 hps hu6
  clear hX1 hX2 hX3 hX4 hX5 hX6 z1 z2 z3 z4 z5 z6 o1 o2 o3 o4 o5 o6 c1 c2 c3 c4 c5 c6
  unfold mapB at k1 k2 k3 k4 k5 k6
  obtain ⟨K1, e1⟩ : ∃ K, K = encCells X1 := ⟨_, rfl⟩
  obtain ⟨K2, e2⟩ : ∃ K, K = encCells X2 := ⟨_, rfl⟩
  obtain ⟨K3, e3⟩ : ∃ K, K = encCells X3 := ⟨_, rfl⟩
  obtain ⟨K4, e4⟩ : ∃ K, K = encCells X4 := ⟨_, rfl⟩
  obtain ⟨K5, e5⟩ : ∃ K, K = encCells X5 := ⟨_, rfl⟩
  obtain ⟨K6, e6⟩ : ∃ K, K = encCells X6 := ⟨_, rfl⟩
  obtain ⟨V1, v1⟩ : ∃ V, V = X1.map fun _ => PV.bool true := ⟨_, rfl⟩
  obtain ⟨V2, v2⟩ : ∃ V, V = X2.map fun _ => PV.bool true := ⟨_, rfl⟩
  obtain ⟨V3, v3⟩ : ∃ V, V = X3.map fun _ => PV.bool true := ⟨_, rfl⟩
  obtain ⟨V4, v4⟩ : ∃ V, V = X4.map fun _ => PV.bool true := ⟨_, rfl⟩
  obtain ⟨V5, v5⟩ : ∃ V, V = X5.map fun _ => PV.bool true := ⟨_, rfl⟩
  obtain ⟨V6, v6⟩ : ∃ V, V = X6.map fun _ => PV.bool true := ⟨_, rfl⟩
  rw [← e1, ← v1] at k1
  rw [← e2, ← v2] at k2
  rw [← e3, ← v3] at k3
  rw [← e4, ← v4] at k4
  rw [← e5, ← v5] at k5
  rw [← e6, ← v6] at k6
  refine seq_stop (fun R hR => ?_)
  conv => cbv
  refine call_intro hA (k1) ?_
  conv => cbv
  refine call_intro hA (k2) ?_
  conv => cbv
  refine call_intro hA (k3) ?_
  conv => cbv
  refine hR _ ?_
  clear hR
  refine seq_stop (fun R hR => ?_)
  conv => cbv
  refine call_intro hA (k4) ?_
  conv => cbv
  refine call_intro hA (k5) ?_
  conv => cbv
  refine call_intro hA (k6) ?_
  conv => cbv
  refine hR _ ?_
  clear hR
  clear k1 k2 k3 k4 k5 k6 hroom htk hn1 hn2
  have L1 := fun c => mapB_look (A := A) hA e1 v1 c
  have L2 := fun c => mapB_look (A := A) hA e2 v2 c
  have L3 := fun c => mapB_look (A := A) hA e3 v3 c
  have L4 := fun c => mapB_look (A := A) hA e4 v4 c
  have L5 := fun c => mapB_look (A := A) hA e5 v5 c
  have L6 := fun c => mapB_look (A := A) hA e6 v6 c
  have hkd : ∀ (ks vs : List PV) (X : List Cell), ks = encCells X → vs = (X.map fun _ => PV.bool true) → X.Nodup → ∀ (c : Cell) (w : PV), (encCell c, w) ∈ A.eZip ks vs → lookE (A.eZip ks vs) (encCell c) = some w := fun ks vs X hk hv hn c w hm => by
    subst hA
    refine (lookE_some (es := ks.zip vs) ?_ rfl).2 hm
    unfold NodK
    rw [show (ks.zip vs).map (·.1) = ks from List.map_fst_zip (by rw [hk, hv]; simp [encCells]), hk]
    exact List.Pairwise.map _ (fun a b h e => h (by have := keq_Cell a b; rw [e, keq_self rfl] at this; simpa using this)) hn
  refine seq_stop (fun R hR => ?_)
  conv => cbv
  refine loop_set hA (fun (z : List PV) s => { s with ax := ⟨[.iter none (A.eZip K3 V3) z none], s.ax.yk⟩ })
    (fun z => ∃ left : List Cell, z = left.map encCell ∧ (∀ c ∈ left, c ∈ X3)) (fun z => z.length) K3 ?_ ?_ ?_
  · conv => cbv
    exact wk_sl (by repeat (first | refine leL_same ?_ | refine leL_any ?_ | exact leL_nil))
  · exact ⟨X3, e3, fun _ h => h⟩
  rintro R2 lf ⟨left, hl1, hl2⟩ hR2
  refine seq_stop (fun R4 hR4 => ?_)
  conv => cbv
  refine nxt_intro hA (fun h0 => ?_) (fun q' w hq' hqv => ?_)
  · conv => cbv
    refine hR4 _ ?_
    conv => cbv
    refine hR _ ?_
    clear hR hR2 hR4 hl1 hl2 h0 left
    refine seq_stop (fun R hR => ?_)
    conv => cbv
    refine loop_set hA (fun (z : List PV) s => { s with ax := ⟨[.iter none (A.eZip K3 V3) lf none, .iter none (A.eZip K1 V1) z none], s.ax.yk⟩ })
      (fun z => ∃ left : List Cell, z = left.map encCell ∧ (∀ c ∈ left, c ∈ X1)) (fun z => z.length) K1 ?_ ?_ ?_
    · conv => cbv
      exact wk_sl (by repeat (first | refine leL_same ?_ | refine leL_any ?_ | exact leL_nil))
    · exact ⟨X1, e1, fun _ h => h⟩
    rintro R2 lf2 ⟨left, hl1, hl2⟩ hR2
    refine seq_stop (fun R4 hR4 => ?_)
    conv => cbv
    refine nxt_intro hA (fun h0 => ?_) (fun q' w hq' hqv => ?_)
    rotate_left
    · rw [hl1] at hq'
      obtain ⟨c, hc, hcq⟩ := List.mem_map.1 hq'
      subst hcq
      have hlk := hkd K1 V1 X1 e1 v1 X1n c w hqv
      have hdl : (A.lDrop lf2 (encCell c)).length < lf2.length ∧ ∃ l2 : List Cell, A.lDrop lf2 (encCell c) = l2.map encCell ∧ ∀ c ∈ l2, c ∈ X1 := by
        have hdr : A.lDrop lf2 (encCell c) = (left.filter fun d => !decide (c = d)).map encCell := by
          subst hA
          rw [hl1]
          show (left.map encCell).filter (fun y => !keq (encCell c) y) = _
          rw [List.filter_map]
          simp only [Function.comp_def, keq_Cell]
        rw [hdr]
        refine ⟨?_, _, rfl, fun c h => hl2 c (List.mem_filter.1 h).1⟩
        rw [hl1, List.length_map, List.length_map]
        exact List.length_filter_lt_length_iff_exists.2 ⟨_, hc, by simp⟩
      have d3 := L3 c
      rw [decide_eq_true ((hpu c).2 (.inl (hl2 c hc)))] at d3
      obtain ⟨k1, k2, k3⟩ := c
      simp only [encCell] at d3 hdl hlk
      conv => cbv
      refine hR4 _ ?_
      clear hR4
      refine seq_stop (fun R5 hR5 => ?_)
      conv => cbv
      refine hR5 _ ?_
      clear hR5
      refine block_seq (fun R6 hR6 => ?_)
      conv => cbv
      refine ent_intro hA hlk ?_
      conv => cbv
      refine hR6 _ ?_
      clear hR6
      conv => cbv
      refine ⟨kOk_intro hA d3.1, look_intro hA d3.2 rfl ?_⟩
      conv => cbv
      split
      · rename_i hc
        cases (nT hA hc)
      conv => cbv
      refine hR2 (A.lDrop lf2 (.agg [.bool k1, .int .i64 k2, .int .i64 k3])) _ ?_ hdl.2 hdl.1
      (conv => cbv)
      exact Wk.trans _ _ _ (Wk.forgetMp _ _ _ _ [.iter none (A.eZip K3 V3) lf none, .iter none (A.eZip K1 V1) (A.lDrop lf2 (.agg [.bool k1, .int .i64 k2, .int .i64 k3])) none] _ ⟨⟨rfl, rfl, rfl, .inl rfl⟩, ⟨rfl, rfl, rfl, .inl rfl⟩, trivial⟩) (wk_round (bx := [_, _]) (bx' := [_]) (mp := [_, _]) (mp' := []) (by repeat (first | refine leL_same ?_ | refine leL_any ?_ | exact leL_nil)) (by simp) (.inl rfl) rfl rfl)
    conv => cbv
    refine hR4 _ ?_
    conv => cbv
    refine hR _ ?_
    clear hR hR2 hR4 hl1 hl2 h0 left
    refine seq_stop (fun R hR => ?_)
    conv => cbv
    refine loop_set hA (fun (z : List PV) s => { s with ax := ⟨[.iter none (A.eZip K3 V3) lf none, .iter none (A.eZip K1 V1) lf2 none, .iter none (A.eZip K2 V2) z none], s.ax.yk⟩ })
      (fun z => ∃ left : List Cell, z = left.map encCell ∧ (∀ c ∈ left, c ∈ X2)) (fun z => z.length) K2 ?_ ?_ ?_
    · conv => cbv
      exact wk_sl (by repeat (first | refine leL_same ?_ | refine leL_any ?_ | exact leL_nil))
    · exact ⟨X2, e2, fun _ h => h⟩
    rintro R2 lf3 ⟨left, hl1, hl2⟩ hR2
    refine seq_stop (fun R4 hR4 => ?_)
    conv => cbv
    refine nxt_intro hA (fun h0 => ?_) (fun q' w hq' hqv => ?_)
    rotate_left
    · rw [hl1] at hq'
      obtain ⟨c, hc, hcq⟩ := List.mem_map.1 hq'
      subst hcq
      have hlk := hkd K2 V2 X2 e2 v2 X2n c w hqv
      have hdl : (A.lDrop lf3 (encCell c)).length < lf3.length ∧ ∃ l2 : List Cell, A.lDrop lf3 (encCell c) = l2.map encCell ∧ ∀ c ∈ l2, c ∈ X2 := by
        have hdr : A.lDrop lf3 (encCell c) = (left.filter fun d => !decide (c = d)).map encCell := by
          subst hA
          rw [hl1]
          show (left.map encCell).filter (fun y => !keq (encCell c) y) = _
          rw [List.filter_map]
          simp only [Function.comp_def, keq_Cell]
        rw [hdr]
        refine ⟨?_, _, rfl, fun c h => hl2 c (List.mem_filter.1 h).1⟩
        rw [hl1, List.length_map, List.length_map]
        exact List.length_filter_lt_length_iff_exists.2 ⟨_, hc, by simp⟩
      have d3 := L3 c
      rw [decide_eq_true ((hpu c).2 (.inr (hl2 c hc)))] at d3
      obtain ⟨k1, k2, k3⟩ := c
      simp only [encCell] at d3 hdl hlk
      conv => cbv
      refine hR4 _ ?_
      clear hR4
      refine seq_stop (fun R5 hR5 => ?_)
      conv => cbv
      refine hR5 _ ?_
      clear hR5
      refine block_seq (fun R6 hR6 => ?_)
      conv => cbv
      refine ent_intro hA hlk ?_
      conv => cbv
      refine hR6 _ ?_
      clear hR6
      conv => cbv
      refine ⟨kOk_intro hA d3.1, look_intro hA d3.2 rfl ?_⟩
      conv => cbv
      split
      · rename_i hc
        cases (nT hA hc)
      conv => cbv
      refine hR2 (A.lDrop lf3 (.agg [.bool k1, .int .i64 k2, .int .i64 k3])) _ ?_ hdl.2 hdl.1
      (conv => cbv)
      exact Wk.trans _ _ _ (Wk.forgetMp _ _ _ _ [.iter none (A.eZip K3 V3) lf none, .iter none (A.eZip K1 V1) lf2 none, .iter none (A.eZip K2 V2) (A.lDrop lf3 (.agg [.bool k1, .int .i64 k2, .int .i64 k3])) none] _ ⟨⟨rfl, rfl, rfl, .inl rfl⟩, ⟨rfl, rfl, rfl, .inl rfl⟩, ⟨rfl, rfl, rfl, .inl rfl⟩, trivial⟩) (wk_round (bx := [_, _]) (bx' := [_]) (mp := [_, _, _]) (mp' := []) (by repeat (first | refine leL_same ?_ | refine leL_any ?_ | exact leL_nil)) (by simp) (.inl rfl) rfl rfl)
    conv => cbv
    refine hR4 _ ?_
    conv => cbv
    refine hR _ ?_
    clear hR hR2 hR4 hl1 hl2 h0 left
    have hE : ∀ (ks vs : List PV) (X : List Cell), ks = encCells X → vs = (X.map fun _ => PV.bool true) → A.eLen (A.eZip ks vs) = (X.length : Int) := fun ks vs X h1 h2 => by
      subst hA
      show ((ks.zip vs).length : Int) = _
      rw [h1, h2]
      simp [encCells]
    have hE3 := hE K3 V3 X3 e3 v3
    have hE6 := hE K6 V6 X6 e6 v6
    have hfin : A.iEq (A.eLen (A.eZip K6 V6)) (A.lLen u6) = true := by
      rw [hE6, show A.lLen u6 = (X6.length : Int) from lenI hA hu6]
      subst hA
      simp [stdOps]
    conv => cbv
    split
    rotate_left
    · rename_i hc
      cases (eqF hA hc rfl)
    conv => cbv
    split
    rotate_left
    · rename_i hc
      cases (eqF' hA hE3 (lenI hA hu3) hc rfl)
    conv => cbv
    rw [← hq]
    exact congrArg PV.bool hfin
  · rw [hl1] at hq'
    obtain ⟨c, hc, hcq⟩ := List.mem_map.1 hq'
    subst hcq
    have hlk := hkd K3 V3 X3 e3 v3 X3n c w hqv
    have hdl : (A.lDrop lf (encCell c)).length < lf.length ∧ ∃ l2 : List Cell, A.lDrop lf (encCell c) = l2.map encCell ∧ ∀ c ∈ l2, c ∈ X3 := by
      have hdr : A.lDrop lf (encCell c) = (left.filter fun d => !decide (c = d)).map encCell := by
        subst hA
        rw [hl1]
        show (left.map encCell).filter (fun y => !keq (encCell c) y) = _
        rw [List.filter_map]
        simp only [Function.comp_def, keq_Cell]
      rw [hdr]
      refine ⟨?_, _, rfl, fun c h => hl2 c (List.mem_filter.1 h).1⟩
      rw [hl1, List.length_map, List.length_map]
      exact List.length_filter_lt_length_iff_exists.2 ⟨_, hc, by simp⟩
    have d1 := L1 c
    have d2 := L2 c
    have d4 := L4 c
    have d5 := L5 c
    have d6 := L6 c
    obtain ⟨q1, hq1⟩ : ∃ q, q = decide (c ∈ X1) := ⟨_, rfl⟩
    obtain ⟨q2, hq2⟩ : ∃ q, q = decide (c ∈ X2) := ⟨_, rfl⟩
    obtain ⟨q4, hq4⟩ : ∃ q, q = decide (c ∈ X4) := ⟨_, rfl⟩
    obtain ⟨q5, hq5⟩ : ∃ q, q = decide (c ∈ X5) := ⟨_, rfl⟩
    obtain ⟨q6, hq6⟩ : ∃ q, q = decide (c ∈ X6) := ⟨_, rfl⟩
    rw [← hq1] at d1
    rw [← hq2] at d2
    rw [← hq4] at d4
    rw [← hq5] at d5
    rw [← hq6] at d6
    have g12 : (q1 || q2) = true := by
      rw [hq1, hq2]
      simpa using (hpu c).1 (hl2 c hc)
    have g6 : q6 = (q4 && q5) := by
      rw [hq6, hq4, hq5, ← Bool.decide_and]
      exact decide_eq_decide.2 (hps c)
    clear hq1 hq2 hq4 hq5 hq6
    obtain ⟨k1, k2, k3⟩ := c
    simp only [encCell] at d1 d2 d4 d5 d6 hdl hlk
    conv => cbv
    refine hR4 _ ?_
    clear hR4
    refine seq_stop (fun R5 hR5 => ?_)
    conv => cbv
    refine hR5 _ ?_
    clear hR5
    refine block_seq (fun R6 hR6 => ?_)
    conv => cbv
    refine ent_intro hA hlk ?_
    conv => cbv
    refine hR6 _ ?_
    clear hR6
    refine seq_stop (fun R7 hR7 => ?_)
    cases q1
    case' true =>
      conv => cbv
      refine ⟨kOk_intro hA d1.1, look_intro hA d1.2 rfl ?_⟩
      conv => cbv
      split
      · rename_i hc
        cases (nT hA hc)
      conv => cbv
      refine hR7 _ ?_
    case' false =>
      obtain rfl : q2 = true := g12
      conv => cbv
      refine ⟨kOk_intro hA d1.1, look_intro hA d1.2 rfl ?_⟩
      conv => cbv
      split
      rotate_left
      · rename_i hc
        cases (notF hA hc)
      conv => cbv
      refine ⟨kOk_intro hA d2.1, look_intro hA d2.2 rfl ?_⟩
      conv => cbv
      split
      · rename_i hc
        cases (nT hA hc)
      conv => cbv
      refine hR7 _ ?_
    all_goals
      clear hR7
      subst g6
      cases q4
      all_goals
        conv => cbv
        refine ⟨draw_intro hA (by kernel_rfl), ?_⟩
        refine ⟨kOk_intro hA d6.1, look_intro hA d6.2 rfl ?_⟩
        conv => cbv
        refine ⟨kOk_intro hA d4.1, look_intro hA d4.2 rfl ?_⟩
        conv => cbv
        try
          refine ⟨kOk_intro hA d5.1, look_intro hA d5.2 rfl ?_⟩
          conv => cbv
        split
        · rename_i hc
          cases (bneT hA hc rfl : False)
        (conv => cbv)
        refine hR2 (A.lDrop lf (.agg [.bool k1, .int .i64 k2, .int .i64 k3])) _ ?_ hdl.2 hdl.1
        (conv => cbv)
        exact Wk.trans _ _ _ (Wk.forgetMp _ _ _ _ [.iter none (A.eZip K3 V3) (A.lDrop lf (.agg [.bool k1, .int .i64 k2, .int .i64 k3])) none] _ ⟨⟨rfl, rfl, rfl, .inl rfl⟩, trivial⟩) (wk_round (bx := [_, _]) (bx' := [_]) (mp := [_]) (mp' := []) (by repeat (first | refine leL_same ?_ | refine leL_any ?_ | exact leL_nil)) (by simp) (.inl rfl) rfl rfl)
end Go.Abs
