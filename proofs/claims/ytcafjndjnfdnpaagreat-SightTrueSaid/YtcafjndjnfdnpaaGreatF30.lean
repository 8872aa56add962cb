/-
  Functions: trajectory.All.
-/
import Derived.Test.YtcafjndjnfdnpaaGreatF29
set_option linter.unusedVariables false
set_option linter.unusedSimpArgs false
namespace Go.Abs
open Go.RowKit Go.Proofs

theorem tr_times1 (way : Int) (first : Bound) (legs : List Bound) (hb : ∀ b ∈ first :: legs, -10000 ≤ b.Lo ∧ b.Lo ≤ b.Hi ∧ b.Hi ≤ 10000) (hl : legs.length ≤ 100) {bl : List PV} (hbl : bl = encBounds legs) :
    SeqPV Tryz.prog 133 [.ptr [.int .i64 way, .int .i64 first.Lo, .int .i64 first.Hi, .list 2 bl] 0] ((extL 0 (first :: legs)).map fun ts => [.list 1 (encInts ts)]) := by
  refine seqPV_byY (clo := cloG) (rows := false) env_ok Tryz.func133 rfl (enters_of Tryz.func133 (by kernel_rfl) rfl) rfl (fun A P Y Y' y R hr hys hE hy hA hR => ?_)
  have hg := grow_spec Y hE hy.2 way first legs hb hl hbl (legs.length + 1) [] (by simp) (by simp) 0 [] 0 (.inr rfl) (fun j x hx => by
    rw [extT_nil] at hx
    rw [hys, Nat.zero_add, List.getElem?_map, hx]; rfl)
  rw [extT_nil, Nat.zero_add] at hg
  have hlen : Y.ys.length = (extL 0 (first :: legs)).length := by rw [hys, List.length_map]
  have hR1 := fun k (h : k = (extL 0 (first :: legs)).length ∨ k = Y.ys.length + 1) => hR k (by rw [List.length_map]; omega)
  have hcall : CallsR ⟨Tryz.prog, tab, cloG, false, Y⟩ 134 [.lit 0 [], .val (.ptr [.int .i64 way, .int .i64 first.Lo, .int .i64 first.Hi, .list 2 bl] 0), .box 0 0, .box 1 0]
      (bxG [.int .i64 way, .int .i64 first.Lo, .int .i64 first.Hi, .list 2 bl] Y.l) [] ⟨[], 0⟩ (growQ [.int .i64 way, .int .i64 first.Lo, .int .i64 first.Hi, .list 2 bl] Y.l [] (extL 0 (first :: legs)).length (Y.ys.length + 1)) :=
    CallsR.wk (by intro h; rfl) (Wk.forget _ _ _ _ _ (leL_lit (leL_same (leL_same (leL_same leL_nil))))) hg
  rw [hy.1]
  generalize (extL 0 (first :: legs)).length = n at hcall hR1
  generalize Y.ys.length + 1 = n2 at hcall hR1
  obtain ⟨b1, b2⟩ := first
  simp only at hcall ⊢
  unfold bxG at hcall
  conv => cbv
  refine deepR_intro hA hcall ?_
  rintro r bx' tk' ax' ⟨rfl, _, h | h⟩
  · obtain ⟨rfl, rfl⟩ := h
    conv => cbv
    exact hR1 _ (.inl rfl)
  · obtain ⟨rfl, rfl⟩ := h
    conv => cbv
    exact hR1 _ (.inr rfl)

theorem tr_times (pw b1 b2 : Int) (bl : List PV) : CallsPV Tryz.prog 59 [.agg [.int .i64 pw, .int .i64 b1, .int .i64 b2, .list 2 bl]] (.fn 133 [.ptr [.int .i64 pw, .int .i64 b1, .int .i64 b2, .list 2 bl] 0]) := by
  refine callsPV_by (clo := fun _ => false) (rows := false) env_ok Tryz.func59 rfl (enters_of Tryz.func59 (by kernel_rfl) rfl) (fun A q P Y hr hA hq => ?_)
  conv => cbv
  rw [← hq]

set_option maxHeartbeats 1000000 in
theorem tr_All (t : Tables) (f : Flight) (o : Opt) : CallsPV Tryz.prog 16 [encTables t, encFlight f, encOpt o] (.tup [.list 2 (encPaths (allP t f o)), .int .i64 (countE t f o)]) := by
  have hcnt := tr_Count t f o
  have hpl := tr_planned t f o
  by_cases h0 : countE t f o = 0
  · obtain ⟨hp0, hmany⟩ := countE_plan h0
    obtain ⟨k, w, h⟩ := planE_plan hp0
    have hall : allP t f o = (allT t f o).map fun ts => ⟨planW f o, ts⟩ := by rw [allP, if_pos h0]
    have hseq := fun bl hbl => tr_times1 (planW f o) (firstB f o) (planL t f o) h.all (by have := h.bounds.2.2.2; omega) (bl := bl) hbl
    have hTl := allT_len t f o
    have hTe : extL 0 (firstB f o :: planL t f o) = allT t f o := rfl
    rw [hTe] at hseq
    rw [planPV_ok hp0, hp0] at hpl
    rw [h0] at hcnt
    rw [hall, h0]
    generalize countN t f o = cn at hcnt
    generalize allT t f o = T at hseq hTl
    generalize planW f o = pw at hpl hseq
    generalize firstB f o = fb at hpl hseq
    generalize planL t f o = pL at hpl hseq
    obtain ⟨b1, b2⟩ := fb
    obtain ⟨bl, hbl⟩ : ∃ bl, bl = encBounds pL := ⟨_, rfl⟩
    have hs2 := hseq bl hbl
    rw [← hbl] at hpl
    have hmk := tr_times pw b1 b2 bl
    clear hseq hall hTe h h0
    simp only at hpl hs2
    refine callsPV_by (clo := fun _ => false) (rows := false) env_ok Tryz.func16 rfl (enters_of Tryz.func16 (by kernel_rfl) rfl) (fun A q P Y hr hA hq => ?_)
    obtain ⟨ss, hss⟩ : ∃ ss, ss = encSectors t.Sectors := ⟨_, rfl⟩
    obtain ⟨cs, hcs⟩ : ∃ cs, cs = encConfigs t.Configs := ⟨_, rfl⟩
    obtain ⟨ws, hws⟩ : ∃ ws, ws = encWays t.Ways := ⟨_, rfl⟩
    obtain ⟨ms, hms⟩ : ∃ ms, ms = encIntLs t.Modes := ⟨_, rfl⟩
    obtain ⟨ks, hks⟩ : ∃ ks, ks = encKinds t.Kinds := ⟨_, rfl⟩
    obtain ⟨nv, hnv⟩ : ∃ nv, nv = t.Volumes := ⟨_, rfl⟩
    have htab : encTables t = .agg [.int .i64 nv, .list 5 ss, .list 3 cs, .list 3 ws, .list 1 ms, .list 6 ks] := by rw [encTables_eq t hss hcs hws hms hks, hnv]
    rw [htab] at hpl hcnt ⊢
    obtain ⟨f1, f2, f3, f4, f5, ⟨f6, f7⟩, f8⟩ := f
    obtain ⟨fl, hfl⟩ : ∃ fl, fl = encInts f5 := ⟨_, rfl⟩
    rw [encFlight_eq _ hfl] at hpl hcnt ⊢
    obtain ⟨o1, o2, o3, o4⟩ := o
    simp only at hpl hcnt ⊢
    conv => cbv
    refine call_intro hA (hcnt) ?_
    conv => cbv
    split
    · rename_i hc
      cases (neT hA hc rfl)
    conv => cbv
    refine call_intro hA (hpl) ?_
    conv => cbv
    refine call_intro hA (hmk) ?_
    conv => cbv
    refine rng_intro hA hs2 (fun x hx => ?_) (fun (L : List PV) s => { s with bx := s.bx.set 3 (some [.own 0 2 L]), tk := [(A.nLen L, 49)] })
      (fun k L => L = encPaths ((T.take k).map fun ts => ⟨pw, ts⟩)) [] (fun _ => rfl) ?_ ?_ ?_ ?_
    · obtain ⟨o, _, rfl⟩ := List.mem_map.1 hx; rfl
    · subst hA
      exact Wk.ownBx _ _ [] _ 3 0 0 2 [.lit 0 []] [] 49 rfl rfl (.inr rfl)
    · rfl
    · intro R k L x hx hL hR
      rw [List.getElem?_map, Option.map_eq_some_iff] at hx
      obtain ⟨ts, hts, rfl⟩ := hx
      have hkl : k < T.length := (List.getElem?_eq_some_iff.1 hts).1
      have hLl : L.length ≤ 5000 := by rw [hL]; simp [encPaths]; omega
      obtain ⟨tp, htp⟩ : ∃ tp, tp = encInts ts := ⟨_, rfl⟩
      have hnext : A.lApp L [.agg [.int .i64 pw, .list 1 tp]] = encPaths ((T.take (k + 1)).map fun ts => ⟨pw, ts⟩) := by
        subst hA hL
        rw [List.take_add_one, hts, htp]
        show encPaths _ ++ _ = _
        simp [encPaths, encPath]
      have htk : A.tkEq (A.nLen L) (A.nLen L) := by subst hA; rfl
      have hroom : A.room (A.nLen (A.lApp L [.agg [.int .i64 pw, .list 1 tp]])) 32 := by
        subst hA
        show (L ++ [_]).length * (32 + 1) ≤ 140737488355328
        rw [List.length_append, List.length_singleton]; omega
      rw [← htp]
      conv => cbv
      refine ⟨⟨htk, hroom⟩, hR (A.lApp L [.agg [.int .i64 pw, .list 1 tp]]) _ ?_ hnext⟩
      conv => cbv
      exact wk_sl (by repeat (first | refine leL_same ?_ | refine leL_any ?_ | exact leL_nil))
    · intro L hL
      rw [List.take_of_length_le (by simp)] at hL
      conv => cbv
      rw [← hq, hL]
  · have hall : allP t f o = [] := by rw [allP, if_neg h0]
    rw [hall]
    generalize countN t f o = cn at hcnt
    generalize countE t f o = ce at hcnt h0
    clear hpl hall
    refine CallsPV.le (p := .tup [.list 0 [], .int .i64 ce]) (args' := [encTables t, encFlight f, encOpt o]) ?_ (.cons (.refl _) (.cons (.refl _) (.cons (.refl _) .nil))) (.tup _ _ rfl fun i x y hx hy => ?_)
    · refine callsPV_by (clo := fun _ => false) (rows := false) env_ok Tryz.func16 rfl (enters_of Tryz.func16 (by kernel_rfl) rfl) (fun A q P Y hr hA hq => ?_)
      obtain ⟨ss, hss⟩ : ∃ ss, ss = encSectors t.Sectors := ⟨_, rfl⟩
      obtain ⟨cs, hcs⟩ : ∃ cs, cs = encConfigs t.Configs := ⟨_, rfl⟩
      obtain ⟨ws, hws⟩ : ∃ ws, ws = encWays t.Ways := ⟨_, rfl⟩
      obtain ⟨ms, hms⟩ : ∃ ms, ms = encIntLs t.Modes := ⟨_, rfl⟩
      obtain ⟨ks, hks⟩ : ∃ ks, ks = encKinds t.Kinds := ⟨_, rfl⟩
      obtain ⟨nv, hnv⟩ : ∃ nv, nv = t.Volumes := ⟨_, rfl⟩
      have htab : encTables t = .agg [.int .i64 nv, .list 5 ss, .list 3 cs, .list 3 ws, .list 1 ms, .list 6 ks] := by rw [encTables_eq t hss hcs hws hms hks, hnv]
      rw [htab] at hcnt ⊢
      obtain ⟨f1, f2, f3, f4, f5, ⟨f6, f7⟩, f8⟩ := f
      obtain ⟨fl, hfl⟩ : ∃ fl, fl = encInts f5 := ⟨_, rfl⟩
      rw [encFlight_eq _ hfl] at hcnt ⊢
      obtain ⟨o1, o2, o3, o4⟩ := o
      simp only at hcnt ⊢
      conv => cbv
      refine call_intro hA (hcnt) ?_
      conv => cbv
      split
      rotate_left
      · rename_i hc
        cases ((h0 (neF hA hc)))
      conv => cbv
      exact hq
    · match i, hx, hy with
      | 0, hx, hy => simp at hx hy; subst hx hy; exact .nil _ _
      | 1, hx, hy => simp at hx hy; subst hx hy; exact .refl _
      | i + 2, hx, hy => simp at hx
end Go.Abs
