/-
  The abstract walk is sound: the sixth part: stores, append, closures.
-/
import Derived.Test.YthofonhkpilifaaAbs7
namespace Go.Abs
open Go.RowKit

section
variable {E : Env} {B : Nat} {S0 : Addr → Prop} {w0 : World} {st : St} {G : Gh} {S : Addr → Prop} {w : World} {tmps : Array Value}

theorem getD_some {bx : List (Option (List SV))} {id : Nat} {cs : List SV} (h : bx.getD id none = some cs) : bx[id]? = some (some cs) := by
  rw [List.getD_eq_getElem?_getD] at h
  cases hq : bx[id]? with
  | none => simp [hq] at h
  | some x => simp [hq] at h; rw [h]

theorem MapOk.ne {b b' : Nat} {c : MapC} (h : MapOk E w b' c) {arr : Array Value} {t : TypeId} {m : Nat × Nat} (hh : w.heap[b]? = some (.cells arr t m)) : b' ≠ b := by
  rintro rfl
  cases c with
  | plain k e n =>
    obtain ⟨D, es, clock, h1, _⟩ := h
    rw [h1] at hh
    cases hh

/-- A store into a variable of the activation's own. -/
theorem Rel.setBox (R : Rel E B S0 w0 st G S w tmps) {id b : Nat} {t : TypeId} {arr arr' : Array Value} {cs cs' : List SV} (hb : G.bx[id]? = some b) (hc : st.bx[id]? = some (some cs)) (hh : w.heap[b]? = some (.cells arr t (0, 0)))
    (hl : arr'.size = cs'.length) (hr : ∀ (j : Nat) (c : SV) (v : Value), cs'[j]? = some c → arr'[j]? = some v → RSV st.tk G S w c v ∧ v.oneCell' = true) :
    Rel E B S0 w0 (st.setBx id (some cs')) G S (w.setRow b arr') tmps ∧ Ext st.tk G S w st.tk G S (w.setRow b arr') := by
  have hI := R.inv
  have hSb : ∀ a, S a → a.block ≠ b := (hI.box id b cs hc hb).2
  have hE : Ext st.tk G S w st.tk G S (w.setRow b arr') := ⟨fun _ _ h => h, fun _ hv le h1 h2 => ⟨hv, le, h1, h2, .inl ⟨rfl, rfl⟩⟩, fun _ h => h, fun a ha => cell_setRow_other w b arr' a (hSb a ha), fun _ _ h => h, ⟨rfl, rfl, rfl, by simp, fun k hk => absurd hk (Nat.not_lt_zero _)⟩, fun b' _ hf => setRow_other w b b' arr' (fun e => hf (.inl ⟨id, by rw [e]; exact hb⟩)), fun _ _ h => h, fun _ h => .inl h⟩
  have hBb := (hI.old id b hb).1
  have hid : id < st.bx.length := (List.getElem?_eq_some_iff.1 hc).1
  refine ⟨⟨⟨by simpa using hI.base, hI.s0, fun a ha => by simpa using hI.slt a ha, by simp [St.setBx, hI.lbx], hI.ltk, fun i b' h => by simpa using hI.old i b' h, hI.dist, ?_, ?_, hI.apart, hI.lmp, hI.dmp, fun i b' h => by simpa using hI.mpo i b' h, fun i b' c h1 h2 => (hI.mpk i b' c h1 h2).same (setRow_other w b b' arr' ((hI.mpk i b' c h1 h2).ne hh)), fun b' h => by simpa using hI.flt b' h, hI.fbx, hI.ftk, hI.fmp,
    ⟨E.Y.ok _ _ _ _ _ _ hI.yl.1 ⟨hE.calm, fun b' h => setRow_other w b b' arr' (fun e => hI.fbx id b' (by rw [e]; exact hb) h), fun _ h => h, hE.cell, fun _ h => .inl h, fun a ha => by simpa using hI.slt a ha⟩, hI.yl.2⟩⟩, ?_, R.len, fun t s v a1 a2 => RSV.mono hE (R.sl t s v a1 a2)⟩, hE⟩
  · intro id' b' cs'' h1 h2
    simp only [St.setBx, List.getElem?_set] at h1
    split at h1
    · rename_i he
      subst he
      simp only [Option.some.injEq] at h1
      subst h1
      rw [hb] at h2
      cases h2
      exact ⟨⟨t, arr', setRow_heap w b arr arr' t _ hh, hl, fun j c v a1 a2 => ⟨RSV.mono hE (hr j c v a1 a2).1, (hr j c v a1 a2).2⟩⟩, hSb⟩
    · rename_i hne
      have hbb : b' ≠ b := fun e => hne (hI.dist id id' b hb (by rw [← e]; exact h2))
      obtain ⟨⟨t', a', k1, k2, k3⟩, k4⟩ := hI.box id' b' cs'' h1 h2
      exact ⟨⟨t', a', by rw [setRow_other w b b' arr' hbb]; exact k1, k2, fun j c v a1 a2 => ⟨RSV.mono hE (k3 j c v a1 a2).1, (k3 j c v a1 a2).2⟩⟩, k4⟩
  · intro t' n e hv h1 h2
    obtain ⟨a, cap, k1, k2, k3, k4⟩ := hI.tok t' n e hv h1 h2
    refine ⟨a, cap, k1, k2, k3, fun hlt => ?_⟩
    obtain ⟨g, cur, c1, c2, c3, c4, c5, c6⟩ := k4 hlt
    have hgb : g ≠ b := fun e => c6 id (by rw [e]; exact hb)
    exact ⟨g, cur, c1, c2, by rw [setRow_other w b g arr' hgb]; exact c3, c4, c5, c6⟩
  · exact R.below.trans ⟨rfl, rfl, rfl, by simp, fun k hk => setRow_other w b k arr' (by omega)⟩

theorem storable {v : Value} (h : v.oneCell' = true) : v.cells = #[v] := by cases v <;> simp_all [Value.cells, Value.oneCell']

theorem ok_store (hE : EnvOk E) (R : Rel E B S0 w0 st G S w tmps) {t : TypeId} {x y : SV} {vx vy : Value} (hx : RSV st.tk G S w x vx) (hy : RSV st.tk G S w y vy) :
    OpOk E B S0 w0 (opStore E t x y st) G S w st.tk tmps (do Instr.storeAt t vx vy; pure .skip) := by
  intro r' hr hside
  unfold opStore at hr
  split at hr
  · rename_i id off
    obtain ⟨b, hb, rfl⟩ := hx
    split at hr
    · rename_i cs hcs
      have hcs' := getD_some hcs
      obtain ⟨ty, arr, hh, hl, hrr, hcell, _⟩ := R.inv.read hb hcs
      split at hr
      · rename_i hag
        split at hr
        · rename_i l
          split at hr
          · rename_i hl1
            cases hr
            have hside' : off + l.length ≤ cs.length := hside
            obtain ⟨vs, rfl, hvs⟩ := RV.agg_iff hy
            obtain ⟨i, z, u, hi, hsz, _⟩ := (hE.td t).info (.inr hag)
            have hvl : vs.length = l.length := hvs.1.symm
            have hone : ∀ v ∈ vs, v.oneCell' = true := fun v hv => by
              obtain ⟨k, hk⟩ := List.mem_iff_getElem?.1 hv
              have hk' : k < l.length := by rw [hvs.1]; exact (List.getElem?_eq_some_iff.1 hk).1
              exact RV.of_one (hvs.2 k _ v (List.getElem?_eq_getElem hk') hk) (List.all_eq_true.1 hl1.2 _ (List.getElem_mem hk'))
            have hst := run_storeCells_at E.P b off ty vs 0 arr w hh (by omega) hone
            simp only [Nat.add_zero] at hst
            obtain ⟨R1, X1⟩ := R.setBox hb hcs' hh (arr' := (arr.toList.take off ++ vs ++ arr.toList.drop (off + vs.length)).toArray) (cs' := cs.take off ++ (l.map SV.val ++ cs.drop (off + l.length)))
              (by simp [hl, hvl]) (fun j c v a1 a2 => by
                simp only [List.append_assoc, List.getElem?_toArray] at a2
                rcases Nat.lt_trichotomy j off with hj | hj | hj
                · rw [List.getElem?_append_left (by simp; omega), List.getElem?_take, if_pos hj] at a1 a2
                  exact hrr j c v a1 (by simpa using a2)
                all_goals
                  have ht : (cs.take off).length = off := by simp; omega
                  have ht' : (arr.toList.take off).length = off := by simp; omega
                  rw [List.getElem?_append_right (by omega), ht] at a1
                  rw [List.getElem?_append_right (by omega), ht'] at a2
                  by_cases hj2 : j - off < l.length
                  · rw [List.getElem?_append_left (by simpa using hj2), List.getElem?_map, List.getElem?_eq_getElem hj2] at a1
                    rw [List.getElem?_append_left (by omega)] at a2
                    simp only [Option.map_some, Option.some.injEq] at a1
                    subst a1
                    exact ⟨hvs.2 _ _ v (List.getElem?_eq_getElem hj2) a2, hone v (List.mem_of_getElem? a2)⟩
                  · rw [List.getElem?_append_right (by simp; omega), List.getElem?_drop] at a1
                    rw [List.getElem?_append_right (by omega), List.getElem?_drop] at a2
                    refine hrr _ c v a1 ?_
                    rw [← Array.getElem?_toList, ← a2]
                    congr 1
                    simp
                    omega)
            refine ⟨_, undef, _, ?_, .inr ⟨rfl, rfl⟩, G, S, R1, rfl, X1⟩
            have hn : ¬ (Value.agg vs.toArray).cells.size ≠ i.size := by simp [Value.cells, hvl, hl1.1, hsz]
            have hcl : (Value.agg vs.toArray).cells.toList = vs := rfl
            simp only [Instr.storeAt, Instr.sureAddr, storeVar, Sem.run_bind, Sem.run_pure, Result.andThen_ok, run_sizeOf' hi, if_neg hn, Sem.run_ite, hcl, hst]
          · cases hr
        · cases hr
      · split at hr
        · rename_i h1
          cases hr
          have hside' : off < cs.length := hside
          have hone := RSV.of_one hy h1.1
          obtain ⟨i, z, u, hi, hsz, _⟩ := (hE.td t).info (.inl (by omega))
          have hst := run_storeCells_at E.P b off ty [vy] 0 arr w hh (by simp; omega) (by simpa using hone)
          simp only [Nat.add_zero] at hst
          obtain ⟨R1, X1⟩ := R.setBox hb hcs' hh (arr' := (arr.toList.take off ++ [vy] ++ arr.toList.drop (off + [vy].length)).toArray) (cs' := cs.set off y)
            (by simp [hl]; omega) (fun j c v a1 a2 => by
              simp only [List.append_assoc, List.getElem?_toArray] at a2
              rw [List.getElem?_set] at a1
              have ht' : (arr.toList.take off).length = off := by simp; omega
              split at a1
              · rename_i he
                subst he
                rw [List.getElem?_append_right (by omega), ht'] at a2
                simp only [Nat.sub_self, List.cons_append, List.getElem?_cons_zero, Option.some.injEq] at a2
                cases a1
                subst a2
                exact ⟨hy, hone⟩
              · rename_i hne
                rcases Nat.lt_or_ge j off with hj | hj
                · rw [List.getElem?_append_left (by omega), List.getElem?_take, if_pos hj] at a2
                  exact hrr j c v a1 (by simpa using a2)
                · rw [List.getElem?_append_right (by omega), ht', List.getElem?_append_right (by simp; omega), List.getElem?_drop] at a2
                  refine hrr j c v a1 ?_
                  rw [← Array.getElem?_toList, ← a2]
                  congr 1
                  simp
                  omega)
          refine ⟨_, undef, _, ?_, .inr ⟨rfl, rfl⟩, G, S, R1, rfl, X1⟩
          have hn : ¬ vy.cells.size ≠ i.size := by rw [storable hone, hsz, h1.2]; simp
          have hcl : vy.cells.toList = [vy] := by rw [storable hone]
          simp only [Instr.storeAt, Instr.sureAddr, storeVar, Sem.run_bind, Sem.run_pure, Result.andThen_ok, run_sizeOf' hi, if_neg hn, Sem.run_ite, hcl, hst]
        · cases hr
    · cases hr
  · cases hr

theorem capPVs_get : ∀ {cs : List Cap} {ps : List PV}, capPVs cs = some ps → ps.length = cs.length ∧ ∀ (i : Nat) (p : PV), ps[i]? = some p → cs[i]? = some (.pv p)
  | [], ps, h => by simp only [capPVs, Option.some.injEq] at h; subst h; exact ⟨rfl, fun i p h => by simp at h⟩
  | .box a b :: r, ps, h => by simp [capPVs] at h
  | .pv p :: r, ps, h => by
    simp only [capPVs] at h
    cases hq : capPVs r with
    | none => simp [hq] at h
    | some q =>
      simp only [hq, Option.map_some, Option.some.injEq] at h
      subst h
      obtain ⟨a, b⟩ := capPVs_get hq
      refine ⟨by simp [a], fun i x hx => ?_⟩
      cases i with
      | zero => simp at hx; subst hx; rfl
      | succ i => simpa using b i x (by simpa using hx)

/-- A variable of the activation's own turns still. -/
theorem Rel.seal_ (R : Rel E B S0 w0 st G S w tmps) {id b : Nat} {cs : List SV} {ps : List PV} (hb : G.bx[id]? = some b) (hc : st.bx.getD id none = some cs) (hp : pvsOf cs = some ps) :
    Rel E B S0 w0 (st.sealBx id ps) G (fun a => S a ∨ a.block = b) w tmps ∧ Ext st.tk G S w st.tk G (fun a => S a ∨ a.block = b) w ∧
      (∀ off, RV (fun a => S a ∨ a.block = b) w (.ptr ps off) (.pointer (some ⟨b, off, none⟩))) ∧
      ∀ (s : SV) (v : Value), RSV st.tk G S w s v → RSV st.tk G (fun a => S a ∨ a.block = b) w (sealSV id ps s) v := by
  have hI := R.inv
  obtain ⟨ty, arr, hh, hl, hrr, hcell, hSb⟩ := hI.read hb hc
  have hE : Ext st.tk G S w st.tk G (fun a => S a ∨ a.block = b) w := ⟨fun _ _ h => h, fun _ hv le h1 h2 => ⟨hv, le, h1, h2, .inl ⟨rfl, rfl⟩⟩, fun _ h => .inl h, fun _ _ => rfl, fun _ _ h => h, Below.refl _ _, fun _ _ _ => rfl, fun _ _ h => h, fun a ha => ha.imp (fun h => h) fun h => .inl (.inl ⟨id, by rw [h]; exact hb⟩)⟩
  have hold := hI.old id b hb
  have hptr : ∀ off, RV (fun a => S a ∨ a.block = b) w (.ptr ps off) (.pointer (some ⟨b, off, none⟩)) := by
    intro off
    have hlen := pvsOf_length hp
    have := RV.ptr (S := fun a => S a ∨ a.block = b) (w := w) ps off ⟨b, 0, none⟩ (fun j => arr.getD j undef) (fun j c hj => by
      obtain ⟨s, hs, hsp⟩ := pvsOf_get hp j c hj
      have hj' : j < arr.size := by rw [hl]; exact (List.getElem?_eq_some_iff.1 hs).1
      have hv : arr[j]? = some (arr.getD j undef) := by simp [Array.getD, hj']
      rw [addr_box, Nat.zero_add, hcell]
      exact ⟨.inr rfl, hv, (hrr j s _ hs hv).2⟩) (fun j c hj => by
      obtain ⟨s, hs, hsp⟩ := pvsOf_get hp j c hj
      have hj' : j < arr.size := by rw [hl]; exact (List.getElem?_eq_some_iff.1 hs).1
      have hv : arr[j]? = some (arr.getD j undef) := by simp [Array.getD, hj']
      exact RSV.pv (RSV.mono hE (hrr j s _ hs hv).1) hsp)
    rw [addr_box, Nat.zero_add] at this
    exact this
  have hseal : ∀ (s : SV) (v : Value), RSV st.tk G S w s v → RSV st.tk G (fun a => S a ∨ a.block = b) w (sealSV id ps s) v := by
    intro s v hs
    have h0 := RSV.mono hE hs
    cases s with
    | box i o =>
      simp only [sealSV]
      split
      · rename_i hi
        subst hi
        obtain ⟨b', hb', rfl⟩ := h0
        rw [hb] at hb'
        cases hb'
        exact hptr o
      · exact h0
    | clo f caps =>
      obtain ⟨vs, rfl, hl2, hv⟩ := h0
      have hc2 : ∀ (i : Nat) (c : Cap) (u : Value), (caps.map (sealCap id ps))[i]? = some c → vs[i]? = some u → RCap G (fun a => S a ∨ a.block = b) w c u := by
        intro i c u h1 h2
        rw [List.getElem?_map] at h1
        cases hq : caps[i]? with
        | none => rw [hq] at h1; cases h1
        | some c0 =>
          rw [hq] at h1
          simp only [Option.map_some, Option.some.injEq] at h1
          have hcu := hv i c0 u hq h2
          cases c0 with
          | pv p => subst h1; exact hcu
          | box j o =>
            simp only [sealCap] at h1
            split at h1
            · rename_i hj
              subst hj
              subst h1
              obtain ⟨b', hb', rfl⟩ := hcu
              rw [hb] at hb'
              cases hb'
              exact hptr o
            · subst h1; exact hcu
      simp only [sealSV]
      split
      · rename_i qs hq
        obtain ⟨a1, a2⟩ := capPVs_get hq
        refine RV.fn f qs vs (by rw [a1]; simp [hl2]) fun i c u h1 h2 => ?_
        exact hc2 i _ u (a2 i c h1) h2
      · exact ⟨vs, rfl, by simp [hl2], hc2⟩
    | _ => exact h0
  refine ⟨⟨⟨hI.base, fun a ha => ?_, fun a ha => ?_, by simp [St.sealBx, hI.lbx], hI.ltk, hI.old, hI.dist, ?_, ?_, hI.apart, hI.lmp, hI.dmp, hI.mpo, hI.mpk, hI.flt, hI.fbx, hI.ftk, hI.fmp,
    ⟨E.Y.ok _ _ _ _ _ _ hI.yl.1 ⟨Below.refl _ _, fun _ _ => rfl, fun _ h => .inl h, fun _ _ => rfl, fun a ha => ha.imp (fun h => h) fun h hf => hI.fbx id b hb (by rw [← h]; exact hf), fun a ha => ha.elim (hI.slt a) (fun h => by omega)⟩, hI.yl.2⟩⟩, R.below, by simp [St.sealBx, R.len], ?_⟩, hE, hptr, hseal⟩
  · rcases ha with ha | ha
    · exact hI.s0 a ha
    · exact .inr (by omega)
  · rcases ha with ha | ha
    · exact hI.slt a ha
    · omega
  · intro id' b' cs'' h1 h2
    simp only [St.sealBx, List.getElem?_set] at h1
    split at h1
    · split at h1
      · cases h1
      · cases h1
    · rename_i hne
      have hbb : b' ≠ b := fun e => hne (hI.dist id id' b hb (by rw [← e]; exact h2))
      obtain ⟨⟨t', a', k1, k2, k3⟩, k4⟩ := hI.box id' b' cs'' h1 h2
      refine ⟨⟨t', a', k1, k2, fun j c v a1 a2 => ⟨RSV.mono hE (k3 j c v a1 a2).1, (k3 j c v a1 a2).2⟩⟩, fun a ha => ?_⟩
      rcases ha with ha | ha
      · exact k4 a ha
      · omega
  · intro t' n e hv h1 h2
    obtain ⟨a, cap, k1, k2, k3, k4⟩ := hI.tok t' n e hv h1 h2
    refine ⟨a, cap, k1, k2, k3, fun hlt => ?_⟩
    obtain ⟨g, cur, c1, c2, c3, c4, c5, c6⟩ := k4 hlt
    refine ⟨g, cur, c1, c2, c3, c4, fun a ha hab => ?_, c6⟩
    rcases ha with ha | ha
    · exact c5 a ha hab
    · exact absurd (by rw [← hab, ha]; exact hb) (c6 id)
  · intro t s v h1 h2
    simp only [St.sealBx, List.getElem?_map] at h1
    cases hq : st.sl[t]? with
    | none => rw [hq] at h1; cases h1
    | some s0 =>
      rw [hq] at h1
      simp only [Option.map_some, Option.some.injEq] at h1
      subst h1
      exact hseal s0 v (R.sl t s0 v hq h2)

theorem opCaps_ok : ∀ (l : List SV) (vs : List Value) (st st' : St) (ps : List PV) (S : Addr → Prop), Rel E B S0 w0 st G S w tmps → l.length = vs.length →
    (∀ (i : Nat) (s : SV) (v : Value), l[i]? = some s → vs[i]? = some v → RSV st.tk G S w s v) → opCaps st l = some (ps, st') →
    ∃ S', Rel E B S0 w0 st' G S' w tmps ∧ Ext st.tk G S w st'.tk G S' w ∧ RVs S' w ps vs
  | [], [], st, st', ps, S, R, _, _, h => by
    simp only [opCaps, Option.some.injEq, Prod.mk.injEq] at h
    obtain ⟨rfl, rfl⟩ := h
    exact ⟨S, R, Ext.refl _ _ _ _, RVs.nil⟩
  | [], _ :: _, _, _, _, _, _, hl, _, _ => by simp at hl
  | _ :: _, [], _, _, _, _, _, hl, _, _ => by simp at hl
  | s :: l, v :: vs, st, st', ps, S, R, hl, hr, h => by
    have hs := hr 0 s v rfl rfl
    have hr' : ∀ (i : Nat) (s : SV) (v : Value), l[i]? = some s → vs[i]? = some v → RSV st.tk G S w s v := fun i s v a b => hr (i + 1) s v (by simpa using a) (by simpa using b)
    have hl' : l.length = vs.length := by simpa using hl
    cases s with
    | undef => simp [opCaps] at h
    | own t m xs => simp [opCaps] at h
    | msl id off len => simp [opCaps] at h
    | clo f caps => simp [opCaps] at h
    | rbx a b c d e => simp [opCaps] at h
    | mp a => simp [opCaps] at h
    | row a b c d e => simp [opCaps] at h
    | val p =>
      simp only [opCaps] at h
      cases hq : opCaps st l with
      | none => simp [hq] at h
      | some q =>
        obtain ⟨qs, st1⟩ := q
        simp only [hq, Option.map_some, Option.some.injEq, Prod.mk.injEq] at h
        obtain ⟨rfl, rfl⟩ := h
        obtain ⟨S', R', X', V'⟩ := opCaps_ok l vs st st1 qs S R hl' hr' hq
        exact ⟨S', R', X', RVs.cons (RSV.mono X' hs) V'⟩
    | lit m xs =>
      simp only [opCaps] at h
      cases hq : opCaps st l with
      | none => simp [hq] at h
      | some q =>
        obtain ⟨qs, st1⟩ := q
        simp only [hq, Option.map_some, Option.some.injEq, Prod.mk.injEq] at h
        obtain ⟨rfl, rfl⟩ := h
        obtain ⟨S', R', X', V'⟩ := opCaps_ok l vs st st1 qs S R hl' hr' hq
        exact ⟨S', R', X', RVs.cons (RSV.pv (RSV.mono X' hs) rfl) V'⟩
    | box id off =>
      simp only [opCaps] at h
      cases hq : opCaps st l with
      | none => simp [hq] at h
      | some q =>
        obtain ⟨qs, st1⟩ := q
        simp only [hq] at h
        obtain ⟨S', R', X', V'⟩ := opCaps_ok l vs st st1 qs S R hl' hr' hq
        split at h
        · rename_i cs hcs
          split at h
          · rename_i ps' hps
            simp only [Option.some.injEq, Prod.mk.injEq] at h
            obtain ⟨rfl, rfl⟩ := h
            obtain ⟨b, hb, rfl⟩ := hs
            obtain ⟨R2, X2, V2, _⟩ := R'.seal_ hb hcs hps
            exact ⟨_, R2, X'.trans X2, RVs.cons (V2 off) (V'.mono X2.sub X2.cell)⟩
          · cases h
        · cases h

theorem RV.ptr_iff {cs : List PV} {off : Nat} {v : Value} (h : RV S w (.ptr cs off) v) : ∃ (ad : Addr) (g : Nat → Value), v = .pointer (some (ad.add off)) ∧
    (∀ (j : Nat) (c : PV), cs[j]? = some c → S (ad.add j) ∧ w.cell? (ad.add j) = some (g j) ∧ (g j).oneCell' = true) ∧ (∀ (j : Nat) (c : PV), cs[j]? = some c → RV S w c (g j)) := by
  cases h with
  | ptr _ _ ad g hc hr => exact ⟨ad, g, rfl, hc, hr⟩

theorem pvs_vals : ∀ (ps : List PV), pvsOf (ps.map SV.val) = some ps
  | [] => rfl
  | p :: r => by simp [pvsOf, SV.pv, pvs_vals r]

theorem flat_get {m : Nat} : ∀ {xs : List PV}, (∀ x ∈ xs, x.cells.length = m) → ∀ (i : Nat) (x : PV) (j : Nat) (c : PV), xs[i]? = some x → x.cells[j]? = some c → (xs.flatMap PV.cells)[i * m + j]? = some c
  | [], _, i, x, j, c, h, _ => by simp at h
  | y :: r, hm, i, x, j, c, h, hc => by
    have hy : y.cells.length = m := hm y List.mem_cons_self
    rw [List.flatMap_cons]
    cases i with
    | zero =>
      simp at h
      subst h
      rw [Nat.zero_mul, Nat.zero_add, List.getElem?_append_left (List.getElem?_eq_some_iff.1 hc).1]
      exact hc
    | succ i =>
      have e : (i + 1) * m + j - y.cells.length = i * m + j := by rw [hy, Nat.succ_mul]; omega
      rw [List.getElem?_append_right (by rw [hy, Nat.succ_mul]; omega), e]
      exact flat_get (fun x hx => hm x (List.mem_cons_of_mem _ hx)) i x j c (by simpa using h) hc

/-- A row of the activation's own turns still. -/
theorem Rel.sealRow_ (R : Rel E B S0 w0 st G S w tmps) {id b m : Nat} {xs : List PV} (hb : G.bx[id]? = some b) (hc : st.bx.getD id none = some ((xs.flatMap PV.cells).map SV.val)) (hm : ∀ x ∈ xs, x.cells.length = m) :
    Rel E B S0 w0 (st.sealRow id m xs) G (fun a => S a ∨ a.block = b) w tmps ∧ Ext st.tk G S w st.tk G (fun a => S a ∨ a.block = b) w ∧
      ∀ (s : SV) (v : Value), RSV st.tk G S w s v → RSV st.tk G (fun a => S a ∨ a.block = b) w (rowSV id m xs s) v := by
  obtain ⟨R1, X1, hptr, hseal⟩ := R.seal_ hb hc (pvs_vals _)
  have hslice : ∀ (b' len cap : Nat), G.bx[id]? = some b' → len ≤ cap → cap ≤ maxLen → len ≤ xs.length → RV (fun a => S a ∨ a.block = b) w (.list m (xs.take len)) (.slice (some ⟨b', 0, none⟩) len cap) := by
    intro b' len cap hb' h1 h2 hlen
    rw [hb] at hb'
    cases hb'
    have hp := hptr 0
    obtain ⟨ad, g, he, hcc, hrr⟩ := RV.ptr_iff hp
    simp only [Value.pointer.injEq, Option.some.injEq] at he
    have hadd : ∀ k, ad.add k = (⟨b, 0, none⟩ : Addr).add k := fun k => by rw [he, Addr.add_add', Nat.zero_add]
    have hl : (xs.take len).length = len := by simp; omega
    have htake : ∀ (i : Nat) (x : PV), (xs.take len)[i]? = some x → xs[i]? = some x := fun i x h => by
      rw [List.getElem?_take] at h
      split at h
      · exact h
      · cases h
    have := RV.list (S := fun a => S a ∨ a.block = b) (w := w) m (xs.take len) (some ⟨b, 0, none⟩) ⟨b, 0, none⟩ cap (fun i j => g (i * m + j)) (fun _ => rfl) (by rw [hl]; exact h1) h2
      (fun i x hx => hm x (List.mem_of_getElem? (htake i x hx)))
      (fun i x j c hx hc => by
        have h3 := flat_get hm i x j c (htake i x hx) hc
        rw [← hadd]
        exact hcc _ c h3)
      (fun i x j c hx hc => hrr _ c (flat_get hm i x j c (htake i x hx) hc))
    rw [hl] at this
    exact this
  have hrow : ∀ (s : SV) (v : Value), RSV st.tk G S w s v → RSV st.tk G (fun a => S a ∨ a.block = b) w (rowSV id m xs s) v := by
    intro s v hs
    cases s with
    | msl i off len =>
      simp only [rowSV]
      split
      · rename_i hi
        obtain ⟨rfl, rfl, hlen⟩ := hi
        obtain ⟨b', cap, hb', rfl, h1, h2⟩ := hs
        exact hslice b' len cap hb' h1 h2 hlen
      · exact RSV.mono X1 hs
    | undef => exact hseal _ v hs
    | val p => exact hseal _ v hs
    | lit m' xs' => exact hseal _ v hs
    | own t m' xs' => exact hseal _ v hs
    | box i o => exact hseal _ v hs
    | clo f caps => exact hseal _ v hs
    | rbx a b c d e => exact hseal _ v hs
    | mp a => exact hseal _ v hs
    | row i off m' len cap =>
      simp only [rowSV]
      split
      · rename_i hi
        obtain ⟨rfl, rfl, rfl, hlen⟩ := hi
        obtain ⟨b', hb', rfl, h1, h2⟩ := hs
        exact hslice b' len cap hb' h1 h2 hlen
      · exact RSV.mono X1 hs
  refine ⟨⟨R1.inv, R1.below, by simp [St.sealRow, R.len], fun t s v h1 h2 => ?_⟩, X1, hrow⟩
  simp only [St.sealRow, List.getElem?_map] at h1
  cases hq : st.sl[t]? with
  | none => rw [hq] at h1; cases h1
  | some s0 =>
    rw [hq] at h1
    simp only [Option.map_some, Option.some.injEq] at h1
    subst h1
    exact hrow s0 v (R.sl t s0 v hq h2)

/-- Variables turn still, so that what leads to them may be handed on. -/
theorem Frz.ok {st st' : St} {l l' : List SV} (h : Frz st l st' l') : ∀ {S : Addr → Prop} {vs : List Value}, Rel E B S0 w0 st G S w tmps → (∀ (i : Nat) (s : SV) (v : Value), l[i]? = some s → vs[i]? = some v → RSV st.tk G S w s v) →
    ∃ S', Rel E B S0 w0 st' G S' w tmps ∧ Ext st.tk G S w st'.tk G S' w ∧ l'.length = l.length ∧ ∀ (i : Nat) (s : SV) (v : Value), l'[i]? = some s → vs[i]? = some v → RSV st'.tk G S' w s v := by
  induction h with
  | refl st l => exact fun R hv => ⟨_, R, Ext.refl _ _ _ _, rfl, hv⟩
  | still id cs ps st st' l l' h1 h2 h3 ih =>
    intro S vs R hv
    have hid : id < G.bx.length := by rw [R.inv.lbx]; exact (List.getElem?_eq_some_iff.1 (getD_some h1)).1
    obtain ⟨R2, X2, _, V2⟩ := R.seal_ (List.getElem?_eq_getElem hid) h1 h2
    obtain ⟨S', R3, X3, hl3, V3⟩ := ih (vs := vs) R2 (fun i s v a b => by
      rw [List.getElem?_map] at a
      cases hq : l[i]? with
      | none => rw [hq] at a; cases a
      | some s0 =>
        rw [hq] at a
        simp only [Option.map_some, Option.some.injEq] at a
        subst a
        exact V2 s0 v (hv i s0 v hq b))
    exact ⟨S', R3, X2.trans X3, by rw [hl3]; simp, V3⟩
  | row id m cs xs st st' l l' h1 h2 hm h3 ih =>
    intro S vs R hv
    subst h2
    have hid : id < G.bx.length := by rw [R.inv.lbx]; exact (List.getElem?_eq_some_iff.1 (getD_some h1)).1
    obtain ⟨R2, X2, V2⟩ := R.sealRow_ (List.getElem?_eq_getElem hid) h1 hm
    obtain ⟨S', R3, X3, hl3, V3⟩ := ih (vs := vs) R2 (fun i s v a b => by
      rw [List.getElem?_map] at a
      cases hq : l[i]? with
      | none => rw [hq] at a; cases a
      | some s0 =>
        rw [hq] at a
        simp only [Option.map_some, Option.some.injEq] at a
        subst a
        exact V2 s0 v (hv i s0 v hq b))
    exact ⟨S', R3, X2.trans X3, by rw [hl3]; simp, V3⟩

theorem capsOf_ok {tk : List (Nat × TypeId)} : ∀ (l : List SV) (vs : List Value) (cs : List Cap), l.length = vs.length → (∀ (i : Nat) (s : SV) (v : Value), l[i]? = some s → vs[i]? = some v → RSV tk G S w s v) → capsOf l = some cs →
    cs.length = vs.length ∧ ∀ (i : Nat) (c : Cap) (u : Value), cs[i]? = some c → vs[i]? = some u → RCap G S w c u
  | [], [], cs, _, _, h => by simp only [capsOf, Option.some.injEq] at h; subst h; exact ⟨rfl, fun i c u h => by simp at h⟩
  | [], _ :: _, _, hl, _, _ => by simp at hl
  | _ :: _, [], _, hl, _, _ => by simp at hl
  | s :: l, v :: vs, cs, hl, hr, h => by
    have hs := hr 0 s v rfl rfl
    have hl' : l.length = vs.length := by simpa using hl
    have hr' : ∀ (i : Nat) (s : SV) (v : Value), l[i]? = some s → vs[i]? = some v → RSV tk G S w s v := fun i s v a b => hr (i + 1) s v (by simpa using a) (by simpa using b)
    have key : ∀ (c0 : Cap), RCap G S w c0 v → (capsOf l).map (c0 :: ·) = some cs → cs.length = (v :: vs).length ∧ ∀ (i : Nat) (c : Cap) (u : Value), cs[i]? = some c → (v :: vs)[i]? = some u → RCap G S w c u := by
      intro c0 h0 h
      cases hq : capsOf l with
      | none => simp [hq] at h
      | some q =>
        simp only [hq, Option.map_some, Option.some.injEq] at h
        subst h
        obtain ⟨a, b⟩ := capsOf_ok l vs q hl' hr' hq
        refine ⟨by simp [a], fun i c u h1 h2 => ?_⟩
        cases i with
        | zero => simp at h1 h2; subst h1; subst h2; exact h0
        | succ i => exact b i c u (by simpa using h1) (by simpa using h2)
    cases s with
    | val p => exact key (.pv p) hs h
    | lit m xs => exact key (.pv (.list m xs)) hs.1 h
    | box id off => exact key (.box id off) hs h
    | undef => simp [capsOf] at h
    | own t m xs => simp [capsOf] at h
    | msl id off len => simp [capsOf] at h
    | clo f caps => simp [capsOf] at h
    | rbx a b c d e => simp [capsOf] at h
    | mp a => simp [capsOf] at h
    | row a b c d e => simp [capsOf] at h

theorem ok_makeFunc (R : Rel E B S0 w0 st G S w tmps) {fn : Fn} {first cap : List SV} {vf vc : Array Value} (hf : first.length = vf.size) (hc : cap.length = vc.size)
    (hr : ∀ (i : Nat) (s : SV) (v : Value), cap[i]? = some s → vc.toList[i]? = some v → RSV st.tk G S w s v) :
    OpOk E B S0 w0 (opMakeFunc E fn first cap st) G S w st.tk tmps (do pure (.value (← Instr.makeFunc fn vf vc))) := by
  intro r' hr' _
  unfold opMakeFunc at hr'
  split at hr'
  · rename_i f
    have hvf : vf = #[] := by
      have : vf.size = 0 := by simpa using hf.symm
      exact Array.eq_empty_of_size_eq_zero this
    subst hvf
    split at hr'
    · split at hr'
      · rename_i l hl
        cases hr'
        have := capsOf_ok cap vc.toList l (by simpa using hc) hr hl
        exact ⟨_, _, w, by simp [Instr.makeFunc]; rfl, .inl rfl, G, S, R, ⟨vc.toList, by simp, this.1, this.2⟩, Ext.refl _ _ _ _⟩
      · cases hr'
    · split at hr'
      · rename_i l st' hl
        cases hr'
        obtain ⟨S', R', X', V'⟩ := opCaps_ok cap vc.toList st st' l S R (by simpa using hc) hr hl
        refine ⟨_, _, w, by simp [Instr.makeFunc]; rfl, .inl rfl, G, S', R', ?_, X'⟩
        have := RV.fn (S := S') (w := w) f l vc.toList V'.1 V'.2
        simpa [RSV] using this
      · cases hr'
  · cases hr'

end
end Go.Abs
