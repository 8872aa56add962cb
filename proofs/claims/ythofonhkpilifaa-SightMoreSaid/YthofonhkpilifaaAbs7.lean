/-
  The abstract walk is sound: the fifth part: structs and slices written out; stores.
-/
import Derived.Test.YthofonhkpilifaaAbs6
namespace Go.Abs
open Go.RowKit

section
variable {E : Env} {B : Nat} {S0 : Addr → Prop} {w0 : World} {st : St} {G : Gh} {S : Addr → Prop} {w : World} {tmps : Array Value}

theorem foldl_set (off : Nat) : ∀ (l : List Value) (k : Nat) (cells : Array Value), off + k + l.length ≤ cells.size →
    ((l.zipIdx k).foldl (fun cs p => cs.setIfInBounds (off + p.2) p.1) cells).toList = cells.toList.take (off + k) ++ (l ++ cells.toList.drop (off + k + l.length))
  | [], k, cells, h => by simp
  | v :: l, k, cells, h => by
    simp only [List.zipIdx_cons, List.foldl_cons]
    have h' : off + (k + 1) + l.length ≤ (cells.setIfInBounds (off + k) v).size := by simp at h ⊢; omega
    rw [foldl_set off l (k + 1) _ h']
    have hk : off + k < cells.toList.length := by simp at h ⊢; omega
    simp only [Array.toList_setIfInBounds]
    rw [show off + (k + 1) = (off + k) + 1 by omega, List.take_succ_eq_append_getElem (by simpa using hk)]
    rw [List.take_set_of_le (Nat.le_refl _), List.drop_set_of_lt (by omega)]
    simp
    congr 1
    omega

theorem fill_set (off : Nat) (v : Value) (cells : Array Value) (h : off + v.cells.size ≤ cells.size) :
    (v.cells.zipIdx.foldl (fun cs (c, j) => cs.setIfInBounds (off + j) c) cells).toList = cells.toList.take off ++ (v.cells.toList ++ cells.toList.drop (off + v.cells.size)) := by
  have := foldl_set off v.cells.toList 0 cells (by simpa using h)
  simp only [Nat.add_zero] at this
  rw [← Array.foldl_toList, Array.toList_zipIdx]
  simpa using this

theorem RVs.splice {cs l : List PV} {vs us : List Value} (h : RVs S w cs vs) (k : RVs S w l us) (off : Nat) :
    RVs S w (cs.take off ++ (l ++ cs.drop (off + l.length))) (vs.take off ++ (us ++ vs.drop (off + us.length))) := by
  rw [← k.1]
  exact RVs.append (h.take off) (RVs.append k (h.drop _))

/-- A part's cells. -/
theorem partCells_rel {tk : List (Nat × TypeId)} {d : TD} {s : SV} {v : Value} {l : List PV} (h : partCells d s = some l) (hr : RSV tk G S w s v) :
    v.cells.size = d.size ∧ RVs S w l v.cells.toList ∧ l.length = d.size ∧ (d.agg = false → ∃ p, s.pv = some p ∧ l = [p] ∧ p.one = true) ∧ (PV.ofCells d l).cells = l := by
  unfold partCells at h
  split at h
  · rename_i hag
    split at h
    · split at h
      · rename_i hl
        cases h
        obtain ⟨vs, rfl, hvs⟩ := RV.agg_iff hr
        exact ⟨by simp [Value.cells, ← hvs.1, hl], by simpa [Value.cells] using hvs, hl, fun hf => by simp [hag] at hf, by simp [PV.ofCells, hag, PV.cells]⟩
      · cases h
    · cases h
  · rename_i hag
    split at h
    · rename_i p hp
      split at h
      · rename_i h1
        cases h
        simp only [Bool.and_eq_true, beq_iff_eq] at h1
        have hv := RSV.pv hr hp
        have h2 := RV.of_one hv h1.1
        have hcells : v.cells = #[v] := by cases v <;> simp_all [Value.cells, Value.oneCell']
        refine ⟨by rw [hcells, h1.2]; rfl, by rw [hcells]; exact RVs.cons hv RVs.nil, by simp [h1.2], fun _ => ⟨p, hp, rfl, h1.1⟩, ?_⟩
        simp only [PV.ofCells, hag]
        cases p <;> simp_all [PV.one, PV.cells]
      · cases h
    · cases h

/-- Parts, with the values that they stand for. -/
def Parts (tk : List (Nat × TypeId)) (G : Gh) (S : Addr → Prop) (w : World) : List (Nat × SV) → List (Nat × Value) → Prop
  | [], [] => True
  | (i, s) :: r, (j, v) :: q => i = j ∧ RSV tk G S w s v ∧ Parts tk G S w r q
  | _, _ => False

theorem fill_ok {tk : List (Nat × TypeId)} {place : Nat → Option (Nat × TD)} {place' : Nat → Option (Nat × Nat)} (hp : ∀ i o d, place i = some (o, d) → place' i = some (o, d.size)) :
    ∀ (parts : List (Nat × SV)) (vals : List (Nat × Value)) (cs l : List PV) (cells : Array Value), Parts tk G S w parts vals → RVs S w cs cells.toList → fillPV place cs parts = some l →
      ∃ cells', Instr.fill place' cells vals = some cells' ∧ RVs S w l cells'.toList
  | [], [], cs, l, cells, _, hc, h => by
    simp only [fillPV, Option.some.injEq] at h
    subst h
    exact ⟨cells, rfl, hc⟩
  | [], _ :: _, _, _, _, hP, _, _ => hP.elim
  | _ :: _, [], _, _, _, hP, _, _ => hP.elim
  | (i, s) :: r, (j, v) :: q, cs, l, cells, hP, hc, h => by
    obtain ⟨rfl, hv, hP'⟩ := hP
    simp only [fillPV] at h
    split at h
    · cases h
    · rename_i off d hpl
      split at h
      · cases h
      · rename_i l1 hl1
        split at h
        · rename_i hle
          obtain ⟨h1, h2, h3, _⟩ := partCells_rel hl1 hv
          have hcl : cs.length = cells.size := by simpa using hc.1
          have hsz' : off + d.size ≤ cells.size := by omega
          have hsz : off + v.cells.size ≤ cells.size := by omega
          have hset := fill_set off v cells hsz
          have hc' : RVs S w (cs.take off ++ (l1 ++ cs.drop (off + l1.length))) ((v.cells.zipIdx.foldl (fun cs (c, j) => cs.setIfInBounds (off + j) c) cells).toList) := by
            rw [hset]
            have := hc.splice h2 off
            simpa using this
          obtain ⟨cells', e1, e2⟩ := fill_ok hp r q _ l _ hP' hc' h
          refine ⟨cells', ?_, e2⟩
          simp only [Instr.fill, hp _ _ _ hpl, h1]
          rw [if_neg]
          · exact e1
          · simp; omega
        · cases h

theorem Rel.parts (R : Rel E B S0 w0 st G S w tmps) (d : List Deferred) : ∀ (ps : List (Nat × Operand)), Parts st.tk G S w (ps.map fun p => (p.1, valOf st p.2)) (ps.map fun p => (p.1, ({ tmps := tmps, defers := d } : Act).eval p.2))
  | [] => trivial
  | p :: r => ⟨rfl, R.val p.2 d, Rel.parts R d r⟩

theorem run_places : ∀ (l : List Field), (∀ f ∈ l, ∃ i, E.P.info? f.type = some i ∧ i.size = (E.T f.type).size) →
    (l.mapM fun f => (do pure (f.offset, ← sizeOf f.type) : Sem (Nat × Nat))).run E.P w = .ok (l.map fun f => (f.offset, (E.T f.type).size)) w
  | [], _ => by simp
  | f :: r, h => by
    obtain ⟨i, hi, hs⟩ := h f (by simp)
    have ih := run_places r (fun g hg => h g (by simp [hg]))
    simp only [List.mapM_cons, Sem.run_bind, run_sizeOf' hi, Result.andThen_ok, Sem.run_pure, ih, hs, List.map_cons]

theorem ok_build (hE : EnvOk E) (R : Rel E B S0 w0 st G S w tmps) {t : TypeId} {parts : List (Nat × SV)} {vals : Array (Nat × Value)} (hP : Parts st.tk G S w parts vals.toList) :
    OpOk E B S0 w0 (opBuild E t parts st) G S w st.tk tmps (do pure (.value (← Instr.build t vals))) :=
  OpOk.same R fun r' hr _ => by
    unfold opBuild at hr
    have hk := (hE.td t).k
    split at hr
    · rename_i hag
      obtain ⟨i, z, u, hi, hsz, _, hzz, hzc, _⟩ := (hE.td t).info (.inr hag)
      have hz0 : RVs S w (E.T t).zero z.cells.toList := by rw [← hzc]; exact RVs.const _
      split at hr
      · rename_i fs hs
        rw [hs] at hk
        obtain ⟨F, hu, hF⟩ := hk
        split at hr
        · rename_i hall
          split at hr
          · rename_i l hl
            cases hr
            have hinfo : ∀ f ∈ F.toList, ∃ i, E.P.info? f.type = some i ∧ i.size = (E.T f.type).size := by
              intro f hf
              have := List.all_eq_true.1 hall (f.offset, f.type) (by rw [← hF]; exact List.mem_map.2 ⟨f, hf, rfl⟩)
              simp only [Bool.or_eq_true, bne_iff_ne] at this
              obtain ⟨i, _, _, a, b, _⟩ := (hE.td f.type).info this
              exact ⟨i, a, b⟩
            have hrun : (F.mapM fun f => (do pure (f.offset, ← sizeOf f.type) : Sem (Nat × Nat))).run E.P w = .ok (F.toList.map fun f => (f.offset, (E.T f.type).size)).toArray w := by
              rw [Array.mapM_eq_mapM_toList]
              simp only [Sem.run_map, run_places F.toList hinfo, Result.andThen_ok]
            obtain ⟨cells', e1, e2⟩ := fill_ok (place' := fun i => ((F.toList.map fun f => (f.offset, (E.T f.type).size)).toArray)[i]?) (fun i o d h => by
              rw [← hF, List.getElem?_map] at h
              cases hq : F.toList[i]? with
              | none => rw [hq] at h; cases h
              | some f =>
                rw [hq] at h
                simp only [Option.map_some, Option.some.injEq, Prod.mk.injEq] at h
                obtain ⟨rfl, rfl⟩ := h
                have hq' : F[i]? = some f := by simpa using hq
                simp [hq']) parts vals.toList _ l z.cells hP hz0 hl
            refine ⟨rfl, .agg cells', ?_, ?_⟩
            · simp only [Instr.build, Sem.run_bind, zeroValue, typeInfo, run_program, Result.andThen_ok, hi, Sem.run_pure, hzz, run_underlying hu, hrun, e1]
            · have := RV.agg (S := S) (w := w) l cells'.toList e2.1 e2.2
              simpa [RSV] using this
          · cases hr
        · cases hr
      · rename_i n e hs
        rw [hs] at hk
        split at hr
        · rename_i hne
          split at hr
          · rename_i l hl
            cases hr
            obtain ⟨ie, _, _, hie, hsze, _⟩ := (hE.td e).info (.inl (by simpa using hne))
            obtain ⟨cells', e1, e2⟩ := fill_ok (place' := fun i => some (i * ie.size, ie.size)) (fun i o d h => by
              simp only [Option.some.injEq, Prod.mk.injEq] at h
              obtain ⟨rfl, rfl⟩ := h
              rw [hsze]) parts vals.toList _ l z.cells hP hz0 hl
            refine ⟨rfl, .agg cells', ?_, ?_⟩
            · simp only [Instr.build, Sem.run_bind, zeroValue, typeInfo, run_program, Result.andThen_ok, hi, Sem.run_pure, hzz, run_underlying hk, run_sizeOf' hie, e1]
            · have := RV.agg (S := S) (w := w) l cells'.toList e2.1 e2.2
              simpa [RSV] using this
          · cases hr
        · cases hr
      · cases hr
    · cases hr

theorem Els.set {m : Nat} {xs : List PV} {vs us : List Value} (h : Els S w m xs vs) {i : Nat} (hi : i < xs.length) {x : PV} (hx : x.cells.length = m) (hu : RVs S w x.cells us) :
    Els S w m (xs.set i x) (vs.take (i * m) ++ (us ++ vs.drop (i * m + m))) := by
  have hul : us.length = m := by rw [← hu.1, hx]
  have him : i * m + m ≤ xs.length * m := by
    have : (i + 1) * m ≤ xs.length * m := Nat.mul_le_mul_right _ hi
    rw [Nat.add_mul] at this; omega
  refine ⟨by rw [List.length_append, List.length_take, List.length_append, List.length_drop, List.length_set, h.1, hul, Nat.min_eq_left (by omega)]; omega, fun k y hy => ?_, fun k y j c u hy hc hu' => ?_⟩
  · rw [List.getElem?_set] at hy
    split at hy
    · cases hy; exact hx
    · exact h.2.1 k y hy
  · rw [List.getElem?_set] at hy
    split at hy
    · rename_i hik
      subst hik
      cases hy
      have hj : j < m := by rw [← hx]; exact (List.getElem?_eq_some_iff.1 hc).1
      have ht : (vs.take (i * m)).length = i * m := by rw [List.length_take, h.1, Nat.min_eq_left (by omega)]
      rw [List.getElem?_append_right (by omega), List.getElem?_append_left (by omega), ht] at hu'
      refine hu.2 j c u hc ?_
      rw [← hu']
      congr 1
      omega
    · rename_i hik
      have hj : j < m := by rw [← h.2.1 k y hy]; exact (List.getElem?_eq_some_iff.1 hc).1
      refine h.2.2 k y j c u hy hc ?_
      have ht : (vs.take (i * m)).length = i * m := by rw [List.length_take, h.1, Nat.min_eq_left (by omega)]
      rcases Nat.lt_or_ge k i with hlt | hge
      · have : k * m + j < i * m := idx_lt hlt hj
        rw [List.getElem?_append_left (by omega), List.getElem?_take, if_pos this] at hu'
        exact hu'
      · have hgt : i < k := by omega
        have : i * m + m ≤ k * m := by
          have : (i + 1) * m ≤ k * m := Nat.mul_le_mul_right _ hgt
          rw [Nat.add_mul] at this; omega
        rw [List.getElem?_append_right (by omega), List.getElem?_append_right (by omega), List.getElem?_drop, ht, hul] at hu'
        rw [← hu']
        congr 1
        omega

theorem fillElems_ok {tk : List (Nat × TypeId)} {d : TD} {S' : Addr → Prop} {w' : World} (hS : ∀ a, S a → S' a) (hw : ∀ a, S a → w'.cell? a = w.cell? a) :
    ∀ (parts : List (Nat × SV)) (vals : List (Nat × Value)) (xs l : List PV) (cells : Array Value), Parts tk G S w parts vals → Els S' w' d.size xs cells.toList → (∀ v ∈ cells.toList, v.oneCell' = true) → fillElems d xs parts = some l →
      ∃ cells', Instr.fill (fun i => some (i * d.size, d.size)) cells vals = some cells' ∧ Els S' w' d.size l cells'.toList ∧ (∀ v ∈ cells'.toList, v.oneCell' = true) ∧ l.length = xs.length
  | [], [], xs, l, cells, _, hc, h1, h => by
    simp only [fillElems, Option.some.injEq] at h
    subst h
    exact ⟨cells, rfl, hc, h1, rfl⟩
  | [], _ :: _, _, _, _, hP, _, _, _ => hP.elim
  | _ :: _, [], _, _, _, hP, _, _, _ => hP.elim
  | (i, s) :: r, (j, v) :: q, xs, l, cells, hP, hc, hone, h => by
    obtain ⟨rfl, hv, hP'⟩ := hP
    simp only [fillElems] at h
    split at h
    · cases h
    · rename_i l1 hl1
      split at h
      · rename_i hle
        obtain ⟨h1, h2, h3, _, h5⟩ := partCells_rel hl1 hv
        have hlt : i * d.size + d.size ≤ cells.size := by
          have : (i + 1) * d.size ≤ xs.length * d.size := Nat.mul_le_mul_right _ hle.1
          rw [Nat.add_mul] at this
          have := hc.1
          simp at this
          omega
        have hset := fill_set (i * d.size) v cells (by omega)
        have hE : Els S' w' d.size (xs.set i (PV.ofCells d l1)) ((v.cells.zipIdx.foldl (fun cs (c, j) => cs.setIfInBounds (i * d.size + j) c) cells).toList) := by
          rw [hset, h1]
          exact hc.set hle.1 (by rw [h5, h3]) (by rw [h5]; exact h2.mono hS hw)
        have hone' : ∀ u ∈ ((v.cells.zipIdx.foldl (fun cs (c, j) => cs.setIfInBounds (i * d.size + j) c) cells).toList), u.oneCell' = true := by
          rw [hset]
          intro u hu
          simp only [List.mem_append] at hu
          rcases hu with hu | hu | hu
          · exact hone u (List.mem_of_mem_take hu)
          · obtain ⟨k, hk⟩ := List.mem_iff_getElem?.1 hu
            have hk' : k < l1.length := by rw [h2.1]; exact (List.getElem?_eq_some_iff.1 hk).1
            exact RV.of_one (h2.2 k _ u (List.getElem?_eq_getElem hk') hk) (List.all_eq_true.1 hle.2 _ (List.getElem_mem hk'))
          · exact hone u (List.mem_of_mem_drop hu)
        obtain ⟨cells', e1, e2, e3, e4⟩ := fillElems_ok hS hw r q _ l _ hP' hE hone' h
        refine ⟨cells', ?_, e2, e3, by rw [e4]; simp⟩
        simp only [Instr.fill, h1]
        rw [if_neg]
        · exact e1
        · simp; omega
      · cases h

theorem ok_buildSlice (hE : EnvOk E) (R : Rel E B S0 w0 st G S w tmps) {t : TypeId} {n : Nat} {parts : List (Nat × SV)} {vals : Array (Nat × Value)} (hP : Parts st.tk G S w parts vals.toList) :
    OpOk E B S0 w0 (opBuildSlice E t n parts st) G S w st.tk tmps (do pure (.value (← Instr.buildSlice t n vals))) := by
  intro r' hr _
  unfold opBuildSlice at hr
  have hk := (hE.td t).k
  split at hr
  · rename_i e hs
    rw [hs] at hk
    split at hr
    · rename_i hz
      obtain ⟨hz1, hz2, hz3⟩ := hz
      split at hr
      · rename_i xs hxs
        cases hr
        obtain ⟨i, z, hi, hsz, hby, hzz, hzc, hone, hcs, _⟩ := hE.cells (t := e) (by omega)
        have hels0 : Els S w (E.T e).size (List.replicate n (PV.ofCells (E.T e) (E.T e).zero)) ((Array.range (n * (E.T e).size)).map (z.cells[· % z.cells.size]!)).toList := Els.zero hE (by omega) hzc hcs n
        obtain ⟨cells', e1, e2, e3, e4⟩ := fillElems_ok (S' := S) (w' := w) (fun _ h => h) (fun _ _ => rfl) parts vals.toList _ xs _ hP hels0 (fun v hv => by
          obtain ⟨j, hj⟩ := List.mem_iff_getElem?.1 hv
          exact zero_one hone _ j (by omega) hj) hxs
        obtain ⟨R1, X1, hcell⟩ := R.newRow e cells'
        have hrun : (Instr.buildSlice t n vals).run E.P w = .ok (.slice (some ⟨w.heap.size, 0, none⟩) n n) (w.alloc (.cells cells' e)) := by
          by_cases h0 : n * (E.T e).size = 0
          · have hn : n = 0 := by
              rcases Nat.eq_zero_or_pos n with h | h
              · exact h
              · exact absurd h0 (Nat.ne_of_gt (Nat.mul_pos h hz2))
            subst hn
            have e0 : ∀ f : Nat → Value, (Array.range 0).map f = #[] := fun f => by simp
            rw [Nat.zero_mul, e0] at e1
            simp only [Instr.buildSlice, Sem.run_bind, run_underlying hk, Result.andThen_ok, run_sizeOf' hi, hsz, Nat.zero_mul, Nat.reducePow, gt_iff_lt, Nat.not_lt_zero, if_false, if_true, Sem.run_pure, e0, e1, Go.newRow, run_newObj]
            rfl
          · have hle : ¬ 16777216 < n * (E.T e).size := by omega
            simp only [Instr.buildSlice, Sem.run_bind, run_underlying hk, Result.andThen_ok, run_sizeOf' hi, hsz, Sem.run_ite, Nat.reducePow, hle, h0, if_false, gt_iff_lt, zeroValue, typeInfo, run_program, hi, Sem.run_pure, hzz, e1, Go.newRow, run_newObj]
            rfl
        have hlen : xs.length = n := by rw [e4]; simp
        refine ⟨_, _, _, by simp only [Sem.run_bind, hrun, Result.andThen_ok, Sem.run_pure]; rfl, .inl rfl, G, _, R1, ?_, X1⟩
        refine ⟨?_, some ⟨w.heap.size, 0, none⟩, by rw [hlen]⟩
        have := RV.of_flat (ad := ⟨w.heap.size, 0, none⟩) (a := some ⟨w.heap.size, 0, none⟩) (cap := n) (fun _ => rfl) (by omega) (by
            have : n * 1 ≤ n * (E.T e).size := Nat.mul_le_mul_left _ hz2
            simp only [maxLen]; omega) (fun j u hu => by
          rw [addr_box, Nat.zero_add, hcell]
          exact ⟨.inr rfl, by rw [← Array.getElem?_toList]; exact hu, e3 u (List.mem_of_getElem? hu)⟩) (e2.mono X1.sub X1.cell)
        rw [hlen] at this
        exact this
      · cases hr
    · cases hr
  · cases hr

end
end Go.Abs
