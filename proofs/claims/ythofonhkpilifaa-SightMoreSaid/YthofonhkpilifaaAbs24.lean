/-
  The abstract walk is sound: append, where what is appended to is a row that may be written to.
-/
import Derived.Test.YthofonhkpilifaaAbs10
namespace Go.Abs
open Go.RowKit

section
variable {E : Env} {B : Nat} {S0 : Addr → Prop} {w0 : World} {st : St} {G : Gh} {S : Addr → Prop} {w : World} {tmps : Array Value}

theorem run_append_at {t ty e e' : TypeId} {i : TypeInfo} (ht : E.P.underlying t = some (.slice e)) (hi : E.P.info? e = some i) {g off sLen sCap : Nat} {cur : Array Value} (hg : w.heap[g]? = some (.cells cur e' (0, 0)))
    {a : Addr} {m c : Nat} {news : List Value} (hl : news.length = m * i.size) (hnews : ∀ (j : Nat) (u : Value), news[j]? = some u → w.cell? (a.add j) = some u) (h1 : ∀ u ∈ news, u.oneCell' = true) (hroom : sLen + m ≤ sCap) (hfit : off + sLen * i.size + news.length ≤ cur.size) :
    (Builtin.append_ #[t, t] ty #[.slice (some ⟨g, off, none⟩) sLen sCap, .slice (some a) m c]).run E.P w =
      .ok (.slice (some ⟨g, off, none⟩) (sLen + m) sCap) (w.setRow g (cur.toList.take (off + sLen * i.size) ++ news ++ cur.toList.drop (off + sLen * i.size + news.length)).toArray) := by
  have hf := run_firstCells_some (P := E.P) w i.size m a m c news hl hnews
  have hst := run_storeCells_at E.P g (off + sLen * i.size) e' news 0 cur w hg (by simpa using hfit) h1
  simp only [Nat.add_zero] at hst
  simp [Builtin.append_, run_underlying ht, sizeOf, typeInfo, hi, Builtin.lenOf, hroom, hf, addr_box, hst]

theorem els_cells {m : Nat} {xs : List PV} {vs : List Value} (h : Els S w m xs vs) : RVs S w (xs.flatMap PV.cells) vs := by
  obtain ⟨h1, h2, h3⟩ := h
  have hm : ∀ x ∈ xs, x.cells.length = m := fun x hx => by
    obtain ⟨i, hi⟩ := List.mem_iff_getElem?.1 hx
    exact h2 i x hi
  have hlen : (xs.flatMap PV.cells).length = xs.length * m := by
    clear h1 h2 h3
    induction xs with
    | nil => simp
    | cons x r ih => rw [List.flatMap_cons, List.length_append, ih (fun y hy => hm y (List.mem_cons_of_mem _ hy)), hm x List.mem_cons_self, List.length_cons, Nat.succ_mul]; omega
  refine ⟨by rw [hlen, h1], fun k c u hc hu => ?_⟩
  have hk : k < xs.length * m := by rw [← hlen]; exact (List.getElem?_eq_some_iff.1 hc).1
  have hm0 : 0 < m := by
    rcases Nat.eq_zero_or_pos m with h | h
    · subst h; simp at hk
    · exact h
  have hi : k / m < xs.length := (Nat.div_lt_iff_lt_mul hm0).2 hk
  have hx : xs[k / m]? = some xs[k / m] := List.getElem?_eq_getElem hi
  have hxl : xs[k / m].cells.length = m := h2 _ _ hx
  have hj : k % m < xs[k / m].cells.length := by rw [hxl]; exact Nat.mod_lt _ hm0
  have hcj : xs[k / m].cells[k % m]? = some xs[k / m].cells[k % m] := List.getElem?_eq_getElem hj
  have hk2 : k / m * m + k % m = k := by rw [Nat.mul_comm]; exact Nat.div_add_mod k m
  have := flat_get hm (k / m) _ (k % m) _ hx hcj
  rw [hk2, hc] at this
  have hce := Option.some.inj this
  refine hce ▸ h3 (k / m) _ (k % m) _ u hx hcj (by rw [hk2]; exact hu)

theorem ok_appR (hE : EnvOk E) (R : Rel E B S0 w0 st G S w tmps) {ts : List TypeId} {xs : List SV} {K : SV → St → Prop} (h : wpAppR E ts xs st K) {vs : List Value} (hl : xs.length = vs.length)
    (hv : ∀ (i : Nat) (s : SV) (v : Value), xs[i]? = some s → vs[i]? = some v → RSV st.tk G S w s v) (ty : TypeId) :
    ∃ v w', (Builtin.append_ ts.toArray ty vs.toArray).run E.P w = .ok v w' ∧ ∃ (sv : SV) (st' : St) (G' : Gh) (S' : Addr → Prop), K sv st' ∧ Rel E B S0 w0 st' G' S' w' tmps ∧ RSV st'.tk G' S' w' sv v ∧ Ext st.tk G S w st'.tk G' S' w' := by
  unfold wpAppR at h
  split at h
  rotate_left
  · exact h.elim
  rename_i t t' s y
  match vs, hl with
  | [vsl, vy], hl0 =>
  clear hl0
  have hs := hv 0 s vsl rfl rfl
  have hy := hv 1 y vy rfl rfl
  split at h
  rotate_left
  · exact h.elim
  rename_i e m' ys hke hye
  have hk := (hE.td t).k
  rw [hke] at hk
  obtain ⟨rfl, rfl, hyne, hsz, hzl, h⟩ := h
  obtain ⟨i, z, hi, hsize, hby, hzz, hzc, hone, hcs, _⟩ := hE.cells (t := e) (by omega)
  obtain ⟨aY, adY, capY, us, rfl, haY, hcY, hmY, hcellY, helsY⟩ := RV.flat (RSV.elems hy hye)
  have honeY : ∀ u ∈ us, u.oneCell' = true := fun u hu => by
    obtain ⟨j, hj⟩ := List.mem_iff_getElem?.1 hu
    exact (hcellY j u hj).2.2
  have haY' := haY hyne
  subst haY'
  have hys : 0 < ys.length := List.length_pos_iff.2 hyne
  have husl : us.length = ys.length * i.size := by rw [hsize]; exact helsY.1
  have hrY := els_cells helsY
  have hYcells : (ys.flatMap PV.cells).length = us.length := hrY.1
  have zone : ∀ (n j : Nat) (v : Value), (Builtin.zeroCells z.cells n)[j]? = some v → v.oneCell' = true := by
    intro n j v hj
    have hm := Array.mem_of_getElem? hj
    simp only [Builtin.zeroCells, Array.mem_map] at hm
    obtain ⟨k, _, rfl⟩ := hm
    have hsz0 : 0 < z.cells.size := by rw [hcs]; exact hsz
    have hlt : k % z.cells.size < z.cells.size := Nat.mod_lt _ hsz0
    rw [getElem!_pos z.cells _ hlt]
    exact hone _ (by simp)
  -- a new row
  have grown : ∀ (olds : List Value) (oc : List SV) (n cap : Nat), olds.length = n * (E.T e).size → oc.length = olds.length → (∀ (j : Nat) (c : SV) (v : Value), oc[j]? = some c → olds[j]? = some v → RSV st.tk G S w c v ∧ v.oneCell' = true) → n + ys.length ≤ cap →
      ∃ G', Rel E B S0 w0 (st.newBx (oc ++ ((ys.flatMap PV.cells).map SV.val ++ List.replicate ((cap - (n + ys.length)) * (E.T e).size) (.val .any)))) G' S (w.drew.alloc (.cells (olds.toArray ++ us.toArray ++ Builtin.zeroCells z.cells (cap - (n + ys.length))) e)) tmps ∧
        Ext st.tk G S w st.tk G' S (w.drew.alloc (.cells (olds.toArray ++ us.toArray ++ Builtin.zeroCells z.cells (cap - (n + ys.length))) e)) ∧ G'.bx[st.bx.length]? = some w.heap.size := by
    intro olds oc n cap ho hoc hrel hcap
    obtain ⟨R1, X1⟩ := R.drew
    obtain ⟨G', R2, X2, b, hb, hp⟩ := R1.newBox e (olds.toArray ++ us.toArray ++ Builtin.zeroCells z.cells (cap - (n + ys.length))) (oc ++ ((ys.flatMap PV.cells).map SV.val ++ List.replicate ((cap - (n + ys.length)) * (E.T e).size) (.val .any)))
      (by simp [size_zeroCells, hcs, hoc, hYcells]; omega) (fun j c v hc hv => by
        rw [← Array.getElem?_toList] at hv
        simp only [Array.toList_append, List.append_assoc] at hv
        by_cases h1 : j < olds.length
        · rw [List.getElem?_append_left (by omega)] at hc
          rw [List.getElem?_append_left h1] at hv
          obtain ⟨q1, q2⟩ := hrel j c v hc hv
          exact ⟨RSV.mono X1 q1, q2⟩
        · rw [List.getElem?_append_right (by omega), hoc] at hc
          rw [List.getElem?_append_right (by omega)] at hv
          generalize j - olds.length = j2 at hc hv
          by_cases h2 : j2 < us.length
          · rw [List.getElem?_append_left (by simp [hYcells]; omega), List.getElem?_map] at hc
            rw [List.getElem?_append_left h2] at hv
            cases hq : (ys.flatMap PV.cells)[j2]? with
            | none => rw [hq] at hc; cases hc
            | some p =>
              rw [hq] at hc
              cases hc
              exact ⟨(hrY.2 j2 p v hq hv).mono (fun _ h => h) (fun a h => X1.cell a h), honeY v (List.mem_of_getElem? hv)⟩
          · rw [List.getElem?_append_right (by simp [hYcells]; omega)] at hc
            rw [List.getElem?_append_right (by omega)] at hv
            have := List.mem_of_getElem? hc
            rw [List.mem_replicate] at this
            obtain ⟨_, rfl⟩ := this
            exact ⟨RV.any v, zone _ _ v (by rw [Array.getElem?_toList] at hv; exact hv)⟩)
    refine ⟨G', R2, X1.trans X2, ?_⟩
    have hb2 : b = w.heap.size := by injection hp with hp; injection hp with hp; injection hp with hp; exact hp.symm
    rw [← hb2]
    exact hb
  have hsmall : ∀ n, (n + ys.length) * ((E.T e).bytes + 1) ≤ 140737488355328 → n + ys.length ≤ 140737488355328 ∧ (n + ys.length) * (E.T e).bytes ≤ 140737488355328 := fun n hn => by
    rw [Nat.mul_add] at hn; omega
  split at h
  · rename_i ms zs
    obtain ⟨hms, hroom, hK⟩ := h
    obtain ⟨hlist, aS, haS⟩ := hs
    obtain ⟨hb1, hb2⟩ := hsmall _ hroom
    obtain ⟨aX, adX, capX, vals, hvx, haX, hcX, hmX, hcellX, helsX⟩ := RV.flat hlist
    rw [haS] at hvx
    injection hvx with e1 _ e3
    subst e1; subst e3
    have helsX' : Els S w (E.T e).size zs vals := by
      rcases hms with h | h
      · rw [← h]; exact helsX
      · subst h
        have : vals = [] := List.eq_nil_of_length_eq_zero (by have := helsX.1; simpa using this)
        subst this
        exact Els.nil _
    have hrX := els_cells helsX'
    have hge := grownCap_ge w (zs.length + ys.length) zs.length e
    have hle := grownCap_le_maxLen w (zs.length + ys.length) zs.length e (by simp only [maxLen]; omega)
    obtain ⟨G', R1, X1, hbx⟩ := grown vals ((zs.flatMap PV.cells).map SV.val) zs.length (grownCap w (zs.length + ys.length) zs.length e) helsX'.1 (by simp [hrX.1]) (fun j c v hc hv => by
      rw [List.getElem?_map] at hc
      cases hq : (zs.flatMap PV.cells)[j]? with
      | none => rw [hq] at hc; cases hc
      | some p => rw [hq] at hc; cases hc; exact ⟨hrX.2 j p v hq hv, (hcellX j v hv).2.2⟩) hge
    have hrun : (Builtin.append_ #[t, t] ty #[.slice aS zs.length zs.length, .slice (some adY) ys.length capY]).run E.P w =
        .ok (.slice (some ⟨w.heap.size, 0, none⟩) (zs.length + ys.length) (grownCap w (zs.length + ys.length) zs.length e))
          (w.drew.alloc (.cells (vals.toArray ++ us.toArray ++ Builtin.zeroCells z.cells (grownCap w (zs.length + ys.length) zs.length e - (zs.length + ys.length))) e)) := by
      by_cases hz : zs = []
      · subst hz
        have hv0 : vals = [] := List.eq_nil_of_length_eq_zero (by have := helsX'.1; simpa using this)
        subst hv0
        cases aS with
        | none =>
          have := run_append_nil (P := E.P) w t ty e i z hk hi hzz adY ys.length capY us husl (fun j v hv => (hcellY j v hv).2.1) hys (by simp at hb1; omega) (by rw [hby]; simp at hb2; omega)
          simpa using this
        | some b =>
          have := run_append_grow (P := E.P) w t ty e i z hk hi hzz b 0 0 [] (by simp) (by simp) adY ys.length capY us husl (fun j v hv => (hcellY j v hv).2.1) (by omega) (by simp at hb1; omega) (by rw [hby]; exact growslice_fits (by omega) (by simpa using hb2))
          simpa using this
      · have := haX hz
        subst this
        exact run_append_grow (P := E.P) w t ty e i z hk hi hzz adX zs.length zs.length vals (by rw [hsize]; exact helsX'.1) (fun j v hv => (hcellX j v hv).2.1) adY ys.length capY us husl (fun j v hv => (hcellY j v hv).2.1) (by omega) (by omega) (by rw [hby]; exact growslice_fits (by omega) hb2)
    refine ⟨_, _, by rw [haS]; exact hrun, _, _, G', S, hK _ hge hle, ?_, ⟨w.heap.size, hbx, rfl, hge, hle⟩, X1⟩
    have e4 : ((zs ++ ys).flatMap PV.cells).map SV.val ++ List.replicate ((grownCap w (zs.length + ys.length) zs.length e - (zs.length + ys.length)) * (E.T e).size) (.val .any) =
        (zs.flatMap PV.cells).map SV.val ++ ((ys.flatMap PV.cells).map SV.val ++ List.replicate ((grownCap w (zs.length + ys.length) zs.length e - (zs.length + ys.length)) * (E.T e).size) (.val .any)) := by simp
    rw [e4]
    exact R1
  · rename_i id off m len cap
    obtain ⟨rfl, hroom, cells, hcells, hfit, hK1, hK2⟩ := h
    obtain ⟨hb1, hb2⟩ := hsmall _ hroom
    obtain ⟨b, hb, rfl, hlc, hcm⟩ := hs
    have hc' := getD_some hcells
    obtain ⟨⟨tb, arr, hh, hasz, har⟩, hSb⟩ := R.inv.box id b cells hc' hb
    have hlm : len * (E.T e).size ≤ cap * (E.T e).size := Nat.mul_le_mul_right _ hlc
    by_cases hin : len + ys.length ≤ cap
    · have hcapm : len * (E.T e).size + ys.length * (E.T e).size ≤ cap * (E.T e).size := by rw [← Nat.add_mul]; exact Nat.mul_le_mul_right _ hin
      have husl' : us.length = ys.length * (E.T e).size := helsY.1
      have hrun := run_append_at (E := E) (w := w) (ty := ty) (off := off) (sLen := len) (sCap := cap) hk hi hh husl (fun j v hv => (hcellY j v hv).2.1) (c := capY) honeY hin (by rw [hsize, hasz]; omega)
      obtain ⟨R1, X1⟩ := R.setBox (arr' := (arr.toList.take (off + len * i.size) ++ us ++ arr.toList.drop (off + len * i.size + us.length)).toArray)
        (cs' := cells.take (off + len * (E.T e).size) ++ ((ys.flatMap PV.cells).map SV.val ++ cells.drop (off + len * (E.T e).size + ys.length * (E.T e).size))) hb hc' hh
        (by simp [hsize, hYcells, husl', hasz]) (fun j c v hc hv => by
          rw [List.getElem?_toArray, List.append_assoc, hsize, husl'] at hv
          have hlt1 : (cells.take (off + len * (E.T e).size)).length = off + len * (E.T e).size := by rw [List.length_take]; omega
          have hlt2 : (arr.toList.take (off + len * (E.T e).size)).length = off + len * (E.T e).size := by rw [List.length_take, Array.length_toList, hasz]; omega
          by_cases h1 : j < off + len * (E.T e).size
          · rw [List.getElem?_append_left (by omega), List.getElem?_take, if_pos h1] at hc
            rw [List.getElem?_append_left (by omega), List.getElem?_take, if_pos h1, Array.getElem?_toList] at hv
            exact har j c v hc hv
          · rw [List.getElem?_append_right (by omega), hlt1] at hc
            rw [List.getElem?_append_right (by omega), hlt2] at hv
            by_cases h2 : j - (off + len * (E.T e).size) < us.length
            · rw [List.getElem?_append_left (by simp [hYcells]; omega), List.getElem?_map] at hc
              rw [List.getElem?_append_left h2] at hv
              cases hq : (ys.flatMap PV.cells)[j - (off + len * (E.T e).size)]? with
              | none => rw [hq] at hc; cases hc
              | some p => rw [hq] at hc; cases hc; exact ⟨hrY.2 _ p v hq hv, honeY v (List.mem_of_getElem? hv)⟩
            · rw [List.getElem?_append_right (by simp [hYcells]; omega), List.getElem?_drop] at hc
              rw [List.getElem?_append_right (by omega), List.getElem?_drop, Array.getElem?_toList] at hv
              simp only [List.length_map, hYcells, husl'] at hc
              rw [husl'] at hv
              exact har _ c v hc hv)
      refine ⟨_, _, hrun, _, _, G, S, hK1 hin, R1, ⟨b, hb, rfl, hin, hcm⟩, X1⟩
    · have hge := grownCap_ge w (len + ys.length) cap e
      have hle := grownCap_le_maxLen w (len + ys.length) cap e (by simp only [maxLen]; omega)
      have hcell : ∀ (j : Nat) (v : Value), ((arr.toList.drop off).take (len * (E.T e).size))[j]? = some v → w.cell? ((⟨b, off, none⟩ : Addr).add j) = some v := fun j v hv => by
        rw [addr_box]
        rw [List.getElem?_take] at hv
        split at hv
        · rw [List.getElem?_drop, Array.getElem?_toList] at hv
          simp [World.cell?, hh, hv]
        · cases hv
      have hol : ((arr.toList.drop off).take (len * (E.T e).size)).length = len * (E.T e).size := by rw [List.length_take, List.length_drop, Array.length_toList, hasz]; omega
      obtain ⟨G', R1, X1, hbx⟩ := grown ((arr.toList.drop off).take (len * (E.T e).size)) ((cells.drop off).take (len * (E.T e).size)) len (grownCap w (len + ys.length) cap e) hol (by rw [hol, List.length_take, List.length_drop]; omega) (fun j c v hc hv => by
        rw [List.getElem?_take] at hc hv
        split at hc
        · rename_i hj
          rw [if_pos hj, List.getElem?_drop, Array.getElem?_toList] at hv
          rw [List.getElem?_drop] at hc
          exact har _ c v hc hv
        · cases hc) hge
      have hrun := run_append_grow (P := E.P) w t ty e i z hk hi hzz ⟨b, off, none⟩ len cap _ (by rw [hsize]; exact hol) hcell adY ys.length capY us husl (fun j v hv => (hcellY j v hv).2.1) (by omega) (by omega) (by rw [hby]; exact growslice_fits (by omega) hb2)
      exact ⟨_, _, hrun, _, _, G', S, hK2 (by omega) _ hge hle, R1, ⟨w.heap.size, hbx, rfl, hge, hle⟩, X1⟩
  · exact h.elim

end
end Go.Abs
