/-
  The abstract walk is sound: the second part: parts, indexes, slices, numbers.
-/
import Derived.Test.YthofonhkpilifaaAbs3
namespace Go.Abs
open Go.RowKit

section
variable {E : Env} {B : Nat} {S0 : Addr → Prop} {w0 : World} {st : St} {G : Gh} {S : Addr → Prop} {w : World} {tmps : Array Value}

theorem run_isAgg' {t : TypeId} {u : TypeDesc} (hu : E.P.underlying t = some u) (w : World) : (isAgg t).run E.P w = .ok (isAggD u) w := by
  unfold isAgg
  cases u <;> simp [isAggD, run_underlying hu]

theorem ok_field (hE : EnvOk E) (R : Rel E B S0 w0 st G S w tmps) {t : TypeId} {x : SV} {f : Nat} {vx : Value} (hx : RSV st.tk G S w x vx) :
    OpOk E B S0 w0 (opField E t x f st) G S w st.tk tmps (do pure (.value (← Instr.field t vx f))) :=
  OpOk.same R fun r' hr hside => by
    unfold opField at hr
    have hk := (hE.td t).k
    split at hr
    · rename_i fs cs hs
      rw [hs] at hk
      obtain ⟨F, hu, hF⟩ := hk
      obtain ⟨vs, rfl, hl, hv⟩ := RV.agg_iff hx
      split at hr
      · rename_i o ft hf
        have hFf : ∃ fd, F[f]? = some fd ∧ fd.offset = o ∧ fd.type = ft := by
          rw [← hF, List.getElem?_map] at hf
          cases hq : F.toList[f]? with
          | none => simp [hq] at hf
          | some fd => simp [hq] at hf; exact ⟨fd, by simpa using hq, hf.1, hf.2⟩
        obtain ⟨fd, hfd, ho, hft⟩ := hFf
        split at hr
        · rename_i hag
          cases hr
          obtain ⟨i, z, u, hi, hsz, _, _, _, _, _, _, huu, hua⟩ := (hE.td ft).info (.inr hag)
          have hrv := RVs.drop_take ⟨hl, hv⟩ o (E.T ft).size
          refine ⟨rfl, .agg ((vs.drop o).take (E.T ft).size).toArray, ?_, RV.agg _ _ hrv.1 hrv.2⟩
          simp [Instr.field, run_underlying hu, hfd, part, hft, run_isAgg' huu, hua, hag, asAgg, run_sizeOf' hi, hsz, ho]
          try (apply Array.ext'; simp [List.take_drop, Nat.add_comm])
        · rename_i hag
          split at hr
          · rename_i h1
            cases hr
            obtain ⟨i, z, u, hi, hsz, _, _, _, _, _, _, huu, hua⟩ := (hE.td ft).info (.inl (by omega))
            have hside' : o < cs.length := hside
            have hvs : o < vs.length := by omega
            refine ⟨rfl, vs[o], ?_, ?_⟩
            · simp [Instr.field, run_underlying hu, hfd, part, hft, run_isAgg' huu, hua, hag, asAgg, ho, hvs]
            · show RV S w (cs.getD o .any) _
              rw [List.getD_eq_getElem?_getD, List.getElem?_eq_getElem hside']
              exact hv o _ _ (List.getElem?_eq_getElem hside') (List.getElem?_eq_getElem hvs)
          · cases hr
      · cases hr
    · cases hr

/-- A slice, whatever it is to the walk. -/
theorem RSV.elems {tk : List (Nat × TypeId)} {x : SV} {v : Value} {m : Nat} {xs : List PV} (h : RSV tk G S w x v) (he : x.elems = some (m, xs)) : RV S w (.list m xs) v := by
  cases x with
  | undef => cases he
  | val p => cases p <;> simp [SV.elems] at he; obtain ⟨rfl, rfl⟩ := he; exact h
  | lit m' xs' => simp [SV.elems] at he; obtain ⟨rfl, rfl⟩ := he; exact h.1
  | own t m' xs' => simp [SV.elems] at he; obtain ⟨rfl, rfl⟩ := he; exact h.1
  | box id off => cases he
  | msl id off len => cases he
  | clo f caps => cases he
  | rbx id off i m k => cases he
  | mp id => cases he
  | row id off m len cap => cases he

theorem RV.slice_iff {m : Nat} {xs : List PV} {v : Value} (h : RV S w (.list m xs) v) :
    ∃ (a : Option Addr) (ad : Addr) (cap : Nat) (g : Nat → Nat → Value), v = .slice a xs.length cap ∧ (xs ≠ [] → a = some ad) ∧ xs.length ≤ cap ∧ cap ≤ maxLen ∧ (∀ (i : Nat) (x : PV), xs[i]? = some x → x.cells.length = m) ∧
      (∀ (i : Nat) (x : PV) (j : Nat) (c : PV), xs[i]? = some x → x.cells[j]? = some c → S (ad.add (i * m + j)) ∧ w.cell? (ad.add (i * m + j)) = some (g i j) ∧ (g i j).oneCell' = true) ∧
      (∀ (i : Nat) (x : PV) (j : Nat) (c : PV), xs[i]? = some x → x.cells[j]? = some c → RV S w c (g i j)) := by
  cases h with
  | list _ _ a ad cap g ha hcap hmax hm hc hr => exact ⟨a, ad, cap, g, rfl, ha, hcap, hmax, hm, hc, hr⟩

theorem intOfSV_rel {tk : List (Nat × TypeId)} {x : SV} {v : Value} {k : IntKind} {n : Int} (h : RSV tk G S w x v) (hi : intOfSV x = some (k, n)) : v = .int k n := by
  unfold intOfSV at hi
  split at hi
  · cases hi; cases h; rfl
  · cases hi

theorem run_indexAt_slice {t e : TypeId} {i : TypeInfo} (hu : E.P.underlying t = some (.slice e)) (hi : E.P.info? e = some i) (ad : Addr) (len cap : Nat) (k : IntKind) (n : Int) (h0 : 0 ≤ n) (h1 : n < len) :
    (Instr.indexAt t (.slice (some ad) len cap) (.int k n)).run E.P w = .ok (.pointer (some (ad.add (n.toNat * i.size)))) w := by
  simp [Instr.indexAt, asIntOf, run_underlying hu, h0, h1, run_sizeOf' hi]

theorem run_indexAt_array {t e : TypeId} {c : Nat} {i : TypeInfo} (hu : E.P.underlying t = some (.array c e)) (hi : E.P.info? e = some i) (ad : Addr) (k : IntKind) (n : Int) (h0 : 0 ≤ n) (h1 : n < c) :
    (Instr.indexAt t (.pointer (some ad)) (.int k n)).run E.P w = .ok (.pointer (some (ad.add (n.toNat * i.size)))) w := by
  simp [Instr.indexAt, asIntOf, run_underlying hu, h0, h1, run_sizeOf' hi, Instr.sureAddr]

theorem elemSV_rel {tk : List (Nat × TypeId)} {id off i m b : Nat} {v : Value} (hb : G.bx[id]? = some b) (hv : v = .pointer (some ⟨b, off + i * m, none⟩)) : RSV tk G S w (elemSV E id off i m) v := by
  unfold elemSV
  split
  · exact ⟨b, hb, hv⟩
  · exact ⟨b, hb, hv⟩

theorem ok_indexAddr (hE : EnvOk E) (R : Rel E B S0 w0 st G S w tmps) {t : TypeId} {x ix : SV} {vx vi : Value} (hx : RSV st.tk G S w x vx) (hix : RSV st.tk G S w ix vi) :
    OpOk E B S0 w0 (opIndexAddr E t x ix st) G S w st.tk tmps (do pure (.value (← Instr.indexAt t vx vi))) :=
  OpOk.same R fun r' hr hside => by
    unfold opIndexAddr at hr
    split at hr
    · cases hr
    · rename_i k n hin
      cases intOfSV_rel hix hin
      have hk := (hE.td t).k
      split at hr
      · rename_i e hs
        rw [hs] at hk
        split at hr
        · cases hr
        rename_i hz
        obtain ⟨i, z, u, hi, hsz, _⟩ := (hE.td e).info (.inl hz)
        split at hr
        · rename_i id off len
          cases hr
          obtain ⟨b, cap, hb, rfl, hlc, hcm⟩ := hx
          obtain ⟨h0, h1⟩ := hside
          refine ⟨rfl, _, by simp [run_indexAt_slice hk hi _ _ _ _ _ h0 h1]; rfl, elemSV_rel hb ?_⟩
          rw [addr_box, hsz]
        · rename_i id off m len cap
          cases hr
          obtain ⟨b, hb, rfl, hlc, hcm⟩ := hx
          obtain ⟨h0, h1⟩ := hside
          refine ⟨rfl, _, by simp [run_indexAt_slice hk hi _ _ _ _ _ h0 h1]; rfl, elemSV_rel hb ?_⟩
          rw [addr_box, hsz]
        · rename_i x' _ _
          split at hr
          · rename_i m xs hel
            split at hr
            · rename_i hm
              cases hr
              obtain ⟨h0, h1⟩ := hside
              obtain ⟨a, ad, cap, g, rfl, ha, _, _, hmm, hc, hrr⟩ := RV.slice_iff (RSV.elems hx hel)
              have hlt : n.toNat < xs.length := by omega
              have hne : xs ≠ [] := by intro h; subst h; simp at hlt
              obtain rfl := ha hne
              refine ⟨rfl, _, by simp [run_indexAt_slice hk hi _ _ _ _ _ h0 h1]; rfl, ?_⟩
              have hget : xs[n.toNat]? = some (xs.getD n.toNat .any) := by
                rw [List.getD_eq_getElem?_getD, List.getElem?_eq_getElem hlt]; rfl
              exact RV.ptr (S := S) (w := w) (xs.getD n.toNat .any).cells 0 (ad.add (n.toNat * i.size)) (fun j => g n.toNat j)
                (fun j c hj => by
                  have := hc n.toNat _ j c hget hj
                  rw [Addr.add_add', hsz, ← hm]
                  exact this)
                (fun j c hj => hrr n.toNat _ j c hget hj)
            · cases hr
          · cases hr
      · rename_i cnt e hs
        rw [hs] at hk
        split at hr
        · cases hr
        rename_i hz
        obtain ⟨i, z, u, hi, hsz, _⟩ := (hE.td e).info (.inl hz)
        split at hr
        · rename_i cs off
          cases hr
          obtain ⟨h0, h1⟩ := hside
          cases hx with
          | ptr _ _ ad g hc hrr =>
            refine ⟨rfl, _, by simp [run_indexAt_array hk hi _ _ _ h0 h1]; rfl, ?_⟩
            rw [Addr.add_add', hsz]
            exact RV.ptr _ _ ad g hc hrr
        · rename_i id off
          cases hr
          obtain ⟨h0, h1⟩ := hside
          obtain ⟨b, hb, rfl⟩ := hx
          refine ⟨rfl, _, by simp [run_indexAt_array hk hi _ _ _ h0 h1]; rfl, elemSV_rel hb ?_⟩
          rw [addr_box, hsz]
        · cases hr
      · cases hr

theorem ok_index (hE : EnvOk E) (R : Rel E B S0 w0 st G S w tmps) {t : TypeId} {x ix : SV} {vx vi : Value} (hx : RSV st.tk G S w x vx) (hix : RSV st.tk G S w ix vi) :
    OpOk E B S0 w0 (opIndex E t x ix st) G S w st.tk tmps (do pure (.value (← Instr.index t vx vi))) :=
  OpOk.same R fun r' hr hside => by
    unfold opIndex at hr
    split at hr
    · rename_i k n s hin hs
      cases intOfSV_rel hix hin
      have hk := (hE.td t).k
      rw [hs] at hk
      cases hr
      cases hx
      obtain ⟨h0, h1⟩ := hside
      have hlt : n.toNat < s.size := by omega
      refine ⟨rfl, .int .u8 (s[n.toNat]'hlt).toNat, ?_, ?_⟩
      · simp [Instr.index, asIntOf, run_underlying hk, h0, getElem?_pos, hlt]
      · have : s.data.toList.getD n.toNat 0 = s[n.toNat]'hlt := by
          rw [List.getD_eq_getElem?_getD, List.getElem?_eq_getElem (by simpa using hlt)]
          rfl
        show RV S w (.int .u8 ((s.data.toList.getD n.toNat 0).toNat : Nat)) _
        rw [this]
        exact RV.int _ _
    · cases hr

theorem RV.sub {m : Nat} {xs : List PV} {a : Option Addr} {cap l h : Nat} (hR : RV S w (.list m xs) (.slice a xs.length cap)) (hl : l ≤ h) (hh : h ≤ xs.length) :
    RV S w (.list m ((xs.take h).drop l)) (.slice (if cap = l then a else a.map (·.add (l * m))) (h - l) (cap - l)) := by
  obtain ⟨a', ad, cap', g, he, ha, hcap, hmax, hmm, hc, hrr⟩ := RV.slice_iff hR
  injection he with e1 e2 e3
  subst e1
  subst e3
  have hlen : ((xs.take h).drop l).length = h - l := by simp; omega
  have hget : ∀ (i : Nat) (x : PV), ((xs.take h).drop l)[i]? = some x → xs[l + i]? = some x := by
    intro i x hx
    rw [List.getElem?_drop, List.getElem?_take] at hx
    split at hx
    · exact hx
    · cases hx
  have := RV.list (S := S) (w := w) m ((xs.take h).drop l) (if cap = l then a else a.map (·.add (l * m))) (if cap = l then ad else ad.add (l * m)) (cap - l) (fun i j => g (l + i) j)
    (fun hne => by
      have hx : xs ≠ [] := by intro e; subst e; simp at hne
      rw [ha hx]
      split <;> rfl)
    (by rw [hlen]; omega) (by omega)
    (fun i x hx => hmm (l + i) x (hget i x hx))
    (fun i x j c hx hj => by
      have hcap' : ¬ cap = l := by
        intro e
        have : l + i < xs.length := (List.getElem?_eq_some_iff.1 (hget i x hx)).1
        omega
      rw [if_neg hcap', Addr.add_add']
      have := hc (l + i) x j c (hget i x hx) hj
      rw [show l * m + (i * m + j) = (l + i) * m + j by rw [Nat.add_mul]; omega]
      exact this)
    (fun i x j c hx hj => hrr (l + i) x j c (hget i x hx) hj)
  rw [hlen] at this
  exact this

def ORel (tk : List (Nat × TypeId)) (G : Gh) (S : Addr → Prop) (w : World) : Option SV → Option Value → Prop
  | none, none => True
  | some s, some v => RSV tk G S w s v
  | _, _ => False

theorem bound_rel {tk : List (Nat × TypeId)} {o : Option SV} {ov : Option Value} {d n : Int} (h : bound o d = some n)
    (hrel : ORel tk G S w o ov) : (o = none ∧ ov = none ∧ n = d) ∨ ∃ k, ov = some (.int k n) := by
  unfold bound at h
  split at h
  · cases h
    cases ov with
    | none => exact .inl ⟨rfl, rfl, rfl⟩
    | some v => exact hrel.elim
  · cases h
    cases ov with
    | none => exact hrel.elim
    | some v =>
      cases hrel
      exact .inr ⟨_, rfl⟩
  · cases h

theorem run_sliceBound {k : IntKind} {n : Int} {y : Nat} {c : BoundsCode} (h0 : 0 ≤ n) (h1 : n ≤ y) : (Instr.sliceBound (.int k n) y c).run E.P w = .ok n.toNat w := by
  simp [Instr.sliceBound, asIntOf, h0, h1]

theorem run_sliceBounds {isSlice : Bool} {len cap : Nat} {lo hi : Option Value} {l h : Int}
    (hlo : (lo = none ∧ l = 0) ∨ ∃ k, lo = some (.int k l)) (hhi : (hi = none ∧ h = len) ∨ ∃ k, hi = some (.int k h)) (h0 : 0 ≤ l) (h1 : l ≤ h) (h2 : h ≤ len) (h3 : len ≤ cap) :
    (Instr.sliceBounds isSlice len cap lo hi none).run E.P w = .ok (l.toNat, h.toNat, cap) w := by
  have hc : h ≤ (cap : Int) := by omega
  have hn : l ≤ ((h.toNat : Nat) : Int) := by omega
  rcases hlo with ⟨rfl, rfl⟩ | ⟨k, rfl⟩ <;> rcases hhi with ⟨rfl, rfl⟩ | ⟨k', rfl⟩
  · simp [Instr.sliceBounds]
  · simp [Instr.sliceBounds, run_sliceBound (by omega : 0 ≤ h) hc]
  · simp [Instr.sliceBounds, run_sliceBound h0 (by omega : l ≤ ((len : Nat) : Int))]
  · simp [Instr.sliceBounds, run_sliceBound (by omega : 0 ≤ h) hc, run_sliceBound h0 hn]

theorem ok_slice (hE : EnvOk E) (R : Rel E B S0 w0 st G S w tmps) {t : TypeId} {x : SV} {vx : Value} {lo hi mx : Option SV} {vlo vhi vmx : Option Value} (hx : RSV st.tk G S w x vx)
    (hlo : ORel st.tk G S w lo vlo) (hhi : ORel st.tk G S w hi vhi)
    (hmx : mx = none → vmx = none) :
    OpOk E B S0 w0 (opSlice E t x lo hi mx st) G S w st.tk tmps (do pure (.value (← Instr.sliceAt t vx vlo vhi vmx))) :=
  OpOk.same R fun r' hr hside => by
    unfold opSlice at hr
    have hk := (hE.td t).k
    split at hr
    · rename_i e hs
      rw [hs] at hk
      obtain rfl := hmx rfl
      split at hr
      · rename_i m xs hel
        split at hr
        · rename_i hm
          split at hr
          · rename_i l h hl hh
            cases hr
            obtain ⟨h0, h1, h2⟩ := hside
            have hR := RSV.elems hx hel
            obtain ⟨a, ad, cap, g, rfl, ha, hcap, hmax, hmm, hc, hrr⟩ := RV.slice_iff hR
            have b1 : (vlo = none ∧ l = 0) ∨ ∃ k, vlo = some (.int k l) := by
              rcases bound_rel hl hlo with ⟨_, a, b⟩ | h
              · exact .inl ⟨a, b⟩
              · exact .inr h
            have b2 : (vhi = none ∧ h = xs.length) ∨ ∃ k, vhi = some (.int k h) := by
              rcases bound_rel hh hhi with ⟨_, a, b⟩ | h
              · exact .inl ⟨a, b⟩
              · exact .inr h
            have hb := run_sliceBounds (E := E) (w := w) (isSlice := true) b1 b2 h0 h1 h2 hcap
            have hsub := RV.sub (l := l.toNat) (h := h.toNat) hR (by omega) (by omega)
            obtain ⟨i, z, u, hi, hsz, _⟩ := (hE.td e).info (.inl hm.2)
            refine ⟨rfl, _, by simp [Instr.sliceAt, Instr.slice, run_underlying hk, hb, run_sizeOf' hi]; rfl, ?_⟩
            rcases hm.1 with hme | hxs
            · rw [hsz, ← hme]
              exact hsub
            · have hz : xs.length = 0 := by rw [hxs]; rfl
              have hl0 : l = 0 := by omega
              have hh0 : h = 0 := by omega
              rw [hl0, hh0]
              exact RV.list_nil m _ _ (by simpa using hmax)
          · cases hr
        · cases hr
      · cases hr
    · rename_i hs
      rw [hs] at hk
      obtain rfl := hmx rfl
      split at hr
      · rename_i s
        split at hr
        · rename_i l h hl hh
          cases hr
          cases hx
          obtain ⟨h0, h1, h2⟩ := hside
          have b1 : (vlo = none ∧ l = 0) ∨ ∃ k, vlo = some (.int k l) := by
            rcases bound_rel hl hlo with ⟨_, a, b⟩ | h
            · exact .inl ⟨a, b⟩
            · exact .inr h
          have b2 : (vhi = none ∧ h = s.size) ∨ ∃ k, vhi = some (.int k h) := by
            rcases bound_rel hh hhi with ⟨_, a, b⟩ | h
            · exact .inl ⟨a, b⟩
            · exact .inr h
          have hb := run_sliceBounds (E := E) (w := w) (isSlice := false) b1 b2 h0 h1 h2 (Nat.le_refl _)
          exact ⟨rfl, _, by simp [Instr.sliceAt, Instr.slice, run_underlying hk, hb], RV.str _⟩
        · cases hr
      · cases hr
    · cases hr

theorem orel_none {tk : List (Nat × TypeId)} {o : Option SV} {v : Option Value} (h : ORel tk G S w o v) (ho : o = none) : v = none := by
  subst ho
  cases v with
  | none => rfl
  | some v => exact h.elim
theorem orel_int {tk : List (Nat × TypeId)} {o : Option SV} {v : Option Value} {k : IntKind} {n : Int} (h : ORel tk G S w o v) (ho : o = some (.val (.int k n))) : v = some (.int k n) := by
  subst ho
  cases v with
  | none => exact h.elim
  | some v => have h : RV S w (.int k n) v := h; cases h; rfl

theorem ok_sliceRow (hE : EnvOk E) (R : Rel E B S0 w0 st G S w tmps) {t : TypeId} {id off m len cap : Nat} {vx : Value} {lo hi mx : Option SV} {vlo vhi vmx : Option Value} (hx : RSV st.tk G S w (.row id off m len cap) vx)
    (hlo : ORel st.tk G S w lo vlo) (hhi : ORel st.tk G S w hi vhi) (hmx : ORel st.tk G S w mx vmx) :
    OpOk E B S0 w0 (opSliceRow E t id off m len cap lo hi mx st) G S w st.tk tmps (do pure (.value (← Instr.sliceAt t vx vlo vhi vmx))) :=
  OpOk.same R fun r' hr hside => by
    unfold opSliceRow at hr
    have hk := (hE.td t).k
    split at hr
    · rename_i e hs
      rw [hs] at hk
      obtain rfl := orel_none hmx rfl
      split at hr
      · rename_i hm
        obtain ⟨i, z, u, hi, hsz, _⟩ := (hE.td e).info (.inl (by rw [← hm.1]; exact hm.2))
        obtain ⟨b, hb, rfl, hlc, hcm⟩ := hx
        split at hr
        · rename_i h hh
          cases hr
          obtain ⟨_, h0, h1⟩ := hside
          obtain rfl := orel_none hlo rfl
          have b2 : (vhi = none ∧ h = len) ∨ ∃ k, vhi = some (.int k h) := by
            rcases bound_rel hh hhi with ⟨_, a, b⟩ | h
            · exact .inl ⟨a, b⟩
            · exact .inr h
          have hbb := run_sliceBounds (E := E) (w := w) (isSlice := true) (lo := none) (l := 0) (.inl ⟨rfl, rfl⟩) b2 (Int.le_refl _) h0 h1 hlc
          refine ⟨rfl, .slice (some ⟨b, off, none⟩) h.toNat cap, ?_, b, hb, rfl, by omega, hcm⟩
          have hz : ∀ (c : Prop) [Decidable c] (k : Nat), (if c then some (⟨b, off, none⟩ : Addr) else some ((⟨b, off, none⟩ : Addr).add (0 * k))) = some ⟨b, off, none⟩ := by
            intro c _ k; split
            · rfl
            · rw [Nat.zero_mul]; rfl
          simp only [Instr.sliceAt, Instr.slice, Sem.run_bind, run_underlying hk, Result.andThen_ok, hbb, run_sizeOf' hi, Sem.run_pure, Option.map_some, Int.toNat_zero, hz, Nat.sub_zero]
        · rename_i kk l h hh
          cases hr
          obtain ⟨⟨h0, h1, h2⟩, _, h3⟩ := hside
          have e1 := orel_int hlo rfl
          have b2 : (vhi = none ∧ h = len) ∨ ∃ k, vhi = some (.int k h) := by
            rcases bound_rel hh hhi with ⟨_, a, b⟩ | h
            · exact .inl ⟨a, b⟩
            · exact .inr h
          have hbb := run_sliceBounds (E := E) (w := w) (isSlice := true) (lo := vlo) (l := l) (.inr ⟨_, e1⟩) b2 h0 h1 h2 hlc
          refine ⟨rfl, .slice (some ⟨b, off + l.toNat * m, none⟩) (h - l).toNat ((cap : Int) - l).toNat, ?_, b, hb, rfl, by omega, by omega⟩
          have hne : ¬ cap = l.toNat := by omega
          have hsub : h.toNat - l.toNat = (h - l).toNat := by omega
          have hsub2 : cap - l.toNat = ((cap : Int) - l).toNat := by omega
          simp only [Instr.sliceAt, Instr.slice, Sem.run_bind, run_underlying hk, Result.andThen_ok, hbb, run_sizeOf' hi, Sem.run_pure, Option.map_some, hne, if_false, hsz, ← hm.1, addr_box, hsub, hsub2]
        · cases hr
      · cases hr
    · cases hr

theorem ok_sliceArr (hE : EnvOk E) (R : Rel E B S0 w0 st G S w tmps) {t : TypeId} {id off : Nat} {vx : Value} {lo hi mx : Option SV} {vlo vhi vmx : Option Value} (hx : RSV st.tk G S w (.box id off) vx)
    (hlo : ORel st.tk G S w lo vlo) (hhi : ORel st.tk G S w hi vhi) (hmx : ORel st.tk G S w mx vmx) :
    OpOk E B S0 w0 (opSliceArr E t id off lo hi mx st) G S w st.tk tmps (do pure (.value (← Instr.sliceAt t vx vlo vhi vmx))) :=
  OpOk.same R fun r' hr hside => by
    unfold opSliceArr at hr
    have hk := (hE.td t).k
    split at hr
    · rename_i n e hs
      rw [hs] at hk
      · split at hr
        · rename_i hc
          obtain ⟨b, hb, rfl⟩ := hx
          obtain rfl := orel_none hlo rfl
          obtain ⟨i, z, u, hi, hsz, _⟩ := (hE.td e).info (.inl hc.1)
          have fin : ∀ (h m : Int), 0 ≤ h → h ≤ m → m ≤ n → (Instr.sliceBounds false n n none vhi vmx).run E.P w = .ok (0, h.toNat, m.toNat) w →
              ∃ v, (do pure (Next.value (← Instr.sliceAt t (.pointer (some ⟨b, off, none⟩)) none vhi vmx)) : Sem Next).run E.P w = .ok (.value v) w ∧ RSV st.tk G S w (.msl id off h.toNat) v := by
            intro h m h0 h1 h2 hrun
            refine ⟨.slice (some ⟨b, off, none⟩) h.toNat m.toNat, ?_, b, m.toNat, hb, rfl, by omega, by simp only [maxLen]; omega⟩
            have hz : ∀ (c : Prop) [Decidable c] (k : Nat), (if c then (⟨b, off, none⟩ : Addr) else (⟨b, off, none⟩ : Addr).add (0 * k)) = ⟨b, off, none⟩ := by
              intro c _ k; split
              · rfl
              · rw [Nat.zero_mul]; rfl
            simp only [Instr.sliceAt, Sem.run_bind, run_underlying hk, Result.andThen_ok, Instr.sureAddr, Sem.run_pure, hrun, run_sizeOf' hi, hz, Nat.sub_zero]
          split at hr
          · cases hr
            obtain ⟨h0, h1, h2⟩ := hside
            rename_i k h k' m
            have e1 := orel_int hhi rfl
            have e2 := orel_int hmx rfl
            subst e1; subst e2
            refine ⟨rfl, fin h m h0 h1 h2 ?_⟩
            have hm : h ≤ ((m.toNat : Nat) : Int) := by omega
            simp [Instr.sliceBounds, run_sliceBound (by omega : 0 ≤ m) h2, run_sliceBound h0 hm]
          · cases hr
            obtain ⟨h0, h1⟩ := hside
            rename_i k h
            have e1 := orel_int hhi rfl
            have e2 := orel_none hmx rfl
            subst e1; subst e2
            refine ⟨rfl, fin h n h0 h1 (Int.le_refl _) ?_⟩
            simp [Instr.sliceBounds, run_sliceBound h0 h1]
          · cases hr
            have e1 := orel_none hhi rfl
            have e2 := orel_none hmx rfl
            subst e1; subst e2
            have := fin n n (by omega) (Int.le_refl _) (Int.le_refl _) (by simp [Instr.sliceBounds])
            exact ⟨rfl, by simpa using this⟩
          · cases hr
        · cases hr
    · cases hr

end
end Go.Abs
