/-
  The abstract walk is sound, operation by operation: the first part, operations that leave memory alone.
-/
import Derived.Test.YthofonhkpilifaaAbs2
namespace Go.Abs
open Go.RowKit

def isAggD : TypeDesc → Bool
  | .struct _ | .array _ _ => true
  | _ => false

def flatFields (P : Program) (F : TypeId → Option (List SK)) (off : Nat) : List Field → Option (List SK)
  | [] => some []
  | f :: r =>
    if f.name ≠ "_" ∧ f.offset = off then
      match F f.type with
      | none => none
      | some ks => if ks.length = P.cellsOf f.type ∧ ks ≠ [] then (flatFields P F (off + ks.length) r).map (ks ++ ·) else none
    else none

/-- Structs whose fields are, to the bottom, integers, bools and strings: '==' compares their cells. -/
def flatK (P : Program) : Nat → TypeId → Option (List SK)
  | 0, _ => none
  | d + 1, t =>
    match P.underlying t with
    | some .bool => some [.bool]
    | some (.int _) => some [.int]
    | some .string => some [.str]
    | some (.struct fs) => if P.stoodInHeld t then none else flatFields P (flatK P d) 0 fs.toList
    | _ => none

def KOk (P : Program) (t : TypeId) : TK → Prop
  | .int k => P.underlying t = some (.int k)
  | .bool => P.underlying t = some .bool
  | .str => P.underlying t = some .string
  | .slice e => P.underlying t = some (.slice e)
  | .struct fs => ∃ F : Array Field, P.underlying t = some (.struct F) ∧ F.toList.map (fun f => (f.offset, f.type)) = fs
  | .array n e => P.underlying t = some (.array n e)
  | .ptr e => P.underlying t = some (.pointer e)
  | .map k e => P.underlying t = some (.map k e)
  | .func => True
  | .other => True

structure TDOk (P : Program) (T : TypeId → TD) (t : TypeId) : Prop where
  k : KOk P t (T t).k
  info : (T t).size ≠ 0 ∨ (T t).agg = true → ∃ (i : TypeInfo) (z : Value) (u : TypeDesc), P.info? t = some i ∧ i.size = (T t).size ∧ i.bytes = (T t).bytes ∧ i.zero = some z ∧
    z.cells.toList.map constPV = (T t).zero ∧ (∀ v ∈ z.cells.toList, v.oneCell' = true) ∧ z.cells.size = i.size ∧ (if (T t).agg then ∃ cs, z = .agg cs else z.oneCell' = true) ∧ P.underlying t = some u ∧ isAggD u = (T t).agg
  eq : ∀ ks, (T t).eq = some ks → ∃ d, d < 9999 ∧ flatK P d t = some ks ∧ P.eqGuardType P.depth t = false ∧ ∃ fs, P.underlying t = some (.struct fs)

structure EnvOk (E : Env) : Prop where
  td : ∀ t, TDOk E.P E.T t
  mixed : E.P.follows .mixedOrders = true
  yok : YOk E.P E.Y

/-- What ties a state of the abstract walk to the activation as it is. -/
structure Rel (E : Env) (B : Nat) (S0 : Addr → Prop) (w0 : World) (st : St) (G : Gh) (S : Addr → Prop) (w : World) (tmps : Array Value) : Prop where
  inv : Inv E B S0 st.bx st.tk st.ax G S w
  below : Below B w0 w
  len : st.sl.length = tmps.size
  sl : ∀ (t : Nat) (s : SV) (v : Value), st.sl[t]? = some s → tmps[t]? = some v → RSV st.tk G S w s v

section
variable {E : Env} {B : Nat} {S0 : Addr → Prop} {w0 : World} {st : St} {G : Gh} {S : Addr → Prop} {w : World} {tmps : Array Value}

theorem RV.const (v : Value) : RV S w (constPV v) v := by
  unfold constPV
  split
  · exact .int _ _
  · exact .bool _
  · exact .str _
  · have := RV.list (S := S) (w := w) 0 [] none ⟨0, 0, none⟩ 0 (fun _ _ => undef) (by simp) (by simp) (by simp [maxLen]) (by simp) (by simp) (by simp)
    simpa using this
  · exact .any _

theorem RVs.const (vs : List Value) : RVs S w (vs.map constPV) vs :=
  ⟨by simp, fun i p v h1 h2 => by
    rw [List.getElem?_map, h2] at h1
    simp at h1
    subst h1
    exact RV.const v⟩

theorem RV.list_nil (m : Nat) (a : Option Addr) (cap : Nat) (hcap : cap ≤ maxLen) : RV S w (.list m []) (.slice a 0 cap) := by
  have := RV.list (S := S) (w := w) m [] a ⟨0, 0, none⟩ cap (fun _ _ => undef) (by simp) (by simp) hcap (by simp) (by simp) (by simp)
  simpa using this

theorem RSV.const (tk : List (Nat × TypeId)) (v : Value) : RSV tk G S w (ofConst v) v := by
  unfold ofConst
  split
  · exact RV.int _ _
  · exact RV.bool _
  · exact RV.str _
  · exact ⟨RV.list_nil 0 none 0 (by simp [maxLen]), none, rfl⟩
  · rename_i cs
    have := RV.agg (S := S) (w := w) (cs.toList.map constPV) cs.toList (by simp) (RVs.const cs.toList).2
    simpa [RSV] using this
  · exact RV.any _

theorem Rel.val (R : Rel E B S0 w0 st G S w tmps) (x : Operand) (d : List Deferred) : RSV st.tk G S w (valOf st x) (({ tmps := tmps, defers := d } : Act).eval x) := by
  cases x with
  | const v => exact RSV.const _ v
  | global g => exact RV.any _
  | func f =>
    have := RV.fn (S := S) (w := w) f [] [] rfl (by simp)
    simpa [RSV, valOf, Act.eval] using this
  | tmp t =>
    simp only [valOf, Act.eval]
    by_cases ht : t < st.sl.length
    · have ht' : t < tmps.size := by rw [← R.len]; exact ht
      refine R.sl t _ _ ?_ ?_
      · simp [List.getD, ht]
      · simp [ht']
    · have ht' : ¬ t < tmps.size := by rw [← R.len]; exact ht
      simp [List.getD, List.getElem?_eq_none (Nat.le_of_not_lt ht), Array.getD, ht', RSV]

/-- What an operation that is no call has to do. -/
def OpOk (E : Env) (B : Nat) (S0 : Addr → Prop) (w0 : World) (r : Option Res) (G : Gh) (S : Addr → Prop) (w : World) (tk : List (Nat × TypeId)) (tmps : Array Value) (s : Sem Next) : Prop :=
  ∀ r', r = some r' → r'.side → ∃ nx v w', s.run E.P w = .ok nx w' ∧ (nx = .value v ∨ (nx = .skip ∧ v = undef)) ∧
    ∃ G' S', Rel E B S0 w0 r'.st G' S' w' tmps ∧ RSV r'.st.tk G' S' w' r'.v v ∧ Ext tk G S w r'.st.tk G' S' w'

/-- .. one that leaves all as it is. -/
theorem OpOk.same {r : Option Res} {s : Sem Next} (R : Rel E B S0 w0 st G S w tmps)
    (h : ∀ r', r = some r' → r'.side → r'.st = st ∧ ∃ v, s.run E.P w = .ok (.value v) w ∧ RSV st.tk G S w r'.v v) : OpOk E B S0 w0 r G S w st.tk tmps s := by
  intro r' hr hs
  obtain ⟨h1, v, h2, h3⟩ := h r' hr hs
  exact ⟨_, v, w, h2, .inl rfl, G, S, by rw [h1]; exact R, by rw [h1]; exact h3, by rw [h1]; exact Ext.refl _ _ _ _⟩

theorem RV.of_one {p : PV} {v : Value} (h : RV S w p v) (hp : p.one = true) : v.oneCell' = true := by
  cases h <;> simp_all [PV.one, Value.oneCell']

theorem RSV.of_one {tk : List (Nat × TypeId)} {s : SV} {v : Value} (h : RSV tk G S w s v) (hs : s.one = true) : v.oneCell' = true := by
  cases s with
  | undef => cases hs
  | val p => exact RV.of_one h hs
  | lit m xs => obtain ⟨_, a, rfl⟩ := h; rfl
  | own t m xs => obtain ⟨h, _⟩ := h; exact RV.of_one h rfl
  | box id off => obtain ⟨b, _, rfl⟩ := h; rfl
  | msl id off len => obtain ⟨b, cap, _, rfl, _⟩ := h; rfl
  | clo f caps => obtain ⟨vs, rfl, _⟩ := h; rfl
  | rbx id off i m k => obtain ⟨b, _, rfl⟩ := h; rfl
  | mp id => obtain ⟨b, _, rfl⟩ := h; rfl
  | row id off m len cap => obtain ⟨b, _, rfl, _⟩ := h; rfl

theorem ok_move (R : Rel E B S0 w0 st G S w tmps) (x : Operand) (d : List Deferred) :
    OpOk E B S0 w0 (some ⟨True, valOf st x, st⟩) G S w st.tk tmps (pure (.value (({ tmps := tmps, defers := d } : Act).eval x))) :=
  OpOk.same R fun r' hr _ => by cases hr; exact ⟨rfl, _, rfl, R.val x d⟩

theorem ok_pick (R : Rel E B S0 w0 st G S w tmps) {c a b : SV} {vc va vb : Value} (hc : RSV st.tk G S w c vc) (ha : RSV st.tk G S w a va) (hb : RSV st.tk G S w b vb) :
    OpOk E B S0 w0 (opPick c a b st) G S w st.tk tmps (do pure (.value (if ← asBool vc then va else vb))) :=
  OpOk.same R fun r' hr hs => by
    unfold opPick at hr
    split at hr
    · cases hr
      cases hc
      rename_i q
      refine ⟨rfl, if q then va else vb, by simp [asBool], ?_⟩
      cases q
      · exact hb
      · exact ha
    · cases hr

theorem run_sizeOf' {P : Program} {t : TypeId} {i : TypeInfo} (h : P.info? t = some i) (w : World) : (sizeOf t).run P w = .ok i.size w := by
  simp [sizeOf, typeInfo, h]

theorem Addr.add_add' (a : Addr) (i j : Nat) : (a.add i).add j = a.add (i + j) := by
  unfold Addr.add
  by_cases hi : i = 0 <;> by_cases hj : j = 0 <;> simp [hi, hj, Nat.add_assoc]

theorem addr_box (b o n : Nat) : (⟨b, o, none⟩ : Addr).add n = ⟨b, o + n, none⟩ := by
  unfold Addr.add; split <;> simp_all

theorem ok_fieldAddr (hE : EnvOk E) (R : Rel E B S0 w0 st G S w tmps) {s : TypeId} {x : SV} {f : Nat} {vx : Value} (hx : RSV st.tk G S w x vx) :
    OpOk E B S0 w0 (opFieldAddr E s x f st) G S w st.tk tmps (do pure (.value (← Instr.fieldAt s vx f))) :=
  OpOk.same R fun r' hr _ => by
    unfold opFieldAddr at hr
    have hk := (hE.td s).k
    split at hr
    · rename_i fs hs
      rw [hs] at hk
      obtain ⟨F, hu, hF⟩ := hk
      split at hr
      · rename_i o ft hf
        have hFf : ∃ fd, F[f]? = some fd ∧ fd.offset = o ∧ fd.type = ft := by
          rw [← hF, List.getElem?_map] at hf
          cases hq : F.toList[f]? with
          | none => simp [hq] at hf
          | some fd => simp [hq] at hf; exact ⟨fd, by simpa using hq, hf.1, hf.2⟩
        obtain ⟨fd, hfd, ho, hft⟩ := hFf
        split at hr
        · cases hr
        · rename_i hz
          obtain ⟨i, z, u, hi, hsz, _⟩ := (hE.td ft).info (.inl hz)
          have hrun : ∀ a, (Instr.fieldAt s (.pointer (some a)) f).run E.P w = .ok (.pointer (some (a.add o))) w := by
            intro a
            simp [Instr.fieldAt, run_underlying hu, hfd, Instr.sureAddr, fieldPlace, hft, run_sizeOf' hi, hsz, hz, ho]
          split at hr
          · cases hr
            cases hx with
            | ptr cs off ad g hc hrr =>
              refine ⟨rfl, _, by simp [hrun]; rfl, ?_⟩
              rw [Addr.add_add']
              exact RV.ptr _ _ ad g hc hrr
          · cases hr
            obtain ⟨b, hb, rfl⟩ := hx
            refine ⟨rfl, _, by simp [hrun]; rfl, b, hb, ?_⟩
            rw [addr_box]
          · cases hr
            obtain ⟨b, hb, rfl⟩ := hx
            refine ⟨rfl, _, by simp [hrun]; rfl, b, hb, ?_⟩
            rw [addr_box, Nat.add_assoc]
          · cases hr
      · cases hr
    · cases hr

theorem ok_extract (R : Rel E B S0 w0 st G S w tmps) {x : SV} {i : Nat} {vx : Value} (hx : RSV st.tk G S w x vx) :
    OpOk E B S0 w0 (opExtract x i st) G S w st.tk tmps (do pure (.value (← Instr.extract vx i))) :=
  OpOk.same R fun r' hr _ => by
    unfold opExtract at hr
    split at hr
    · rename_i vs
      split at hr
      · rename_i p hp
        cases hr
        obtain ⟨us, rfl, hl, hu⟩ := RV.tup_iff hx
        have hi : i < us.length := by rw [← hl]; exact (List.getElem?_eq_some_iff.1 hp).1
        refine ⟨rfl, us[i], ?_, hu i p _ hp (List.getElem?_eq_getElem hi)⟩
        simp [Instr.extract, hi]
      · cases hr
    · cases hr

theorem ok_un (R : Rel E B S0 w0 st G S w tmps) {op : UnOp} {x : SV} {vx : Value} (hx : RSV st.tk G S w x vx) :
    OpOk E B S0 w0 (opUn op x st) G S w st.tk tmps (do pure (.value (← Op.unary op vx))) :=
  OpOk.same R fun r' hr hside => by
    unfold opUn at hr
    split at hr
    · cases hr
      cases hx
      exact ⟨rfl, _, by simp [Op.unary], RV.bool _⟩
    · cases hr
      cases hx
      rename_i n
      refine ⟨rfl, _, by simp [Op.unary, Op.intArith]; rfl, ?_⟩
      have : IntKind.i64.wrap (-n) = -n := by
        simp only at hside
        rw [IntKind.wrap_i64]
        omega
      rw [this]
      exact RV.int _ _
    · cases hr
      cases hx
      exact ⟨rfl, .int .u64 _, rfl, RV.int _ _⟩
    · cases hr


/-! ### Reading memory -/

theorem RVs.drop_take {cs : List PV} {vs : List Value} (h : RVs S w cs vs) (o n : Nat) : RVs S w ((cs.drop o).take n) ((vs.drop o).take n) :=
  ⟨by simp [h.1], fun i p v h1 h2 => by
    rw [List.getElem?_take] at h1 h2
    split at h1
    · rename_i hlt
      rw [if_pos hlt, List.getElem?_drop] at h2
      rw [List.getElem?_drop] at h1
      exact h.2 _ p v h1 h2
    · cases h1⟩

theorem run_loadVar_agg {t : TypeId} {u : TypeDesc} {i : TypeInfo} (hu : E.P.underlying t = some u) (hag : isAggD u = true) (hi : E.P.info? t = some i) (a : Addr) (cs : List Value) (hl : cs.length = i.size)
    (h : ∀ j v, cs[j]? = some v → w.cell? (a.add j) = some v) : (loadVar t a).run E.P w = .ok (.agg cs.toArray) w := by
  have hg : (isAgg t).run E.P w = .ok true w := by
    unfold isAgg
    cases u <;> simp_all [isAggD, run_underlying hu]
  simp [loadVar, hg, run_sizeOf' hi, ← hl, run_loadCells_list w a cs h]

theorem run_loadVar_one {t : TypeId} {u : TypeDesc} (hu : E.P.underlying t = some u) (hag : isAggD u = false) (a : Addr) (v : Value) (h : w.cell? a = some v) : (loadVar t a).run E.P w = .ok v w := by
  have hg : (isAgg t).run E.P w = .ok false w := by
    unfold isAgg
    cases u <;> simp_all [isAggD, run_underlying hu]
  simp [loadVar, hg, h]

/-- The cells of a still place, as a list. -/
theorem ptr_cells {cs : List PV} {ad : Addr} {g : Nat → Value} (hc : ∀ (j : Nat) (c : PV), cs[j]? = some c → S (ad.add j) ∧ w.cell? (ad.add j) = some (g j) ∧ (g j).oneCell' = true)
    (hr : ∀ (j : Nat) (c : PV), cs[j]? = some c → RV S w c (g j)) (off n : Nat) (hn : off + n ≤ cs.length) :
    ∃ vs : List Value, vs.length = n ∧ (∀ j v, vs[j]? = some v → w.cell? ((ad.add off).add j) = some v) ∧ RVs S w ((cs.drop off).take n) vs := by
  refine ⟨(List.range n).map fun j => g (off + j), by simp, fun j v hv => ?_, by simp; omega, fun j p v h1 h2 => ?_⟩
  · rw [List.getElem?_map] at hv
    by_cases hj : j < n
    · simp [hj] at hv
      subst hv
      rw [Addr.add_add']
      exact (hc (off + j) _ (List.getElem?_eq_getElem (by omega))).2.1
    · simp [hj] at hv
  · rw [List.getElem?_map] at h2
    rw [List.getElem?_take] at h1
    by_cases hj : j < n
    · simp [hj] at h2
      subst h2
      rw [if_pos hj, List.getElem?_drop] at h1
      exact hr _ _ h1
    · simp [hj] at h1

theorem pvsOf_length : ∀ {l : List SV} {ps : List PV}, pvsOf l = some ps → ps.length = l.length
  | [], ps, h => by simp [pvsOf] at h; subst h; rfl
  | s :: r, ps, h => by
    unfold pvsOf at h
    split at h
    · rename_i p q _ hq
      cases h
      simp [pvsOf_length hq]
    · cases h

theorem pvsOf_get : ∀ {l : List SV} {ps : List PV}, pvsOf l = some ps → ∀ (i : Nat) (p : PV), ps[i]? = some p → ∃ s, l[i]? = some s ∧ s.pv = some p
  | [], ps, h, i, p, hp => by simp [pvsOf] at h; subst h; simp at hp
  | s :: r, ps, h, i, p, hp => by
    unfold pvsOf at h
    split at h
    · rename_i q qs h1 h2
      cases h
      cases i with
      | zero => simp at hp; subst hp; exact ⟨s, rfl, h1⟩
      | succ i =>
        obtain ⟨s', a, b⟩ := pvsOf_get h2 i p (by simpa using hp)
        exact ⟨s', by simpa using a, b⟩
    · cases h

theorem RSVs.pvs {tk : List (Nat × TypeId)} {l : List SV} {ps : List PV} {vs : List Value} (h : pvsOf l = some ps) (hl : l.length = vs.length)
    (hr : ∀ (i : Nat) (s : SV) (v : Value), l[i]? = some s → vs[i]? = some v → RSV tk G S w s v) : RVs S w ps vs :=
  ⟨by rw [pvsOf_length h, hl], fun i p v h1 h2 => by
    obtain ⟨s, a, b⟩ := pvsOf_get h i p h1
    exact RSV.pv (hr i s v a h2) b⟩

/-- A variable of the activation's own, as it lies. -/
theorem Inv.read (hI : Inv E B S0 st.bx st.tk st.ax G S w) {id b : Nat} {cs : List SV} (hb : G.bx[id]? = some b) (hc : st.bx.getD id none = some cs) :
    ∃ (t : TypeId) (arr : Array Value), w.heap[b]? = some (.cells arr t (0, 0)) ∧ arr.size = cs.length ∧
      (∀ (j : Nat) (c : SV) (v : Value), cs[j]? = some c → arr[j]? = some v → RSV st.tk G S w c v ∧ v.oneCell' = true) ∧ (∀ j, w.cell? ⟨b, j, none⟩ = arr[j]?) ∧ ∀ a, S a → a.block ≠ b := by
  have h : st.bx[id]? = some (some cs) := by
    rw [List.getD_eq_getElem?_getD] at hc
    cases h : st.bx[id]? with
    | none => simp [h] at hc
    | some x => simp [h] at hc; rw [hc]
  obtain ⟨⟨t, arr, h1, h2, h3⟩, h4⟩ := hI.box id b cs h hb
  exact ⟨t, arr, h1, h2, h3, fun j => by simp [World.cell?, h1], h4⟩

theorem load_same (hE : EnvOk E) (R : Rel E B S0 w0 st G S w tmps) {t : TypeId} {x : SV} {vx : Value} (hx : RSV st.tk G S w x vx) :
    ∀ r', opLoad E t x st = some r' → r'.side → r'.st = st ∧ ∃ v, (do pure (Next.value (← Instr.loadAt t vx)) : Sem Next).run E.P w = .ok (.value v) w ∧ RSV st.tk G S w r'.v v :=
  fun r' hr hside => by
    unfold opLoad at hr
    split at hr
    · rename_i cs off
      cases hx with
      | ptr _ _ ad g hc hrr =>
        split at hr
        · rename_i hag
          cases hr
          obtain ⟨i, z, u, hi, hsz, _, _, _, _, _, _, hu, hua⟩ := (hE.td t).info (.inr hag)
          obtain ⟨vs, hl, hcell, hrv⟩ := ptr_cells hc hrr off (E.T t).size hside
          refine ⟨rfl, _, by simp [Instr.loadAt, Instr.sureAddr, run_loadVar_agg hu (by rw [hua, hag]) hi (ad.add off) vs (by rw [hl, hsz]) hcell]; rfl, ?_⟩
          exact RV.agg _ vs hrv.1 hrv.2
        · rename_i hag
          split at hr
          · rename_i h1
            cases hr
            obtain ⟨i, z, u, hi, hsz, _, _, _, _, _, _, hu, hua⟩ := (hE.td t).info (.inl (by omega))
            have hside' : off < cs.length := hside
            have hcs : cs[off]? = some cs[off] := List.getElem?_eq_getElem hside'
            obtain ⟨_, hcell, _⟩ := hc off _ hcs
            refine ⟨rfl, _, by simp [Instr.loadAt, Instr.sureAddr, run_loadVar_one hu (by rw [hua]; simpa using hag) (ad.add off) _ hcell]; rfl, ?_⟩
            show RV S w (cs.getD off .any) _
            rw [List.getD_eq_getElem?_getD, hcs]
            exact hrr off _ hcs
          · cases hr
    · rename_i id off
      obtain ⟨b, hb, rfl⟩ := hx
      split at hr
      · rename_i cs hcs
        obtain ⟨ty, arr, hh, hl, hrr, hcell, _⟩ := R.inv.read hb hcs
        split at hr
        · rename_i hag
          obtain ⟨i, z, u, hi, hsz, _, _, _, _, _, _, hu, hua⟩ := (hE.td t).info (.inr hag)
          split at hr
          · rename_i l hps
            cases hr
            have hside' : off + (E.T t).size ≤ cs.length := hside
            have hrv : RVs S w l ((arr.toList.drop off).take (E.T t).size) := RSVs.pvs (tk := st.tk) (G := G) hps (by simp [hl]) (fun i s v h1 h2 => by
              rw [List.getElem?_take] at h1 h2
              split at h1
              · rename_i hlt
                rw [if_pos hlt, List.getElem?_drop] at h2
                rw [List.getElem?_drop] at h1
                exact (hrr _ s v h1 (by simpa using h2)).1
              · cases h1)
            refine ⟨rfl, _, by
              simp [Instr.loadAt, Instr.sureAddr, run_loadVar_agg hu (by rw [hua, hag]) hi ⟨b, off, none⟩ ((arr.toList.drop off).take (E.T t).size) (by simp [hl, hsz]; omega) (fun j v hv => by
                rw [addr_box, hcell]
                rw [List.getElem?_take] at hv
                split at hv
                · rw [List.getElem?_drop] at hv; simpa using hv
                · cases hv)]
              rfl, ?_⟩
            exact RV.agg _ _ hrv.1 hrv.2
          · cases hr
        · rename_i hag
          split at hr
          · rename_i h1
            cases hr
            obtain ⟨i, z, u, hi, hsz, _, _, _, _, _, _, hu, hua⟩ := (hE.td t).info (.inl (by omega))
            have hside' : off < cs.length := hside
            have hva : arr[off]? = some arr[off] := Array.getElem?_eq_getElem (by omega)
            refine ⟨rfl, _, by simp [Instr.loadAt, Instr.sureAddr, run_loadVar_one hu (by rw [hua]; simpa using hag) ⟨b, off, none⟩ arr[off] (by rw [hcell]; exact hva)]; rfl, ?_⟩
            rw [List.getD_eq_getElem?_getD, List.getElem?_eq_getElem hside']
            exact (hrr off _ _ (List.getElem?_eq_getElem hside') hva).1
          · cases hr
      · cases hr
    · cases hr

theorem ok_load (hE : EnvOk E) (R : Rel E B S0 w0 st G S w tmps) {t : TypeId} {x : SV} {vx : Value} (hx : RSV st.tk G S w x vx) :
    OpOk E B S0 w0 (opLoad E t x st) G S w st.tk tmps (do pure (.value (← Instr.loadAt t vx))) :=
  OpOk.same R (load_same hE R hx)

end
end Go.Abs
