/-
  The abstract walk of a function: what the walk says is what a call does.
-/
import Derived.Test.YthofonhkpilifaaAbs23
namespace Go.Abs
open Go.RowKit

section
variable {E : Env} {B : Nat} {S0 : Addr → Prop} {w0 : World} {st : St} {G : Gh} {S : Addr → Prop} {w : World} {tmps : Array Value} {r : Option Nat} {n : Nat}

def resRun (tmps : Array Value) : ResultVar → Sem Value
  | .tmp t => pure (tmps.getD t undef)
  | .cell a t => do loadVar t (← asAddr (tmps.getD a undef))

theorem results_eq (fn : Func) (tmps : Array Value) : results fn tmps = (do
    let vs ← fn.results.mapM (resRun tmps)
    pure (if h : vs.size = 1 then vs[0] else .tuple vs)) := by
  unfold results
  congr 1

theorem resRun_ok (hE : EnvOk E) (R : Rel E B S0 w0 st G S w tmps) : ∀ (l : List ResultVar) (s : Prop) (ps : List PV), resPV E st l = some (s, ps) → s →
    ∃ vs, (l.mapM (resRun tmps)).run E.P w = .ok vs w ∧ RVs S w ps vs
  | [], s, ps, h, _ => by
    simp only [resPV, Option.some.injEq, Prod.mk.injEq] at h
    obtain ⟨_, rfl⟩ := h
    exact ⟨[], by simp, RVs.nil⟩
  | .tmp t :: rest, s, ps, h, hs => by
    simp only [resPV] at h
    split at h
    · rename_i p s' l hp hl
      simp only [Option.some.injEq, Prod.mk.injEq] at h
      obtain ⟨rfl, rfl⟩ := h
      obtain ⟨vs, h1, h2⟩ := resRun_ok hE R rest s' l hl hs
      refine ⟨tmps.getD t undef :: vs, by simp [List.mapM_cons, resRun, h1], RVs.cons (RSV.pv (rsv_getD R t) hp) h2⟩
    · cases h
  | .cell a ty :: rest, s, ps, h, hs => by
    simp only [resPV] at h
    split at h
    · rename_i x s' l hx hl
      split at h
      · rename_i p hp
        simp only [Option.some.injEq, Prod.mk.injEq] at h
        obtain ⟨rfl, rfl⟩ := h
        obtain ⟨vs, h1, h2⟩ := resRun_ok hE R rest s' l hl hs.2
        have hv := rsv_getD R a
        obtain ⟨_, v, hrun, V'⟩ := load_same hE R (t := ty) hv x hx hs.1
        have hst : x.st = st ∧ ∃ ad, tmps.getD a undef = .pointer (some ad) := by
          generalize tmps.getD a undef = va at hv
          unfold opLoad at hx
          split at hx
          · rename_i cs off hc
            rw [hc] at hv
            cases hv with
            | ptr _ _ ad g _ _ =>
              refine ⟨?_, _, rfl⟩
              split at hx
              · cases hx; rfl
              · split at hx
                · cases hx; rfl
                · cases hx
          · rename_i id off hc
            rw [hc] at hv
            obtain ⟨b, _, rfl⟩ := hv
            refine ⟨?_, _, rfl⟩
            split at hx
            · split at hx
              · split at hx
                · cases hx; rfl
                · cases hx
              · split at hx
                · cases hx; rfl
                · cases hx
            · cases hx
          · cases hx
        obtain ⟨hst, ad, had⟩ := hst
        rw [had] at hrun
        simp only [Instr.loadAt, Instr.sureAddr] at hrun
        have hl : (loadVar ty ad).run E.P w = .ok v w ∧ RV S w p v := by
          refine ⟨?_, RSV.pv V' hp⟩
          cases hlv : (loadVar ty ad).run E.P w with
          | ok u w1 =>
            simp [hlv] at hrun
            obtain ⟨rfl, rfl⟩ := hrun
            rfl
          | halt x w1 =>
            simp [hlv] at hrun
        refine ⟨v :: vs, by simp [List.mapM_cons, resRun, h1, had, asAddr, hl.1], RVs.cons hl.2 h2⟩
      · cases h
    · cases h

theorem results_ok (hE : EnvOk E) (R : Rel E B S0 w0 st G S w tmps) {fn : Func} {p : PV} (h : retOk E fn.results.toList st p) : ∃ v, (results fn tmps).run E.P w = .ok v w ∧ RV S w p v := by
  unfold retOk at h
  split at h
  · rename_i s ps hr
    obtain ⟨hs, rfl⟩ := h
    obtain ⟨vs, h1, h2⟩ := resRun_ok hE R _ s ps hr hs
    rw [results_eq, ← Array.toArray_toList (xs := fn.results), List.mapM_toArray]
    refine ⟨_, by simp [h1]; rfl, ?_⟩
    unfold tupPV
    split
    · rename_i q
      obtain ⟨hl, hg⟩ := h2
      match vs, hl with
      | [v], _ => simpa using hg 0 q v rfl rfl
    · rename_i hne
      have : ¬ vs.length = 1 := by
        intro he
        rw [← h2.1] at he
        match ps, he with
        | [q], _ => exact hne q rfl
      simp only [this, dite_false]
      exact RV.tup _ _ h2.1 h2.2
  · exact h.elim

theorem args_rel {tk : List (Nat × TypeId)} {svs : List SV} {vs : List Value} (k : Nat) (hl : svs.length = vs.length)
    (h : ∀ (i : Nat) (s : SV) (v : Value), svs[i]? = some s → vs[i]? = some v → RSV tk G S w s v) :
    (svs ++ List.replicate k SV.undef).length = (vs.toArray ++ Array.replicate k undef).size ∧ ∀ (t : Nat) (s : SV) (v : Value), (svs ++ List.replicate k SV.undef)[t]? = some s → (vs.toArray ++ Array.replicate k undef)[t]? = some v → RSV tk G S w s v := by
  refine ⟨by simp [hl], fun t s v h1 h2 => ?_⟩
  rw [← Array.getElem?_toList] at h2
  simp only [Array.toList_append, Array.toList_replicate] at h2
  by_cases ht : t < svs.length
  · rw [List.getElem?_append_left ht] at h1
    rw [List.getElem?_append_left (by rw [← hl]; exact ht)] at h2
    exact h t s v h1 h2
  · rw [List.getElem?_append_right (by omega)] at h1
    rw [List.getElem?_append_right (by rw [← hl]; omega)] at h2
    have := List.mem_of_getElem? h1
    rw [List.mem_replicate] at this
    have := List.mem_of_getElem? h2
    rw [List.mem_replicate] at this
    simp_all [RSV]

theorem vals_rel {tk : List (Nat × TypeId)} {args : List PV} {vs : List Value} (h : RVs S w args vs) (i : Nat) (s : SV) (v : Value) (h1 : (args.map SV.val)[i]? = some s) (h2 : vs[i]? = some v) : RSV tk G S w s v := by
  rw [List.getElem?_map] at h1
  cases ha : args[i]? with
  | none => rw [ha] at h1; cases h1
  | some p => rw [ha] at h1; cases h1; exact h.2 i p v ha h2

theorem Rel.start (hY : E.Y = .none) (S : Addr → Prop) (w : World) (args : List PV) (vs : List Value) (k : Nat) (hS : ∀ a, S a → a.block < w.heap.size) (h : RVs S w args vs) :
    Rel E w.heap.size S w ⟨args.map .val ++ List.replicate k .undef, [], [], ⟨[], 0⟩⟩ ⟨[], [], [], fun _ => False⟩ S w (vs.toArray ++ Array.replicate k undef) := by
  obtain ⟨a, b⟩ := args_rel (G := ⟨[], [], [], fun _ => False⟩) (S := S) (w := w) (tk := []) (svs := args.map SV.val) (vs := vs) k (by simp [h.1]) (vals_rel h)
  exact ⟨⟨Nat.le_refl _, fun a ha => .inl ha, hS, rfl, rfl, fun i b hb => by simp at hb, fun i j b hb => by simp at hb, fun id b cs hb => by simp at hb, fun t n e hv ht => by simp at ht, fun t t' n n' c c' g _ ht => by simp at ht,
    rfl, fun i j b hb => by simp at hb, fun i b hb => by simp at hb, fun i b c hb => by simp at hb, fun b hb => hb.elim, fun i b hb => by simp at hb, fun t n c g hb => by simp at hb, fun i b hb => by simp at hb, ⟨by rw [hY]; trivial, fun h => absurd (by rw [hY]; rfl) h⟩⟩, Below.refl _ _, a, b⟩

/-- .. of a function that is ranged over. -/
theorem Rel.startY (F : Nat → Prop) (S : Addr → Prop) (w : World) (args : List PV) (vs : List Value) (k : Nat) (hF : ∀ b, F b → b < w.heap.size) (hS : ∀ a, S a → a.block < w.heap.size) (h : RVs S w args vs) (hJ : E.Y.J 0 F S w) :
    Rel E 0 S w ⟨args.map .val ++ List.replicate k .undef, [], [], ⟨[], 0⟩⟩ ⟨[], [], [], F⟩ S w (vs.toArray ++ Array.replicate k undef) := by
  obtain ⟨a, b⟩ := args_rel (G := ⟨[], [], [], F⟩) (S := S) (w := w) (tk := []) (svs := args.map SV.val) (vs := vs) k (by simp [h.1]) (vals_rel h)
  exact ⟨⟨Nat.zero_le _, fun a ha => .inl ha, hS, rfl, rfl, fun i b hb => by simp at hb, fun i j b hb => by simp at hb, fun id b cs hb => by simp at hb, fun t n e hv ht => by simp at ht, fun t t' n n' c c' g _ ht => by simp at ht,
    rfl, fun i j b hb => by simp at hb, fun i b hb => by simp at hb, fun i b c hb => by simp at hb, hF, fun i b hb => by simp at hb, fun t n c g hb => by simp at hb, fun i b hb => by simp at hb, ⟨hJ, fun _ => rfl⟩⟩, Below.refl _ _, a, b⟩

/-- What is left undone where a function ends: nothing but marks. -/
theorem leaves_ok {P : Program} {fn : Func} {Rp : Ending → World → Prop} {tk0 : List (Nat × TypeId)} {G0 : Gh} {S1 : Addr → Prop} {w1 : World} {b0 : Nat} (hB : B ≤ b0) (h1 : w1.heap.size ≤ b0) : ∀ (Ds : List Nat) (w : World), Ds.Nodup →
    (∀ D ∈ Ds, w.heap[D]? = some (.deferred (some [])) ∧ ¬ Foot G D ∧ b0 ≤ D) → Rel E B S0 w0 st G S w tmps → Ext tk0 G0 S1 w1 st.tk G S w →
    (∀ w', Rel E B S0 w0 st G S w' tmps → Ext tk0 G0 S1 w1 st.tk G S w' → LeavesIn Fence.wide n P fn tmps Rp [] .returning w') →
    LeavesInM Fence.wide n P fn tmps Rp (Ds.map fun D => ({ target := .collected D, args := #[] } : Deferred)) .returning w
  | [], w, _, _, R, X, h => h w R X
  | D :: Ds, w, hnd, hD, R, X, h => by
    obtain ⟨q1, q2, q3⟩ := hD D List.mem_cons_self
    have R' := R.putRec (o' := .deferred none) q1 rfl rfl q2 (by omega)
    have X' := X.putRec (o' := .deferred none) q1 rfl rfl R.inv.slt (by omega)
    have hnd' := List.nodup_cons.1 hnd
    exact ⟨by simp, .inl ⟨D, _, rfl, run_takeDeferred q1, leaves_ok hB h1 Ds _ hnd'.2 (fun D' hD' => ⟨(World.putObj_heap_other (fun e => hnd'.1 (by rw [← e]; exact hD'))).trans (hD D' (List.mem_cons_of_mem _ hD')).1, (hD D' (List.mem_cons_of_mem _ hD')).2⟩) R' X' h⟩⟩

/-- Trees that some memory bears. -/
def Real (args : List PV) : Prop := ∃ (S : Addr → Prop) (w : World) (vs : List Value), (∀ a, S a → a.block < w.heap.size) ∧ RVs S w args vs

theorem Real.mem {args : List PV} (h : Real args) {p : PV} (hp : p ∈ args) : Real [p] := by
  obtain ⟨S, w, vs, hS, hl, hv⟩ := h
  obtain ⟨i, hi⟩ := List.getElem?_of_mem hp
  have hlt : i < vs.length := by rw [← hl]; exact (List.getElem?_eq_some_iff.1 hi).1
  exact ⟨S, w, [vs[i]], hS, RVs.cons (hv i p _ hi (List.getElem?_eq_getElem hlt)) RVs.nil⟩

theorem Real.len {m : Nat} {xs : List PV} (h : Real [.list m xs]) : xs.length ≤ 9223372036854775807 := by
  obtain ⟨S, w, vs, hS, hl, hv⟩ := h
  match vs, hl with
  | [v], _ =>
    have hr := hv 0 _ v rfl rfl
    obtain ⟨a, ad, cap, g, rfl, _, h1, h2, _⟩ := RV.slice_iff hr
    have : maxLen = 9223372036854775807 := rfl
    omega

theorem Real.elem {m : Nat} {xs : List PV} (h : Real [.list m xs]) {x : PV} (hx : x ∈ xs) {c : PV} (hc : c ∈ x.cells) : Real [c] := by
  obtain ⟨S, w, vs, hS, hl, hv⟩ := h
  match vs, hl with
  | [v], _ =>
    have hr := hv 0 _ v rfl rfl
    obtain ⟨i, hi⟩ := List.getElem?_of_mem hx
    obtain ⟨j, hj⟩ := List.getElem?_of_mem hc
    cases hr with
    | list _ _ a ad cap g ha hcap hmax hm hcc hrr => exact ⟨S, w, [g i j], hS, RVs.cons (hrr i x j c hi hj) RVs.nil⟩

theorem Real.cell {cs : List PV} (h : Real [.agg cs]) {c : PV} (hc : c ∈ cs) : Real [c] := by
  obtain ⟨S, w, vs, hS, hl, hv⟩ := h
  match vs, hl with
  | [v], _ =>
    have hr := hv 0 _ v rfl rfl
    obtain ⟨us, rfl, h1, h2⟩ := RV.agg_iff hr
    obtain ⟨j, hj⟩ := List.getElem?_of_mem hc
    have hlt : j < us.length := by rw [← h1]; exact (List.getElem?_eq_some_iff.1 hj).1
    exact ⟨S, w, [us[j]], hS, RVs.cons (h2 j c _ hj (List.getElem?_eq_getElem hlt)) RVs.nil⟩

/-- What a call returns is borne by some memory, too. -/
theorem CallsPV.real {P : Program} {f : FuncId} {args : List PV} {r : PV} (h : CallsPV P f args r) (ha : Real args) : Real (r :: args) := by
  obtain ⟨S, w, vs, hS, hv⟩ := ha
  obtain ⟨e, w', fr, ⟨v, _, hb, hr⟩, _⟩ := h.2 S w vs hS hv []
  exact ⟨Snew S w w', w', v :: vs, fun a ha => by
    rcases ha with ha | ha
    · exact Nat.lt_of_lt_of_le (hS a ha) hb.size
    · exact ha.2, RVs.cons hr (hv.mono (fun a ha => .inl ha) (fun a ha => hb.cell (hS a ha)))⟩

/-- What is asked where a function ends; of one that writes to rows: once they have turned still. -/
def retFz (E : Env) (rs : List ResultVar) (st : St) (p : PV) : Prop :=
  match E.rows with
  | false => retOk E rs st p
  | true => ∃ st', Frz st [] st' [] ∧ retOk E rs st' p

/-- What every way of leaving a body comes to. -/
theorem body_ok {Q : AX → St → Prop} {tk0 : List (Nat × TypeId)} {G0 : Gh} {S1 : Addr → Prop} {w1 : World} {b0 : Nat} {fn : Func} {Rp : Ending → World → Prop} (hB : B ≤ b0) (h1 : w1.heap.size ≤ b0) {e : Exit} {a : Act} (hq : LQ E B S0 w0 tk0 G0 S1 w1 b0 none [] Q e a w)
    (hx : ∀ i st, ¬ Q (.exit i) st) (h : ∀ (e : AX) (st : St) (G : Gh) (S : Addr → Prop) (w : World), Q e st → Rel E B S0 w0 st G S w a.tmps → Ext tk0 G0 S1 w1 st.tk G S w → ∃ v, (results fn a.tmps).run E.P w = .ok v w ∧ Rp (.returned v) w) :
    bodyPostM Fence.wide n E.P fn Rp e a w := by
  have go : ∀ (e : AX) (st : St) (G : Gh) (S : Addr → Prop), Q e st → Rel E B S0 w0 st G S w a.tmps → Ext tk0 G0 S1 w1 st.tk G S w → Put b0 none [] a.defers G w → LeavesInM Fence.wide n E.P fn a.tmps Rp a.defers .returning w := by
    intro e st G S hk R X ⟨⟨Ds, d1, d2, d3⟩, _, _⟩
    rw [d1, List.append_nil]
    exact leaves_ok hB h1 Ds w d2 d3 R X fun w' R' X' => h e st G S w' hk R' X'
  cases e with
  | normal => obtain ⟨st, G, S, hk, R', X', P'⟩ := hq; exact go .normal st G S hk R' X' P'
  | ret => obtain ⟨st, G, S, hk, R', X', P'⟩ := hq; exact go .ret st G S hk R' X' P'
  | exit id => obtain ⟨st, G, S, hk, _⟩ := hq; exact (hx id st hk).elim
  | goto l => exact hq.elim
  | panic ch => exact hq.elim
  | outgrown => exact hq.elim

/-- WHAT THE WALK OF A BODY SAYS IS WHAT A CALL DOES. -/
theorem callsPV_of (hE : EnvOk E) (hY : E.Y = .none) {f : FuncId} {fn : Func} {c : Code} (hf : E.P.funcs[f]? = some fn) (hb : fn.body = some c) (he : Enters E.P f) {args : List PV} {p : PV}
    (h : Real args → wpC E c (0, 0) ⟨args.map .val ++ List.replicate (fn.ntmps - args.length) .undef, [], [], ⟨[], 0⟩⟩ fun e st => match e with | .exit _ => False | _ => retFz E fn.results.toList st p) : CallsPV E.P f args p := by
  refine ⟨he, fun S w vs hS hv => ?_⟩
  rw [← callsIn_wide (n := 0)]
  refine callsIn_of_wp_marks hf hb trivial ?_ rfl
  have R := Rel.start (E := E) hY S w args vs (fn.ntmps - args.length) hS hv
  have hlen : vs.toArray.size = args.length := by simp [hv.1]
  rw [hlen]
  have hw := wpC_ok hE c (0, 0) w.heap.size none 0 w.heap.size S w [] _ _ S w (by simp) (by simp) _ _ _ S w _ [] (h ⟨S, w, vs, hS, hv⟩) R (Ext.refl _ _ _ _) ⟨⟨[], rfl, List.nodup_nil, by simp⟩, fun x hx => (by cases hx), Nat.le_refl _⟩
  refine wpIn_mono hw fun e a' w' hq => body_ok (Nat.le_refl _) (Nat.le_refl _) hq (fun i st h => h) ?_
  intro e st G S' w' hr R' _
  have fin0 : ∀ (st : St) (G : Gh) (S' : Addr → Prop), retOk E fn.results.toList st p → Rel E w.heap.size S w st G S' w' a'.tmps →
      ∃ v, (results fn a'.tmps).run E.P w' = .ok v w' ∧ ∃ v', Ending.returned v = .returned v' ∧ Below w.heap.size w w' ∧ RV (Snew S w w') w' p v' := by
    intro st G S' hr R'
    obtain ⟨v, h1, h2⟩ := results_ok hE R' hr
    refine ⟨v, h1, v, rfl, R'.below, RV.mono (fun a ha => ?_) (fun _ _ => rfl) h2⟩
    rcases R'.inv.s0 a ha with h | h
    · exact .inl h
    · exact .inr ⟨h, R'.inv.slt a ha⟩
  have hr' : retFz E fn.results.toList st p := by cases e <;> first | exact hr | exact hr.elim
  unfold retFz at hr'
  split at hr'
  · exact fin0 st G S' hr' R'
  · obtain ⟨st', hF, hr'⟩ := hr'
    obtain ⟨S2, R2, _, _, _⟩ := hF.ok (vs := []) R' (fun i s v h => by simp at h)
    exact fin0 st' G S2 hr' R2

/-- What is asked where a function ends that shares the caller's variables. -/
def retSt (E : Env) (nb : Nat × Nat) (rs : List ResultVar) (st : St) (p : PV) (bx' : List (Option (List SV))) (tk' : List (Nat × TypeId)) (ax' : Ax) : Prop :=
  ∃ st', Wk nb st st' ∧ st'.bx = bx' ∧ st'.tk = tk' ∧ st'.ax = ax' ∧ retOk E rs st' p

/-- .. of a function that shares the caller's variables. -/
theorem callsSt_of (hE : EnvOk E) {f : FuncId} {fn : Func} {c : Code} (hf : E.P.funcs[f]? = some fn) (hb : fn.body = some c) (he : Enters E.P f) {svs : List SV} {bx bx' : List (Option (List SV))} {tk tk' : List (Nat × TypeId)} {ax ax' : Ax} {p : PV}
    (h : wpC E c (bx.length, ax.mp.length) ⟨svs ++ List.replicate (fn.ntmps - svs.length) .undef, bx, tk, ax⟩ fun e st => match e with | .exit _ => False | _ => retSt E (bx.length, ax.mp.length) fn.results.toList st p bx' tk' ax') : CallsSt E f svs bx tk ax (.val p) bx' tk' ax' := by
  refine ⟨he, fun B S0 w0 G S w vs hI hbel hl hv => ?_⟩
  rw [← callsIn_wide (n := 0)]
  refine callsIn_of_wp_marks hf hb trivial ?_ rfl
  obtain ⟨q1, q2⟩ := args_rel (fn.ntmps - svs.length) hl hv
  have R : Rel E B S0 w0 ⟨svs ++ List.replicate (fn.ntmps - svs.length) .undef, bx, tk, ax⟩ G S w (vs.toArray ++ Array.replicate (fn.ntmps - svs.length) undef) := ⟨hI, hbel, q1, q2⟩
  have hlen : vs.toArray.size = svs.length := by simp [hl]
  rw [hlen]
  have hw := wpC_ok hE c (bx.length, ax.mp.length) w.heap.size none 0 B S0 w0 [] tk G S w (Nat.le_of_eq hI.lbx) (Nat.le_of_eq hI.lmp) _ _ G S w _ [] h R (Ext.refl _ _ _ _) ⟨⟨[], rfl, List.nodup_nil, by simp⟩, fun x hx => (by cases hx), Nat.le_refl _⟩
  refine wpIn_mono hw fun e a' w' hq => body_ok hI.base (Nat.le_refl _) hq (fun i st h => h) ?_
  intro e st G2 S' w' hr R' X'
  have hr' : retSt E (bx.length, ax.mp.length) fn.results.toList st p bx' tk' ax' := by cases e <;> first | exact hr | exact hr.elim
  obtain ⟨st', hwk, rfl, rfl, rfl, hr'⟩ := hr'
  obtain ⟨G3, R3, X3, _⟩ := R'.wk (Nat.le_of_eq hI.lbx) (Nat.le_of_eq hI.lmp) hwk X'
  obtain ⟨v, h1, h2⟩ := results_ok hE R3 hr'
  exact ⟨v, h1, v, G3, S', rfl, R3.inv, R3.below, X3, h2⟩

/-- What a function hands back: a value, or what leads to its own things. -/
def resSV (E : Env) (rs : List ResultVar) (st : St) (r : SV) : Prop := (∃ p, r = .val p ∧ retOk E rs st p) ∨ ∃ t, rs = [.tmp t] ∧ r = st.sl.getD t .undef

/-- What is asked where a function ends of which 'Q' is said. -/
def retR (E : Env) (nb : Nat × Nat) (rs : List ResultVar) (st : St) (Q : SV → List (Option (List SV)) → List (Nat × TypeId) → Ax → Prop) : Prop :=
  ∃ st' r, Wk nb st st' ∧ resSV E rs st' r ∧ Q r st'.bx st'.tk st'.ax

theorem callsR_of (hE : EnvOk E) {f : FuncId} {fn : Func} {c : Code} (hf : E.P.funcs[f]? = some fn) (hb : fn.body = some c) (he : Enters E.P f) {svs : List SV} {bx : List (Option (List SV))} {tk : List (Nat × TypeId)} {ax : Ax} {Q : SV → List (Option (List SV)) → List (Nat × TypeId) → Ax → Prop}
    (h : wpC E c (bx.length, ax.mp.length) ⟨svs ++ List.replicate (fn.ntmps - svs.length) .undef, bx, tk, ax⟩ fun e st => match e with | .exit _ => False | _ => retR E (bx.length, ax.mp.length) fn.results.toList st Q) : CallsR E f svs bx tk ax Q := by
  refine ⟨he, fun B S0 w0 G S w vs hI hbel hl hv => ?_⟩
  rw [← callsIn_wide (n := 0)]
  refine callsIn_of_wp_marks hf hb trivial ?_ rfl
  obtain ⟨q1, q2⟩ := args_rel (fn.ntmps - svs.length) hl hv
  have R : Rel E B S0 w0 ⟨svs ++ List.replicate (fn.ntmps - svs.length) .undef, bx, tk, ax⟩ G S w (vs.toArray ++ Array.replicate (fn.ntmps - svs.length) undef) := ⟨hI, hbel, q1, q2⟩
  have hlen : vs.toArray.size = svs.length := by simp [hl]
  rw [hlen]
  have hw := wpC_ok hE c (bx.length, ax.mp.length) w.heap.size none 0 B S0 w0 [] tk G S w (Nat.le_of_eq hI.lbx) (Nat.le_of_eq hI.lmp) _ _ G S w _ [] h R (Ext.refl _ _ _ _) ⟨⟨[], rfl, List.nodup_nil, by simp⟩, fun x hx => (by cases hx), Nat.le_refl _⟩
  refine wpIn_mono hw fun e a' w' hq => body_ok hI.base (Nat.le_refl _) hq (fun i st h => h) ?_
  intro e st G2 S' w' hr R' X'
  have hr' : retR E (bx.length, ax.mp.length) fn.results.toList st Q := by cases e <;> first | exact hr | exact hr.elim
  obtain ⟨st', rv, hwk, hres, hQ⟩ := hr'
  obtain ⟨G3, R3, X3, _⟩ := R'.wk (Nat.le_of_eq hI.lbx) (Nat.le_of_eq hI.lmp) hwk X'
  rcases hres with ⟨p, rfl, hr'⟩ | ⟨t, hrs, rfl⟩
  · obtain ⟨v, h1, h2⟩ := results_ok hE R3 hr'
    exact ⟨v, h1, v, _, st'.bx, st'.tk, st'.ax, G3, S', hQ, rfl, R3.inv, R3.below, X3, h2⟩
  · refine ⟨a'.tmps.getD t undef, ?_, _, _, st'.bx, st'.tk, st'.ax, G3, S', hQ, rfl, R3.inv, R3.below, X3, rsv_getD R3 t⟩
    rw [results_eq, ← Array.toArray_toList (xs := fn.results), List.mapM_toArray, hrs]
    simp [resRun]

/-- .. of a function that is ranged over. -/
theorem seqPV_of {P : Program} {T : TypeId → TD} {clo : FuncId → Bool} {rows : Bool} (hE : EnvOk ⟨P, T, clo, rows, .none⟩) {f : FuncId} {fn : Func} {c : Code} (hf : P.funcs[f]? = some fn) (hb : fn.body = some c) (he : Enters P f) (hr : fn.results = #[]) {caps : List PV} {xs : List (List PV)}
    (h : ∀ Y : YS, Y.ys = xs → Real caps → wpC ⟨P, T, clo, rows, Y⟩ c (0, 0) ⟨(PV.yld Y.l :: caps).map .val ++ List.replicate (fn.ntmps - (caps.length + 1)) .undef, [], [], ⟨[], 0⟩⟩ fun e st => match e with | .exit _ => False | _ => st.ax.yk = xs.length ∨ st.ax.yk = xs.length + 1) : SeqPV P f caps xs := by
  refine ⟨he, fun Y r n F S w vs hY hYok hJ hF hS hv => ?_⟩
  have hE' : EnvOk ⟨P, T, clo, rows, Y⟩ := ⟨hE.td, hE.mixed, hYok⟩
  show CallsIn (Fence.wide) n P f _ w _
  refine callsIn_of_wp_marks hf hb trivial ?_ rfl
  have hv' : RVs S w (PV.yld Y.l :: caps) (.func (.yield Y.l) #[] #[] :: vs) := RVs.cons (.yld _) hv
  have R := Rel.startY (E := ⟨P, T, clo, rows, Y⟩) F S w (PV.yld Y.l :: caps) _ (fn.ntmps - (caps.length + 1)) hF hS hv' hJ
  have hlen : (#[Value.func (.yield Y.l) #[] #[]] ++ vs.toArray).size = caps.length + 1 := by simp [hv.1, Nat.add_comm]
  have harr : #[Value.func (.yield Y.l) #[] #[]] ++ vs.toArray = (Value.func (.yield Y.l) #[] #[] :: vs).toArray := by simp
  rw [hlen, harr]
  have hw := wpC_ok hE' c (0, 0) w.heap.size none n 0 S w [] _ _ S w (by simp) (by simp) _ _ _ S w _ [] (h Y hY ⟨S, w, vs, hS, hv⟩) R (Ext.refl _ _ _ _) ⟨⟨[], rfl, List.nodup_nil, by simp⟩, fun x hx => (by cases hx), Nat.le_refl _⟩
  refine wpIn_mono hw fun e a' w' hq => body_ok (Nat.zero_le _) (Nat.le_refl _) hq (fun i st h => h) ?_
  intro e st G S' w' hr' R' X'
  have hr2 : st.ax.yk = xs.length ∨ st.ax.yk = xs.length + 1 := by cases e <;> first | exact hr' | exact hr'.elim
  refine ⟨.tuple #[], by rw [results_eq, hr]; simp, .tuple #[], st.ax.yk, G.fp, S', rfl, hr2, R'.inv.yl.1, X'.calm⟩

end
end Go.Abs
