/-
  Regions whose order is drawn: whatever the order, they come to where the order of the text comes.
-/
import Derived.Test.YthofonhkpilifaaAbs14
namespace Go.Abs
open Go.RowKit

/-- One operation of a region, with what it comes to. -/
def StepA (E : Env) (ops : List Oper) (o : Oper) (st : St) (v : SV) (m : St) : Prop :=
  match o.guard with
  | none => wpOp E true o.op st fun v' m' => v' = v ∧ m' = m
  | some (j, want) => ∃ t, dstOf ops j = some t ∧
      ((st.sl.getD t .undef = .val (.bool want) ∧ wpOp E true o.op st fun v' m' => v' = v ∧ m' = m) ∨
       ((st.sl.getD t .undef = .undef ∨ st.sl.getD t .undef = .val (.bool (!want))) ∧ v = .undef ∧ m = st))

theorem Res.go_def {r : Option Res} {K : SV → St → Prop} (h : Res.go r K) : ∃ v m, K v m ∧ Res.go r fun v' m' => v' = v ∧ m' = m := by
  unfold Res.go at *
  cases r with
  | none => exact h.elim
  | some x => exact ⟨x.v, x.st, h.2, h.1, rfl, rfl⟩

theorem wpOp_def {E : Env} {op : Op} {st : St} {K : SV → St → Prop} (h : wpOp E true op st K) : ∃ v m, K v m ∧ wpOp E true op st fun v' m' => v' = v ∧ m' = m := by
  unfold wpOp at *
  split at h
  · split at h
    · split at h
      · obtain ⟨r, h1, h2⟩ := h
        exact ⟨_, _, h2, r, h1, rfl, rfl⟩
      · exact absurd h.1 (by simp)
    · exact absurd h.1 (by simp)
    · split at h
      · exact absurd h.1 (by simp)
      · exact absurd h.1 (by simp)
    · exact h.elim
  · split at h
    · exact absurd h.1 (by simp)
    · exact Res.go_def h
  · exact Res.go_def h

theorem put_same {st : St} {t : Tmp} {v : SV} (h : st.sl.getD t .undef = v) (hu : v ≠ .undef) : st.put (some t) v = st := by
  have hlt : t < st.sl.length := by
    rcases Nat.lt_or_ge t st.sl.length with h' | h'
    · exact h'
    · rw [List.getD_eq_getElem?_getD, List.getElem?_eq_none h'] at h; exact absurd h.symm hu
  have : st.sl.set t v = st.sl := by
    apply List.ext_getElem?
    intro i
    rw [List.getElem?_set]
    split
    · rename_i hi
      subst hi
      rw [List.getD_eq_getElem?_getD, List.getElem?_eq_getElem hlt] at h
      rw [List.getElem?_eq_getElem hlt]
      simpa using h.symm
    · rfl
  simp [St.put, this]

/-- The text's order, as a row of states. -/
theorem wpOps_trace {E : Env} {ops : List Oper} : ∀ (l : List Oper) (st : St) (K : St → Prop), wpOps E true ops l st K →
    ∃ (T : Nat → St) (V : Nat → SV) (M : Nat → St), T 0 = st ∧ K (T l.length) ∧ ∀ i o, l[i]? = some o → StepA E ops o (T i) (V i) (M i) ∧ T (i + 1) = (M i).put o.dst (V i)
  | [], st, K, h => ⟨fun _ => st, fun _ => .undef, fun _ => st, rfl, h, fun i o hi => by simp at hi⟩
  | o :: rest, st, K, h => by
    have fin : ∀ (v : SV) (m : St), StepA E ops o st v m → wpOps E true ops rest (m.put o.dst v) K → ∃ (T : Nat → St) (V : Nat → SV) (M : Nat → St), T 0 = st ∧ K (T (o :: rest).length) ∧
        ∀ i o', (o :: rest)[i]? = some o' → StepA E ops o' (T i) (V i) (M i) ∧ T (i + 1) = (M i).put o'.dst (V i) := by
      intro v m hs hr
      obtain ⟨T, V, M, h1, h2, h3⟩ := wpOps_trace rest _ K hr
      refine ⟨fun i => match i with | 0 => st | i + 1 => T i, fun i => match i with | 0 => v | i + 1 => V i, fun i => match i with | 0 => m | i + 1 => M i, rfl, h2, fun i o' hi => ?_⟩
      cases i with
      | zero => simp at hi; subst hi; exact ⟨hs, h1⟩
      | succ i => exact h3 i o' (by simpa using hi)
    simp only [wpOps] at h
    split at h
    · rename_i hg
      obtain ⟨v, m, hk, hw⟩ := wpOp_def h
      exact fin v m (by unfold StepA; rw [hg]; exact hw) hk
    · rename_i j want hg
      split at h
      · exact h.elim
      · rename_i t ht
        split at h
        · rename_i hu
          exact fin .undef st (by unfold StepA; rw [hg]; exact ⟨t, ht, .inr ⟨.inl hu, rfl, rfl⟩⟩) h
        · rename_i b hb
          by_cases hbw : b = want
          · subst hbw
            have h1 := h.1 rfl
            rw [put_same hb (by simp)] at h1
            obtain ⟨v, m, hk, hw⟩ := wpOp_def h1
            exact fin v m (by unfold StepA; rw [hg]; exact ⟨t, ht, .inl ⟨hb, hw⟩⟩) hk
          · have hbn : b = !want := by cases b <;> cases want <;> simp_all
            subst hbn
            have h1 := h.2 rfl
            rw [put_same hb (by simp)] at h1
            exact fin .undef st (by unfold StepA; rw [hg]; exact ⟨t, ht, .inr ⟨.inr hb, rfl, rfl⟩⟩) h1
        · exact h.elim

/-- What an operation looks at. -/
def looksL (ops : List Oper) (o : Oper) : List Tmp :=
  (o.op.operands.toList.filterMap fun x => match x with | .tmp t => some t | _ => none) ++ (match o.guard with | none => [] | some (j, _) => (dstOf ops j).toList)

theorem valOf_eq {st st2 : St} {x : Operand} (h : ∀ t, x = .tmp t → st2.sl.getD t .undef = st.sl.getD t .undef) : valOf st2 x = valOf st x := by
  cases x with
  | tmp t => exact h t rfl
  | _ => rfl

theorem pvs_congr {l l' : List SV} (h : l = l') : pvsOf l = pvsOf l' := by rw [h]

theorem Res.go_local {op : Op} {st st2 : St} {r r2 : Option Res} (h : LocalOp op st st2 r r2) {v : SV} {m : St} (hg : Res.go r fun v' m' => v' = v ∧ m' = m) :
    (m.sl = st.sl ∧ m.ax = st.ax) ∧ (memW op = false → m.bx = st.bx) ∧ (tkW op = false → m.tk = st.tk) ∧
      Res.go r2 fun v' m' => v' = v ∧ m' = ⟨st2.sl, if memW op then m.bx else st2.bx, if tkW op then m.tk else st2.tk, st2.ax⟩ := by
  unfold Res.go at hg
  cases r with
  | none => exact hg.elim
  | some x =>
    obtain ⟨hs, rfl, rfl⟩ := hg
    obtain ⟨h1, h2, h3, h4⟩ := h x rfl
    rw [h4]
    exact ⟨h1, h2, h3, hs, rfl, rfl⟩

theorem wpOp_local {E : Env} {op : Op} {st st2 : St} {v : SV} {m : St} (hs : noSeal E.rm op = true) (hv : ∀ x ∈ op.operands, valOf st2 x = valOf st x) (hb : memW op = true ∨ memR op = true → st2.bx = st.bx) (ht : tkW op = true → st2.tk = st.tk)
    (h : wpOp E true op st fun v' m' => v' = v ∧ m' = m) :
    (m.sl = st.sl ∧ m.ax = st.ax) ∧ (memW op = false → m.bx = st.bx) ∧ (tkW op = false → m.tk = st.tk) ∧
      wpOp E true op st2 fun v' m' => v' = v ∧ m' = ⟨st2.sl, if memW op then m.bx else st2.bx, if tkW op then m.tk else st2.tk, st2.ax⟩ := by
  have hl := evalOp_local E op st st2 hs hv hb ht
  by_cases hc : ∃ x args ts, op = .call { callee := .value x, args, argTypes := ts }
  · obtain ⟨x, args, ts, rfl⟩ := hc
    simp only [wpOp] at h ⊢
    have e1 : args.toList.map (valOf st2) = args.toList.map (valOf st) := List.map_congr_left fun p hp => hv p (by simp only [Op.operands, Call.operands]; exact Array.mem_append.2 (.inr (by simpa using hp)))
    have e2 : valOf st2 x = valOf st x := hv x (by simp [Op.operands, Call.operands])
    rw [e1, e2]
    split at h
    · split at h
      · obtain ⟨r, h1, rfl, rfl⟩ := h
        have m1 : memW (.call { callee := .value x, args, argTypes := ts }) = false := rfl
        have m2 : tkW (.call { callee := .value x, args, argTypes := ts }) = false := rfl
        rw [m1, m2]
        exact ⟨⟨rfl, rfl⟩, fun _ => rfl, fun _ => rfl, r, h1, rfl, rfl⟩
      · exact absurd h.1 (by simp)
    · exact absurd h.1 (by simp)
    · split at h
      · exact absurd h.1 (by simp)
      · exact absurd h.1 (by simp)
    · exact h.elim
  · by_cases hap : ∃ args ts, op = .call { callee := .builtin .append, args, argTypes := ts } ∧ rowsAt E ts.toList = true
    · obtain ⟨args, ts, rfl, hr⟩ := hap
      simp [noSeal, Env.rm, hr] at hs
    have e : ∀ (s : St) (K : SV → St → Prop), wpOp E true op s K = Res.go (evalOp E op s) K := fun s K => by
      unfold wpOp
      split
      · exact (hc ⟨_, _, _, rfl⟩).elim
      · split
        · rename_i hr; exact (hap ⟨_, _, rfl, hr⟩).elim
        · rfl
      · rfl
    rw [e] at h ⊢
    exact Res.go_local hl h

theorem looks_operand {ops : List Oper} {o : Oper} {t : Tmp} (h : Operand.tmp t ∈ o.op.operands) : t ∈ looksL ops o :=
  List.mem_append_left _ (List.mem_filterMap.2 ⟨.tmp t, by simpa using h, rfl⟩)

theorem StepA.local {E : Env} {ops : List Oper} {o : Oper} {st st2 : St} {v : SV} {m : St} (hs : noSeal E.rm o.op = true) (hv : ∀ t ∈ looksL ops o, st2.sl.getD t .undef = st.sl.getD t .undef)
    (hb : memW o.op = true ∨ memR o.op = true → st2.bx = st.bx) (ht : tkW o.op = true → st2.tk = st.tk) (h : StepA E ops o st v m) :
    (m.sl = st.sl ∧ m.ax = st.ax) ∧ (memW o.op = false → m.bx = st.bx) ∧ (tkW o.op = false → m.tk = st.tk) ∧
      StepA E ops o st2 v ⟨st2.sl, if memW o.op then m.bx else st2.bx, if tkW o.op then m.tk else st2.tk, st2.ax⟩ := by
  have hv' : ∀ x ∈ o.op.operands, valOf st2 x = valOf st x := fun x hx => valOf_eq fun t ht => hv t (looks_operand (by rw [← ht]; exact hx))
  unfold StepA at h ⊢
  split at h
  · rename_i hg
    exact wpOp_local hs hv' hb ht h
  · rename_i j want hg
    obtain ⟨t, hd, h⟩ := h
    have hgl : st2.sl.getD t .undef = st.sl.getD t .undef := hv t (List.mem_append_right _ (by rw [hg]; simp [hd]))
    rcases h with ⟨h1, h2⟩ | ⟨h1, rfl, rfl⟩
    · obtain ⟨a, b, c, e⟩ := wpOp_local hs hv' hb ht h2
      exact ⟨a, b, c, t, hd, .inl ⟨by rw [hgl]; exact h1, e⟩⟩
    · refine ⟨⟨rfl, rfl⟩, fun _ => rfl, fun _ => rfl, t, hd, .inr ⟨by rw [hgl]; exact h1, rfl, ?_⟩⟩
      have e1 : (if memW o.op then m.bx else st2.bx) = st2.bx := by split <;> simp_all
      have e2 : (if tkW o.op then m.tk else st2.tk) = st2.tk := by split <;> simp_all
      rw [e1, e2]

section
variable {E : Env} {B : Nat} {S0 : Addr → Prop} {w0 : World} {st : St} {G : Gh} {S : Addr → Prop} {w : World} {tmps : Array Value} {r : Option Nat} {n : Nat}

theorem stepA_ok (hE : EnvOk E) {ops : Array Oper} {i : Nat} {o : Oper} {K : Act → World → Prop} {Q : Exit → Act → World → Prop} {v : SV} {m : St} (d : List Deferred) {tk0 : List (Nat × TypeId)} {G0 : Gh} {S1 : Addr → Prop} {w1 : World} (R : Rel E B S0 w0 st G S w tmps) (X : Ext tk0 G0 S1 w1 st.tk G S w) (ho : ops[i]? = some o)
    (h : StepA E ops.toList o st v m)
    (hK : ∀ (G' : Gh) (S' : Addr → Prop) (w' : World) (tmps' : Array Value), Rel E B S0 w0 (m.put o.dst v) G' S' w' tmps' → Ext tk0 G0 S1 w1 (m.put o.dst v).tk G' S' w' → K { tmps := tmps', defers := d } w') :
    wpOpIn (Fr r) n E.P ops Q i K { tmps := tmps, defers := d } w := by
  have go : ∀ (v' : Value) (G' : Gh) (S' : Addr → Prop) (w' : World), Rel E B S0 w0 m G' S' w' tmps → RSV m.tk G' S' w' v v' → Ext tk0 G0 S1 w1 m.tk G' S' w' → K (({ tmps := tmps, defers := d } : Act).put o.dst v') w' := by
    intro v' G' S' w' R' V' X'
    obtain ⟨R2, hd⟩ := R'.put V' o.dst d
    rw [act_eta hd]
    exact hK G' S' w' _ R2 (by rw [put_tk]; exact X')
  have run : (wpOp E true o.op st fun v' m' => v' = v ∧ m' = m) → o.wpIn (Fr r) n E.P { tmps := tmps, defers := d } w K Q := fun hw =>
    wpOp_ok hE R o d hw (fun v' s st' G' S' w' hk R' V' X' => by
      obtain ⟨rfl, rfl⟩ := hk
      exact go v' G' S' w' R' V' (X.trans X'))
  unfold wpOpIn
  simp only [ho]
  unfold StepA at h
  split at h
  · rename_i hg
    rw [if_pos (by simp [Region.wanted, hg])]
    exact run h
  · rename_i j want hg
    obtain ⟨t, ht, h⟩ := h
    have hty : (ops[j]?).bind (·.dst) = some t := by simpa [dstOf] using ht
    have hlook : yielded ops tmps j = match tmps[t]? with | some (.bool b) => some b | _ => none := by
      simp only [yielded, hty, Option.bind_some]
      rfl
    have hrs : RSV st.tk G S w (st.sl.getD t .undef) (tmps.getD t undef) := rsv_getD R t
    rcases h with ⟨h1, h2⟩ | ⟨h1, rfl, rfl⟩
    · rw [h1] at hrs
      have hb := RV.bool_inv hrs
      have hy : tmps[t]? = some (.bool want) := by
        rw [Array.getD_eq_getD_getElem?] at hb
        cases hq : tmps[t]? with
        | none => rw [hq] at hb; cases hb
        | some u => rw [hq] at hb; simpa using hb
      rw [if_pos (by simp [Region.wanted, hg, hlook, hy])]
      exact run h2
    · have hno : Region.wanted o (yielded ops tmps) = false := by
        simp only [Region.wanted, hg, hlook]
        rcases h1 with h1 | h1
        · rw [h1] at hrs
          have hrs : tmps.getD t undef = undef := hrs
          rw [Array.getD_eq_getD_getElem?] at hrs
          cases hq : tmps[t]? with
          | none => rfl
          | some u => rw [hq] at hrs; simp only [Option.getD_some] at hrs; subst hrs; rfl
        · rw [h1] at hrs
          have hb := RV.bool_inv hrs
          rw [Array.getD_eq_getD_getElem?] at hb
          cases hq : tmps[t]? with
          | none => rfl
          | some u => rw [hq] at hb; simp only [Option.getD_some] at hb; subst hb; simp
      rw [if_neg (by rw [hno]; simp)]
      exact ⟨fun _ _ => trivial, go undef G S w R rfl X⟩

end
end Go.Abs
