/-
  The walk as a computation is the walk.
-/
import Derived.Test.YthofonhkpilifaaAbs19
namespace Go.Abs
open Go.RowKit

section
variable {E : Env} {Es : Env}

theorem cellAt_spec : ∀ {cs : List PV} {o : Nat} {p : PV}, cellAt cs o = some p → o < cs.length ∧ cs.getD o .any = p
  | [], o, p, h => by cases o <;> cases h
  | x :: r, 0, p, h => by cases h; exact ⟨by simp, rfl⟩
  | x :: r, o + 1, p, h => by
    obtain ⟨h1, h2⟩ := cellAt_spec (cs := r) (o := o) (by simpa [cellAt] using h)
    exact ⟨by simpa using h1, by simpa using h2⟩

theorem cellsAt_spec : ∀ {cs : List PV} {o n : Nat} {l : List PV}, cellsAt cs o n = some l → o + n ≤ cs.length ∧ (cs.drop o).take n = l
  | cs, 0, n, l, h => by
    cases cs with
    | nil =>
      simp only [cellsAt] at h
      split at h
      · rename_i h1; cases h; exact ⟨by simpa using h1, rfl⟩
      · cases h
    | cons x r =>
      simp only [cellsAt] at h
      split at h
      · rename_i h1; cases h; exact ⟨by simpa using h1, rfl⟩
      · cases h
  | [], o + 1, n, l, h => by simp [cellsAt] at h
  | x :: r, o + 1, n, l, h => by
    obtain ⟨h1, h2⟩ := cellsAt_spec (cs := r) (o := o) (n := n) (l := l) (by simpa [cellsAt] using h)
    exact ⟨by simp only [List.length_cons]; omega, by simpa using h2⟩

theorem load_impl {t : TypeId} {x : SV} {st : St} {K : SV → St → Prop} (h : go' (opLoad' E t x st) K) : Res.go (opLoad E t x st) K := by
  unfold opLoad' at h
  split at h
  · rename_i cs off
    simp only [opLoad]
    split at h
    · rename_i ha
      rw [if_pos ha]
      split at h
      · rename_i l hl
        obtain ⟨h1, h2⟩ := cellsAt_spec hl
        exact ⟨h1, by have := h.2; simpa [h2] using this⟩
      · exact h.elim
    · rename_i ha
      rw [if_neg ha]
      split at h
      · rename_i h1
        rw [if_pos h1]
        split at h
        · rename_i p hp
          obtain ⟨h1, h2⟩ := cellAt_spec hp
          exact ⟨h1, by have := h.2; simpa only [h2] using this⟩
        · exact h.elim
      · exact h.elim
  · exact h

theorem pick_impl {c a b : SV} {st : St} {K : SV → St → Prop} (h : go' (opPick' c a b st) K) : Res.go (opPick c a b st) K := by
  unfold opPick' at h
  unfold opPick
  split at h
  · rename_i t
    cases t <;> exact h
  · exact h.elim

theorem bound_eq (o : Option SV) (d : Int) : bound' o d = bound o d := by
  unfold bound' bound
  rfl

theorem slice_impl {t : TypeId} {x : SV} {lo hi mx : Option SV} {st : St} {K : SV → St → Prop} (h : go' (opSlice' (stdOps Es) E t x lo hi mx st) K) : Res.go (opSlice E t x lo hi mx st) K := by
  unfold opSlice' at h
  unfold opSlice
  simp only [bound_eq] at h
  split at h
  · rename_i e hk
    simp only [hk]
    split at h
    · rename_i m xs hx
      simp only [hx]
      split at h
      · rename_i hc
        rw [if_pos ⟨.inl hc.1, hc.2⟩]
        exact h
      · exact h.elim
    · exact h.elim
  · rename_i hk
    simp only [hk]
    exact h
  · exact h.elim

theorem sliceArr_impl {t : TypeId} {id off : Nat} {lo hi mx : Option SV} {st : St} {K : SV → St → Prop} (h : go' (opSliceArr' (stdOps Es) E t id off lo hi mx st) K) : Res.go (opSliceArr E t id off lo hi mx st) K := by
  unfold opSliceArr' at h
  unfold opSliceArr
  split at h
  · rename_i n e hk
    simp only [hk]
    split at h
    · rename_i hc
      rw [if_pos hc]
      split at h
      · obtain ⟨⟨⟨a1, a2, a3⟩, b1, b2, b3⟩, k⟩ := h
        exact ⟨⟨a2, a3, b3⟩, k⟩
      · obtain ⟨⟨a1, a2, a3⟩, k⟩ := h
        exact ⟨⟨a2, a3⟩, k⟩
      · exact h
      · exact h.elim
    · exact h.elim
  · exact h.elim

theorem eqCells_eq : ∀ (ks : List SK) (a b : List PV), eqCells' (stdOps Es) ks a b = eqCells ks a b
  | [], a, b => by cases a <;> cases b <;> rfl
  | k :: ks, a, b => by
    cases a <;> cases b
    · rfl
    · rfl
    · rfl
    · simp only [eqCells', eqCells, eqCells_eq ks]
      rfl

theorem arith64_eq (op : BinOp) (a b : Int) : arithI64' (stdOps Es) op a b = arithI64 op a b := by
  cases op <;> simp [arithI64', arithI64, stdOps]
theorem arithO_eq (op : BinOp) (k : IntKind) (a b : Int) : arithOther' (stdOps Es) op k a b = arithOther op k a b := by
  cases op <;> simp [arithOther', arithOther, stdOps, wBin]

theorem bin_eq (op : BinOp) (t : TypeId) (x y : SV) (st : St) : opBin' (stdOps Es) E op t x y st = opBin E op t x y st := by
  unfold opBin' opBin
  simp only [arith64_eq, arithO_eq, eqCells_eq]
  cases x with
  | val p =>
    cases y with
    | val q =>
      cases p with
      | int k a => cases q with
        | int k' b => cases op <;> first | rfl | (simp [stdOps]; done) | (simp [stdOps]; rfl)
        | _ => rfl
      | bool a => cases q with
        | bool b => cases h : (E.T t).k <;> first | rfl | (cases op <;> first | rfl | (simp [stdOps]; done))
        | _ => rfl
      | str a => cases q with
        | str b => cases op <;> first | rfl | (simp [stdOps]; done)
        | _ => rfl
      | agg a => cases q with
        | agg b =>
          cases h : (E.T t).eq with
          | none => rfl
          | some ks =>
            simp only
            cases h2 : eqCells ks a b with
            | none => rfl
            | some r => cases op <;> rfl
        | _ => rfl
      | _ => cases q <;> rfl
    | _ => cases p <;> rfl
  | _ => cases y <;> rfl

theorem append_impl {t : TypeId} {s y : SV} {st : St} {K : SV → St → Prop} (h : go' (opAppend' (stdOps Es) E t s y st) K) : Res.go (opAppend E t s y st) K := by
  unfold opAppend' at h
  unfold opAppend
  split at h
  · rename_i e m' ys hk hy
    simp only [hk, hy]
    split at h
    · rename_i hc
      rw [if_pos ⟨.inl hc.1, hc.2⟩]
      split at h
      · rename_i m xs
        split at h
        · rename_i hm
          simp only
          rw [if_pos (.inl hm)]
          obtain ⟨h1, h2⟩ := h
          refine ⟨?_, h2⟩
          have h1 : (xs ++ ys).length * ((E.T e).bytes + 1) ≤ 140737488355328 := h1
          rw [List.length_append] at h1
          exact h1
        · split at h
          · rename_i hm
            have hx : xs = [] := by
              have := hm.2
              cases xs with
              | nil => rfl
              | cons a b => cases this
            subst hx
            simp only
            rw [if_pos (by simp)]
            obtain ⟨h1, h2⟩ := h
            refine ⟨?_, h2⟩
            have h1 : ys.length * ((E.T e).bytes + 1) ≤ 140737488355328 := h1
            simpa using h1
          · exact h.elim
      · rename_i k m xs
        split at h
        · rename_i hm
          simp only
          rw [if_pos ⟨.inl hm.1, hm.2.1⟩]
          obtain ⟨⟨h0, h1⟩, h2⟩ := h
          have h1 : (xs ++ ys).length * ((E.T e).bytes + 1) ≤ 140737488355328 := h1
          rw [List.length_append] at h1
          exact ⟨⟨h0, hm.2.2, h1⟩, h2⟩
        · exact h.elim
      · exact h.elim
    · exact h.elim
  · exact h.elim

theorem len_eq (t : TypeId) (x : SV) (st : St) : opLen' (stdOps Es) E t x st = opLen E t x st := by
  unfold opLen' opLen
  cases (E.T t).k <;> cases x <;> rfl
theorem un_eq (op : UnOp) (x : SV) (st : St) : opUn' (stdOps Es) op x st = opUn op x st := by
  unfold opUn' opUn
  cases x with
  | val p =>
    cases op <;> cases p <;> first | rfl | skip
    all_goals (rename_i k n; cases k <;> first | rfl | simp [stdOps])
  | _ => cases op <;> rfl

theorem mapUpdate_eq (t : TypeId) (m x v : SV) (st : St) : opMapUpdate' (stdOps Es) E t m x v st = opMapUpdate E t m x v st := rfl

theorem indexAddr_impl {t : TypeId} {x i : SV} {st : St} {K : SV → St → Prop} (h : go' (opIndexAddr' (stdOps Es) E t x i st) K) : Res.go (opIndexAddr E t x i st) K := by
  unfold opIndexAddr' at h
  split at h
  · exact h
  · rename_i hr
    split at h
    · exact h.elim
    · rename_i kk n hi
      split at h
      · rename_i e id off len hk
        unfold opIndexAddr
        simp only [hi, hk]
        split at h
        · exact h.elim
        · rename_i hz
          rw [if_neg hz]
          simp only [elemSV, hr]
          exact h
      · rename_i e id off m len cap hk
        unfold opIndexAddr
        simp only [hi, hk]
        split at h
        · exact h.elim
        · rename_i hz
          rw [if_neg hz]
          simp only [elemSV, hr]
          exact h
      · rename_i cnt e id off hk
        unfold opIndexAddr
        simp only [hi, hk]
        split at h
        · exact h.elim
        · rename_i hz
          rw [if_neg hz]
          simp only [elemSV, hr]
          exact h
      · exact h.elim
      · exact h.elim
      · exact h.elim
      · exact h

theorem sliceRow_impl {t : TypeId} {id off m len cap : Nat} {lo hi mx : Option SV} {st : St} {K : SV → St → Prop} (h : go' (opSliceRow' (stdOps Es) E t id off m len cap lo hi mx st) K) : Res.go (opSliceRow E t id off m len cap lo hi mx st) K := h

theorem eval_impl {o : Op} {st : St} {K : SV → St → Prop} (h : go' (evalOp' (stdOps Es) E o st) K) : Res.go (evalOp E o st) K := by
  cases o with
  | pick c a b => exact pick_impl h
  | load t a =>
    simp only [evalOp', evalOp] at h ⊢
    have := load_impl h
    cases hq : valOf st a <;> rw [hq] at this <;> first | exact this | exact this.elim
  | store t a x =>
    simp only [evalOp', evalOp] at h ⊢
    cases hq : valOf st a <;> rw [hq] at h <;> first | exact h | exact h.elim
  | nilCheck x =>
    simp only [evalOp', evalOp] at h ⊢
    split at h <;> first | exact h | exact h.elim | (rename_i hq; simp only [hq]; exact h)
  | mapUpdate t m x v => exact h
  | binOp op t x y z => simp only [evalOp', bin_eq] at h; exact h
  | unOp op t x => simp only [evalOp', un_eq] at h; exact h
  | slice t x lo hi mx =>
    simp only [evalOp'] at h
    simp only [evalOp]
    split at h
    · rename_i hx; simp only [hx]; exact sliceArr_impl h
    · rename_i hx; simp only [hx]; exact sliceRow_impl h
    · rename_i hne hne2
      split
      · rename_i hx; exact absurd hx (hne _ _)
      · rename_i hx; exact absurd hx (hne2 _ _ _ _ _)
      · exact slice_impl h
  | indexAddr t x i =>
    simp only [evalOp'] at h
    simp only [evalOp]
    split at h
    · rename_i hx; rw [hx]; exact indexAddr_impl h
    · rename_i hx; rw [hx]; exact indexAddr_impl h
    · rename_i hx; rw [hx]; exact indexAddr_impl h
    · rename_i hx; rw [hx]; exact indexAddr_impl h
    · exact h.elim
  | call c =>
    obtain ⟨callee, args, ts⟩ := c
    cases callee with
    | builtin b =>
      simp only [evalOp', evalOp] at h ⊢
      unfold opBuiltin' at h
      unfold opBuiltin
      split at h
      · rename_i e1 e2; rw [len_eq] at h; simp only [e1, e2]; exact h
      · rename_i e1 e2
        simp only [e1, e2]
        split at h
        · rename_i he; rw [if_pos he]; exact append_impl h
        · exact h.elim
      · exact h
      · exact h
      · exact h.elim
    | value x => exact h
    | invoke r m => exact h
  | _ => exact h

theorem wpOp_impl {dr : Bool} {o : Op} {st : St} {K : SV → St → Prop} (h : wpOp' (stdOps E) E dr o st K) : wpOp E dr o st K := by
  have idx : ∀ {t : TypeId} {xo i : Operand} {s : SV}, valOf st xo = s → (∀ id off n, s ≠ .msl id off n) → (∀ m xs, s.elems = some (m, xs) → s = s) → wpIdx (stdOps E) E t s (valOf st i) st K → Res.go (opIndexAddr E t s (valOf st i) st) K := by
    intro t xo i s hs hm _ h
    unfold wpIdx at h
    split at h
    · rename_i e m xs kk n hk hx hi
      split at h
      · rename_i hc
        have e1 : opIndexAddr E t s (valOf st i) st = some ⟨0 ≤ n ∧ n < xs.length, .val (.ptr (xs.getD n.toNat .any).cells 0), st⟩ := by
          unfold opIndexAddr
          simp only [hi, hk]
          rw [if_neg hc.2]
          cases s with
          | msl a b c => exact absurd rfl (hm _ _ _)
          | row a b c d e => cases hx
          | _ => simp only [hx]; rw [if_pos hc.1]
        rw [e1]
        exact h
      · exact h.elim
    · exact h.elim
  unfold wpOp' at h
  split at h
  · simp only [wpOp]
    split at h
    · rename_i h1
      simp only [h1]
      split at h
      · rename_i h2; simp only [h2]; exact h
      · rename_i h2
        simp only [h2]
        cases dr with
        | true => exact h.elim
        | false => exact ⟨rfl, h⟩
    · rename_i h1
      simp only [h1]
      cases dr with
      | true => exact h.elim
      | false => exact ⟨rfl, h⟩
    · rename_i h1
      simp only [h1]
      split at h
      · rename_i h2
        simp only [h2]
        cases dr with
        | true => exact h.elim
        | false => exact ⟨rfl, h⟩
      · rename_i h2
        simp only [h2]
        cases dr with
        | true => exact h.elim
        | false => exact ⟨rfl, h⟩
    · exact h.elim
  · simp only [wpOp]
    split at h
    · rename_i hr
      simp only [hr]
      cases dr with
      | true => exact h.elim
      | false => exact ⟨rfl, h⟩
    · rename_i hr
      simp only [hr]
      exact eval_impl h
  · rename_i t a
    show Res.go (evalOp E (.load t a) st) K
    split at h
    · rename_i hx; simp only [evalOp, hx]; exact h
    · exact eval_impl h
  · rename_i t a x
    show Res.go (evalOp E (.store t a x) st) K
    split at h
    · rename_i hx; simp only [evalOp, hx]; exact h
    · exact eval_impl h
  · rename_i t x i
    show Res.go (evalOp E (.indexAddr t x i) st) K
    split at h
    · rename_i hx; simp only [evalOp, hx]; exact idx hx (by intros; simp) (by intros; rfl) h
    · rename_i hx; simp only [evalOp, hx]; exact idx hx (by intros; simp) (by intros; rfl) h
    · rename_i hx; simp only [evalOp, hx]; exact idx hx (by intros; simp) (by intros; rfl) h
    · exact eval_impl h
  · rename_i h1 h1' h2 h2' h2''
    have h3 := eval_impl h
    unfold wpOp
    split
    · exact (h1 _ _ _ rfl).elim
    · exact (h1' _ _ rfl).elim
    · exact h3

theorem Res.go_mono {r : Option Res} {K K' : SV → St → Prop} (hk : ∀ v s, K v s → K' v s) (h : Res.go r K) : Res.go r K' := by
  unfold Res.go at *
  split at h
  · exact ⟨h.1, hk _ _ h.2⟩
  · exact h.elim

theorem wpAppR_mono {ts : List TypeId} {xs : List SV} {st : St} {K K' : SV → St → Prop} (hk : ∀ v s, K v s → K' v s) (h : wpAppR E ts xs st K) : wpAppR E ts xs st K' := by
  unfold wpAppR at *
  split at h
  · split at h
    · obtain ⟨a1, a2, a3, a4, a5, h⟩ := h
      refine ⟨a1, a2, a3, a4, a5, ?_⟩
      split at h
      · exact ⟨h.1, h.2.1, fun cap h1 h2 => hk _ _ (h.2.2 cap h1 h2)⟩
      · obtain ⟨b1, b2, cells, b3, b4, b5, b6⟩ := h
        exact ⟨b1, b2, cells, b3, b4, fun h => hk _ _ (b5 h), fun h cap' h1 h2 => hk _ _ (b6 h cap' h1 h2)⟩
      · exact h.elim
    · exact h.elim
  · exact h.elim

theorem wpOp_mono {dr : Bool} {o : Op} {st : St} {K K' : SV → St → Prop} (hk : ∀ v s, K v s → K' v s) (h : wpOp E dr o st K) : wpOp E dr o st K' := by
  unfold wpOp at *
  split at h
  · split at h
    · split at h
      · obtain ⟨r, h1, h2⟩ := h; exact ⟨r, h1, hk _ _ h2⟩
      · obtain ⟨h0, h⟩ := h
        refine ⟨h0, ?_⟩
        rcases h with ⟨st', l', ps, hF, hp, r, h1, h2⟩ | ⟨hc, id, off, m, len, cap, cells, xs, r, a1, a2, a3, a4, a5, a6, a7⟩ | ⟨QR, h1, h2⟩
        · exact .inl ⟨st', l', ps, hF, hp, r, h1, hk _ _ h2⟩
        · exact .inr (.inl ⟨hc, id, off, m, len, cap, cells, xs, r, a1, a2, a3, a4, a5, a6, hk _ _ a7⟩)
        · exact .inr (.inr ⟨QR, h1, fun a b c d hq => hk _ _ (h2 a b c d hq)⟩)
    · obtain ⟨h0, QR, h1, h2⟩ := h; exact ⟨h0, QR, h1, fun a b c d hq => hk _ _ (h2 a b c d hq)⟩
    · split at h
      · obtain ⟨h0, h1, h2, h3, h4⟩ := h; exact ⟨h0, h1, h2, hk _ _ h3, hk _ _ h4⟩
      · obtain ⟨h0, st', l', ps, hF, hp, h1, h2, h3, h4⟩ := h; exact ⟨h0, st', l', ps, hF, hp, h1, h2, hk _ _ h3, hk _ _ h4⟩
    · exact h.elim
  · split at h
    · exact ⟨h.1, wpAppR_mono hk h.2⟩
    · exact Res.go_mono hk h
  · exact Res.go_mono hk h

theorem wpOps_mono {dr : Bool} {ops : List Oper} {K K' : St → Prop} (hk : ∀ s, K s → K' s) : ∀ {l : List Oper} {st : St}, wpOps E dr ops l st K → wpOps E dr ops l st K'
  | [], st, h => hk _ h
  | o :: rest, st, h => by
    simp only [wpOps] at h ⊢
    split at h
    · exact wpOp_mono (fun v s h => wpOps_mono hk h) h
    · split at h
      · exact h.elim
      · split at h
        · exact wpOps_mono hk h
        · exact ⟨fun e => wpOp_mono (fun v s h => wpOps_mono hk h) (h.1 e), fun e => wpOps_mono hk (h.2 e)⟩
        · exact h.elim

theorem wpAll_mono {ops : Array Oper} {K K' : St → Prop} (hk : ∀ s, K s → K' s) : ∀ {fuel : Nat} {listed : Array Bool} {st : St}, wpAll E ops fuel listed st K → wpAll E ops fuel listed st K'
  | 0, listed, st, h => by
    rw [wpAll] at h ⊢
    split at h
    · rename_i h0; exact hk _ h
    · exact h.elim
  | fuel + 1, listed, st, h => by
    rw [wpAll] at h ⊢
    split at h
    · rename_i h0; exact hk _ h
    · rename_i i r h0
      refine allL_mono (fun i h => ?_) h
      split at h
      · exact h.elim
      · rename_i o ho
        exact wpOps_mono (fun st' h => wpAll_mono hk h) h

theorem wpC_mono : ∀ {c : Code} {nb : Nat × Nat} {st : St} {Q Q' : AX → St → Prop}, (∀ e s, Q e s → Q' e s) → wpC E c nb st Q → wpC E c nb st Q' := by
  intro c
  induction c with
  | skip => intro nb st Q Q' hk h; exact hk _ _ h
  | region id ops draw =>
    intro nb st Q Q' hk h
    simp only [wpC] at h ⊢
    split at h
    · rename_i he
      try simp only [he]
      exact wpAll_mono (hk .normal) h
    · rename_i c he
      try simp only [he]
      refine ⟨h.1, wpOps_mono (fun s h => ?_) h.2⟩
      split at h
      · exact h.elim
      · exact wpOps_mono (fun s' h => wpAll_mono (hk .normal) h) h
    · rename_i he
      try simp only [he]
      exact ⟨h.1, wpOps_mono (hk .normal) h.2⟩
  | seq a b iha ihb =>
    intro nb st Q Q' hk h
    refine iha (fun e s h => ?_) h
    cases e with
    | normal => exact ihb hk h
    | exit i => exact hk _ _ h
    | ret => exact hk _ _ h
  | cond c a b iha ihb =>
    intro nb st Q Q' hk h
    simp only [wpC] at h ⊢
    split at h
    · exact ⟨fun e => iha hk (h.1 e), fun e => ihb hk (h.2 e)⟩
    · exact h.elim
  | block id body ih =>
    intro nb st Q Q' hk h
    refine ih (fun e s h => ?_) h
    cases e with
    | normal => exact hk _ _ h
    | exit i =>
      simp only at h ⊢
      split at h
      · rename_i hi; rw [if_pos hi]; exact hk _ _ h
      · rename_i hi; rw [if_neg hi]; exact hk _ _ h
    | ret => exact hk _ _ h
  | loop body ih =>
    intro nb st Q Q' hk h
    obtain ⟨I, h0, hs⟩ := h
    refine ⟨I, h0, fun n s hI => ih (fun e s h => ?_) (hs n s hI)⟩
    cases e with
    | normal => exact h
    | exit i => exact hk _ _ h
    | ret => exact hk _ _ h
  | exit id => intro nb st Q Q' hk h; exact hk _ _ h
  | ret => intro nb st Q Q' hk h; exact hk _ _ h
  | label l => intro nb st Q Q' hk h; exact hk _ _ h
  | rangeFunc f ps a b iha ihb =>
    intro nb st Q Q' hk h
    simp only [wpC] at h ⊢
    split at h
    · obtain ⟨xs, h1, h2, I, s0, h3, h4, h5, h6, h7⟩ := h
      refine ⟨xs, h1, h2, I, s0, h3, h4, h5, fun k s x hx hI => iha (fun e s1 h => ?_) (h6 k s x hx hI), fun s hI => hk _ _ (h7 s hI)⟩
      cases e with
      | normal =>
        refine ihb (fun e s2 h => ?_) h
        cases e with
        | normal => exact h
        | exit i => exact hk _ _ h
        | ret => exact hk _ _ h
      | exit i => exact h
      | ret => exact h
    · exact h.elim
  | scope b ih => intro nb st Q Q' hk h; exact h.elim
  | goto l => intro nb st Q Q' hk h; exact h.elim
  | refuse s => intro nb st Q Q' hk h; exact h.elim

theorem way_iff {b : Bool} {X Y : Unit → Prop} : way b X Y ↔ (b = true → X ()) ∧ (b = false → Y ()) := by cases b <;> simp [way]

theorem wpOps_impl {dr : Bool} {ops : List Oper} {K : St → Prop} : ∀ {l : List Oper} {st : St}, wpOps' (stdOps E) E dr ops l st K → wpOps E dr ops l st K
  | [], st, h => h
  | o :: rest, st, h => by
    simp only [wpOps', wpOps] at h ⊢
    split at h
    · rename_i hg; simp only [hg]; exact wpOp_mono (fun v s h => wpOps_impl h) (wpOp_impl h)
    · rename_i hg
      simp only [hg]
      split at h
      · exact h.elim
      · rename_i ht
        simp only [ht]
        split at h
        · rename_i hs; simp only [hs]; exact wpOps_impl h
        · rename_i hs
          simp only [hs]
          split at h
          · rw [way_iff] at h
            exact ⟨fun e => wpOp_mono (fun v s h => wpOps_impl h) (wpOp_impl (h.1 e)), fun e => wpOps_impl (h.2 e)⟩
          · rw [way_iff] at h
            exact ⟨fun e => wpOp_mono (fun v s h => wpOps_impl h) (wpOp_impl (h.2 e)), fun e => wpOps_impl (h.1 e)⟩
        · exact h.elim

theorem wpAll_impl {ops : Array Oper} : ∀ {fuel : Nat} {listed : Array Bool} {st : St} {K : St → Prop}, wpAll' (stdOps E) E ops fuel listed st K → wpAll E ops fuel listed st K
  | 0, listed, st, K, h => h
  | fuel + 1, listed, st, K, h => by
    rw [wpAll'] at h
    rw [wpAll]
    split at h
    · rename_i h0; simp only [h0]; exact h
    · rename_i i r h0
      simp only [h0]
      refine allL_mono (fun i h => ?_) h
      split at h
      · exact h.elim
      · rename_i o ho
        simp only [ho]
        exact wpOps_mono (fun st' h => wpAll_impl h) (wpOps_impl h)

theorem wpC_impl : ∀ {c : Code} {nb : Nat × Nat} {st : St} {Q : AX → St → Prop}, wpC' (stdOps E) E c nb st Q → wpC E c nb st Q := by
  intro c
  induction c with
  | skip => intro nb st Q h; exact h
  | region id ops draw =>
    intro nb st Q h
    simp only [wpC'] at h
    simp only [wpC]
    split at h
    · rename_i he
      simp only [he]
      exact wpAll_impl h
    · rename_i c he
      simp only [he]
      refine ⟨h.1, wpOps_mono (fun s h => ?_) (wpOps_impl h.2)⟩
      split at h
      · exact h.elim
      · rename_i o ho
        simp only [ho]
        exact wpOps_mono (fun s' h => wpAll_impl h) (wpOps_impl h)
    · rename_i he
      simp only [he]
      refine ⟨?_, wpOps_impl h.2⟩
      have := h.1
      cases draw with
      | false => rfl
      | true => exact this
  | seq a b iha ihb =>
    intro nb st Q h
    have h1 := iha (st := st) (Q := fun e st' => match e with | .normal => wpC' (stdOps E) E b nb st' Q | .exit i => Q (.exit i) st' | .ret => Q .ret st') h
    show wpC E a nb st fun e st' => match e with | .normal => wpC E b nb st' Q | .exit i => Q (.exit i) st' | .ret => Q .ret st'
    refine wpC_mono (fun e s h => ?_) h1
    cases e with
    | normal => exact ihb h
    | exit i => exact h
    | ret => exact h
  | cond c a b iha ihb =>
    intro nb st Q h
    simp only [wpC', wpC] at h ⊢
    split at h
    · rename_i hv
      simp only [hv]
      rw [way_iff] at h
      exact ⟨fun e => iha (h.1 e), fun e => ihb (h.2 e)⟩
    · exact h.elim
  | block id body ih => intro nb st Q h; exact ih h
  | loop body ih =>
    intro nb st Q h
    obtain ⟨I, h0, hs⟩ := h
    exact ⟨I, h0, fun n s hI => ih (hs n s hI)⟩
  | exit id => intro nb st Q h; exact h
  | ret => intro nb st Q h; exact h
  | label l => intro nb st Q h; exact h
  | rangeFunc f ps a b iha ihb =>
    intro nb st Q h
    simp only [wpC', wpC] at h ⊢
    split at h
    · rename_i hv
      simp only [hv]
      obtain ⟨xs, h1, h2, I, s0, h3, h4, h5, h6, h7⟩ := h
      refine ⟨xs, h1, by simpa using h2, I, s0, h3, h4, h5, fun k s x hx hI => ?_, h7⟩
      have h8 := iha (h6 k s x hx hI)
      refine wpC_mono (fun e s1 h => ?_) h8
      cases e with
      | normal => exact ihb h
      | exit i => exact h
      | ret => exact h
    · exact h.elim
  | scope b ih => intro nb st Q h; exact h.elim
  | goto l => intro nb st Q h; exact h.elim
  | refuse s => intro nb st Q h; exact h.elim

/-- What is left to show of a function: the walk as a computation, over functions on data that stay shut. -/
theorem callsPV_by {P : Program} {T : TypeId → TD} {clo : FuncId → Bool} {rows : Bool} (hE : EnvOk ⟨P, T, clo, rows, .none⟩) {f : FuncId} {fn : Func} {c : Code} (hf : P.funcs[f]? = some fn) (hb : fn.body = some c) (he : Enters P f) {args : List PV} {p : PV}
    (h : ∀ A q P' Y, Real args → A = stdOps ⟨P, T, clo, rows, .none⟩ → p = q → wpC' A ⟨P', T, clo, rows, Y⟩ c (0, 0) ⟨args.map .val ++ List.replicate (fn.ntmps - args.length) .undef, [], [], ⟨[], 0⟩⟩ fun e st => match e with | .exit _ => False | _ => retFz ⟨P', T, clo, rows, Y⟩ fn.results.toList st q) : CallsPV P f args p :=
  callsPV_of (E := ⟨P, T, clo, rows, .none⟩) hE rfl hf hb he fun hr => wpC_impl (E := ⟨P, T, clo, rows, .none⟩) (h _ _ P .none hr rfl rfl)

/-- .. of a function that shares the caller's variables. -/
theorem callsSt_by {P : Program} {T : TypeId → TD} {clo : FuncId → Bool} {rows : Bool} {Y : YS} (hE : EnvOk ⟨P, T, clo, rows, Y⟩) {f : FuncId} {fn : Func} {c : Code} (hf : P.funcs[f]? = some fn) (hb : fn.body = some c) (he : Enters P f)
    {svs : List SV} {bx bx' : List (Option (List SV))} {tk tk' : List (Nat × TypeId)} {ax ax' : Ax} {p : PV}
    (h : ∀ A P' Y' (R : St → Prop), A = stdOps ⟨P, T, clo, rows, Y⟩ → (∀ st, retSt ⟨P', T, clo, rows, Y'⟩ (bx.length, ax.mp.length) fn.results.toList st p bx' tk' ax' → R st) →
      wpC' A ⟨P', T, clo, rows, Y'⟩ c (bx.length, ax.mp.length) ⟨svs ++ List.replicate (fn.ntmps - svs.length) .undef, bx, tk, ax⟩ fun e st => match e with | .exit _ => False | _ => R st) : CallsSt ⟨P, T, clo, rows, Y⟩ f svs bx tk ax (.val p) bx' tk' ax' :=
  callsSt_of (E := ⟨P, T, clo, rows, Y⟩) hE hf hb he (wpC_impl (E := ⟨P, T, clo, rows, Y⟩) (h _ P Y _ rfl fun _ h => h))

theorem callsR_by {P : Program} {T : TypeId → TD} {clo : FuncId → Bool} {rows : Bool} {Y : YS} (hE : EnvOk ⟨P, T, clo, rows, Y⟩) {f : FuncId} {fn : Func} {c : Code} (hf : P.funcs[f]? = some fn) (hb : fn.body = some c) (he : Enters P f)
    {svs : List SV} {bx : List (Option (List SV))} {tk : List (Nat × TypeId)} {ax : Ax} {Q : SV → List (Option (List SV)) → List (Nat × TypeId) → Ax → Prop}
    (h : ∀ A P' Y' nb (R : St → Prop), A = stdOps ⟨P, T, clo, rows, Y⟩ → nb = (bx.length, ax.mp.length) → (∀ st, retR ⟨P', T, clo, rows, Y'⟩ nb fn.results.toList st Q → R st) →
      wpC' A ⟨P', T, clo, rows, Y'⟩ c nb ⟨svs ++ List.replicate (fn.ntmps - svs.length) .undef, bx, tk, ax⟩ fun e st => match e with | .exit _ => False | _ => R st) : CallsR ⟨P, T, clo, rows, Y⟩ f svs bx tk ax Q :=
  callsR_of (E := ⟨P, T, clo, rows, Y⟩) hE hf hb he (wpC_impl (E := ⟨P, T, clo, rows, Y⟩) (h _ P Y _ _ rfl rfl fun _ h => h))

theorem CallsR.flags {P : Program} {T : TypeId → TD} {clo clo' : FuncId → Bool} {rows rows' : Bool} {Y : YS} {f : FuncId} {svs : List SV} {bx : List (Option (List SV))} {tk : List (Nat × TypeId)} {ax : Ax} {Q : SV → List (Option (List SV)) → List (Nat × TypeId) → Ax → Prop}
    (h : CallsR ⟨P, T, clo, rows, Y⟩ f svs bx tk ax Q) : CallsR ⟨P, T, clo', rows', Y⟩ f svs bx tk ax Q := by
  have hi : ∀ {c1 c2 : FuncId → Bool} {r1 r2 : Bool} {B : Nat} {S0 : Addr → Prop} {bx : List (Option (List SV))} {tk : List (Nat × TypeId)} {ax : Ax} {G : Gh} {S : Addr → Prop} {w : World}, Inv ⟨P, T, c1, r1, Y⟩ B S0 bx tk ax G S w → Inv ⟨P, T, c2, r2, Y⟩ B S0 bx tk ax G S w :=
    fun h => ⟨h.base, h.s0, h.slt, h.lbx, h.ltk, h.old, h.dist, h.box, h.tok, h.apart, h.lmp, h.dmp, h.mpo, fun i b c h1 h2 => (by have := h.mpk i b c h1 h2; cases c; exact this), h.flt, h.fbx, h.ftk, h.fmp, h.yl⟩
  refine ⟨h.1, fun B S0 w0 G S w vs a b c d cs => ?_⟩
  obtain ⟨e, w', fr, ⟨v, r, bx', tk', ax', G', S', hq, h1, h2, h3⟩, h4⟩ := h.2 B S0 w0 G S w vs (hi a) b c d cs
  exact ⟨e, w', fr, ⟨v, r, bx', tk', ax', G', S', hq, h1, hi h2, h3⟩, h4⟩

/-- .. of a function that is ranged over. -/
theorem seqPV_by {P : Program} {T : TypeId → TD} {clo : FuncId → Bool} {rows : Bool} (hE : EnvOk ⟨P, T, clo, rows, .none⟩) {f : FuncId} {fn : Func} {c : Code} (hf : P.funcs[f]? = some fn) (hb : fn.body = some c) (he : Enters P f) (hr : fn.results = #[]) {caps : List PV} {xs : List (List PV)}
    (h : ∀ A P' Y Y' l (R : Nat → Prop), Real caps → Y.ys = xs → l = Y.l → A = stdOps ⟨P, T, clo, rows, Y⟩ → (∀ k, (k = xs.length ∨ k = xs.length + 1) → R k) →
      wpC' A ⟨P', T, clo, rows, Y'⟩ c (0, 0) ⟨(PV.yld l :: caps).map .val ++ List.replicate (fn.ntmps - (caps.length + 1)) .undef, [], [], ⟨[], 0⟩⟩ fun e st => match e with | .exit _ => False | _ => R st.ax.yk) : SeqPV P f caps xs :=
  seqPV_of hE hf hb he hr fun Y hY hR => wpC_impl (E := ⟨P, T, clo, rows, Y⟩) (h _ P Y Y _ _ hR hY rfl rfl fun _ h => h)

theorem CallsSt.flags {P : Program} {T : TypeId → TD} {clo clo' : FuncId → Bool} {rows rows' : Bool} {Y : YS} {f : FuncId} {svs : List SV} {bx bx' : List (Option (List SV))} {tk tk' : List (Nat × TypeId)} {ax ax' : Ax} {r : SV}
    (h : CallsSt ⟨P, T, clo, rows, Y⟩ f svs bx tk ax r bx' tk' ax') : CallsSt ⟨P, T, clo', rows', Y⟩ f svs bx tk ax r bx' tk' ax' := by
  have hi : ∀ {c1 c2 : FuncId → Bool} {r1 r2 : Bool} {B : Nat} {S0 : Addr → Prop} {bx : List (Option (List SV))} {tk : List (Nat × TypeId)} {ax : Ax} {G : Gh} {S : Addr → Prop} {w : World}, Inv ⟨P, T, c1, r1, Y⟩ B S0 bx tk ax G S w → Inv ⟨P, T, c2, r2, Y⟩ B S0 bx tk ax G S w :=
    fun h => ⟨h.base, h.s0, h.slt, h.lbx, h.ltk, h.old, h.dist, h.box, h.tok, h.apart, h.lmp, h.dmp, h.mpo, fun i b c h1 h2 => (by have := h.mpk i b c h1 h2; cases c; exact this), h.flt, h.fbx, h.ftk, h.fmp, h.yl⟩
  refine ⟨h.1, fun B S0 w0 G S w vs a b c d cs => ?_⟩
  obtain ⟨e, w', fr, ⟨v, G', S', h1, h2, h3⟩, h4⟩ := h.2 B S0 w0 G S w vs (hi a) b c d cs
  exact ⟨e, w', fr, ⟨v, G', S', h1, hi h2, h3⟩, h4⟩

end
end Go.Abs
