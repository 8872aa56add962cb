/-
  The abstract walk is sound: the ninth part: calls, regions in the order of the text.
-/
import Derived.Test.YthofonhkpilifaaAbs24
namespace Go.Abs
open Go.RowKit

/-- The fence of a walk: nothing is barred; 'r': the round that the walk is in. -/
def Fr (r : Option Nat) : Fence := { Fence.wide with round := r }

section
variable {E : Env} {B : Nat} {S0 : Addr → Prop} {w0 : World} {st : St} {G : Gh} {S : Addr → Prop} {w : World} {tmps : Array Value} {r : Option Nat} {n : Nat}

theorem Rel.put (R : Rel E B S0 w0 st G S w tmps) {s : SV} {v : Value} (h : RSV st.tk G S w s v) (dst : Option Tmp) (d : List Deferred) :
    Rel E B S0 w0 (st.put dst s) G S w (({ tmps := tmps, defers := d } : Act).put dst v).tmps ∧ (({ tmps := tmps, defers := d } : Act).put dst v).defers = d := by
  cases dst with
  | none => exact ⟨R, rfl⟩
  | some t =>
    refine ⟨⟨R.inv, R.below, by simp [St.put, Act.put, R.len], fun i s' v' h1 h2 => ?_⟩, rfl⟩
    simp only [St.put, List.getElem?_set] at h1
    simp only [Act.put, Array.getElem?_setIfInBounds] at h2
    by_cases hi : t = i
    · subst hi
      by_cases hlt : t < st.sl.length
      · have hlt' : t < tmps.size := by rw [← R.len]; exact hlt
        simp [hlt] at h1
        simp [hlt'] at h2
        subst h1; subst h2
        exact h
      · simp [hlt] at h1
    · simp [hi] at h1 h2
      exact R.sl i s' v' h1 h2

/-- The call of a function, told in trees, in a walk. -/
theorem run_call (R : Rel E B S0 w0 st G S w tmps) {f : FuncId} {args : List PV} {p : PV} {vs : List Value} (h : CallsPV E.P f args p) (hv : RVs S w args vs) {K : Act → World → Prop} {Q : Exit → Act → World → Prop} {o : Oper} {a : Act}
    (hK : ∀ (v : Value) (S' : Addr → Prop) (w' : World), Rel E B S0 w0 st G S' w' tmps → Ext st.tk G S w st.tk G S' w' → RV S' w' p v → K (a.put o.dst v) w') :
    CallsIn (Fr r) n E.P f vs.toArray w fun
      | .returned v, w'' => K (a.put o.dst v) w''
      | .panicked chain, w'' => Q (.panic chain) a w''
      | .outgrown, _ => LetsOut Q := by
  have h1 : CallsIn Fence.wide n E.P f vs.toArray w fun e w' => ∃ v, e = .returned v ∧ Below w.heap.size w w' ∧ RV (Snew S w w') w' p v := callsIn_wide.2 (h.2 S w vs R.inv.slt hv)
  have h2 := h1.mono (R' := fun
      | .returned v, w'' => K (a.put o.dst v) w''
      | .panicked chain, w'' => Q (.panic chain) a w''
      | .outgrown, _ => LetsOut Q) (fun e w' ⟨v, he, hb, hr⟩ => by
    subst he
    obtain ⟨R1, X1⟩ := R.transport (S' := Snew S w w') (w' := w') (fun _ h => .inl h) (fun _ h => h) hb
    exact hK v _ w' R1 X1 hr)
  exact h2

/-- .. of one to which a row is lent. -/
theorem run_lent (R : Rel E B S0 w0 st G S w tmps) {f : FuncId} {m : Nat} {xs : List PV} {p : PV} {id off len cap : Nat} {cells : List SV} {v : Value} (h : CallsFresh E.P f m xs p) (hv : RSV st.tk G S w (.row id off m len cap) v) (hc : st.bx.getD id none = some cells)
    (hx : (cells.drop off).take (len * m) = (xs.flatMap PV.cells).map SV.val) (hl : xs.length = len) (hm : ∀ x ∈ xs, x.cells.length = m) {K : Act → World → Prop} {Q : Exit → Act → World → Prop} {o : Oper} {a : Act}
    (hK : ∀ (v : Value) (S' : Addr → Prop) (w' : World), Rel E B S0 w0 st G S' w' tmps → Ext st.tk G S w st.tk G S' w' → RV S' w' p v → K (a.put o.dst v) w') :
    CallsIn (Fr r) n E.P f #[v] w fun
      | .returned v, w'' => K (a.put o.dst v) w''
      | .panicked chain, w'' => Q (.panic chain) a w''
      | .outgrown, _ => LetsOut Q := by
  obtain ⟨b, hb, rfl, hlc, hcm⟩ := hv
  have hc' := getD_some hc
  obtain ⟨⟨tb, arr, hh, hasz, har⟩, hSb⟩ := R.inv.box id b cells hc' hb
  have hxl : (xs.flatMap PV.cells).length = len * m := by
    have hr : ∀ (l : List PV), (∀ y ∈ l, y.cells.length = m) → (l.flatMap PV.cells).length = l.length * m := by
      intro l
      induction l with
      | nil => intro _; simp
      | cons y l ih2 => intro hy; rw [List.flatMap_cons, List.length_append, ih2 (fun z hz => hy z (List.mem_cons_of_mem _ hz)), hy y List.mem_cons_self, List.length_cons, Nat.succ_mul]; omega
    rw [hr xs hm, hl]
  have hcl : ((cells.drop off).take (len * m)).length = len * m := by rw [hx, List.length_map, hxl]
  have hfit : len * m ≤ cells.length - off := by
    rw [List.length_take, List.length_drop] at hcl; omega
  have hvl : ((arr.toList.drop off).take (len * m)).length = len * m := by rw [List.length_take, List.length_drop, Array.length_toList, hasz]; omega
  have hcell : ∀ (j : Nat) (v : Value), ((arr.toList.drop off).take (len * m))[j]? = some v → arr[off + j]? = some v ∧ j < len * m := fun j v hv => by
    rw [List.getElem?_take] at hv
    split at hv
    · rename_i hj
      rw [List.getElem?_drop, Array.getElem?_toList] at hv
      exact ⟨hv, hj⟩
    · cases hv
  have hget : ∀ (j : Nat), j < len * m → ∀ (p : PV), (xs.flatMap PV.cells)[j]? = some p → cells[off + j]? = some (.val p) := fun j hj p hp => by
    have : ((cells.drop off).take (len * m))[j]? = some (.val p) := by rw [hx, List.getElem?_map, hp]; rfl
    rw [List.getElem?_take, if_pos hj, List.getElem?_drop] at this
    exact this
  have hrel : RVs S w (xs.flatMap PV.cells) ((arr.toList.drop off).take (len * m)) := ⟨by rw [hxl, hvl], fun j p v hp hv => by
    obtain ⟨q1, q2⟩ := hcell j v hv
    exact (har _ _ v (hget j q2 p hp) q1).1⟩
  have h0 := h.2 S w ⟨b, off, none⟩ cap ((arr.toList.drop off).take (len * m)) R.inv.slt (by rw [hvl, hl]) (fun j v hv => by
    obtain ⟨q1, q2⟩ := hcell j v hv
    rw [addr_box]
    have hj : j < (xs.flatMap PV.cells).length := by rw [hxl]; exact q2
    exact ⟨by simp [World.cell?, hh, q1], (har _ _ v (hget j q2 _ (List.getElem?_eq_getElem hj)) q1).2⟩) hrel (by rw [hl]; exact hlc) hcm
  rw [hl] at h0
  have h1 : CallsIn Fence.wide n E.P f #[.slice (some ⟨b, off, none⟩) len cap] w fun e w' => ∃ v, e = .returned v ∧ Below w.heap.size w w' ∧ RV (Snew S w w') w' p v := callsIn_wide.2 h0
  have h2 := h1.mono (R' := fun
      | .returned v, w'' => K (a.put o.dst v) w''
      | .panicked chain, w'' => Q (.panic chain) a w''
      | .outgrown, _ => LetsOut Q) (fun e w' ⟨v, he, hb, hr⟩ => by
    subst he
    obtain ⟨R1, X1⟩ := R.transport (S' := Snew S w w') (w' := w') (fun _ h => .inl h) (fun _ h => h) hb
    exact hK v _ w' R1 X1 hr)
  exact h2

/-- .. of one that shares the caller's variables. -/
theorem run_deep (R : Rel E B S0 w0 st G S w tmps) {f : FuncId} {svs : List SV} {QR : SV → List (Option (List SV)) → List (Nat × TypeId) → Ax → Prop} {vs : List Value} (h : CallsR E f svs st.bx st.tk st.ax QR) (hl : svs.length = vs.length)
    (hv : ∀ (i : Nat) (s : SV) (v : Value), svs[i]? = some s → vs[i]? = some v → RSV st.tk G S w s v) {K : Act → World → Prop} {Q : Exit → Act → World → Prop} {o : Oper} {a : Act}
    (hK : ∀ (v : Value) (rv : SV) (bx' : List (Option (List SV))) (tk' : List (Nat × TypeId)) (ax' : Ax) (G' : Gh) (S' : Addr → Prop) (w' : World), QR rv bx' tk' ax' → Rel E B S0 w0 ⟨st.sl, bx', tk', ax'⟩ G' S' w' tmps → Ext st.tk G S w tk' G' S' w' → RSV tk' G' S' w' rv v → K (a.put o.dst v) w') :
    CallsIn (Fr r) n E.P f vs.toArray w fun
      | .returned v, w'' => K (a.put o.dst v) w''
      | .panicked chain, w'' => Q (.panic chain) a w''
      | .outgrown, _ => LetsOut Q := by
  have h1 := callsIn_wide (n := n).2 (h.2 B S0 w0 G S w vs R.inv R.below hl hv)
  have h2 := h1.mono (R' := fun
      | .returned v, w'' => K (a.put o.dst v) w''
      | .panicked chain, w'' => Q (.panic chain) a w''
      | .outgrown, _ => LetsOut Q) (fun e w' ⟨v, rv, bx', tk', ax', G', S', hq, he, hi, hb, hx, hr⟩ => by
    subst he
    exact hK v rv bx' tk' ax' G' S' w' hq ⟨hi, hb, R.len, fun t s v a1 a2 => RSV.mono hx (R.sl t s v a1 a2)⟩ hx hr)
  exact h2

/-- One more round of the loop for which the activation works. -/
theorem Rel.yielded (R : Rel E B S0 w0 st G S w tmps) (hB : B = 0) {k' : Nat} {F' : Nat → Prop} {S' : Addr → Prop} {w' : World} (hJ : E.Y.J k' F' S' w') (hc : Below 0 w w') (hsame : ∀ b, b < w.heap.size → ¬ G.fp b → w'.heap[b]? = w.heap[b]?)
    (hF : ∀ b, F' b → (G.fp b ∨ w.heap.size ≤ b) ∧ b < w'.heap.size) (hsub : ∀ a, S a → S' a) (hcell : ∀ a, S a → w'.cell? a = w.cell? a) (hS : ∀ a, S' a → (S a ∨ G.fp a.block ∨ w.heap.size ≤ a.block) ∧ a.block < w'.heap.size) :
    Rel E B S0 w0 (st.yks k') ⟨G.bx, G.tk, G.mp, F'⟩ S' w' tmps ∧ Ext st.tk G S w st.tk ⟨G.bx, G.tk, G.mp, F'⟩ S' w' := by
  subst hB
  have hI := R.inv
  have hX : Ext st.tk G S w st.tk ⟨G.bx, G.tk, G.mp, F'⟩ S' w' := ⟨fun _ _ h => h, fun _ hv le h1 h2 => ⟨hv, le, h1, h2, .inl ⟨rfl, rfl⟩⟩, hsub, hcell, fun _ _ h => h, hc, fun b hb hf => hsame b hb (fun h => hf (.inr (.inr (.inr h)))), fun b hb hf => by
    rcases hf with h | h | h | h
    · exact .inl h
    · exact .inr (.inl h)
    · exact .inr (.inr (.inl h))
    · rcases (hF b h).1 with h | h
      · exact .inr (.inr (.inr h))
      · omega, fun a ha => by
    rcases (hS a ha).1 with h | h | h
    · exact .inl h
    · exact .inr (.inl (.inr (.inr (.inr h))))
    · exact .inr (.inr h)⟩
  have htk : ∀ {t n cap g : Nat}, G.tk[t]? = some (.slice (some ⟨g, 0, none⟩) n cap) → n < cap → g < w.heap.size := by
    intro t n cap g h1 h2
    have hl : t < st.tk.length := by rw [← hI.ltk]; exact (List.getElem?_eq_some_iff.1 h1).1
    obtain ⟨a, cap1, k1, k2, k3, k4⟩ := hI.tok t _ _ _ (List.getElem?_eq_getElem hl) h1
    injection k1 with k1 k5 k6
    subst k6
    rw [← k5] at k4
    obtain ⟨g', cur, c1, c2, c3, _⟩ := k4 h2
    rw [← k1] at c1
    injection c1 with c1
    injection c1 with c1
    rw [c1]
    exact (Array.getElem?_eq_some_iff.1 c3).1
  refine ⟨⟨⟨Nat.zero_le _, fun a _ => .inr (Nat.zero_le _), fun a ha => (hS a ha).2, hI.lbx, hI.ltk, fun i b h => ⟨Nat.zero_le _, Nat.lt_of_lt_of_le (hI.old i b h).2 hc.size⟩, hI.dist, fun id b cs h1 h2 => ?_, fun t n e hv h1 h2 => ?_, hI.apart, hI.lmp, hI.dmp,
    fun i b h => ⟨Nat.zero_le _, Nat.lt_of_lt_of_le (hI.mpo i b h).2 hc.size⟩, fun i b c h1 h2 => (hI.mpk i b c h1 h2).same (hsame b (hI.mpo i b h2).2 (hI.fmp i b h2)), fun b h => (hF b h).2, fun i b h hf => ?_, fun t n cap g h1 h2 hf => ?_, fun i b h hf => ?_, hJ, hI.yl.2⟩,
    R.below.trans hc, R.len, fun t s v a1 a2 => RSV.mono hX (R.sl t s v a1 a2)⟩, hX⟩
  · obtain ⟨⟨t', arr, b1, b2, b3⟩, b4⟩ := hI.box id b cs h1 h2
    have hlt := (hI.old id b h2).2
    have hf := hI.fbx id b h2
    refine ⟨⟨t', arr, (hsame b hlt hf).trans b1, b2, fun j c v a1 a2 => ⟨RSV.mono hX (b3 j c v a1 a2).1, (b3 j c v a1 a2).2⟩⟩, fun a ha hab => ?_⟩
    rcases (hS a ha).1 with h | h | h
    · exact b4 a h hab
    · rw [hab] at h; exact hf h
    · omega
  · obtain ⟨a, cap, k1, k2, k3, k4⟩ := hI.tok t n e hv h1 h2
    refine ⟨a, cap, k1, k2, k3, fun hlt => ?_⟩
    obtain ⟨g, cur, c1, c2, c3, c4, c5, c6⟩ := k4 hlt
    have hg := (Array.getElem?_eq_some_iff.1 c3).1
    have hf : ¬ G.fp g := hI.ftk t n cap g (by rw [h2, k1, c1]) hlt
    refine ⟨g, cur, c1, Nat.zero_le _, (hsame g hg hf).trans c3, c4, fun a ha hab => ?_, c6⟩
    rcases (hS a ha).1 with h | h | h
    · exact c5 a h hab
    · rw [hab] at h; exact absurd h hf
    · omega
  · rcases (hF b hf).1 with h' | h'
    · exact hI.fbx i b h h'
    · have := (hI.old i b h).2; omega
  · rcases (hF g hf).1 with h' | h'
    · exact hI.ftk t n cap g h1 h2 h'
    · have := htk h1 h2; omega
  · rcases (hF b hf).1 with h' | h'
    · exact hI.fmp i b h h'
    · have := (hI.mpo i b h).2; omega

/-- .. in a walk. -/
theorem run_yieldA (hE : EnvOk E) (R : Rel E B S0 w0 st G S w tmps) {l : Nat} {ps : List PV} {vs : List Value} {K : SV → St → Prop} (h : wpYield E l ps st K) (hv : RVs S w ps vs) {next : Act → World → Prop} {Q : Exit → Act → World → Prop} {o : Oper} {a : Act}
    (hn : ∀ (v : Value) (s : SV) (st' : St) (G' : Gh) (S' : Addr → Prop) (w' : World), K s st' → Rel E B S0 w0 st' G' S' w' tmps → RSV st'.tk G' S' w' s v → Ext st.tk G S w st'.tk G' S' w' → next (a.put o.dst v) w') :
    o.uponIn (Fr r) n E.P a next Q ((Instr.yield l vs.toArray).run E.P w) := by
  obtain ⟨rfl, hy, h1, h2⟩ := h
  obtain ⟨fn, tm, asg, body, hrun, hR⟩ := hE.yok r (n - 1) _ ps vs G.fp S w hy R.inv.yl.1 R.inv.flt R.inv.slt hv
  rw [hrun]
  refine ⟨fun h => absurd h (by simp [Fr, Fence.wide]), hR.mono ?_⟩
  rintro e w' ⟨k', F', S', he, hJ, hc, hsame, hF, hsub, hcell, hS⟩
  have hB : B = 0 := R.inv.yl.2 (fun e => by rw [e] at hy; cases hy)
  obtain ⟨R1, X1⟩ := R.yielded hB hJ hc hsame hF hsub hcell hS
  rcases he with ⟨rfl, rfl⟩ | ⟨rfl, rfl⟩
  · exact hn _ _ _ _ _ _ h1 R1 (RV.bool _) X1
  · exact hn _ _ _ _ _ _ h2 R1 (RV.bool _) X1

theorem pvs_rel (R : Rel E B S0 w0 st G S w tmps) (d : List Deferred) {args : Array Operand} {l : List PV} (h : pvsOf (args.toList.map (valOf st)) = some l) :
    RVs S w l (args.map ({ tmps := tmps, defers := d } : Act).eval).toList :=
  RSVs.pvs (tk := st.tk) (G := G) h (by simp) (rel_list R d args)

/-- ONE OPERATION. -/
theorem wpOp_ok (hE : EnvOk E) (R : Rel E B S0 w0 st G S w tmps) (o : Oper) (d : List Deferred) {dr : Bool} {K : SV → St → Prop} (h : wpOp E dr o.op st K) {next : Act → World → Prop} {Q : Exit → Act → World → Prop}
    (hn : ∀ (v : Value) (s : SV) (st' : St) (G' : Gh) (S' : Addr → Prop) (w' : World), K s st' → Rel E B S0 w0 st' G' S' w' tmps → RSV st'.tk G' S' w' s v → Ext st.tk G S w st'.tk G' S' w' → next (({ tmps := tmps, defers := d } : Act).put o.dst v) w') :
    o.wpIn (Fr r) n E.P { tmps := tmps, defers := d } w next Q := by
  refine ⟨fun _ _ => trivial, ?_⟩
  have plain : ∀ (hnd : ∀ c, o.op ≠ .defer c), Res.go (evalOp E o.op st) K → o.uponIn (Fr r) n E.P { tmps := tmps, defers := d } next Q ((o.semAt (Fr r).round ({ tmps := tmps, defers := d } : Act).eval).run E.P w) := by
    intro hnd hg
    rw [Oper.semAt_eq _ _ _ hnd]
    unfold Res.go at hg
    split at hg
    · rename_i r' hr'
      obtain ⟨nx, v, w', hrun, hnx, G', S', R', V', X'⟩ := ok_op hE R o d r' hr' hg.1
      rw [hrun]
      rcases hnx with rfl | ⟨rfl, rfl⟩
      · exact hn v _ _ G' S' w' hg.2 R' V' X'
      · exact hn undef _ _ G' S' w' hg.2 R' V' X'
    · exact hg.elim
  unfold wpOp at h
  split at h
  · rename_i x args ts ho
    rw [Oper.semAt_eq _ _ _ (fun c hc => by rw [ho] at hc; cases hc)]
    have hx := R.val x d
    have hargs := rel_list R d args
    have hrun : ∀ (f : FuncId) (cvs : List Value), ({ tmps := tmps, defers := d } : Act).eval x = .func (.func f) #[] cvs.toArray → Enters E.P f →
        (execOp ({ tmps := tmps, defers := d } : Act).eval o).run E.P w = .ok (.enter f ((args.map ({ tmps := tmps, defers := d } : Act).eval).toList ++ cvs).toArray) w := by
      intro f cvs hvf hen
      unfold execOp
      rw [ho]
      simp only [resolve, hvf, Deferred.ofValue, Sem.run_bind, Sem.run_pure, Result.andThen_ok, invoke, hen _ w]
      congr 2
      simp
    split at h
    · rename_i f caps hf
      rw [hf] at hx
      generalize hvf : ({ tmps := tmps, defers := d } : Act).eval x = vf at hx
      cases hx with
      | fn _ _ cvs hlc hc =>
        split at h
        · rename_i l hl
          obtain ⟨p, hp, hk⟩ := h
          rw [hrun f cvs hvf hp.1]
          refine ⟨fun h => absurd h (by simp [Fr, Fence.wide]), ?_⟩
          exact run_call R hp (RVs.append (pvs_rel R d hl) ⟨hlc, hc⟩) (fun v S' w' R' X' V' => hn v _ _ G S' w' hk R' V' X')
        · obtain ⟨_, h⟩ := h
          rcases h with h | ⟨hcaps, h⟩ | h
          rotate_left
          · subst hcaps
            have hc0 : cvs = [] := List.eq_nil_of_length_eq_zero hlc.symm
            subst hc0
            obtain ⟨id, off, m, len, cap, cells, xs, p, hargs1, hcells, hx1, hxl, hxm, hp, hk⟩ := h
            rw [hrun f [] hvf hp.1]
            refine ⟨fun h => absurd h (by simp [Fr, Fence.wide]), ?_⟩
            have hone : ∃ v, (args.map ({ tmps := tmps, defers := d } : Act).eval).toList = [v] := by
              have hlen : ((args.map ({ tmps := tmps, defers := d } : Act).eval).toList).length = 1 := by
                have := congrArg List.length hargs1
                simpa using this
              match hq : (args.map ({ tmps := tmps, defers := d } : Act).eval).toList, hlen with
              | [v], _ => exact ⟨v, rfl⟩
            obtain ⟨v, hv1⟩ := hone
            have hvr := hargs 0 (.row id off m len cap) v (by rw [hargs1]; rfl) (by rw [hv1]; rfl)
            rw [hv1]
            exact run_lent R hp hvr hcells hx1 hxl hxm (fun v S' w' R' X' V' => hn v _ _ G S' w' hk R' V' X')
          · obtain ⟨QR, hp, hk⟩ := h
            rw [hrun f cvs hvf hp.1]
            refine ⟨fun h => absurd h (by simp [Fr, Fence.wide]), ?_⟩
            refine run_deep R hp (by simp [hlc]) (fun i s v a1 a2 => ?_) (fun v rv bx' tk' ax' G' S' w' hq R' X' V' => hn v rv ⟨st.sl, bx', tk', ax'⟩ G' S' w' (hk _ _ _ _ hq) R' V' X')
            by_cases hi : i < args.size
            · rw [List.getElem?_append_left (by simpa using hi)] at a1 a2
              exact hargs i s v a1 (by simpa using a2)
            · rw [List.getElem?_append_right (by simp; omega)] at a1 a2
              simp only [List.length_map, Array.length_toList, Array.size_map] at a1 a2
              rw [List.getElem?_map] at a1
              cases hq : caps[i - args.size]? with
              | none => rw [hq] at a1; cases a1
              | some c =>
                rw [hq] at a1
                simp only [Option.map_some, Option.some.injEq] at a1
                subst a1
                exact hc _ c v hq a2
          obtain ⟨st', l', ps, hF, hps, p, hp, hk⟩ := h
          obtain ⟨S', R1, X1, hl1, V1⟩ := hF.ok (vs := (args.map ({ tmps := tmps, defers := d } : Act).eval).toList) R (by simpa using hargs)
          have hlen : l'.length = ((args.map ({ tmps := tmps, defers := d } : Act).eval).toList).length := by rw [hl1]; simp
          have hrvs := RSVs.pvs (tk := st'.tk) (G := G) hps hlen V1
          have hcap : RVs S' w caps cvs := RVs.mono X1.sub X1.cell ⟨hlc, hc⟩
          rw [hrun f cvs hvf hp.1]
          refine ⟨fun h => absurd h (by simp [Fr, Fence.wide]), ?_⟩
          exact run_call R1 hp (RVs.append hrvs hcap) (fun v S'' w' R' X' V' => hn v _ _ G S'' w' hk R' V' (X1.trans X'))
    · rename_i f caps hf
      rw [hf] at hx
      obtain ⟨_, QR, hp, hk⟩ := h
      obtain ⟨cvs, hvf, hlc, hc⟩ := hx
      rw [hrun f cvs hvf hp.1]
      refine ⟨fun h => absurd h (by simp [Fr, Fence.wide]), ?_⟩
      refine run_deep R hp (by simp [hlc]) (fun i s v a1 a2 => ?_) (fun v rv bx' tk' ax' G' S' w' hq R' X' V' => hn v rv ⟨st.sl, bx', tk', ax'⟩ G' S' w' (hk _ _ _ _ hq) R' V' X')
      by_cases hi : i < args.size
      · rw [List.getElem?_append_left (by simpa using hi)] at a1 a2
        exact hargs i s v a1 (by simpa using a2)
      · rw [List.getElem?_append_right (by simp; omega)] at a1 a2
        simp only [List.length_map, Array.length_toList, Array.size_map] at a1 a2
        rw [List.getElem?_map] at a1
        cases hq : caps[i - args.size]? with
        | none => rw [hq] at a1; cases a1
        | some c =>
          rw [hq] at a1
          simp only [Option.map_some, Option.some.injEq] at a1
          subst a1
          have := hc _ c v hq a2
          cases c <;> exact this
    · rename_i l hf
      rw [hf] at hx
      generalize hvf : ({ tmps := tmps, defers := d } : Act).eval x = vf at hx
      cases hx with
      | yld _ =>
        have hry : (execOp ({ tmps := tmps, defers := d } : Act).eval o).run E.P w = (Instr.yield l (args.map ({ tmps := tmps, defers := d } : Act).eval)).run E.P w := by
          unfold execOp
          rw [ho]
          simp only [resolve, hvf, Deferred.ofValue, Sem.run_bind, Sem.run_pure, Result.andThen_ok, invoke]
          simp
        rw [hry]
        split at h
        · rename_i ps hps
          have := run_yieldA (r := r) (n := n) (Q := Q) (o := o) (a := { tmps := tmps, defers := d }) (next := next) hE R h.2 (pvs_rel R d hps) hn
          rw [Array.toArray_toList] at this
          exact this
        · obtain ⟨_, st', l', ps, hF, hps, hy⟩ := h
          obtain ⟨S', R1, X1, hl1, V1⟩ := hF.ok (vs := (args.map ({ tmps := tmps, defers := d } : Act).eval).toList) R (by simpa using hargs)
          have hlen : l'.length = ((args.map ({ tmps := tmps, defers := d } : Act).eval).toList).length := by rw [hl1]; simp
          have hrvs := RSVs.pvs (tk := st'.tk) (G := G) hps hlen V1
          have := run_yieldA (r := r) (n := n) (Q := Q) (o := o) (a := { tmps := tmps, defers := d }) (next := next) hE R1 hy hrvs (fun v s st2 G2 S2 w2 hk R2 V2 X2 => hn v s st2 G2 S2 w2 hk R2 V2 (X1.trans X2))
          rw [Array.toArray_toList] at this
          exact this
    · exact h.elim
  · rename_i args ts ho
    split at h
    · obtain ⟨_, h⟩ := h
      rw [Oper.semAt_eq _ _ _ (fun c hc => by rw [ho] at hc; cases hc)]
      obtain ⟨v, w', hrun, sv, st', G', S', hk, R', V', X'⟩ := ok_appR hE R h (vs := (args.map ({ tmps := tmps, defers := d } : Act).eval).toList) (by simp) (by simpa using rel_list R d args) o.type
      have hex : (execOp ({ tmps := tmps, defers := d } : Act).eval o).run E.P w = .ok (.value v) w' := by
        unfold execOp
        rw [ho]
        simp only [Array.toArray_toList] at hrun
        simp [resolve, invoke, builtin, hrun]
      rw [hex]
      exact hn v _ _ G' S' w' hk R' V' X'
    · refine plain (fun c hc => ?_) h
      rw [hc] at ho
      cases ho
  · rename_i hne1 hne2
    refine plain (fun c hc => ?_) h
    rw [hc] at h
    exact h
  
theorem put_tk (m : St) (d : Option Tmp) (v : SV) : (m.put d v).tk = m.tk := by cases d <;> rfl

/-- One operation of a region. -/
theorem wpOne_ok (hE : EnvOk E) {ops : Array Oper} {i : Nat} {o : Oper} (ho : ops[i]? = some o) {dr : Bool} {K : St → Prop} {Kont : Act → World → Prop} {Q : Exit → Act → World → Prop} (d : List Deferred) {tk0 : List (Nat × TypeId)} {G0 : Gh} {S1 : Addr → Prop} {w1 : World}
    (h : wpOps E dr ops.toList [o] st K) (R : Rel E B S0 w0 st G S w tmps) (X : Ext tk0 G0 S1 w1 st.tk G S w)
    (hK : ∀ (st' : St) (G' : Gh) (S' : Addr → Prop) (w' : World) (tmps' : Array Value), K st' → Rel E B S0 w0 st' G' S' w' tmps' → Ext tk0 G0 S1 w1 st'.tk G' S' w' → Kont { tmps := tmps', defers := d } w') :
    wpOpIn (Fr r) n E.P ops Q i Kont { tmps := tmps, defers := d } w := by
  have go : ∀ (v : Value) (s : SV) (st' : St) (G' : Gh) (S' : Addr → Prop) (w' : World), K (st'.put o.dst s) → Rel E B S0 w0 st' G' S' w' tmps → RSV st'.tk G' S' w' s v → Ext tk0 G0 S1 w1 st'.tk G' S' w' →
      Kont (({ tmps := tmps, defers := d } : Act).put o.dst v) w' := by
    intro v s st' G' S' w' hk R' V' X'
    obtain ⟨R2, hd⟩ := R'.put V' o.dst d
    have hact : ({ tmps := tmps, defers := d } : Act).put o.dst v = { tmps := (({ tmps := tmps, defers := d } : Act).put o.dst v).tmps, defers := d } := by
      cases hq : ({ tmps := tmps, defers := d } : Act).put o.dst v with
      | mk t ds => rw [hq] at hd; simp only at hd; rw [hd]
    rw [hact]
    exact hK _ G' S' w' _ hk R2 (by rw [put_tk]; exact X')
  simp only [wpOpIn, ho]
  simp only [wpOps] at h
  split at h
  · rename_i hg
    rw [if_pos (by simp [Region.wanted, hg])]
    exact wpOp_ok hE R o d h (fun v s st' G' S' w' hk R' V' X' => go v s st' G' S' w' hk R' V' (X.trans X'))
  · rename_i j want hg
    split at h
    · exact h.elim
    · rename_i t ht
      have hty : (ops[j]?).bind (·.dst) = some t := by simpa [dstOf] using ht
      split at h
      · rename_i hu
        have hno : Region.wanted o (yielded ops tmps) = false := by
          simp only [Region.wanted, hg, yielded, hty, Option.bind_some]
          by_cases hlt : t < st.sl.length
          · have hlt' : t < tmps.size := by rw [← R.len]; exact hlt
            have hs : st.sl[t]? = some .undef := by
              rw [List.getD_eq_getElem?_getD, List.getElem?_eq_getElem hlt] at hu
              rw [List.getElem?_eq_getElem hlt]
              simpa using hu
            have hv := R.sl t _ _ hs (Array.getElem?_eq_getElem hlt')
            rw [Array.getElem?_eq_getElem hlt', show tmps[t] = undef from hv]
            rfl
          · have hlt' : ¬ t < tmps.size := by rw [← R.len]; exact hlt
            rw [Array.getElem?_eq_none (Nat.le_of_not_lt hlt')]
            rfl
        rw [if_neg (by rw [hno]; simp)]
        exact ⟨fun _ _ => trivial, go undef .undef st G S w h R rfl X⟩
      · rename_i b hb
        have hlt : t < st.sl.length := by
          rcases Nat.lt_or_ge t st.sl.length with h' | h'
          · exact h'
          · rw [List.getD_eq_getElem?_getD, List.getElem?_eq_none h'] at hb; cases hb
        have hlt' : t < tmps.size := by rw [← R.len]; exact hlt
        have hs : st.sl[t]? = some (.val (.bool b)) := by
          rw [List.getD_eq_getElem?_getD, List.getElem?_eq_getElem hlt] at hb
          rw [List.getElem?_eq_getElem hlt]
          simpa using hb
        have hv : tmps[t] = .bool b := RV.bool_inv (R.sl t _ _ hs (Array.getElem?_eq_getElem hlt'))
        have hyl : yielded ops tmps j = some b := by
          simp only [yielded, hty, Option.bind_some, Array.getElem?_eq_getElem hlt', hv]
        have hput : ∀ b', b = b' → st.put (some t) (.val (.bool b')) = st := by
          intro b' e
          subst e
          have : st.sl.set t (.val (.bool b)) = st.sl := by
            apply List.ext_getElem?
            intro i
            rw [List.getElem?_set]
            split
            · rename_i hi; subst hi; rw [hs]
            · rfl
          simp [St.put, this]
        by_cases hbw : b = want
        · rw [if_pos (by simp [Region.wanted, hg, hyl, hbw])]
          have h1 := h.1 hbw
          rw [hput want hbw] at h1
          exact wpOp_ok hE R o d h1 (fun v s st' G' S' w' hk R' V' X' => go v s st' G' S' w' hk R' V' (X.trans X'))
        · rw [if_neg (by simp [Region.wanted, hg, hyl, hbw])]
          have hbn : b = !want := by cases b <;> cases want <;> simp_all
          have h1 := h.2 hbn
          rw [hput (!want) hbn] at h1
          exact ⟨fun _ _ => trivial, go undef .undef st G S w h1 R rfl X⟩
      · exact h.elim

/-- A region whose order is drawn, each order for itself. -/
theorem wpAll_ok (hE : EnvOk E) (ops : Array Oper) {K : St → Prop} {Q : Exit → Act → World → Prop} (d : List Deferred) {tk0 : List (Nat × TypeId)} {G0 : Gh} {S1 : Addr → Prop} {w1 : World}
    (hQ : ∀ (st' : St) (G' : Gh) (S' : Addr → Prop) (w' : World) (tmps' : Array Value), K st' → Rel E B S0 w0 st' G' S' w' tmps' → Ext tk0 G0 S1 w1 st'.tk G' S' w' → Q .normal { tmps := tmps', defers := d } w') :
    ∀ (fuel : Nat) (listed : Array Bool) (st : St) (G : Gh) (S : Addr → Prop) (w : World) (tmps : Array Value), wpAll E ops fuel listed st K → Rel E B S0 w0 st G S w tmps → Ext tk0 G0 S1 w1 st.tk G S w →
      wpAnyIn (Fr r) n E.P .any ops Q fuel listed { tmps := tmps, defers := d } w
  | 0, listed, st, G, S, w, tmps, h, R, X => by
    simp only [wpAll] at h
    split at h
    · rename_i h0; exact ⟨h0, hQ st G S w tmps h R X⟩
    · exact h.elim
  | fuel + 1, listed, st, G, S, w, tmps, h, R, X => by
    simp only [wpAll] at h
    split at h
    · rename_i h0
      refine ⟨fun _ => hQ st G S w tmps h R X, fun i hi => ?_⟩
      rw [h0] at hi; cases hi
    · rename_i i0 rest h0
      refine ⟨fun e => (by rw [e] at h0; cases h0), fun i hi => ?_⟩
      rw [h0] at hi
      have h1 := allL_get h i hi
      split at h1
      · exact h1.elim
      · rename_i o ho
        exact wpOne_ok hE ho d h1 R X fun st' G' S' w' tmps' hk R' X' => wpAll_ok hE ops d hQ fuel _ st' G' S' w' tmps' hk R' X'

/-- A region, operation by operation, in the order of the text. -/
theorem wpOps_ok (hE : EnvOk E) (ops : Array Oper) {dr : Bool} {K : St → Prop} {Q : Exit → Act → World → Prop} (d : List Deferred) {tk0 : List (Nat × TypeId)} {G0 : Gh} {S1 : Addr → Prop} {w1 : World} :
    ∀ (l : List Oper) (k : Nat) (st : St) (G : Gh) (S : Addr → Prop) (w : World) (tmps : Array Value), (∀ j, l[j]? = ops[k + j]?) → wpOps E dr ops.toList l st K → Rel E B S0 w0 st G S w tmps → Ext tk0 G0 S1 w1 st.tk G S w →
      (∀ (st' : St) (G' : Gh) (S' : Addr → Prop) (w' : World) (tmps' : Array Value), K st' → Rel E B S0 w0 st' G' S' w' tmps' → Ext tk0 G0 S1 w1 st'.tk G' S' w' → Q .normal { tmps := tmps', defers := d } w') →
      wpOpsIn (Fr r) n E.P ops Q (List.range' k l.length) { tmps := tmps, defers := d } w
  | [], k, st, G, S, w, tmps, _, h, R, X, hQ => hQ st G S w tmps h R X
  | o :: rest, k, st, G, S, w, tmps, hl, h, R, X, hQ => by
    have ho : ops[k]? = some o := by simpa using (hl 0).symm
    have hl' : ∀ j, rest[j]? = ops[k + 1 + j]? := fun j => by have := hl (j + 1); simpa [Nat.add_assoc, Nat.add_comm 1 j] using this
    have go : ∀ (v : Value) (s : SV) (st' : St) (G' : Gh) (S' : Addr → Prop) (w' : World), wpOps E dr ops.toList rest (st'.put o.dst s) K → Rel E B S0 w0 st' G' S' w' tmps → RSV st'.tk G' S' w' s v → Ext tk0 G0 S1 w1 st'.tk G' S' w' →
        wpOpsIn (Fr r) n E.P ops Q (List.range' (k + 1) rest.length) (({ tmps := tmps, defers := d } : Act).put o.dst v) w' := by
      intro v s st' G' S' w' hk R' V' X'
      obtain ⟨R2, hd⟩ := R'.put V' o.dst d
      have hact : ({ tmps := tmps, defers := d } : Act).put o.dst v = { tmps := (({ tmps := tmps, defers := d } : Act).put o.dst v).tmps, defers := d } := by
        cases hq : ({ tmps := tmps, defers := d } : Act).put o.dst v with
        | mk t ds => rw [hq] at hd; simp only at hd; rw [hd]
      rw [hact]
      exact wpOps_ok hE ops d rest (k + 1) _ G' S' w' _ hl' hk R2 (by rw [put_tk]; exact X') hQ
    simp only [List.length_cons, List.range'_succ, wpOpsIn, ho]
    simp only [wpOps] at h
    split at h
    · rename_i hg
      rw [if_pos (by simp [Region.wanted, hg])]
      exact wpOp_ok hE R o d h (fun v s st' G' S' w' hk R' V' X' => go v s st' G' S' w' hk R' V' (X.trans X'))
    · rename_i j want hg
      split at h
      · exact h.elim
      · rename_i t ht
        have hty : (ops[j]?).bind (·.dst) = some t := by simpa [dstOf] using ht
        split at h
        · rename_i hu
          have hno : Region.wanted o (yielded ops tmps) = false := by
            simp only [Region.wanted, hg, yielded, hty, Option.bind_some]
            by_cases hlt : t < st.sl.length
            · have hlt' : t < tmps.size := by rw [← R.len]; exact hlt
              have hs : st.sl[t]? = some .undef := by
                rw [List.getD_eq_getElem?_getD, List.getElem?_eq_getElem hlt] at hu
                rw [List.getElem?_eq_getElem hlt]
                simpa using hu
              have hv := R.sl t _ _ hs (Array.getElem?_eq_getElem hlt')
              rw [Array.getElem?_eq_getElem hlt', show tmps[t] = undef from hv]
              rfl
            · have hlt' : ¬ t < tmps.size := by rw [← R.len]; exact hlt
              rw [Array.getElem?_eq_none (Nat.le_of_not_lt hlt')]
              rfl
          rw [if_neg (by rw [hno]; simp)]
          exact ⟨fun _ _ => trivial, go undef .undef st G S w h R rfl X⟩
        · rename_i b hb
          have hlt : t < st.sl.length := by
            rcases Nat.lt_or_ge t st.sl.length with h' | h'
            · exact h'
            · rw [List.getD_eq_getElem?_getD, List.getElem?_eq_none h'] at hb; cases hb
          have hlt' : t < tmps.size := by rw [← R.len]; exact hlt
          have hs : st.sl[t]? = some (.val (.bool b)) := by
            rw [List.getD_eq_getElem?_getD, List.getElem?_eq_getElem hlt] at hb
            rw [List.getElem?_eq_getElem hlt]
            simpa using hb
          have hv : tmps[t] = .bool b := RV.bool_inv (R.sl t _ _ hs (Array.getElem?_eq_getElem hlt'))
          have hyl : yielded ops tmps j = some b := by
            simp only [yielded, hty, Option.bind_some, Array.getElem?_eq_getElem hlt', hv]
          have hput : ∀ b', b = b' → st.put (some t) (.val (.bool b')) = st := by
            intro b' e
            subst e
            have : st.sl.set t (.val (.bool b)) = st.sl := by
              apply List.ext_getElem?
              intro i
              rw [List.getElem?_set]
              split
              · rename_i hi; subst hi; rw [hs]
              · rfl
            simp [St.put, this]
          by_cases hbw : b = want
          · rw [if_pos (by simp [Region.wanted, hg, hyl, hbw])]
            have h1 := h.1 hbw
            rw [hput want hbw] at h1
            exact wpOp_ok hE R o d h1 (fun v s st' G' S' w' hk R' V' X' => go v s st' G' S' w' hk R' V' (X.trans X'))
          · rw [if_neg (by simp [Region.wanted, hg, hyl, hbw])]
            have hbn : b = !want := by cases b <;> cases want <;> simp_all
            have h1 := h.2 hbn
            rw [hput (!want) hbn] at h1
            exact ⟨fun _ _ => trivial, go undef .undef st G S w h1 R rfl X⟩
        · exact h.elim

theorem act_eta {a : Act} {d : List Deferred} (h : a.defers = d) : a = { tmps := a.tmps, defers := d } := by cases a; simp at h; subst h; rfl

theorem rsv_getD (R : Rel E B S0 w0 st G S w tmps) (t : Nat) : RSV st.tk G S w (st.sl.getD t .undef) (tmps.getD t undef) := by
  have := R.val (.tmp t) []
  simpa [valOf, Act.eval] using this

end
end Go.Abs
