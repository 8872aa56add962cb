/-
  What a walk's stops are left by: calls, elements of lists, loops.
-/
import Derived.Test.YthofonhkpilifaaAbs20
namespace Go.Abs
open Go.RowKit

/-- The slots that code writes. -/
def dsts : Code → List Nat
  | .region _ ops _ => ops.toList.filterMap (·.dst)
  | .seq a b => dsts a ++ dsts b
  | .cond _ a b => dsts a ++ dsts b
  | .block _ b => dsts b
  | .loop b => dsts b
  | .rangeFunc _ _ _ _ => []
  | _ => []

def forgetL (l : List Nat) : Nat → List SV → List SV
  | _, [] => []
  | i, s :: r => (if l.contains i then .val .any else s) :: forgetL l (i + 1) r

/-- A state of which what the code writes is forgotten. -/
def havoc (c : Code) (st : St) : St := { st with sl := forgetL (dsts c) 0 st.sl }

section
variable {A : Ops} {E : Env}

theorem call_intro (hA : A = stdOps E) {f : FuncId} {args : List PV} {K : PV → Prop} {r : PV} (h : CallsPV E.P f args r) (hk : K r) : A.call f args K := by
  subst hA; exact ⟨r, h, hk⟩

/-- A call, its arguments told in other words. -/
theorem call_intro' (hA : A = stdOps E) {f : FuncId} {args args' : List PV} {K : PV → Prop} {r : PV} (h : CallsPV E.P f args' r) (e : args = args') (hk : K r) : A.call f args K := by
  subst hA; subst e; exact ⟨r, h, hk⟩

theorem callB (hA : A = stdOps E) {f : FuncId} {args args' : List PV} {K : PV → Prop} {b : Bool} (h : CallsPV E.P f args' (.bool b)) (e : args = args') (hk : ∀ r, r = b → K (.bool r)) : A.call f args K := by
  subst hA; subst e; exact ⟨_, h, hk _ rfl⟩
theorem callI (hA : A = stdOps E) {f : FuncId} {args args' : List PV} {K : PV → Prop} {k : IntKind} {n : Int} (h : CallsPV E.P f args' (.int k n)) (e : args = args') (hk : ∀ r, r = n → K (.int k r)) : A.call f args K := by
  subst hA; subst e; exact ⟨_, h, hk _ rfl⟩
theorem callL (hA : A = stdOps E) {f : FuncId} {args args' : List PV} {K : PV → Prop} {m : Nat} {xs : List PV} (h : CallsPV E.P f args' (.list m xs)) (e : args = args') (hk : ∀ r, r = xs → K (.list m r)) : A.call f args K := by
  subst hA; subst e; exact ⟨_, h, hk _ rfl⟩

/-- A call of a closure that shares variables. -/
theorem deep_intro (hA : A = stdOps E) {f : FuncId} {svs : List SV} {st : St} {K : SV → St → Prop} {r : SV} {bx' : List (Option (List SV))} {tk' : List (Nat × TypeId)} {ax' : Ax} (h : CallsSt E f svs st.bx st.tk st.ax r bx' tk' ax') (hk : K r ⟨st.sl, bx', tk', ax'⟩) :
    A.deep f svs st K := by
  subst hA; exact ⟨_, h.rel, fun _ _ _ _ ⟨h1, h2, h3, h4⟩ => by subst h1 h2 h3 h4; exact hk⟩

/-- A row is lent to a function. -/
theorem lend_intro (hA : A = stdOps E) {f : FuncId} {id off m len cap : Nat} {st : St} {K : SV → St → Prop} {cells : List SV} {xs : List PV} {r : PV} (h : CallsFresh E.P f m xs r) (hc : st.bx.getD id none = some cells) (hx : (cells.drop off).take (len * m) = (xs.flatMap PV.cells).map SV.val) (hl : xs.length = len)
    (hm : ∀ x ∈ xs, x.cells.length = m) (hk : K (.val r) st) : A.opn f [] [.row id off m len cap] st K := by
  subst hA; exact .inr (.inl ⟨rfl, id, off, m, len, cap, cells, xs, r, rfl, hc, hx, hl, hm, h, hk⟩)
/-- A call that shares variables. -/
theorem share_intro (hA : A = stdOps E) {f : FuncId} {caps : List PV} {svs : List SV} {st : St} {K : SV → St → Prop} {r : SV} {bx' : List (Option (List SV))} {tk' : List (Nat × TypeId)} {ax' : Ax} (h : CallsSt E f (svs ++ caps.map SV.val) st.bx st.tk st.ax r bx' tk' ax') (hk : K r ⟨st.sl, bx', tk', ax'⟩) :
    A.opn f caps svs st K := by
  subst hA; exact .inr (.inr ⟨_, h.rel, fun _ _ _ _ ⟨h1, h2, h3, h4⟩ => by subst h1 h2 h3 h4; exact hk⟩)
/-- .. of which less is said. -/
theorem deepR_intro (hA : A = stdOps E) {f : FuncId} {svs : List SV} {st : St} {K : SV → St → Prop} {Q : SV → List (Option (List SV)) → List (Nat × TypeId) → Ax → Prop} (h : CallsR E f svs st.bx st.tk st.ax Q) (hk : ∀ r bx' tk' ax', Q r bx' tk' ax' → K r ⟨st.sl, bx', tk', ax'⟩) :
    A.deep f svs st K := by
  subst hA; exact ⟨Q, h, hk⟩
theorem shareR_intro (hA : A = stdOps E) {f : FuncId} {caps : List PV} {svs : List SV} {st : St} {K : SV → St → Prop} {Q : SV → List (Option (List SV)) → List (Nat × TypeId) → Ax → Prop} (h : CallsR E f (svs ++ caps.map SV.val) st.bx st.tk st.ax Q) (hk : ∀ r bx' tk' ax', Q r bx' tk' ax' → K r ⟨st.sl, bx', tk', ax'⟩) :
    A.opn f caps svs st K := by
  subst hA; exact .inr (.inr ⟨Q, h, hk⟩)
/-- append to a row, or to a slice that turns one. -/
theorem appR_intro (hA : A = stdOps E) {ts : List TypeId} {xs : List SV} {st : St} {K : SV → St → Prop} (h : wpAppR E ts xs st K) : A.appR ts xs st K := by subst hA; exact h

/-- Variables turn still ahead of a call. -/
theorem frz_intro (hA : A = stdOps E) {st st' : St} {l l' : List SV} {f : FuncId} {caps : List PV} {K : SV → St → Prop} {ps : List PV} {r : PV} (h : Frz st l st' l') (hp : pvsOf l' = some ps) (hf : CallsPV E.P f (ps ++ caps) r) (hk : K (.val r) st') : A.opn f caps l st K := by
  subst hA; exact .inl ⟨st', l', ps, h, hp, r, hf, hk⟩

theorem idx_map (hA : A = stdOps E) {α : Type} (enc : α → PV) (l : List α) {n : Int} {K : List PV → Prop} (h0 : 0 ≤ n) (h1 : n < l.length) (hk : ∀ x, l[n.toNat]? = some x → K (enc x).cells) : A.idx (l.map enc) n K := by
  subst hA
  have hn : n.toNat < l.length := by omega
  refine ⟨⟨h0, by simpa using h1⟩, ?_⟩
  have := hk l[n.toNat] (List.getElem?_eq_getElem hn)
  simpa [List.getD_eq_getElem?_getD, hn] using this

theorem idx_var (hA : A = stdOps E) {α : Type} {enc : α → PV} {l : List α} {xs : List PV} (hx : l.map enc = xs) {n : Int} {K : List PV → Prop} (h0 : 0 ≤ n) (h1 : n < l.length) (hk : ∀ x, l[n.toNat]? = some x → K (enc x).cells) : A.idx xs n K := by
  subst hx; exact idx_map hA enc l h0 h1 hk

theorem idx_any (hA : A = stdOps E) {xs : List PV} {n : Int} {K : List PV → Prop} (h0 : 0 ≤ n) (h1 : n < xs.length) (hk : ∀ x, xs[n.toNat]? = some x → K x.cells) : A.idx xs n K := by
  subst hA
  have hn : n.toNat < xs.length := by omega
  refine ⟨⟨h0, h1⟩, ?_⟩
  have := hk xs[n.toNat] (List.getElem?_eq_getElem hn)
  simpa [List.getD_eq_getElem?_getD, hn] using this

/-- A call of the function that a loop hands on. -/
theorem yld_intro (hA : A = stdOps E) {Y : YS} (hY : Y = E.Y) {l : Nat} {ps : List PV} {st : St} {K : SV → St → Prop} (hl : l = Y.l) (hy : Y.ys[st.ax.yk]? = some ps) (h1 : K (.val (.bool true)) (st.yks (st.ax.yk + 1))) (h2 : K (.val (.bool false)) (st.yks (Y.ys.length + 1))) :
    A.yld l ps st K := by
  subst hA hY; exact ⟨hl, hy, h1, h2⟩

/-- .. of which, once it has been told to stop, less is said. -/
theorem yld_intro' (hA : A = stdOps E) {Y : YS} (hY : Y = E.Y) {l : Nat} {ps : List PV} {st : St} {K : SV → St → Prop} (hl : l = Y.l) (hy : Y.ys[st.ax.yk]? = some ps) (h1 : K (.val (.bool true)) (st.yks (st.ax.yk + 1))) (h2 : ∀ n, n = Y.ys.length + 1 → K (.val (.bool false)) (st.yks n)) :
    A.yld l ps st K := yld_intro hA hY hl hy h1 (h2 _ rfl)

theorem draw_intro (hA : A = stdOps E) {ops : List Oper} (h : anyOk E.rm ops = true) : A.draw ops := by subst hA; exact h
theorem cut_intro (hA : A = stdOps E) {ops : List Oper} {c : Nat} (h : cutOk E.rm ops c = true) : A.cutOk ops c := by subst hA; exact h
theorem rld_intro (hA : A = stdOps E) {t : TypeId} {x : SV} {st : St} {K : SV → St → Prop} (h : Res.go (opLoad E t x.norm st) K) : A.rld t x st K := by subst hA; exact h
theorem rst_intro (hA : A = stdOps E) {t : TypeId} {x v : SV} {st : St} {K : SV → St → Prop} (h : Res.go (opStore E t x.norm v st) K) : A.rst t x v st K := by subst hA; exact h

/-- What is owed at the end of a round. -/
def again (nb : Nat × Nat) {α : Type} (f : α → St) (inv : α → Prop) (μ : α → Nat) (n : Nat) (s' : St) : Prop :=
  ∃ n' s'', n' < n ∧ Wk nb s' s'' ∧ ∃ y, inv y ∧ μ y = n' ∧ s'' = f y

theorem again_intro {nb : Nat × Nat} {α : Type} {f : α → St} {inv : α → Prop} {μ : α → Nat} {n : Nat} {s' : St} (y : α) (h1 : Wk nb s' (f y)) (h2 : inv y) (h3 : μ y < n) : again nb f inv μ n s' :=
  ⟨μ y, _, h3, h1, y, h2, rfl, rfl⟩

/-- A loop: 'f x': the state at the head of a round; 'inv': what holds there; 'μ': what goes down. -/
theorem loop_intro (hA : A = stdOps E) {nb : Nat × Nat} {α : Type} (f : α → St) (inv : α → Prop) (μ : α → Nat) (x0 : α) {body : Code} {W : St → (AX → St → Prop) → Prop} {st : St} {Q : AX → St → Prop}
    (h0 : Wk nb st (f x0)) (hi : inv x0)
    (hs : ∀ x, inv x → W (f x) fun e s' => match e with | .normal => again nb f inv μ (μ x) s' | .exit i => Q (.exit i) s' | .ret => Q .ret s') : A.loop nb body W st Q := by
  subst hA
  refine ⟨fun n s => ∃ x, inv x ∧ μ x = n ∧ s = f x, ⟨μ x0, _, h0, x0, hi, rfl, rfl⟩, ?_⟩
  rintro n s ⟨x, hx, rfl, rfl⟩
  exact hs x hx

/-- .. its head told by what is set in the state before, where all that the body writes is forgotten. -/
theorem loop_set (hA : A = stdOps E) {nb : Nat × Nat} {α : Type} (g : α → St → St) (inv : α → Prop) (μ : α → Nat) (x0 : α) {body : Code} {W : St → (AX → St → Prop) → Prop} {st : St} {Q : AX → St → Prop}
    (h0 : Wk nb st (g x0 (havoc body st))) (hi : inv x0)
    (hs : ∀ (R : St → Prop) x, inv x → (∀ y s', Wk nb s' (g y (havoc body st)) → inv y → μ y < μ x → R s') → W (g x (havoc body st)) fun e s' => match e with | .normal => R s' | .exit i => Q (.exit i) s' | .ret => Q .ret s') : A.loop nb body W st Q :=
  loop_intro hA (fun y => g y (havoc body st)) inv μ x0 h0 hi fun x hx => hs _ x hx fun y _ h1 h2 h3 => again_intro y h1 h2 h3

/-- A LOOP OVER A FUNCTION: 'f k y': the state between two rounds, k of them over, in which the slots are as they were; 'inv k y': what holds there. -/
theorem rng_intro (hA : A = stdOps E) {nb : Nat × Nat} {α : Type} {f : FuncId} {caps : List PV} {np : Nat} {xs : List (List PV)} (hseq : SeqPV E.P f caps xs) (hnp : ∀ x ∈ xs, x.length = np) (g : α → St → St) (inv : Nat → α → Prop) (x0 : α)
    {W : List PV → St → (AX → St → Prop) → Prop} {st : St} {Q : AX → St → Prop} (hsl : ∀ y, (g y st).sl = (g x0 st).sl) (h0 : Wk nb st (g x0 st)) (hi : inv 0 x0)
    (hs : ∀ (R : St → Prop) k y x, xs[k]? = some x → inv k y → (∀ z s', Wk (g y st).nbs (s'.withSl (g x0 st).sl) (g z st) → inv (k + 1) z → R s') →
      W x (g y st) fun e s' => match e with | .normal => R s' | .exit i => Q (.exit i) (s'.withSl (g x0 st).sl) | .ret => Q .ret (s'.withSl (g x0 st).sl))
    (hd : ∀ y, inv xs.length y → Q .normal (g y st)) : A.rng nb f caps np W st Q := by
  subst hA
  refine ⟨xs, hseq, hnp, fun k s => ∃ y, inv k y ∧ s = g y st, _, h0, ⟨x0, hi, rfl⟩, ?_, ?_, ?_⟩
  · rintro k s ⟨y, _, rfl⟩; exact hsl y
  · rintro k s x hx ⟨y, hy, rfl⟩
    exact hs (fun s' => ∃ s3, Wk (g y st).nbs (s'.withSl (g x0 st).sl) s3 ∧ ∃ z, inv (k + 1) z ∧ s3 = g z st) k y x hx hy fun z s' h1 h2 => ⟨_, h1, z, h2, rfl⟩
  · rintro s ⟨y, hy, rfl⟩
    exact hd y hy

theorem wk_sl {nb : Nat × Nat} {sl sl' : List SV} {bx : List (Option (List SV))} {tk : List (Nat × TypeId)} {ax : Ax} (h : leL sl sl') : Wk nb ⟨sl, bx, tk, ax⟩ ⟨sl', bx, tk, ax⟩ := Wk.forget sl sl' bx tk ax h

/-- The end of a round: what is known of slots is forgotten; what the round has made is dropped. -/
theorem wk_round {nb : Nat × Nat} {sl sl' : List SV} {bx bx' : List (Option (List SV))} {tk : List (Nat × TypeId)} {mp mp' : List MapC} {yk : Nat} (h : leL sl sl') (hnb : nb.1 ≤ bx.length) (hnm : nb.2 ≤ mp.length)
    (h1 : sl'.all (SV.within bx.length mp.length tk.length) = true) (h2 : bx.all (fun o => match o with | none => true | some cs => cs.all (SV.within bx.length mp.length tk.length)) = true) :
    Wk nb ⟨sl, bx ++ bx', tk, ⟨mp ++ mp', yk⟩⟩ ⟨sl', bx, tk, ⟨mp, yk⟩⟩ :=
  Wk.trans _ _ _ (Wk.forget sl sl' _ tk _ h) (Wk.drop sl' bx bx' tk mp mp' yk hnb hnm h1 h2)
/-- .. a slot turns one that is appended to. -/
theorem wk_own {nb : Nat × Nat} {sl sl' : List SV} {bx : List (Option (List SV))} {tk : List (Nat × TypeId)} {ax : Ax} (t m m' : Nat) (xs : List PV) (e : TypeId) (h : sl[t]? = some (.lit m xs)) (hm : m = m' ∨ xs = []) (hl : leL (sl.set t (.own tk.length m' xs)) sl') {tk' : List (Nat × TypeId)} (htk : tk' = tk ++ [(xs.length, e)]) :
    Wk nb ⟨sl, bx, tk, ax⟩ ⟨sl', bx, tk', ax⟩ := by
  subst htk; exact Wk.trans _ _ _ (Wk.own sl bx tk ax t m m' xs e h hm) (Wk.forget _ _ _ _ _ hl)

end
end Go.Abs
