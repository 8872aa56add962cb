/-
  The abstract walk of code: sequences, tests, blocks, loops; and of a function.
-/
import Derived.Test.YthofonhkpilifaaAbs17
import Derived.Sort.LoopGhostIn
namespace Go.Abs
open Go.RowKit

inductive AX where
  | normal | exit (id : Nat) | ret

/-- Forgetting what is known of slots. -/
def leS (s s' : SV) : Prop :=
  match s' with
  | .val .any => True
  | .val (.list m xs) => s = .val (.list m xs) ∨ s.pv = some (.list m xs) ∨ (xs = [] ∧ ∃ m', s.pv = some (.list m' []))
  | s' => s = s'

def leL : List SV → List SV → Prop
  | [], [] => True
  | s :: r, s' :: r' => leS s s' ∧ leL r r'
  | _, _ => False

def leB : List (Option (List SV)) → List (Option (List SV)) → Prop
  | [], [] => True
  | none :: r, none :: r' => leB r r'
  | some cs :: r, some cs' :: r' => leL cs cs' ∧ leB r r'
  | _, _ => False

/-- What a slot leans on. -/
def SV.within (nb nm nt : Nat) : SV → Bool
  | .box id _ => id < nb
  | .msl id _ _ => id < nb
  | .clo _ caps => caps.all fun c => match c with | .pv _ => true | .box id _ => id < nb
  | .rbx id _ _ _ _ => id < nb
  | .own t _ _ => t < nt
  | .mp id => id < nm
  | .row id _ _ _ _ => id < nb
  | _ => true

/-- How many variables and maps of its own a state has. -/
def St.nbs (st : St) : Nat × Nat := (st.bx.length, st.ax.mp.length)

/-- The values of the loop's parameters. -/
def setPs : List Tmp → List PV → List SV → List SV
  | t :: ts, p :: ps, sl => setPs ts ps (sl.set t (.val p))
  | _, _, sl => sl
def St.params (st : St) (ts : List Tmp) (ps : List PV) : St := { st with sl := setPs ts ps st.sl }
def St.withSl (st : St) (sl : List SV) : St := { st with sl := sl }

/-- Steps that nobody sees: forgetting; making a slice one that is appended to. 'nb': the variables that must be kept. -/
inductive Wk (nb : Nat × Nat) : St → St → Prop
  | refl (st : St) : Wk nb st st
  | trans (a b c : St) : Wk nb a b → Wk nb b c → Wk nb a c
  | forget (sl sl' : List SV) (bx : List (Option (List SV))) (tk : List (Nat × TypeId)) (ax : Ax) (h : leL sl sl') : Wk nb ⟨sl, bx, tk, ax⟩ ⟨sl', bx, tk, ax⟩
  | forgetBx (sl : List SV) (bx bx' : List (Option (List SV))) (tk : List (Nat × TypeId)) (ax : Ax) (h : leB bx bx') : Wk nb ⟨sl, bx, tk, ax⟩ ⟨sl, bx', tk, ax⟩
  | drop (sl : List SV) (bx bx' : List (Option (List SV))) (tk : List (Nat × TypeId)) (mp mp' : List MapC) (yk : Nat) (hnb : nb.1 ≤ bx.length) (hnm : nb.2 ≤ mp.length) (h : sl.all (SV.within bx.length mp.length tk.length) = true)
      (h' : bx.all (fun o => match o with | none => true | some cs => cs.all (SV.within bx.length mp.length tk.length)) = true) : Wk nb ⟨sl, bx ++ bx', tk, ⟨mp ++ mp', yk⟩⟩ ⟨sl, bx, tk, ⟨mp, yk⟩⟩
  | own (sl : List SV) (bx : List (Option (List SV))) (tk : List (Nat × TypeId)) (ax : Ax) (t m m' : Nat) (xs : List PV) (e : TypeId) (h : sl[t]? = some (.lit m xs)) (hm : m = m' ∨ xs = []) :
      Wk nb ⟨sl, bx, tk, ax⟩ ⟨sl.set t (.own tk.length m' xs), bx, tk ++ [(xs.length, e)], ax⟩
  | ownBx (sl : List SV) (bx : List (Option (List SV))) (tk : List (Nat × TypeId)) (ax : Ax) (id j m m' : Nat) (cs : List SV) (xs : List PV) (e : TypeId) (hb : bx[id]? = some (some cs)) (h : cs[j]? = some (.lit m xs)) (hm : m = m' ∨ xs = []) :
      Wk nb ⟨sl, bx, tk, ax⟩ ⟨sl, bx.set id (some (cs.set j (.own tk.length m' xs))), tk ++ [(xs.length, e)], ax⟩

/-- THE ABSTRACT WALK OF CODE. -/
def wpC (E : Env) : Code → Nat × Nat → St → (AX → St → Prop) → Prop
  | .skip, _, st, Q => Q .normal st
  | .region id ops draw, _, st, Q => match drawMode E draw id ops.size with
    | .each => wpAll E ops ops.size (Array.replicate ops.size false) st (Q .normal)
    | .cut c => wpCut E ops c st (Q .normal)
    | .text => (!draw || anyOk E.rm ops.toList) = true ∧ wpOps E draw ops.toList ops.toList st (Q .normal)
  | .seq a b, nb, st, Q => wpC E a nb st fun e st' => match e with | .normal => wpC E b nb st' Q | .exit i => Q (.exit i) st' | .ret => Q .ret st'
  | .cond c a b, nb, st, Q =>
    match valOf st c with
    | .val (.bool t) => (t = true → wpC E a nb st Q) ∧ (t = false → wpC E b nb st Q)
    | _ => False
  | .block id body, nb, st, Q => wpC E body nb st fun e st' => match e with | .normal => Q .normal st' | .exit i => if i = id then Q .normal st' else Q (.exit i) st' | .ret => Q .ret st'
  | .loop body, nb, st, Q => ∃ (I : Nat → St → Prop), (∃ n0 st0, Wk nb st st0 ∧ I n0 st0) ∧
      ∀ n s, I n s → wpC E body nb s fun e s' => match e with | .normal => ∃ n' s'', n' < n ∧ Wk nb s' s'' ∧ I n' s'' | .exit i => Q (.exit i) s' | .ret => Q .ret s'
  | .rangeFunc g ps asg body, nb, st, Q =>
    match valOf st g with
    | .val (.fn f caps) => ∃ xs, SeqPV E.P f caps xs ∧ (∀ x ∈ xs, x.length = ps.size) ∧ ∃ (I : Nat → St → Prop) (s0 : St), Wk nb st s0 ∧ I 0 s0 ∧ (∀ k s, I k s → s.sl = s0.sl) ∧
        (∀ k s x, xs[k]? = some x → I k s → wpC E asg s.nbs (s.params ps.toList x) fun e s1 => match e with
          | .normal => wpC E body s1.nbs s1 fun e s2 => match e with
            | .normal => ∃ s3, Wk s.nbs (s2.withSl s0.sl) s3 ∧ I (k + 1) s3
            | .exit i => Q (.exit i) (s2.withSl s0.sl)
            | .ret => Q .ret (s2.withSl s0.sl)
          | _ => False) ∧
        (∀ s, I xs.length s → Q .normal s)
    | _ => False
  | .exit id, _, st, Q => Q (.exit id) st
  | .ret, _, st, Q => Q .ret st
  | .label _, _, st, Q => Q .normal st
  | _, _, _, _ => False

/-- The value of a function's results. -/
def resPV (E : Env) (st : St) : List ResultVar → Option (Prop × List PV)
  | [] => some (True, [])
  | .tmp t :: r =>
    match (st.sl.getD t .undef).pv, resPV E st r with
    | some p, some (s, l) => some (s, p :: l)
    | _, _ => none
  | .cell a ty :: r =>
    match opLoad E ty (st.sl.getD a .undef) st, resPV E st r with
    | some x, some (s, l) => match x.v.pv with | some p => some (x.side ∧ s, p :: l) | none => none
    | _, _ => none

def tupPV (l : List PV) : PV := match l with | [p] => p | l => .tup l

/-- What is asked where a function ends. -/
def retOk (E : Env) (rs : List ResultVar) (st : St) (p : PV) : Prop :=
  match resPV E st rs with
  | some (s, l) => s ∧ tupPV l = p
  | none => False

section
variable {E : Env} {B : Nat} {S0 : Addr → Prop} {w0 : World} {st : St} {G : Gh} {S : Addr → Prop} {w : World} {tmps : Array Value} {r : Option Nat} {n : Nat}

theorem leS_rel {tk : List (Nat × TypeId)} {s s' : SV} {v : Value} (h : leS s s') (hr : RSV tk G S w s v) : RSV tk G S w s' v := by
  unfold leS at h
  split at h
  · exact RV.any v
  · rename_i m xs
    rcases h with rfl | h | ⟨rfl, m', h⟩
    · exact hr
    · exact RSV.pv hr h
    · have := RSV.pv hr h
      obtain ⟨a, ad, cap, g, rfl, _, _, hmax, _⟩ := RV.slice_iff this
      exact RV.list_nil m a cap hmax
  · subst h; exact hr

theorem leL_len : ∀ {l l' : List SV}, leL l l' → l'.length = l.length
  | [], [], _ => rfl
  | _ :: _, _ :: _, h => by simp [leL_len h.2]
  | [], _ :: _, h => h.elim
  | _ :: _, [], h => h.elim

theorem leL_get : ∀ {l l' : List SV}, leL l l' → ∀ (i : Nat) (s' : SV), l'[i]? = some s' → ∃ s, l[i]? = some s ∧ leS s s'
  | [], [], _, i, s', h => by simp at h
  | s :: r, t :: r', h, i, s', hs => by
    cases i with
    | zero => simp at hs; subst hs; exact ⟨s, rfl, h.1⟩
    | succ i =>
      obtain ⟨s0, a, b⟩ := leL_get h.2 i s' (by simpa using hs)
      exact ⟨s0, by simpa using a, b⟩
  | [], _ :: _, h, _, _, _ => h.elim
  | _ :: _, [], h, _, _, _ => h.elim

theorem RSV.within_ {tk tk' : List (Nat × TypeId)} {nb nm : Nat} {s : SV} {v : Value} (h : s.within nb nm tk.length = true) (hr : RSV tk G S w s v) : RSV tk ⟨G.bx.take nb, G.tk, G.mp.take nm, G.fp⟩ S w s v := by
  cases s with
  | undef => exact hr
  | val p => exact hr
  | lit m xs => exact hr
  | own t m xs => exact hr
  | box id off =>
    obtain ⟨b, h1, h2⟩ := hr
    exact ⟨b, by simp only [SV.within, decide_eq_true_eq] at h; rw [List.getElem?_take, if_pos h]; exact h1, h2⟩
  | msl id off len =>
    obtain ⟨b, cap, h1, h2⟩ := hr
    exact ⟨b, cap, by simp only [SV.within, decide_eq_true_eq] at h; rw [List.getElem?_take, if_pos h]; exact h1, h2⟩
  | clo f caps =>
    obtain ⟨vs, h1, h2, h3⟩ := hr
    refine ⟨vs, h1, h2, fun i c u a b => ?_⟩
    have hc := h3 i c u a b
    cases c with
    | pv p => exact hc
    | box id off =>
      obtain ⟨b', k1, k2⟩ := hc
      have := List.all_eq_true.1 h _ (List.mem_of_getElem? a)
      simp only [decide_eq_true_eq] at this
      exact ⟨b', by rw [List.getElem?_take, if_pos this]; exact k1, k2⟩
  | rbx id off i m k =>
    obtain ⟨b, h1, h2⟩ := hr
    exact ⟨b, by simp only [SV.within, decide_eq_true_eq] at h; rw [List.getElem?_take, if_pos h]; exact h1, h2⟩
  | mp id =>
    obtain ⟨b, h1, h2⟩ := hr
    exact ⟨b, by simp only [SV.within, decide_eq_true_eq] at h; rw [List.getElem?_take, if_pos h]; exact h1, h2⟩
  | row id off m len cap =>
    obtain ⟨b, h1, h2⟩ := hr
    exact ⟨b, by simp only [SV.within, decide_eq_true_eq] at h; rw [List.getElem?_take, if_pos h]; exact h1, h2⟩

theorem leB_get : ∀ {l l' : List (Option (List SV))}, leB l l' → l'.length = l.length ∧ ∀ (i : Nat) (cs' : List SV), l'[i]? = some (some cs') → ∃ cs, l[i]? = some (some cs) ∧ leL cs cs'
  | [], [], _ => ⟨rfl, fun i cs' h => by simp at h⟩
  | none :: r, none :: r', h => by
    obtain ⟨a, b⟩ := leB_get (l := r) (l' := r') h
    refine ⟨by simp [a], fun i cs' hs => ?_⟩
    cases i with
    | zero => simp at hs
    | succ i => simpa using b i cs' (by simpa using hs)
  | some cs :: r, some cs2 :: r', h => by
    obtain ⟨a, b⟩ := leB_get (l := r) (l' := r') h.2
    refine ⟨by simp [a], fun i cs' hs => ?_⟩
    cases i with
    | zero => simp at hs; subst hs; exact ⟨cs, rfl, h.1⟩
    | succ i => simpa using b i cs' (by simpa using hs)
  | [], _ :: _, h => h.elim
  | _ :: _, [], h => by
    rename_i a l
    cases a <;> exact h.elim
  | none :: _, some _ :: _, h => h.elim
  | some _ :: _, none :: _, h => h.elim

theorem Rel.wk {nb : Nat × Nat} {tk0 : List (Nat × TypeId)} {G0 : Gh} {S1 : Addr → Prop} {w1 : World} (hnb : G0.bx.length ≤ nb.1) (hnm : G0.mp.length ≤ nb.2) {st st' : St} (h : Wk nb st st') :
    ∀ {G : Gh}, Rel E B S0 w0 st G S w tmps → Ext tk0 G0 S1 w1 st.tk G S w → ∃ G', Rel E B S0 w0 st' G' S w tmps ∧ Ext tk0 G0 S1 w1 st'.tk G' S w ∧ ∀ b, Foot G' b → Foot G b := by
  induction h with
  | refl st => exact fun R X => ⟨_, R, X, fun _ h => h⟩
  | trans a b c _ _ ih1 ih2 =>
    intro G R X
    obtain ⟨G1, R1, X1, F1⟩ := ih1 R X
    obtain ⟨G2, R2, X2, F2⟩ := ih2 R1 X1
    exact ⟨G2, R2, X2, fun b h => F1 b (F2 b h)⟩
  | forget sl sl' bx tk ax h =>
    intro G R X
    refine ⟨G, ⟨R.inv, R.below, by rw [← R.len]; exact leL_len h, fun t s v h1 h2 => ?_⟩, X, fun _ h => h⟩
    obtain ⟨s0, a, b⟩ := leL_get h t s h1
    exact leS_rel b (R.sl t s0 v a h2)
  | forgetBx sl bx bx' tk ax h =>
    intro G R X
    have hI := R.inv
    obtain ⟨hlb, hgb⟩ := leB_get h
    refine ⟨G, ⟨⟨hI.base, hI.s0, hI.slt, by rw [hI.lbx]; exact hlb.symm, hI.ltk, hI.old, hI.dist, fun id b cs h1 h2 => ?_, hI.tok, hI.apart, hI.lmp, hI.dmp, hI.mpo, hI.mpk, hI.flt, hI.fbx, hI.ftk, hI.fmp, hI.yl⟩, R.below, R.len, R.sl⟩, X, fun _ h => h⟩
    obtain ⟨cs0, a, b'⟩ := hgb id cs h1
    obtain ⟨⟨t, arr, a1, a2, a3⟩, a4⟩ := hI.box id b cs0 a h2
    refine ⟨⟨t, arr, a1, by rw [a2]; exact (leL_len b').symm, fun j c v c1 c2 => ?_⟩, a4⟩
    obtain ⟨c0, d1, d2⟩ := leL_get b' j c c1
    exact ⟨leS_rel d2 (a3 j c0 v d1 c2).1, (a3 j c0 v d1 c2).2⟩
  | drop sl bx bx' tk mp mp' yk hb' hm' h h' =>
    intro G R X
    have hI := R.inv
    have hget : ∀ (i b : Nat), (G.bx.take bx.length)[i]? = some b → G.bx[i]? = some b ∧ i < bx.length := by
      intro i b hb
      rw [List.getElem?_take] at hb
      split at hb
      · exact ⟨hb, by assumption⟩
      · cases hb
    have hgem : ∀ (i b : Nat), (G.mp.take mp.length)[i]? = some b → G.mp[i]? = some b ∧ i < mp.length := by
      intro i b hb
      rw [List.getElem?_take] at hb
      split at hb
      · exact ⟨hb, by assumption⟩
      · cases hb
    have hlen := hI.lbx
    have hlem := hI.lmp
    have hfoot : ∀ b, Foot ⟨G.bx.take bx.length, G.tk, G.mp.take mp.length, G.fp⟩ b → Foot G b := by
      rintro b (⟨i, h⟩ | h | ⟨i, h⟩ | h)
      · exact .inl ⟨i, (hget i b h).1⟩
      · exact .inr (.inl h)
      · exact .inr (.inr (.inl ⟨i, (hgem i b h).1⟩))
      · exact .inr (.inr (.inr h))
    have hX : Ext tk0 G0 S1 w1 tk ⟨G.bx.take bx.length, G.tk, G.mp.take mp.length, G.fp⟩ S w := ⟨fun i b hb => by
      have hi : i < G0.bx.length := (List.getElem?_eq_some_iff.1 hb).1
      rw [List.getElem?_take, if_pos (by omega)]
      exact X.bx i b hb, X.tk, X.sub, X.cell, fun i b hb => by
      have hi : i < G0.mp.length := (List.getElem?_eq_some_iff.1 hb).1
      rw [List.getElem?_take, if_pos (by omega)]
      exact X.mp i b hb, X.calm, X.same, fun b hb hf => X.foot b hb (hfoot b hf), X.new⟩
    refine ⟨⟨G.bx.take bx.length, G.tk, G.mp.take mp.length, G.fp⟩, ⟨⟨hI.base, hI.s0, hI.slt, by simp at hlen ⊢; omega, hI.ltk, fun i b hb => hI.old i b (hget i b hb).1, fun i j b h1 h2 => hI.dist i j b (hget i b h1).1 (hget j b h2).1, fun id b cs h1 h2 => ?_, fun t n e hv h1 h2 => ?_, hI.apart,
      by simp at hlem ⊢; omega, fun i j b h1 h2 => hI.dmp i j b (hgem i b h1).1 (hgem j b h2).1, fun i b hb => hI.mpo i b (hgem i b hb).1, fun i b c h1 h2 => ?_, hI.flt, fun i b hb => hI.fbx i b (hget i b hb).1, hI.ftk, fun i b hb => hI.fmp i b (hgem i b hb).1, hI.yl⟩, R.below, R.len, fun t s v h1 h2 => ?_⟩, hX, hfoot⟩
    · have hid : id < bx.length := (List.getElem?_eq_some_iff.1 h1).1
      obtain ⟨⟨t, arr, a1, a2, a3⟩, a4⟩ := hI.box id b cs (by rw [List.getElem?_append_left hid]; exact h1) (hget id b h2).1
      refine ⟨⟨t, arr, a1, a2, fun j c v b1 b2 => ⟨?_, (a3 j c v b1 b2).2⟩⟩, a4⟩
      have hw := List.all_eq_true.1 h' (some cs) (List.mem_of_getElem? h1)
      exact RSV.within_ (tk' := tk) (List.all_eq_true.1 hw c (List.mem_of_getElem? b1)) (a3 j c v b1 b2).1
    · obtain ⟨a, cap, a1, a2, a3, a4⟩ := hI.tok t n e hv h1 h2
      refine ⟨a, cap, a1, a2, a3, fun hlt => ?_⟩
      obtain ⟨g, cur, c1, c2, c3, c4, c5, c6⟩ := a4 hlt
      exact ⟨g, cur, c1, c2, c3, c4, c5, fun i hi => c6 i (hget i g hi).1⟩
    · have hi := (hgem i b h2).2
      exact hI.mpk i b c (by show (mp ++ mp')[i]? = _; rw [List.getElem?_append_left hi]; exact h1) (hgem i b h2).1
    · exact RSV.within_ (tk' := tk) (List.all_eq_true.1 h s (List.mem_of_getElem? h1)) (R.sl t s v h1 h2)
  | own sl bx tk ax t m m' xs e h hm =>
    intro G R X
    have ht : t < tmps.size := by rw [← R.len]; exact (List.getElem?_eq_some_iff.1 h).1
    have hv := R.sl t _ _ h (Array.getElem?_eq_getElem ht)
    obtain ⟨hlist, a, ha⟩ := hv
    obtain ⟨a', ad, cap, g, he, _, hcap, hmax, _⟩ := RV.slice_iff hlist
    rw [ha] at he
    injection he with _ _ hc
    have hvac : ∀ {g n' cap' : Nat}, tmps[t] = .slice (some ⟨g, 0, none⟩) n' cap' → n' < cap' → False := fun h1 h2 => by rw [ha] at h1; injection h1 with _ h3 h4; omega
    obtain ⟨R1, X1, h1, h2⟩ := R.tokNew X (n := xs.length) (e := e) (hv := tmps[t]) ⟨⟨a, xs.length, ha, Nat.le_refl _, by rw [hc]; exact hmax, fun h => absurd h (Nat.lt_irrefl _)⟩, fun g n' cap' t' n'' cap'' h1 h2 _ _ => (hvac h1 h2).elim, fun g n' cap' h1 h2 => (hvac h1 h2).elim⟩ (fun g n' cap' h1 h2 => (hvac h1 h2).elim)
    refine ⟨_, ⟨R1.inv, R1.below, by simp [R1.len], fun i s v k1 k2 => ?_⟩, X1, fun b hb => ?_⟩
    · simp only [List.getElem?_set] at k1
      split at k1
      · rename_i hi
        subst hi
        split at k1
        · cases k1
          rw [Array.getElem?_eq_getElem ht] at k2
          cases k2
          refine ⟨?_, _, _, h1, h2, Nat.le_refl _, fun _ => rfl⟩
          rcases hm with rfl | rfl
          · exact hlist
          · rw [ha]; exact RV.list_nil m' a 0 (Nat.zero_le _)
        · cases k1
      · exact R1.sl i s v k1 k2
    · rcases hb with hb | ⟨t', n', cap', q1, q2⟩ | hb
      · exact .inl hb
      · rcases Nat.lt_trichotomy t' G.tk.length with h' | h' | h'
        · exact .inr (.inl ⟨t', n', cap', by simpa [List.getElem?_append_left h'] using q1, q2⟩)
        · subst h'; simp at q1; exact (hvac q1 q2).elim
        · rw [List.getElem?_eq_none (by simp; omega)] at q1; cases q1
      · exact .inr (.inr hb)
  | ownBx sl bx tk ax id j m m' cs xs e hb h hm =>
    intro G R X
    have hI := R.inv
    have hid : id < bx.length := (List.getElem?_eq_some_iff.1 hb).1
    have hid' : id < G.bx.length := by rw [hI.lbx]; exact hid
    have hgb : G.bx[id]? = some G.bx[id] := List.getElem?_eq_getElem hid'
    obtain ⟨⟨ty, arr, a1, a2, a3⟩, a4⟩ := hI.box id _ cs hb hgb
    have hj : j < cs.length := (List.getElem?_eq_some_iff.1 h).1
    have hj' : j < arr.size := by rw [a2]; exact hj
    have hv := (a3 j _ _ h (Array.getElem?_eq_getElem hj')).1
    obtain ⟨hlist, a, ha⟩ := hv
    obtain ⟨a', ad, cap, g, he, _, hcap, hmax, _⟩ := RV.slice_iff hlist
    rw [ha] at he
    injection he with _ _ hc
    have hvac : ∀ {g n' cap' : Nat}, arr[j] = .slice (some ⟨g, 0, none⟩) n' cap' → n' < cap' → False := fun h1 h2 => by rw [ha] at h1; injection h1 with _ h3 h4; omega
    obtain ⟨R1, X1, h1, h2⟩ := R.tokNew X (n := xs.length) (e := e) (hv := arr[j]) ⟨⟨a, xs.length, ha, Nat.le_refl _, by rw [hc]; exact hmax, fun h => absurd h (Nat.lt_irrefl _)⟩, fun g n' cap' t' n'' cap'' h1 h2 _ _ => (hvac h1 h2).elim, fun g n' cap' h1 h2 => (hvac h1 h2).elim⟩ (fun g n' cap' h1 h2 => (hvac h1 h2).elim)
    have hI1 := R1.inv
    refine ⟨_, ⟨⟨hI1.base, hI1.s0, hI1.slt, by simpa using hI1.lbx, hI1.ltk, hI1.old, hI1.dist, fun id' b cs' k1 k2 => ?_, hI1.tok, hI1.apart, hI1.lmp, hI1.dmp, hI1.mpo, hI1.mpk, hI1.flt, hI1.fbx, hI1.ftk, hI1.fmp, hI1.yl⟩, R1.below, R1.len, R1.sl⟩, X1, fun b hb => ?_⟩
    · simp only [List.getElem?_set] at k1
      split at k1
      · rename_i hi
        subst hi
        cases k1
        obtain ⟨⟨t', arr', b1, b2, b3⟩, b4⟩ := hI1.box id b cs hb k2
        have hbe : b = G.bx[id] := by
          have : G.bx[id]? = some b := k2
          rw [hgb] at this; exact (Option.some.inj this).symm
        subst hbe
        rw [a1] at b1
        cases b1
        refine ⟨⟨ty, arr, a1, by simp [b2], fun i c v c1 c2 => ?_⟩, b4⟩
        rw [List.getElem?_set] at c1
        split at c1
        · rename_i hij
          subst hij
          cases c1
          rw [Array.getElem?_eq_getElem hj'] at c2
          cases c2
          refine ⟨⟨?_, _, _, h1, h2, Nat.le_refl _, fun _ => rfl⟩, by rw [ha]; rfl⟩
          rcases hm with rfl | rfl
          · exact hlist
          · rw [ha]; exact RV.list_nil m' a 0 (Nat.zero_le _)
        · exact b3 i c v c1 c2
      · exact hI1.box id' b cs' k1 k2
    · rcases hb with hb | ⟨t', n', cap', q1, q2⟩ | hb
      · exact .inl hb
      · rcases Nat.lt_trichotomy t' G.tk.length with h' | h' | h'
        · exact .inr (.inl ⟨t', n', cap', by simpa [List.getElem?_append_left h'] using q1, q2⟩)
        · subst h'; simp at q1; exact (hvac q1 q2).elim
        · rw [List.getElem?_eq_none (by simp; omega)] at q1; cases q1
      · exact .inr (.inr hb)

theorem heap_lt {w : World} {b : Nat} {o : Obj} (h : w.heap[b]? = some o) : b < w.heap.size := (Array.getElem?_eq_some_iff.1 h).1

/-- What the activation has put off (all of it lies from b0 on), and the loop that it is in a round of. -/
structure Put (b0 : Nat) (rr : Option (Nat × Loop)) (d ds : List Deferred) (G : Gh) (w : World) : Prop where
  put : ∃ Ds : List Nat, ds = Ds.map (fun D => ({ target := .collected D, args := #[] } : Deferred)) ++ d ∧ Ds.Nodup ∧ ∀ D ∈ Ds, w.heap[D]? = some (.deferred (some [])) ∧ ¬ Foot G D ∧ b0 ≤ D
  rnd : ∀ x, rr = some x → w.heap[x.1]? = some (.loop x.2) ∧ ¬ Foot G x.1
  lo : b0 ≤ w.heap.size

theorem Put.ext {b0 : Nat} {rr : Option (Nat × Loop)} {d ds : List Deferred} {tk tk' : List (Nat × TypeId)} {G' : Gh} {S' : Addr → Prop} {w' : World} (h : Put b0 rr d ds G w) (X : Ext tk G S w tk' G' S' w') : Put b0 rr d ds G' w' := by
  obtain ⟨⟨Ds, h1, h2, h3⟩, h4, h5⟩ := h
  exact ⟨⟨Ds, h1, h2, fun D hD => ⟨(X.same D (heap_lt (h3 D hD).1) (h3 D hD).2.1).trans (h3 D hD).1, fun hf => (h3 D hD).2.1 (X.foot D (heap_lt (h3 D hD).1) hf), (h3 D hD).2.2⟩⟩,
    fun x hx => ⟨(X.same x.1 (heap_lt (h4 x hx).1) (h4 x hx).2).trans (h4 x hx).1, fun hf => (h4 x hx).2 (X.foot x.1 (heap_lt (h4 x hx).1) hf)⟩, Nat.le_trans h5 X.calm.size⟩

theorem Put.foot {b0 : Nat} {rr : Option (Nat × Loop)} {d ds : List Deferred} {G' : Gh} (h : Put b0 rr d ds G w) (hf : ∀ b, Foot G' b → Foot G b) : Put b0 rr d ds G' w := by
  obtain ⟨⟨Ds, h1, h2, h3⟩, h4, h5⟩ := h
  exact ⟨⟨Ds, h1, h2, fun D hD => ⟨(h3 D hD).1, fun h => (h3 D hD).2.1 (hf D h), (h3 D hD).2.2⟩⟩, fun x hx => ⟨(h4 x hx).1, fun h => (h4 x hx).2 (hf x.1 h)⟩, h5⟩

/-- What holds where code is left. -/
def LQ (E : Env) (B : Nat) (S0 : Addr → Prop) (w0 : World) (tk0 : List (Nat × TypeId)) (G0 : Gh) (S1 : Addr → Prop) (w1 : World) (b0 : Nat) (rr : Option (Nat × Loop)) (d : List Deferred) (Q : AX → St → Prop) : Exit → Act → World → Prop
  | .normal, a, w => ∃ st G S, Q .normal st ∧ Rel E B S0 w0 st G S w a.tmps ∧ Ext tk0 G0 S1 w1 st.tk G S w ∧ Put b0 rr d a.defers G w
  | .exit id, a, w => ∃ st G S, Q (.exit id) st ∧ Rel E B S0 w0 st G S w a.tmps ∧ Ext tk0 G0 S1 w1 st.tk G S w ∧ Put b0 rr d a.defers G w
  | .ret, a, w => ∃ st G S, Q .ret st ∧ Rel E B S0 w0 st G S w a.tmps ∧ Ext tk0 G0 S1 w1 st.tk G S w ∧ Put b0 rr d a.defers G w
  | _, _, _ => False

end
end Go.Abs
