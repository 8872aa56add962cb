/-
  Regions whose order is drawn: the check by looking, and what it buys.
-/
import Derived.Test.YthofonhkpilifaaAbs15
namespace Go.Abs
open Go.RowKit

/-- A set of operations that have been carried out, with all that they wait for. -/
def Closed (ops : List Oper) (L : Nat → Prop) : Prop := ∀ i o, ops[i]? = some o → L i → ∀ e ∈ o.after, Region.binds .any e = true → L e.on

/-- Operation i, of edges 'o.after', waits for j. -/
def Waits (ops : List Oper) (o : Oper) (j : Nat) : Prop := ∀ L, Closed ops L → (∀ e ∈ o.after, Region.binds .any e = true → L e.on) → L j

def maskOf (acc : List Nat) (o : Oper) : Nat := o.after.toList.foldr (fun e s => if Region.binds .any e then s ||| 2 ^ e.on ||| acc.getD e.on 0 else s) 0
def masks : List Nat → List Oper → List Nat
  | acc, [] => acc
  | acc, o :: r => masks (acc ++ [maskOf acc o]) r

theorem maskOf_spec {acc : List Nat} {o : Oper} {j : Nat} (h : (maskOf acc o).testBit j = true) : ∃ e ∈ o.after, Region.binds .any e = true ∧ (e.on = j ∨ (acc.getD e.on 0).testBit j = true) := by
  unfold maskOf at h
  have : ∀ (l : List Edge), (l.foldr (fun e s => if Region.binds .any e then s ||| 2 ^ e.on ||| acc.getD e.on 0 else s) 0).testBit j = true → ∃ e ∈ l, Region.binds .any e = true ∧ (e.on = j ∨ (acc.getD e.on 0).testBit j = true) := by
    intro l
    induction l with
    | nil => intro h; simp at h
    | cons e l ih =>
      intro h
      simp only [List.foldr_cons] at h
      split at h
      · rename_i hb
        rw [Nat.testBit_or, Nat.testBit_or, Bool.or_eq_true, Bool.or_eq_true] at h
        rcases h with (h | h) | h
        · obtain ⟨e', h1, h2⟩ := ih h
          exact ⟨e', List.mem_cons_of_mem _ h1, h2⟩
        · rw [Nat.testBit_two_pow] at h
          exact ⟨e, List.mem_cons_self, hb, .inl (by simpa using h)⟩
        · exact ⟨e, List.mem_cons_self, hb, .inr h⟩
      · obtain ⟨e', h1, h2⟩ := ih h
        exact ⟨e', List.mem_cons_of_mem _ h1, h2⟩
  obtain ⟨e, h1, h2⟩ := this _ h
  exact ⟨e, by simpa using h1, h2⟩

theorem masks_spec {ops : List Oper} (hlt : ∀ i o, ops[i]? = some o → ∀ e ∈ o.after, Region.binds .any e = true → e.on < i) : ∀ (l : List Oper) (acc : List Nat) (k : Nat), acc.length = k → (∀ j, l[j]? = ops[k + j]?) →
    (∀ i o, i < k → ops[i]? = some o → ∀ j, (acc.getD i 0).testBit j = true → Waits ops o j) →
    ∀ i o, ops[i]? = some o → ∀ j, ((masks acc l).getD i 0).testBit j = true → Waits ops o j
  | [], acc, k, hk, hl, h => fun i o hi j hj => by
    rcases Nat.lt_or_ge i k with h' | h'
    · exact h i o h' hi j hj
    · have := hl (i - k)
      rw [Nat.add_sub_cancel' h', hi] at this
      simp at this
  | o :: r, acc, k, hk, hl, h => fun i o' hi j hj => by
    refine masks_spec hlt r (acc ++ [maskOf acc o]) (k + 1) (by simp [hk]) (fun j => by have := hl (j + 1); simpa [Nat.add_assoc, Nat.add_comm 1 j] using this) (fun i o' hik hi j hj => ?_) i o' hi j hj
    rcases Nat.lt_or_ge i k with h' | h'
    · refine h i o' h' hi j ?_
      rw [List.getD_eq_getElem?_getD, List.getElem?_append_left (by omega)] at hj
      rw [List.getD_eq_getElem?_getD]; exact hj
    · have hik : i = k := by omega
      subst hik
      have ho : ops[i]? = some o := by simpa using (hl 0).symm
      rw [hi] at ho
      cases ho
      rw [List.getD_eq_getElem?_getD, List.getElem?_append_right (by omega)] at hj
      simp only [hk, Nat.sub_self, List.getElem?_cons_zero, Option.getD_some] at hj
      obtain ⟨e, he, hb, hor⟩ := maskOf_spec hj
      intro L hL hE
      have hLe := hE e he hb
      rcases hor with rfl | hor
      · exact hLe
      · have hei := hlt i _ hi e he hb
        have hex : ∃ oe, ops[e.on]? = some oe := by
          have := (List.getElem?_eq_some_iff.1 hi).1
          exact ⟨ops[e.on], List.getElem?_eq_getElem (by omega)⟩
        obtain ⟨oe, hoe⟩ := hex
        exact h e.on oe hei hoe j hor L hL (fun e' he' hb' => hL e.on oe hoe hLe e' he' hb')

def dstIn (o : Oper) (l : List Tmp) : Bool := match o.dst with | some t => l.contains t | none => false

/-- Two operations that must not change places. -/
def conf (ops : List Oper) (a b : Oper) : Bool :=
  dstIn a (looksL ops b) || dstIn b (looksL ops a) || (memW a.op && (memW b.op || memR b.op)) || (memR a.op && memW b.op) || (tkW a.op && tkW b.op)

/-- THE CHECK: whatever must not change places is kept in order. -/
def anyOk (rw : RowM) (ops : List Oper) : Bool :=
  let ms := masks [] ops
  (List.range ops.length).all fun i =>
    match ops[i]? with
    | none => true
    | some o =>
      noSeal rw o.op && (o.after.toList.all fun e => !Region.binds .any e || decide (e.on < i)) &&
      (List.range i).all fun j =>
        match ops[j]? with
        | none => true
        | some p => (o.dst.isNone || p.dst.isNone || o.dst != p.dst) && ((ms.getD i 0).testBit j || !conf ops p o)

structure AnyOk (rw : RowM) (ops : List Oper) : Prop where
  seal_ : ∀ (i : Nat) (o : Oper), ops[i]? = some o → noSeal rw o.op = true
  lt : ∀ (i : Nat) (o : Oper), ops[i]? = some o → ∀ e ∈ o.after, Region.binds .any e = true → e.on < i
  dst : ∀ (i j : Nat) (o p : Oper) (t : Tmp), ops[i]? = some o → ops[j]? = some p → o.dst = some t → p.dst = some t → i = j
  pair : ∀ (i j : Nat) (o p : Oper), j < i → ops[i]? = some o → ops[j]? = some p → Waits ops o j ∨ conf ops p o = false

theorem anyOk_spec {rw_ : RowM} {ops : List Oper} (h : anyOk rw_ ops = true) : AnyOk rw_ ops := by
  unfold anyOk at h
  rw [List.all_eq_true] at h
  have h1 : ∀ i o, ops[i]? = some o → (noSeal rw_ o.op = true ∧ ∀ e ∈ o.after, Region.binds .any e = true → e.on < i) ∧ ∀ j p, j < i → ops[j]? = some p → (o.dst.isNone || p.dst.isNone || o.dst != p.dst) = true ∧ (((masks [] ops).getD i 0).testBit j || !conf ops p o) = true := by
    intro i o hi
    have := h i (List.mem_range.2 (List.getElem?_eq_some_iff.1 hi).1)
    simp only [hi, Bool.and_eq_true] at this
    obtain ⟨⟨a, b⟩, c⟩ := this
    refine ⟨⟨a, fun e he hb => ?_⟩, fun j p hj hp => ?_⟩
    · have := List.all_eq_true.1 b e (by simpa using he)
      rw [hb] at this
      simpa using this
    · have := List.all_eq_true.1 c j (List.mem_range.2 hj)
      simp only [hp] at this
      exact Bool.and_eq_true _ _ ▸ this
  have hlt : ∀ i o, ops[i]? = some o → ∀ e ∈ o.after, Region.binds .any e = true → e.on < i := fun i o hi => (h1 i o hi).1.2
  have hd : ∀ (i j : Nat) (o p : Oper) (t : Tmp), j < i → ops[i]? = some o → ops[j]? = some p → o.dst = some t → p.dst = some t → False := by
    intro i j o p t hj hi hp ho hpt
    have := ((h1 i o hi).2 j p hj hp).1
    simp [ho, hpt] at this
  refine ⟨fun i o hi => (h1 i o hi).1.1, hlt, fun i j o p t hi hj ho hp => ?_, fun i j o p hj hi hp => ?_⟩
  · rcases Nat.lt_trichotomy i j with h' | h' | h'
    · exact (hd j i p o t h' hj hi hp ho).elim
    · exact h'
    · exact (hd i j o p t h' hi hj ho hp).elim
  · have := ((h1 i o hi).2 j p hj hp).2
    rw [Bool.or_eq_true] at this
    rcases this with h' | h'
    · exact .inl (masks_spec hlt ops [] 0 rfl (fun j => by simp) (fun i o hi => absurd hi (Nat.not_lt_zero i)) i o hi j h')
    · exact .inr (by simpa using h')

/-- The state where the operations of a set have been carried out. -/
structure J (ops : List Oper) (st : St) (T : Nat → St) (V : Nat → SV) (L : Nat → Prop) (s : St) : Prop where
  len : s.sl.length = st.sl.length
  keep : ∀ t, (∀ i o, L i → ops[i]? = some o → o.dst ≠ some t) → s.sl[t]? = st.sl[t]?
  set : ∀ i o t, L i → ops[i]? = some o → o.dst = some t → t < st.sl.length → s.sl[t]? = some (V i)
  bx : ∃ k, k ≤ ops.length ∧ s.bx = (T k).bx ∧ ∀ i o, ops[i]? = some o → memW o.op = true → (L i ↔ i < k)
  tk : ∃ k, k ≤ ops.length ∧ s.tk = (T k).tk ∧ ∀ i o, ops[i]? = some o → tkW o.op = true → (L i ↔ i < k)
  ax : s.ax = st.ax

theorem J.getD {ops : List Oper} {st : St} {T : Nat → St} {V : Nat → SV} {L : Nat → Prop} {s : St} {rw_ : RowM} (h : J ops st T V L s) (hd : AnyOk rw_ ops) {t : Tmp} :
    (∀ i o, ops[i]? = some o → o.dst = some t → L i → s.sl.getD t .undef = if t < st.sl.length then V i else .undef) ∧
    ((∀ i o, L i → ops[i]? = some o → o.dst ≠ some t) → s.sl.getD t .undef = st.sl.getD t .undef) := by
  refine ⟨fun i o hi ht hl => ?_, fun hn => ?_⟩
  · split
    · rename_i hlt; rw [List.getD_eq_getElem?_getD, h.set i o t hl hi ht hlt]; rfl
    · rename_i hlt; rw [List.getD_eq_getElem?_getD, List.getElem?_eq_none (by rw [h.len]; exact Nat.le_of_not_lt hlt)]; rfl
  · rw [List.getD_eq_getElem?_getD, h.keep t hn, List.getD_eq_getElem?_getD]

section
variable {E : Env} {ops : List Oper} {st : St} {T : Nat → St} {V : Nat → SV} {M : Nat → St} {L : Nat → Prop} {s : St}

/-- What the text's order comes to. -/
structure Tr (E : Env) (ops : List Oper) (st : St) (T : Nat → St) (V : Nat → SV) (M : Nat → St) : Prop where
  zero : T 0 = st
  step : ∀ i o, ops[i]? = some o → StepA E ops o (T i) (V i) (M i) ∧ T (i + 1) = (M i).put o.dst (V i)

theorem put_ax (m : St) (d : Option Tmp) (v : SV) : (m.put d v).ax = m.ax := by cases d <;> rfl
theorem put_bx (m : St) (d : Option Tmp) (v : SV) : (m.put d v).bx = m.bx := by cases d <;> rfl

theorem Tr.one (hT : Tr E ops st T V M) (hA : AnyOk E.rm ops) {i : Nat} {o : Oper} (hi : ops[i]? = some o) :
    ((M i).sl = (T i).sl ∧ (M i).ax = (T i).ax) ∧ (memW o.op = false → (T (i + 1)).bx = (T i).bx) ∧ (tkW o.op = false → (T (i + 1)).tk = (T i).tk) ∧ (T (i + 1)).bx = (M i).bx ∧ (T (i + 1)).tk = (M i).tk := by
  obtain ⟨h1, h2⟩ := hT.step i o hi
  obtain ⟨a, b, c, _⟩ := StepA.local (st2 := T i) (hA.seal_ i o hi) (fun _ _ => rfl) (fun _ => rfl) (fun _ => rfl) h1
  rw [h2, put_bx, put_tk]
  exact ⟨a, b, c, rfl, rfl⟩

theorem Tr.bx_same (hT : Tr E ops st T V M) (hA : AnyOk E.rm ops) (a : Nat) : ∀ (b : Nat), a ≤ b → b ≤ ops.length → (∀ i o, a ≤ i → i < b → ops[i]? = some o → memW o.op = false) → (T b).bx = (T a).bx := by
  intro b
  induction b with
  | zero => intro h _ _; simp at h; subst h; rfl
  | succ b ih =>
    intro h hb hn
    rcases Nat.lt_or_ge b a with h' | h'
    · have : a = b + 1 := by omega
      subst this; rfl
    · have hi : ops[b]? = some ops[b] := List.getElem?_eq_getElem (by omega)
      rw [(hT.one hA hi).2.1 (hn b _ h' (by omega) hi)]
      exact ih h' (by omega) (fun i o h1 h2 => hn i o h1 (by omega))

theorem Tr.tk_same (hT : Tr E ops st T V M) (hA : AnyOk E.rm ops) (a : Nat) : ∀ (b : Nat), a ≤ b → b ≤ ops.length → (∀ i o, a ≤ i → i < b → ops[i]? = some o → tkW o.op = false) → (T b).tk = (T a).tk := by
  intro b
  induction b with
  | zero => intro h _ _; simp at h; subst h; rfl
  | succ b ih =>
    intro h hb hn
    rcases Nat.lt_or_ge b a with h' | h'
    · have : a = b + 1 := by omega
      subst this; rfl
    · have hi : ops[b]? = some ops[b] := List.getElem?_eq_getElem (by omega)
      rw [(hT.one hA hi).2.2.1 (hn b _ h' (by omega) hi)]
      exact ih h' (by omega) (fun i o h1 h2 => hn i o h1 (by omega))

/-- One operation more. -/
theorem J.next (hJ : J ops st T V L s) (hA : AnyOk E.rm ops) {i : Nat} {o : Oper} (hi : ops[i]? = some o) (hL : ¬ L i) {m : St} (hsl : m.sl = s.sl ∧ m.ax = s.ax)
    (hb : ∃ k, k ≤ ops.length ∧ m.bx = (T k).bx ∧ ∀ j p, ops[j]? = some p → memW p.op = true → ((L j ∨ j = i) ↔ j < k))
    (ht : ∃ k, k ≤ ops.length ∧ m.tk = (T k).tk ∧ ∀ j p, ops[j]? = some p → tkW p.op = true → ((L j ∨ j = i) ↔ j < k)) :
    J ops st T V (fun j => L j ∨ j = i) (m.put o.dst (V i)) := by
  obtain ⟨hsl, hax⟩ := hsl
  have hput : ∀ t, (m.put o.dst (V i)).sl[t]? = if o.dst = some t ∧ t < st.sl.length then some (V i) else s.sl[t]? := by
    intro t
    cases hd : o.dst with
    | none => simp [St.put, hsl]
    | some t' =>
      simp only [St.put, hsl, List.getElem?_set, Option.some.injEq]
      by_cases he : t' = t
      · subst he
        by_cases hlt : t' < st.sl.length
        · simp [hlt, hJ.len]
        · simp [hlt, hJ.len]
      · simp [he]
  refine ⟨?_, fun t hn => ?_, fun j p t hl hj hpt hlt => ?_, by rw [put_bx]; exact hb, by rw [put_tk]; exact ht, by rw [put_ax, hax]; exact hJ.ax⟩
  · cases hd : o.dst <;> simp [St.put, hsl, hJ.len]
  · rw [hput, if_neg (fun h => hn i o (.inr rfl) hi h.1)]
    exact hJ.keep t fun j p hl hj => hn j p (.inl hl) hj
  · rw [hput]
    rcases hl with hl | rfl
    · rw [if_neg (fun h => hL (by rw [hA.dst i j o p t hi hj h.1 hpt]; exact hl))]
      exact hJ.set j p t hl hj hpt hlt
    · rw [hi] at hj; cases hj
      rw [if_pos ⟨hpt, hlt⟩]

theorem Tr.prefix (hT : Tr E ops st T V M) (hA : AnyOk E.rm ops) : ∀ k, k ≤ ops.length → J ops st T V (fun j => j < k) (T k) := by
  intro k
  induction k with
  | zero =>
    intro _
    rw [hT.zero]
    exact ⟨rfl, fun _ _ => rfl, fun i o t hl => absurd hl (Nat.not_lt_zero i), ⟨0, Nat.zero_le _, by rw [hT.zero], fun i o _ _ => Iff.rfl⟩, ⟨0, Nat.zero_le _, by rw [hT.zero], fun i o _ _ => Iff.rfl⟩, rfl⟩
  | succ k ih =>
    intro hk
    have hi : ops[k]? = some ops[k] := List.getElem?_eq_getElem (by omega)
    have hJ := ih (by omega)
    obtain ⟨h1, _, _, h4, h5⟩ := hT.one hA hi
    have := hJ.next hA hi (Nat.lt_irrefl k) (m := M k) h1 ⟨k + 1, hk, h4.symm, fun j p _ _ => by omega⟩ ⟨k + 1, hk, h5.symm, fun j p _ _ => by omega⟩
    rw [(hT.step k _ hi).2]
    have e : (fun j => j < k + 1) = fun j => j < k ∨ j = k := by funext j; exact propext (by omega)
    rw [e]
    exact this

theorem J.all (hJ : J ops st T V L s) (hT : Tr E ops st T V M) (hA : AnyOk E.rm ops) (hL : ∀ i, i < ops.length → L i) : s = T ops.length := by
  have hP := hT.prefix hA ops.length (Nat.le_refl _)
  have hsl : s.sl = (T ops.length).sl := by
    apply List.ext_getElem?
    intro t
    by_cases hex : ∃ (i : Nat) (o : Oper), ops[i]? = some o ∧ o.dst = some t
    · obtain ⟨i, o, hi, ho⟩ := hex
      have hlt := (List.getElem?_eq_some_iff.1 hi).1
      by_cases ht : t < st.sl.length
      · rw [hJ.set i o t (hL i hlt) hi ho ht, hP.set i o t hlt hi ho ht]
      · rw [List.getElem?_eq_none (by rw [hJ.len]; omega), List.getElem?_eq_none (by rw [hP.len]; omega)]
    · rw [hJ.keep t fun i o _ hi ho => hex ⟨i, o, hi, ho⟩, hP.keep t fun i o _ hi ho => hex ⟨i, o, hi, ho⟩]
  obtain ⟨k, hk, hb, hbi⟩ := hJ.bx
  obtain ⟨k', hk', ht, hti⟩ := hJ.tk
  have hbx : s.bx = (T ops.length).bx := by
    rw [hb]
    exact (hT.bx_same hA k ops.length hk (Nat.le_refl _) fun i o h1 h2 hi => by
      cases hm : memW o.op with
      | false => rfl
      | true => have := (hbi i o hi hm).1 (hL i h2); omega).symm
  have htk : s.tk = (T ops.length).tk := by
    rw [ht]
    exact (hT.tk_same hA k' ops.length hk' (Nat.le_refl _) fun i o h1 h2 hi => by
      cases hm : tkW o.op with
      | false => rfl
      | true => have := (hti i o hi hm).1 (hL i h2); omega).symm
  have hax : s.ax = (T ops.length).ax := hJ.ax.trans hP.ax.symm
  cases s
  cases hq : T ops.length
  rw [hq] at hsl hbx htk hax
  simp only at hsl hbx htk hax
  subst hsl; subst hbx; subst htk; subst hax
  rfl

theorem conf_dst {a b : Oper} {t : Tmp} (ha : a.dst = some t) (hb : t ∈ looksL ops b) : conf ops a b = true := by
  have : dstIn a (looksL ops b) = true := by simp only [dstIn, ha]; simpa using hb
  simp [conf, this]
theorem conf_dst' {a b : Oper} {t : Tmp} (hb : b.dst = some t) (ha : t ∈ looksL ops a) : conf ops a b = true := by
  have : dstIn b (looksL ops a) = true := by simp only [dstIn, hb]; simpa using ha
  simp [conf, this]

/-- An operation whose turn it is does what it does in the text's order. -/
theorem J.turn (hJ : J ops st T V L s) (hT : Tr E ops st T V M) (hA : AnyOk E.rm ops) (hC : Closed ops L) {i : Nat} {o : Oper} (hi : ops[i]? = some o) (hL : ¬ L i)
    (hE : ∀ e ∈ o.after, Region.binds .any e = true → L e.on) :
    ∃ m, StepA E ops o s (V i) m ∧ J ops st T V (fun j => L j ∨ j = i) (m.put o.dst (V i)) := by
  have hlt := (List.getElem?_eq_some_iff.1 hi).1
  have hP := hT.prefix hA i (by omega)
  -- what comes before i in the text and must not change places with it has been carried out; what comes behind has not
  have hbefore : ∀ j p, j < i → ops[j]? = some p → conf ops p o = true → L j := by
    intro j p hj hp hc
    rcases hA.pair i j o p hj hi hp with h | h
    · exact h L hC hE
    · rw [hc] at h; cases h
  have hafter : ∀ j p, i < j → ops[j]? = some p → conf ops o p = true → ¬ L j := by
    intro j p hj hp hc hl
    rcases hA.pair j i p o hj hp hi with h | h
    · exact hL (h L hC (fun e he hb => hC j p hp hl e he hb))
    · rw [hc] at h; cases h
  have hv : ∀ t ∈ looksL ops o, s.sl.getD t .undef = (T i).sl.getD t .undef := by
    intro t ht
    by_cases hex : ∃ (j : Nat) (p : Oper), ops[j]? = some p ∧ p.dst = some t
    · obtain ⟨j, p, hp, hpt⟩ := hex
      rcases Nat.lt_or_ge j i with h' | h'
      · rw [(hJ.getD hA).1 j p hp hpt (hbefore j p h' hp (conf_dst hpt ht)), (hP.getD hA).1 j p hp hpt h']
      · have hnl : ¬ L j := by
          rcases Nat.lt_or_ge i j with h'' | h''
          · exact hafter j p h'' hp (conf_dst' hpt ht)
          · have : j = i := by omega
            subst this; exact hL
        rw [(hJ.getD hA).2 (fun j' p' hl' hp' hpt' => hnl (by rw [hA.dst j j' p p' t hp hp' hpt hpt']; exact hl')),
          (hP.getD hA).2 (fun j' p' hl' hp' hpt' => by have := hA.dst j j' p p' t hp hp' hpt hpt'; omega)]
    · rw [(hJ.getD hA).2 (fun j' p' _ hp' hpt' => hex ⟨j', p', hp', hpt'⟩), (hP.getD hA).2 (fun j' p' _ hp' hpt' => hex ⟨j', p', hp', hpt'⟩)]
  obtain ⟨kb, hkb, hb, hbi⟩ := hJ.bx
  obtain ⟨kt, hkt, htt, hti⟩ := hJ.tk
  have hbx : memW o.op = true ∨ memR o.op = true → s.bx = (T i).bx := by
    intro hm
    rw [hb]
    rcases Nat.le_total kb i with h' | h'
    · exact (hT.bx_same hA kb i h' (by omega) fun j p h1 h2 hp => by
        cases hw : memW p.op with
        | false => rfl
        | true =>
          have hc : conf ops p o = true := by rcases hm with hm | hm <;> simp [conf, hw, hm]
          have := (hbi j p hp hw).1 (hbefore j p h2 hp hc)
          omega).symm
    · exact hT.bx_same hA i kb h' hkb fun j p h1 h2 hp => by
        cases hw : memW p.op with
        | false => rfl
        | true =>
          have hl := (hbi j p hp hw).2 h2
          rcases Nat.lt_or_ge i j with h'' | h''
          · have hc : conf ops o p = true := by rcases hm with hm | hm <;> simp [conf, hw, hm]
            exact absurd hl (hafter j p h'' hp hc)
          · have : j = i := by omega
            subst this; exact absurd hl hL
  have htk : tkW o.op = true → s.tk = (T i).tk := by
    intro hm
    rw [htt]
    rcases Nat.le_total kt i with h' | h'
    · exact (hT.tk_same hA kt i h' (by omega) fun j p h1 h2 hp => by
        cases hw : tkW p.op with
        | false => rfl
        | true =>
          have hc : conf ops p o = true := by simp [conf, hw, hm]
          have := (hti j p hp hw).1 (hbefore j p h2 hp hc)
          omega).symm
    · exact hT.tk_same hA i kt h' hkt fun j p h1 h2 hp => by
        cases hw : tkW p.op with
        | false => rfl
        | true =>
          have hl := (hti j p hp hw).2 h2
          rcases Nat.lt_or_ge i j with h'' | h''
          · have hc : conf ops o p = true := by simp [conf, hw, hm]
            exact absurd hl (hafter j p h'' hp hc)
          · have : j = i := by omega
            subst this; exact absurd hl hL
  obtain ⟨hs1, hs2⟩ := hT.step i o hi
  obtain ⟨a, b, c, e⟩ := StepA.local (st2 := s) (hA.seal_ i o hi) hv hbx htk hs1
  refine ⟨_, e, hJ.next hA hi hL ⟨rfl, rfl⟩ ?_ ?_⟩
  · cases hw : memW o.op with
    | false =>
      refine ⟨kb, hkb, by simpa using hb, fun j p hp hm => ?_⟩
      rw [← hbi j p hp hm]
      constructor
      · rintro (h | rfl)
        · exact h
        · rw [hi] at hp; cases hp; rw [hw] at hm; cases hm
      · exact .inl
    | true =>
      refine ⟨i + 1, by omega, by simp [hs2, put_bx], fun j p hp hm => ?_⟩
      constructor
      · rintro (h | rfl)
        · rcases Nat.lt_or_ge i j with h'' | h''
          · exact absurd h (hafter j p h'' hp (by simp [conf, hw, hm]))
          · omega
        · omega
      · intro h
        rcases Nat.lt_or_ge j i with h'' | h''
        · exact .inl (hbefore j p h'' hp (by simp [conf, hw, hm]))
        · exact .inr (by omega)
  · cases hw : tkW o.op with
    | false =>
      refine ⟨kt, hkt, by simpa using htt, fun j p hp hm => ?_⟩
      rw [← hti j p hp hm]
      constructor
      · rintro (h | rfl)
        · exact h
        · rw [hi] at hp; cases hp; rw [hw] at hm; cases hm
      · exact .inl
    | true =>
      refine ⟨i + 1, by omega, by simp [hs2, put_tk], fun j p hp hm => ?_⟩
      constructor
      · rintro (h | rfl)
        · rcases Nat.lt_or_ge i j with h'' | h''
          · exact absurd h (hafter j p h'' hp (by simp [conf, hw, hm]))
          · omega
        · omega
      · intro h
        rcases Nat.lt_or_ge j i with h'' | h''
        · exact .inl (hbefore j p h'' hp (by simp [conf, hw, hm]))
        · exact .inr (by omega)

end
end Go.Abs
