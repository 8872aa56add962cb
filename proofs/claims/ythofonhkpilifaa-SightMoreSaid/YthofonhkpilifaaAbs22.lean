/-
  The abstract walk is sound: loops over functions.
-/
import Derived.Test.YthofonhkpilifaaAbs12
import Derived.RangeFuncNested
import Derived.RangeFuncLeaves
namespace Go.Abs
open Go.RowKit

section
variable {E : Env} {B : Nat} {S0 : Addr → Prop} {w0 : World} {st : St} {G : Gh} {S : Addr → Prop} {w : World} {tmps : Array Value} {r : Option Nat} {n : Nat}

theorem Inv.foot_lt {bx : List (Option (List SV))} {tk : List (Nat × TypeId)} {ax : Ax} (hI : Inv E B S0 bx tk ax G S w) {b : Nat} (h : Foot G b) : b < w.heap.size := by
  rcases h with ⟨i, h⟩ | ⟨t, n, cap, h1, h2⟩ | ⟨i, h⟩ | h
  · exact (hI.old i b h).2
  · have hl : t < tk.length := by rw [← hI.ltk]; exact (List.getElem?_eq_some_iff.1 h1).1
    obtain ⟨a, cap1, k1, k2, k3, k4⟩ := hI.tok t _ _ _ (List.getElem?_eq_getElem hl) h1
    injection k1 with k1 k5 k6
    subst k6
    rw [← k5] at k4
    obtain ⟨g', cur, c1, c2, c3, _⟩ := k4 h2
    rw [← k1] at c1
    injection c1 with c1
    injection c1 with c1
    rw [c1]
    exact (Array.getElem?_eq_some_iff.1 c3).1
  · exact (hI.mpo i b h).2
  · exact hI.flt b h

/-- What lies in F has not turned: nor have the activation's own things, if they lie there. -/
theorem Inv.keeps {bx : List (Option (List SV))} {tk : List (Nat × TypeId)} {ax : Ax} (hI : Inv E B S0 bx tk ax G S w) {F : Nat → Prop} {S' : Addr → Prop} {w' : World} (K : Keeps F S S' w w') (hF : ∀ b, Foot G b → F b) (hB : ∀ b, b < B → F b) :
    Inv E B S0 bx tk ax G S' w' := by
  have hE : Ext0 tk G S w tk G S' w' := ⟨fun _ _ h => h, fun _ hv le h1 h2 => ⟨hv, le, h1, h2, .inl ⟨rfl, rfl⟩⟩, K.sub, K.cell, fun _ _ h => h⟩
  have hsz := K.calm.size
  have hbx : ∀ (i b : Nat), G.bx[i]? = some b → F b := fun i b h => hF b (.inl ⟨i, h⟩)
  have hmp : ∀ (i b : Nat), G.mp[i]? = some b → F b := fun i b h => hF b (.inr (.inr (.inl ⟨i, h⟩)))
  refine ⟨Nat.le_trans hI.base hsz, fun a ha => ?_, K.slt, hI.lbx, hI.ltk, fun i b hb => ⟨(hI.old i b hb).1, Nat.lt_of_lt_of_le (hI.old i b hb).2 hsz⟩, hI.dist, fun id b cs hc hb => ?_, fun t n e hv h1 h2 => ?_, hI.apart, hI.lmp, hI.dmp,
    fun i b h => ⟨(hI.mpo i b h).1, Nat.lt_of_lt_of_le (hI.mpo i b h).2 hsz⟩, fun i b c h1 h2 => (hI.mpk i b c h1 h2).same (K.same b (hmp i b h2)), fun b hb => Nat.lt_of_lt_of_le (hI.flt b hb) hsz, hI.fbx, hI.ftk, hI.fmp,
    ⟨E.Y.ok _ _ _ _ _ _ hI.yl.1 ⟨K.calm, fun b hb => K.same b (hF b (.inr (.inr (.inr hb)))), K.sub, K.cell, fun a ha => (K.new a ha).imp (fun h => h) fun h hf => h (hF _ (.inr (.inr (.inr hf)))), K.slt⟩, hI.yl.2⟩⟩
  · rcases K.new a ha with h | h
    · exact hI.s0 a h
    · exact .inr (Nat.le_of_not_lt fun hlt => h (hB _ hlt))
  · obtain ⟨⟨t, arr, h1, h2, h3⟩, h4⟩ := hI.box id b cs hc hb
    refine ⟨⟨t, arr, (K.same b (hbx id b hb)).trans h1, h2, fun j c v a1 a2 => ⟨RSV.mono0 hE (h3 j c v a1 a2).1, (h3 j c v a1 a2).2⟩⟩, fun a ha hab => ?_⟩
    rcases K.new a ha with h | h
    · exact h4 a h hab
    · exact h (by rw [hab]; exact hbx id b hb)
  · obtain ⟨a, cap, h3, h4, h5, h6⟩ := hI.tok t n e hv h1 h2
    refine ⟨a, cap, h3, h4, h5, fun hlt => ?_⟩
    obtain ⟨g, cur, k1, k2, k3, k4, k5, k6⟩ := h6 hlt
    have hg : F g := hF g (.inr (.inl ⟨t, n, cap, by rw [h2, h3, k1], hlt⟩))
    refine ⟨g, cur, k1, k2, (K.same g hg).trans k3, k4, fun a' ha' hb' => ?_, k6⟩
    rcases K.new a' ha' with h | h
    · exact k5 a' h hb'
    · exact absurd hg (by rw [← hb']; exact h)

theorem Ext.keeps {tk0 : List (Nat × TypeId)} {G0 : Gh} {S1 : Addr → Prop} {w1 : World} {tk : List (Nat × TypeId)} (X : Ext tk0 G0 S1 w1 tk G S w) {F : Nat → Prop} {S' : Addr → Prop} {w' : World} (K : Keeps F S S' w w') (hF : ∀ b, b < w1.heap.size → F b) :
    Ext tk0 G0 S1 w1 tk G S' w' :=
  ⟨X.bx, X.tk, fun a h => K.sub a (X.sub a h), fun a h => (K.cell a (X.sub a h)).trans (X.cell a h), X.mp, X.calm.trans K.calm, fun b hb hf => (K.same b (hF b hb)).trans (X.same b hb hf), X.foot, fun a ha => by
    rcases K.new a ha with h | h
    · exact X.new a h
    · exact .inr (.inr (Nat.le_of_not_lt fun hlt => h (hF _ hlt)))⟩

/-- A loop's record. -/
def isRec : Obj → Bool
  | .loop _ | .deferred _ => true
  | _ => false

theorem cell_putRec {l : Nat} {o o' : Obj} (hl : w.heap[l]? = some o) (ho : isRec o = true) (ho' : isRec o' = true) (a : Addr) : (w.putObj l o').cell? a = w.cell? a := by
  by_cases h : a.block = l
  · have h2 := World.putObj_heap_same (w := w) (o := o') (heap_lt hl)
    unfold World.cell?
    rw [h, hl, h2]
    cases o <;> simp [isRec] at ho <;> cases o' <;> simp [isRec] at ho' <;> rfl
  · unfold World.cell?
    rw [World.putObj_heap_other h]

/-- A record has turned. -/
theorem Keeps.putRec {l : Nat} {o o' : Obj} {F : Nat → Prop} (hl : w.heap[l]? = some o) (ho : isRec o = true) (ho' : isRec o' = true) (hf : ¬ F l) (hs : ∀ a, S a → a.block < w.heap.size) : Keeps F S S w (w.putObj l o') :=
  ⟨⟨rfl, rfl, rfl, by simp, fun k hk => absurd hk (Nat.not_lt_zero _)⟩, fun b hb => World.putObj_heap_other (fun e => hf (by rw [← e]; exact hb)), fun _ h => h, fun a _ => cell_putRec hl ho ho' a, fun _ h => .inl h, fun a h => by simpa using hs a h⟩

theorem Rel.putRec (R : Rel E B S0 w0 st G S w tmps) {l : Nat} {o o' : Obj} (hl : w.heap[l]? = some o) (ho : isRec o = true) (ho' : isRec o' = true) (hf : ¬ Foot G l) (hB : B ≤ l) : Rel E B S0 w0 st G S (w.putObj l o') tmps := by
  have K : Keeps (fun b => b ≠ l) S S w (w.putObj l o') := Keeps.putRec hl ho ho' (fun h => h rfl) R.inv.slt
  have hE : Ext0 st.tk G S w st.tk G S (w.putObj l o') := ⟨fun _ _ h => h, fun _ hv le h1 h2 => ⟨hv, le, h1, h2, .inl ⟨rfl, rfl⟩⟩, K.sub, K.cell, fun _ _ h => h⟩
  exact ⟨R.inv.keeps K (fun b hb e => hf (by rw [← e]; exact hb)) (fun b hb e => by omega), R.below.trans ⟨rfl, rfl, rfl, by simp, fun k hk => World.putObj_heap_other (by omega)⟩, R.len, fun t s v a1 a2 => RSV.mono0 hE (R.sl t s v a1 a2)⟩

theorem Ext.putRec {tk0 : List (Nat × TypeId)} {G0 : Gh} {S1 : Addr → Prop} {w1 : World} {tk : List (Nat × TypeId)} (X : Ext tk0 G0 S1 w1 tk G S w) {l : Nat} {o o' : Obj} (hl : w.heap[l]? = some o) (ho : isRec o = true) (ho' : isRec o' = true) (hs : ∀ a, S a → a.block < w.heap.size) (h : w1.heap.size ≤ l) :
    Ext tk0 G0 S1 w1 tk G S (w.putObj l o') :=
  X.keeps (F := fun b => b ≠ l) (Keeps.putRec hl ho ho' (fun h => h rfl) hs) (fun b hb e => by omega)

theorem leL_refl : ∀ (l : List SV), leL l l
  | [] => trivial
  | s :: r => ⟨by unfold leS; split <;> simp_all, leL_refl r⟩

/-- The parameters' values. -/
theorem setPs_rel : ∀ (ts : List Tmp) (ps : List PV) (vs : List Value) (sl : List SV) (tm : Array Value) {tk : List (Nat × TypeId)}, ts.length = vs.length → RVs S w ps vs → sl.length = tm.size →
    (∀ (t : Nat) (s : SV) (v : Value), sl[t]? = some s → tm[t]? = some v → RSV tk G S w s v) →
    (setPs ts ps sl).length = ((ts.zip vs).foldl (fun t (p, v) => t.setIfInBounds p v) tm).size ∧
      ∀ (t : Nat) (s : SV) (v : Value), (setPs ts ps sl)[t]? = some s → ((ts.zip vs).foldl (fun t (p, v) => t.setIfInBounds p v) tm)[t]? = some v → RSV tk G S w s v
  | [], ps, vs, sl, tm, tk, hl, hv, hs, h => by
    cases vs with
    | nil => cases ps <;> exact ⟨hs, h⟩
    | cons v vs => simp at hl
  | t :: ts, ps, vs, sl, tm, tk, hl, hv, hs, h => by
    cases vs with
    | nil => simp at hl
    | cons v vs =>
      cases ps with
      | nil => have := hv.1; simp at this
      | cons p ps =>
        refine setPs_rel ts ps vs (sl.set t (.val p)) (tm.setIfInBounds t v) (by simpa using hl) ⟨by simpa using hv.1, fun i q u a b => hv.2 (i + 1) q u (by simpa using a) (by simpa using b)⟩ (by simp [hs]) (fun i s u a b => ?_)
        rw [List.getElem?_set] at a
        rw [Array.getElem?_setIfInBounds] at b
        by_cases hi : t = i
        · subst hi
          by_cases hlt : t < sl.length
          · have hlt' : t < tm.size := hs ▸ hlt
            simp [hlt] at a
            simp [hlt'] at b
            subst a; subst b
            exact hv.2 0 p v rfl rfl
          · simp [hlt] at a
        · simp [hi] at a b
          exact h i s u a b

/-- How a loop over a function, and each of its rounds, is walked. -/
def WalkOk (E : Env) (c : Code) : Prop :=
  ∀ (nb : Nat × Nat) (b0 : Nat) (rr : Option (Nat × Loop)) (n B : Nat) (S0 : Addr → Prop) (w0 : World) (d : List Deferred) (tk0 : List (Nat × TypeId)) (G0 : Gh) (S1 : Addr → Prop) (w1 : World), G0.bx.length ≤ nb.1 → G0.mp.length ≤ nb.2 →
    ∀ (st : St) (Q : AX → St → Prop) (G : Gh) (S : Addr → Prop) (w : World) (tmps : Array Value) (ds : List Deferred), wpC E c nb st Q → Rel E B S0 w0 st G S w tmps → Ext tk0 G0 S1 w1 st.tk G S w → Put b0 rr d ds G w →
      c.wpIn (Fr (rr.map (·.1))) n E.P (LQ E B S0 w0 tk0 G0 S1 w1 b0 rr d Q) { tmps := tmps, defers := ds } w

/-- What a loop's own things are like between two rounds. -/
def Between (E : Env) (B : Nat) (S0 : Addr → Prop) (w0 : World) (st0 : St) (G0 : Gh) (S1 : Addr → Prop) (w1 : World) (l base : Nat) (Ds : List Nat) (rec : LoopState → Option Code → Loop) (N : Nat) (I : Nat → St → Prop) (Q : AX → St → Prop)
    (k : Nat) (F : Nat → Prop) (S : Addr → Prop) (w : World) : Prop :=
  ∃ (s : St) (G : Gh), ((k ≤ N ∧ I k s ∧ w.heap[l]? = some (.loop (rec .ready none))) ∨ (k = N + 1 ∧ ∃ c, w.heap[l]? = some (.loop (rec .done (some c))) ∧ ((c = .ret ∧ Q .ret s) ∨ ∃ i, c = .exit i ∧ Q (.exit i) s))) ∧
    s.sl = st0.sl ∧ Inv E B S0 s.bx s.tk s.ax G S w ∧ Below B w0 w ∧ Ext st0.tk G0 S1 w1 s.tk G S w ∧ ¬ Foot G l ∧ (∀ D ∈ Ds, w.heap[D]? = some (.deferred (some [])) ∧ ¬ Foot G D) ∧ (∀ b, Foot G b ∨ b < base → F b)

theorem Between.keeps {st0 : St} {G0 : Gh} {S1 : Addr → Prop} {w1 : World} {l base : Nat} {Ds : List Nat} {rec : LoopState → Option Code → Loop} {N : Nat} {I : Nat → St → Prop} {Q : AX → St → Prop}
    (hl : l < base) (hD : ∀ D ∈ Ds, D < base) (hB : B ≤ base) (h1 : w1.heap.size ≤ base) (k : Nat) (F : Nat → Prop) (S S' : Addr → Prop) (w w' : World)
    (h : Between E B S0 w0 st0 G0 S1 w1 l base Ds rec N I Q k F S w) (K : Keeps F S S' w w') : Between E B S0 w0 st0 G0 S1 w1 l base Ds rec N I Q k F S' w' := by
  obtain ⟨s, G, hk, hsl, hI, hbel, X, hfl, hDs, hF⟩ := h
  have hb : ∀ b, b < base → F b := fun b hb => hF b (.inr hb)
  refine ⟨s, G, ?_, hsl, hI.keeps K (fun b hb => hF b (.inl hb)) (fun b h => hb b (by omega)), hbel.trans ⟨K.calm.os, K.calm.tape, K.calm.output, K.calm.size, fun b h => K.same b (hb b (by omega))⟩, X.keeps K (fun b h => hb b (by omega)), hfl,
    fun D h => ⟨(K.same D (hb D (hD D h))).trans (hDs D h).1, (hDs D h).2⟩, hF⟩
  have hsame := K.same l (hb l hl)
  rcases hk with ⟨h1, h2, h3⟩ | ⟨h1, c, h2, h3⟩
  · exact .inl ⟨h1, h2, hsame.trans h3⟩
  · exact .inr ⟨h1, c, hsame.trans h2, h3⟩

end
end Go.Abs
