/-
  Abstract values and the abstract walk of Go code: what a slot holds is told as a plain tree; how a tree is read off memory (RV, RSV).
-/
import Derived.CallsIn
import Derived.Below
import Derived.Maps.AppendAt
import Derived.Maps.Own
import Derived.OrdersIn
namespace Go.Abs
open Go.RowKit

/-- A value read as a tree: what it leads to is read, too. -/
inductive PV where
  | any
  | int (k : IntKind) (n : Int)
  | bool (b : Bool)
  | str (s : ByteArray)
  | agg (cs : List PV)
  | tup (vs : List PV)
  | list (m : Nat) (xs : List PV)
  | ptr (cs : List PV) (off : Nat)
  | fn (f : FuncId) (caps : List PV)
  /-- the function that a loop over a function hands on -/
  | yld (l : Nat)
  /-- one cell, whatever it holds -/
  | ref

instance : Inhabited PV := ⟨.any⟩

/-- The cells of a value. -/
def PV.cells : PV → List PV
  | .agg cs => cs
  | x => [x]

/-- How a tree reads off memory: 'S': the cells that nobody writes any more. -/
inductive RV (S : Addr → Prop) (w : World) : PV → Value → Prop
  | any (v : Value) : RV S w .any v
  | int (k : IntKind) (n : Int) : RV S w (.int k n) (.int k n)
  | bool (b : Bool) : RV S w (.bool b) (.bool b)
  | str (s : ByteArray) : RV S w (.str s) (.string s)
  | agg (cs : List PV) (vs : List Value) (hl : cs.length = vs.length)
      (h : ∀ (i : Nat) (c : PV) (v : Value), cs[i]? = some c → vs[i]? = some v → RV S w c v) : RV S w (.agg cs) (.agg vs.toArray)
  | tup (cs : List PV) (vs : List Value) (hl : cs.length = vs.length)
      (h : ∀ (i : Nat) (c : PV) (v : Value), cs[i]? = some c → vs[i]? = some v → RV S w c v) : RV S w (.tup cs) (.tuple vs.toArray)
  | list (m : Nat) (xs : List PV) (a : Option Addr) (ad : Addr) (cap : Nat) (g : Nat → Nat → Value)
      (ha : xs ≠ [] → a = some ad) (hcap : xs.length ≤ cap) (hmax : cap ≤ maxLen)
      (hm : ∀ (i : Nat) (x : PV), xs[i]? = some x → x.cells.length = m)
      (hc : ∀ (i : Nat) (x : PV) (j : Nat) (c : PV), xs[i]? = some x → x.cells[j]? = some c →
        S (ad.add (i * m + j)) ∧ w.cell? (ad.add (i * m + j)) = some (g i j) ∧ (g i j).oneCell' = true)
      (hr : ∀ (i : Nat) (x : PV) (j : Nat) (c : PV), xs[i]? = some x → x.cells[j]? = some c → RV S w c (g i j)) :
      RV S w (.list m xs) (.slice a xs.length cap)
  | ptr (cs : List PV) (off : Nat) (ad : Addr) (g : Nat → Value)
      (hc : ∀ (j : Nat) (c : PV), cs[j]? = some c → S (ad.add j) ∧ w.cell? (ad.add j) = some (g j) ∧ (g j).oneCell' = true)
      (hr : ∀ (j : Nat) (c : PV), cs[j]? = some c → RV S w c (g j)) : RV S w (.ptr cs off) (.pointer (some (ad.add off)))
  | fn (f : FuncId) (caps : List PV) (vs : List Value) (hl : caps.length = vs.length)
      (h : ∀ (i : Nat) (c : PV) (v : Value), caps[i]? = some c → vs[i]? = some v → RV S w c v) : RV S w (.fn f caps) (.func (.func f) #[] vs.toArray)
  | yld (l : Nat) : RV S w (.yld l) (.func (.yield l) #[] #[])
  | ref (v : Value) (h : v.oneCell' = true) : RV S w .ref v

theorem RV.mono {S S' : Addr → Prop} {w w' : World} (hS : ∀ a, S a → S' a) (hw : ∀ a, S a → w'.cell? a = w.cell? a) {p : PV} {v : Value} (h : RV S w p v) : RV S' w' p v := by
  induction h with
  | any v => exact .any v
  | int k n => exact .int k n
  | bool b => exact .bool b
  | str s => exact .str s
  | agg cs vs hl _ ih => exact .agg cs vs hl ih
  | tup cs vs hl _ ih => exact .tup cs vs hl ih
  | list m xs a ad cap g ha hcap hmax hm hc _ ih =>
    exact .list m xs a ad cap g ha hcap hmax hm (fun i x j c h1 h2 => let ⟨a1, a2, a3⟩ := hc i x j c h1 h2; ⟨hS _ a1, (hw _ a1).trans a2, a3⟩) ih
  | ptr cs off ad g hc _ ih =>
    exact .ptr cs off ad g (fun j c h1 => let ⟨a1, a2, a3⟩ := hc j c h1; ⟨hS _ a1, (hw _ a1).trans a2, a3⟩) ih
  | fn f caps vs hl _ ih => exact .fn f caps vs hl ih
  | yld l => exact .yld l
  | ref v h => exact .ref v h

/-- Lists of values, each by its tree. -/
def RVs (S : Addr → Prop) (w : World) (ps : List PV) (vs : List Value) : Prop :=
  ps.length = vs.length ∧ ∀ (i : Nat) (p : PV) (v : Value), ps[i]? = some p → vs[i]? = some v → RV S w p v

theorem RVs.mono {S S' : Addr → Prop} {w w' : World} (hS : ∀ a, S a → S' a) (hw : ∀ a, S a → w'.cell? a = w.cell? a) {ps : List PV} {vs : List Value} (h : RVs S w ps vs) : RVs S' w' ps vs :=
  ⟨h.1, fun i p v h1 h2 => (h.2 i p v h1 h2).mono hS hw⟩

theorem RVs.nil {S : Addr → Prop} {w : World} : RVs S w [] [] := ⟨rfl, fun i p v h => by simp at h⟩
theorem RVs.cons {S : Addr → Prop} {w : World} {p : PV} {v : Value} {ps : List PV} {vs : List Value} (h : RV S w p v) (hs : RVs S w ps vs) : RVs S w (p :: ps) (v :: vs) :=
  ⟨by simp [hs.1], fun i q u h1 h2 => by
    cases i with
    | zero => simp at h1 h2; subst h1; subst h2; exact h
    | succ i => exact hs.2 i q u (by simpa using h1) (by simpa using h2)⟩
theorem RVs.append {S : Addr → Prop} {w : World} {ps qs : List PV} {vs us : List Value} (h : RVs S w ps vs) (h' : RVs S w qs us) : RVs S w (ps ++ qs) (vs ++ us) :=
  ⟨by simp [h.1, h'.1], fun i q u h1 h2 => by
    by_cases hi : i < ps.length
    · rw [List.getElem?_append_left hi] at h1
      rw [List.getElem?_append_left (by rw [← h.1]; exact hi)] at h2
      exact h.2 i q u h1 h2
    · rw [List.getElem?_append_right (by omega)] at h1
      rw [List.getElem?_append_right (by rw [← h.1]; omega), ← h.1] at h2
      exact h'.2 _ q u h1 h2⟩

theorem RV.agg_iff {S : Addr → Prop} {w : World} {cs : List PV} {v : Value} (h : RV S w (.agg cs) v) : ∃ vs : List Value, v = .agg vs.toArray ∧ RVs S w cs vs := by
  cases h with
  | agg _ vs hl h => exact ⟨vs, rfl, hl, h⟩
theorem RV.tup_iff {S : Addr → Prop} {w : World} {cs : List PV} {v : Value} (h : RV S w (.tup cs) v) : ∃ vs : List Value, v = .tuple vs.toArray ∧ RVs S w cs vs := by
  cases h with
  | tup _ vs hl h => exact ⟨vs, rfl, hl, h⟩

/-- The cells that the caller may take for still behind a call. -/
def Snew (S : Addr → Prop) (w w' : World) : Addr → Prop := fun a => S a ∨ (w.heap.size ≤ a.block ∧ a.block < w'.heap.size)

/-- The function has a body, and a call enters it. -/
def Enters (P : Program) (f : FuncId) : Prop := ∀ (args : Array Value) (w : World), (callFunc f args).run P w = .ok (.enter f args) w

/-- WHAT A FUNCTION DOES, told in trees: called with values that read as 'args', it returns a value that reads as 'r', and turns nothing that was there. -/
def CallsPV (P : Program) (f : FuncId) (args : List PV) (r : PV) : Prop :=
  Enters P f ∧ ∀ (S : Addr → Prop) (w : World) (vs : List Value), (∀ a, S a → a.block < w.heap.size) → RVs S w args vs →
    Calls P f vs.toArray w fun e w' => ∃ v, e = .returned v ∧ Below w.heap.size w w' ∧ RV (Snew S w w') w' r v

/-! ### Types, as the walk wants them -/

inductive TK where
  | int (k : IntKind) | bool | str | slice (e : TypeId) | struct (fs : List (Nat × TypeId)) | array (n : Nat) (e : TypeId) | ptr (e : TypeId) | map (k e : TypeId) | func | other
/-- The kinds of cells that '==' compares one by one. -/
inductive SK where
  | int | bool | str
structure TD where
  k : TK
  size : Nat
  bytes : Nat
  agg : Bool
  eq : Option (List SK)
  zero : List PV
instance : Inhabited TD := ⟨⟨.other, 0, 0, false, none, []⟩⟩

/-- From w to w' what lies in F has not turned, nor what was still. -/
structure Keeps (F : Nat → Prop) (S S' : Addr → Prop) (w w' : World) : Prop where
  calm : Below 0 w w'
  same : ∀ b, F b → w'.heap[b]? = w.heap[b]?
  sub : ∀ a, S a → S' a
  cell : ∀ a, S a → w'.cell? a = w.cell? a
  new : ∀ a, S' a → S a ∨ ¬ F a.block
  slt : ∀ a, S' a → a.block < w'.heap.size

/-- WHAT A LOOP OVER A FUNCTION HANDS TO THE FUNCTION: 'l': the loop; 'ys': what is to come; 'J k': what holds of the loop's own things, which lie in F, when k rounds are over ('k = ys.length + 1': a round has left the loop). -/
structure YS where
  l : Nat
  ys : List (List PV)
  J : Nat → (Nat → Prop) → (Addr → Prop) → World → Prop
  ok : ∀ (k : Nat) (F : Nat → Prop) (S S' : Addr → Prop) (w w' : World), J k F S w → Keeps F S S' w w' → J k F S' w'

def YS.none : YS := ⟨0, [], fun _ _ _ _ => True, fun _ _ _ _ _ _ h _ => h⟩
instance : Inhabited YS := ⟨.none⟩

/-- What the walk is told of the program: the program, and a table of its types. -/
structure Env where
  P : Program
  T : TypeId → TD
  /-- the closures that share the activation's variables -/
  clo : FuncId → Bool
  /-- whether a slice that is made is written to -/
  rows : Bool
  /-- the loop over a function whose function is walked -/
  Y : YS

/-! ### Slots -/

/-- What a closure holds: a value, or a pointer to a variable of the activation's own. -/
inductive Cap where
  | pv (p : PV)
  | box (id off : Nat)

inductive SV where
  | undef
  | val (p : PV)
  /-- a slice without spare room -/
  | lit (m : Nat) (xs : List PV)
  /-- a slice that the activation may append to: token t -/
  | own (t : Nat) (m : Nat) (xs : List PV)
  /-- a pointer to a variable of the activation's own -/
  | box (id off : Nat)
  /-- a slice over a variable of the activation's own -/
  | msl (id off len : Nat)
  /-- a closure that shares variables of the activation's own -/
  | clo (f : FuncId) (caps : List Cap)
  /-- a pointer into element i (of m cells each) of a row of the activation's own -/
  | rbx (id off i m k : Nat)
  /-- a map of the activation's own -/
  | mp (id : Nat)
  /-- a slice over a row of the activation's own, from cell off on, elements of m cells -/
  | row (id off m len cap : Nat)
instance : Inhabited SV := ⟨.undef⟩

def SV.pv : SV → Option PV
  | .val p => some p
  | .lit m xs => some (.list m xs)
  | .own _ m xs => some (.list m xs)
  | .mp _ => some .ref
  | _ => none

/-- What is known of a map of the activation's own. -/
inductive MapC where
  /-- keys of type k, elements of the plain type e, at most n entries -/
  | plain (k e : TypeId) (n : Nat)

/-- The maps of the activation's own; how many rounds it has called for. -/
structure Ax where
  mp : List MapC
  yk : Nat

structure St where
  sl : List SV
  bx : List (Option (List SV))
  tk : List (Nat × TypeId)
  ax : Ax

/-- Where the activation's own things lie; 'fp': where those lie of the loop over a function for which it works. -/
structure Gh where
  bx : List Nat
  tk : List Value
  mp : List Nat
  fp : Nat → Prop

/-- What the activation may write to. -/
def Foot (G : Gh) (b : Nat) : Prop :=
  (∃ i : Nat, G.bx[i]? = some b) ∨ (∃ t n cap : Nat, G.tk[t]? = some (.slice (some ⟨b, 0, none⟩) n cap) ∧ n < cap) ∨ (∃ i : Nat, G.mp[i]? = some b) ∨ G.fp b

def RCap (G : Gh) (S : Addr → Prop) (w : World) : Cap → Value → Prop
  | .pv p, v => RV S w p v
  | .box id off, v => ∃ b, G.bx[id]? = some b ∧ v = .pointer (some ⟨b, off, none⟩)

def RSV (tk : List (Nat × TypeId)) (G : Gh) (S : Addr → Prop) (w : World) : SV → Value → Prop
  | .undef, v => v = Go.undef
  | .val p, v => RV S w p v
  | .lit m xs, v => RV S w (.list m xs) v ∧ ∃ a, v = .slice a xs.length xs.length
  | .own t m xs, v => RV S w (.list m xs) v ∧ ∃ hv le, G.tk[t]? = some hv ∧ tk[t]? = some le ∧ xs.length ≤ le.1 ∧ (xs.length = le.1 → v = hv)
  | .box id off, v => ∃ b, G.bx[id]? = some b ∧ v = .pointer (some ⟨b, off, none⟩)
  | .msl id off len, v => ∃ b cap, G.bx[id]? = some b ∧ v = .slice (some ⟨b, off, none⟩) len cap ∧ len ≤ cap ∧ cap ≤ maxLen
  | .clo f caps, v => ∃ vs : List Value, v = .func (.func f) #[] vs.toArray ∧ caps.length = vs.length ∧ ∀ (i : Nat) (c : Cap) (u : Value), caps[i]? = some c → vs[i]? = some u → RCap G S w c u
  | .rbx id off i m k, v => ∃ b, G.bx[id]? = some b ∧ v = .pointer (some ⟨b, off + i * m + k, none⟩)
  | .mp id, v => ∃ b, G.mp[id]? = some b ∧ v = .map (some b)
  | .row id off _ len cap, v => ∃ b, G.bx[id]? = some b ∧ v = .slice (some ⟨b, off, none⟩) len cap ∧ len ≤ cap ∧ cap ≤ maxLen

/-- .. told by its offset. -/
def SV.norm : SV → SV
  | .rbx id off i m k => .box id (off + i * m + k)
  | s => s
theorem RSV.norm {tk : List (Nat × TypeId)} {G : Gh} {S : Addr → Prop} {w : World} {s : SV} {v : Value} (h : RSV tk G S w s v) : RSV tk G S w s.norm v := by
  cases s <;> exact h

/-- One state of the activation's own things comes behind another. -/
structure Ext (tk : List (Nat × TypeId)) (G : Gh) (S : Addr → Prop) (w : World) (tk' : List (Nat × TypeId)) (G' : Gh) (S' : Addr → Prop) (w' : World) : Prop where
  bx : ∀ (i b : Nat), G.bx[i]? = some b → G'.bx[i]? = some b
  tk : ∀ (t : Nat) (hv : Value) (le : Nat × TypeId), G.tk[t]? = some hv → tk[t]? = some le →
    ∃ hv' le', G'.tk[t]? = some hv' ∧ tk'[t]? = some le' ∧ ((le' = le ∧ hv' = hv) ∨ le.1 < le'.1)
  sub : ∀ a, S a → S' a
  cell : ∀ a, S a → w'.cell? a = w.cell? a
  mp : ∀ (i b : Nat), G.mp[i]? = some b → G'.mp[i]? = some b
  calm : Below 0 w w'
  same : ∀ b, b < w.heap.size → ¬ Foot G b → w'.heap[b]? = w.heap[b]?
  foot : ∀ b, b < w.heap.size → Foot G' b → Foot G b
  new : ∀ a, S' a → S a ∨ Foot G a.block ∨ w.heap.size ≤ a.block

theorem Ext.refl (tk : List (Nat × TypeId)) (G : Gh) (S : Addr → Prop) (w : World) : Ext tk G S w tk G S w :=
  ⟨fun _ _ h => h, fun _ hv le h1 h2 => ⟨hv, le, h1, h2, .inl ⟨rfl, rfl⟩⟩, fun _ h => h, fun _ _ => rfl, fun _ _ h => h, Below.refl _ _, fun _ _ _ => rfl, fun _ _ h => h, fun _ h => .inl h⟩

theorem Ext.trans {tk tk' tk'' : List (Nat × TypeId)} {G G' G'' : Gh} {S S' S'' : Addr → Prop} {w w' w'' : World} (h : Ext tk G S w tk' G' S' w') (k : Ext tk' G' S' w' tk'' G'' S'' w'') :
    Ext tk G S w tk'' G'' S'' w'' := by
  refine ⟨fun i b hb => k.bx _ _ (h.bx _ _ hb), fun t hv le h1 h2 => ?_, fun a ha => k.sub _ (h.sub _ ha), fun a ha => (k.cell _ (h.sub _ ha)).trans (h.cell _ ha), fun i b hb => k.mp _ _ (h.mp _ _ hb), h.calm.trans k.calm,
    fun b hb hf => (k.same b (Nat.lt_of_lt_of_le hb h.calm.size) (fun hf' => hf (h.foot b hb hf'))).trans (h.same b hb hf), fun b hb hf => h.foot b hb (k.foot b (Nat.lt_of_lt_of_le hb h.calm.size) hf), fun a ha => ?_⟩
  rotate_left
  · rcases k.new a ha with h1 | h1 | h1
    · exact h.new a h1
    · rcases Nat.lt_or_ge a.block w.heap.size with h2 | h2
      · exact .inr (.inl (h.foot _ h2 h1))
      · exact .inr (.inr h2)
    · exact .inr (.inr (Nat.le_trans h.calm.size h1))
  obtain ⟨hv1, le1, a1, a2, a3⟩ := h.tk t hv le h1 h2
  obtain ⟨hv2, le2, b1, b2, b3⟩ := k.tk t hv1 le1 a1 a2
  refine ⟨hv2, le2, b1, b2, ?_⟩
  rcases a3 with ⟨rfl, rfl⟩ | a3
  · exact b3
  · rcases b3 with ⟨rfl, rfl⟩ | b3
    · exact .inr a3
    · exact .inr (by omega)

/-- .. as far as values are concerned. -/
structure Ext0 (tk : List (Nat × TypeId)) (G : Gh) (S : Addr → Prop) (w : World) (tk' : List (Nat × TypeId)) (G' : Gh) (S' : Addr → Prop) (w' : World) : Prop where
  bx : ∀ (i b : Nat), G.bx[i]? = some b → G'.bx[i]? = some b
  tk : ∀ (t : Nat) (hv : Value) (le : Nat × TypeId), G.tk[t]? = some hv → tk[t]? = some le →
    ∃ hv' le', G'.tk[t]? = some hv' ∧ tk'[t]? = some le' ∧ ((le' = le ∧ hv' = hv) ∨ le.1 < le'.1)
  sub : ∀ a, S a → S' a
  cell : ∀ a, S a → w'.cell? a = w.cell? a
  mp : ∀ (i b : Nat), G.mp[i]? = some b → G'.mp[i]? = some b

theorem Ext.to0 {tk tk' : List (Nat × TypeId)} {G G' : Gh} {S S' : Addr → Prop} {w w' : World} (h : Ext tk G S w tk' G' S' w') : Ext0 tk G S w tk' G' S' w' := ⟨h.bx, h.tk, h.sub, h.cell, h.mp⟩

theorem Ext0.tkTrans {tk tk' tk'' : List (Nat × TypeId)} {G G' G'' : Gh} {S S' S'' : Addr → Prop} {w w' w'' : World} (h : Ext0 tk G S w tk' G' S' w') (k : Ext0 tk' G' S' w' tk'' G'' S'' w'') :
    ∀ (t : Nat) (hv : Value) (le : Nat × TypeId), G.tk[t]? = some hv → tk[t]? = some le → ∃ hv' le', G''.tk[t]? = some hv' ∧ tk''[t]? = some le' ∧ ((le' = le ∧ hv' = hv) ∨ le.1 < le'.1) := by
  intro t hv le h1 h2
  obtain ⟨hv1, le1, a1, a2, a3⟩ := h.tk t hv le h1 h2
  obtain ⟨hv2, le2, b1, b2, b3⟩ := k.tk t hv1 le1 a1 a2
  refine ⟨hv2, le2, b1, b2, ?_⟩
  rcases a3 with ⟨rfl, rfl⟩ | a3
  · exact b3
  · rcases b3 with ⟨rfl, rfl⟩ | b3
    · exact .inr a3
    · exact .inr (by omega)

/-- A step that turns nothing in memory: what the activation may write to has grown by what is new since then. -/
theorem Ext.step {tk tk' tk'' : List (Nat × TypeId)} {G G' G'' : Gh} {S S' : Addr → Prop} {w w' : World} (h : Ext tk G S w tk' G' S' w') (k : Ext0 tk' G' S' w' tk'' G'' S' w') (hf : ∀ b, b < w.heap.size → Foot G'' b → Foot G' b) : Ext tk G S w tk'' G'' S' w' :=
  ⟨fun i b hb => k.bx _ _ (h.bx _ _ hb), h.to0.tkTrans k, h.sub, h.cell, fun i b hb => k.mp _ _ (h.mp _ _ hb), h.calm, h.same, fun b hb hf' => h.foot b hb (hf b hb hf'), h.new⟩

theorem RCap.mono0 {tk tk' : List (Nat × TypeId)} {G G' : Gh} {S S' : Addr → Prop} {w w' : World} (h : Ext0 tk G S w tk' G' S' w') {c : Cap} {v : Value} (hs : RCap G S w c v) : RCap G' S' w' c v := by
  cases c with
  | pv p => exact RV.mono h.sub h.cell hs
  | box id off => obtain ⟨b, h1, h2⟩ := hs; exact ⟨b, h.bx _ _ h1, h2⟩

theorem RSV.mono0 {tk tk' : List (Nat × TypeId)} {G G' : Gh} {S S' : Addr → Prop} {w w' : World} (h : Ext0 tk G S w tk' G' S' w') {s : SV} {v : Value} (hs : RSV tk G S w s v) : RSV tk' G' S' w' s v := by
  cases s with
  | undef => exact hs
  | val p => exact RV.mono h.sub h.cell hs
  | lit m xs => exact ⟨RV.mono h.sub h.cell hs.1, hs.2⟩
  | own t m xs =>
    obtain ⟨h1, hv, le, h2, h3, h4, h5⟩ := hs
    obtain ⟨hv', le', k1, k2, k3⟩ := h.tk t hv le h2 h3
    refine ⟨RV.mono h.sub h.cell h1, hv', le', k1, k2, ?_, ?_⟩
    · rcases k3 with ⟨rfl, _⟩ | k3 <;> omega
    · rcases k3 with ⟨rfl, rfl⟩ | k3
      · exact h5
      · intro e; omega
  | box id off => obtain ⟨b, h1, h2⟩ := hs; exact ⟨b, h.bx _ _ h1, h2⟩
  | msl id off len => obtain ⟨b, cap, h1, h2⟩ := hs; exact ⟨b, cap, h.bx _ _ h1, h2⟩
  | clo f caps =>
    obtain ⟨vs, h1, h2, h3⟩ := hs
    exact ⟨vs, h1, h2, fun i c u a b => RCap.mono0 h (h3 i c u a b)⟩
  | rbx id off i m k => obtain ⟨b, h1, h2⟩ := hs; exact ⟨b, h.bx _ _ h1, h2⟩
  | mp id => obtain ⟨b, h1, h2⟩ := hs; exact ⟨b, h.mp _ _ h1, h2⟩
  | row id off m len cap => obtain ⟨b, h1, h2⟩ := hs; exact ⟨b, h.bx _ _ h1, h2⟩

theorem RSV.mono {tk tk' : List (Nat × TypeId)} {G G' : Gh} {S S' : Addr → Prop} {w w' : World} (h : Ext tk G S w tk' G' S' w') {s : SV} {v : Value} (hs : RSV tk G S w s v) : RSV tk' G' S' w' s v := RSV.mono0 h.to0 hs

theorem RSV.pv {tk : List (Nat × TypeId)} {G : Gh} {S : Addr → Prop} {w : World} {s : SV} {v : Value} {p : PV} (h : RSV tk G S w s v) (hp : s.pv = some p) : RV S w p v := by
  cases s with
  | undef => cases hp
  | val q => cases hp; exact h
  | lit m xs => cases hp; exact h.1
  | own t m xs => cases hp; exact h.1
  | box id off => cases hp
  | msl id off len => cases hp
  | clo f caps => cases hp
  | rbx id off i m k => cases hp
  | mp id => cases hp; obtain ⟨b, _, rfl⟩ := h; exact .ref _ rfl
  | row id off m len cap => cases hp

/-- What a map of the activation's own holds. -/
def MapOk (E : Env) (w : World) (b : Nat) : MapC → Prop
  | .plain k e n => ∃ D : DataW Unit, w.ownsMap E.P k (plainElem E.P e) b n D

/-- What ties the activation's own things to memory. 'B': the heap's size as the activation began; 'S0': what was still then. -/
structure Inv (E : Env) (B : Nat) (S0 : Addr → Prop) (bx : List (Option (List SV))) (tk : List (Nat × TypeId)) (ax : Ax) (G : Gh) (S : Addr → Prop) (w : World) : Prop where
  base : B ≤ w.heap.size
  s0 : ∀ a, S a → S0 a ∨ B ≤ a.block
  slt : ∀ a, S a → a.block < w.heap.size
  lbx : G.bx.length = bx.length
  ltk : G.tk.length = tk.length
  old : ∀ (i b : Nat), G.bx[i]? = some b → B ≤ b ∧ b < w.heap.size
  dist : ∀ (i j b : Nat), G.bx[i]? = some b → G.bx[j]? = some b → i = j
  box : ∀ (id b : Nat) (cs : List SV), bx[id]? = some (some cs) → G.bx[id]? = some b → (∃ (t : TypeId) (arr : Array Value), w.heap[b]? = some (.cells arr t (0, 0)) ∧
    arr.size = cs.length ∧ ∀ (j : Nat) (c : SV) (v : Value), cs[j]? = some c → arr[j]? = some v → RSV tk G S w c v ∧ v.oneCell' = true) ∧ ∀ a, S a → a.block ≠ b
  tok : ∀ (t n : Nat) (e : TypeId) (hv : Value), tk[t]? = some (n, e) → G.tk[t]? = some hv → ∃ a cap, hv = .slice a n cap ∧ n ≤ cap ∧ cap ≤ maxLen ∧
    (n < cap → ∃ (g : Nat) (cur : Array Value), a = some ⟨g, 0, none⟩ ∧ B ≤ g ∧ w.heap[g]? = some (.cells cur e (0, 0)) ∧ cur.size = cap * (E.T e).size ∧
      (∀ a, S a → a.block = g → a.off < n * (E.T e).size) ∧ (∀ (i : Nat), G.bx[i]? ≠ some g))
  apart : ∀ (t t' n n' cap cap' g : Nat), t ≠ t' → G.tk[t]? = some (.slice (some ⟨g, 0, none⟩) n cap) → n < cap → G.tk[t']? ≠ some (.slice (some ⟨g, 0, none⟩) n' cap') ∨ n' ≥ cap'
  lmp : G.mp.length = ax.mp.length
  dmp : ∀ (i j b : Nat), G.mp[i]? = some b → G.mp[j]? = some b → i = j
  mpo : ∀ (i b : Nat), G.mp[i]? = some b → B ≤ b ∧ b < w.heap.size
  mpk : ∀ (i b : Nat) (c : MapC), ax.mp[i]? = some c → G.mp[i]? = some b → MapOk E w b c
  flt : ∀ b, G.fp b → b < w.heap.size
  fbx : ∀ (i b : Nat), G.bx[i]? = some b → ¬ G.fp b
  ftk : ∀ (t n cap g : Nat), G.tk[t]? = some (.slice (some ⟨g, 0, none⟩) n cap) → n < cap → ¬ G.fp g
  fmp : ∀ (i b : Nat), G.mp[i]? = some b → ¬ G.fp b
  yl : E.Y.J ax.yk G.fp S w ∧ (E.Y.ys ≠ [] → B = 0)

end Go.Abs
