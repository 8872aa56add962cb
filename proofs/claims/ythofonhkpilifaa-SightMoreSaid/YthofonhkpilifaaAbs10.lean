/-
  The abstract walk is sound: the eighth part: any operation that is no call of a function.
-/
import Derived.Test.YthofonhkpilifaaAbs9
import Derived.Maps.Own
import Derived.Maps.Keyed
import Derived.Carry
namespace Go.Abs
open Go.RowKit

section
variable {E : Env} {B : Nat} {S0 : Addr → Prop} {w0 : World} {st : St} {G : Gh} {S : Addr → Prop} {w : World} {tmps : Array Value}

theorem OpOk.none {s : Sem Next} : OpOk E B S0 w0 none G S w st.tk tmps s := fun _ h => by cases h

theorem ok_minmax (R : Rel E B S0 w0 st G S w tmps) (mn : Bool) {xs : List SV} {vs : Array Value} (ts : Array TypeId) (ty : TypeId) (hl : xs.length = vs.size) (hr : ∀ (i : Nat) (s : SV) (v : Value), xs[i]? = some s → vs.toList[i]? = some v → RSV st.tk G S w s v) :
    OpOk E B S0 w0 (opMinMax mn xs st) G S w st.tk tmps (do pure (.value (← if mn then Builtin.min_ ts ty vs else Builtin.max_ ts ty vs))) :=
  OpOk.same R fun r' hr' _ => by
    unfold opMinMax at hr'
    split at hr'
    · rename_i a b
      cases hr'
      obtain ⟨l⟩ := vs
      match l, hl, hr with
      | [x, y], _, hr =>
        cases RV.int_inv (hr 0 _ x rfl rfl)
        cases RV.int_inv (hr 1 _ y rfl rfl)
        refine ⟨rfl, .int .i64 (if mn then min a b else max a b), ?_, RV.int _ _⟩
        have h1 : min a b = if b < a then b else a := by omega
        have h2 : max a b = if a < b then b else a := by omega
        cases mn
        · simp [Builtin.max_, Builtin.max2, h2]
        · simp [Builtin.min_, Builtin.min2, h1]
    · cases hr'

theorem rel_list (R : Rel E B S0 w0 st G S w tmps) (d : List Deferred) (xs : Array Operand) :
    ∀ (i : Nat) (s : SV) (v : Value), (xs.toList.map (valOf st))[i]? = some s → (xs.map ({ tmps := tmps, defers := d } : Act).eval).toList[i]? = some v → RSV st.tk G S w s v := by
  intro i s v h1 h2
  simp only [Array.toList_map, List.getElem?_map] at h1 h2
  cases hq : xs.toList[i]? with
  | none => rw [hq] at h1; cases h1
  | some x =>
    rw [hq] at h1 h2
    cases h1; cases h2
    exact R.val x d

theorem orel (R : Rel E B S0 w0 st G S w tmps) (d : List Deferred) (o : Option Operand) : ORel st.tk G S w (o.map (valOf st)) (o.map ({ tmps := tmps, defers := d } : Act).eval) := by
  cases o with
  | none => trivial
  | some x => exact R.val x d

theorem ok_nilCheck (R : Rel E B S0 w0 st G S w tmps) (x : Operand) (d : List Deferred) (o : Oper) (ho : o.op = .nilCheck x) :
    OpOk E B S0 w0 (evalOp E (.nilCheck x) st) G S w st.tk tmps (execOp ({ tmps := tmps, defers := d } : Act).eval o) :=
  OpOk.same R fun r' hr _ => by
    have hx := R.val x d
    unfold execOp
    rw [ho]
    simp only
    generalize hv : ({ tmps := tmps, defers := d } : Act).eval x = vx at hx ⊢
    simp only [evalOp] at hr
    split at hr
    · rename_i cs o' he
      cases hr
      rw [he] at hx
      have hx' := hx
      cases hx with
      | ptr _ _ ad g hc hrr => exact ⟨rfl, _, rfl, hx'⟩
    · rename_i id o' he
      cases hr
      rw [he] at hx
      have hx' := hx
      obtain ⟨b, hb, rfl⟩ := hx
      exact ⟨rfl, _, rfl, hx'⟩
    · rename_i f cs he
      cases hr
      rw [he] at hx
      have hx' := hx
      cases hx with
      | fn _ _ vs hl h => exact ⟨rfl, _, rfl, hx'⟩
    · rename_i f cs he
      cases hr
      rw [he] at hx
      have hx' := hx
      obtain ⟨vs, rfl, _⟩ := hx
      exact ⟨rfl, _, rfl, hx'⟩
    · rename_i a b c d' e he
      cases hr
      rw [he] at hx
      have hx' := hx
      obtain ⟨b, hb, rfl⟩ := hx
      exact ⟨rfl, _, rfl, hx'⟩
    · rename_i l he
      cases hr
      rw [he] at hx
      have hx' := hx
      cases hx
      exact ⟨rfl, _, rfl, hx'⟩
    · cases hr

theorem ok_makeMap (hE : EnvOk E) (R : Rel E B S0 w0 st G S w tmps) {t : TypeId} {reserve : Option Operand} {a : Act} :
    OpOk E B S0 w0 (opMakeMap E t reserve st) G S w st.tk tmps (do pure (.value (← Instr.makeMap t (reserve.map a.eval)))) := by
  intro r' hr _
  unfold opMakeMap at hr
  split at hr
  · rename_i k e hk
    cases hr
    have hbel : Below w.heap.size w (w.alloc (.map #[] 0)) := (Below.refl _ _).alloc (Nat.le_refl _) _
    obtain ⟨R1, X1⟩ := R.transport (S' := S) (w' := w.alloc (.map #[] 0)) (fun _ h => h) (fun _ h => .inl h) hbel
    have hI := R1.inv
    have hlen := hI.lmp
    have hnew : ∀ (i b : Nat), (G.mp ++ [w.heap.size])[i]? = some b → G.mp[i]? = some b ∨ (i = st.ax.mp.length ∧ b = w.heap.size) := by
      intro i b hb
      rcases Nat.lt_trichotomy i G.mp.length with h | h | h
      · rw [List.getElem?_append_left h] at hb; exact .inl hb
      · subst h; simp at hb; exact .inr ⟨hlen, hb.symm⟩
      · rw [List.getElem?_eq_none (by simp; omega)] at hb; cases hb
    have hX0 : Ext0 st.tk G S (w.alloc (.map #[] 0)) st.tk ⟨G.bx, G.tk, G.mp ++ [w.heap.size], G.fp⟩ S (w.alloc (.map #[] 0)) :=
      ⟨fun _ _ h => h, fun _ hv le h1 h2 => ⟨hv, le, h1, h2, .inl ⟨rfl, rfl⟩⟩, fun _ h => h, fun _ _ => rfl, fun i b hb => by
        show (G.mp ++ [w.heap.size])[i]? = some b
        rw [List.getElem?_append_left (List.getElem?_eq_some_iff.1 hb).1]; exact hb⟩
    refine ⟨_, _, _, by simp [run_makeMap], .inl rfl, ⟨G.bx, G.tk, G.mp ++ [w.heap.size], G.fp⟩, S, ⟨⟨hI.base, hI.s0, hI.slt, hI.lbx, hI.ltk, hI.old, hI.dist, fun id b cs h1 h2 => ?_, hI.tok, hI.apart, by simp [hlen], fun i j b h1 h2 => ?_, fun i b h => ?_, fun i b c h1 h2 => ?_, hI.flt, hI.fbx, hI.ftk, fun i b h hf => ?_, hI.yl⟩,
      R1.below, R1.len, fun t s v a1 a2 => RSV.mono0 hX0 (R1.sl t s v a1 a2)⟩, ⟨w.heap.size, by simp [← hlen], rfl⟩, X1.step hX0 (fun b hb hf => ?_)⟩
    · obtain ⟨⟨t', arr, b1, b2, b3⟩, b4⟩ := hI.box id b cs h1 h2
      exact ⟨⟨t', arr, b1, b2, fun j c v a1 a2 => ⟨RSV.mono0 hX0 (b3 j c v a1 a2).1, (b3 j c v a1 a2).2⟩⟩, b4⟩
    · rcases hnew i b h1 with h | ⟨h, hh⟩ <;> rcases hnew j b h2 with k | ⟨k, kk⟩
      · exact hI.dmp i j b h k
      · have := (R.inv.mpo i b h).2; omega
      · have := (R.inv.mpo j b k).2; omega
      · omega
    · rcases hnew i b h with h | ⟨_, rfl⟩
      · exact hI.mpo i b h
      · exact ⟨R.inv.base, by simp⟩
    · rcases hnew i b h2 with h | ⟨rfl, rfl⟩
      · have hi : i < st.ax.mp.length := by rw [← hlen]; exact (List.getElem?_eq_some_iff.1 h).1
        simp only [List.getElem?_append_left hi] at h1
        exact hI.mpk i b c h1 h
      · simp at h1
        subst h1
        exact ⟨_, World.ownsMap_made _ _ _ _⟩
    · rcases hnew i b h with h | ⟨_, rfl⟩
      · exact hI.fmp i b h hf
      · exact Nat.lt_irrefl _ (R.inv.flt _ hf)
    · rcases hf with hf | hf | ⟨i, hf⟩ | hf
      · exact .inl hf
      · exact .inr (.inl hf)
      · rcases hnew i b hf with h | ⟨_, rfl⟩
        · exact .inr (.inr (.inl ⟨i, h⟩))
        · omega
      · exact .inr (.inr (.inr hf))
  · cases hr

/-- A map of the activation's own has turned. -/
theorem Rel.setMap (R : Rel E B S0 w0 st G S w tmps) {id b : Nat} {c c' : MapC} {w' : World} (hc : st.ax.mp[id]? = some c) (hb : G.mp[id]? = some b) (hg : w.grownBy w' (some b)) (hk : MapOk E w' b c') :
    Rel E B S0 w0 { st with ax := { st.ax with mp := st.ax.mp.set id c' } } G S w' tmps ∧ Ext st.tk G S w st.tk G S w' := by
  have hI := R.inv
  obtain ⟨es, clock, hh⟩ : ∃ es clock, w.heap[b]? = some (.map es clock) := by
    have := hI.mpk id b c hc hb
    cases c with
    | plain k e n => obtain ⟨D, es, clock, h, _⟩ := this; exact ⟨es, clock, h⟩
  obtain ⟨es', clock', hh'⟩ : ∃ es clock, w'.heap[b]? = some (.map es clock) := by
    cases c' with
    | plain k e n => obtain ⟨D, es, clock, h, _⟩ := hk; exact ⟨es, clock, h⟩
  have hid : id < st.ax.mp.length := (List.getElem?_eq_some_iff.1 hc).1
  have hbl : ∀ b', b' < w.heap.size → b' ≠ b → w'.heap[b']? = w.heap[b']? := fun b' h1 h2 => hg.block b' h1 (fun e => h2 (by cases e; rfl))
  have hcell : ∀ a, S a → w'.cell? a = w.cell? a := fun a ha => by
    by_cases hab : a.block = b
    · simp [World.cell?, hab, hh, hh']
    · exact World.cell?_of_block (hbl _ (hI.slt a ha) hab)
  have hcalm : Below 0 w w' := ⟨hg.os, hg.tape, hg.output, hg.size, fun k hk => absurd hk (Nat.not_lt_zero _)⟩
  have hX : Ext st.tk G S w st.tk G S w' := ⟨fun _ _ h => h, fun _ hv le h1 h2 => ⟨hv, le, h1, h2, .inl ⟨rfl, rfl⟩⟩, fun _ h => h, hcell, fun _ _ h => h, hcalm, fun b' hb' hf => hbl b' hb' (fun e => hf (.inr (.inr (.inl ⟨id, by rw [e]; exact hb⟩)))), fun _ _ h => h, fun _ h => .inl h⟩
  have hne : ∀ {b' : Nat} {arr : Array Value} {t : TypeId} {m : Nat × Nat}, w.heap[b']? = some (.cells arr t m) → b' < w.heap.size ∧ b' ≠ b := fun {b'} _ _ _ h => ⟨(Array.getElem?_eq_some_iff.1 h).1, fun e => by rw [e, hh] at h; cases h⟩
  refine ⟨⟨⟨Nat.le_trans hI.base hg.size, hI.s0, fun a ha => Nat.lt_of_lt_of_le (hI.slt a ha) hg.size, hI.lbx, hI.ltk, fun i b' h => ⟨(hI.old i b' h).1, Nat.lt_of_lt_of_le (hI.old i b' h).2 hg.size⟩, hI.dist, fun id' b' cs h1 h2 => ?_, fun t n e hv h1 h2 => ?_, hI.apart, by simp [hI.lmp], hI.dmp,
    fun i b' h => ⟨(hI.mpo i b' h).1, Nat.lt_of_lt_of_le (hI.mpo i b' h).2 hg.size⟩, fun i b' c2 h1 h2 => ?_, fun b' h => Nat.lt_of_lt_of_le (hI.flt b' h) hg.size, hI.fbx, hI.ftk, hI.fmp,
    ⟨E.Y.ok _ _ _ _ _ _ hI.yl.1 ⟨hcalm, fun b' h => hbl b' (hI.flt b' h) (fun e => hI.fmp id b hb (by rw [← e]; exact h)), fun _ h => h, hcell, fun _ h => .inl h, fun a ha => Nat.lt_of_lt_of_le (hI.slt a ha) hg.size⟩, hI.yl.2⟩⟩,
    R.below.trans ⟨hg.os, hg.tape, hg.output, hg.size, fun k hk => hbl k (Nat.lt_of_lt_of_le hk hI.base) (fun e => by have := (hI.mpo id b hb).1; omega)⟩, R.len, fun t s v a1 a2 => RSV.mono hX (R.sl t s v a1 a2)⟩, hX⟩
  · obtain ⟨⟨t', arr, b1, b2, b3⟩, b4⟩ := hI.box id' b' cs h1 h2
    exact ⟨⟨t', arr, (hbl b' (hne b1).1 (hne b1).2).trans b1, b2, fun j c v a1 a2 => ⟨RSV.mono hX (b3 j c v a1 a2).1, (b3 j c v a1 a2).2⟩⟩, b4⟩
  · obtain ⟨a, cap, k1, k2, k3, k4⟩ := hI.tok t n e hv h1 h2
    refine ⟨a, cap, k1, k2, k3, fun hlt => ?_⟩
    obtain ⟨g, cur, c1, c2, c3, c4⟩ := k4 hlt
    exact ⟨g, cur, c1, c2, (hbl g (hne c3).1 (hne c3).2).trans c3, c4⟩
  · simp only [List.getElem?_set] at h1
    split at h1
    · rename_i he
      subst he
      cases h1
      rw [hb] at h2
      cases h2
      exact hk
    · rename_i hne'
      exact (hI.mpk i b' c2 h1 h2).same (hbl b' (hI.mpo i b' h2).2 (fun e => hne' (hI.dmp id i b hb (by rw [← e]; exact h2))))

theorem ok_mapUpdate (hE : EnvOk E) (R : Rel E B S0 w0 st G S w tmps) {t : TypeId} {m x y : SV} {vm vx vy : Value} (hm : RSV st.tk G S w m vm) (hx : RSV st.tk G S w x vx) (hy : RSV st.tk G S w y vy) :
    OpOk E B S0 w0 (opMapUpdate E t m x y st) G S w st.tk tmps (do Instr.mapUpdate t vm vx vy; pure .skip) := by
  intro r' hr hside
  unfold opMapUpdate at hr
  split at hr
  · rename_i id kk a bv
    split at hr
    · rename_i k e n k' e' hid hk
      split at hr
      · rename_i kk' hkk hee
        split at hr
        · rename_i he
          obtain ⟨rfl, rfl, rfl⟩ := he
          cases hr
          obtain ⟨hn, hw1, hw2⟩ := hside
          obtain ⟨b, hb, rfl⟩ := hm
          cases hx
          cases hy
          have ht := (hE.td t).k
          rw [hk] at ht
          have hku := (hE.td k).k
          rw [hkk] at hku
          have heu := (hE.td e).k
          rw [hee] at heu
          obtain ⟨D, hown⟩ := R.inv.mpk id b _ hid hb
          have hwf : (Lit.int kk a).wf = true := by simp [Lit.wf, hw1, hw2]
          obtain ⟨w', hrun, hown', hg⟩ := hown.update (Maps.int_keyed hku) ht (by simpa [maxLen] using hn) (Maps.keyOf_int_mk hku hwf) (plainElem_bool heu bv)
          obtain ⟨R1, X1⟩ := R.setMap (c' := .plain k e (n + 1)) hid hb hg ⟨_, hown'⟩
          exact ⟨_, _, w', by simp [hrun], .inr ⟨rfl, rfl⟩, G, S, R1, rfl, X1⟩
        · cases hr
      · cases hr
    · cases hr
  · cases hr

theorem ok_builtin (hE : EnvOk E) (R : Rel E B S0 w0 st G S w tmps) (b : Builtin) (args : Array Operand) (ts : Array TypeId) (d : List Deferred) (o : Oper) (ho : o.op = .call { callee := .builtin b, args := args, argTypes := ts }) :
    OpOk E B S0 w0 (opBuiltin E b ts.toList (args.toList.map (valOf st)) st) G S w st.tk tmps (execOp ({ tmps := tmps, defers := d } : Act).eval o) := by
  have hrun : execOp ({ tmps := tmps, defers := d } : Act).eval o = builtin b ts o.type (args.map fun | .const _ => true | _ => false) (args.map ({ tmps := tmps, defers := d } : Act).eval) := by
    unfold execOp
    rw [ho]
    rfl
  rw [hrun]
  have hrel := rel_list R d args
  have hlen : (args.toList.map (valOf st)).length = (args.map ({ tmps := tmps, defers := d } : Act).eval).size := by simp
  generalize args.toList.map (valOf st) = xs at hrel hlen ⊢
  generalize args.map ({ tmps := tmps, defers := d } : Act).eval = vs at hrel hlen ⊢
  generalize (args.map fun | .const _ => true | _ => false) = cn
  obtain ⟨tl⟩ := ts
  obtain ⟨vl⟩ := vs
  simp only at hrel hlen ⊢
  unfold opBuiltin
  split
  · rename_i t x
    match vl, hlen, hrel with
    | [v], _, hrel => exact ok_len hE R (hrel 0 _ v rfl rfl) o.type
  · rename_i t t' s y
    match vl, hlen, hrel with
    | [v, u], _, hrel =>
      split
      · rename_i ht
        subst ht
        exact ok_append hE R (hrel 0 _ v rfl rfl) (hrel 1 _ u rfl rfl)
      · exact OpOk.none
  · exact ok_minmax R true _ o.type hlen hrel
  · exact ok_minmax R false _ o.type hlen hrel
  · exact OpOk.none

theorem ok_op (hE : EnvOk E) (R : Rel E B S0 w0 st G S w tmps) (o : Oper) (d : List Deferred) :
    OpOk E B S0 w0 (evalOp E o.op st) G S w st.tk tmps (execOp ({ tmps := tmps, defers := d } : Act).eval o) := by
  obtain ⟨dst, op, type, pos, after, guard⟩ := o
  cases op with
  | move x => exact ok_move R x d
  | assign x => exact ok_move R x d
  | pick c a b => exact ok_pick R (R.val c d) (R.val a d) (R.val b d)
  | alloc t => exact ok_alloc hE R
  | box t x => exact ok_box R (R.val x d)
  | build t parts =>
    refine ok_build hE R ?_
    have := R.parts d parts.toList
    simpa using this
  | buildSlice t n parts =>
    refine ok_buildSlice hE R ?_
    have := R.parts d parts.toList
    simpa using this
  | load t a => exact ok_load hE R (R.val a d).norm
  | store t a x => exact ok_store hE R (R.val a d).norm (R.val x d)
  | nilCheck x => exact ok_nilCheck R x d _ rfl
  | makeMap t r => exact ok_makeMap hE R
  | mapUpdate t m x v => exact ok_mapUpdate hE R (R.val m d) (R.val x d) (R.val v d)
  | binOp op t x y ty => exact ok_bin hE R x y (R.val x d) (R.val y d)
  | unOp op t x => exact ok_un R (R.val x d)
  | convert s t x => exact ok_convert hE R (R.val x d)
  | makeFunc fn first cap =>
    refine ok_makeFunc R (by simp) (by simp) ?_
    exact rel_list R d cap
  | makeSlice t l c => exact ok_makeSlice hE R (R.val l d) (R.val c d)
  | slice t x lo hi mx =>
    have hx := R.val x d
    simp only [evalOp]
    split
    · rename_i id off he
      rw [he] at hx
      exact ok_sliceArr hE R hx (orel R d lo) (orel R d hi) (orel R d mx)
    · rename_i id off m len cap he
      rw [he] at hx
      exact ok_sliceRow hE R hx (orel R d lo) (orel R d hi) (orel R d mx)
    · exact ok_slice hE R hx (orel R d lo) (orel R d hi) (fun h => by cases mx with | none => rfl | some m => cases h)
  | fieldAddr s x f => exact ok_fieldAddr hE R (R.val x d)
  | field t x f => exact ok_field hE R (R.val x d)
  | indexAddr t x i => exact ok_indexAddr hE R (R.val x d) (R.val i d)
  | index t x i => exact ok_index hE R (R.val x d) (R.val i d)
  | extract x i => exact ok_extract R (R.val x d)
  | call c =>
    obtain ⟨callee, args, ts⟩ := c
    cases callee with
    | builtin b => exact ok_builtin hE R b args ts d _ rfl
    | value f => exact OpOk.none
    | invoke r m => exact OpOk.none
  | _ => exact OpOk.none

end
end Go.Abs
