/-
  The abstract walk is sound: the fourth part: memory that the activation makes.
-/
import Derived.Test.YthofonhkpilifaaAbs5
import Derived.Laws.MakeOwn
namespace Go.Abs
open Go.RowKit

section
variable {E : Env} {B : Nat} {S0 : Addr → Prop} {w0 : World} {st : St} {G : Gh} {S : Addr → Prop} {w : World} {tmps : Array Value}

theorem MapOk.same {w w' : World} {b : Nat} {c : MapC} (h : MapOk E w b c) (hb : w'.heap[b]? = w.heap[b]?) : MapOk E w' b c := by
  cases c with
  | plain k e n =>
    obtain ⟨D, es, clock, h1, h2⟩ := h
    exact ⟨D, es, clock, hb.trans h1, h2⟩

/-- New blocks, and nothing else. -/
theorem Inv.transport {bx : List (Option (List SV))} {tk : List (Nat × TypeId)} {ax : Ax} (hI : Inv E B S0 bx tk ax G S w) {S' : Addr → Prop} {w' : World} (hS : ∀ a, S a → S' a)
    (hnew : ∀ a, S' a → S a ∨ (w.heap.size ≤ a.block ∧ a.block < w'.heap.size)) (hbel : Below w.heap.size w w') :
    Inv E B S0 bx tk ax G S' w' ∧ Ext tk G S w tk G S' w' := by
  have hblk := hbel.block
  have hsz := hbel.size
  have hE : Ext tk G S w tk G S' w' := ⟨fun _ _ h => h, fun _ hv le h1 h2 => ⟨hv, le, h1, h2, .inl ⟨rfl, rfl⟩⟩, hS, fun a ha => World.cell?_of_block (hblk _ (hI.slt a ha)), fun _ _ h => h, hbel.mono (Nat.zero_le _), fun b hb _ => hblk b hb, fun _ _ h => h, fun a ha => (hnew a ha).imp id fun h => .inr h.1⟩
  have hslt : ∀ a, S' a → a.block < w'.heap.size := fun a ha => by
    rcases hnew a ha with h | h
    · exact Nat.lt_of_lt_of_le (hI.slt a h) hsz
    · exact h.2
  refine ⟨⟨Nat.le_trans hI.base hsz, fun a ha => ?_, hslt, hI.lbx, hI.ltk, fun i b hb => ⟨(hI.old i b hb).1, Nat.lt_of_lt_of_le (hI.old i b hb).2 hsz⟩, hI.dist, fun id b cs hc hb => ?_, fun t n e hv h1 h2 => ?_, hI.apart, hI.lmp, hI.dmp,
    fun i b h => ⟨(hI.mpo i b h).1, Nat.lt_of_lt_of_le (hI.mpo i b h).2 hsz⟩, fun i b c h1 h2 => (hI.mpk i b c h1 h2).same (hblk b (hI.mpo i b h2).2), fun b hb => Nat.lt_of_lt_of_le (hI.flt b hb) hsz, hI.fbx, hI.ftk, hI.fmp,
    ⟨E.Y.ok _ _ _ _ _ _ hI.yl.1 ⟨hE.calm, fun b hb => hblk b (hI.flt b hb), hS, hE.cell, fun a ha => (hnew a ha).imp id fun h hf => absurd (hI.flt _ hf) (by omega), hslt⟩, hI.yl.2⟩⟩, hE⟩
  · rcases hnew a ha with h | h
    · exact hI.s0 a h
    · exact .inr (Nat.le_trans hI.base h.1)
  · obtain ⟨⟨t, arr, h1, h2, h3⟩, h4⟩ := hI.box id b cs hc hb
    have hlt := (hI.old id b hb).2
    refine ⟨⟨t, arr, (hblk b hlt).trans h1, h2, fun j c v a1 a2 => ⟨RSV.mono hE (h3 j c v a1 a2).1, (h3 j c v a1 a2).2⟩⟩, fun a ha hab => ?_⟩
    rcases hnew a ha with h | h
    · exact h4 a h hab
    · omega
  · obtain ⟨a, cap, h3, h4, h5, h6⟩ := hI.tok t n e hv h1 h2
    refine ⟨a, cap, h3, h4, h5, fun hlt => ?_⟩
    obtain ⟨g, cur, k1, k2, k3, k4, k5, k6⟩ := h6 hlt
    have hg : g < w.heap.size := by
      rcases Nat.lt_or_ge g w.heap.size with h | h
      · exact h
      · rw [Array.getElem?_eq_none h] at k3; cases k3
    refine ⟨g, cur, k1, k2, (hblk g hg).trans k3, k4, fun a' ha' hb' => ?_, k6⟩
    rcases hnew a' ha' with h | h
    · exact k5 a' h hb'
    · omega

theorem Rel.transport (R : Rel E B S0 w0 st G S w tmps) {S' : Addr → Prop} {w' : World} (hS : ∀ a, S a → S' a)
    (hnew : ∀ a, S' a → S a ∨ (w.heap.size ≤ a.block ∧ a.block < w'.heap.size)) (hb : Below w.heap.size w w') :
    Rel E B S0 w0 st G S' w' tmps ∧ Ext st.tk G S w st.tk G S' w' := by
  obtain ⟨h1, h2⟩ := R.inv.transport hS hnew hb
  exact ⟨⟨h1, R.below.trans (hb.mono R.inv.base), R.len, fun t s v a1 a2 => RSV.mono h2 (R.sl t s v a1 a2)⟩, h2⟩

/-- A new block as a variable of the activation's own. -/
theorem Rel.newBox (R : Rel E B S0 w0 st G S w tmps) (t : TypeId) (arr : Array Value) (cs : List SV) (hl : arr.size = cs.length)
    (hc : ∀ (j : Nat) (c : SV) (v : Value), cs[j]? = some c → arr[j]? = some v → RSV st.tk G S w c v ∧ v.oneCell' = true) :
    ∃ G', Rel E B S0 w0 (st.newBx cs) G' S (w.alloc (.cells arr t)) tmps ∧ Ext st.tk G S w (st.newBx cs).tk G' S (w.alloc (.cells arr t)) ∧ RSV (st.newBx cs).tk G' S (w.alloc (.cells arr t)) (.box st.bx.length 0) (.pointer (some ⟨w.heap.size, 0, none⟩)) := by
  have hbel : Below w.heap.size w (w.alloc (.cells arr t)) := (Below.refl _ _).alloc (Nat.le_refl _) _
  obtain ⟨h1, h2⟩ := R.inv.transport (S' := S) (w' := w.alloc (.cells arr t)) (fun _ h => h) (fun _ h => .inl h) hbel
  have hlen : G.bx.length = st.bx.length := R.inv.lbx
  have hnew : ∀ (i b : Nat), (G.bx ++ [w.heap.size])[i]? = some b → (G.bx[i]? = some b ∧ i < st.bx.length) ∨ (i = st.bx.length ∧ b = w.heap.size) := by
    intro i b hb
    rcases Nat.lt_trichotomy i G.bx.length with h | h | h
    · rw [List.getElem?_append_left h] at hb; exact .inl ⟨hb, by omega⟩
    · subst h; simp at hb; exact .inr ⟨hlen, hb.symm⟩
    · rw [List.getElem?_eq_none (by simp; omega)] at hb; cases hb
  have hE : Ext st.tk G S w st.tk ⟨G.bx ++ [w.heap.size], G.tk, G.mp, G.fp⟩ S (w.alloc (.cells arr t)) :=
    ⟨fun i b hb => by
      show (G.bx ++ [w.heap.size])[i]? = some b
      rw [List.getElem?_append_left (List.getElem?_eq_some_iff.1 hb).1]; exact hb, h2.tk, h2.sub, h2.cell, h2.mp, h2.calm, h2.same, fun b hb hf => by
        rcases hf with ⟨i, hf⟩ | hf
        · rcases hnew i b hf with h | ⟨_, rfl⟩
          · exact .inl ⟨i, h.1⟩
          · omega
        · exact .inr hf, h2.new⟩
  have hE' : Ext0 st.tk G S (w.alloc (.cells arr t)) st.tk ⟨G.bx ++ [w.heap.size], G.tk, G.mp, G.fp⟩ S (w.alloc (.cells arr t)) :=
    ⟨hE.bx, hE.tk, fun _ h => h, fun _ _ => rfl, fun _ _ h => h⟩
  refine ⟨⟨G.bx ++ [w.heap.size], G.tk, G.mp, G.fp⟩, ⟨⟨h1.base, h1.s0, h1.slt, by simp [St.newBx, hlen], h1.ltk, ?_, ?_, ?_, ?_, h1.apart, h1.lmp, h1.dmp, h1.mpo, h1.mpk, h1.flt, fun i b hb hf => ?_, h1.ftk, h1.fmp, h1.yl⟩, R.below.trans (hbel.mono R.inv.base), R.len, fun t s v a1 a2 => RSV.mono hE (R.sl t s v a1 a2)⟩, hE, ?_⟩
  · intro i b hb
    rcases hnew i b hb with h | ⟨_, rfl⟩
    · exact h1.old i b h.1
    · exact ⟨R.inv.base, by simp⟩
  · intro i j b hi hj
    rcases hnew i b hi with h | ⟨h, hh⟩ <;> rcases hnew j b hj with k | ⟨k, kk⟩
    · exact h1.dist i j b h.1 k.1
    · have := (R.inv.old i b h.1).2; omega
    · have := (R.inv.old j b k.1).2; omega
    · omega
  · intro id b cs' hcs hb
    rcases hnew id b hb with h | ⟨rfl, rfl⟩
    · have hcs' : st.bx[id]? = some (some cs') := by
        simp only [St.newBx] at hcs
        rw [List.getElem?_append_left h.2] at hcs; exact hcs
      obtain ⟨⟨t', arr', b1, b2, b3⟩, b4⟩ := h1.box id b cs' hcs' h.1
      exact ⟨⟨t', arr', b1, b2, fun j c v a1 a2 => ⟨RSV.mono0 hE' (b3 j c v a1 a2).1, (b3 j c v a1 a2).2⟩⟩, b4⟩
    · simp [St.newBx] at hcs
      subst hcs
      refine ⟨⟨t, arr, heap_alloc_new w _, hl, fun j c v a1 a2 => ⟨RSV.mono hE (hc j c v a1 a2).1, (hc j c v a1 a2).2⟩⟩, fun a ha hab => ?_⟩
      have := R.inv.slt a ha
      omega
  · intro t' n e hv a1 a2
    obtain ⟨a, cap, b1, b2, b3, b4⟩ := h1.tok t' n e hv a1 a2
    refine ⟨a, cap, b1, b2, b3, fun hlt => ?_⟩
    obtain ⟨g, cur, c1, c2, c3, c4, c5, c6⟩ := b4 hlt
    refine ⟨g, cur, c1, c2, c3, c4, c5, fun i hi => ?_⟩
    rcases hnew i g hi with h | ⟨_, rfl⟩
    · exact c6 i h.1
    · obtain ⟨g', cur', d1, d2, d3, _⟩ := (by
        obtain ⟨a', cap', e1, e2, e3, e4⟩ := R.inv.tok t' n e hv a1 a2
        rw [b1] at e1
        injection e1 with e1 _ e5
        subst e1; subst e5
        exact e4 hlt : ∃ (g' : Nat) (cur' : Array Value), a = some ⟨g', 0, none⟩ ∧ B ≤ g' ∧ w.heap[g']? = some (.cells cur' e (0, 0)) ∧ _)
      rw [c1] at d1
      injection d1 with d1
      injection d1 with d1
      subst d1
      rw [Array.getElem?_eq_none (Nat.le_refl _)] at d3
      cases d3
  · rcases hnew i b hb with h | ⟨_, rfl⟩
    · exact R.inv.fbx i b h.1 hf
    · exact Nat.lt_irrefl _ (R.inv.flt _ hf)
  · exact ⟨w.heap.size, by simp [← hlen], rfl⟩

theorem RSV.zero (tk : List (Nat × TypeId)) (v : Value) : RSV tk G S w (zeroSV (constPV v)) v := by
  have h := RV.const (S := S) (w := w) v
  unfold constPV at h ⊢
  split at h
  · exact h
  · exact h
  · exact h
  · exact ⟨h, none, rfl⟩
  · exact h

theorem ok_alloc (hE : EnvOk E) (R : Rel E B S0 w0 st G S w tmps) {t : TypeId} :
    OpOk E B S0 w0 (opAlloc E t st) G S w st.tk tmps (do pure (.value (← Instr.alloc t true (.tuple #[])))) := by
  intro r' hr _
  unfold opAlloc at hr
  split at hr
  · rename_i hz
    cases hr
    obtain ⟨i, z, u, hi, hsz, _, hzz, hzc, hone, hcs, _⟩ := (hE.td t).info (.inl hz.2)
    obtain ⟨G', hR, hX, hV⟩ := R.newBox t z.cells ((E.T t).zero.map zeroSV) (by rw [List.length_map, hz.1, hcs, hsz]) (fun j c v a1 a2 => by
      rw [← hzc, List.getElem?_map, List.getElem?_map] at a1
      have a2' : z.cells.toList[j]? = some v := by simpa using a2
      rw [a2'] at a1
      simp at a1
      subst a1
      exact ⟨RSV.zero _ v, hone v (List.mem_of_getElem? a2')⟩)
    exact ⟨_, _, _, by simp [Instr.alloc, zeroValue, typeInfo, hi, hzz, newVar, Go.newRow], .inl rfl, G', S, hR, hV, hX⟩
  · cases hr

theorem RVs.get {cs : List PV} {vs : List Value} (h : RVs S w cs vs) {j : Nat} {c : PV} {v : Value} (h1 : cs[j]? = some c) (h2 : vs[j]? = some v) : RV S w c v := h.2 j c v h1 h2

theorem all_one {l : List PV} (h : l.all PV.one = true) {c : PV} {j : Nat} (hc : l[j]? = some c) : c.one = true := List.all_eq_true.1 h c (List.mem_of_getElem? hc)

theorem ok_box (R : Rel E B S0 w0 st G S w tmps) {t : TypeId} {x : SV} {vx : Value} (hx : RSV st.tk G S w x vx) :
    OpOk E B S0 w0 (opBox E t x st) G S w st.tk tmps (do pure (.value (← Instr.box t vx))) := by
  intro r' hr _
  unfold opBox at hr
  split at hr
  · split at hr
    · rename_i l
      split at hr
      · rename_i hall
        cases hr
        obtain ⟨vs, rfl, hvs⟩ := RV.agg_iff hx
        obtain ⟨G', hR, hX, hV⟩ := R.newBox t vs.toArray (l.map SV.val) (by simp [hvs.1]) (fun j c v a1 a2 => by
          rw [List.getElem?_map] at a1
          cases hq : l[j]? with
          | none => rw [hq] at a1; cases a1
          | some p =>
            rw [hq] at a1
            simp at a1
            subst a1
            have h := hvs.2 j p v hq (by simpa using a2)
            exact ⟨h, RV.of_one h (all_one hall hq)⟩)
        exact ⟨_, _, _, by simp [Instr.box, newVar, Go.newRow, Value.cells], .inl rfl, G', S, hR, hV, hX⟩
      · cases hr
    · cases hr
  · split at hr
    · rename_i hone
      cases hr
      have h1 := RSV.of_one hx hone
      have hcells : vx.cells = #[vx] := by cases vx <;> simp_all [Value.cells, Value.oneCell']
      obtain ⟨G', hR, hX, hV⟩ := R.newBox t #[vx] [x] rfl (fun j c v a1 a2 => by
        match j, a1, a2 with
        | 0, a1, a2 => simp at a1 a2; subst a1; subst a2; exact ⟨hx, h1⟩
        | j + 1, a1, _ => simp at a1)
      exact ⟨_, _, _, by simp [Instr.box, newVar, Go.newRow, hcells], .inl rfl, G', S, hR, hV, hX⟩
    · cases hr

/-! ### Rows of elements -/

def Els (S : Addr → Prop) (w : World) (m : Nat) (xs : List PV) (vs : List Value) : Prop :=
  vs.length = xs.length * m ∧ (∀ (i : Nat) (x : PV), xs[i]? = some x → x.cells.length = m) ∧
    ∀ (i : Nat) (x : PV) (j : Nat) (c : PV) (u : Value), xs[i]? = some x → x.cells[j]? = some c → vs[i * m + j]? = some u → RV S w c u

theorem Els.mono {m : Nat} {xs : List PV} {vs : List Value} {S' : Addr → Prop} {w' : World} (h : Els S w m xs vs) (hS : ∀ a, S a → S' a) (hw : ∀ a, S a → w'.cell? a = w.cell? a) : Els S' w' m xs vs :=
  ⟨h.1, h.2.1, fun i x j c u a1 a2 a3 => (h.2.2 i x j c u a1 a2 a3).mono hS hw⟩

theorem idx_lt {i j n m : Nat} (hi : i < n) (hj : j < m) : i * m + j < n * m := by
  have : (i + 1) * m ≤ n * m := Nat.mul_le_mul_right _ hi
  rw [Nat.add_mul] at this
  omega

theorem Els.nil (m : Nat) : Els S w m [] [] := ⟨by simp, by simp, by simp⟩

theorem Els.append {m : Nat} {xs ys : List PV} {vs us : List Value} (h : Els S w m xs vs) (k : Els S w m ys us) : Els S w m (xs ++ ys) (vs ++ us) := by
  refine ⟨by simp [h.1, k.1, Nat.add_mul], fun i x hx => ?_, fun i x j c u hx hc hu => ?_⟩
  · by_cases hi : i < xs.length
    · rw [List.getElem?_append_left hi] at hx; exact h.2.1 i x hx
    · rw [List.getElem?_append_right (by omega)] at hx; exact k.2.1 _ x hx
  · by_cases hi : i < xs.length
    · rw [List.getElem?_append_left hi] at hx
      have hj : j < m := by rw [← h.2.1 i x hx]; exact (List.getElem?_eq_some_iff.1 hc).1
      rw [List.getElem?_append_left (by rw [h.1]; exact idx_lt hi hj)] at hu
      exact h.2.2 i x j c u hx hc hu
    · rw [List.getElem?_append_right (by omega)] at hx
      have hm : xs.length * m ≤ i * m := Nat.mul_le_mul_right _ (by omega)
      rw [List.getElem?_append_right (by rw [h.1]; omega), h.1] at hu
      refine k.2.2 (i - xs.length) x j c u hx hc ?_
      rw [Nat.sub_mul, ← hu]
      congr 1
      omega

/-- A slice's elements, as a row of values. -/
theorem RV.flat {m : Nat} {xs : List PV} {v : Value} (h : RV S w (.list m xs) v) : ∃ (a : Option Addr) (ad : Addr) (cap : Nat) (vs : List Value), v = .slice a xs.length cap ∧ (xs ≠ [] → a = some ad) ∧
    xs.length ≤ cap ∧ cap ≤ maxLen ∧ (∀ (k : Nat) (u : Value), vs[k]? = some u → S (ad.add k) ∧ w.cell? (ad.add k) = some u ∧ u.oneCell' = true) ∧ Els S w m xs vs := by
  obtain ⟨a, ad, cap, g, rfl, ha, hcap, hmax, hmm, hc, hr⟩ := RV.slice_iff h
  refine ⟨a, ad, cap, (List.range (xs.length * m)).map fun k => g (k / m) (k % m), rfl, ha, hcap, hmax, fun k u hk => ?_, by simp, hmm, fun i x j c u hx hcj hu => ?_⟩
  · rw [List.getElem?_map] at hk
    by_cases hlt : k < xs.length * m
    · simp [hlt] at hk
      subst hk
      have hm : 0 < m := by rcases Nat.eq_zero_or_pos m with e | e; · subst e; simp at hlt
                            · exact e
      have hi : k / m < xs.length := Nat.div_lt_of_lt_mul (by rw [Nat.mul_comm]; exact hlt)
      have hj : k % m < m := Nat.mod_lt _ hm
      have hx := List.getElem?_eq_getElem hi
      have hcl := hmm _ _ hx
      have := hc (k / m) _ (k % m) _ hx (List.getElem?_eq_getElem (by rw [hcl]; exact hj))
      rw [Nat.mul_comm, Nat.div_add_mod] at this
      exact this
    · simp [hlt] at hk
  · have hi : i < xs.length := (List.getElem?_eq_some_iff.1 hx).1
    have hj : j < m := by rw [← hmm i x hx]; exact (List.getElem?_eq_some_iff.1 hcj).1
    have e1 : (i * m + j) / m = i := by
      rw [Nat.mul_comm, Nat.mul_add_div (by omega), Nat.div_eq_of_lt hj]; omega
    have e2 : (i * m + j) % m = j := by
      rw [Nat.mul_comm, Nat.mul_add_mod, Nat.mod_eq_of_lt hj]
    rw [List.getElem?_map, List.getElem?_range (idx_lt hi hj)] at hu
    simp only [Option.map_some, e1, e2, Option.some.injEq] at hu
    subst hu
    exact hr i x j c hx hcj

theorem RV.of_flat {m : Nat} {xs : List PV} {a : Option Addr} {ad : Addr} {cap : Nat} {vs : List Value} (ha : xs ≠ [] → a = some ad) (hcap : xs.length ≤ cap) (hmax : cap ≤ maxLen)
    (hc : ∀ (k : Nat) (u : Value), vs[k]? = some u → S (ad.add k) ∧ w.cell? (ad.add k) = some u ∧ u.oneCell' = true) (he : Els S w m xs vs) : RV S w (.list m xs) (.slice a xs.length cap) := by
  have hget : ∀ (i : Nat) (x : PV) (j : Nat) (c : PV), xs[i]? = some x → x.cells[j]? = some c → vs[i * m + j]? = some (vs.getD (i * m + j) undef) := by
    intro i x j c hx hcj
    have hi : i < xs.length := (List.getElem?_eq_some_iff.1 hx).1
    have hj : j < m := by rw [← he.2.1 i x hx]; exact (List.getElem?_eq_some_iff.1 hcj).1
    have hlt : i * m + j < vs.length := by rw [he.1]; exact idx_lt hi hj
    rw [List.getD_eq_getElem?_getD, List.getElem?_eq_getElem hlt]
    rfl
  exact RV.list m xs a ad cap (fun i j => vs.getD (i * m + j) undef) ha hcap hmax he.2.1 (fun i x j c hx hcj => hc _ _ (hget i x j c hx hcj)) (fun i x j c hx hcj => he.2.2 i x j c _ hx hcj (hget i x j c hx hcj))

/-- A row that is laid now, still from the first. -/
theorem Rel.newRow (R : Rel E B S0 w0 st G S w tmps) (t : TypeId) (arr : Array Value) :
    Rel E B S0 w0 st G (fun a => S a ∨ a.block = w.heap.size) (w.alloc (.cells arr t)) tmps ∧ Ext st.tk G S w st.tk G (fun a => S a ∨ a.block = w.heap.size) (w.alloc (.cells arr t)) ∧
      ∀ j, (w.alloc (.cells arr t)).cell? ⟨w.heap.size, j, none⟩ = arr[j]? := by
  have hbel : Below w.heap.size w (w.alloc (.cells arr t)) := (Below.refl _ _).alloc (Nat.le_refl _) _
  obtain ⟨h1, h2⟩ := R.transport (S' := fun a => S a ∨ a.block = w.heap.size) (w' := w.alloc (.cells arr t)) (fun _ h => .inl h) (fun a ha => by
    rcases ha with ha | ha
    · exact .inl ha
    · exact .inr ⟨by omega, by rw [ha]; simp⟩) hbel
  exact ⟨h1, h2, fun j => World.cell?_alloc_new w arr t j⟩

theorem Rel.drew (R : Rel E B S0 w0 st G S w tmps) : Rel E B S0 w0 st G S w.drew tmps ∧ Ext st.tk G S w st.tk G S w.drew :=
  R.transport (fun _ h => h) (fun _ h => .inl h) ⟨rfl, rfl, rfl, Nat.le_refl _, fun _ _ => rfl⟩

theorem constPV_cells (v : Value) : (constPV v).cells = [constPV v] := by
  unfold constPV; split <;> rfl

/-- What the table says of a type that has cells. -/
theorem EnvOk.cells (hE : EnvOk E) {t : TypeId} (h : (E.T t).size ≠ 0) : ∃ (i : TypeInfo) (z : Value), E.P.info? t = some i ∧ i.size = (E.T t).size ∧ i.bytes = (E.T t).bytes ∧ i.zero = some z ∧
    z.cells.toList.map constPV = (E.T t).zero ∧ (∀ v ∈ z.cells.toList, v.oneCell' = true) ∧ z.cells.size = (E.T t).size ∧ (PV.ofCells (E.T t) (E.T t).zero).cells = (E.T t).zero ∧ ((E.T t).agg = false → (E.T t).size = 1) := by
  obtain ⟨i, z, u, hi, hsz, hby, hzz, hzc, hone, hcs, hag, _⟩ := (hE.td t).info (.inl h)
  refine ⟨i, z, hi, hsz, hby, hzz, hzc, hone, hcs.trans hsz, ?_, fun hf => ?_⟩
  · unfold PV.ofCells
    split
    · rfl
    · rename_i hf
      rw [if_neg hf] at hag
      have : z.cells = #[z] := by cases z <;> simp_all [Value.cells, Value.oneCell']
      rw [← hzc, this]
      simp [constPV_cells]
  · rw [hf] at hag
    have : z.cells = #[z] := by cases z <;> simp_all [Value.cells, Value.oneCell']
    rw [← hsz, ← hcs, this]
    rfl

theorem Els.zero (hE : EnvOk E) {e : TypeId} (h : (E.T e).size ≠ 0) {z : Value} (hzc : z.cells.toList.map constPV = (E.T e).zero) (hcs : z.cells.size = (E.T e).size) (n : Nat) :
    Els S w (E.T e).size (List.replicate n (PV.ofCells (E.T e) (E.T e).zero)) ((Array.range (n * (E.T e).size)).map (z.cells[· % z.cells.size]!)).toList := by
  obtain ⟨_, _, _, _, _, _, _, _, _, hzz, _⟩ := hE.cells h
  have hlen : (E.T e).zero.length = (E.T e).size := by rw [← hzc]; simp [hcs]
  refine ⟨by simp, fun i x hx => ?_, fun i x j c u hx hcj hu => ?_⟩
  · rw [List.getElem?_replicate] at hx
    split at hx
    · cases hx; rw [hzz, hlen]
    · cases hx
  · rw [List.getElem?_replicate] at hx
    split at hx
    · rename_i hi
      cases hx
      rw [hzz] at hcj
      have hj : j < (E.T e).size := by rw [← hlen]; exact (List.getElem?_eq_some_iff.1 hcj).1
      have e2 : (i * (E.T e).size + j) % (E.T e).size = j := by
        rw [Nat.mul_comm, Nat.mul_add_mod, Nat.mod_eq_of_lt hj]
      have hlt := idx_lt hi hj
      have hu' : z.cells[j]! = u := by
        simp [hlt, hcs, e2] at hu
        exact hu
      have hj' : j < z.cells.size := by rw [hcs]; exact hj
      rw [← hzc, List.getElem?_map] at hcj
      have : z.cells.toList[j]? = some u := by
        rw [← hu']
        simp [hj']
      rw [this] at hcj
      simp at hcj
      subst hcj
      exact RV.const u
    · cases hx

theorem zero_one {z : Value} (hone : ∀ v ∈ z.cells.toList, v.oneCell' = true) (k j : Nat) {u : Value} (hz : 0 < z.cells.size) (h : ((Array.range k).map (z.cells[· % z.cells.size]!)).toList[j]? = some u) : u.oneCell' = true := by
  have hj : j < k := by
    have := (List.getElem?_eq_some_iff.1 h).1
    simpa using this
  have hlt : j % z.cells.size < z.cells.size := Nat.mod_lt _ hz
  simp [hj] at h
  subst h
  rw [getElem!_pos z.cells _ hlt]
  exact hone _ (by simp)

theorem flat_rep {α : Type} (l : List α) : ∀ (n j : Nat) (c : α), (List.replicate n l).flatten[j]? = some c → l[j % l.length]? = some c
  | 0, j, c, h => by simp at h
  | n + 1, j, c, h => by
    rw [List.replicate_succ, List.flatten_cons] at h
    rcases Nat.lt_or_ge j l.length with hj | hj
    · rw [List.getElem?_append_left hj] at h
      rw [Nat.mod_eq_of_lt hj]; exact h
    · rw [List.getElem?_append_right hj] at h
      have := flat_rep l n (j - l.length) c h
      rwa [← Nat.mod_eq_sub_mod hj] at this

theorem ok_makeSlice (hE : EnvOk E) (R : Rel E B S0 w0 st G S w tmps) {t : TypeId} {x y : SV} {vx vy : Value} (hx : RSV st.tk G S w x vx) (hy : RSV st.tk G S w y vy) :
    OpOk E B S0 w0 (opMakeSlice E t x y st) G S w st.tk tmps (do pure (.value (← Instr.makeSlice t vx vy))) := by
  intro r' hr hside
  unfold opMakeSlice at hr
  have hk := (hE.td t).k
  split at hr
  · rename_i e k n k' c hs
    rw [hs] at hk
    split at hr
    · rename_i hz
      split at hr
      · cases hr
        obtain ⟨h0, rfl, h2, h3⟩ := hside
        cases RV.int_inv hx
        cases RV.int_inv hy
        have hne : (E.T e).size ≠ 0 := by omega
        obtain ⟨i, z, hi, hsz, hby, hzz, hzc, hone, hcs, _⟩ := hE.cells hne
        obtain ⟨m, rfl⟩ := Int.eq_ofNat_of_zero_le h0
        have hb : (i.bytes : Int) * (m : Int) ≤ 281474976710656 := by
          rw [hby, Int.mul_comm]; omega
        have hrun := run_make (P := E.P) w t e i z hk hi hzz k k' m m (by omega) (by omega) hb (by omega)
        rw [Int.toNat_natCast, hsz] at hrun
        obtain ⟨G', hR, hX, hV⟩ := R.newBox e ((Array.range (m * (E.T e).size)).map (z.cells[· % z.cells.size]!)) ((List.replicate m (E.T e).zero).flatten.map SV.val) (by simp [hz.1]) (fun j c v a1 a2 => by
          rw [← Array.getElem?_toList] at a2
          refine ⟨?_, zero_one hone _ j (by omega) a2⟩
          have hj : j < m * (E.T e).size := by
            have := (List.getElem?_eq_some_iff.1 a2).1
            simpa using this
          rw [List.getElem?_map] at a1
          cases hq : (List.replicate m (E.T e).zero).flatten[j]? with
          | none => rw [hq] at a1; cases a1
          | some p =>
            rw [hq] at a1
            simp only [Option.map_some, Option.some.injEq] at a1
            subst a1
            have h3 := flat_rep _ m j p hq
            rw [hz.1, ← hcs, ← hzc, List.getElem?_map] at h3
            have hlt : j % z.cells.size < z.cells.size := Nat.mod_lt _ (by omega)
            have hv : z.cells.toList[j % z.cells.size]? = some v := by
              simp [hj] at a2
              rw [← a2]
              simp [hlt]
            rw [hv] at h3
            simp only [Option.map_some, Option.some.injEq] at h3
            subst h3
            exact RV.const v)
        refine ⟨_, _, _, by simp only [Sem.run_bind, hrun, Result.andThen_ok, Sem.run_pure]; rfl, .inl rfl, G', S, hR, ?_, hX⟩
        obtain ⟨b, hb1, hb2⟩ := hV
        refine ⟨b, m, hb1, ?_, by simp, by simp only [maxLen]; omega⟩
        simp only [Value.pointer.injEq, Option.some.injEq, Addr.mk.injEq] at hb2
        rw [← hb2.1]
        simp
      cases hr
      obtain ⟨h0, rfl, h2, h3⟩ := hside
      cases RV.int_inv hx
      cases RV.int_inv hy
      have hne : (E.T e).size ≠ 0 := by omega
      obtain ⟨i, z, hi, hsz, hby, hzz, hzc, hone, hcs, _⟩ := hE.cells hne
      obtain ⟨m, rfl⟩ := Int.eq_ofNat_of_zero_le h0
      obtain ⟨R1, X1, hcell⟩ := R.newRow e ((Array.range (m * (E.T e).size)).map (z.cells[· % z.cells.size]!))
      have hels : Els (fun a => S a ∨ a.block = w.heap.size) (w.alloc (.cells ((Array.range (m * (E.T e).size)).map (z.cells[· % z.cells.size]!)) e)) (E.T e).size (List.replicate m (PV.ofCells (E.T e) (E.T e).zero)) ((Array.range (m * (E.T e).size)).map (z.cells[· % z.cells.size]!)).toList := Els.zero hE hne hzc hcs m
      have hb : (i.bytes : Int) * (m : Int) ≤ 281474976710656 := by
        rw [hby, Int.mul_comm]; omega
      have hrun := run_make (P := E.P) w t e i z hk hi hzz k k' m m (by omega) (by omega) hb (by omega)
      rw [Int.toNat_natCast, hsz] at hrun
      refine ⟨_, _, _, by simp only [Sem.run_bind, hrun, Result.andThen_ok, Sem.run_pure]; rfl, .inl rfl, G, _, R1, ?_, X1⟩
      refine ⟨?_, some ⟨w.heap.size, 0, none⟩, by simp⟩
      have := RV.of_flat (ad := ⟨w.heap.size, 0, none⟩) (a := some ⟨w.heap.size, 0, none⟩) (cap := m) (fun _ => rfl) (by simp) (by simp only [maxLen]; omega) (fun j u hu => by
        rw [addr_box, Nat.zero_add, hcell]
        exact ⟨.inr rfl, by rw [← Array.getElem?_toList]; exact hu, zero_one hone _ j (by omega) hu⟩) hels
      simpa using this
    · cases hr
  · cases hr

end
end Go.Abs
