/-
  The abstract walk is sound: the seventh part: append.
-/
import Derived.Test.YthofonhkpilifaaAbs8
namespace Go.Abs
open Go.RowKit

section
variable {E : Env} {B : Nat} {S0 : Addr → Prop} {w0 : World} {st : St} {G : Gh} {S : Addr → Prop} {w : World} {tmps : Array Value}

/-- What is asked of a token's header. -/
structure Head (E : Env) (B : Nat) (G : Gh) (S : Addr → Prop) (w : World) (k : Nat) (n : Nat) (e : TypeId) (hv : Value) : Prop where
  ok : ∃ a cap, hv = .slice a n cap ∧ n ≤ cap ∧ cap ≤ maxLen ∧
    (n < cap → ∃ (g : Nat) (cur : Array Value), a = some ⟨g, 0, none⟩ ∧ B ≤ g ∧ w.heap[g]? = some (.cells cur e (0, 0)) ∧ cur.size = cap * (E.T e).size ∧
      (∀ a, S a → a.block = g → a.off < n * (E.T e).size) ∧ (∀ (i : Nat), G.bx[i]? ≠ some g))
  apart : ∀ (g n' cap t' n'' cap'' : Nat), hv = .slice (some ⟨g, 0, none⟩) n' cap → n' < cap → t' ≠ k → G.tk[t']? = some (.slice (some ⟨g, 0, none⟩) n'' cap'') → ¬ n'' < cap''
  fp : ∀ (g n' cap : Nat), hv = .slice (some ⟨g, 0, none⟩) n' cap → n' < cap → ¬ G.fp g

theorem Inv.noTwo (hI : Inv E B S0 st.bx st.tk st.ax G S w) {t t' g n n' cap cap' : Nat} (hne : t ≠ t') (h1 : G.tk[t]? = some (.slice (some ⟨g, 0, none⟩) n cap)) (h2 : n < cap)
    (h3 : G.tk[t']? = some (.slice (some ⟨g, 0, none⟩) n' cap')) : ¬ n' < cap' := by
  rcases hI.apart t t' n n' cap cap' g hne h1 h2 with h | h
  · exact absurd h3 h
  · omega

/-- A new token. -/
theorem Rel.tokNew (R : Rel E B S0 w0 st G S w tmps) {tk0 : List (Nat × TypeId)} {G0 : Gh} {S1 : Addr → Prop} {w1 : World} (X : Ext tk0 G0 S1 w1 st.tk G S w) {n : Nat} {e : TypeId} {hv : Value} (hh : Head E B G S w st.tk.length n e hv)
    (hfr : ∀ (g n' cap : Nat), hv = .slice (some ⟨g, 0, none⟩) n' cap → n' < cap → w1.heap.size ≤ g) :
    Rel E B S0 w0 { st with tk := st.tk ++ [(n, e)] } ⟨G.bx, G.tk ++ [hv], G.mp, G.fp⟩ S w tmps ∧ Ext tk0 G0 S1 w1 (st.tk ++ [(n, e)]) ⟨G.bx, G.tk ++ [hv], G.mp, G.fp⟩ S w ∧
      (G.tk ++ [hv])[st.tk.length]? = some hv ∧ (st.tk ++ [(n, e)])[st.tk.length]? = some (n, e) := by
  have hI := R.inv
  have hlen := hI.ltk
  have hX : Ext0 st.tk G S w (st.tk ++ [(n, e)]) ⟨G.bx, G.tk ++ [hv], G.mp, G.fp⟩ S w :=
    ⟨fun _ _ h => h, fun t hv' le h1 h2 => ⟨hv', le, by
      show (G.tk ++ [hv])[t]? = _
      rw [List.getElem?_append_left (List.getElem?_eq_some_iff.1 h1).1]; exact h1, by
      rw [List.getElem?_append_left (List.getElem?_eq_some_iff.1 h2).1]; exact h2, .inl ⟨rfl, rfl⟩⟩, fun _ h => h, fun _ _ => rfl, fun _ _ h => h⟩
  have hnew : ∀ (t : Nat) (x : Value), (G.tk ++ [hv])[t]? = some x → (G.tk[t]? = some x ∧ t < st.tk.length) ∨ (t = st.tk.length ∧ x = hv) := by
    intro t x hx
    rcases Nat.lt_trichotomy t G.tk.length with h | h | h
    · rw [List.getElem?_append_left h] at hx; exact .inl ⟨hx, by omega⟩
    · subst h; simp at hx; exact .inr ⟨hlen, hx.symm⟩
    · rw [List.getElem?_eq_none (by simp; omega)] at hx; cases hx
  refine ⟨⟨⟨hI.base, hI.s0, hI.slt, hI.lbx, by simp [hlen], hI.old, hI.dist, fun id b cs h1 h2 => ?_, fun t n' e' hv' h1 h2 => ?_, fun t t' n1 n2 c1 c2 g hne h1 h2 => ?_, hI.lmp, hI.dmp, hI.mpo, hI.mpk, hI.flt, hI.fbx, fun t n' cap g h1 h2 => ?_, hI.fmp, hI.yl⟩, R.below, R.len, fun t s v a1 a2 => RSV.mono0 hX (R.sl t s v a1 a2)⟩,
    X.step hX (fun b hb hf => ?_), by simp [← hlen], by simp⟩
  · obtain ⟨⟨t', arr, b1, b2, b3⟩, b4⟩ := hI.box id b cs h1 h2
    exact ⟨⟨t', arr, b1, b2, fun j c v a1 a2 => ⟨RSV.mono0 hX (b3 j c v a1 a2).1, (b3 j c v a1 a2).2⟩⟩, b4⟩
  · rcases hnew t hv' h2 with h | ⟨rfl, rfl⟩
    · rw [List.getElem?_append_left h.2] at h1
      exact hI.tok t n' e' hv' h1 h.1
    · simp at h1
      obtain ⟨rfl, rfl⟩ := h1
      exact hh.ok
  · by_cases hq : n2 < c2
    · left
      intro h3
      rcases hnew t _ h1 with ⟨h, hl⟩ | ⟨rfl, h⟩ <;> rcases hnew t' _ h3 with ⟨k, kl⟩ | ⟨rfl, k⟩
      · exact hI.noTwo hne h h2 k hq
      · exact hh.apart g n2 c2 t n1 c1 k.symm hq (by omega) h h2
      · exact hh.apart g n1 c1 t' n2 c2 h.symm h2 (by omega) k hq
      · exact hne rfl
    · exact .inr (by omega)
  · rcases hnew t _ h1 with ⟨h, _⟩ | ⟨_, h⟩
    · exact hI.ftk t n' cap g h h2
    · exact hh.fp g n' cap h.symm h2
  · rcases hf with hf | ⟨t, n', cap, h1, h2⟩ | hf
    · exact .inl hf
    · rcases hnew t _ h1 with ⟨h, _⟩ | ⟨_, h⟩
      · exact .inr (.inl ⟨t, n', cap, h, h2⟩)
      · have := hfr b n' cap h.symm h2; omega
    · exact .inr (.inr hf)

/-- A token's slice has grown. -/
theorem Rel.tokSet (R : Rel E B S0 w0 st G S w tmps) {tk0 : List (Nat × TypeId)} {G0 : Gh} {S1 : Addr → Prop} {w1 : World} (X : Ext tk0 G0 S1 w1 st.tk G S w) {k n : Nat} {e : TypeId} {hv : Value} (hk : k < st.tk.length) (hlt : ∀ le, st.tk[k]? = some le → le.1 < n) (hh : Head E B G S w k n e hv)
    (hfr : ∀ (g n' cap : Nat), hv = .slice (some ⟨g, 0, none⟩) n' cap → n' < cap → w1.heap.size ≤ g) :
    Rel E B S0 w0 { st with tk := st.tk.set k (n, e) } ⟨G.bx, G.tk.set k hv, G.mp, G.fp⟩ S w tmps ∧ Ext tk0 G0 S1 w1 (st.tk.set k (n, e)) ⟨G.bx, G.tk.set k hv, G.mp, G.fp⟩ S w ∧
      (G.tk.set k hv)[k]? = some hv ∧ (st.tk.set k (n, e))[k]? = some (n, e) := by
  have hI := R.inv
  have hlen := hI.ltk
  have hX : Ext0 st.tk G S w (st.tk.set k (n, e)) ⟨G.bx, G.tk.set k hv, G.mp, G.fp⟩ S w := by
    refine ⟨fun _ _ h => h, fun t hv' le h1 h2 => ?_, fun _ h => h, fun _ _ => rfl, fun _ _ h => h⟩
    by_cases ht : k = t
    · subst ht
      exact ⟨hv, (n, e), by simp [hlen, hk], by simp [hk], .inr (hlt le h2)⟩
    · exact ⟨hv', le, by simp [ht, h1], by simp [ht, h2], .inl ⟨rfl, rfl⟩⟩
  have hnew : ∀ (t : Nat) (x : Value), (G.tk.set k hv)[t]? = some x → (G.tk[t]? = some x ∧ t ≠ k) ∨ (t = k ∧ x = hv) := by
    intro t x hx
    by_cases ht : k = t
    · subst ht
      simp [hlen, hk] at hx
      exact .inr ⟨rfl, hx.symm⟩
    · simp [ht] at hx
      exact .inl ⟨hx, fun h => ht h.symm⟩
  refine ⟨⟨⟨hI.base, hI.s0, hI.slt, hI.lbx, by simp [hlen], hI.old, hI.dist, fun id b cs h1 h2 => ?_, fun t n' e' hv' h1 h2 => ?_, fun t t' n1 n2 c1 c2 g hne h1 h2 => ?_, hI.lmp, hI.dmp, hI.mpo, hI.mpk, hI.flt, hI.fbx, fun t n' cap g h1 h2 => ?_, hI.fmp, hI.yl⟩, R.below, R.len, fun t s v a1 a2 => RSV.mono0 hX (R.sl t s v a1 a2)⟩,
    X.step hX (fun b hb hf => ?_), by simp [hlen, hk], by simp [hk]⟩
  · obtain ⟨⟨t', arr, b1, b2, b3⟩, b4⟩ := hI.box id b cs h1 h2
    exact ⟨⟨t', arr, b1, b2, fun j c v a1 a2 => ⟨RSV.mono0 hX (b3 j c v a1 a2).1, (b3 j c v a1 a2).2⟩⟩, b4⟩
  · rcases hnew t hv' h2 with h | ⟨rfl, rfl⟩
    · have : ¬ k = t := fun e => h.2 e.symm
      simp [this] at h1
      exact hI.tok t n' e' hv' h1 h.1
    · simp [hk] at h1
      obtain ⟨rfl, rfl⟩ := h1
      exact hh.ok
  · by_cases hq : n2 < c2
    · left
      intro h3
      rcases hnew t _ h1 with ⟨h, hl⟩ | ⟨rfl, h⟩ <;> rcases hnew t' _ h3 with ⟨k', kl⟩ | ⟨rfl, k'⟩
      · exact hI.noTwo hne h h2 k' hq
      · exact hh.apart g n2 c2 t n1 c1 k'.symm hq hne h h2
      · exact hh.apart g n1 c1 t' n2 c2 h.symm h2 (Ne.symm hne) k' hq
      · exact hne rfl
    · exact .inr (by omega)
  · rcases hnew t _ h1 with ⟨h, _⟩ | ⟨_, h⟩
    · exact hI.ftk t n' cap g h h2
    · exact hh.fp g n' cap h.symm h2
  · rcases hf with hf | ⟨t, n', cap, h1, h2⟩ | hf
    · exact .inl hf
    · rcases hnew t _ h1 with ⟨h, _⟩ | ⟨_, h⟩
      · exact .inr (.inl ⟨t, n', cap, h, h2⟩)
      · have := hfr b n' cap h.symm h2; omega
    · exact .inr (.inr hf)

theorem run_append_zero {t ty e : TypeId} {i : TypeInfo} (ht : E.P.underlying t = some (.slice e)) (hi : E.P.info? e = some i) (a A : Option Addr) (n cap c : Nat) (hn : n ≤ cap) :
    (Builtin.append_ #[t, t] ty #[.slice a n cap, .slice A 0 c]).run E.P w = .ok (.slice a n cap) w := by
  cases A <;> cases a <;> simp [Builtin.append_, run_underlying ht, sizeOf, typeInfo, hi, Builtin.lenOf, Builtin.firstCells, hn, loadCells, loadCellsFrom, storeCells]

/-- A row that has grown into a new block. -/
theorem Rel.grownRow (R : Rel E B S0 w0 st G S w tmps) (e : TypeId) (arr : Array Value) (n cap : Nat) (hn : n ≤ cap) (hcap : cap ≤ maxLen) (hsz : arr.size = cap * (E.T e).size) (k : Nat) :
    ∃ S' : Addr → Prop, Rel E B S0 w0 st G S' (w.drew.alloc (.cells arr e)) tmps ∧ Ext st.tk G S w st.tk G S' (w.drew.alloc (.cells arr e)) ∧
      (∀ j, j < n * (E.T e).size → S' ⟨w.heap.size, j, none⟩) ∧ (∀ j, (w.drew.alloc (.cells arr e)).cell? ⟨w.heap.size, j, none⟩ = arr[j]?) ∧
      Head E B G S' (w.drew.alloc (.cells arr e)) k n e (.slice (some ⟨w.heap.size, 0, none⟩) n cap) := by
  have hbel : Below w.heap.size w (w.drew.alloc (.cells arr e)) := ⟨rfl, rfl, rfl, by simp, fun k hk => Below.heap_alloc w.drew _ k hk⟩
  obtain ⟨R1, X1⟩ := R.transport (S' := fun a => S a ∨ (a.block = w.heap.size ∧ a.off < n * (E.T e).size)) (w' := w.drew.alloc (.cells arr e)) (fun _ h => .inl h) (fun a ha => by
    rcases ha with ha | ha
    · exact .inl ha
    · exact .inr ⟨by omega, by rw [ha.1]; simp⟩) hbel
  have hI := R.inv
  refine ⟨_, R1, X1, fun j hj => .inr ⟨rfl, hj⟩, fun j => World.cell?_alloc_new w.drew arr e j, ⟨⟨some ⟨w.heap.size, 0, none⟩, cap, rfl, hn, hcap, fun _ => ⟨w.heap.size, arr, rfl, hI.base, heap_alloc_new w.drew _, hsz, fun a ha hab => ?_, fun i hi => ?_⟩⟩, fun g n' cap' t' n'' cap'' h1 h2 h3 h4 h5 => ?_, fun g n' cap' h1 _ hf => by
    injection h1 with h1 _ _
    injection h1 with h1
    injection h1 with h1
    subst h1
    exact Nat.lt_irrefl _ (hI.flt _ hf)⟩⟩
  · rcases ha with ha | ha
    · have := hI.slt a ha; omega
    · exact ha.2
  · have := (hI.old i _ hi).2; omega
  · injection h1 with h1 _ _
    injection h1 with h1
    injection h1 with h1
    subst h1
    have hl : t' < st.tk.length := by rw [← hI.ltk]; exact (List.getElem?_eq_some_iff.1 h4).1
    obtain ⟨a, cap1, k1, k2, k3, k4⟩ := hI.tok t' _ _ _ (List.getElem?_eq_getElem hl) h4
    injection k1 with k1 k5 k6
    subst k6
    rw [← k5] at k4
    obtain ⟨g, cur, c1, c2, c3, _⟩ := k4 h5
    rw [← k1] at c1
    injection c1 with c1
    injection c1 with c1
    rw [← c1, Array.getElem?_eq_none (Nat.le_refl _)] at c3
    cases c3

/-- A row that has grown in its place. -/
theorem Rel.roomRow (R : Rel E B S0 w0 st G S w tmps) {k g n n' cap : Nat} {e : TypeId} {arr : Array Value} (hkt : st.tk[k]? = some (n, e)) (hkg : G.tk[k]? = some (.slice (some ⟨g, 0, none⟩) n cap)) (hnc : n < cap) (hn : n' ≤ cap) (hnn : n < n')
    {cur : Array Value} (hcur : w.heap[g]? = some (.cells cur e (0, 0))) (hsz : arr.size = cap * (E.T e).size) (hsame : ∀ j, j < n * (E.T e).size → arr[j]? = cur[j]?) :
    ∃ (G' : Gh) (S' : Addr → Prop), Rel E B S0 w0 { st with tk := st.tk.set k (n', e) } G' S' (w.setRow g arr) tmps ∧ Ext st.tk G S w (st.tk.set k (n', e)) G' S' (w.setRow g arr) ∧
      (∀ j, j < n' * (E.T e).size → S' ⟨g, j, none⟩) ∧ (∀ j, (w.setRow g arr).cell? ⟨g, j, none⟩ = arr[j]?) ∧
      G'.tk[k]? = some (.slice (some ⟨g, 0, none⟩) n' cap) ∧ (st.tk.set k (n', e))[k]? = some (n', e) := by
  have hI := R.inv
  have hlen := hI.ltk
  have hk : k < st.tk.length := (List.getElem?_eq_some_iff.1 hkt).1
  obtain ⟨a, cap1, k1, k2, k3, k4⟩ := hI.tok k n e _ hkt hkg
  injection k1 with k1 _ k6
  subst k6
  obtain ⟨g', cur', c1, hBg, c3, _, hSg, hbxg⟩ := k4 hnc
  rw [← k1] at c1
  injection c1 with c1
  injection c1 with c1
  subst c1
  have hg : g < w.heap.size := by
    rcases Nat.lt_or_ge g w.heap.size with h | h
    · exact h
    · rw [Array.getElem?_eq_none h] at hcur; cases hcur
  have hcell : ∀ a, S a → (w.setRow g arr).cell? a = w.cell? a := by
    intro a ha
    by_cases hab : a.block = g
    · have hlt := hSg a ha hab
      have h1 := setRow_heap w g cur arr e _ hcur
      simp only [World.cell?, hab, h1, hcur]
      rw [hsame a.off hlt]
    · exact cell_setRow_other w g arr a hab
  have hfg : Foot G g := .inr (.inl ⟨k, n, cap, hkg, hnc⟩)
  have hnew : ∀ (t : Nat) (x : Value), (G.tk.set k (.slice (some ⟨g, 0, none⟩) n' cap))[t]? = some x → (G.tk[t]? = some x ∧ t ≠ k) ∨ (t = k ∧ x = .slice (some ⟨g, 0, none⟩) n' cap) := by
    intro t x hx
    by_cases ht : k = t
    · subst ht
      simp [hlen, hk] at hx
      exact .inr ⟨rfl, hx.symm⟩
    · simp [ht] at hx
      exact .inl ⟨hx, fun h => ht h.symm⟩
  have hX : Ext st.tk G S w (st.tk.set k (n', e)) ⟨G.bx, G.tk.set k (.slice (some ⟨g, 0, none⟩) n' cap), G.mp, G.fp⟩ (fun a => S a ∨ (a.block = g ∧ a.off < n' * (E.T e).size)) (w.setRow g arr) := by
    refine ⟨fun _ _ h => h, fun t hv' le h1 h2 => ?_, fun _ h => .inl h, hcell, fun _ _ h => h, ⟨rfl, rfl, rfl, by simp, fun k hk => absurd hk (Nat.not_lt_zero _)⟩, fun b _ hf => setRow_other w g b arr (fun e => hf (by rw [e]; exact hfg)), fun b _ hf => ?_, fun a ha => ha.imp (fun h => h) fun h => .inl (by rw [h.1]; exact hfg)⟩
    rotate_left
    · rcases hf with hf | ⟨t, n2, cap2, h1, h2⟩ | hf
      · exact .inl hf
      · rcases hnew t _ h1 with ⟨h, _⟩ | ⟨_, h⟩
        · exact .inr (.inl ⟨t, n2, cap2, h, h2⟩)
        · injection h with h _ _
          injection h with h
          injection h with h
          rw [h]; exact hfg
      · exact .inr (.inr hf)
    by_cases ht : k = t
    · subst ht
      rw [hkt] at h2
      cases h2
      exact ⟨.slice (some ⟨g, 0, none⟩) n' cap, (n', e), by simp [hlen, hk], by simp [hk], .inr hnn⟩
    · exact ⟨hv', le, by simp [ht, h1], by simp [ht, h2], .inl ⟨rfl, rfl⟩⟩
  refine ⟨⟨G.bx, G.tk.set k (.slice (some ⟨g, 0, none⟩) n' cap), G.mp, G.fp⟩, fun a => S a ∨ (a.block = g ∧ a.off < n' * (E.T e).size), ⟨⟨by simpa using hI.base, fun a ha => ?_, fun a ha => ?_, hI.lbx, by simp [hlen], fun i b h => by simpa using hI.old i b h, hI.dist, fun id b cs h1 h2 => ?_, fun t m e' hv' h1 h2 => ?_, fun t t' n1 n2 c1 c2 g1 hne h1 h2 => ?_, hI.lmp, hI.dmp, fun i b h => by simpa using hI.mpo i b h, fun i b c h1 h2 => (hI.mpk i b c h1 h2).same (setRow_other w g b arr ((hI.mpk i b c h1 h2).ne hcur)), fun b h => by simpa using hI.flt b h, hI.fbx, fun t n2 cap2 g2 h1 h2 => by
      rcases hnew t _ h1 with ⟨h, _⟩ | ⟨_, h⟩
      · exact hI.ftk t n2 cap2 g2 h h2
      · injection h with h _ _
        injection h with h
        injection h with h
        rw [h]; exact hI.ftk k n cap g hkg hnc, hI.fmp,
      ⟨E.Y.ok _ _ _ _ _ _ hI.yl.1 ⟨hX.calm, fun b hb => setRow_other w g b arr (fun e => hI.ftk k n cap g hkg hnc (by rw [← e]; exact hb)), fun _ h => .inl h, hcell, fun a ha => ha.imp (fun h => h) fun h => by rw [h.1]; exact hI.ftk k n cap g hkg hnc, fun a ha => by
        rcases ha with ha | ha
        · simpa using hI.slt a ha
        · simp; omega⟩, hI.yl.2⟩⟩,
    R.below.trans ⟨rfl, rfl, rfl, by simp, fun k' hk' => setRow_other w g k' arr (by omega)⟩, R.len, fun t s v a1 a2 => RSV.mono hX (R.sl t s v a1 a2)⟩, hX, fun j hj => .inr ⟨rfl, hj⟩, fun j => cell_setRow_same w g j cur arr e _ hcur, by simp [hlen, hk], by simp [hk]⟩
  · rcases ha with ha | ha
    · exact hI.s0 a ha
    · exact .inr (by omega)
  · rcases ha with ha | ha
    · simpa using hI.slt a ha
    · simp; omega
  · obtain ⟨⟨t', arr', b1, b2, b3⟩, b4⟩ := hI.box id b cs h1 h2
    have hbg : b ≠ g := fun e => hbxg id (by rw [← e]; exact h2)
    refine ⟨⟨t', arr', by rw [setRow_other w g b arr hbg]; exact b1, b2, fun j c v a1 a2 => ⟨RSV.mono hX (b3 j c v a1 a2).1, (b3 j c v a1 a2).2⟩⟩, fun a ha => ?_⟩
    rcases ha with ha | ha
    · exact b4 a ha
    · omega
  · rcases hnew t hv' h2 with h | ⟨rfl, rfl⟩
    · have hkt' : ¬ k = t := fun e => h.2 e.symm
      simp [hkt'] at h1
      obtain ⟨a, cap2, d1, d2, d3, d4⟩ := hI.tok t m e' hv' h1 h.1
      refine ⟨a, cap2, d1, d2, d3, fun hlt => ?_⟩
      obtain ⟨g2, cur2, e1, e2, e3, e4, e5, e6⟩ := d4 hlt
      have hgg : g2 ≠ g := fun eq => by
        subst eq
        rw [d1, e1] at h
        exact hI.noTwo hkt' hkg hnc h.1 hlt
      refine ⟨g2, cur2, e1, e2, by rw [setRow_other w g g2 arr hgg]; exact e3, e4, fun a ha hab => ?_, e6⟩
      rcases ha with ha | ha
      · exact e5 a ha hab
      · omega
    · simp [hk] at h1
      obtain ⟨rfl, rfl⟩ := h1
      exact ⟨_, cap, rfl, hn, k3, fun _ => ⟨g, arr, rfl, hBg, setRow_heap w g cur arr e _ hcur, hsz, fun a ha hab => by
        rcases ha with ha | ha
        · have := hSg a ha hab
          have : n * (E.T e).size ≤ n' * (E.T e).size := Nat.mul_le_mul_right _ (by omega)
          omega
        · exact ha.2, hbxg⟩⟩
  · by_cases hq : n2 < c2
    · left
      intro h3
      rcases hnew t _ h1 with ⟨h, hl⟩ | ⟨rfl, h⟩ <;> rcases hnew t' _ h3 with ⟨k', kl⟩ | ⟨rfl, k'⟩
      · exact hI.noTwo hne h h2 k' hq
      · injection k' with k' _ _
        injection k' with k'
        injection k' with k'
        subst k'
        exact hI.noTwo hne h h2 hkg hnc
      · injection h with h _ _
        injection h with h
        injection h with h
        subst h
        exact hI.noTwo hne hkg hnc k' hq
      · exact hne rfl
    · exact .inr (by omega)

theorem list_take_append {α : Type} (a b c : List α) : (a ++ b ++ c).take (a.length + b.length) = a ++ b := by
  rw [← List.length_append]
  exact List.take_left

/-- A row's list, once it is known where it lies. -/
theorem RV.of_row {S' : Addr → Prop} {w' : World} {g n cap sz : Nat} {zs : List PV} {arr : Array Value} {vals : List Value} (hlen : zs.length = n) (hn : n ≤ cap) (hcap : cap ≤ maxLen) (hS : ∀ j, j < n * sz → S' ⟨g, j, none⟩) (hcell : ∀ j, w'.cell? ⟨g, j, none⟩ = arr[j]?)
    (htake : arr.toList.take (n * sz) = vals) (hone : ∀ v ∈ vals, v.oneCell' = true) (hels : Els S' w' sz zs vals) : RV S' w' (.list sz zs) (.slice (some ⟨g, 0, none⟩) n cap) := by
  have := RV.of_flat (ad := ⟨g, 0, none⟩) (a := some ⟨g, 0, none⟩) (cap := cap) (fun _ => rfl) (by omega) hcap (fun j u hu => by
    have hj : j < n * sz := by
      have := (List.getElem?_eq_some_iff.1 hu).1
      rw [hels.1, hlen] at this
      exact this
    rw [addr_box, Nat.zero_add]
    refine ⟨hS j hj, ?_, hone u (List.mem_of_getElem? hu)⟩
    rw [hcell, ← Array.getElem?_toList]
    rw [← htake, List.getElem?_take, if_pos hj] at hu
    exact hu) hels
  rw [hlen] at this
  exact this

theorem ok_append (hE : EnvOk E) (R : Rel E B S0 w0 st G S w tmps) {t ty : TypeId} {s y : SV} {vs vy : Value} (hs : RSV st.tk G S w s vs) (hy : RSV st.tk G S w y vy) :
    OpOk E B S0 w0 (opAppend E t s y st) G S w st.tk tmps (do pure (.value (← Builtin.append_ #[t, t] ty #[vs, vy]))) := by
  intro r' hr hside
  unfold opAppend at hr
  have hk := (hE.td t).k
  split at hr
  · rename_i e m' ys hke hye
    rw [hke] at hk
    split at hr
    · rename_i hcond
      obtain ⟨hm', hsz, hzl⟩ := hcond
      obtain ⟨i, z, hi, hsize, hby, hzz, hzc, hone, hcs, _⟩ := hE.cells (t := e) (by omega)
      obtain ⟨aY, adY, capY, us, rfl, haY, hcY, hmY, hcellY, helsY⟩ := RV.flat (RSV.elems hy hye)
      have helsY' : Els S w (E.T e).size ys us := by
        rcases hm' with h | h
        · rw [← h]; exact helsY
        · subst h
          have : us = [] := List.eq_nil_of_length_eq_zero (by have := helsY.1; simpa using this)
          subst this
          exact Els.nil _
      have honeY : ∀ u ∈ us, u.oneCell' = true := fun u hu => by
        obtain ⟨j, hj⟩ := List.mem_iff_getElem?.1 hu
        exact (hcellY j u hj).2.2
      -- the growing way, common to both
      have grow : ∀ (xs : List PV) (vals : List Value) (a : Option Addr) (ad : Addr) (cap : Nat), Els S w (E.T e).size xs vals → (∀ v ∈ vals, v.oneCell' = true) → (xs ≠ [] → a = some ad) → (∀ j u, vals[j]? = some u → w.cell? (ad.add j) = some u) →
          (a = none → xs = [] ∧ cap = 0) → ys ≠ [] → cap < xs.length + ys.length → (xs.length + ys.length) * ((E.T e).bytes + 1) ≤ 140737488355328 → ∀ k, ∃ (cap' : Nat) (arr : Array Value) (S' : Addr → Prop),
          (Builtin.append_ #[t, t] ty #[.slice a xs.length cap, .slice aY ys.length capY]).run E.P w = .ok (.slice (some ⟨w.heap.size, 0, none⟩) (xs.length + ys.length) cap') (w.drew.alloc (.cells arr e)) ∧
          Rel E B S0 w0 st G S' (w.drew.alloc (.cells arr e)) tmps ∧ Ext st.tk G S w st.tk G S' (w.drew.alloc (.cells arr e)) ∧
          Head E B G S' (w.drew.alloc (.cells arr e)) k (xs.length + ys.length) e (.slice (some ⟨w.heap.size, 0, none⟩) (xs.length + ys.length) cap') ∧
          RV S' (w.drew.alloc (.cells arr e)) (.list (E.T e).size (xs ++ ys)) (.slice (some ⟨w.heap.size, 0, none⟩) (xs.length + ys.length) cap') := by
        intro xs vals a ad cap hX honeX haX hcX hnone hyne hcap hbytes k
        have haY' := haY hyne
        subst haY'
        have hbytes1 : (xs.length + ys.length) * (E.T e).bytes ≤ 140737488355328 := by
          rw [Nat.mul_add] at hbytes; omega
        have hsmall : xs.length + ys.length ≤ 140737488355328 := by
          rw [Nat.mul_add] at hbytes; omega
        have hys : 0 < ys.length := List.length_pos_iff.2 hyne
        have hge := grownCap_ge w (xs.length + ys.length) cap e
        have hle := grownCap_le_maxLen w (xs.length + ys.length) cap e (by simp only [maxLen]; omega)
        have hrun : (Builtin.append_ #[t, t] ty #[.slice a xs.length cap, .slice (some adY) ys.length capY]).run E.P w =
            .ok (.slice (some ⟨w.heap.size, 0, none⟩) (xs.length + ys.length) (grownCap w (xs.length + ys.length) cap e))
              (w.drew.alloc (.cells (vals.toArray ++ us.toArray ++ Builtin.zeroCells z.cells (grownCap w (xs.length + ys.length) cap e - (xs.length + ys.length))) e)) := by
          cases a with
          | none =>
            obtain ⟨rfl, rfl⟩ := hnone rfl
            have : vals = [] := List.eq_nil_of_length_eq_zero (by have := hX.1; simpa using this)
            subst this
            have := run_append_nil (P := E.P) w t ty e i z hk hi hzz adY ys.length capY us (by rw [hsize]; exact helsY'.1) (fun j v hv => (hcellY j v hv).2.1) hys (by omega) (by rw [hby]; simp at hbytes1; omega)
            simpa using this
          | some b =>
            have hb : xs = [] ∨ b = ad := by
              by_cases hx : xs = []
              · exact .inl hx
              · have := haX hx; injection this with this; exact .inr this
            have holds : ∀ j v, vals[j]? = some v → w.cell? (b.add j) = some v := by
              rcases hb with rfl | rfl
              · have : vals = [] := List.eq_nil_of_length_eq_zero (by have := hX.1; simpa using this)
                subst this
                simp
              · exact hcX
            exact run_append_grow (P := E.P) w t ty e i z hk hi hzz b xs.length cap vals (by rw [hsize]; exact hX.1) holds adY ys.length capY us (by rw [hsize]; exact helsY'.1) (fun j v hv => (hcellY j v hv).2.1) hcap (by omega) (by rw [hby]; exact growslice_fits hcap hbytes1)
        have hels : Els S w (E.T e).size (xs ++ ys) (vals ++ us) := hX.append helsY'
        have hvl : (vals ++ us).length = (xs.length + ys.length) * (E.T e).size := by rw [hels.1]; simp
        obtain ⟨S', R1, X1, hS1, hc1, hH⟩ := R.grownRow e (vals.toArray ++ us.toArray ++ Builtin.zeroCells z.cells (grownCap w (xs.length + ys.length) cap e - (xs.length + ys.length))) (xs.length + ys.length) (grownCap w (xs.length + ys.length) cap e) hge hle
          (by
            have h1 := hX.1
            have h2 := helsY'.1
            simp only [Array.size_append, List.size_toArray, size_zeroCells, hcs, h1, h2, ← Nat.add_mul]
            congr 1
            omega) k
        refine ⟨_, _, S', hrun, R1, X1, hH, RV.of_row (vals := vals ++ us) (by simp) hge hle hS1 hc1 ?_ (fun v hv => ?_) (hels.mono X1.sub X1.cell)⟩
        · rw [← hvl]
          have e1 : (vals.toArray ++ us.toArray ++ Builtin.zeroCells z.cells (grownCap w (xs.length + ys.length) cap e - (xs.length + ys.length))).toList = (vals ++ us) ++ (Builtin.zeroCells z.cells (grownCap w (xs.length + ys.length) cap e - (xs.length + ys.length))).toList := by simp
          rw [e1]
          exact List.take_left
        · rcases List.mem_append.1 hv with h | h
          · exact honeX v h
          · exact honeY v h
      split at hr
      · rename_i m xs
        split at hr
        · rename_i hm
          cases hr
          obtain ⟨hX, aX, hvX⟩ := hs
          obtain ⟨a, ad, cap, vals, hvv, haX, hcX, hmX, hcellX, helsX⟩ := RV.flat hX
          rw [hvv] at hvX
          injection hvX with _ _ hcapX
          subst hcapX
          subst hvv
          have helsX' : Els S w (E.T e).size xs vals := by
            rcases hm with h | h
            · rw [← h]; exact helsX
            · subst h
              have : vals = [] := List.eq_nil_of_length_eq_zero (by have := helsX.1; simpa using this)
              subst this
              exact Els.nil _
          have honeX : ∀ u ∈ vals, u.oneCell' = true := fun u hu => by
            obtain ⟨j, hj⟩ := List.mem_iff_getElem?.1 hu
            exact (hcellX j u hj).2.2
          by_cases hyn : ys = []
          · subst hyn
            have hlist : RV S w (.list (E.T e).size xs) (.slice a xs.length xs.length) := RV.of_flat haX (Nat.le_refl _) hmX hcellX helsX'
            obtain ⟨R1, X1, h1, h2⟩ := R.tokNew (Ext.refl _ _ _ _) (n := xs.length) (e := e) (hv := .slice a xs.length xs.length) ⟨⟨a, xs.length, rfl, Nat.le_refl _, hmX, fun h => absurd h (Nat.lt_irrefl _)⟩, fun g n' cap' t' n'' cap'' h1 h2 _ _ => by injection h1 with _ h3 h4; omega, fun g n' cap' h1 h2 => by injection h1 with _ h3 h4; omega⟩ (fun g n' cap' h1 h2 => by injection h1 with _ h3 h4; omega)
            refine ⟨_, _, w, by simp only [Sem.run_bind, List.length_nil, run_append_zero hk hi a aY xs.length xs.length capY (Nat.le_refl _), Result.andThen_ok, Sem.run_pure]; rfl, .inl rfl, ⟨G.bx, G.tk ++ [.slice a xs.length xs.length], G.mp, G.fp⟩, S, ?_, ?_, ?_⟩
            · simp only [List.append_nil]; exact R1
            · simp only [List.append_nil]
              exact ⟨hlist, _, _, h1, h2, Nat.le_refl _, fun _ => rfl⟩
            · simp only [List.append_nil]; exact X1
          · obtain ⟨cap', arr, S', hrun, R1, X1, hH, hV⟩ := grow xs vals a ad xs.length helsX' honeX haX (fun j u hu => (hcellX j u hu).2.1) (fun hn => by
              subst hn
              have : xs = [] := by
                rcases xs with _ | ⟨x, xs⟩
                · rfl
                · exact absurd (haX (by simp)) (by simp)
              subst this
              exact ⟨rfl, rfl⟩) hyn (by have := List.length_pos_iff.2 hyn; omega) hside st.tk.length
            obtain ⟨R2, X2, h1, h2⟩ := R1.tokNew X1 hH (fun g n' c h _ => by injection h with h _ _; injection h with h; injection h with h; omega)
            have hL : (xs ++ ys).length = xs.length + ys.length := by simp
            refine ⟨_, _, _, by simp only [Sem.run_bind, hrun, Result.andThen_ok, Sem.run_pure]; rfl, .inl rfl, ⟨G.bx, G.tk ++ [.slice (some ⟨w.heap.size, 0, none⟩) (xs.length + ys.length) cap'], G.mp, G.fp⟩, S', ?_, ?_, ?_⟩
            · simp only [hL]; exact R2
            · simp only [hL]
              exact ⟨hV, _, _, h1, h2, by omega, fun _ => rfl⟩
            · simp only [hL]; exact X2
        · cases hr
      · rename_i k m xs
        split at hr
        · rename_i hm
          cases hr
          obtain ⟨hlen, hkl, hbytes⟩ := hside
          obtain ⟨hX, hv, le, hG, hle, hxl, hveq⟩ := hs
          have hle' : st.tk.getD k (0, 0) = le := by rw [List.getD_eq_getElem?_getD, hle]; rfl
          rw [hle'] at hlen hm
          have hvh := hveq hlen.symm
          subst hvh
          have hle2 : st.tk[k]? = some (xs.length, e) := by
            rw [hle]
            congr 1
            exact Prod.ext hlen hm.2
          obtain ⟨a, ad, cap, vals, rfl, haX, hcX, hmX, hcellX, helsX⟩ := RV.flat hX
          have helsX' : Els S w (E.T e).size xs vals := by
            rcases hm.1 with h | h
            · rw [← h]; exact helsX
            · subst h
              have : vals = [] := List.eq_nil_of_length_eq_zero (by have := helsX.1; simpa using this)
              subst this
              exact Els.nil _
          have honeX : ∀ u ∈ vals, u.oneCell' = true := fun u hu => by
            obtain ⟨j, hj⟩ := List.mem_iff_getElem?.1 hu
            exact (hcellX j u hj).2.2
          obtain ⟨a2, cap2, q1, q2, q3, q4⟩ := R.inv.tok k xs.length e _ hle2 hG
          injection q1 with q1 _ q5
          subst q5
          subst q1
          by_cases hyn : ys = []
          · subst hyn
            have hlist : RV S w (.list (E.T e).size xs) (.slice a xs.length cap) := RV.of_flat haX hcX hmX hcellX helsX'
            have hset : st.tk.set k ((xs ++ []).length, e) = st.tk := by
              apply List.ext_getElem?
              intro j
              rw [List.getElem?_set]
              split
              · rename_i hj
                subst hj
                rw [hle2]
                simp
              · rfl
            refine ⟨_, _, w, by simp only [Sem.run_bind, List.length_nil, run_append_zero hk hi a aY xs.length cap capY hcX, Result.andThen_ok, Sem.run_pure]; rfl, .inl rfl, G, S, ?_, ?_, ?_⟩
            · simp only [hset]; exact R
            · simp only [hset]
              exact ⟨by simpa using hlist, _, _, hG, hle2, by simp, by simp⟩
            · simp only [hset]; exact Ext.refl _ _ _ _
          · have hys : 0 < ys.length := List.length_pos_iff.2 hyn
            by_cases hroom : xs.length + ys.length ≤ cap
            · have hlt : xs.length < cap := by omega
              obtain ⟨g, cur, rfl, hBg, hcur, hcsz, hSg, hbxg⟩ := q4 hlt
              have haY' := haY hyn
              subst haY'
              have hsame0 : xs = [] ∨ ad = ⟨g, 0, none⟩ := by
                by_cases hx : xs = []
                · exact .inl hx
                · have := haX hx; injection this with this; exact .inr this.symm
              have hcv : cur.toList.take (xs.length * (E.T e).size) = vals := by
                rcases hsame0 with rfl | rfl
                · have : vals = [] := List.eq_nil_of_length_eq_zero (by have := helsX.1; simpa using this)
                  subst this
                  simp
                · apply List.ext_getElem?
                  intro j
                  rw [List.getElem?_take]
                  by_cases hj : j < xs.length * (E.T e).size
                  · rw [if_pos hj]
                    have hjv : j < vals.length := by rw [helsX'.1]; exact hj
                    have h1 := (hcellX j _ (List.getElem?_eq_getElem hjv)).2.1
                    rw [addr_box, Nat.zero_add] at h1
                    simp only [World.cell?, hcur] at h1
                    rw [List.getElem?_eq_getElem hjv, ← h1]
                    simp
                  · rw [if_neg hj, List.getElem?_eq_none (by rw [helsX'.1]; omega)]
              have hfit : xs.length * i.size + us.length ≤ cur.size := by
                rw [hsize, helsY'.1, hcsz, ← Nat.add_mul]; exact Nat.mul_le_mul_right _ hroom
              have hrun := run_append_room (P := E.P) w t ty e i hk hi g xs.length cap cur hcur adY ys.length capY us (by rw [hsize]; exact helsY'.1) (fun j v hv => (hcellY j v hv).2.1) honeY hroom hfit
              have hels : Els S w (E.T e).size (xs ++ ys) (vals ++ us) := helsX'.append helsY'
              have hvl : (vals ++ us).length = (xs.length + ys.length) * (E.T e).size := by rw [hels.1]; simp
              have harr : (cur.toList.take (xs.length * i.size) ++ us ++ cur.toList.drop (xs.length * i.size + us.length)) = vals ++ us ++ cur.toList.drop (xs.length * i.size + us.length) := by rw [hsize, hcv]
              rw [harr] at hrun
              obtain ⟨G', S', R1, X1, hS1, hc1, hG1, htk1⟩ := R.roomRow (n' := xs.length + ys.length) (arr := (vals ++ us ++ cur.toList.drop (xs.length * i.size + us.length)).toArray) hle2 hG hlt hroom (by omega) hcur
                (by
                  have h1 := helsX'.1
                  have h2 := helsY'.1
                  simp only [List.size_toArray, List.length_append, List.length_drop, Array.length_toList, hcsz, h1, h2, hsize]
                  have : (xs.length + ys.length) * (E.T e).size ≤ cap * (E.T e).size := Nat.mul_le_mul_right _ hroom
                  rw [Nat.add_mul] at this
                  omega) (fun j hj => by
                  have hjv : j < vals.length := by rw [helsX'.1]; exact hj
                  rw [List.append_assoc, List.getElem?_toArray, List.getElem?_append_left hjv, ← hcv, List.getElem?_take, if_pos hj]
                  simp)
              have hL : (xs ++ ys).length = xs.length + ys.length := by simp
              refine ⟨_, _, _, by simp only [Sem.run_bind, hrun, Result.andThen_ok, Sem.run_pure]; rfl, .inl rfl, G', S', ?_, ?_, ?_⟩
              · simp only [hL]; exact R1
              · simp only [hL]
                refine ⟨RV.of_row (vals := vals ++ us) hL hroom hmX hS1 hc1 ?_ (fun v hv => ?_) (hels.mono X1.sub X1.cell), _, _, hG1, htk1, by omega, fun _ => rfl⟩
                · rw [← hvl]
                  exact List.take_left
                · rcases List.mem_append.1 hv with h | h
                  · exact honeX v h
                  · exact honeY v h
              · simp only [hL]; exact X1
            · obtain ⟨cap', arr, S', hrun, R1, X1, hH, hV⟩ := grow xs vals a ad cap helsX' honeX haX (fun j u hu => (hcellX j u hu).2.1) (fun hn => by
                subst hn
                have hx : xs = [] := by
                  rcases xs with _ | ⟨x, xs⟩
                  · rfl
                  · exact absurd (haX (by simp)) (by simp)
                subst hx
                refine ⟨rfl, ?_⟩
                by_cases hc : 0 < cap
                · obtain ⟨g, cur, hq, _⟩ := q4 hc
                  cases hq
                · omega) hyn (by omega) hbytes k
              obtain ⟨R2, X2, h1, h2⟩ := R1.tokSet X1 hkl (fun le' hle' => by rw [hle2] at hle'; cases hle'; simp; omega) hH (fun g n' c h _ => by injection h with h _ _; injection h with h; injection h with h; omega)
              have hL : (xs ++ ys).length = xs.length + ys.length := by simp
              refine ⟨_, _, _, by simp only [Sem.run_bind, hrun, Result.andThen_ok, Sem.run_pure]; rfl, .inl rfl, ⟨G.bx, G.tk.set k (.slice (some ⟨w.heap.size, 0, none⟩) (xs.length + ys.length) cap'), G.mp, G.fp⟩, S', ?_, ?_, ?_⟩
              · simp only [hL]; exact R2
              · simp only [hL]
                exact ⟨hV, _, _, h1, h2, by omega, fun _ => rfl⟩
              · simp only [hL]; exact X2
        · cases hr
      · cases hr
    · cases hr
  · cases hr

end
end Go.Abs
