/-
  From what a claim says of its arguments to trees: what the reading of plain data comes to.
  The program's plain types: what their reading comes to; arguments.
  A law: from what its function does, told in trees, to the statement's contract.
  Readers: stations, reports, paths.
  Readers: flights, options.
-/
import Derived.Test.YtcafjndjnfdnpaaGreatA4
import Derived.Carry
import Derived.ChangeSame
import Derived.Test.YtcafjndjnfdnpaaGreatD1
import Derived.Test.YtcafjndjnfdnpaaGreatProg
import Derived.KernelRfl
import Derived.OpenShut
import Derived.ProofKit
set_option linter.unusedVariables false
set_option linter.unusedSimpArgs false
namespace Go.Abs
open Go.RowKit

/-- What was there as the call began. -/
def Old (w : World) (a : Addr) : Prop := a.block < w.heap.size

/-- What is read at a type comes to data of a kind, laid out as 'enc' says. -/
def Rd {α : Type} (P : Program) (t : TypeId) (enc : α → PV) (ok : α → Prop) : Prop :=
  ∀ (H : Type) (en : TypeId × Value → H) (w : World) (sp : Nat → Bool) (held : Bool) (fuel : Nat) (cs : List Value) (x : DataW H × List MemPlace),
    DataW.trod en P w 0 sp held fuel t cs = some x → ∃ a, ok a ∧ RVs (Old w) w (enc a).cells cs ∧ ∀ v ∈ cs, v.oneCell' = true

theorem add_add (a : Addr) (i j : Nat) : (a.add i).add j = a.add (i + j) := by
  obtain ⟨b, o, sp⟩ := a
  simp only [Addr.add]
  by_cases hi : i = 0
  · subst hi; simp
  · by_cases hj : j = 0
    · subst hj; simp [hi]
    · simp [hi, hj, Nat.add_assoc]

theorem RVs.one {S : Addr → Prop} {w : World} {p : PV} {v : Value} (h : RV S w p v) : RVs S w [p] [v] := RVs.cons h RVs.nil
theorem RVs.of_one {S : Addr → Prop} {w : World} {p : PV} {v : Value} (h : RVs S w [p] [v]) : RV S w p v := h.2 0 p v rfl rfl

section
variable {P : Program} {t e : TypeId}

theorem rd_int {k : IntKind} (ht : P.underlying t = some (.int k)) : Rd P t (PV.int k) fun n => (Lit.int k n).wf = true := by
  intro H en w sp held fuel cs x h
  obtain ⟨n, rfl, _, hw⟩ := DataW.trod_int ht h
  exact ⟨n, hw, RVs.one (.int _ _), by simp [Value.oneCell']⟩

theorem rd_bool (ht : P.underlying t = some .bool) : Rd P t PV.bool fun _ => True := by
  intro H en w sp held fuel cs x h
  obtain ⟨b, rfl, _⟩ := DataW.trod_bool ht h
  exact ⟨b, trivial, RVs.one (.bool _), by simp [Value.oneCell']⟩

theorem rd_str (ht : P.underlying t = some .string) : Rd P t PV.str fun s => s.size ≤ maxLen := by
  intro H en w sp held fuel cs x h
  obtain ⟨s, rfl, _, hw⟩ := DataW.trod_string ht h
  exact ⟨s, hw, RVs.one (.str _), by simp [Value.oneCell']⟩

theorem pick_list {α : Type} {Q : Nat → α → Prop} : ∀ (n : Nat), (∀ i, i < n → ∃ a, Q i a) → ∃ l : List α, l.length = n ∧ ∀ i a, l[i]? = some a → Q i a
  | 0, _ => ⟨[], rfl, fun i a h => by simp at h⟩
  | n + 1, h => by
    obtain ⟨l, h1, h2⟩ := pick_list n fun i hi => h i (by omega)
    obtain ⟨a, ha⟩ := h n (by omega)
    refine ⟨l ++ [a], by simp [h1], fun i b hb => ?_⟩
    by_cases hi : i < l.length
    · rw [List.getElem?_append_left hi] at hb
      exact h2 i b hb
    · rw [List.getElem?_append_right (by omega)] at hb
      have : i - l.length = 0 := by
        by_cases h0 : i - l.length = 0
        · exact h0
        · rw [List.getElem?_eq_none (by simp; omega)] at hb; cases hb
      rw [this] at hb
      simp at hb
      subst hb
      have : i = n := by omega
      subst this
      exact ha

theorem rd_slice {α : Type} {enc : α → PV} {ok : α → Prop} {m : Nat} (ht : P.underlying t = some (.slice e)) (hm : P.cellsOf e = m) (hm0 : 0 < m) (hr : Rd P e enc ok) :
    Rd P t (fun l : List α => .list m (l.map enc)) fun l => ∀ x ∈ l, ok x := by
  intro H en w sp held fuel cs x h
  rcases DataW.trod_slice ht h with ⟨rfl, _⟩ | ⟨a, len, cap, elems, rest, n, _, rfl, _, _, h1, h2, h3, h4, _⟩
  · refine ⟨[], by simp, RVs.one ?_, by simp [Value.oneCell']⟩
    exact .list m [] none ⟨0, 0, none⟩ 0 (fun _ _ => .int .i64 0) (by simp) (by simp) (by decide) (by simp) (by simp) (by simp) (fun _ => ⟨rfl, rfl⟩)
  · have hel : ∀ i, i < len → ∃ y : α × List Value, ok y.1 ∧ RVs (Old w) w (enc y.1).cells y.2 ∧ (∀ v ∈ y.2, v.oneCell' = true) ∧ w.cells? 0 (a.add (i * P.cellsOf e)) (P.cellsOf e) = some y.2 := by
      intro i hi
      have h5 := h4 i hi
      rw [List.getElem?_eq_getElem (by omega), Option.bind_eq_some_iff] at h5
      obtain ⟨cs', h6, h7⟩ := h5
      obtain ⟨y, k1, k2, k3⟩ := hr H en w sp held n cs' _ h7
      exact ⟨(y, cs'), k1, k2, k3, h6⟩
    obtain ⟨l, hl, hq⟩ := pick_list len hel
    subst hm
    have hcell : ∀ (i : Nat) (y : α × List Value) (j : Nat) (c : PV), l[i]? = some y → (enc y.1).cells[j]? = some c → ∃ v, y.2[j]? = some v ∧ RV (Old w) w c v ∧ v.oneCell' = true ∧ w.cell? (a.add (i * P.cellsOf e + j)) = some v := by
      intro i y j c hy hc
      obtain ⟨q1, q2, q3, q4⟩ := hq i y hy
      obtain ⟨_, q5, q6⟩ := World.cells?_some q4
      have hj : j < y.2.length := by rw [← q2.1]; exact (List.getElem?_eq_some_iff.1 hc).1
      refine ⟨y.2[j], List.getElem?_eq_getElem hj, q2.2 j c _ hc (List.getElem?_eq_getElem hj), q3 _ (List.getElem_mem hj), ?_⟩
      rw [← add_add, q6 j (by omega), List.getElem?_eq_getElem hj]
    have hget : ∀ (i : Nat) (p : PV), ((l.map (·.1)).map enc)[i]? = some p → ∃ y, l[i]? = some y ∧ p = enc y.1 := by
      intro i p hp
      rw [List.map_map, List.getElem?_map, Option.map_eq_some_iff] at hp
      obtain ⟨y, hy, rfl⟩ := hp
      exact ⟨y, hy, rfl⟩
    refine ⟨l.map (·.1), ?_, RVs.one ?_, by simp [Value.oneCell']⟩
    · intro y hy
      rw [List.mem_map] at hy
      obtain ⟨z, hz, rfl⟩ := hy
      obtain ⟨i, hi⟩ := List.getElem?_of_mem hz
      exact (hq i z hi).1
    · have hlen : ((l.map (·.1)).map enc).length = len := by simp [hl]
      rw [← hlen]
      refine .list _ _ _ a cap (fun i j => ((l[i]?.map (·.2)).getD []).getD j (.int .i64 0)) (fun _ => rfl) (by omega) h2 ?_ ?_ ?_ (fun h => absurd h (Nat.ne_of_gt hm0))
      · intro i p hp
        obtain ⟨y, hy, rfl⟩ := hget i p hp
        obtain ⟨q1, q2, q3, q4⟩ := hq i y hy
        rw [q2.1]
        exact (World.cells?_some q4).2.1
      · intro i p j c hp hc
        obtain ⟨y, hy, rfl⟩ := hget i p hp
        obtain ⟨v, v1, v2, v3, v4⟩ := hcell i y j c hy hc
        have e1 : ((l[i]?.map (·.2)).getD []).getD j (.int .i64 0) = v := by rw [hy]; simp [v1]
        rw [e1]
        refine ⟨?_, v4, v3⟩
        have := World.block_lt_of_cell? w _ v4
        simpa [Old] using this
      · intro i p j c hp hc
        obtain ⟨y, hy, rfl⟩ := hget i p hp
        obtain ⟨v, v1, v2, v3, v4⟩ := hcell i y j c hy hc
        have e1 : ((l[i]?.map (·.2)).getD []).getD j (.int .i64 0) = v := by rw [hy]; simp [v1]
        rw [e1]
        exact v2

/-- The fields lie one behind the other, and fill the struct. -/
def tight (P : Program) : Nat → List Field → Nat → Bool
  | o, [], n => decide (o = n)
  | o, f :: r, n => decide (f.offset = o) && tight P (o + P.cellsOf f.type) r n

theorem tight_pieces : ∀ {l : List Field} {o n : Nat} {cs : List Value}, tight P o l n = true → cs.length = n → ∃ ps : List (List Value), ps.length = l.length ∧ cs.drop o = ps.flatten ∧ ∀ (i : Nat) (f : Field), l[i]? = some f → ps[i]? = some ((cs.drop f.offset).take (P.cellsOf f.type))
  | [], o, n, cs, h, hl => by
    simp [tight] at h
    exact ⟨[], rfl, by rw [List.drop_eq_nil_of_le (by omega)]; rfl, by simp⟩
  | f :: r, o, n, cs, h, hl => by
    simp only [tight, Bool.and_eq_true, decide_eq_true_eq] at h
    obtain ⟨ps, h1, h2, h3⟩ := tight_pieces h.2 hl
    refine ⟨((cs.drop f.offset).take (P.cellsOf f.type)) :: ps, by simp [h1], ?_, fun i g hg => ?_⟩
    · rw [List.flatten_cons, ← h2, ← h.1, ← List.drop_drop, List.take_append_drop]
    · cases i with
      | zero => simp at hg; subst hg; rfl
      | succ i => simpa using h3 i g (by simpa using hg)

/-- A struct's fields, read one by one. -/
theorem trod_fields {fs : Array Field} (ht : P.underlying t = some (.struct fs)) (hti : tight P 0 fs.toList (P.cellsOf t) = true) {H : Type} {en : TypeId × Value → H} {w : World} {sp : Nat → Bool} {held : Bool} {fuel : Nat} {cs : List Value} {x : DataW H × List MemPlace}
    (h : DataW.trod en P w 0 sp held fuel t cs = some x) : ∃ (ps : List (List Value)) (n : Nat), ps.length = fs.toList.length ∧ cs = ps.flatten ∧ ∀ (i : Nat) (f : Field), fs.toList[i]? = some f → ∃ p y, ps[i]? = some p ∧ DataW.trod en P w 0 sp held n f.type p = some y := by
  obtain ⟨xs, n, _, _, h1, h2, h3⟩ := DataW.trod_struct ht h
  obtain ⟨ps, k1, k2, k3⟩ := tight_pieces hti h1
  refine ⟨ps, n, k1, by simpa using k2, fun i f hf => ?_⟩
  have hi : i < fs.toList.length := (List.getElem?_eq_some_iff.1 hf).1
  have hx : i < xs.length := by rw [h2]; simpa using hi
  refine ⟨_, xs[i], k3 i f hf, ?_⟩
  rw [h3 i f (by simpa using hf), List.getElem?_eq_getElem hx]

theorem rd_struct1 {α A : Type} {enc : α → PV} {ok : α → Prop} {a : A → PV} {oka : A → Prop} {f0 : Field} (ht : P.underlying t = some (.struct #[f0])) (hti : tight P 0 [f0] (P.cellsOf t) = true)
    (ra : Rd P f0.type a oka) (mk : ∀ xa, oka xa → ∃ x, ok x ∧ (enc x).cells = (a xa).cells) : Rd P t enc ok := by
  intro H en w sp held fuel cs x h
  obtain ⟨ps, n, h1, rfl, h3⟩ := trod_fields ht hti h
  match ps, h1, h3 with
  | [c0], _, h3 =>
    obtain ⟨p0, y0, e0, t0⟩ := h3 0 f0 rfl; simp at e0; subst e0
    obtain ⟨a0, o0, r0, s0⟩ := ra H en w sp held n _ _ t0
    obtain ⟨z, hz, he⟩ := mk a0 o0
    refine ⟨z, hz, ?_, ?_⟩
    · rw [he]; simpa using r0
    · simpa using s0

theorem rd_struct2 {α A B : Type} {enc : α → PV} {ok : α → Prop} {a : A → PV} {oka : A → Prop} {b : B → PV} {okb : B → Prop} {f0 f1 : Field} (ht : P.underlying t = some (.struct #[f0, f1])) (hti : tight P 0 [f0, f1] (P.cellsOf t) = true)
    (ra : Rd P f0.type a oka) (rb : Rd P f1.type b okb) (mk : ∀ xa xb, oka xa → okb xb → ∃ x, ok x ∧ (enc x).cells = (a xa).cells ++ (b xb).cells) : Rd P t enc ok := by
  intro H en w sp held fuel cs x h
  obtain ⟨ps, n, h1, rfl, h3⟩ := trod_fields ht hti h
  match ps, h1, h3 with
  | [c0, c1], _, h3 =>
    obtain ⟨p0, y0, e0, t0⟩ := h3 0 f0 rfl; simp at e0; subst e0
    obtain ⟨p1, y1, e1, t1⟩ := h3 1 f1 rfl; simp at e1; subst e1
    obtain ⟨a0, o0, r0, s0⟩ := ra H en w sp held n _ _ t0
    obtain ⟨a1, o1, r1, s1⟩ := rb H en w sp held n _ _ t1
    obtain ⟨z, hz, he⟩ := mk a0 a1 o0 o1
    refine ⟨z, hz, ?_, ?_⟩
    · rw [he]; simpa using r0.append r1
    · simp only [List.flatten_cons, List.flatten_nil, List.append_nil, List.mem_append]
      intro v hv
      rcases hv with hv | hv
      · exact s0 v hv
      · exact s1 v hv

/-- The first field, and the others. -/
def RdL {α : Type} (P : Program) (ts : List Field) (enc : α → List PV) (ok : α → Prop) : Prop :=
  ∀ (H : Type) (en : TypeId × Value → H) (w : World) (sp : Nat → Bool) (held : Bool) (n : Nat) (ps : List (List Value)), ps.length = ts.length →
    (∀ (i : Nat) (f : Field), ts[i]? = some f → ∃ p y, ps[i]? = some p ∧ DataW.trod en P w 0 sp held n f.type p = some y) →
    ∃ a, ok a ∧ RVs (Old w) w (enc a) ps.flatten ∧ ∀ v ∈ ps.flatten, v.oneCell' = true

theorem rdL_nil : RdL P [] (fun _ : Unit => []) fun _ => True := by
  intro H en w sp held n ps h1 h2
  match ps, h1 with
  | [], _ => exact ⟨(), trivial, RVs.nil, by simp⟩

theorem rdL_cons {A B : Type} {a : A → PV} {oka : A → Prop} {b : B → List PV} {okb : B → Prop} {f : Field} {r : List Field} (ra : Rd P f.type a oka) (rb : RdL P r b okb) :
    RdL P (f :: r) (fun x : A × B => (a x.1).cells ++ b x.2) fun x => oka x.1 ∧ okb x.2 := by
  intro H en w sp held n ps h1 h2
  match ps, h1 with
  | p :: ps, h1 =>
    obtain ⟨p0, y0, e0, t0⟩ := h2 0 f rfl; simp at e0; subst e0
    obtain ⟨a0, o0, r0, s0⟩ := ra H en w sp held n _ _ t0
    obtain ⟨b0, o1, r1, s1⟩ := rb H en w sp held n ps (by simpa using h1) fun i g hg => by simpa using h2 (i + 1) g (by simpa using hg)
    refine ⟨(a0, b0), ⟨o0, o1⟩, ?_, ?_⟩
    · rw [List.flatten_cons]; exact r0.append r1
    · intro v hv
      rw [List.flatten_cons, List.mem_append] at hv
      rcases hv with hv | hv
      · exact s0 v hv
      · exact s1 v hv

/-- A struct, by its fields. -/
theorem rd_struct {α B : Type} {enc : α → PV} {ok : α → Prop} {b : B → List PV} {okb : B → Prop} {fs : Array Field} (ht : P.underlying t = some (.struct fs)) (hti : tight P 0 fs.toList (P.cellsOf t) = true)
    (rb : RdL P fs.toList b okb) (mk : ∀ x, okb x → ∃ y, ok y ∧ (enc y).cells = b x) : Rd P t enc ok := by
  intro H en w sp held fuel cs x h
  obtain ⟨ps, n, h1, rfl, h3⟩ := trod_fields ht hti h
  obtain ⟨z, k1, k2, k3⟩ := rb H en w sp held n ps h1 h3
  obtain ⟨y, y1, y2⟩ := mk z k1
  exact ⟨y, y1, by rw [y2]; exact k2, k3⟩
end

/-! ### Arguments -/
section
variable {P : Program} {ts : Array TypeId} {vs : Array Value} {t : TypeId} {w : World} {r : Reach} {b0 : Nat} {v : Value} {H : Type} {en : TypeId × Value → H} {sp : Nat → Bool} {held : Bool} {d : DataW H} {ps : List MemPlace} {α : Type} {enc : α → PV} {ok : α → Prop}

theorem arg_plain (hv : v.cells.toList = [v]) (h1 : ∀ a, (enc a).cells = [enc a]) (hr : Rd P t enc ok) (h : DataW.Trod en P w 0 sp held t v d ps) : ∃ a, ok a ∧ RV (Old w) w (enc a) v := by
  obtain ⟨fuel, hf⟩ := h
  obtain ⟨a, k1, k2, _⟩ := hr H en w sp held fuel _ _ hf
  rw [hv, h1] at k2
  exact ⟨a, k1, k2.of_one⟩

theorem arg_int {k : IntKind} (ht : P.underlying t = some (.int k)) (hval : ∀ (j : Nat) t v, ts[j]? = some t → vs[j]? = some v → Value.okWide P w r b0 t v) (j : Nat) (h1t : ts[j]? = some t) (h1v : vs[j]? = some v) (h : DataW.Trod en P w 0 sp held t v d ps) : ∃ n, (Lit.int k n).wf = true ∧ RV (Old w) w (.int k n) v := by
  obtain ⟨n, rfl⟩ := WideShapes.okWide_int ht (hval j _ _ h1t h1v)
  exact arg_plain rfl (fun _ => rfl) (rd_int ht) h
theorem arg_bool (ht : P.underlying t = some .bool) (hval : ∀ (j : Nat) t v, ts[j]? = some t → vs[j]? = some v → Value.okWide P w r b0 t v) (j : Nat) (h1t : ts[j]? = some t) (h1v : vs[j]? = some v) (h : DataW.Trod en P w 0 sp held t v d ps) : ∃ b, RV (Old w) w (.bool b) v := by
  obtain ⟨n, rfl⟩ := WideShapes.okWide_bool ht (hval j _ _ h1t h1v)
  obtain ⟨b, _, hb⟩ := arg_plain rfl (fun _ => rfl) (rd_bool ht) h
  exact ⟨b, hb⟩
theorem arg_str (ht : P.underlying t = some .string) (hval : ∀ (j : Nat) t v, ts[j]? = some t → vs[j]? = some v → Value.okWide P w r b0 t v) (j : Nat) (h1t : ts[j]? = some t) (h1v : vs[j]? = some v) (h : DataW.Trod en P w 0 sp held t v d ps) : ∃ s : ByteArray, s.size ≤ maxLen ∧ RV (Old w) w (.str s) v := by
  obtain ⟨n, rfl⟩ := WideShapes.okWide_string ht (hval j _ _ h1t h1v)
  exact arg_plain rfl (fun _ => rfl) (rd_str ht) h
theorem arg_slice {e : TypeId} (ht : P.underlying t = some (.slice e)) (hval : ∀ (j : Nat) t v, ts[j]? = some t → vs[j]? = some v → Value.okWide P w r b0 t v) (j : Nat) (h1t : ts[j]? = some t) (h1v : vs[j]? = some v) (hr : Rd P t enc ok) (h1 : ∀ a, (enc a).cells = [enc a]) (h : DataW.Trod en P w 0 sp held t v d ps) : ∃ a, ok a ∧ RV (Old w) w (enc a) v := by
  obtain ⟨a, len, cap, rfl⟩ := WideShapes.okWide_slice ht (hval j _ _ h1t h1v)
  exact arg_plain rfl h1 hr h
theorem arg_struct {fs : Array Field} (ht : P.underlying t = some (.struct fs)) (hval : ∀ (j : Nat) t v, ts[j]? = some t → vs[j]? = some v → Value.okWide P w r b0 t v) (j : Nat) (h1t : ts[j]? = some t) (h1v : vs[j]? = some v) (hr : Rd P t enc ok) (h1 : ∀ a, enc a = .agg (enc a).cells) (h : DataW.Trod en P w 0 sp held t v d ps) : ∃ a, ok a ∧ RV (Old w) w (enc a) v := by
  obtain ⟨cs, rfl, _⟩ := WideShapes.okWide_struct ht (hval j _ _ h1t h1v)
  obtain ⟨fuel, hf⟩ := h
  obtain ⟨a, k1, k2, _⟩ := hr H en w sp held fuel _ _ hf
  refine ⟨a, k1, ?_⟩
  rw [h1]
  exact .agg _ cs.toList k2.1 k2.2
end
end Go.Abs

namespace Go.Abs
open Go.RowKit Go.Proofs

def okI (n : Int) : Prop := (Lit.int .i64 n).wf = true
def okIs (l : List Int) : Prop := ∀ x ∈ l, okI x
def okS (s : ByteArray) : Prop := s.size ≤ maxLen
def okSs (l : List ByteArray) : Prop := ∀ x ∈ l, okS x
def okSpan (s : Span) : Prop := okI s.From ∧ okI s.To ∧ True
def okSector (s : Sector) : Prop := okS s.Name ∧ okSs s.Names ∧ okIs s.Volumes ∧ okI s.Radar ∧ okI s.Procedural ∧ True
def okConfig (s : Config) : Prop := okS s.Name ∧ okSs s.Names ∧ okIs s.Sectors ∧ True
def okLeg (s : Leg) : Prop := okI s.Segment ∧ okI s.Volume ∧ okI s.Length ∧ (∀ x ∈ s.Minutes, okSpan x) ∧ True
def okWay (s : Way) : Prop := okI s.From ∧ okI s.To ∧ (∀ x ∈ s.Legs, okLeg x) ∧ True
def okKind (s : Kind) : Prop := okI s.Slow ∧ okI s.Fast ∧ okI s.Places ∧ okI s.Weight ∧ okI s.Longest ∧ (∀ x ∈ s.Curfews, ∀ y ∈ x, okSpan y) ∧ True
def okTables (t : Tables) : Prop := okI t.Volumes ∧ (∀ x ∈ t.Sectors, okSector x) ∧ (∀ x ∈ t.Configs, okConfig x) ∧ (∀ x ∈ t.Ways, okWay x) ∧ (∀ x ∈ t.Modes, okIs x) ∧ (∀ x ∈ t.Kinds, okKind x) ∧ True
def okStation (s : Station) : Prop := okIs s.Volumes ∧ okI s.Shift ∧ okI s.Faults ∧ True
def okReport (s : Report) : Prop := okI s.Station ∧ okI s.No ∧ okI s.Minute ∧ okI s.Arrived ∧ okS s.Call ∧ okI s.Volume ∧ True
def okPath (s : Path) : Prop := okI s.Way ∧ okIs s.Times ∧ True

theorem rdInt : Rd Tryz.prog 3 encInt okI := rd_int Tryz.underlying3
theorem rdStr : Rd Tryz.prog 9 encStr okS := rd_str Tryz.underlying9
theorem rdInts : Rd Tryz.prog 29 encIntL okIs := rd_slice Tryz.underlying29 (by kernel_rfl) (by decide) rdInt
theorem rdIntLs : Rd Tryz.prog 25 (fun l => .list 1 (encIntLs l)) fun l => ∀ x ∈ l, okIs x := rd_slice Tryz.underlying25 (by kernel_rfl) (by decide) rdInts
theorem rdStrs : Rd Tryz.prog 208 (fun l => .list 1 (encStrs l)) okSs := rd_slice Tryz.underlying208 (by kernel_rfl) (by decide) rdStr
theorem rdSpan : Rd Tryz.prog 31 encSpan okSpan :=
  rd_struct Tryz.underlying31 (by kernel_rfl) (rdL_cons rdInt (rdL_cons rdInt rdL_nil)) fun ⟨a, b, ()⟩ h => ⟨⟨a, b⟩, h, rfl⟩
theorem rdSpans : Rd Tryz.prog 58 encSpanL fun l => ∀ x ∈ l, okSpan x := rd_slice Tryz.underlying58 (by kernel_rfl) (by decide) rdSpan
theorem rdSpanLs : Rd Tryz.prog 91 (fun l => .list 1 (encSpanLs l)) fun l => ∀ x ∈ l, ∀ y ∈ x, okSpan y := rd_slice Tryz.underlying91 (by kernel_rfl) (by decide) rdSpans
theorem rdSector : Rd Tryz.prog 210 encSector okSector :=
  rd_struct Tryz.underlying210 (by kernel_rfl) (rdL_cons rdStr (rdL_cons rdStrs (rdL_cons rdInts (rdL_cons rdInt (rdL_cons rdInt rdL_nil))))) fun ⟨a, b, c, d, e, ()⟩ h => ⟨⟨a, b, c, d, e⟩, h, rfl⟩
theorem rdSectors : Rd Tryz.prog 22 (fun l => .list 5 (encSectors l)) fun l => ∀ x ∈ l, okSector x := rd_slice Tryz.underlying22 (by kernel_rfl) (by decide) rdSector
theorem rdConfig : Rd Tryz.prog 212 encConfig okConfig :=
  rd_struct Tryz.underlying212 (by kernel_rfl) (rdL_cons rdStr (rdL_cons rdStrs (rdL_cons rdInts rdL_nil))) fun ⟨a, b, c, ()⟩ h => ⟨⟨a, b, c⟩, h, rfl⟩
theorem rdConfigs : Rd Tryz.prog 23 (fun l => .list 3 (encConfigs l)) fun l => ∀ x ∈ l, okConfig x := rd_slice Tryz.underlying23 (by kernel_rfl) (by decide) rdConfig
theorem rdLeg : Rd Tryz.prog 60 encLeg okLeg :=
  rd_struct Tryz.underlying60 (by kernel_rfl) (rdL_cons rdInt (rdL_cons rdInt (rdL_cons rdInt (rdL_cons rdSpans rdL_nil)))) fun ⟨a, b, c, d, ()⟩ h => ⟨⟨a, b, c, d⟩, h, rfl⟩
theorem rdLegs : Rd Tryz.prog 53 (fun l => .list 4 (encLegs l)) fun l => ∀ x ∈ l, okLeg x := rd_slice Tryz.underlying53 (by kernel_rfl) (by decide) rdLeg
theorem rdWay : Rd Tryz.prog 55 encWay okWay :=
  rd_struct Tryz.underlying55 (by kernel_rfl) (rdL_cons rdInt (rdL_cons rdInt (rdL_cons rdLegs rdL_nil))) fun ⟨a, b, c, ()⟩ h => ⟨⟨a, b, c⟩, h, rfl⟩
theorem rdWays : Rd Tryz.prog 24 (fun l => .list 3 (encWays l)) fun l => ∀ x ∈ l, okWay x := rd_slice Tryz.underlying24 (by kernel_rfl) (by decide) rdWay
theorem rdKind : Rd Tryz.prog 93 encKind okKind :=
  rd_struct Tryz.underlying93 (by kernel_rfl) (rdL_cons rdInt (rdL_cons rdInt (rdL_cons rdInt (rdL_cons rdInt (rdL_cons rdInt (rdL_cons rdSpanLs rdL_nil)))))) fun ⟨a, b, c, d, e, f, ()⟩ h => ⟨⟨a, b, c, d, e, f⟩, h, rfl⟩
theorem rdKinds : Rd Tryz.prog 26 (fun l => .list 6 (encKinds l)) fun l => ∀ x ∈ l, okKind x := rd_slice Tryz.underlying26 (by kernel_rfl) (by decide) rdKind
theorem rdTables : Rd Tryz.prog 28 encTables okTables :=
  rd_struct Tryz.underlying28 (by kernel_rfl) (rdL_cons rdInt (rdL_cons rdSectors (rdL_cons rdConfigs (rdL_cons rdWays (rdL_cons rdIntLs (rdL_cons rdKinds rdL_nil)))))) fun ⟨a, b, c, d, e, f, ()⟩ h => ⟨⟨a, b, c, d, e, f⟩, h, rfl⟩
end Go.Abs

namespace Go.Abs
open Go.RowKit Go.ChangeShapes

section
variable {H : Type} {enc : TypeId × Value → H} {P : Program} {W W' : World}

theorem trodAll_below (hl : laidOutB P = true) (hb : Below W.heap.size W W') {sp : Nat → Bool} : ∀ {ts : List TypeId} {vs : List Value} {ds : List (DataW H)} {ps : List MemPlace}, (∀ t ∈ ts, P.readableRec t = true ∧ t < P.types.size) →
    DataW.TrodAll enc P W 0 (fun _ => true) true ts vs ds ps → (∀ x ∈ ps, x.block < W.heap.size) → (∀ x ∈ ps, sp x.block = true) → DataW.TrodAll enc P W' 0 sp true ts vs ds ps
  | [], _, _, _, _, h, _, _ => by
    obtain ⟨rfl, rfl, rfl⟩ := trodAll_nil h
    exact trodAll_mk0
  | t :: ts, _, _, _, ht, h, hlt, hs => by
    obtain ⟨v, vs, d, ds, p, q, rfl, rfl, rfl, h1, h2⟩ := trodAll_cons h
    have k := ht t (by simp)
    exact trodAll_cons_mk (WideElems.Trod_stays hl k.1 k.2 h1 (fun x hx => hb.same (hlt x (by simp [hx]))) fun x hx => hs x (by simp [hx]))
      (trodAll_below hl hb (fun t' h' => ht t' (by simp [h'])) h2 (fun x hx => hlt x (by simp [hx])) fun x hx => hs x (by simp [hx]))

theorem trodAll_len {sp : Nat → Bool} {held : Bool} {b : Nat} : ∀ {ts : List TypeId} {vs : List Value} {ds : List (DataW H)} {ps : List MemPlace}, DataW.TrodAll enc P W b sp held ts vs ds ps → ds.length = ts.length
  | [], _, _, _, h => by obtain ⟨_, rfl, _⟩ := trodAll_nil h; rfl
  | _ :: _, _, _, _, h => by
    obtain ⟨v, vs, d, ds, p, q, rfl, rfl, rfl, h1, h2⟩ := trodAll_cons h
    simp [trodAll_len h2]

/-- The law's call answers true, and its arguments read as they did. -/
theorem law_contract {f : FuncId} {fn : Func} {s : ChangeSpec} {tb : TypeId} (hl : laidOutB P = true) (hpar : ∀ t ∈ fn.params.toList, P.readableRec t = true ∧ t < P.types.size) (hvars : s.vars = [])
    (hfn : ∀ ds : List (DataW H), ds.length = fn.params.toList.length → s.fn H ds = { results := [.lit (.bool true)], args := ds }) (hres : fn.resultTypes = #[tb]) (htb : P.underlying tb = some .bool)
    {args : Array Value} {ds gs : List (DataW H)} {before : List MemPlace} (hW : DataW.Whole enc P fn.params.toList s.vars false W args.toList ds gs before)
    {ps : List PV} (hc : CallsPV P f ps (.bool true)) (hr : RVs (Old W) W ps args.toList) :
    Calls P f args W fun e W' => ∃ v, e = .returned v ∧ s.post enc P fn false true false false W args v W' := by
  have hcalls := hc.2 (Old W) W args.toList (fun _ h => h) hr
  rw [Array.toArray_toList] at hcalls
  refine hcalls.mono fun e W1 h => ?_
  obtain ⟨v, rfl, hb, hv⟩ := h
  cases hv
  refine ⟨_, rfl, ?_⟩
  have hlt : ∀ x ∈ before, x.block < W.heap.size := fun x hx => hW.lt x hx
  have hW0 := hW
  obtain ⟨p, q, hA, hV, rfl, hz, _⟩ := hW
  rw [hvars] at hV
  obtain ⟨rfl, rfl⟩ := trodVars_none hV
  have hf : s.fn H (ds ++ []) = { results := [.lit (.bool true)], args := ds } := by rw [List.append_nil]; exact hfn ds (trodAll_len hA)
  have hargs : ∀ sp : Nat → Bool, (∀ x ∈ p ++ [], sp x.block = true) → DataW.TrodAll enc P W1 0 sp true fn.params.toList args.toList ds p := fun sp hs =>
    trodAll_below hl hb hpar hA (fun x hx => hlt x (by simp [hx])) fun x hx => hs x (by simp [hx])
  have hresT : ∀ (b : Nat) (sp : Nat → Bool) (hd : Bool), DataW.TrodAll enc P W1 b sp hd fn.resultTypes.toList ((Value.bool true).resultList fn.resultTypes.size) [.lit (.bool true)] [] := fun b sp hd => by
    rw [hres]
    exact trodAll_cons_mk (shut_bool htb _) trodAll_mk0
  have hva : ∀ sp : Nat → Bool, DataW.TrodVars enc P W1 sp s.vars [] [] := fun sp => by rw [hvars]; rfl
  have hold : ∀ x ∈ p ++ [], (fun b => decide (b < W.heap.size)) x.block = true := fun x hx => by simpa using hlt x hx
  refine ⟨ds, [], p ++ [], [], p, [], hW0, ?_, ?_, ?_, World.keptBut_mono (fun x hx => ⟨hx, .inr (by simpa using hx)⟩) (hb.frame (· ∈ p ++ [])), fun _ => ?_⟩
  · rw [hf]; exact hresT _ _ _
  · rw [hf]; exact hargs _ hold
  · rw [hf]; exact hva _
  · refine ⟨ok_one hres rfl (okWide_bool_mk htb _), _, _, ([] ++ p) ++ [], ⟨[] ++ p, [], trodAll_append (hargs _ fun _ _ => rfl) (hresT _ _ _), hva _, rfl, ?_, ?_⟩, ?_⟩
    · intro b off hp
      have hin : MemPlace.cell b off ∈ p ++ [] := by simpa using hp
      rw [hb.kit.frozen (hlt _ hin)]
      exact hz b off hin
    · intro h; cases h
    · intro x hx _
      simpa using hx
end
end Go.Abs

namespace Go.Abs
open Go.RowKit Go.Proofs

theorem rdStation : Rd Tryz.prog 125 encStation okStation :=
  rd_struct Tryz.underlying125 (by kernel_rfl) (rdL_cons rdInts (rdL_cons rdInt (rdL_cons rdInt rdL_nil))) fun ⟨a, b, c, ()⟩ h => ⟨⟨a, b, c⟩, h, rfl⟩
theorem rdStations : Rd Tryz.prog 126 (fun l => .list 3 (encStations l)) fun l => ∀ x ∈ l, okStation x := rd_slice Tryz.underlying126 (by kernel_rfl) (by decide) rdStation
theorem rdReport : Rd Tryz.prog 62 encReport okReport :=
  rd_struct Tryz.underlying62 (by kernel_rfl) (rdL_cons rdInt (rdL_cons rdInt (rdL_cons rdInt (rdL_cons rdInt (rdL_cons rdStr (rdL_cons rdInt rdL_nil)))))) fun ⟨a, b, c, d, e, f, ()⟩ h => ⟨⟨a, b, c, d, e, f⟩, h, rfl⟩
theorem rdReports : Rd Tryz.prog 122 (fun l => .list 6 (encReports l)) fun l => ∀ x ∈ l, okReport x := rd_slice Tryz.underlying122 (by kernel_rfl) (by decide) rdReport
theorem rdPath : Rd Tryz.prog 49 encPath okPath :=
  rd_struct Tryz.underlying49 (by kernel_rfl) (rdL_cons rdInt (rdL_cons rdInts rdL_nil)) fun ⟨a, b, ()⟩ h => ⟨⟨a, b⟩, h, rfl⟩
theorem rdPaths : Rd Tryz.prog 45 (fun l => .list 2 (encPaths l)) fun l => ∀ x ∈ l, okPath x := rd_slice Tryz.underlying45 (by kernel_rfl) (by decide) rdPath
end Go.Abs

namespace Go.Abs
open Go.RowKit Go.Proofs

def encBool (b : Bool) : PV := .bool b
def okFlight (f : Flight) : Prop := okI f.ID ∧ okI f.Airline ∧ okI f.Class ∧ okS f.Call ∧ okIs f.Ways ∧ okSpan f.Window ∧ True ∧ True
def okOpt (o : Opt) : Prop := okI o.Delay ∧ okI o.Way ∧ okI o.Hold ∧ True ∧ True
theorem rdBool : Rd Tryz.prog 4 encBool fun _ => True := rd_bool Tryz.underlying4
theorem rdFlight : Rd Tryz.prog 33 encFlight okFlight :=
  rd_struct Tryz.underlying33 (by kernel_rfl) (rdL_cons rdInt (rdL_cons rdInt (rdL_cons rdInt (rdL_cons rdStr (rdL_cons rdInts (rdL_cons rdSpan (rdL_cons rdBool rdL_nil))))))) fun ⟨a, b, c, d, e, f, g, ()⟩ h => ⟨⟨a, b, c, d, e, f, g⟩, h, rfl⟩
theorem rdOpt : Rd Tryz.prog 35 encOpt okOpt :=
  rd_struct Tryz.underlying35 (by kernel_rfl) (rdL_cons rdInt (rdL_cons rdInt (rdL_cons rdInt (rdL_cons rdBool rdL_nil)))) fun ⟨a, b, c, d, ()⟩ h => ⟨⟨a, b, c, d⟩, h, rfl⟩
theorem rdOpts : Rd Tryz.prog 75 (fun l => .list 4 (encOpts l)) fun l => ∀ x ∈ l, okOpt x := rd_slice Tryz.underlying75 (by kernel_rfl) (by decide) rdOpt
end Go.Abs
