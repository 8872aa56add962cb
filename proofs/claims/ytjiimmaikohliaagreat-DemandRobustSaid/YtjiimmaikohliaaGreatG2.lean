/-
  Readers of arguments: changes, schemes, cells, uses.
-/
import Derived.Test.YtjiimmaikohliaaGreatG1
import Derived.Test.YtjiimmaikohliaaGreatD2
set_option linter.unusedVariables false
set_option linter.unusedSimpArgs false
namespace Go.Abs
open Go.RowKit Go.Proofs Go.ChangeShapes

def okChange (c : Change) : Prop := okI c.From ∧ okI c.Config ∧ okIs c.Modes ∧ True
theorem rdChange : Rd Tryz.prog 76 encChange okChange :=
  rd_struct Tryz.underlying76 (by kernel_rfl) (rdL_cons rdInt (rdL_cons rdInt (rdL_cons rdInts rdL_nil))) fun ⟨a, b, c, ()⟩ h => ⟨⟨a, b, c⟩, h, rfl⟩
theorem rdChanges : Rd Tryz.prog 29 (fun l => .list 3 (encChanges l)) fun l => ∀ x ∈ l, okChange x := rd_slice Tryz.underlying29 (by kernel_rfl) (by decide) rdChange
def okScheme (s : List Change) : Prop := (∀ x ∈ s, okChange x) ∧ True
theorem rdScheme : Rd Tryz.prog 31 encScheme okScheme :=
  rd_struct Tryz.underlying31 (by kernel_rfl) (rdL_cons rdChanges rdL_nil) fun ⟨a, ()⟩ h => ⟨a, h, rfl⟩
def okCell (c : Cell) : Prop := True ∧ okI c.Index ∧ okI c.Minute ∧ True
theorem rdCell : Rd Tryz.prog 43 encCell okCell :=
  rd_struct Tryz.underlying43 (by kernel_rfl) (rdL_cons rdBool (rdL_cons rdInt (rdL_cons rdInt rdL_nil))) fun ⟨a, b, c, ()⟩ h => ⟨⟨a, b, c⟩, h, rfl⟩
def okUse (u : Use) : Prop := okCell u.Cell ∧ okI u.Places ∧ True
theorem rdUse : Rd Tryz.prog 55 encUse okUse :=
  rd_struct Tryz.underlying55 (by kernel_rfl) (rdL_cons rdCell (rdL_cons rdInt rdL_nil)) fun ⟨a, b, ()⟩ h => ⟨⟨a, b⟩, h, rfl⟩
theorem rdUses : Rd Tryz.prog 35 (fun l => .list 4 (encUses l)) fun l => ∀ x ∈ l, okUse x := rd_slice Tryz.underlying35 (by kernel_rfl) (by decide) rdUse
theorem rdUseLs : Rd Tryz.prog 41 (fun l => .list 1 (encUseLs l)) fun l => ∀ x ∈ l, ∀ y ∈ x, okUse y := rd_slice Tryz.underlying41 (by kernel_rfl) (by decide) rdUses

/-! ### Readers that know how large a slice is -/
/-- .. where nothing that is read is too large. -/
def RdW {α : Type} (P : Program) (t : TypeId) (enc : α → PV) (ok : α → Prop) : Prop :=
  ∀ (H : Type) (en : TypeId × Value → H) (w : World) (sp : Nat → Bool) (held : Bool) (fuel : Nat) (cs : List Value) (x : DataW H × List MemPlace),
    DataW.trod en P w 0 sp held fuel t cs = some x → (∀ n ∈ x.1.weights P t, n ≤ reachBytes) → ∃ a, ok a ∧ RVs (Old w) w (enc a).cells cs ∧ ∀ v ∈ cs, v.oneCell' = true
theorem rdW_of {α : Type} {P : Program} {t : TypeId} {enc : α → PV} {ok : α → Prop} (h : Rd P t enc ok) : RdW P t enc ok := fun H en w sp held fuel cs x hx _ => h H en w sp held fuel cs x hx
theorem weightsAll_mem {H : Type} {P : Program} {e : TypeId} {d : DataW H} {m : Nat} : ∀ {l : List (DataW H)}, d ∈ l → m ∈ d.weights P e → m ∈ DataW.weightsAll P e l
  | x :: r, h, hm => by
    simp only [DataW.weightsAll, List.mem_append]
    rcases List.mem_cons.1 h with rfl | h
    · exact .inl hm
    · exact .inr (weightsAll_mem h hm)
section
variable {P : Program} {t e : TypeId}
theorem rdW_slice {α : Type} {enc : α → PV} {ok : α → Prop} {m : Nat} (ht : P.underlying t = some (.slice e)) (hm : P.cellsOf e = m) (hm0 : 0 < m) (hr : RdW P e enc ok) :
    RdW P t (fun l : List α => .list m (l.map enc)) fun l => (∀ x ∈ l, ok x) ∧ l.length * P.bytesOf e ≤ reachBytes := by
  intro H en w sp held fuel cs x h hwt
  rcases DataW.trod_slice ht h with ⟨rfl, _⟩ | ⟨a, len, cap, elems, rest, n, _, rfl, hx, _, h1, h2, h3, h4, _⟩
  · refine ⟨[], ⟨by simp, by simp⟩, RVs.one ?_, by simp [Value.oneCell']⟩
    exact .list m [] none ⟨0, 0, none⟩ 0 (fun _ _ => .int .i64 0) (by simp) (by simp) (by decide) (by simp) (by simp) (by simp)
  · have hws : x.1.weights P t = (elems.length + rest.length) * P.bytesOf e :: (DataW.weightsAll P e (elems.map (·.1)) ++ DataW.weightsAll P e (rest.map (·.1))) := by
      rw [hx]
      simp only [DataW.weights, ht, List.length_map]
    have hw0 : len * P.bytesOf e ≤ reachBytes := by
      have h1 := hwt _ (by rw [hws]; exact List.mem_cons_self)
      refine Nat.le_trans (Nat.mul_le_mul_right _ ?_) h1
      omega
    have hel : ∀ i, i < len → ∃ y : α × List Value, ok y.1 ∧ RVs (Old w) w (enc y.1).cells y.2 ∧ (∀ v ∈ y.2, v.oneCell' = true) ∧ w.cells? 0 (a.add (i * P.cellsOf e)) (P.cellsOf e) = some y.2 := by
      intro i hi
      have h5 := h4 i hi
      rw [List.getElem?_eq_getElem (by omega), Option.bind_eq_some_iff] at h5
      obtain ⟨cs', h6, h7⟩ := h5
      obtain ⟨y, k1, k2, k3⟩ := hr H en w sp held n cs' _ h7 (fun m hm => hwt m (by
        rw [hws]
        refine List.mem_cons_of_mem _ (List.mem_append_left _ (weightsAll_mem (List.mem_map_of_mem (List.getElem_mem (by omega))) hm))))
      exact ⟨(y, cs'), k1, k2, k3, h6⟩
    obtain ⟨l, hl, hq⟩ := pick_list len hel
    subst hm
    have hcell : ∀ (i : Nat) (y : α × List Value) (j : Nat) (c : PV), l[i]? = some y → (enc y.1).cells[j]? = some c → ∃ v, y.2[j]? = some v ∧ RV (Old w) w c v ∧ v.oneCell' = true ∧ w.cell? (a.add (i * P.cellsOf e + j)) = some v := by
      intro i y j c hy hc
      obtain ⟨q1, q2, q3, q4⟩ := hq i y hy
      obtain ⟨_, q5, q6⟩ := World.cells?_some q4
      have hj : j < y.2.length := by rw [← q2.1]; exact (List.getElem?_eq_some_iff.1 hc).1
      refine ⟨y.2[j], List.getElem?_eq_getElem hj, q2.2 j c _ hc (List.getElem?_eq_getElem hj), q3 _ (List.getElem_mem hj), ?_⟩
      rw [← add_add, q6 j (by omega), List.getElem?_eq_getElem hj]
    have hget : ∀ (i : Nat) (p : PV), ((l.map (·.1)).map enc)[i]? = some p → ∃ y, l[i]? = some y ∧ p = enc y.1 := by
      intro i p hp
      rw [List.map_map, List.getElem?_map, Option.map_eq_some_iff] at hp
      obtain ⟨y, hy, rfl⟩ := hp
      exact ⟨y, hy, rfl⟩
    refine ⟨l.map (·.1), ⟨?_, by rw [List.length_map, hl]; exact hw0⟩, RVs.one ?_, by simp [Value.oneCell']⟩
    · intro y hy
      rw [List.mem_map] at hy
      obtain ⟨z, hz, rfl⟩ := hy
      obtain ⟨i, hi⟩ := List.getElem?_of_mem hz
      exact (hq i z hi).1
    · have hlen : ((l.map (·.1)).map enc).length = len := by simp [hl]
      rw [← hlen]
      refine .list _ _ _ a cap (fun i j => ((l[i]?.map (·.2)).getD []).getD j (.int .i64 0)) (fun _ => rfl) (by omega) h2 ?_ ?_ ?_
      · intro i p hp
        obtain ⟨y, hy, rfl⟩ := hget i p hp
        obtain ⟨q1, q2, q3, q4⟩ := hq i y hy
        rw [q2.1]
        exact (World.cells?_some q4).2.1
      · intro i p j c hp hc
        obtain ⟨y, hy, rfl⟩ := hget i p hp
        obtain ⟨v, v1, v2, v3, v4⟩ := hcell i y j c hy hc
        have e1 : ((l[i]?.map (·.2)).getD []).getD j (.int .i64 0) = v := by rw [hy]; simp [v1]
        rw [e1]
        refine ⟨?_, v4, v3⟩
        have := World.block_lt_of_cell? w _ v4
        simpa [Old] using this
      · intro i p j c hp hc
        obtain ⟨y, hy, rfl⟩ := hget i p hp
        obtain ⟨v, v1, v2, v3, v4⟩ := hcell i y j c hy hc
        have e1 : ((l[i]?.map (·.2)).getD []).getD j (.int .i64 0) = v := by rw [hy]; simp [v1]
        rw [e1]
        exact v2


theorem arg_sliceW {ts : Array TypeId} {vs : Array Value} {w : World} {r : Reach} {b0 : Nat} {v : Value} {H : Type} {en : TypeId × Value → H} {sp : Nat → Bool} {held : Bool} {d : DataW H} {ps : List MemPlace} {α : Type} {enc : α → PV} {ok : α → Prop} (ht : P.underlying t = some (.slice e)) (hval : ∀ (j : Nat) t v, ts[j]? = some t → vs[j]? = some v → Value.okWide P w r b0 t v) (j : Nat) (h1t : ts[j]? = some t) (h1v : vs[j]? = some v) (hr : RdW P t enc ok) (h1 : ∀ a, (enc a).cells = [enc a]) (h : DataW.Trod en P w 0 sp held t v d ps) (hwt : ∀ n ∈ d.weights P t, n ≤ reachBytes) : ∃ a, ok a ∧ RV (Old w) w (enc a) v := by
  obtain ⟨a, len, cap, rfl⟩ := WideShapes.okWide_slice ht (hval j _ _ h1t h1v)
  obtain ⟨fuel, hf⟩ := h
  obtain ⟨a, k1, k2, _⟩ := hr H en w sp held fuel _ _ hf hwt
  rw [show (Value.slice _ len cap).cells.toList = [Value.slice _ len cap] from rfl, h1] at k2
  exact ⟨a, k1, k2.of_one⟩
end
theorem rdUseLsW : RdW Tryz.prog 41 (fun l => .list 1 (encUseLs l)) fun l => (∀ x ∈ l, (∀ y ∈ x, okUse y) ∧ x.length * Program.bytesOf Tryz.prog 55 ≤ reachBytes) ∧ l.length * Program.bytesOf Tryz.prog 35 ≤ reachBytes :=
  rdW_slice Tryz.underlying41 (by kernel_rfl) (by decide) (rdW_slice Tryz.underlying35 (by kernel_rfl) (by decide) (rdW_of rdUse))
end Go.Abs
