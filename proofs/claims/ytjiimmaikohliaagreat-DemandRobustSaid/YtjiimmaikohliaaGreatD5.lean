/-
  Rows of structs that the library sorts by a function: slices.SortFunc told in trees.
-/
import Derived.Test.YtjiimmaikohliaaGreatD1
import Derived.Shelf.SlSortCmp.NoneTotal
set_option linter.unusedVariables false
set_option linter.unusedSimpArgs false
namespace Go.Abs
open Go.RowKit Go.Proofs Go.Sort Go.Lib

theorem Below.grown_ {w w' : World} (h : Below w.heap.size w w') : ∃ q os', w' = grow (w.drewN q) os' := by
  refine ⟨w'.drawn - w.drawn, w'.heap.extract w.heap.size w'.heap.size, ?_⟩
  obtain ⟨h1, h2, h3, h4, h5, h6⟩ := h
  have hh : w'.heap = w.heap ++ w'.heap.extract w.heap.size w'.heap.size := by
    apply Array.ext_getElem?
    intro i
    by_cases hi : i < w.heap.size
    · rw [h5 i hi, Array.getElem?_append_left hi]
    · rw [Array.getElem?_append_right (by omega), Array.getElem?_extract]
      by_cases hj : i < w'.heap.size
      · rw [if_pos (by simp; omega)]; congr 1; omega
      · rw [if_neg (by simp; omega)]; exact Array.getElem?_eq_none (by omega)
  cases w
  cases w'
  simp only [grow, World.drewN] at *
  simp only [World.mk.injEq]
  refine ⟨hh, h2, by omega, h1, h3⟩

/-- The cells of a value that are told by their values alone. -/
theorem rv_toVal1 {S : Addr → Prop} {w : World} {p : PV} {v : Value} (h : p.flat1 = true) (hv : RV S w p v) : v = p.toVal1 := by
  cases p <;> simp [PV.flat1] at h <;> cases hv <;> rfl
theorem toVal1_rv {S : Addr → Prop} {w : World} {p : PV} (h : p.flat1 = true) : RV S w p p.toVal1 := by
  cases p <;> simp [PV.flat1] at h
  · exact .int _ _
  · exact .bool _
  · exact .str _
theorem toVal1_one {p : PV} (h : p.flat1 = true) : p.toVal1.oneCell' = true := by
  cases p <;> simp [PV.flat1] at h <;> rfl

/-- The cells of a list of structs. -/
def valsK {α : Type} (pv : α → List PV) (x : α) : List Value := (pv x).map PV.toVal1

theorem get_flat {α : Type} (f : α → List Value) (k : Nat) (hk : ∀ x, (f x).length = k) (h0 : 0 < k) : ∀ (l : List α) (t : Nat), (l.flatMap f)[t]? = (l[t / k]?).bind fun x => (f x)[t % k]?
  | [], t => by simp
  | x :: l, t => by
    rw [List.flatMap_cons]
    by_cases h : t < k
    · rw [List.getElem?_append_left (by rw [hk]; exact h), Nat.div_eq_of_lt h, Nat.mod_eq_of_lt h]; rfl
    · rw [List.getElem?_append_right (by rw [hk]; omega), hk, get_flat f k hk h0 l (t - k)]
      have h1 : t / k = (t - k) / k + 1 := by rw [Nat.div_eq_sub_div h0 (by omega)]
      have h2 : t % k = (t - k) % k := by rw [Nat.mod_eq_sub_mod (by omega)]
      rw [h1, h2]; rfl

theorem flatK_list {α : Type} [Inhabited α] (f : α → List Value) (k : Nat) (hk : ∀ x, (f x).length = k) (h0 : 0 < k) (l : List α) : Go.Sort.flatK f k l.toArray = (l.flatMap f).toArray := by
  have hl : (l.flatMap f).length = l.length * k := by
    induction l with
    | nil => simp
    | cons x l ih => rw [List.flatMap_cons, List.length_append, ih, hk, List.length_cons, Nat.add_mul, Nat.one_mul, Nat.add_comm]
  apply Array.ext_getElem?
  intro t
  by_cases ht : t < l.length * k
  · have hd : t / k < l.length := Nat.div_lt_of_lt_mul (by rw [Nat.mul_comm]; exact ht)
    have hm : t % k < k := Nat.mod_lt _ h0
    rw [show ((l.flatMap f).toArray)[t]? = (l.flatMap f)[t]? from by simp, get_flat f k hk h0, List.getElem?_eq_getElem hd]
    rw [Array.getElem?_eq_getElem (by simpa using ht)]
    show some _ = (f l[t / k])[t % k]?
    rw [List.getElem?_eq_getElem (by rw [hk]; exact hm)]
    congr 1
    have := get_flatK f k l.toArray t (by simpa using ht)
    rw [getElem!_pos _ t (by simpa using ht)] at this
    rw [this]
    simp [hd, hm, hk]
  · rw [Array.getElem?_eq_none (by simp; omega), show ((l.flatMap f).toArray)[t]? = (l.flatMap f)[t]? from by simp, List.getElem?_eq_none (by omega)]

section
variable {E : Env}

/-- A function of the library's that turns a row of structs in place, by a function. -/
theorem callsR_rowK {α : Type} [Inhabited α] (pv : α → List PV) (k : Nat) (hk : ∀ x, (pv x).length = k) (h0 : 0 < k) (hfl : ∀ x, ∀ p ∈ pv x, p.flat1 = true) {f g : FuncId} (he : Enters E.P f) {bx : List (Option (List SV))} {tk : List (Nat × TypeId)} {ax : Ax} {id n cap : Nat} {zs d : List α} {rest : List SV}
    (hc : bx[id]? = some (some ((zs.flatMap pv).map SV.val ++ rest))) (hd : d.length = zs.length)
    (h : ∀ (w : World) (b : Nat), HoldsK (valsK pv) k w b 0 zs.toArray → b < w.heap.size → n ≤ cap → cap ≤ maxLen →
      Calls E.P f #[.slice (some ⟨b, 0, none⟩) n cap, .func (.func g) #[] #[]] w fun e w' => e = .returned (.tuple #[]) ∧ ∃ q os, w' = sortWorldK (valsK pv) k w b 0 q d.toArray os) :
    CallsR E f [.row id 0 k n cap, .val (.fn g [])] bx tk ax fun r bx' tk' ax' => r = .val (.tup []) ∧ bx' = bx.set id (some ((d.flatMap pv).map SV.val ++ rest)) ∧ tk' = tk ∧ ax' = ax := by
  have hkv : ∀ x, (valsK pv x).length = k := fun x => by simp [valsK, hk]
  have hlen : ∀ l : List α, (l.flatMap pv).length = l.length * k := fun l => by
    induction l with
    | nil => simp
    | cons x l ih => rw [List.flatMap_cons, List.length_append, ih, hk, List.length_cons, Nat.add_mul, Nat.one_mul, Nat.add_comm]
  have hmv : ∀ l : List α, l.flatMap (valsK pv) = (l.flatMap pv).map PV.toVal1 := fun l => by
    rw [List.map_flatMap]; rfl
  have hflat : ∀ (l : List α) (j : Nat) (p : PV), (l.flatMap pv)[j]? = some p → p.flat1 = true := fun l j p hj => by
    obtain ⟨x, _, hx⟩ := List.mem_flatMap.1 (List.mem_of_getElem? hj)
    exact hfl x p hx
  refine ⟨he, fun B S0 w0 G S w vs hI hw hl hvs => ?_⟩
  match vs, hl with
  | [v, u], _ =>
    obtain ⟨b, hb, rfl, hcap, hmax⟩ := hvs 0 _ v rfl rfl
    have hu : RV S w (.fn g []) u := hvs 1 _ u rfl rfl
    have hu' : u = .func (.func g) #[] #[] := by
      cases hu with
      | fn _ _ us hl _ => cases us with
        | nil => rfl
        | cons _ _ => cases hl
    subst hu'
    obtain ⟨⟨t, arr, hh, hsz, hcells⟩, hS⟩ := hI.box id b _ hc hb
    have hval : ∀ j, j < zs.length * k → arr[j]? = ((zs.flatMap pv).map PV.toVal1)[j]? := fun j hj => by
      have hj' : j < (zs.flatMap pv).length := by rw [hlen]; exact hj
      have h1 : ((zs.flatMap pv).map SV.val ++ rest)[j]? = some (.val (zs.flatMap pv)[j]) := by
        rw [List.getElem?_append_left (by simpa using hj')]
        simp [hj']
      have hjs : j < arr.size := by rw [hsz, List.length_append, List.length_map]; omega
      obtain ⟨h2, _⟩ := hcells j _ arr[j] h1 (by simp [hjs])
      rw [Array.getElem?_eq_getElem hjs]
      have h3 : RV S w (zs.flatMap pv)[j] arr[j] := h2
      rw [rv_toVal1 (hflat zs j _ (List.getElem?_eq_getElem hj')) h3, List.getElem?_map, List.getElem?_eq_getElem hj', Option.map_some]
    have hlt : b < w.heap.size := (hI.old id b hb).2
    have hold : HoldsK (valsK pv) k w b 0 zs.toArray := by
      unfold HoldsK
      rw [flatK_list (valsK pv) k hkv h0, hmv]
      intro j hj
      have hj' : j < zs.length * k := by rw [← hlen]; simpa using hj
      refine ⟨?_, by simp [World.frozen?, hh]⟩
      simp only [World.cell?, hh, Nat.zero_add]
      simp only [Option.isSome_none, Bool.false_eq_true, if_false]
      rw [hval j hj']
      have hj2 : j < ((zs.flatMap pv).map PV.toVal1).length := by simpa using hj
      rw [List.getElem?_eq_getElem hj2, getElem!_pos _ j hj]
      rfl
    refine (h w b hold hlt hcap hmax).mono ?_
    rintro e w' ⟨rfl, q, os, rfl⟩
    have hD : Go.Sort.flatK (valsK pv) k d.toArray = ((d.flatMap pv).map PV.toVal1).toArray := by rw [flatK_list (valsK pv) k hkv h0, hmv]
    have hW : sortWorldK (valsK pv) k w b 0 q d.toArray os = grow (putRow _root_.id (Sort.ahead w q) b 0 ((d.flatMap pv).map PV.toVal1).toArray) os := by
      unfold sortWorldK putRowK; rw [hD]
    rw [hW]
    have hg : w.grownBy (grow (putRow _root_.id (Sort.ahead w q) b 0 ((d.flatMap pv).map PV.toVal1).toArray) os) (some b) := by
      refine ⟨rfl, rfl, rfl, by simp, fun i hi hne => ?_⟩
      rw [heap_grow_old _ _ (by simpa using hi)]
      have : b ≠ i := fun e => hne (by rw [e])
      simp [putRow, mapBlock, Sort.ahead, Array.getElem?_modify, this]
    have hh' : (grow (putRow _root_.id (Sort.ahead w q) b 0 ((d.flatMap pv).map PV.toVal1).toArray) os).heap[b]? = some (.cells (putCells _root_.id 0 ((d.flatMap pv).map PV.toVal1).toArray arr) t (0, 0)) := by
      rw [heap_grow_old _ _ (by simpa using hlt)]
      simp [putRow, mapBlock, Sort.ahead, Array.getElem?_modify, hh, onCells]
    have hdl : (d.flatMap pv).length = (zs.flatMap pv).length := by rw [hlen, hlen, hd]
    have harr : ∀ (j : Nat) (c : SV) (v : Value), ((d.flatMap pv).map SV.val ++ rest)[j]? = some c → (putCells _root_.id 0 ((d.flatMap pv).map PV.toVal1).toArray arr)[j]? = some v → RSV tk G S w c v ∧ v.oneCell' = true := by
      intro j c v h1 h2
      by_cases hj : j < (d.flatMap pv).length
      · rw [List.getElem?_append_left (by simpa using hj)] at h1
        have hja : j < arr.size := by rw [hsz, List.length_append, List.length_map]; omega
        simp only [List.getElem?_map, List.getElem?_eq_getElem hj, Option.map_some, Option.some.injEq] at h1
        simp only [putCells, Array.getElem?_mapIdx, Array.getElem?_eq_getElem hja, Option.map_some, Option.some.injEq] at h2
        rw [if_pos ⟨Nat.zero_le _, by rw [List.size_toArray, List.length_map]; omega⟩] at h2
        have h3 : v = (d.flatMap pv)[j].toVal1 := by
          rw [← h2, getElem!_pos _ _ (by simpa using hj)]
          simp
        subst h1; subst h3
        have := hflat d j _ (List.getElem?_eq_getElem hj)
        exact ⟨toVal1_rv this, toVal1_one this⟩
      · rw [List.getElem?_append_right (by simpa using hj)] at h1
        have h3 : ((zs.flatMap pv).map SV.val ++ rest)[j]? = some c := by
          rw [List.getElem?_append_right (by rw [List.length_map]; omega)]
          rw [List.length_map, ← hdl]
          simpa using h1
        have h4 : arr[j]? = some v := by
          simp only [putCells, Array.getElem?_mapIdx] at h2
          rw [Option.map_eq_some_iff] at h2
          obtain ⟨x, h5, h6⟩ := h2
          rw [if_neg (by rw [List.size_toArray, List.length_map]; omega)] at h6
          rw [h5, h6]
        exact hcells j c v h3 h4
    obtain ⟨k1, k2, k3⟩ := hI.rebox hb hc hh hg (by simp [grow, putRow, mapBlock, Sort.ahead]) hh' (by simp [putCells, hsz, hdl]) harr
    exact ⟨_, .val (.tup []), _, tk, ax, G, S, ⟨rfl, rfl, rfl, rfl⟩, rfl, k1, k3 _ hw, k2, RV.tup [] [] rfl (by simp)⟩

/-- What the library asks of the function it compares by. -/
theorem cmpLays_of {α : Type} [Inhabited α] {P : Program} {g : FuncId} (pv : α → List PV) (k : Nat) (hfl : ∀ x, ∀ p ∈ pv x, p.flat1 = true) (cf : α → α → Int) (hcf : ∀ x y, CallsPV P g [.agg (pv x), .agg (pv y)] (.int .i64 (cf x y))) (b off size : Nat) (w : World) : CmpLays P g #[] (valsK pv) k cf b off size w := by
  intro m os dk hs x y
  have hrv : ∀ (W : World) (z : α), RV (fun _ => False) W (.agg (pv z)) (.agg (valsK pv z).toArray) := fun W z =>
    RV.agg (pv z) (valsK pv z) (by simp [valsK]) fun i c v h1 h2 => by
      simp only [valsK, List.getElem?_map, h1, Option.map_some, Option.some.injEq] at h2
      rw [← h2]
      exact toVal1_rv (hfl z c (List.mem_of_getElem? h1))
  generalize sortWorldK (valsK pv) k w b off m dk os = W
  have h := (hcf x y).2 (fun _ => False) W [.agg (valsK pv x).toArray, .agg (valsK pv y).toArray] (fun _ h => h.elim) (RVs.cons (hrv W x) (RVs.cons (hrv W y) RVs.nil))
  refine Calls.mono (show Calls P g #[.agg (valsK pv x).toArray, .agg (valsK pv y).toArray] W _ from h) ?_
  rintro e w' ⟨v, rfl, hb, hv⟩
  cases hv
  exact ⟨rfl, hb.grown_⟩
end

/-- The cells of a row: the structs, the spare room. -/
def rowCells {α : Type} (pv : α → List PV) (b : List α) (junk : List (List PV)) : List SV := ((b.map pv ++ junk).flatten).map SV.val
/-- A list of structs as a row: the first cells of a box. -/
def RowS {α : Type} (pv : α → List PV) (m : Nat) (b : List α) (rs : List (Option (List SV))) (j cap : Nat) : Prop :=
  ∃ junk : List (List PV), rs[j]? = some (some (rowCells pv b junk)) ∧ (∀ q ∈ junk, q.length = m) ∧ b.length + junk.length = cap ∧ cap ≤ maxLen
def ArgM {α : Type} (pv : α → List PV) (m : Nat) (k0 : Nat) (b : List α) (rs : List (Option (List SV))) (arg : SV) : Prop :=
  (b = [] ∧ arg = .lit 0 []) ∨ b ≠ [] ∧ ∃ j cap, arg = .row (k0 + j) 0 m b.length cap ∧ RowS pv m b rs j cap

theorem flatten_len {m : Nat} : ∀ {l : List (List PV)}, (∀ q ∈ l, q.length = m) → l.flatten.length = l.length * m
  | [], _ => by simp
  | q :: l, h => by
    rw [List.flatten_cons, List.length_append, flatten_len (fun x hx => h x (by simp [hx])), h q (by simp), List.length_cons, Nat.add_mul, Nat.one_mul, Nat.add_comm]
theorem flatM_len {α : Type} {pv : α → List PV} {m : Nat} (hm : ∀ x, (pv x).length = m) (l : List α) : (l.flatMap pv).length = l.length * m := by
  rw [List.flatMap_def, flatten_len (fun q hq => by obtain ⟨x, _, rfl⟩ := List.mem_map.1 hq; exact hm x), List.length_map]
theorem rowCells_split {α : Type} (pv : α → List PV) (b : List α) (junk : List (List PV)) : rowCells pv b junk = (b.flatMap pv).map SV.val ++ (junk.flatten).map SV.val := by
  unfold rowCells
  rw [List.flatten_append, List.map_append, List.flatMap_def]
theorem rowCells_snoc {α : Type} (pv : α → List PV) (b : List α) (x : α) (junk : List (List PV)) : rowCells pv (b ++ [x]) junk = (b.flatMap pv).map SV.val ++ ((pv x).map SV.val ++ (junk.flatten).map SV.val) := by
  rw [rowCells_split, List.flatMap_append, List.map_append, List.append_assoc]
  simp
/-- A row, frozen: what its slice turns into. -/
theorem rowCells_agg {α : Type} (pv : α → List PV) (b : List α) (junk : List (List PV)) : rowCells pv b junk = (((b.map pv ++ junk).map PV.agg).flatMap PV.cells).map SV.val := by
  unfold rowCells
  rw [List.flatMap_map]
  congr 1
  rw [List.flatMap_def]
  congr 1
  exact (List.map_id' _).symm

theorem replicate_flat (n m : Nat) : List.replicate (n * m) (SV.val .any) = (((List.replicate n (List.replicate m PV.any)).flatten).map SV.val) := by
  rw [List.flatten_replicate_replicate, List.map_replicate]

/-- What a list is, one struct more. -/
theorem appM {E : Env} {A : Ops} (hA : A = stdOps E) {α : Type} {pv : α → List PV} {m : Nat} {ts e : TypeId} (hk : (E.T ts).k = .slice e) (hs : (E.T e).size = m) (hz : (E.T e).zero.length = m) (h0 : 0 < m) (hby : (E.T e).bytes + 1 ≤ 100000000) (hm : ∀ x, (pv x).length = m)
    {b : List α} {arg : SV} {rs : List (Option (List SV))} {bx0 : List (Option (List SV))} {k0 : Nat} (hbx : bx0.length = k0) (harg : ArgM pv m k0 b rs arg) (hb : b.length ≤ 1000000) (x : α) (sl : List SV) (tk : List (Nat × TypeId)) (ax : Ax) (K : SV → St → Prop)
    (hK : ∀ (j cap : Nat) (rs' : List (Option (List SV))), RowS pv m (b ++ [x]) rs' j cap → K (.row (k0 + j) 0 m (b.length + 1) cap) ⟨sl, bx0 ++ rs', tk, ax⟩) :
    A.appR [ts, ts] [arg, .lit m [.agg (pv x)]] ⟨sl, bx0 ++ rs, tk, ax⟩ K := by
  refine appR_intro hA ?_
  unfold wpAppR
  simp only [hk, SV.elems, hs]
  refine ⟨trivial, trivial, by simp, h0, hz, ?_⟩
  have hbig : (b.length + 1) * ((E.T e).bytes + 1) ≤ 140737488355328 := by
    refine Nat.le_trans (Nat.mul_le_mul (Nat.succ_le_succ hb) hby) (by decide)
  have hpx : [PV.agg (pv x)].flatMap PV.cells = pv x := by simp [PV.cells]
  have hfresh : ∀ (cap : Nat), b.length + 1 ≤ cap → cap ≤ maxLen → K (.row (bx0 ++ rs).length 0 m (b.length + 1) cap) ⟨sl, bx0 ++ (rs ++ [some ((b.flatMap pv).map SV.val ++ ((pv x).map SV.val ++ List.replicate ((cap - (b.length + 1)) * m) (.val .any)))]), tk, ax⟩ := by
    intro cap hc1 hc2
    rw [List.length_append, hbx, replicate_flat, ← rowCells_snoc]
    exact hK _ cap _ ⟨List.replicate (cap - (b.length + 1)) (List.replicate m .any), by simp, fun q hq => by rw [(List.mem_replicate.1 hq).2, List.length_replicate], by simp; omega, hc2⟩
  rcases harg with ⟨rfl, rfl⟩ | ⟨_, j, cap, rfl, junk, h3, h4, h5, h6⟩
  · refine ⟨.inr rfl, by simpa using hbig, fun cap hc1 hc2 => ?_⟩
    have := hfresh cap (by simpa using hc1) hc2
    simp only [St.newBx, List.nil_append, List.length_nil, Nat.zero_add, List.length_singleton, hpx, List.flatMap_nil, List.map_nil, List.map_append, List.append_assoc] at this ⊢
    exact this
  · have hlen : (rowCells pv b junk).length = cap * m := by
      rw [rowCells_split, List.length_append, List.length_map, List.length_map, flatM_len hm, flatten_len h4, ← Nat.add_mul, h5]
    have htake : (rowCells pv b junk).take (b.length * m) = (b.flatMap pv).map SV.val := by
      rw [rowCells_split]
      exact List.take_left' (by rw [List.length_map, flatM_len hm])
    refine ⟨rfl, by simpa using hbig, rowCells pv b junk, ?_, by rw [hlen]; omega, fun hin => ?_, fun hout cap' hc1 hc2 => ?_⟩
    · show (bx0 ++ rs).getD (k0 + j) none = some (rowCells pv b junk)
      rw [List.getD_eq_getElem?_getD, List.getElem?_append_right (by omega)]
      simp [hbx, h3]
    · simp only [List.length_singleton] at hin
      obtain ⟨q, junk', rfl⟩ : ∃ q junk', junk = q :: junk' := by
        cases junk with
        | nil => simp at h5; omega
        | cons q r => exact ⟨q, r, rfl⟩
      have hdrop : (rowCells pv b (q :: junk')).drop (b.length * m + m) = (junk'.flatten).map SV.val := by
        rw [rowCells_split, List.flatten_cons, List.map_append, ← List.append_assoc]
        exact List.drop_left' (by rw [List.length_append, List.length_map, List.length_map, flatM_len hm, h4 q (by simp)])
      have e : (St.mk sl (bx0 ++ rs) tk ax).setBx (k0 + j) (some ((rowCells pv b (q :: junk')).take (0 + b.length * m) ++ (([PV.agg (pv x)].flatMap PV.cells).map SV.val ++ (rowCells pv b (q :: junk')).drop (0 + b.length * m + [PV.agg (pv x)].length * m)))) = ⟨sl, bx0 ++ rs.set j (some (rowCells pv (b ++ [x]) junk')), tk, ax⟩ := by
        simp only [St.setBx, St.mk.injEq, true_and, and_true, hpx, Nat.zero_add, List.length_singleton, Nat.one_mul]
        rw [List.set_append_right _ _ (by omega), htake, hdrop, rowCells_snoc]
        simp [hbx]
      rw [e]
      have hjl : j < rs.length := (List.getElem?_eq_some_iff.1 h3).1
      exact hK j cap _ ⟨junk', List.getElem?_set_self hjl, fun q hq => h4 q (by simp [hq]), by simp at h5 ⊢; omega, h6⟩
    · simp only [List.length_singleton] at hout hc1 ⊢
      have := hfresh cap' hc1 hc2
      simp only [St.newBx, List.drop_zero, hpx, List.append_assoc, htake] at this ⊢
      exact this

/-! ### Rows handed on in whatever order -/
/-- What has been handed on of a list, each element once: 'k': the set of its positions. -/
def Got {α : Type} (cs : List α) (k : Nat) (b : List α) : Prop :=
  k < 2 ^ cs.length ∧ b.Nodup ∧ (∀ c ∈ b, c ∈ cs) ∧ ∀ (i : Nat) (c : α), cs[i]? = some c → (k.testBit i = true ↔ c ∈ b)

theorem Got.nil {α : Type} (cs : List α) : Got cs 0 [] := ⟨Nat.two_pow_pos _, List.nodup_nil, by simp, by simp⟩
theorem Got.next {α : Type} {cs : List α} {en : α → List PV} {k k' : Nat} {b : List α} {x : List PV} (hn : cs.Nodup) (h : Got cs k b) (hx : nxOf true (cs.map en) k x k') : ∃ c, x = en c ∧ c ∈ cs ∧ c ∉ b ∧ Got cs k' (b ++ [c]) := by
  obtain ⟨h1, h2, h3, h4⟩ := h
  obtain ⟨_, i, k1, k2, rfl⟩ := hx
  rw [List.getElem?_map, Option.map_eq_some_iff] at k1
  obtain ⟨c, hc, rfl⟩ := k1
  have hil := (List.getElem?_eq_some_iff.1 hc).1
  have hcb : c ∉ b := fun h => by rw [(h4 i c hc).2 h] at k2; cases k2
  refine ⟨c, rfl, List.mem_of_getElem? hc, hcb, Nat.or_lt_two_pow h1 (Nat.pow_lt_pow_right (by decide) hil), ?_, fun d hd => ?_, fun j d hd => ?_⟩
  · rw [List.nodup_append]
    exact ⟨h2, by simp, fun a ha b hb => by simp at hb; subst hb; intro e; subst e; exact hcb ha⟩
  · rcases List.mem_append.1 hd with h | h
    · exact h3 d h
    · simp at h; subst h; exact List.mem_of_getElem? hc
  · rw [Nat.testBit_or, Nat.testBit_two_pow, List.mem_append, List.mem_singleton, Bool.or_eq_true, h4 j d hd, decide_eq_true_eq]
    refine or_congr Iff.rfl ⟨fun e => ?_, fun e => ?_⟩
    · subst e; exact Option.some.inj (hd.symm.trans hc)
    · subst e; exact (List.getElem?_inj hil hn).1 (hc.trans hd.symm)
theorem Got.fin {α : Type} {cs : List α} {en : α → List PV} {k : Nat} {b : List α} (hn : cs.Nodup) (h : Got cs k b) (hx : finOf true (cs.map en) k) : b.Perm cs := by
  obtain ⟨h1, h2, h3, h4⟩ := h
  have hk : k = 2 ^ cs.length - 1 := by
    have hx : k + 1 = 2 ^ (cs.map en).length := hx
    rw [List.length_map] at hx
    omega
  have hall : ∀ c ∈ cs, c ∈ b := fun c hc => by
    obtain ⟨i, hi⟩ := List.getElem?_of_mem hc
    refine (h4 i c hi).1 ?_
    rw [hk, Nat.testBit_two_pow_sub_one]
    exact decide_eq_true (List.getElem?_eq_some_iff.1 hi).1
  classical
  exact (List.perm_ext_iff_of_nodup h2 hn).2 fun c => ⟨h3 c, hall c⟩

/-- Two lists in strict order with the same elements are one. -/
theorem sorted_perm_eq {α : Type} {r : α → α → Prop} (has : ∀ x y, r x y → r y x → x = y) : ∀ {l l' : List α}, l.Perm l' → l.Pairwise r → l'.Pairwise r → l = l'
  | [], l', h, _, _ => (List.nil_perm.1 h).symm
  | x :: l, l', h, h1, h2 => by
    match l', h with
    | [], h => exact absurd h (by simp)
    | y :: l', h =>
      have hxy : x = y := by
        have m1 : x ∈ y :: l' := h.subset (by simp)
        have m2 : y ∈ x :: l := h.symm.subset (by simp)
        rcases List.mem_cons.1 m1 with e | e
        · exact e
        · rcases List.mem_cons.1 m2 with e' | e'
          · exact e'.symm
          · exact has _ _ ((List.pairwise_cons.1 h1).1 y e') ((List.pairwise_cons.1 h2).1 x e)
      subst hxy
      rw [sorted_perm_eq has (List.Perm.cons_inv h) (List.pairwise_cons.1 h1).2 (List.pairwise_cons.1 h2).2]
end Go.Abs
