/-
  Regions whose order is drawn: the walk is sound.
-/
import Derived.Test.YthofonhkpilifaaAbs16
namespace Go.Abs
open Go.RowKit

section
variable {E : Env} {B : Nat} {S0 : Addr → Prop} {w0 : World} {st : St} {G : Gh} {S : Addr → Prop} {w : World} {tmps : Array Value} {r : Option Nat} {n : Nat}

theorem set_listed {listed : Array Bool} {i j : Nat} (h : listed.getD i true = false) : (listed.setIfInBounds i true).getD j false = true ↔ (listed.getD j false = true ∨ j = i) := by
  have hlt : i < listed.size := by
    rcases Nat.lt_or_ge i listed.size with h' | h'
    · exact h'
    · simp [Array.getD_eq_getD_getElem?, Array.getElem?_eq_none h'] at h
  simp only [Array.getD_eq_getD_getElem?, Array.getElem?_setIfInBounds]
  by_cases hij : i = j
  · subst hij; simp [hlt]
  · rw [if_neg hij]
    constructor
    · exact .inl
    · rintro (h | rfl)
      · exact h
      · exact absurd rfl hij

theorem count_set {listed : Array Bool} {i k : Nat} (h : listed.getD i true = false) (hc : listed.toList.count false ≤ k + 1) : (listed.setIfInBounds i true).toList.count false ≤ k := by
  have hlt : i < listed.toList.length := by
    rcases Nat.lt_or_ge i listed.size with h' | h'
    · simpa using h'
    · simp [Array.getD_eq_getD_getElem?, Array.getElem?_eq_none h'] at h
  rw [Array.toList_setIfInBounds, List.count_set hlt]
  have : listed.toList[i] = false := by
    have hlt' : i < listed.size := by simpa using hlt
    simp only [Array.getD_eq_getD_getElem?, Array.getElem?_eq_getElem hlt', Option.getD_some] at h
    simpa using h
  have hpos : 0 < listed.toList.count false := List.count_pos_iff.2 (by rw [← this]; exact List.getElem_mem hlt)
  rw [this]
  show listed.toList.count false - 1 + 0 ≤ k
  omega

theorem ready_none {rw_ : RowM} {ops : Array Oper} {listed : Array Bool} (hA : AnyOk rw_ ops.toList) (hs : listed.size = ops.size) (h : Region.ready .any ops listed = []) : ∀ i, i < ops.size → listed.getD i false = true := by
  intro i
  induction i using Nat.strongRecOn with
  | ind i ih =>
    intro hi
    cases hq : listed.getD i false with
    | true => rfl
    | false =>
      have hmem : i ∈ Region.ready .any ops listed := mem_ready.2 ⟨by
        simp only [Array.getD_eq_getD_getElem?, Array.getElem?_eq_getElem (show i < listed.size by omega), Option.getD_some] at hq ⊢
        exact hq, ops[i], Array.getElem?_eq_getElem hi, fun e he hb => by
        have := hA.lt i ops[i] (by simp [hi]) e he hb
        exact ih e.on this (by omega)⟩
      rw [h] at hmem
      cases hmem

theorem any_ok (hE : EnvOk E) {ops : Array Oper} {T : Nat → St} {V : Nat → SV} {M : Nat → St} (d : List Deferred) {tk0 : List (Nat × TypeId)} {G0 : Gh} {S1 : Addr → Prop} {w1 : World} (hA : AnyOk E.rm ops.toList) (hT : Tr E ops.toList st T V M) {Q : Exit → Act → World → Prop}
    (hQ : ∀ (G' : Gh) (S' : Addr → Prop) (w' : World) (tmps' : Array Value), Rel E B S0 w0 (T ops.size) G' S' w' tmps' → Ext tk0 G0 S1 w1 (T ops.size).tk G' S' w' → Q .normal { tmps := tmps', defers := d } w') :
    ∀ (fuel : Nat) (listed : Array Bool) (s : St) (G : Gh) (S : Addr → Prop) (w : World) (tmps : Array Value), listed.size = ops.size → listed.toList.count false ≤ fuel → Closed ops.toList (fun i => listed.getD i false = true) →
      J ops.toList st T V (fun i => listed.getD i false = true) s → Rel E B S0 w0 s G S w tmps → Ext tk0 G0 S1 w1 s.tk G S w → wpAnyIn (Fr r) n E.P .any ops Q fuel listed { tmps := tmps, defers := d } w := by
  have fin : ∀ (listed : Array Bool) (s : St) (G : Gh) (S : Addr → Prop) (w : World) (tmps : Array Value), listed.size = ops.size → J ops.toList st T V (fun i => listed.getD i false = true) s → Rel E B S0 w0 s G S w tmps → Ext tk0 G0 S1 w1 s.tk G S w →
      Region.ready .any ops listed = [] → Q .normal { tmps := tmps, defers := d } w := by
    intro listed s G S w tmps hs hJ R X h
    have e := hJ.all hT hA (by simpa using ready_none hA hs h)
    rw [e] at R X
    exact hQ G S w tmps (by simpa using R) (by simpa using X)
  intro fuel
  induction fuel with
  | zero =>
    intro listed s G S w tmps hs hc hC hJ R X
    have hr : Region.ready .any ops listed = [] := by
      rw [List.eq_nil_iff_forall_not_mem]
      intro i hi
      obtain ⟨h1, o, ho, _⟩ := mem_ready.1 hi
      have hlt : i < listed.size := by rw [hs]; exact (Array.getElem?_eq_some_iff.1 ho).1
      simp only [Array.getD_eq_getD_getElem?, Array.getElem?_eq_getElem hlt, Option.getD_some] at h1
      have : 0 < listed.toList.count false := List.count_pos_iff.2 (by rw [← h1]; simp)
      omega
    exact ⟨hr, fin listed s G S w tmps hs hJ R X hr⟩
  | succ fuel ih =>
    intro listed s G S w tmps hs hc hC hJ R X
    refine ⟨fin listed s G S w tmps hs hJ R X, fun i hi => ?_⟩
    obtain ⟨h1, o, ho, hall⟩ := mem_ready.1 hi
    have ho' : ops.toList[i]? = some o := by simpa using ho
    have hnl : ¬ listed.getD i false = true := by
      have hlt : i < listed.size := by rw [hs]; exact (Array.getElem?_eq_some_iff.1 ho).1
      simp only [Array.getD_eq_getD_getElem?, Array.getElem?_eq_getElem hlt, Option.getD_some] at h1 ⊢
      rw [h1]; simp
    obtain ⟨m, hstep, hJ'⟩ := hJ.turn hT hA hC ho' hnl hall
    have hset : (fun j => (listed.setIfInBounds i true).getD j false = true) = fun j => listed.getD j false = true ∨ j = i := by
      funext j; exact propext (set_listed h1)
    refine stepA_ok hE d R X ho hstep fun G' S' w' tmps' R' X' => ?_
    refine ih _ _ G' S' w' tmps' (by simp [hs]) (count_set h1 hc) ?_ (by rw [hset]; exact hJ') R' X'
    rw [hset]
    intro j p hp hl e he hb
    rcases hl with hl | rfl
    · exact .inl (hC j p hp hl e he hb)
    · rw [ho'] at hp; cases hp
      exact .inl (hall e he hb)

theorem region_any (hE : EnvOk E) {id : Nat} {ops : Array Oper} (d : List Deferred) {tk0 : List (Nat × TypeId)} {G0 : Gh} {S1 : Addr → Prop} {w1 : World} (hA : anyOk E.rm ops.toList = true) {K : St → Prop} (h : wpOps E true ops.toList ops.toList st K) (R : Rel E B S0 w0 st G S w tmps) (X : Ext tk0 G0 S1 w1 st.tk G S w) {Q : Exit → Act → World → Prop}
    (hQ : ∀ (st' : St) (G' : Gh) (S' : Addr → Prop) (w' : World) (tmps' : Array Value), K st' → Rel E B S0 w0 st' G' S' w' tmps' → Ext tk0 G0 S1 w1 st'.tk G' S' w' → Q .normal { tmps := tmps', defers := d } w') :
    (Code.region id ops true).wpIn (Fr r) n E.P Q { tmps := tmps, defers := d } w := by
  obtain ⟨T, V, M, h0, hK, hT⟩ := wpOps_trace _ _ _ h
  have hTr : Tr E ops.toList st T V M := ⟨h0, hT⟩
  have hA' := anyOk_spec hA
  refine wpIn_region_any hE.mixed ?_
  have hb : Below w.heap.size w { w with drawn := w.drawn + 1 } := Below.drew (Below.refl _ _)
  obtain ⟨R1, X1⟩ := R.transport (S' := S) (w' := { w with drawn := w.drawn + 1 }) (fun _ h => h) (fun _ h => .inl h) hb
  have hJ := hTr.prefix hA' 0 (Nat.zero_le _)
  rw [h0] at hJ
  refine any_ok hE d hA' hTr (fun G' S' w' tmps' R' X' => hQ _ G' S' w' tmps' hK (by simpa using R') (by simpa using X')) ops.size (Array.replicate ops.size false) st G S _ tmps (by simp) (by simp) ?_ ?_ R1 (X.trans X1)
  · intro i o hi hl
    simp [Array.getD_eq_getD_getElem?, Array.getElem?_replicate] at hl
    split at hl <;> simp at hl
  · have e : (fun i => (Array.replicate ops.size false).getD i false = true) = fun j => j < 0 := by
      funext j
      apply propext
      simp only [Array.getD_eq_getD_getElem?, Array.getElem?_replicate]
      constructor
      · intro h; split at h <;> simp at h
      · intro h; omega
    rw [e]
    exact hJ

/-- Whether all of a region's first c operations come ahead of operation c, and all others behind it. -/
def cutOk (rw : RowM) (ops : List Oper) (c : Nat) : Bool :=
  anyOk rw (ops.take c) && decide (c < ops.length) && (List.range c).all (fun j => ((masks [] ops).getD c 0).testBit j) &&
    (List.range ops.length).all (fun i => decide (i ≤ c) || ((masks [] ops).getD i 0).testBit c) &&
    (List.range ops.length).all (fun i => match ops[i]? with | none => true | some o => o.after.toList.all fun e => !Region.binds .any e || decide (e.on < i))

def listedTo (c n : Nat) : Array Bool := (List.replicate c true ++ List.replicate (n - c) false).toArray

/-- A region whose order is drawn: what comes ahead of operation c, in the text's order; that; the rest, each order for itself. -/
def wpCut (E : Env) (ops : Array Oper) (c : Nat) (st : St) (K : St → Prop) : Prop :=
  cutOk E.rm ops.toList c = true ∧ wpOps E true (ops.toList.take c) (ops.toList.take c) st fun s =>
    match ops[c]? with
    | none => False
    | some o => wpOps E false ops.toList [o] s fun s' => wpAll E ops (ops.size - (c + 1)) (listedTo (c + 1) ops.size) s' K

theorem StepA.take {ops : List Oper} {c : Nat} {o : Oper} {s m : St} {v : SV} (h : StepA E (ops.take c) o s v m) : StepA E ops o s v m := by
  unfold StepA at h ⊢
  split at h
  · exact h
  · obtain ⟨t, ht, h⟩ := h
    refine ⟨t, ?_, h⟩
    rename_i j want _
    unfold dstOf at ht ⊢
    rw [List.getElem?_take] at ht
    split at ht
    · exact ht
    · simp at ht

theorem count_set' {listed : Array Bool} {i k : Nat} (h : listed.getD i true = false) (hc : listed.toList.count false = k + 1) : (listed.setIfInBounds i true).toList.count false = k := by
  have hlt : i < listed.toList.length := by
    rcases Nat.lt_or_ge i listed.size with h' | h'
    · simpa using h'
    · simp [Array.getD_eq_getD_getElem?, Array.getElem?_eq_none h'] at h
  rw [Array.toList_setIfInBounds, List.count_set hlt]
  have : listed.toList[i] = false := by
    have hlt' : i < listed.size := by simpa using hlt
    simp only [Array.getD_eq_getD_getElem?, Array.getElem?_eq_getElem hlt', Option.getD_some] at h
    simpa using h
  rw [this]
  show listed.toList.count false - 1 + 0 = k
  omega

theorem cut_ok (hE : EnvOk E) {ops : Array Oper} {c : Nat} (hc : cutOk E.rm ops.toList c = true) (d : List Deferred) {tk0 : List (Nat × TypeId)} {G0 : Gh} {S1 : Addr → Prop} {w1 : World} {T : Nat → St} {V : Nat → SV} {M : Nat → St} (hT : Tr E (ops.toList.take c) st T V M) {Q : Exit → Act → World → Prop}
    (hQ : ∀ (oc : Oper) (G' : Gh) (S' : Addr → Prop) (w' : World) (tmps' : Array Value), ops[c]? = some oc → Rel E B S0 w0 (T c) G' S' w' tmps' → Ext tk0 G0 S1 w1 (T c).tk G' S' w' → wpOpIn (Fr r) n E.P ops Q c (wpAnyIn (Fr r) n E.P .any ops Q (ops.size - (c + 1)) (listedTo (c + 1) ops.size)) { tmps := tmps', defers := d } w') :
    ∀ (fuel : Nat) (listed : Array Bool) (s : St) (G : Gh) (S : Addr → Prop) (w : World) (tmps : Array Value), listed.size = ops.size → listed.toList.count false = fuel → Closed ops.toList (fun i => listed.getD i false = true) → (∀ i, c ≤ i → listed.getD i false = false) →
      J (ops.toList.take c) st T V (fun i => listed.getD i false = true) s → Rel E B S0 w0 s G S w tmps → Ext tk0 G0 S1 w1 s.tk G S w → wpAnyIn (Fr r) n E.P .any ops Q fuel listed { tmps := tmps, defers := d } w := by
  simp only [cutOk, Bool.and_eq_true, decide_eq_true_eq] at hc
  obtain ⟨⟨⟨⟨c1, c2⟩, c3⟩, c4⟩, c5⟩ := hc
  have c2' : c < ops.size := by simpa using c2
  have hA := anyOk_spec c1
  have hlt : ∀ i o, ops.toList[i]? = some o → ∀ e ∈ o.after, Region.binds .any e = true → e.on < i := by
    intro i o hi e he hb
    have := List.all_eq_true.1 c5 i (List.mem_range.2 (List.getElem?_eq_some_iff.1 hi).1)
    simp only [hi] at this
    have := List.all_eq_true.1 this e (by simpa using he)
    rw [hb] at this
    simpa using this
  have hmask := masks_spec hlt ops.toList [] 0 rfl (fun j => by simp) (fun i o hi => absurd hi (Nat.not_lt_zero i))
  have hlen : (ops.toList.take c).length = c := by simp; omega
  intro fuel
  induction fuel with
  | zero =>
    intro listed s G S w tmps hs hc hC hN hJ R X
    exfalso
    have h1 := hN c (Nat.le_refl _)
    have hcl : c < listed.size := by omega
    simp only [Array.getD_eq_getD_getElem?, Array.getElem?_eq_getElem hcl, Option.getD_some] at h1
    have : 0 < listed.toList.count false := List.count_pos_iff.2 (by rw [← h1]; simp)
    omega
  | succ fuel ih =>
    intro listed s G S w tmps hs hc hC hN hJ R X
    refine ⟨fun h => ?_, fun i hi => ?_⟩
    · exfalso
      have hall : ∀ i, i < ops.size → listed.getD i false = true := by
        intro i
        induction i using Nat.strongRecOn with
        | ind i ih =>
          intro hi
          cases hq : listed.getD i false with
          | true => rfl
          | false =>
            have hmem : i ∈ Region.ready .any ops listed := mem_ready.2 ⟨by
              simp only [Array.getD_eq_getD_getElem?, Array.getElem?_eq_getElem (show i < listed.size by omega), Option.getD_some] at hq ⊢
              exact hq, ops[i], Array.getElem?_eq_getElem hi, fun e he hb => by
              have := hlt i ops[i] (by simp [hi]) e he hb
              exact ih e.on this (by omega)⟩
            rw [h] at hmem
            cases hmem
      have := hall c c2'
      rw [hN c (Nat.le_refl _)] at this
      cases this
    · obtain ⟨h1, o, ho, hall⟩ := mem_ready.1 hi
      have ho' : ops.toList[i]? = some o := by simpa using ho
      have hsz : i < listed.size := by rw [hs]; exact (Array.getElem?_eq_some_iff.1 ho).1
      have hnl : ¬ listed.getD i false = true := by
        simp only [Array.getD_eq_getD_getElem?, Array.getElem?_eq_getElem hsz, Option.getD_some] at h1 ⊢
        rw [h1]; simp
      rcases Nat.lt_trichotomy i c with hic | rfl | hic
      · have hop : (ops.toList.take c)[i]? = some o := by rw [List.getElem?_take, if_pos hic]; exact ho'
        have hCp : Closed (ops.toList.take c) (fun i => listed.getD i false = true) := fun j p hp hl e he hb => by
          rw [List.getElem?_take] at hp
          split at hp
          · exact hC j p hp hl e he hb
          · cases hp
        obtain ⟨m, hstep, hJ'⟩ := hJ.turn hT hA hCp hop hnl hall
        have hset : (fun j => (listed.setIfInBounds i true).getD j false = true) = fun j => listed.getD j false = true ∨ j = i := by
          funext j; exact propext (set_listed h1)
        refine stepA_ok hE d R X ho hstep.take fun G' S' w' tmps' R' X' => ?_
        refine ih _ _ G' S' w' tmps' (by simp [hs]) (count_set' h1 hc) ?_ (fun j hj => ?_) (by rw [hset]; exact hJ') R' X'
        · rw [hset]
          intro j p hp hl e he hb
          rcases hl with hl | rfl
          · exact .inl (hC j p hp hl e he hb)
          · rw [ho'] at hp; cases hp
            exact .inl (hall e he hb)
        · have hq := hN j hj
          cases hx : (listed.setIfInBounds i true).getD j false with
          | false => rfl
          | true =>
            rcases (set_listed h1).1 hx with h' | h'
            · rw [hq] at h'; cases h'
            · omega
      · have hL : ∀ j, j < i → listed.getD j false = true := fun j hj =>
          hmask i o ho' j (List.all_eq_true.1 c3 j (List.mem_range.2 hj)) (fun j => listed.getD j false = true) hC hall
        have e := hJ.all hT hA (fun j hj => hL j (by omega))
        rw [hlen] at e
        rw [e] at R X
        have hls : listed.setIfInBounds i true = listedTo (i + 1) ops.size := by
          apply Array.ext
          · simp [listedTo, hs]; omega
          · intro j hj1 hj2
            have hj : j < listed.size := by simpa using hj1
            simp only [listedTo, List.getElem_toArray, List.getElem_append, List.length_replicate, List.getElem_replicate]
            by_cases hji : i = j
            · subst hji; simp
            · rw [Array.getElem_setIfInBounds_ne hj hji]
              by_cases hlt : j < i + 1
              · simp only [hlt, dite_true]
                have := hL j (by omega)
                simpa [Array.getD_eq_getD_getElem?, Array.getElem?_eq_getElem hj] using this
              · simp only [hlt, dite_false]
                have := hN j (by omega)
                simpa [Array.getD_eq_getD_getElem?, Array.getElem?_eq_getElem hj] using this
        have hfu : fuel = ops.size - (i + 1) := by
          have h2 := count_set' h1 hc
          rw [hls] at h2
          have h3 : (listedTo (i + 1) ops.size).toList.count false = ops.size - (i + 1) := by
            simp [listedTo, List.count_append, List.count_replicate]
          omega
        rw [hls, hfu]
        exact hQ o G S w tmps ho R X
      · exfalso
        have hb : ((masks [] ops.toList).getD i 0).testBit c = true := by
          have := List.all_eq_true.1 c4 i (List.mem_range.2 (List.getElem?_eq_some_iff.1 ho').1)
          rw [Bool.or_eq_true] at this
          rcases this with h' | h'
          · have := of_decide_eq_true h'; omega
          · exact h'
        have := hmask i o ho' c hb (fun j => listed.getD j false = true) hC hall
        rw [hN c (Nat.le_refl _)] at this
        cases this

theorem region_cut (hE : EnvOk E) {id : Nat} {ops : Array Oper} {c : Nat} (d : List Deferred) {tk0 : List (Nat × TypeId)} {G0 : Gh} {S1 : Addr → Prop} {w1 : World} {K : St → Prop} (h : wpCut E ops c st K) (R : Rel E B S0 w0 st G S w tmps) (X : Ext tk0 G0 S1 w1 st.tk G S w) {Q : Exit → Act → World → Prop}
    (hQ : ∀ (st' : St) (G' : Gh) (S' : Addr → Prop) (w' : World) (tmps' : Array Value), K st' → Rel E B S0 w0 st' G' S' w' tmps' → Ext tk0 G0 S1 w1 st'.tk G' S' w' → Q .normal { tmps := tmps', defers := d } w') :
    (Code.region id ops true).wpIn (Fr r) n E.P Q { tmps := tmps, defers := d } w := by
  obtain ⟨hc, h⟩ := h
  obtain ⟨T, V, M, h0, hK, hT⟩ := wpOps_trace _ _ _ h
  have hTr : Tr E (ops.toList.take c) st T V M := ⟨h0, hT⟩
  have hc' := hc
  simp only [cutOk, Bool.and_eq_true, decide_eq_true_eq] at hc'
  have c2' : c < ops.size := by simpa using hc'.1.1.1.2
  have hlen : (ops.toList.take c).length = c := by simp; omega
  rw [hlen] at hK
  refine wpIn_region_any hE.mixed ?_
  have hb : Below w.heap.size w { w with drawn := w.drawn + 1 } := Below.drew (Below.refl _ _)
  obtain ⟨R1, X1⟩ := R.transport (S' := S) (w' := { w with drawn := w.drawn + 1 }) (fun _ h => h) (fun _ h => .inl h) hb
  have hJ := hTr.prefix (anyOk_spec hc'.1.1.1.1) 0 (Nat.zero_le _)
  rw [h0] at hJ
  have e : (fun i => (Array.replicate ops.size false).getD i false = true) = fun j => j < 0 := by
    funext j
    apply propext
    simp only [Array.getD_eq_getD_getElem?, Array.getElem?_replicate]
    constructor
    · intro h; split at h <;> simp at h
    · intro h; omega
  refine cut_ok hE hc d hTr (fun oc G' S' w' tmps' hoc R' X' => ?_) ops.size (Array.replicate ops.size false) st G S _ tmps (by simp) (by simp) ?_ (fun i _ => ?_) (by rw [e]; exact hJ) R1 (X.trans X1)
  · simp only [hoc] at hK
    exact wpOne_ok hE hoc d hK R' X' fun st' G2 S2 w2 tmps2 hk R2 X2 => wpAll_ok hE ops d hQ _ _ st' G2 S2 w2 tmps2 hk R2 X2
  · rw [e]; intro i o hi hl; omega
  · simp only [Array.getD_eq_getD_getElem?, Array.getElem?_replicate]
    split <;> rfl

end
end Go.Abs
