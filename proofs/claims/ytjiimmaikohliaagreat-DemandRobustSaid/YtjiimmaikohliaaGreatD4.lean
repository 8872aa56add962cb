/-
  Drawn regions that write a map: by what has been carried out, and by the stamp.
-/
import Derived.Test.YtjiimmaikohliaaGreatD3
set_option linter.unusedVariables false
set_option linter.unusedSimpArgs false
namespace Go.Abs
open Go.RowKit Go.Proofs

theorem wpAll_inv3 {A : Ops} {E : Env} {ops : Array Oper} {J : (Nat → Bool) → St → Prop} {K : St → Prop}
    (hlt : ∀ (i : Nat) (o : Oper), ops[i]? = some o → ∀ e ∈ o.after, Region.binds .any e = true → e.on < i)
    (hJ : ∀ L L', (∀ i, i < ops.size → L i = L' i) → ∀ st, J L st → J L' st)
    (hstep : ∀ (L : Nat → Bool) (i : Nat) (o : Oper), ops[i]? = some o → L i = false → (∀ (j : Nat) (o' : Oper), ops[j]? = some o' → L j = true → ∀ e ∈ o'.after, Region.binds .any e = true → L e.on = true) → (∀ e ∈ o.after, Region.binds .any e = true → L e.on = true) → ∀ K' : St → Prop, (∀ st', J (updL L i) st' → K' st') → ∀ st, J L st → wpOps' A E false ops.toList [o] st K')
    (hend : ∀ st, J (fun _ => true) st → K st) : ∀ (fuel : Nat) (listed : Array Bool), listed.size = ops.size → listed.toList.count false ≤ fuel → (∀ (j : Nat) (o' : Oper), ops[j]? = some o' → listed.getD j true = true → ∀ e ∈ o'.after, Region.binds .any e = true → listed.getD e.on true = true) → ∀ st, J (fun i => listed.getD i true) st → wpAll' A E ops fuel listed st K := by
  have hall : ∀ (listed : Array Bool), listed.size = ops.size → (∀ i, i < ops.size → listed.getD i true = true) → ∀ st, J (fun i => listed.getD i true) st → K st := fun listed h1 h2 st h => hend st (hJ _ (fun _ => true) h2 st h)
  have hnone : ∀ (listed : Array Bool), listed.size = ops.size → Region.ready .any ops listed = [] → ∀ i, i < ops.size → listed.getD i true = true := fun listed hs h i => by
    induction i using Nat.strongRecOn with
    | ind i ih =>
      intro hi
      cases hq : listed.getD i true with
      | true => rfl
      | false =>
        have hmem : i ∈ Region.ready .any ops listed := mem_ready.2 ⟨hq, ops[i], Array.getElem?_eq_getElem hi, fun e he hb => by
          have h3 := hlt i ops[i] (Array.getElem?_eq_getElem hi) e he hb
          have h4 := ih e.on h3 (by omega)
          simp only [Array.getD_eq_getD_getElem?, Array.getElem?_eq_getElem (show e.on < listed.size by omega), Option.getD_some] at h4 ⊢
          exact h4⟩
        rw [h] at hmem
        cases hmem
  intro fuel
  induction fuel with
  | zero =>
    intro listed h1 h2 _ st hst
    have h3 : ∀ i, i < ops.size → listed.getD i true = true := fun i hi => by
      have hm : false ∉ listed.toList := List.count_eq_zero.1 (by omega)
      have hl : i < listed.size := by omega
      simp only [Array.getD_eq_getD_getElem?, Array.getElem?_eq_getElem hl, Option.getD_some]
      cases hb : listed[i]
      · exact absurd (by rw [← hb]; simp) hm
      · rfl
    unfold wpAll'
    cases hr : Region.ready .any ops listed with
    | nil => exact hall listed h1 h3 st hst
    | cons i r =>
      have hmem : i ∈ Region.ready .any ops listed := by rw [hr]; simp
      obtain ⟨h4, o, ho, _⟩ := mem_ready.1 hmem
      have h5 := h3 i (Array.getElem?_eq_some_iff.1 ho).1
      rw [h5] at h4
      cases h4
  | succ fuel ih =>
    intro listed h1 h2 hC st hst
    unfold wpAll'
    cases hr : Region.ready .any ops listed with
    | nil => exact hall listed h1 (hnone listed h1 hr) st hst
    | cons i r =>
      have hone : ∀ j ∈ i :: r, (match ops[j]? with | none => False | some o => wpOps' A E false ops.toList [o] st fun st' => wpAll' A E ops fuel (listed.setIfInBounds j true) st' K) := fun j hj => by
        obtain ⟨h4, o, ho, h5⟩ := mem_ready.1 (by rw [hr]; exact hj)
        rw [ho]
        have hjl : j < ops.size := (Array.getElem?_eq_some_iff.1 ho).1
        refine hstep _ j o ho h4 hC (fun e he hb => ?_) _ (fun st' hst' => ?_) st hst
        · have h6 := h5 e he hb
          have h7 := hlt j o ho e he hb
          simp only [Array.getD_eq_getD_getElem?, Array.getElem?_eq_getElem (show e.on < listed.size by omega), Option.getD_some] at h6 ⊢
          exact h6
        · have hup : J (fun i => (listed.setIfInBounds j true).getD i true) st' := hJ _ _ (fun k hk => by
            unfold updL
            simp only [Array.getD_eq_getD_getElem?, Array.getElem?_setIfInBounds]
            by_cases hkj : k = j
            · subst hkj
              simp [show k < listed.size by omega]
            · simp [hkj, Ne.symm hkj]) st' hst'
          refine ih _ (by simp [h1]) ?_ ?_ st' hup
          rotate_left
          · intro k o' ho' hk e he hb
            have hkl : k < ops.size := (Array.getElem?_eq_some_iff.1 ho').1
            have hek := hlt k o' ho' e he hb
            have key : listed.getD e.on true = true := by
              by_cases hkj : k = j
              · subst hkj
                rw [ho] at ho'
                cases ho'
                have h6 := h5 e he hb
                simp only [Array.getD_eq_getD_getElem?, Array.getElem?_eq_getElem (show e.on < listed.size by omega), Option.getD_some] at h6 ⊢
                exact h6
              · refine hC k o' ho' ?_ e he hb
                simp only [Array.getD_eq_getD_getElem?, Array.getElem?_setIfInBounds] at hk ⊢
                simpa [Ne.symm hkj] using hk
            simp only [Array.getD_eq_getD_getElem?, Array.getElem?_setIfInBounds] at key ⊢
            by_cases hej : j = e.on
            · simp [hej, show e.on < listed.size by omega]
            · simpa [hej] using key
          have hcnt : (listed.setIfInBounds j true).toList.count false + 1 ≤ listed.toList.count false := by
            have hl2 : j < listed.toList.length := by rw [Array.length_toList]; omega
            have hb : listed.toList[j] = false := by
              simp only [Array.getD_eq_getD_getElem?, Array.getElem?_eq_getElem (show j < listed.size by omega), Option.getD_some] at h4
              simpa using h4
            rw [Array.toList_setIfInBounds, List.count_set hl2, hb]
            have : 0 < listed.toList.count false := List.count_pos_iff.2 (by rw [← hb]; exact List.getElem_mem hl2)
            show listed.toList.count false - 1 + 0 + 1 ≤ _
            omega
          omega
      have hL : ∀ (l : List Nat) (f : Nat → Prop), (∀ j ∈ l, f j) → allL l f := by
        intro l f h
        induction l with
        | nil => trivial
        | cons a t iht =>
          cases t with
          | nil => exact h a (by simp)
          | cons b u => exact ⟨h a (by simp), iht fun j hj => h j (List.mem_cons_of_mem _ hj)⟩
      exact hL _ _ hone


/-- .. of one that writes a map: 'ι' the stamps. -/
def mkSt3 {ι : Type} (st : St) (ops : Array Oper) (vs : ι → List SV) (bxf : (Nat → Bool) → ι → List (Option (List SV))) (mpf : (Nat → Bool) → ι → List MapC) (L : Nat → Bool) (n : ι) : St :=
  ⟨mkSl L st.sl (vs n) ops.toList 0 st.sl, bxf L n, st.tk, ⟨mpf L n, st.ax.yk⟩⟩

theorem region_inv3 {A : Ops} {E : Env} {id : Nat} {ops : Array Oper} {nb : Nat × Nat} {st : St} {Q : AX → St → Prop} (hm : drawMode E true id ops.size = .each) {ι : Type} (n0 : ι) (vs : ι → List SV) (bxf : (Nat → Bool) → ι → List (Option (List SV))) (mpf : (Nat → Bool) → ι → List MapC)
    (h0 : mkSt3 st ops vs bxf mpf (fun _ => false) n0 = st) (hbx : ∀ L L', (∀ i, i < ops.size → L i = L' i) → ∀ n, bxf L n = bxf L' n) (hmp : ∀ L L', (∀ i, i < ops.size → L i = L' i) → ∀ n, mpf L n = mpf L' n)
    (hlt' : ltOk ops = true)
    (hstep : ∀ (L : Nat → Bool) (i : Nat) (o : Oper), ops[i]? = some o → L i = false → (∀ (j : Nat) (o' : Oper), ops[j]? = some o' → L j = true → ∀ e ∈ o'.after, Region.binds .any e = true → L e.on = true) → (∀ e ∈ o.after, Region.binds .any e = true → L e.on = true) → ∀ (K' : St → Prop) (n : ι), (∀ n', K' (mkSt3 st ops vs bxf mpf (updL L i) n')) → wpOps' A E false ops.toList [o] (mkSt3 st ops vs bxf mpf L n) K')
    (hend : ∀ n, Q .normal (mkSt3 st ops vs bxf mpf (fun _ => true) n)) : wpC' A E (.region id ops true) nb st Q := by
  have hlt := ltOk_spec hlt'
  unfold wpC'
  rw [hm]
  have hJ : ∀ L L', (∀ i, i < ops.size → L i = L' i) → ∀ n, mkSt3 st ops vs bxf mpf L n = mkSt3 st ops vs bxf mpf L' n := fun L L' h n => by
    unfold mkSt3
    rw [hbx L L' h, hmp L L' h, mkSl_congr (L := L) (L' := L') fun j _ h2 => h j (by simpa using h2)]
  have e : mkSt3 st ops vs bxf mpf (fun i => (Array.replicate ops.size false).getD i true) n0 = st := by
    refine (hJ _ (fun _ => false) (fun i hi => ?_) n0).trans h0
    simp [Array.getD_eq_getD_getElem?, hi]
  refine wpAll_inv3 (A := A) (E := E) (K := Q .normal) (J := fun L s => ∃ n, s = mkSt3 st ops vs bxf mpf L n) hlt ?_ ?_ ?_ ops.size (Array.replicate ops.size false) (by simp) (by simp [List.count_replicate]) (fun j o' ho' hj => by
    have := (Array.getElem?_eq_some_iff.1 ho').1
    simp [Array.getD_eq_getD_getElem?, this] at hj) st ⟨n0, e.symm⟩
  · rintro L L' h s ⟨n, rfl⟩
    exact ⟨n, hJ L L' h n⟩
  · rintro L i o ho hL hC he K' hK s ⟨n, rfl⟩
    exact hstep L i o ho hL hC he K' n fun n' => hK _ ⟨n', rfl⟩
  · rintro s ⟨n, rfl⟩
    exact hend n

def sel3 {α : Type} (a b : Bool) (x y z : α) : α := match a with | true => x | false => match b with | true => y | false => z

/-- A drawn region at the tail of a block, behind a test. -/
theorem skip_tail {A : Ops} {E : Env} {id b : Nat} {ops : Array Oper} {a d : Code} {nb : Nat × Nat} {st : St} {Q Q0 : AX → St → Prop} (hQ : ∀ s, Q .normal s = wpC' A E (.seq (.block b (.seq a (.region id ops true))) d) nb s Q0)
    (h : ∀ R3 : St → Prop, (∀ s, wpC' A E (.region id ops true) nb s (fun e st' => match e with
      | .normal => wpC' A E d nb st' Q0
      | .exit i => if i = b then wpC' A E d nb st' Q0 else Q0 (.exit i) st'
      | .ret => Q0 .ret st') → R3 s) → wpC' A E a nb st fun e s => match e with
      | .normal => R3 s
      | .exit i => if i = b then wpC' A E d nb s Q0 else Q0 (.exit i) s
      | .ret => Q0 .ret s) : wpC' A E .skip nb st Q := by
  unfold wpC'
  rw [hQ]
  unfold wpC'
  unfold wpC'
  have h2 := h _ fun s h => h
  unfold wpC'
  exact h2

/-- .. of which nothing follows. -/
theorem skip_tail' {A : Ops} {E : Env} {id b : Nat} {ops : Array Oper} {a : Code} {nb : Nat × Nat} {st : St} {Q Q0 : AX → St → Prop} (hQ : ∀ s, Q .normal s = wpC' A E (.block b (.seq a (.region id ops true))) nb s Q0)
    (h : ∀ R3 : St → Prop, (∀ s, wpC' A E (.region id ops true) nb s (fun e st' => match e with
      | .normal => Q0 .normal st'
      | .exit i => if i = b then Q0 .normal st' else Q0 (.exit i) st'
      | .ret => Q0 .ret st') → R3 s) → wpC' A E a nb st fun e s => match e with
      | .normal => R3 s
      | .exit i => if i = b then Q0 .normal s else Q0 (.exit i) s
      | .ret => Q0 .ret s) : wpC' A E .skip nb st Q := by
  unfold wpC'
  rw [hQ]
  unfold wpC'
  have h2 := h _ fun s h => h
  unfold wpC'
  exact h2

/-- A stop between two codes. -/
theorem seq_stop {A : Ops} {E : Env} {a c : Code} {nb : Nat × Nat} {st : St} {Q : AX → St → Prop}
    (h : ∀ R3 : St → Prop, (∀ s, wpC' A E c nb s Q → R3 s) → wpC' A E a nb st fun e s => match e with
      | .normal => R3 s
      | .exit i => Q (.exit i) s
      | .ret => Q .ret s) : wpC' A E (.seq a c) nb st Q := by
  unfold wpC'
  exact h _ fun s h => h
/-- A drawn region at the tail of a block. -/
theorem block_tail {A : Ops} {E : Env} {id b : Nat} {ops : Array Oper} {a : Code} {nb : Nat × Nat} {st : St} {Q0 : AX → St → Prop}
    (h : ∀ R3 : St → Prop, (∀ s, wpC' A E (.region id ops true) nb s (fun e st' => match e with
      | .normal => Q0 .normal st'
      | .exit i => if i = b then Q0 .normal st' else Q0 (.exit i) st'
      | .ret => Q0 .ret st') → R3 s) → wpC' A E a nb st fun e s => match e with
      | .normal => R3 s
      | .exit i => if i = b then Q0 .normal s else Q0 (.exit i) s
      | .ret => Q0 .ret s) : wpC' A E (.block b (.seq a (.region id ops true))) nb st Q0 := by
  unfold wpC'
  have h2 := h _ fun s h => h
  unfold wpC'
  exact h2
end Go.Abs
