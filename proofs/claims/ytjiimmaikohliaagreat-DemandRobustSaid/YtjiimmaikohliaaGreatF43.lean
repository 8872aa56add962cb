/-
  Functions: demand.sums.
-/
import Derived.Test.YtjiimmaikohliaaGreatD4
import Derived.Test.YtjiimmaikohliaaGreatF41
set_option linter.unusedVariables false
set_option linter.unusedSimpArgs false
namespace Go.Abs
open Go.RowKit Go.Proofs

def addU (es : List (Cell × Int)) (u : Use) : List (Cell × Int) := putM es u.Cell ((lookM es u.Cell).getD 0 + u.Places)
/-- The sums of uses. -/
def sumU (us : List Use) : List (Cell × Int) := us.foldl addU []
theorem sumU_snoc (us : List Use) (u : Use) : sumU (us ++ [u]) = addU (sumU us) u := by unfold sumU; rw [foldl_snoc]
theorem putM_mem {κ α : Type} [DecidableEq κ] {es : List (κ × α)} {c : κ} {v : α} {p : κ × α} (h : p ∈ putM es c v) : p ∈ es ∨ p = (c, v) := by
  unfold putM at h
  split at h
  · obtain ⟨q, h1, h2⟩ := List.mem_map.1 h
    split at h2
    · rename_i h3
      simp only [decide_eq_true_eq] at h3
      right; rw [← h2, h3]
    · left; rw [← h2]; exact h1
  · rcases List.mem_append.1 h with h | h
    · exact .inl h
    · exact .inr (List.mem_singleton.1 h)
theorem sumU_nod (us : List Use) : NodM (sumU us) := by
  unfold sumU
  suffices h : ∀ es, NodM es → NodM (us.foldl addU es) from h [] (by simp [NodM])
  induction us with
  | nil => intro es h; exact h
  | cons u r ih => intro es h; exact ih _ (h.put _ _)
theorem sumU_le {us : List Use} (h : ∀ u ∈ us, useOk u = true) : ∀ p ∈ sumU us, 0 ≤ p.2 ∧ p.2 ≤ 4096 * (us.length : Int) := by
  suffices k : ∀ (us : List Use) (es : List (Cell × Int)) (n : Nat), (∀ p ∈ es, 0 ≤ p.2 ∧ p.2 ≤ 4096 * (n : Int)) → (∀ u ∈ us, useOk u = true) → ∀ p ∈ us.foldl addU es, 0 ≤ p.2 ∧ p.2 ≤ 4096 * ((n + us.length : Nat) : Int) by
    have := k us [] 0 (by simp) h
    intro p hp
    have := this p hp
    simpa using this
  intro us
  induction us with
  | nil => intro es n h _; exact h
  | cons u r ih =>
    intro es n he hu p hp
    have hu0 := hu u (by simp)
    unfold useOk at hu0
    simp only [Bool.and_eq_true, decide_eq_true_eq] at hu0
    have := ih (addU es u) (n + 1) (fun q hq => by
      rcases putM_mem hq with h | h
      · have := he q h; omega
      · rw [h]
        simp only
        cases hl : lookM es u.Cell with
        | none => simp; omega
        | some v => have := he _ (lookM_some_mem hl); simp only [Option.getD_some] at this ⊢; omega) (fun v hv => hu v (by simp [hv])) p hp
    simp only [List.length_cons]
    omega

def keysM (es : List (Cell × Int)) : List PV := es.map fun p => encCell p.1
def valsM (es : List (Cell × Int)) : List PV := es.map fun p => encInt p.2
theorem encM_zip (es : List (Cell × Int)) : encM encCell encInt es = (keysM es).zip (valsM es) := by
  unfold encM keysM valsM
  rw [List.zip_map', ]
noncomputable def sumsR (ls : List (List Use)) : PV := if ls.any badB then .tup [.map [] [], .bool false] else .tup [.map (keysM (sumU ls.flatten)) (valsM (sumU ls.flatten)), .bool true]

theorem badB_false {l : List Use} : badB l = false ↔ formed1 l := by
  unfold badB
  rw [@decide_eq_false_iff_not _ (Classical.propDecidable _)]
  exact Classical.not_not

def cloM (n : Nat) : Bool := n == 9000000 || n == 1000010
set_option maxHeartbeats 4000000 in
theorem dm_sums (ls : List (List Use)) {xs : List PV} (hx : xs = encUseLs ls) (hfew : ls.flatten.length ≤ 1000000) : CallsPV Tryz.prog 38 [.list 1 xs] (sumsR ls) := by
  refine callsPV_by (clo := cloM) (rows := true) env_ok Tryz.func38 rfl (enters_of Tryz.func38 (by kernel_rfl) rfl) (fun A q P Y hr hA hq => ?_)
  have hxl : xs.length = ls.length := by rw [hx]; simp [encUseLs]
  have hlen : ls.length ≤ 9223372036854775807 := by have := (hr.mem (p := .list 1 xs) (by simp)).len; omega
  have hbad : ls.any badB = true → PV.tup [.map [] [], .bool false] = q := fun h => by rw [← hq]; unfold sumsR; rw [if_pos h]
  conv => cbv
  refine loop_set hA (fun (z : Int × List (PV × PV)) s => { (((s.put (some 11) (.val (.int .i64 z.1))).put (some 2) (.mp 0)).put (some 3) (.val (.bool false))) with ax := ⟨[.ents z.2 none], s.ax.yk⟩ })
    (fun z => 0 ≤ z.1 ∧ z.1 ≤ ls.length ∧ (∀ l ∈ ls.take z.1.toNat, badB l = false) ∧ z.2 = encM encCell encInt (sumU (ls.take z.1.toNat).flatten)) (fun z => (ls.length - z.1).toNat) (0, []) ?_ ?_ ?_
  · conv => cbv
    exact wk_sl (by repeat (first | refine leL_same ?_ | refine leL_any ?_ | exact leL_nil))
  · exact ⟨Int.le_refl _, by omega, by simp, by simp [sumU, encM]⟩
  rintro R ⟨i, ms⟩ ⟨hi0, hi1, hi2, hi3⟩ hR
  simp only at hi0 hi1 hi2 hi3
  conv => cbv
  split
  rotate_left
  · rename_i hc
    have hi : i = ls.length := by have := ltF' hA rfl (lenI hA hxl) hc; omega
    conv => cbv
    have hnb : ls.any badB = false := any_f (take_all hi hi2)
    rw [List.take_of_length_le (show ls.length ≤ i.toNat by omega), encM_zip] at hi3
    have hkv : (keysM (sumU ls.flatten)).length = (valsM (sumU ls.flatten)).length := by simp [keysM, valsM]
    unfold sumsR at hq
    rw [hnb, if_neg (by simp)] at hq
    generalize keysM (sumU ls.flatten) = KS at hi3 hkv hq
    generalize valsM (sumU ls.flatten) = VS at hi3 hkv hq
    refine ⟨_, Frz.map 0 _ none KS VS _ _ _ _ rfl (by rw [hi3]) hkv (Frz.refl _ _), ?_⟩
    conv => cbv
    exact hq
  rename_i hc
  have hi : i < ls.length := ltT' hA rfl (lenI hA hxl) hc
  have his : A.iAdd i 1 = i + 1 := addI hA _ _
  conv => cbv
  refine idx_UseL hA hx hi0 hi (fun l v hl hv => ?_)
  have ht := take_snoc' hi0 hl
  have hll := List.getElem?_eq_some_iff.1 hl
  have e : ls.flatten.length = (ls.take i.toNat).flatten.length + (l.length + (ls.drop (i.toNat + 1)).flatten.length) := by
    conv => lhs; rw [← List.take_append_drop i.toNat ls, List.drop_eq_getElem_cons hll.1, hll.2]
    simp
  have hlc : l.length ≤ 1000000 := by omega
  have hb := dm_bad l hv
  conv => cbv
  cases hbb : badB l with
  | true =>
    rw [hbb] at hb
    refine call_intro hA (hb) ?_
    conv => cbv
    exact ⟨_, Frz.refl _ _, by (conv => cbv); exact hbad (List.any_eq_true.2 ⟨l, List.mem_of_getElem? hl, hbb⟩)⟩
  | false =>
    rw [hbb] at hb
    refine call_intro hA (hb) ?_
    conv => cbv
    have hvl : v.length = l.length := by rw [hv, encUses_len]
    refine loop_set hA (fun (z : Int × List (PV × PV)) s => { (s.put (some 19) (.val (.int .i64 z.1))) with ax := ⟨[.ents z.2 none], s.ax.yk⟩ })
      (fun z => 0 ≤ z.1 ∧ z.1 ≤ l.length ∧ z.2 = encM encCell encInt (sumU ((ls.take i.toNat).flatten ++ l.take z.1.toNat))) (fun z => (l.length - z.1).toNat) (0, ms) ?_ ?_ ?_
    · conv => cbv
      exact wk_sl (by repeat (first | refine leL_same ?_ | refine leL_any ?_ | exact leL_nil))
    · exact ⟨Int.le_refl _, by omega, by rw [hi3]; simp⟩
    rintro R2 ⟨j, m2⟩ ⟨hj0, hj1, hj2⟩ hR2
    simp only at hj0 hj1 hj2
    conv => cbv
    split
    rotate_left
    · rename_i hc
      have hj : j = l.length := by have := ltF' hA rfl (lenI hA hvl) hc; omega
      conv => cbv
      refine ⟨inR' hA his (by unfold inI64; omega), hR (A.iAdd i 1, m2) _ ?_ ?_ ?_⟩
      · conv => cbv
        exact wk_sl (by repeat (first | refine leL_same ?_ | refine leL_any ?_ | exact leL_nil))
      · rw [his]
        refine ⟨by show 0 ≤ i + 1; omega, by show i + 1 ≤ _; omega, mem_snoc ht hi2 hbb, ?_⟩
        show m2 = encM encCell encInt (sumU (ls.take (i + 1).toNat).flatten)
        rw [hj2, ht, List.take_of_length_le (show l.length ≤ j.toNat by omega)]
        simp
      · show (ls.length - A.iAdd i 1).toNat < (ls.length - i).toNat
        rw [his]; omega
    rename_i hc
    have hj : j < l.length := ltT' hA rfl (lenI hA hvl) hc
    have hjs : A.iAdd j 1 = j + 1 := addI hA _ _
    refine skip_tail (hQ := fun _ => rfl) (fun R3 hR3 => ?_)
    conv => cbv
    refine idx_Use hA hv hj0 hj (fun u hu => ?_)
    have hut := take_snoc' hj0 hu
    have hsn : sumU ((ls.take i.toNat).flatten ++ l.take (j + 1).toNat) = addU (sumU ((ls.take i.toNat).flatten ++ l.take j.toNat)) u := by
      rw [hut, ← List.append_assoc, sumU_snoc]
    have hle : 0 ≤ (lookM (sumU ((ls.take i.toNat).flatten ++ l.take j.toNat)) u.Cell).getD 0 ∧ (lookM (sumU ((ls.take i.toNat).flatten ++ l.take j.toNat)) u.Cell).getD 0 ≤ 4096 * 1000000 ∧ 1 ≤ u.Places ∧ u.Places ≤ 4096 := by
      have hlf := badB_false.1 hbb
      have hok : ∀ u ∈ (ls.take i.toNat).flatten ++ l.take j.toNat, useOk u = true := fun u hu => by
        rcases List.mem_append.1 hu with h | h
        · obtain ⟨l', h1, h2⟩ := List.mem_flatten.1 h
          exact (badB_false.1 (hi2 l' h1)).1 u h2
        · exact hlf.1 u (List.mem_of_mem_take h)
      have hcnt : ((ls.take i.toNat).flatten ++ l.take j.toNat).length ≤ 1000000 := by
        rw [List.length_append, List.length_take]
        omega
      have hup := hlf.1 u (List.mem_of_getElem? hu)
      unfold useOk at hup
      simp only [Bool.and_eq_true, decide_eq_true_eq] at hup
      refine ⟨?_, ?_, hup.1, hup.2⟩
      all_goals
        cases hlo : lookM (sumU ((ls.take i.toNat).flatten ++ l.take j.toNat)) u.Cell with
        | none => simp
        | some v =>
          have := sumU_le hok _ (lookM_some_mem hlo)
          simp only [Option.getD_some] at this ⊢
          omega
    unfold addU at hsn
    generalize sumU ((ls.take i.toNat).flatten ++ l.take j.toNat) = E0 at hsn hle hj2
    obtain ⟨⟨u1, u2, u3⟩, u4⟩ := u
    simp only at hsn hle
    obtain ⟨o, ho⟩ : ∃ o, o = (lookM E0 ⟨u1, u2, u3⟩).getD 0 := ⟨_, rfl⟩
    rw [← ho] at hsn hle
    have hou : A.iAdd o u4 = o + u4 := addI hA _ _
    have hor : A.inR (A.iAdd o u4) := inR' hA hou (by unfold inI64; omega)
    have hK0 := keysOk_Cell (f := encInt) E0 ⟨u1, u2, u3⟩
    have hlk := lookE_enc keq_Cell (f := encInt) E0 ⟨u1, u2, u3⟩
    have hen := entE_enc keq_Cell (f := encInt) E0 ⟨u1, u2, u3⟩ 0
    conv => cbv
    refine hR3 _ ?_
    have hl2 : lookE m2 (encCell ⟨u1, u2, u3⟩) = (lookM E0 ⟨u1, u2, u3⟩).map encInt := by rw [hj2, lookE_enc keq_Cell]
    have hk2 : keysOk true [.bool, .int, .int] m2 (encCell ⟨u1, u2, u3⟩) := by rw [hj2]; exact keysOk_Cell _ _
    have hv2 : (lookE m2 (encCell ⟨u1, u2, u3⟩)).getD (.int .i64 0) = .int .i64 o := by
      rw [hl2, ho]
      cases lookM E0 ⟨u1, u2, u3⟩ <;> rfl
    obtain ⟨m3, hm3⟩ : ∃ m3, m3 = entE m2 (encCell ⟨u1, u2, u3⟩) (encInt 0) := ⟨_, rfl⟩
    have hv3 : (lookE m3 (encCell ⟨u1, u2, u3⟩)).getD (.int .i64 0) = .int .i64 o := by
      rw [hm3, hj2, show encInt 0 = encInt 0 from rfl, entE_enc keq_Cell, lookE_enc keq_Cell, lookM_ent, ho]
      rfl
    have hk3 : keysOk true [.bool, .int, .int] m3 (encCell ⟨u1, u2, u3⟩) := by rw [hm3, hj2, entE_enc keq_Cell]; exact keysOk_Cell _ _
    obtain ⟨m4, hm4⟩ : ∃ m4, m4 = putE m3 (encCell ⟨u1, u2, u3⟩) (encInt (A.iAdd o u4)) := ⟨_, rfl⟩
    have he3 : m3 = A.eEnt m2 (.agg [.bool u1, .int .i64 u2, .int .i64 u3]) (.int .i64 0) := by rw [hm3]; subst hA; rfl
    have he4 : m4 = A.ePut m3 (.agg [.bool u1, .int .i64 u2, .int .i64 u3]) (.int .i64 (A.iAdd o u4)) := by rw [hm4]; subst hA; rfl
    refine region_inv3 rfl (0 : Int) (fun n => [.mp 0, .box 0 0, .val (.agg [.bool u1, .int .i64 u2, .int .i64 u3]), .val (.int .i64 o), .box 0 3, .val (.int .i64 u4), .val (.int .i64 (A.iAdd o u4)), .val (.tup [.int .i64 o, .int .i64 n]), .val (.int .i64 n), .undef])
      (fun _ _ => [some [.val (.bool u1), .val (.int .i64 u2), .val (.int .i64 u3), .val (.int .i64 u4)]])
      (fun L n => [.ents (sel3 (L 9) (L 7) m4 m3 m2) (sel3 (L 9) (L 7) none (some (.agg [.bool u1, .int .i64 u2, .int .i64 u3], n)) none)])
      rfl (fun _ _ _ _ => rfl) (fun L L' h n => by simp only [h 9 (by decide), h 7 (by decide)]) rfl ?_ ?_
    intro L i' o' hi' hL hC he K' n hK
    rcases i' with _ | i'
    · cases hi'
      conv => cbv
      exact hK n
    rcases i' with _ | i'
    · cases hi'
      conv => cbv
      exact hK n
    rcases i' with _ | i'
    · cases hi'
      have h1 : L 1 = true := he ⟨1, .data⟩ (by simp) rfl
      conv => cbv
      simp only [h1]
      conv => cbv
      refine cast (congrArg K' ?_) (hK n)
      conv => lhs; cbv
      simp only [h1] <;> rfl
    rcases i' with _ | i'
    · cases hi'
      have h0 : L 0 = true := he ⟨0, .data⟩ (by simp) rfl
      have h2 : L 2 = true := he ⟨2, .data⟩ (by simp) rfl
      have h9 : L 9 = false := by
        cases h : L 9 with
        | false => rfl
        | true => exact absurd (hC 6 _ rfl (hC 9 _ rfl h ⟨6, .data⟩ (by simp) rfl) ⟨3, .data⟩ (by simp) rfl) (by rw [hL]; simp)
      cases h7 : L 7 with
      | false =>
        conv => cbv
        simp only [h0, h2, h7, h9]
        conv => cbv
        refine ⟨kOk_intro hA hk2, look_intro hA hv2 rfl ?_⟩
        conv => cbv
        refine cast (congrArg K' ?_) (hK n)
        conv => lhs; cbv
        simp only [h0, h2, h7, h9] <;> rfl
      | true =>
        conv => cbv
        simp only [h0, h2, h7, h9]
        conv => cbv
        refine ⟨kOk_intro hA hk3, look_intro hA hv3 rfl ?_⟩
        conv => cbv
        refine cast (congrArg K' ?_) (hK n)
        conv => lhs; cbv
        simp only [h0, h2, h7, h9] <;> rfl
    rcases i' with _ | i'
    · cases hi'
      conv => cbv
      exact hK n
    rcases i' with _ | i'
    · cases hi'
      have h4 : L 4 = true := he ⟨4, .data⟩ (by simp) rfl
      conv => cbv
      simp only [h4]
      conv => cbv
      refine cast (congrArg K' ?_) (hK n)
      conv => lhs; cbv
      simp only [h4] <;> rfl
    rcases i' with _ | i'
    · cases hi'
      have h3 : L 3 = true := he ⟨3, .data⟩ (by simp) rfl
      have h5 : L 5 = true := he ⟨5, .data⟩ (by simp) rfl
      conv => cbv
      simp only [h3, h5]
      conv => cbv
      refine ⟨hor, ?_⟩
      refine cast (congrArg K' ?_) (hK n)
      conv => lhs; cbv
      simp only [h3, h5] <;> rfl
    rcases i' with _ | i'
    · cases hi'
      have h0 : L 0 = true := he ⟨0, .data⟩ (by simp) rfl
      have h2 : L 2 = true := he ⟨2, .data⟩ (by simp) rfl
      have h8 : L 8 = false := by
        cases h : L 8 with
        | false => rfl
        | true => exact absurd (hC 8 _ rfl h ⟨7, .data⟩ (by simp) rfl) (by rw [hL]; simp)
      have h9 : L 9 = false := by
        cases h : L 9 with
        | false => rfl
        | true => exact absurd (hC 9 _ rfl h ⟨8, .data⟩ (by simp) rfl) (by rw [h8]; simp)
      conv => cbv
      simp only [h0, h2, hL, h9]
      conv => cbv
      subst he3
      refine ⟨kOk_intro hA hk2, look_intro hA hv2 rfl (ment_intro hA fun n' => ?_)⟩
      conv => cbv
      refine cast (congrArg K' ?_) (hK n')
      conv => lhs; cbv
      simp only [h0, h2, h8, hL, h9] <;> rfl
    rcases i' with _ | i'
    · cases hi'
      have h7 : L 7 = true := he ⟨7, .data⟩ (by simp) rfl
      conv => cbv
      simp only [h7]
      conv => cbv
      refine cast (congrArg K' ?_) (hK n)
      conv => lhs; cbv
      simp only [h7] <;> rfl
    rcases i' with _ | i'
    · cases hi'
      have h0 : L 0 = true := he ⟨0, .data⟩ (by simp) rfl
      have h6 : L 6 = true := he ⟨6, .data⟩ (by simp) rfl
      have h8 : L 8 = true := he ⟨8, .data⟩ (by simp) rfl
      have h7 : L 7 = true := hC 8 _ rfl h8 ⟨7, .data⟩ (by simp) rfl
      conv => cbv
      simp only [h0, h6, h7, h8, hL]
      conv => cbv
      subst he4
      refine ⟨same_intro hA rfl, ?_⟩
      refine cast (congrArg K' ?_) (hK n)
      conv => lhs; cbv
      simp only [h0, h6, h7, h8] <;> rfl
    · simp at hi'
    intro n
    conv => cbv
    refine ⟨inR' hA hjs (by unfold inI64; omega), hR2 (A.iAdd j 1, m4) _ ?_ ?_ ?_⟩
    · (conv => cbv)
      exact wk_round (bx := []) (bx' := [_]) (mp := [_]) (mp' := []) (by repeat (first | refine leL_same ?_ | refine leL_any ?_ | exact leL_nil)) (by simp) (by simp) rfl rfl
    · rw [hjs]
      refine ⟨by show 0 ≤ j + 1; omega, by show j + 1 ≤ _; omega, ?_⟩
      show m4 = encM encCell encInt (sumU ((ls.take i.toNat).flatten ++ l.take (j + 1).toNat))
      rw [hm4, hm3, hj2, entE_enc keq_Cell, putE_enc keq_Cell, putM_ent, hsn, hou]
    · show (l.length - A.iAdd j 1).toNat < (l.length - j).toNat
      rw [hjs]; omega
end Go.Abs
