/-
  Functions: demand.Add, Interval, least, Uses, Sure.
-/
import Derived.Test.YtjiimmaikohliaaGreatF45
set_option linter.unusedVariables false
set_option linter.unusedSimpArgs false
namespace Go.Abs
open Go.RowKit Go.Proofs

/-- What demand.Add returns. -/
noncomputable def addR (ls : List (List Use)) : PV := if ls.any badB then .tup [.list 0 [], .int .i64 200] else .tup [.list 4 (encUses (usesM (sumU ls.flatten))), .int .i64 0]

theorem sumU_len (us : List Use) : (sumU us).length ≤ us.length := by
  unfold sumU
  suffices h : ∀ es : List (Cell × Int), (us.foldl addU es).length ≤ es.length + us.length by simpa using h []
  induction us with
  | nil => simp
  | cons u us ih =>
    intro es
    rw [List.foldl_cons, List.length_cons]
    have h1 := ih (addU es u)
    have h2 : (addU es u).length ≤ es.length + 1 := by
      have := congrArg List.length (putM_keys es u.Cell ((lookM es u.Cell).getD 0 + u.Places))
      rw [List.length_map] at this
      unfold addU
      rw [this]
      split <;> simp
    omega

theorem dm_Add (ls : List (List Use)) {xs : List PV} (hx : xs = encUseLs ls) (hfew : ls.flatten.length ≤ 1000000) : CallsPV Tryz.prog 18 [.list 1 xs] (addR ls) := by
  refine callsPV_by (clo := fun _ => false) (rows := false) env_ok Tryz.func18 rfl (enters_of Tryz.func18 (by kernel_rfl) rfl) (fun A q P Y hr hA hq => ?_)
  have hs := dm_sums ls hx hfew
  have h2 := fun h => dm_sorted (sumU ls.flatten) (sumU_nod _) h rfl rfl rfl
  have hl := sumU_len ls.flatten
  unfold addR at hq
  unfold sumsR at hs
  generalize keysM (sumU ls.flatten) = ks at hs h2
  generalize valsM (sumU ls.flatten) = vs at hs h2
  generalize encUses (usesM (sumU ls.flatten)) = us at hq h2
  cases hb : ls.any badB with
  | true =>
    rw [hb] at hs hq
    simp only [if_true] at hs hq
    conv => cbv
    refine call_intro hA hs ?_
    conv => cbv
    split
    · conv => cbv
      exact hq
    · rename_i hc
      cases (nF hA hc)
  | false =>
    rw [hb] at hs hq
    simp only [Bool.false_eq_true, if_false] at hs hq
    conv => cbv
    refine call_intro hA hs ?_
    conv => cbv
    split
    · rename_i hc
      cases (nT hA hc)
    · conv => cbv
      refine call_intro hA (h2 (by omega)) ?_
      conv => cbv
      exact hq

/-- The sum of a cell's places. -/
def sumAt (ls : List (List Use)) (c : Cell) : Int := (lookM (sumU ls.flatten) c).getD 0
noncomputable def intR (l1 l2 : List (List Use)) (c : Cell) : PV := if l1.any badB || l2.any badB then .tup [.int .i64 0, .int .i64 0, .int .i64 200] else .tup [.int .i64 (sumAt l1 c), .int .i64 (sumAt l2 c), .int .i64 0]

theorem sums_look {A : Ops} {E : Env} (hA : A = stdOps E) (ls : List (List Use)) (c : Cell) {ks vs : List PV} (hks : ks = keysM (sumU ls.flatten)) (hvs : vs = valsM (sumU ls.flatten)) :
    keysOk true [.bool, .int, .int] (A.eZip ks vs) (encCell c) ∧ (lookE (A.eZip ks vs) (encCell c)).getD (.int .i64 0) = .int .i64 (sumAt ls c) := by
  subst hA
  show keysOk true [.bool, .int, .int] (ks.zip vs) (encCell c) ∧ (lookE (ks.zip vs) (encCell c)).getD (.int .i64 0) = _
  rw [hks, hvs, ← encM_zip]
  refine ⟨keysOk_Cell _ _, ?_⟩
  rw [lookE_enc keq_Cell]
  unfold sumAt
  cases lookM (sumU ls.flatten) c <;> rfl

set_option maxHeartbeats 4000000 in
theorem dm_Interval (l1 l2 : List (List Use)) (c : Cell) {xs ys : List PV} (hx : xs = encUseLs l1) (hy : ys = encUseLs l2) (hf1 : l1.flatten.length ≤ 1000000) (hf2 : l2.flatten.length ≤ 1000000) :
    CallsPV Tryz.prog 20 [.list 1 xs, .list 1 ys, encCell c] (intR l1 l2 c) := by
  refine callsPV_by (clo := fun _ => false) (rows := false) env_ok Tryz.func20 rfl (enters_of Tryz.func20 (by kernel_rfl) rfl) (fun A q P Y hr hA hq => ?_)
  have hs1 := dm_sums l1 hx hf1
  have hs2 := dm_sums l2 hy hf2
  have k1 := fun ks vs h1 h2 => sums_look hA l1 c (ks := ks) (vs := vs) h1 h2
  have k2 := fun ks vs h1 h2 => sums_look hA l2 c (ks := ks) (vs := vs) h1 h2
  unfold intR at hq
  unfold sumsR at hs1 hs2
  obtain ⟨p1, hp1⟩ : ∃ p1, p1 = keysM (sumU l1.flatten) := ⟨_, rfl⟩
  obtain ⟨v1, hv1⟩ : ∃ v1, v1 = valsM (sumU l1.flatten) := ⟨_, rfl⟩
  obtain ⟨p2, hp2⟩ : ∃ p2, p2 = keysM (sumU l2.flatten) := ⟨_, rfl⟩
  obtain ⟨v2, hv2⟩ : ∃ v2, v2 = valsM (sumU l2.flatten) := ⟨_, rfl⟩
  have k1 := k1 p1 v1 hp1 hv1
  have k2 := k2 p2 v2 hp2 hv2
  rw [← hp1, ← hv1] at hs1
  rw [← hp2, ← hv2] at hs2
  generalize sumAt l1 c = n1 at k1 hq
  generalize sumAt l2 c = n2 at k2 hq
  obtain ⟨c1, c2, c3⟩ := c
  have k1a : keysOk true [.bool, .int, .int] (A.eZip p1 v1) (.agg [.bool c1, .int .i64 c2, .int .i64 c3]) := k1.1
  have k1b : (lookE (A.eZip p1 v1) (.agg [.bool c1, .int .i64 c2, .int .i64 c3])).getD (.int .i64 0) = .int .i64 n1 := k1.2
  have k2a : keysOk true [.bool, .int, .int] (A.eZip p2 v2) (.agg [.bool c1, .int .i64 c2, .int .i64 c3]) := k2.1
  have k2b : (lookE (A.eZip p2 v2) (.agg [.bool c1, .int .i64 c2, .int .i64 c3])).getD (.int .i64 0) = .int .i64 n2 := k2.2
  generalize l1.any badB = b1 at hs1 hq
  generalize l2.any badB = b2 at hs2 hq
  cases b1 <;> cases b2 <;> simp only [Bool.or_true, Bool.or_false, Bool.true_or, Bool.false_or, Bool.or_self, if_true, Bool.false_eq_true, if_false] at hs1 hs2 hq
  · conv => cbv
    refine call_intro hA hs1 ?_
    conv => cbv
    refine call_intro hA hs2 ?_
    conv => cbv
    split
    · rename_i hc
      cases (nT hA hc)
    conv => cbv
    split
    · rename_i hc
      cases (nT hA hc)
    conv => cbv
    refine ⟨draw_intro hA (by kernel_rfl), ?_⟩
    refine ⟨kOk_intro hA k1a, look_intro hA k1b rfl ?_⟩
    conv => cbv
    refine ⟨kOk_intro hA k2a, look_intro hA k2b rfl ?_⟩
    conv => cbv
    exact hq
  · conv => cbv
    refine call_intro hA hs1 ?_
    conv => cbv
    refine call_intro hA hs2 ?_
    conv => cbv
    split
    · rename_i hc
      cases (nT hA hc)
    conv => cbv
    split
    · conv => cbv
      exact hq
    · rename_i hc
      cases (nF hA hc)
  all_goals
    conv => cbv
    refine call_intro hA hs1 ?_
    conv => cbv
    refine call_intro hA hs2 ?_
    conv => cbv
    split
    · conv => cbv
      first
      | exact hq
      | (split
         · conv => cbv
           exact hq
         · rename_i hc
           cases (nF hA hc))
    · rename_i hc
      cases (nF hA hc)
end Go.Abs
