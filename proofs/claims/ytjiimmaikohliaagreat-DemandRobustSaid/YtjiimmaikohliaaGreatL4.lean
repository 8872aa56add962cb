/-
  The law's tables (chapter 20); the examples that it begins with.
-/
import Derived.Test.YtjiimmaikohliaaGreatR41
set_option linter.unusedVariables false
set_option linter.unusedSimpArgs false
namespace Go.Abs
open Go.RowKit Go.Proofs

def law20L : List Leg := [⟨0, 0, 50, [⟨0, 1440⟩]⟩]
def law20T : Tables := ⟨1, [⟨⟨#[115]⟩, [⟨#[118]⟩], [0], 4, 2⟩], [⟨⟨#[99]⟩, [⟨#[115]⟩], [0]⟩], [⟨0, 1, law20L⟩], [[4], [4]], [⟨6, 8, 2, 1, 60, [[], []]⟩]⟩
def law20S : List Change := [⟨0, 0, [0, 0]⟩]
def law20P : List Path := [⟨0, [99, 100]⟩, ⟨0, [99, 101]⟩]
def pvJ (n : Int) : PV := .int .i64 n
/-- The law's tables, as they come out of the law's own function. -/
def law20TP : PV := .agg [pvJ 1, .list 5 [.agg [.str ⟨#[115]⟩, .list 1 [.str ⟨#[118]⟩], .list 1 [pvJ 0], pvJ 4, pvJ 2]], .list 3 [.agg [.str ⟨#[99]⟩, .list 1 [.str ⟨#[115]⟩], .list 1 [pvJ 0]]],
  .list 3 [.agg [pvJ 0, pvJ 1, .list 4 [.agg [pvJ 0, pvJ 0, pvJ 50, .list 2 [.agg [pvJ 0, pvJ 1440]]]]]], .list 1 [.list 1 [pvJ 4], .list 1 [pvJ 4]],
  .list 6 [.agg [pvJ 6, pvJ 8, pvJ 2, pvJ 1, pvJ 60, .list 1 [.list 0 [], .list 0 []]]]]

theorem law20_tables : CallsPV Tryz.prog 27 [] law20TP := by
  refine callsPV_by (clo := fun _ => false) (rows := false) env_ok Tryz.func27 rfl (enters_of Tryz.func27 (by kernel_rfl) rfl) (fun A q P Y hr hA hq => ?_)
  conv => cbv
  rw [← hq]
  rfl

theorem law20T_le : LeP law20TP (encTables law20T) := lePb_ok 12 _ _ (by decide)

theorem law20_sector (m : Int) : CallsPV Tryz.prog 28 [.int .i64 m] (encCell ⟨false, 0, m⟩) := by
  refine callsPV_by (clo := fun _ => false) (rows := false) env_ok Tryz.func28 rfl (enters_of Tryz.func28 (by kernel_rfl) rfl) (fun A q P Y hr hA hq => ?_)
  rw [show encCell ⟨false, 0, m⟩ = .agg [.bool false, .int .i64 0, .int .i64 m] from rfl] at hq
  conv => cbv
  exact hq
theorem law20_airport (i m : Int) : CallsPV Tryz.prog 29 [.int .i64 i, .int .i64 m] (encCell ⟨true, i, m⟩) := by
  refine callsPV_by (clo := fun _ => false) (rows := false) env_ok Tryz.func29 rfl (enters_of Tryz.func29 (by kernel_rfl) rfl) (fun A q P Y hr hA hq => ?_)
  rw [show encCell ⟨true, i, m⟩ = .agg [.bool true, .int .i64 i, .int .i64 m] from rfl] at hq
  conv => cbv
  exact hq

def law20U : List Use := [⟨⟨false, 0, 99⟩, 2⟩, ⟨⟨false, 0, 100⟩, 2⟩, ⟨⟨true, 0, 99⟩, 2⟩, ⟨⟨true, 1, 100⟩, 2⟩, ⟨⟨true, 1, 101⟩, 2⟩]
def law20V : List Use := [⟨⟨false, 0, 99⟩, 2⟩, ⟨⟨true, 0, 99⟩, 2⟩]
theorem air20 : airOk law20T = true := by decide
theorem cap20 : capErr law20T law20S = 0 := by unfold capErr; rw [air20]; decide
theorem st20 : stErr law20T law20P = 0 := by
  simp only [stErr, law20P, stErr1, air20, if_true]
  decide
theorem cE20 : cntErr law20T law20S 0 law20P = 0 := by
  unfold cntErr
  rw [cap20, st20]; decide
theorem cE20' : cntErr law20T law20S 0 [] = 0 := by
  unfold cntErr
  rw [cap20]; decide
theorem cE20n : cntErr law20T law20S (-1) [] = 200 := by
  unfold cntErr
  rw [cap20]; decide
theorem pc20 : law20P.map (pathCells law20T law20S) = [[⟨true, 0, 99⟩, ⟨false, 0, 99⟩, ⟨true, 1, 100⟩], [⟨true, 0, 99⟩, ⟨false, 0, 99⟩, ⟨false, 0, 100⟩, ⟨true, 1, 101⟩]] := by decide +kernel
theorem lu20 : leastU (law20P.map (pathCells law20T law20S)) 1 2 = law20U := by
  rw [pc20]
  unfold leastU leastC
  rw [sortC_eq (l' := [⟨false, 0, 99⟩, ⟨false, 0, 100⟩, ⟨true, 0, 99⟩, ⟨true, 1, 100⟩, ⟨true, 1, 101⟩]) (by decide +kernel) (by decide)]
  rfl
theorem lv20 : leastU (law20P.map (pathCells law20T law20S)) 2 2 = law20V := by
  rw [pc20]
  unfold leastU leastC
  rw [sortC_eq (l' := [⟨false, 0, 99⟩, ⟨true, 0, 99⟩]) (by decide +kernel) (by decide)]
  rfl
theorem r1_20 : leastR law20T law20S 0 law20P 1 = .tup [.list 4 (encUses law20U), .int .i64 0] := by
  unfold leastR
  rw [if_neg (by simp [cE20]), show placesC law20T 0 = 2 from rfl, lu20]
theorem r2_20 : leastR law20T law20S 0 law20P law20P.length = .tup [.list 4 (encUses law20V), .int .i64 0] := by
  unfold leastR
  rw [if_neg (by simp [cE20]), show placesC law20T 0 = 2 from rfl, show ((law20P.length : Nat) : Int) = 2 from rfl, lv20]
theorem r3_20 : leastR law20T law20S 0 [] 1 = .tup [.list 4 [], .int .i64 0] := by
  have h : leastU (([] : List Path).map (pathCells law20T law20S)) 1 (placesC law20T 0) = [] := by simp [leastU, leastC, sortC]
  unfold leastR
  rw [if_neg (by simp [cE20']), h]
  rfl
theorem r4_20 : leastR law20T law20S (-1) [] 1 = .tup [.list 0 [], .int .i64 200] := by
  unfold leastR
  rw [if_pos (by simp [cE20n]), cE20n]
theorem formed1_of {l : List Use} (h : l.all useOk = true) (hp : (l.map (·.Cell)).Pairwise cellLt) : badB l = false := by
  rw [badB_false]
  refine ⟨fun u hu => List.all_eq_true.1 h u hu, fun k x y hx hy => (cmpC_neg _ _).2 ?_⟩
  have hlt := (List.getElem?_eq_some_iff.1 hy).1
  have := List.pairwise_iff_getElem.1 hp k (k + 1) (by simp; omega) (by simpa using hlt) (by omega)
  simp only [List.getElem_map] at this
  rw [(List.getElem?_eq_some_iff.1 hx).2, (List.getElem?_eq_some_iff.1 hy).2] at this
  exact this
theorem badU20 : badB law20U = false := formed1_of (by decide) (by decide)
theorem badV20 : badB law20V = false := formed1_of (by decide) (by decide)
theorem badN20 : badB [] = false := formed1_of rfl List.Pairwise.nil
theorem r5_20 : addR [[⟨⟨false, 0, 5⟩, 0⟩]] = .tup [.list 0 [], .int .i64 200] := by
  unfold addR
  rw [if_pos]
  rw [List.any_cons, show badB [⟨⟨false, 0, 5⟩, 0⟩] = true from ?_]
  · rfl
  · cases h : badB [⟨⟨false, 0, 5⟩, 0⟩] with
    | true => rfl
    | false => have := (badB_false.1 h).1 _ (List.mem_singleton.2 rfl); revert this; decide
theorem r6_20 : addR [] = .tup [.list 4 [], .int .i64 0] := by
  have h : usesM (sumU ([] : List (List Use)).flatten) = [] := by simp [usesM, sumU, sortC]
  unfold addR
  rw [if_neg (by simp), h]
  rfl
theorem r7_20 : intR [law20V, []] [law20U, law20V] ⟨false, 0, 99⟩ = .tup [.int .i64 2, .int .i64 4, .int .i64 0] := by
  unfold intR
  rw [List.any_cons, List.any_cons, List.any_nil, List.any_cons, List.any_cons, List.any_nil, badU20, badV20, badN20]
  rfl
theorem r8_20 : cmpC ⟨true, 0, 5⟩ ⟨false, 0, 9⟩ = 1 := by decide

theorem ex_Uses (cl : Int) (l : List Path) {xs : List PV} (hx : xs = encPaths l) (hl : l.length ≤ 60) {r : PV} (h : leastR law20T law20S cl l 1 = r) : CallsPV Tryz.prog 12 [law20TP, encScheme law20S, .int .i64 cl, .list 2 xs] r :=
  h ▸ (dm_Uses law20T law20S cl l hx hl).le (.cons law20T_le (LeL.refl _)) (.refl _)
theorem ex_Sure (cl : Int) (l : List Path) {xs : List PV} (hx : xs = encPaths l) (hl : l.length ≤ 60) {r : PV} (h : leastR law20T law20S cl l l.length = r) : CallsPV Tryz.prog 14 [law20TP, encScheme law20S, .int .i64 cl, .list 2 xs] r :=
  h ▸ (dm_Sure law20T law20S cl l hx hl).le (.cons law20T_le (LeL.refl _)) (.refl _)

set_option maxHeartbeats 4000000 in
theorem law20_sane : CallsPV Tryz.prog 10 [] (.bool true) := by
  refine callsPV_by (clo := fun _ => false) (rows := false) env_ok Tryz.func10 rfl (enters_of Tryz.func10 (by kernel_rfl) rfl) (fun A q P Y hr hA hq => ?_)
  have c1 := ex_Uses 0 law20P rfl (by decide) r1_20
  have c2 := ex_Sure 0 law20P rfl (by decide) r2_20
  have c3 : CallsPV Tryz.prog 12 [law20TP, encScheme law20S, .int .i64 0, .list 0 []] (.tup [.list 4 [], .int .i64 0]) := (ex_Uses 0 [] rfl (by decide) r3_20).le (.cons (.refl _) (.cons (.refl _) (.cons (.refl _) (.cons (.nil _ _) .nil)))) (.refl _)
  have c4 : CallsPV Tryz.prog 12 [law20TP, encScheme law20S, .int .i64 (-1), .list 0 []] (.tup [.list 0 [], .int .i64 200]) := (ex_Uses (-1) [] rfl (by decide) r4_20).le (.cons (.refl _) (.cons (.refl _) (.cons (.refl _) (.cons (.nil _ _) .nil)))) (.refl _)
  have c5 := dm_Add [[⟨⟨false, 0, 5⟩, 0⟩]] rfl (by decide)
  rw [r5_20] at c5
  have c6 : CallsPV Tryz.prog 18 [.list 0 []] (.tup [.list 4 [], .int .i64 0]) := (r6_20 ▸ dm_Add [] rfl (by decide)).le (.cons (.nil _ _) .nil) (.refl _)
  have c7 : CallsPV Tryz.prog 20 [.list 1 [.list 4 (encUses law20V), .list 0 []], .list 1 [.list 4 (encUses law20U), .list 4 (encUses law20V)], encCell ⟨false, 0, 99⟩] (.tup [.int .i64 2, .int .i64 4, .int .i64 0]) :=
    (r7_20 ▸ dm_Interval [law20V, []] [law20U, law20V] ⟨false, 0, 99⟩ rfl rfl (by decide) (by decide)).le (.cons (lePb_ok 12 _ _ (by decide)) (.cons (.refl _) (.cons (.refl _) .nil))) (.refl _)
  have c8 := dm_Compare ⟨true, 0, 5⟩ ⟨false, 0, 9⟩
  rw [r8_20] at c8
  have d1 := ref20_Same law20U law20U rfl rfl
  have d2 := ref20_Same law20V law20V rfl rfl
  rw [decide_eq_true rfl] at d1 d2
  conv => cbv
  refine call_intro hA (law20_tables) ?_
  conv => cbv
  refine call_intro hA (c1) ?_
  conv => cbv
  refine call_intro hA (c2) ?_
  conv => cbv
  refine call_intro hA (c3) ?_
  conv => cbv
  refine call_intro hA (c4) ?_
  conv => cbv
  refine call_intro hA ((law20_sector 5)) ?_
  conv => cbv
  refine call_intro hA (c5) ?_
  conv => cbv
  refine call_intro hA (c6) ?_
  conv => cbv
  refine call_intro hA ((law20_sector 99)) ?_
  conv => cbv
  refine call_intro hA (c7) ?_
  conv => cbv
  split
  · rename_i hc
    cases (neT hA hc rfl)
  conv => cbv
  split
  · rename_i hc
    cases (neT hA hc rfl)
  conv => cbv
  split
  · rename_i hc
    cases (neT hA hc rfl)
  conv => cbv
  split
  · rename_i hc
    cases (neT hA hc rfl)
  conv => cbv
  split
  · rename_i hc
    cases (neT hA hc rfl)
  conv => cbv
  split
  · rename_i hc
    cases (neT hA hc rfl)
  conv => cbv
  split
  · rename_i hc
    cases (neT hA hc rfl)
  conv => cbv
  have hz : A.iAdd (A.lLen []) (A.lLen []) = 0 := by subst hA; rfl
  refine ⟨inR' hA hz (by unfold inI64; omega), ?_⟩
  conv => cbv
  split
  · rename_i hc
    cases (neT' hA hz rfl hc rfl)
  conv => cbv
  refine call_intro hA ((law20_airport 0 5)) ?_
  conv => cbv
  refine call_intro hA ((law20_sector 9)) ?_
  conv => cbv
  refine call_intro hA (c8) ?_
  conv => cbv
  split
  · rename_i hc
    cases (neT hA hc rfl)
  conv => cbv
  refine call_intro hA ((law20_sector 99)) ?_
  conv => cbv
  refine call_intro hA ((law20_sector 100)) ?_
  conv => cbv
  refine call_intro hA ((law20_airport 0 99)) ?_
  conv => cbv
  refine call_intro hA ((law20_airport 1 100)) ?_
  conv => cbv
  refine call_intro hA ((law20_airport 1 101)) ?_
  conv => cbv
  refine call_intro hA (d1) ?_
  conv => cbv
  refine call_intro hA ((law20_sector 99)) ?_
  conv => cbv
  refine call_intro hA ((law20_airport 0 99)) ?_
  conv => cbv
  refine call_intro hA (d2) ?_
  conv => cbv
  split
  rotate_left
  · rename_i hc
    cases (eqF hA hc rfl)
  conv => cbv
  rw [← hq]
  subst hA
  rfl
end Go.Abs
