/-
  slices.SortFunc at []api.Cell by the library's contract (the laying printed by genC4.py).
-/
import Derived.Test.YtjiimmaikohliaaGreatP10
import Derived.Test.YtjiimmaikohliaaGreatTyp
set_option linter.unusedVariables false
set_option linter.unusedSimpArgs false
namespace Go.Abs
open Go.RowKit Go.Proofs Go.Shelf Go.Sort Go.Lib

def renSortCell : Ren := ⟨fun x => if x = 6 then 84 else if x = 14 then 118 else if x = 15 then 119 else if x = 20 then 138 else if x = 21 then 139 else if x = 22 then 140 else if x = 23 then 141 else if x = 24 then 142 else if x = 25 then 143 else if x = 26 then 144 else if x = 27 then 145 else if x = 28 then 146 else if x = 29 then 147 else if x = 46 then 151 else if x = 47 then 152 else if x = 48 then 153 else if x = 49 then 154 else if x = 50 then 155 else 157, fun x => if x = 0 then 0 else if x = 3 then 3 else if x = 4 then 4 else if x = 5 then 5 else if x = 9 then 9 else if x = 22 then 86 else if x = 24 then 43 else if x = 25 then 48 else if x = 39 then 181 else if x = 45 then 201 else if x = 46 then 202 else if x = 50 then 157 else if x = 53 then 208 else if x = 55 then 190 else if x = 66 then 211 else if x = 70 then 215 else if x = 76 then 217 else 218, id⟩

theorem laySortCell : SlLaysF0.n6 Tryz.prog renSortCell where
  mixed := by kernel_rfl
  f6 := ⟨"slices.SortFunc[[]overflight/api.Cell,overflight/api.Cell]", rfl, by kernel_rfl⟩
  f14 := ⟨"slices.pdqsortCmpFunc[overflight/api.Cell]", rfl, by kernel_rfl⟩
  f15 := by kernel_rfl
  f20 := ⟨"slices.insertionSortCmpFunc[overflight/api.Cell]", rfl, by kernel_rfl⟩
  f21 := ⟨"slices.heapSortCmpFunc[overflight/api.Cell]", rfl, by kernel_rfl⟩
  f22 := ⟨"slices.breakPatternsCmpFunc[overflight/api.Cell]", rfl, by kernel_rfl⟩
  f23 := ⟨"slices.choosePivotCmpFunc[overflight/api.Cell]", rfl, by kernel_rfl⟩
  f24 := ⟨"slices.reverseRangeCmpFunc[overflight/api.Cell]", rfl, by kernel_rfl⟩
  f25 := ⟨"slices.partialInsertionSortCmpFunc[overflight/api.Cell]", rfl, by kernel_rfl⟩
  f26 := ⟨"slices.partitionEqualCmpFunc[overflight/api.Cell]", rfl, by kernel_rfl⟩
  f27 := ⟨"slices.partitionCmpFunc[overflight/api.Cell]", rfl, by kernel_rfl⟩
  f28 := by kernel_rfl
  f29 := by kernel_rfl
  f46 := ⟨"slices.siftDownCmpFunc[overflight/api.Cell]", rfl, by kernel_rfl⟩
  f47 := by kernel_rfl
  f48 := by kernel_rfl
  f49 := ⟨"slices.medianAdjacentCmpFunc[overflight/api.Cell]", rfl, by kernel_rfl⟩
  f50 := ⟨"slices.medianCmpFunc[overflight/api.Cell]", rfl, by kernel_rfl⟩
  f57 := ⟨"slices.order2CmpFunc[overflight/api.Cell]", rfl, by kernel_rfl⟩
  t0 := Tryz.underlying0
  a0 := Tryz.isAgg0
  z0 := Tryz.sizeOf0
  v0 := Tryz.zeroValue0
  t3 := Tryz.underlying3
  a3 := Tryz.isAgg3
  z3 := Tryz.sizeOf3
  v3 := Tryz.zeroValue3
  t4 := Tryz.underlying4
  a4 := Tryz.isAgg4
  z4 := Tryz.sizeOf4
  v4 := Tryz.zeroValue4
  t5 := Tryz.underlying5
  a5 := Tryz.isAgg5
  z5 := Tryz.sizeOf5
  v5 := Tryz.zeroValue5
  t9 := Tryz.underlying9
  a9 := Tryz.isAgg9
  z9 := Tryz.sizeOf9
  v9 := Tryz.zeroValue9
  t22 := Tryz.underlying86
  a22 := Tryz.isAgg86
  z22 := Tryz.sizeOf86
  v22 := Tryz.zeroValue86
  t25 := Tryz.underlying48
  a25 := Tryz.isAgg48
  z25 := Tryz.sizeOf48
  v25 := Tryz.zeroValue48
  t39 := Tryz.underlying181
  a39 := Tryz.isAgg181
  z39 := Tryz.sizeOf181
  v39 := Tryz.zeroValue181
  t45 := Tryz.underlying201
  a45 := Tryz.isAgg201
  z45 := Tryz.sizeOf201
  v45 := Tryz.zeroValue201
  t46 := Tryz.underlying202
  a46 := Tryz.isAgg202
  z46 := Tryz.sizeOf202
  v46 := Tryz.zeroValue202
  t50 := Tryz.underlying157
  a50 := Tryz.isAgg157
  z50 := Tryz.sizeOf157
  v50 := Tryz.zeroValue157
  t53 := Tryz.underlying208
  a53 := Tryz.isAgg208
  z53 := Tryz.sizeOf208
  v53 := Tryz.zeroValue208
  t55 := Tryz.underlying190
  a55 := Tryz.isAgg190
  z55 := Tryz.sizeOf190
  v55 := Tryz.zeroValue190
  t66 := Tryz.underlying211
  a66 := Tryz.isAgg211
  z66 := Tryz.sizeOf211
  v66 := Tryz.zeroValue211
  t70 := Tryz.underlying215
  a70 := Tryz.isAgg215
  z70 := Tryz.sizeOf215
  v70 := Tryz.zeroValue215
  t76 := Tryz.underlying217
  a76 := Tryz.isAgg217
  z76 := Tryz.sizeOf217
  v76 := Tryz.zeroValue217
  t77 := Tryz.underlying218
  a77 := Tryz.isAgg218
  z77 := Tryz.sizeOf218
  v77 := Tryz.zeroValue218

instance : Inhabited Cell := ⟨⟨false, 0, 0⟩⟩
/-- A cell's cells. -/
def pvC (c : Cell) : List PV := [.bool c.Airport, .int .i64 c.Index, .int .i64 c.Minute]
theorem encCell_pv (c : Cell) : encCell c = .agg (pvC c) := rfl

theorem sortFunc_Cell {rows : Bool} {clo : FuncId → Bool} {Y : YS} {bx : List (Option (List SV))} {tk : List (Nat × TypeId)} {ax : Ax} {id n cap : Nat} {zs : List Cell} {rest : List SV} (hc : bx[id]? = some (some ((zs.flatMap pvC).map SV.val ++ rest))) (hn : n = zs.length) (hz : zs.length < 4611686018427387904) :
    CallsR ⟨Tryz.prog, tab, clo, rows, Y⟩ 84 [.row id 0 3 n cap, .val (.fn 22 [])] bx tk ax
      fun r bx' tk' ax' => r = .val (.tup []) ∧ bx' = bx.set id (some (((sortC zs).flatMap pvC).map SV.val ++ rest)) ∧ tk' = tk ∧ ax' = ax := by
  subst hn
  have hfl : ∀ x, ∀ p ∈ pvC x, p.flat1 = true := fun x p hp => by
    simp only [pvC, List.mem_cons, List.not_mem_nil, or_false] at hp
    rcases hp with rfl | rfl | rfl <;> rfl
  refine callsR_rowK (E := ⟨Tryz.prog, tab, clo, rows, Y⟩) pvC 3 (fun _ => rfl) (by decide) hfl (enters_of Tryz.func84 (by kernel_rfl) rfl) hc ((sortC_perm zs).length_eq) fun w b hH hb hcap hmax => ?_
  have h := AnyQ.slices_SortFunc_total laySortCell 3 Tryz.isAgg43 Tryz.sizeOf43 (valsK pvC) (fun _ => rfl) (fun x v hv => by
    obtain ⟨p, hp, rfl⟩ := List.mem_map.1 hv
    exact toVal1_one (hfl x p hp)) cmpC swoC 22 #[] b 0 cap zs.toArray w (enters_of Tryz.func22 (by kernel_rfl) rfl) (cmpLays_of pvC 3 hfl cmpC (fun x y => dm_Compare x y) b 0 zs.toArray.size w) hH hb (by simpa using hz) ltC_tri
  refine Calls.mono (show Calls Tryz.prog 84 _ w _ from h) ?_
  rintro e w' ⟨rfl, q, os, rfl⟩
  exact ⟨rfl, q, os, rfl⟩

theorem sortFunc_none {m : Nat} {g : FuncId} : CallsPV Tryz.prog 84 [.list m [], .fn g []] (.tup []) := by
  refine ⟨enters_of Tryz.func84 (by kernel_rfl) rfl, fun S w vs hS hv => ?_⟩
  obtain ⟨hl, hv⟩ := hv
  match vs, hl with
  | [u, f], _ =>
    have h0 : RV S w (.list m []) u := hv 0 _ u rfl rfl
    obtain ⟨a, ad, cap, g', rfl, _⟩ := RV.slice_iff h0
    refine (AnyF.slices_SortFunc_none laySortCell a cap f w).mono ?_
    rintro e w' ⟨rfl, rfl⟩
    exact ⟨_, rfl, Below.refl _ _, RV.tup [] [] rfl (by simp)⟩
end Go.Abs
