/-
  slices.Sort and slices.Compact at []int, by the library's contracts (printed by genC3.py).
-/
import Derived.Test.YtbljnbpddboohaaA5
import Derived.Test.YtbljnbpddboohaaTyp
import Derived.Shelf.SortM.Plain
import Derived.Shelf.Slices.CompactI
set_option linter.unusedVariables false
set_option linter.unusedSimpArgs false
namespace Go.Abs
open Go.RowKit Go.Proofs Go.Shelf Go.Sort Go.Lib

def renSort : Ren := ⟨fun x => if x = 5 then 53 else if x = 7 then 75 else if x = 8 then 76 else if x = 10 then 88 else if x = 11 then 89 else if x = 12 then 90 else if x = 13 then 91 else if x = 14 then 92 else if x = 15 then 93 else if x = 16 then 94 else if x = 17 then 95 else if x = 18 then 96 else if x = 19 then 97 else if x = 20 then 98 else if x = 30 then 101 else if x = 31 then 102 else if x = 32 then 103 else if x = 33 then 104 else if x = 34 then 105 else if x = 35 then 56 else 106, fun x => if x = 0 then 0 else if x = 3 then 3 else if x = 4 then 4 else if x = 5 then 5 else if x = 9 then 9 else if x = 22 then 29 else if x = 23 then 29 else if x = 25 then 3 else if x = 32 then 125 else if x = 35 then 142 else if x = 36 then 143 else if x = 41 then 148 else if x = 44 then 151 else if x = 46 then 134 else if x = 53 then 154 else if x = 57 then 158 else if x = 63 then 160 else 161, id⟩

theorem laySort : SlLaysM.n5 Try.prog renSort where
  mixed := by kernel_rfl
  f5 := ⟨"slices.Sort[[]int,int]", rfl, by kernel_rfl⟩
  f7 := ⟨"slices.pdqsortOrdered[int]", rfl, by kernel_rfl⟩
  f8 := by kernel_rfl
  f10 := ⟨"slices.insertionSortOrdered[int]", rfl, by kernel_rfl⟩
  f11 := ⟨"slices.heapSortOrdered[int]", rfl, by kernel_rfl⟩
  f12 := ⟨"slices.breakPatternsOrdered[int]", rfl, by kernel_rfl⟩
  f13 := ⟨"slices.choosePivotOrdered[int]", rfl, by kernel_rfl⟩
  f14 := ⟨"slices.reverseRangeOrdered[int]", rfl, by kernel_rfl⟩
  f15 := ⟨"slices.partialInsertionSortOrdered[int]", rfl, by kernel_rfl⟩
  f16 := ⟨"cmp.Less[int]", rfl, by kernel_rfl⟩
  f17 := ⟨"slices.partitionEqualOrdered[int]", rfl, by kernel_rfl⟩
  f18 := ⟨"slices.partitionOrdered[int]", rfl, by kernel_rfl⟩
  f19 := by kernel_rfl
  f20 := by kernel_rfl
  f30 := ⟨"slices.siftDownOrdered[int]", rfl, by kernel_rfl⟩
  f31 := by kernel_rfl
  f32 := by kernel_rfl
  f33 := ⟨"slices.medianAdjacentOrdered[int]", rfl, by kernel_rfl⟩
  f34 := ⟨"slices.medianOrdered[int]", rfl, by kernel_rfl⟩
  f35 := ⟨"cmp.isNaN[int]", rfl, by kernel_rfl⟩
  f40 := ⟨"slices.order2Ordered[int]", rfl, by kernel_rfl⟩
  t0 := Try.underlying0
  a0 := Try.isAgg0
  z0 := Try.sizeOf0
  v0 := Try.zeroValue0
  t3 := Try.underlying3
  a3 := Try.isAgg3
  z3 := Try.sizeOf3
  v3 := Try.zeroValue3
  t4 := Try.underlying4
  a4 := Try.isAgg4
  z4 := Try.sizeOf4
  v4 := Try.zeroValue4
  t5 := Try.underlying5
  a5 := Try.isAgg5
  z5 := Try.sizeOf5
  v5 := Try.zeroValue5
  t9 := Try.underlying9
  a9 := Try.isAgg9
  z9 := Try.sizeOf9
  v9 := Try.zeroValue9
  t22 := Try.underlying29
  a22 := Try.isAgg29
  z22 := Try.sizeOf29
  v22 := Try.zeroValue29
  t23 := Try.underlying29
  a23 := Try.isAgg29
  z23 := Try.sizeOf29
  v23 := Try.zeroValue29
  t25 := Try.underlying3
  a25 := Try.isAgg3
  z25 := Try.sizeOf3
  v25 := Try.zeroValue3
  t32 := Try.underlying125
  a32 := Try.isAgg125
  z32 := Try.sizeOf125
  v32 := Try.zeroValue125
  t35 := Try.underlying142
  a35 := Try.isAgg142
  z35 := Try.sizeOf142
  v35 := Try.zeroValue142
  t36 := Try.underlying143
  a36 := Try.isAgg143
  z36 := Try.sizeOf143
  v36 := Try.zeroValue143
  t41 := Try.underlying148
  a41 := Try.isAgg148
  z41 := Try.sizeOf148
  v41 := Try.zeroValue148
  t44 := Try.underlying151
  a44 := Try.isAgg151
  z44 := Try.sizeOf151
  v44 := Try.zeroValue151
  t46 := Try.underlying134
  a46 := Try.isAgg134
  z46 := Try.sizeOf134
  v46 := Try.zeroValue134
  t53 := Try.underlying154
  a53 := Try.isAgg154
  z53 := Try.sizeOf154
  v53 := Try.zeroValue154
  t57 := Try.underlying158
  a57 := Try.isAgg158
  z57 := Try.sizeOf158
  v57 := Try.zeroValue158
  t63 := Try.underlying160
  a63 := Try.isAgg160
  z63 := Try.sizeOf160
  v63 := Try.zeroValue160
  t64 := Try.underlying161
  a64 := Try.isAgg161
  z64 := Try.sizeOf161
  v64 := Try.zeroValue161

def renCompact : Ren := ⟨fun _ => 24, fun x => if x = 0 then 0 else if x = 3 then 3 else if x = 4 then 4 else 29, id⟩

theorem layCompact : Lays2.n20 Try.prog renCompact where
  mixed := by kernel_rfl
  f20 := by kernel_rfl
  t0 := Try.underlying0
  a0 := Try.isAgg0
  z0 := Try.sizeOf0
  v0 := Try.zeroValue0
  t3 := Try.underlying3
  a3 := Try.isAgg3
  z3 := Try.sizeOf3
  v3 := Try.zeroValue3
  t4 := Try.underlying4
  a4 := Try.isAgg4
  z4 := Try.sizeOf4
  v4 := Try.zeroValue4
  t22 := Try.underlying29
  a22 := Try.isAgg29
  z22 := Try.sizeOf29
  v22 := Try.zeroValue29
  i3 := by kernel_rfl

theorem compactUpTo_le {α : Type} [Inhabited α] [DecidableEq α] (d : Array α) (m : Nat) : (compactUpTo d m).length ≤ m := by
  unfold compactUpTo
  rw [List.length_map]
  exact Nat.le_trans (List.length_filter_le _ _) (by simp)

theorem slices_Sort {rows : Bool} {clo : FuncId → Bool} {Y : YS} {bx : List (Option (List SV))} {tk : List (Nat × TypeId)} {ax : Ax} {id n cap : Nat} {zs : List Int} {rest : List SV} (hc : bx[id]? = some (some ((encInts zs).map SV.val ++ rest))) (hn : n = zs.length) (hz : zs.length < 4611686018427387904) :
    CallsR ⟨Try.prog, tab, clo, rows, Y⟩ 53 [.row id 0 1 n cap] bx tk ax fun r bx' tk' ax' => r = .val (.tup []) ∧ (∃ d, d.length = zs.length ∧ d = zs.mergeSort (fun x y => decide (x ≤ y)) ∧ bx' = bx.set id (some ((encInts d).map SV.val ++ rest))) ∧ tk' = tk ∧ ax' = ax := by
  subst hn
  refine callsR_rowI (E := ⟨Try.prog, tab, clo, rows, Y⟩) (enters_of Try.func53 (by kernel_rfl) rfl) hc (.val (.tup [])) (fun _ => .tuple #[]) (fun tk G S w b hb => RV.tup [] [] rfl (by simp)) (fun d => d = zs.mergeSort fun x y => decide (x ≤ y)) fun w b hH hb hcap hmax => ?_
  have h := AnyM.slices_Sort_int laySort b 0 cap zs w hH hb hz
  refine Calls.mono (show Calls Try.prog 53 _ w _ from h) ?_
  rintro e w' ⟨rfl, k, os, rfl⟩
  exact ⟨rfl, k, os, _, by simp, rfl, rfl⟩

theorem slices_Compact {rows : Bool} {clo : FuncId → Bool} {Y : YS} {bx : List (Option (List SV))} {tk : List (Nat × TypeId)} {ax : Ax} {id n cap : Nat} {zs : List Int} {rest : List SV} (hc : bx[id]? = some (some ((encInts zs).map SV.val ++ rest))) (hn : n = zs.length) (hz : zs.length < 4611686018427387904) (hcap : n ≤ cap) (hmax : cap ≤ maxLen) :
    CallsR ⟨Try.prog, tab, clo, rows, Y⟩ 24 [.row id 0 1 n cap] bx tk ax fun r bx' tk' ax' => r = .row id 0 1 (compactUpTo zs.toArray zs.length).length cap ∧ (∃ d, d.length = zs.length ∧ True ∧ bx' = bx.set id (some ((encInts d).map SV.val ++ rest))) ∧ tk' = tk ∧ ax' = ax := by
  subst hn
  have hle : (compactUpTo zs.toArray zs.length).length ≤ zs.length := compactUpTo_le _ _
  refine callsR_rowI (E := ⟨Try.prog, tab, clo, rows, Y⟩) (enters_of Try.func24 (by kernel_rfl) rfl) hc (.row id 0 1 (compactUpTo zs.toArray zs.length).length cap) (fun b => .slice (some ⟨b, 0, none⟩) (compactUpTo zs.toArray zs.length).length cap) (fun tk G S w b hb => ⟨b, hb, rfl, by omega, hmax⟩) (fun d => True) fun w b hH hb hcap hmax => ?_
  have h := Any.slices_Compact_int_arr layCompact b 0 cap zs.toArray w hH (by simp; omega) (by simpa using hcap)
  refine Calls.mono (show Calls Try.prog 24 _ w _ from h) ?_
  rintro e w' ⟨rfl, k, rfl⟩
  refine ⟨by simp, k, #[], compactUpTo zs.toArray zs.length ++ List.replicate (zs.length - (compactUpTo zs.toArray zs.length).length) 0, by simp; omega, trivial, ?_⟩
  simp [grow]
  rfl
end Go.Abs
