/-
  slices.Sort and slices.Compact at []int, by the library's contracts (printed by genC3.py).
-/
import Derived.Test.YtbljnbpddboohaaGreatA5
import Derived.Test.YtbljnbpddboohaaGreatTyp
import Derived.Shelf.SortM.Plain
import Derived.Shelf.Slices.CompactI
set_option linter.unusedVariables false
set_option linter.unusedSimpArgs false
namespace Go.Abs
open Go.RowKit Go.Proofs Go.Shelf Go.Sort Go.Lib

def renSort : Ren := ⟨fun x => if x = 5 then 58 else if x = 7 then 88 else if x = 8 then 89 else if x = 10 then 106 else if x = 11 then 107 else if x = 12 then 108 else if x = 13 then 109 else if x = 14 then 110 else if x = 15 then 111 else if x = 16 then 112 else if x = 17 then 113 else if x = 18 then 114 else if x = 19 then 115 else if x = 20 then 116 else if x = 30 then 121 else if x = 31 then 122 else if x = 32 then 123 else if x = 33 then 124 else if x = 34 then 125 else if x = 35 then 70 else 126, fun x => if x = 0 then 0 else if x = 3 then 3 else if x = 4 then 4 else if x = 5 then 5 else if x = 9 then 9 else if x = 22 then 29 else if x = 23 then 29 else if x = 25 then 3 else if x = 32 then 126 else if x = 35 then 146 else if x = 36 then 147 else if x = 41 then 152 else if x = 44 then 155 else if x = 46 then 138 else if x = 53 then 158 else if x = 57 then 162 else if x = 63 then 164 else 165, id⟩

theorem laySort : SlLaysM.n5 Tryz.prog renSort where
  mixed := by kernel_rfl
  f5 := ⟨"slices.Sort[[]int,int]", rfl, by kernel_rfl⟩
  f7 := ⟨"slices.pdqsortOrdered[int]", rfl, by kernel_rfl⟩
  f8 := by kernel_rfl
  f10 := ⟨"slices.insertionSortOrdered[int]", rfl, by kernel_rfl⟩
  f11 := ⟨"slices.heapSortOrdered[int]", rfl, by kernel_rfl⟩
  f12 := ⟨"slices.breakPatternsOrdered[int]", rfl, by kernel_rfl⟩
  f13 := ⟨"slices.choosePivotOrdered[int]", rfl, by kernel_rfl⟩
  f14 := ⟨"slices.reverseRangeOrdered[int]", rfl, by kernel_rfl⟩
  f15 := ⟨"slices.partialInsertionSortOrdered[int]", rfl, by kernel_rfl⟩
  f16 := ⟨"cmp.Less[int]", rfl, by kernel_rfl⟩
  f17 := ⟨"slices.partitionEqualOrdered[int]", rfl, by kernel_rfl⟩
  f18 := ⟨"slices.partitionOrdered[int]", rfl, by kernel_rfl⟩
  f19 := by kernel_rfl
  f20 := by kernel_rfl
  f30 := ⟨"slices.siftDownOrdered[int]", rfl, by kernel_rfl⟩
  f31 := by kernel_rfl
  f32 := by kernel_rfl
  f33 := ⟨"slices.medianAdjacentOrdered[int]", rfl, by kernel_rfl⟩
  f34 := ⟨"slices.medianOrdered[int]", rfl, by kernel_rfl⟩
  f35 := ⟨"cmp.isNaN[int]", rfl, by kernel_rfl⟩
  f40 := ⟨"slices.order2Ordered[int]", rfl, by kernel_rfl⟩
  t0 := Tryz.underlying0
  a0 := Tryz.isAgg0
  z0 := Tryz.sizeOf0
  v0 := Tryz.zeroValue0
  t3 := Tryz.underlying3
  a3 := Tryz.isAgg3
  z3 := Tryz.sizeOf3
  v3 := Tryz.zeroValue3
  t4 := Tryz.underlying4
  a4 := Tryz.isAgg4
  z4 := Tryz.sizeOf4
  v4 := Tryz.zeroValue4
  t5 := Tryz.underlying5
  a5 := Tryz.isAgg5
  z5 := Tryz.sizeOf5
  v5 := Tryz.zeroValue5
  t9 := Tryz.underlying9
  a9 := Tryz.isAgg9
  z9 := Tryz.sizeOf9
  v9 := Tryz.zeroValue9
  t22 := Tryz.underlying29
  a22 := Tryz.isAgg29
  z22 := Tryz.sizeOf29
  v22 := Tryz.zeroValue29
  t23 := Tryz.underlying29
  a23 := Tryz.isAgg29
  z23 := Tryz.sizeOf29
  v23 := Tryz.zeroValue29
  t25 := Tryz.underlying3
  a25 := Tryz.isAgg3
  z25 := Tryz.sizeOf3
  v25 := Tryz.zeroValue3
  t32 := Tryz.underlying126
  a32 := Tryz.isAgg126
  z32 := Tryz.sizeOf126
  v32 := Tryz.zeroValue126
  t35 := Tryz.underlying146
  a35 := Tryz.isAgg146
  z35 := Tryz.sizeOf146
  v35 := Tryz.zeroValue146
  t36 := Tryz.underlying147
  a36 := Tryz.isAgg147
  z36 := Tryz.sizeOf147
  v36 := Tryz.zeroValue147
  t41 := Tryz.underlying152
  a41 := Tryz.isAgg152
  z41 := Tryz.sizeOf152
  v41 := Tryz.zeroValue152
  t44 := Tryz.underlying155
  a44 := Tryz.isAgg155
  z44 := Tryz.sizeOf155
  v44 := Tryz.zeroValue155
  t46 := Tryz.underlying138
  a46 := Tryz.isAgg138
  z46 := Tryz.sizeOf138
  v46 := Tryz.zeroValue138
  t53 := Tryz.underlying158
  a53 := Tryz.isAgg158
  z53 := Tryz.sizeOf158
  v53 := Tryz.zeroValue158
  t57 := Tryz.underlying162
  a57 := Tryz.isAgg162
  z57 := Tryz.sizeOf162
  v57 := Tryz.zeroValue162
  t63 := Tryz.underlying164
  a63 := Tryz.isAgg164
  z63 := Tryz.sizeOf164
  v63 := Tryz.zeroValue164
  t64 := Tryz.underlying165
  a64 := Tryz.isAgg165
  z64 := Tryz.sizeOf165
  v64 := Tryz.zeroValue165

def renCompact : Ren := ⟨fun _ => 25, fun x => if x = 0 then 0 else if x = 3 then 3 else if x = 4 then 4 else 29, id⟩

theorem layCompact : Lays2.n20 Tryz.prog renCompact where
  mixed := by kernel_rfl
  f20 := by kernel_rfl
  t0 := Tryz.underlying0
  a0 := Tryz.isAgg0
  z0 := Tryz.sizeOf0
  v0 := Tryz.zeroValue0
  t3 := Tryz.underlying3
  a3 := Tryz.isAgg3
  z3 := Tryz.sizeOf3
  v3 := Tryz.zeroValue3
  t4 := Tryz.underlying4
  a4 := Tryz.isAgg4
  z4 := Tryz.sizeOf4
  v4 := Tryz.zeroValue4
  t22 := Tryz.underlying29
  a22 := Tryz.isAgg29
  z22 := Tryz.sizeOf29
  v22 := Tryz.zeroValue29
  i3 := by kernel_rfl

theorem compactUpTo_le {α : Type} [Inhabited α] [DecidableEq α] (d : Array α) (m : Nat) : (compactUpTo d m).length ≤ m := by
  unfold compactUpTo
  rw [List.length_map]
  exact Nat.le_trans (List.length_filter_le _ _) (by simp)

theorem slices_Sort {rows : Bool} {clo : FuncId → Bool} {Y : YS} {bx : List (Option (List SV))} {tk : List (Nat × TypeId)} {ax : Ax} {id n cap : Nat} {zs : List Int} {rest : List SV} (hc : bx[id]? = some (some ((encInts zs).map SV.val ++ rest))) (hn : n = zs.length) (hz : zs.length < 4611686018427387904) :
    CallsR ⟨Tryz.prog, tab, clo, rows, Y⟩ 58 [.row id 0 1 n cap] bx tk ax fun r bx' tk' ax' => r = .val (.tup []) ∧ (∃ d, d.length = zs.length ∧ d = zs.mergeSort (fun x y => decide (x ≤ y)) ∧ bx' = bx.set id (some ((encInts d).map SV.val ++ rest))) ∧ tk' = tk ∧ ax' = ax := by
  subst hn
  refine callsR_rowI (E := ⟨Tryz.prog, tab, clo, rows, Y⟩) (enters_of Tryz.func58 (by kernel_rfl) rfl) hc (.val (.tup [])) (fun _ => .tuple #[]) (fun tk G S w b hb => RV.tup [] [] rfl (by simp)) (fun d => d = zs.mergeSort fun x y => decide (x ≤ y)) fun w b hH hb hcap hmax => ?_
  have h := AnyM.slices_Sort_int laySort b 0 cap zs w hH hb hz
  refine Calls.mono (show Calls Tryz.prog 58 _ w _ from h) ?_
  rintro e w' ⟨rfl, k, os, rfl⟩
  exact ⟨rfl, k, os, _, by simp, rfl, rfl⟩

theorem slices_Compact {rows : Bool} {clo : FuncId → Bool} {Y : YS} {bx : List (Option (List SV))} {tk : List (Nat × TypeId)} {ax : Ax} {id n cap : Nat} {zs : List Int} {rest : List SV} (hc : bx[id]? = some (some ((encInts zs).map SV.val ++ rest))) (hn : n = zs.length) (hz : zs.length < 4611686018427387904) (hcap : n ≤ cap) (hmax : cap ≤ maxLen) :
    CallsR ⟨Tryz.prog, tab, clo, rows, Y⟩ 25 [.row id 0 1 n cap] bx tk ax fun r bx' tk' ax' => r = .row id 0 1 (compactUpTo zs.toArray zs.length).length cap ∧ (∃ d, d.length = zs.length ∧ True ∧ bx' = bx.set id (some ((encInts d).map SV.val ++ rest))) ∧ tk' = tk ∧ ax' = ax := by
  subst hn
  have hle : (compactUpTo zs.toArray zs.length).length ≤ zs.length := compactUpTo_le _ _
  refine callsR_rowI (E := ⟨Tryz.prog, tab, clo, rows, Y⟩) (enters_of Tryz.func25 (by kernel_rfl) rfl) hc (.row id 0 1 (compactUpTo zs.toArray zs.length).length cap) (fun b => .slice (some ⟨b, 0, none⟩) (compactUpTo zs.toArray zs.length).length cap) (fun tk G S w b hb => ⟨b, hb, rfl, by omega, hmax⟩) (fun d => True) fun w b hH hb hcap hmax => ?_
  have h := Any.slices_Compact_int_arr layCompact b 0 cap zs.toArray w hH (by simp; omega) (by simpa using hcap)
  refine Calls.mono (show Calls Tryz.prog 25 _ w _ from h) ?_
  rintro e w' ⟨rfl, k, rfl⟩
  refine ⟨by simp, k, #[], compactUpTo zs.toArray zs.length ++ List.replicate (zs.length - (compactUpTo zs.toArray zs.length).length) 0, by simp; omega, trivial, ?_⟩
  simp [grow]
  rfl
end Go.Abs
