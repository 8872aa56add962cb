/-
  slices.Sort and slices.Compact at []int, by the library's contracts (printed by genC3.py).
  Functions: slices.Values, AppendSeq, Collect, Sorted.
-/
import Derived.Test.YtcafjndjnfdnpaaGreatD1
import Derived.Test.YtcafjndjnfdnpaaGreatTyp
import Derived.Shelf.SortM.Plain
import Derived.Shelf.Slices.CompactI
import Derived.Test.YtcafjndjnfdnpaaGreatS1
set_option linter.unusedVariables false
set_option linter.unusedSimpArgs false
namespace Go.Abs
open Go.RowKit Go.Proofs Go.Shelf Go.Sort Go.Lib

def renSort : Ren := ⟨fun x => if x = 5 then 128 else if x = 7 then 190 else if x = 8 then 160 else if x = 10 then 244 else if x = 11 then 245 else if x = 12 then 246 else if x = 13 then 247 else if x = 14 then 248 else if x = 15 then 249 else if x = 16 then 139 else if x = 17 then 250 else if x = 18 then 251 else if x = 19 then 226 else if x = 20 then 227 else if x = 30 then 281 else if x = 31 then 272 else if x = 32 then 273 else if x = 33 then 282 else if x = 34 then 283 else if x = 35 then 161 else 296, fun x => if x = 0 then 0 else if x = 3 then 3 else if x = 4 then 4 else if x = 5 then 5 else if x = 9 then 9 else if x = 22 then 29 else if x = 23 then 29 else if x = 25 then 3 else if x = 32 then 36 else if x = 35 then 299 else if x = 36 then 300 else if x = 41 then 88 else if x = 44 then 95 else if x = 46 then 307 else if x = 53 then 342 else if x = 57 then 346 else if x = 63 then 361 else 362, id⟩

theorem laySort : SlLaysM.n5 Tryz.prog renSort where
  mixed := by kernel_rfl
  f5 := ⟨"slices.Sort[[]int,int]", rfl, by kernel_rfl⟩
  f7 := ⟨"slices.pdqsortOrdered[int]", rfl, by kernel_rfl⟩
  f8 := by kernel_rfl
  f10 := ⟨"slices.insertionSortOrdered[int]", rfl, by kernel_rfl⟩
  f11 := ⟨"slices.heapSortOrdered[int]", rfl, by kernel_rfl⟩
  f12 := ⟨"slices.breakPatternsOrdered[int]", rfl, by kernel_rfl⟩
  f13 := ⟨"slices.choosePivotOrdered[int]", rfl, by kernel_rfl⟩
  f14 := ⟨"slices.reverseRangeOrdered[int]", rfl, by kernel_rfl⟩
  f15 := ⟨"slices.partialInsertionSortOrdered[int]", rfl, by kernel_rfl⟩
  f16 := ⟨"cmp.Less[int]", rfl, by kernel_rfl⟩
  f17 := ⟨"slices.partitionEqualOrdered[int]", rfl, by kernel_rfl⟩
  f18 := ⟨"slices.partitionOrdered[int]", rfl, by kernel_rfl⟩
  f19 := by kernel_rfl
  f20 := by kernel_rfl
  f30 := ⟨"slices.siftDownOrdered[int]", rfl, by kernel_rfl⟩
  f31 := by kernel_rfl
  f32 := by kernel_rfl
  f33 := ⟨"slices.medianAdjacentOrdered[int]", rfl, by kernel_rfl⟩
  f34 := ⟨"slices.medianOrdered[int]", rfl, by kernel_rfl⟩
  f35 := ⟨"cmp.isNaN[int]", rfl, by kernel_rfl⟩
  f40 := ⟨"slices.order2Ordered[int]", rfl, by kernel_rfl⟩
  t0 := Tryz.underlying0
  a0 := Tryz.isAgg0
  z0 := Tryz.sizeOf0
  v0 := Tryz.zeroValue0
  t3 := Tryz.underlying3
  a3 := Tryz.isAgg3
  z3 := Tryz.sizeOf3
  v3 := Tryz.zeroValue3
  t4 := Tryz.underlying4
  a4 := Tryz.isAgg4
  z4 := Tryz.sizeOf4
  v4 := Tryz.zeroValue4
  t5 := Tryz.underlying5
  a5 := Tryz.isAgg5
  z5 := Tryz.sizeOf5
  v5 := Tryz.zeroValue5
  t9 := Tryz.underlying9
  a9 := Tryz.isAgg9
  z9 := Tryz.sizeOf9
  v9 := Tryz.zeroValue9
  t22 := Tryz.underlying29
  a22 := Tryz.isAgg29
  z22 := Tryz.sizeOf29
  v22 := Tryz.zeroValue29
  t23 := Tryz.underlying29
  a23 := Tryz.isAgg29
  z23 := Tryz.sizeOf29
  v23 := Tryz.zeroValue29
  t25 := Tryz.underlying3
  a25 := Tryz.isAgg3
  z25 := Tryz.sizeOf3
  v25 := Tryz.zeroValue3
  t32 := Tryz.underlying36
  a32 := Tryz.isAgg36
  z32 := Tryz.sizeOf36
  v32 := Tryz.zeroValue36
  t35 := Tryz.underlying299
  a35 := Tryz.isAgg299
  z35 := Tryz.sizeOf299
  v35 := Tryz.zeroValue299
  t36 := Tryz.underlying300
  a36 := Tryz.isAgg300
  z36 := Tryz.sizeOf300
  v36 := Tryz.zeroValue300
  t41 := Tryz.underlying88
  a41 := Tryz.isAgg88
  z41 := Tryz.sizeOf88
  v41 := Tryz.zeroValue88
  t44 := Tryz.underlying95
  a44 := Tryz.isAgg95
  z44 := Tryz.sizeOf95
  v44 := Tryz.zeroValue95
  t46 := Tryz.underlying307
  a46 := Tryz.isAgg307
  z46 := Tryz.sizeOf307
  v46 := Tryz.zeroValue307
  t53 := Tryz.underlying342
  a53 := Tryz.isAgg342
  z53 := Tryz.sizeOf342
  v53 := Tryz.zeroValue342
  t57 := Tryz.underlying346
  a57 := Tryz.isAgg346
  z57 := Tryz.sizeOf346
  v57 := Tryz.zeroValue346
  t63 := Tryz.underlying361
  a63 := Tryz.isAgg361
  z63 := Tryz.sizeOf361
  v63 := Tryz.zeroValue361
  t64 := Tryz.underlying362
  a64 := Tryz.isAgg362
  z64 := Tryz.sizeOf362
  v64 := Tryz.zeroValue362

def renCompact : Ren := ⟨fun _ => 53, fun x => if x = 0 then 0 else if x = 3 then 3 else if x = 4 then 4 else 29, id⟩

theorem layCompact : Lays2.n20 Tryz.prog renCompact where
  mixed := by kernel_rfl
  f20 := by kernel_rfl
  t0 := Tryz.underlying0
  a0 := Tryz.isAgg0
  z0 := Tryz.sizeOf0
  v0 := Tryz.zeroValue0
  t3 := Tryz.underlying3
  a3 := Tryz.isAgg3
  z3 := Tryz.sizeOf3
  v3 := Tryz.zeroValue3
  t4 := Tryz.underlying4
  a4 := Tryz.isAgg4
  z4 := Tryz.sizeOf4
  v4 := Tryz.zeroValue4
  t22 := Tryz.underlying29
  a22 := Tryz.isAgg29
  z22 := Tryz.sizeOf29
  v22 := Tryz.zeroValue29
  i3 := by kernel_rfl

theorem compactUpTo_le {α : Type} [Inhabited α] [DecidableEq α] (d : Array α) (m : Nat) : (compactUpTo d m).length ≤ m := by
  unfold compactUpTo
  rw [List.length_map]
  exact Nat.le_trans (List.length_filter_le _ _) (by simp)

theorem slices_Sort {rows : Bool} {clo : FuncId → Bool} {Y : YS} {bx : List (Option (List SV))} {tk : List (Nat × TypeId)} {ax : Ax} {id n cap : Nat} {zs : List Int} {rest : List SV} (hc : bx[id]? = some (some ((encInts zs).map SV.val ++ rest))) (hn : n = zs.length) (hz : zs.length < 4611686018427387904) :
    CallsR ⟨Tryz.prog, tab, clo, rows, Y⟩ 128 [.row id 0 1 n cap] bx tk ax fun r bx' tk' ax' => r = .val (.tup []) ∧ (∃ d, d.length = zs.length ∧ d = zs.mergeSort (fun x y => decide (x ≤ y)) ∧ bx' = bx.set id (some ((encInts d).map SV.val ++ rest))) ∧ tk' = tk ∧ ax' = ax := by
  subst hn
  refine callsR_rowI (E := ⟨Tryz.prog, tab, clo, rows, Y⟩) (enters_of Tryz.func128 (by kernel_rfl) rfl) hc (.val (.tup [])) (fun _ => .tuple #[]) (fun tk G S w b hb => RV.tup [] [] rfl (by simp)) (fun d => d = zs.mergeSort fun x y => decide (x ≤ y)) fun w b hH hb hcap hmax => ?_
  have h := AnyM.slices_Sort_int laySort b 0 cap zs w hH hb hz
  refine Calls.mono (show Calls Tryz.prog 128 _ w _ from h) ?_
  rintro e w' ⟨rfl, k, os, rfl⟩
  exact ⟨rfl, k, os, _, by simp, rfl, rfl⟩

theorem slices_Compact {rows : Bool} {clo : FuncId → Bool} {Y : YS} {bx : List (Option (List SV))} {tk : List (Nat × TypeId)} {ax : Ax} {id n cap : Nat} {zs : List Int} {rest : List SV} (hc : bx[id]? = some (some ((encInts zs).map SV.val ++ rest))) (hn : n = zs.length) (hz : zs.length < 4611686018427387904) (hcap : n ≤ cap) (hmax : cap ≤ maxLen) :
    CallsR ⟨Tryz.prog, tab, clo, rows, Y⟩ 53 [.row id 0 1 n cap] bx tk ax fun r bx' tk' ax' => r = .row id 0 1 (compactUpTo zs.toArray zs.length).length cap ∧ (∃ d, d.length = zs.length ∧ True ∧ bx' = bx.set id (some ((encInts d).map SV.val ++ rest))) ∧ tk' = tk ∧ ax' = ax := by
  subst hn
  have hle : (compactUpTo zs.toArray zs.length).length ≤ zs.length := compactUpTo_le _ _
  refine callsR_rowI (E := ⟨Tryz.prog, tab, clo, rows, Y⟩) (enters_of Tryz.func53 (by kernel_rfl) rfl) hc (.row id 0 1 (compactUpTo zs.toArray zs.length).length cap) (fun b => .slice (some ⟨b, 0, none⟩) (compactUpTo zs.toArray zs.length).length cap) (fun tk G S w b hb => ⟨b, hb, rfl, by omega, hmax⟩) (fun d => True) fun w b hH hb hcap hmax => ?_
  have h := Any.slices_Compact_int_arr layCompact b 0 cap zs.toArray w hH (by simp; omega) (by simpa using hcap)
  refine Calls.mono (show Calls Tryz.prog 53 _ w _ from h) ?_
  rintro e w' ⟨rfl, k, rfl⟩
  refine ⟨by simp, k, #[], compactUpTo zs.toArray zs.length ++ List.replicate (zs.length - (compactUpTo zs.toArray zs.length).length) 0, by simp; omega, trivial, ?_⟩
  simp [grow]
  rfl
end Go.Abs

namespace Go.Abs
open Go.RowKit Go.Proofs

theorem slices_Values (xs : List PV) : CallsPV Tryz.prog 55 [.list 1 xs] (.fn 129 [.ptr [.list 1 xs] 0]) := by
  refine callsPV_by (clo := fun _ => false) (rows := false) env_ok Tryz.func55 rfl (enters_of Tryz.func55 (by kernel_rfl) rfl) (fun A q P Y hr hA hq => ?_)
  conv => cbv
  rw [← hq]

theorem values_seq (l : List Int) {xs : List PV} (hx : xs = encInts l) (hlen : l.length ≤ 1000000) : SeqPV Tryz.prog 129 [.ptr [.list 1 xs] 0] (l.map fun x => [.int .i64 x]) := by
  refine seqPV_by (clo := fun _ => false) (rows := false) env_ok Tryz.func129 rfl (enters_of Tryz.func129 (by kernel_rfl) rfl) rfl (fun A P Y Y' y R hr hys hy hA hR => ?_)
  have hR' := fun q (h : q = Y.ys.length ∨ q = Y.ys.length + 1) => hR q (by rw [hys] at h; exact h)
  have hll : xs.length = l.length := by rw [hx]; simp [encInts]
  have hyl : Y.ys.length = l.length := by rw [hys]; simp
  conv => cbv
  refine loop_set hA (fun (z : Int × Nat) s => { s.put (some 7) (.val (.int .i64 z.1)) with ax := ⟨s.ax.mp, z.2⟩ }) (fun z => z.1 = (z.2 : Int) ∧ z.2 ≤ l.length) (fun z => (l.length - z.1).toNat) (0, 0) ?_ ?_ ?_
  · conv => cbv
    exact wk_sl (by repeat (first | refine leL_same ?_ | refine leL_any ?_ | exact leL_nil))
  · exact ⟨rfl, by omega⟩
  rintro R2 ⟨i, kk⟩ ⟨hi, hk⟩ hR2
  simp only at hi hk
  conv => cbv
  split
  · rename_i hc
    have hlt : i < l.length := ltT' hA rfl (lenI hA hll) hc
    have his : A.iAdd i 1 = i + 1 := addI hA _ _
    conv => cbv
    refine idx_Int hA hx (by omega) hlt (fun x hx0 => ?_)
    have hyk : Y.ys[kk]? = some [.int .i64 x] := by
      rw [hys, List.getElem?_map, show kk = i.toNat by omega, hx0]; rfl
    conv => cbv
    refine yld_intro' hA rfl hy hyk ?_ (fun n' hn' => ?_)
    · conv => cbv
      split
      · rename_i hc
        cases (nT hA hc)
      conv => cbv
      refine ⟨inR' hA his (by unfold inI64; omega), hR2 (A.iAdd i 1, kk + 1) _ ?_ ?_ ?_⟩
      · conv => cbv
        exact wk_sl (by repeat (first | refine leL_same ?_ | refine leL_any ?_ | exact leL_nil))
      · exact ⟨by show A.iAdd i 1 = _; rw [his]; omega, by omega⟩
      · show (l.length - A.iAdd i 1).toNat < (l.length - i).toNat
        rw [his]; omega
    · conv => cbv
      split
      · conv => cbv
        exact hR' _ (.inr hn')
      · rename_i hc
        have hf : False := nF hA hc
        cases hf
  · rename_i hc
    have hge : (l.length : Int) ≤ i := ltF' hA rfl (lenI hA hll) hc
    conv => cbv
    exact hR' _ (.inl (by show kk = _; rw [hyl]; omega))

/-- A list of numbers as a row: the first cells of a box. -/
def RowK (b : List Int) (rs : List (Option (List SV))) (j cap : Nat) : Prop :=
  ∃ cells, rs[j]? = some (some cells) ∧ cap ≤ cells.length ∧ b.length ≤ cap ∧ cap ≤ maxLen ∧ cells.take b.length = (encInts b).map SV.val
def ArgK (k0 : Nat) (b : List Int) (rs : List (Option (List SV))) (arg : SV) : Prop :=
  (b = [] ∧ arg = .lit 0 []) ∨ ∃ j cap, arg = .row (k0 + j) 0 1 b.length cap ∧ RowK b rs j cap

theorem takeS1 {α : Type} (l : List α) (x : α) (r : List α) (n : Nat) (h : n = l.length + 1) : (l ++ x :: r).take n = l ++ [x] := by
  subst h; rw [List.append_cons]; exact List.take_left' (by simp)

/-- What a list is, one number more. -/
theorem appK {E : Env} (hE : E.T = tab) {A : Ops} (hA : A = stdOps E) {b : List Int} {arg : SV} {rs : List (Option (List SV))} {bx0 : List (Option (List SV))} {k0 : Nat} (h0 : bx0.length = k0) (harg : ArgK k0 b rs arg) (hb : b.length ≤ 1000000) (i : Int) (sl : List SV) (tk : List (Nat × TypeId)) (ax : Ax) (K : SV → St → Prop)
    (hK : ∀ (j cap : Nat) (rs' : List (Option (List SV))), RowK (b ++ [i]) rs' j cap → K (.row (k0 + j) 0 1 (b.length + 1) cap) ⟨sl, bx0 ++ rs', tk, ax⟩) :
    A.appR [29, 29] [arg, .lit 1 [.int .i64 i]] ⟨sl, bx0 ++ rs, tk, ax⟩ K := by
  have hk : (E.T 29).k = .slice 3 := by rw [hE]; rfl
  have hi : E.T 3 = tab 3 := by rw [hE]
  refine appR_intro hA ?_
  unfold wpAppR
  simp only [hk, SV.elems, hi]
  refine ⟨trivial, rfl, by simp, by decide, rfl, ?_⟩
  have hfresh : ∀ (cap : Nat) (junk : List SV), b.length + 1 ≤ cap → cap ≤ maxLen → cap = b.length + 1 + junk.length → K (.row (bx0 ++ rs).length 0 1 (b.length + 1) cap) ⟨sl, bx0 ++ (rs ++ [some ((encInts b).map SV.val ++ (.val (.int .i64 i) :: junk))]), tk, ax⟩ := by
    intro cap junk hc1 hc2 hc3
    rw [List.length_append, h0]
    refine hK _ cap _ ⟨(encInts b).map SV.val ++ (.val (.int .i64 i) :: junk), by simp, by simp [encInts]; omega, by simp; omega, hc2, ?_⟩
    rw [takeS1 _ _ _ _ (by simp [encInts])]; simp [encInts, encInt]
  rcases harg with ⟨rfl, rfl⟩ | ⟨j, cap, rfl, cells, h3, h4, h5, h6, h7⟩
  · refine ⟨.inr rfl, by show (0 + 1) * (8 + 1) ≤ 140737488355328; omega, fun cap hc1 hc2 => ?_⟩
    have := hfresh cap (List.replicate (cap - 1) (.val .any)) (by simpa using hc1) hc2 (by simp at hc1 ⊢; omega)
    have e1 : (tab 3).size = 1 := rfl
    rw [e1]
    simp only [St.newBx, List.length_nil, List.nil_append, Nat.zero_add, List.length_singleton, Nat.mul_one, List.append_assoc, List.flatMap_cons, List.flatMap_nil, List.append_nil] at this ⊢
    exact this
  · refine ⟨rfl, by simp only [List.length_singleton]; show (b.length + 1) * (8 + 1) ≤ _; omega, cells, ?_, by omega, fun hin => ?_, fun hout cap' hc1 hc2 => ?_⟩
    · show (bx0 ++ rs).getD (k0 + j) none = some cells
      rw [List.getD_eq_getElem?_getD, List.getElem?_append_right (by omega)]
      simp [h0, h3]
    · simp only [List.length_singleton] at hin
      have e : (St.mk sl (bx0 ++ rs) tk ax).setBx (k0 + j) (some (cells.take (0 + b.length * 1) ++ (([PV.int IntKind.i64 i].flatMap PV.cells).map SV.val ++ cells.drop (0 + b.length * 1 + [PV.int IntKind.i64 i].length * 1)))) = ⟨sl, bx0 ++ rs.set j (some (cells.take b.length ++ (.val (.int .i64 i) :: cells.drop (b.length + 1)))), tk, ax⟩ := by
        simp only [St.setBx, St.mk.injEq, true_and, and_true]
        rw [List.set_append_right _ _ (by omega)]
        simp [h0, PV.cells]
      rw [e]
      have hjl : j < rs.length := (List.getElem?_eq_some_iff.1 h3).1
      refine hK j cap _ ⟨_, List.getElem?_set_self hjl, by simp; omega, by simpa using hin, h6, ?_⟩
      rw [h7, takeS1 _ _ _ _ (by simp [encInts])]
      simp [encInts, encInt]
    · simp only [List.length_singleton] at hout hc1 ⊢
      have := hfresh cap' (List.replicate (cap' - (b.length + 1)) (.val .any)) hc1 hc2 (by simp; omega)
      simp only [St.newBx, Nat.mul_one, List.drop_zero, List.append_assoc, List.flatMap_cons, List.flatMap_nil, List.append_nil] at this ⊢
      rw [h7]
      exact this

def cloS (n : Nat) : Bool := n == 5000000 + 54 || n == 5000000 + 127 || n == 5000000 + 189

theorem appendSeq (c0 c1 c2 c3 : Option (List SV)) (tk : List (Nat × TypeId)) (ax : Ax) (l : List Int) {xs : List PV} (hx : xs = encInts l) (hlen : l.length ≤ 1000000) :
    CallsR ⟨Tryz.prog, tab, cloS, true, .none⟩ 189 [.lit 0 [], .val (.fn 129 [.ptr [.list 1 xs] 0])] [c0, c1, c2, c3] tk ax
      (fun r bx' tk' ax' => ∃ rs, bx' = [c0, c1, c2, c3] ++ rs ∧ tk' = tk ∧ ax' = ax ∧ ArgK 4 l rs r) := by
  refine callsR_by (clo := cloS) (rows := true) env_ok Tryz.func189 rfl (enters_of Tryz.func189 (by kernel_rfl) rfl) (by intro h; simp at h) (fun A P' Y' nb R hA hnb hR => ?_)
  conv => cbv
  refine rng_intro hA (values_seq l hx hlen) (fun x hx => ?_) (fun (y : SV × List (Option (List SV))) s => { s with bx := [c0, c1, c2, c3, some [y.1]] ++ y.2 }) (fun k y => ArgK 5 (l.take k) y.2 y.1) (.lit 0 [], []) ?_ ?_ ?_ ?_ ?_
  · obtain ⟨y, _, rfl⟩ := List.mem_map.1 hx; rfl
  · exact fun y => rfl
  · exact Wk.refl _
  · exact .inl ⟨rfl, rfl⟩
  · rintro R2 k ⟨arg, rs⟩ x hk hinv hR2
    rw [List.getElem?_map, Option.map_eq_some_iff] at hk
    obtain ⟨z, hz, rfl⟩ := hk
    have htk : l.take (k + 1) = l.take k ++ [z] := by rw [List.take_add_one, hz]; rfl
    have hle : (l.take k).length ≤ 1000000 := by simp; omega
    simp only at hinv
    have next : ∀ (j cap : Nat) (rs' : List (Option (List SV))), RowK (l.take k ++ [z]) rs' j cap → ArgK 5 (l.take (k + 1)) rs' (.row (5 + j) 0 1 ((l.take k).length + 1) cap) := fun j cap rs' h => by
      rw [htk]
      exact .inr ⟨j, cap, by simp, h⟩
    have hap := fun (bx0 : List (Option (List SV))) (h0 : bx0.length = 5) sl K => appK (E := ⟨Tryz.prog, tab, cloS, true, .none⟩) rfl hA h0 hinv hle z sl tk ax K
    have fin : ∀ (j cap id n : Nat) (rs' : List (Option (List SV))), RowK (l.take k ++ [z]) rs' j cap → id = 5 + j → n = (l.take k).length + 1 → ArgK 5 (l.take (k + 1)) rs' (.row id 0 1 n cap) := fun j cap id n rs' h h1 h2 => by
      rw [h1, h2]; exact next j cap rs' h
    rcases id hinv with ⟨hb, rfl⟩ | ⟨j, cap, harg, hrow⟩
    · conv => cbv
      refine hap [c0, c1, c2, c3, some [.lit 0 []]] rfl _ _ (fun j' cap' rs' h' => ?_)
      have fin' := fun id n => fin j' cap' id n rs' h'
      generalize 5 + j' = id' at fin' ⊢
      generalize (l.take k).length + 1 = n' at fin' ⊢
      conv => cbv
      exact hR2 (.row id' 0 1 n' cap', rs') _ (by (conv => cbv); exact wk_sl (by repeat (first | refine leL_same ?_ | refine leL_any ?_ | exact leL_nil))) (fin' id' n' rfl rfl)
    · obtain ⟨id, hid⟩ : ∃ id, id = 5 + j := ⟨_, rfl⟩
      obtain ⟨n, hn⟩ : ∃ n, n = (l.take k).length := ⟨_, rfl⟩
      rw [← hid, ← hn] at harg
      subst harg
      conv => cbv
      refine hap [c0, c1, c2, c3, some [.row id 0 1 n cap]] rfl _ _ (fun j' cap' rs' h' => ?_)
      have fin' := fun id n => fin j' cap' id n rs' h'
      generalize 5 + j' = id' at fin' ⊢
      generalize (l.take k).length + 1 = n' at fin' ⊢
      conv => cbv
      exact hR2 (.row id' 0 1 n' cap', rs') _ (by (conv => cbv); exact wk_sl (by repeat (first | refine leL_same ?_ | refine leL_any ?_ | exact leL_nil))) (fin' id' n' rfl rfl)
  · rintro ⟨arg, rs⟩ hinv
    rw [List.take_of_length_le (by simp)] at hinv
    simp only at hinv
    rcases hinv with ⟨hb, rfl⟩ | ⟨j, cap, harg, hrow⟩
    · conv => cbv
      exact hR _ ⟨_, .lit 0 [], Wk.refl _, .inr (.inl ⟨4, rfl, rfl⟩), _ :: rs, rfl, rfl, rfl, .inl ⟨hb, rfl⟩⟩
    · obtain ⟨id, hid⟩ : ∃ id, id = 5 + j := ⟨_, rfl⟩
      obtain ⟨n, hn⟩ : ∃ n, n = l.length := ⟨_, rfl⟩
      rw [← hid, ← hn] at harg
      subst harg
      conv => cbv
      refine hR _ ⟨_, .row id 0 1 n cap, Wk.refl _, .inr (.inl ⟨4, rfl, rfl⟩), _ :: rs, rfl, rfl, rfl, .inr ⟨j + 1, cap, ?_, ?_⟩⟩
      · rw [hid, hn, show 5 + j = 4 + (j + 1) by omega]
      · obtain ⟨cells, h1, h2⟩ := hrow
        exact ⟨cells, h1, h2⟩

theorem collect (c0 c1 c2 c3 : Option (List SV)) (tk : List (Nat × TypeId)) (ax : Ax) (l : List Int) {xs : List PV} (hx : xs = encInts l) (hlen : l.length ≤ 1000000) :
    CallsR ⟨Tryz.prog, tab, cloS, true, .none⟩ 127 [.val (.fn 129 [.ptr [.list 1 xs] 0])] [c0, c1, c2, c3] tk ax
      (fun r bx' tk' ax' => ∃ rs, bx' = [c0, c1, c2, c3] ++ rs ∧ tk' = tk ∧ ax' = ax ∧ ArgK 4 l rs r) := by
  refine callsR_by (clo := cloS) (rows := true) env_ok Tryz.func127 rfl (enters_of Tryz.func127 (by kernel_rfl) rfl) (by intro h; simp at h) (fun A P' Y' nb R hA hnb hR => ?_)
  conv => cbv
  refine shareR_intro hA (appendSeq c0 c1 c2 c3 tk ax l hx hlen) (fun r bx' tk' ax' h => ?_)
  obtain ⟨rs, rfl, rfl, rfl, harg⟩ := h
  rcases harg with ⟨hb, rfl⟩ | ⟨j, cap, harg, hrow⟩
  · conv => cbv
    exact hR _ ⟨_, .lit 0 [], Wk.refl _, .inr (.inl ⟨2, rfl, rfl⟩), rs, rfl, rfl, rfl, .inl ⟨hb, rfl⟩⟩
  · obtain ⟨id, hid⟩ : ∃ id, id = 4 + j := ⟨_, rfl⟩
    obtain ⟨n, hn⟩ : ∃ n, n = l.length := ⟨_, rfl⟩
    rw [← hid, ← hn] at harg
    subst harg
    conv => cbv
    refine hR _ ⟨_, .row id 0 1 n cap, Wk.refl _, .inr (.inl ⟨2, rfl, rfl⟩), rs, rfl, rfl, rfl, .inr ⟨j, cap, ?_, hrow⟩⟩
    rw [hid, hn]

theorem sorted (c0 c1 c2 c3 : Option (List SV)) (tk : List (Nat × TypeId)) (ax : Ax) (l : List Int) {xs : List PV} (hx : xs = encInts l) (hlen : l.length ≤ 1000000) (hl0 : 0 < l.length) :
    CallsR ⟨Tryz.prog, tab, cloS, true, .none⟩ 54 [.val (.fn 129 [.ptr [.list 1 xs] 0])] [c0, c1, c2, c3] tk ax
      (fun r bx' tk' ax' => ∃ rs, bx' = [c0, c1, c2, c3] ++ rs ∧ tk' = tk ∧ ax' = ax ∧ ∃ j cap, r = .row (4 + j) 0 1 l.length cap ∧ RowK (l.mergeSort fun x y => decide (x ≤ y)) rs j cap) := by
  refine callsR_by (clo := cloS) (rows := true) env_ok Tryz.func54 rfl (enters_of Tryz.func54 (by kernel_rfl) rfl) (by intro h; simp at h) (fun A P' Y' nb R hA hnb hR => ?_)
  conv => cbv
  refine shareR_intro hA (collect c0 c1 c2 c3 tk ax l hx hlen) (fun r bx' tk' ax' h => ?_)
  obtain ⟨rs, rfl, rfl, rfl, harg⟩ := h
  rcases harg with ⟨hb, rfl⟩ | ⟨j, cap, harg, hrow⟩
  · rw [hb] at hl0; cases hl0
  · obtain ⟨id, hid⟩ : ∃ id, id = 4 + j := ⟨_, rfl⟩
    obtain ⟨n, hn⟩ : ∃ n, n = l.length := ⟨_, rfl⟩
    rw [← hid, ← hn] at harg
    subst harg
    obtain ⟨cells, h1, h2, h3, h4, h5⟩ := hrow
    have hcells : cells = (encInts l).map SV.val ++ cells.drop l.length := by rw [← h5, List.take_append_drop]
    have hc : ([c0, c1, c2, c3] ++ rs)[id]? = some (some ((encInts l).map SV.val ++ cells.drop l.length)) := by
      rw [← hcells, hid, List.getElem?_append_right (by simp)]
      simpa using h1
    have hs := slices_Sort (rows := true) (clo := cloS) (Y := .none) (tk := tk') (ax := ax') (cap := cap) hc hn (by omega)
    conv => cbv
    refine shareR_intro hA hs (fun r bx' tk2 ax2 h => ?_)
    obtain ⟨rfl, ⟨d, hd, hds, rfl⟩, rfl, rfl⟩ := h
    have hset : ([c0, c1, c2, c3] ++ rs).set id (some ((encInts d).map SV.val ++ cells.drop l.length)) = [c0, c1, c2, c3] ++ rs.set j (some ((encInts d).map SV.val ++ cells.drop l.length)) := by
      rw [hid, List.set_append_right _ _ (by simp)]
      simp
    rw [hset]
    obtain ⟨rs2, hrs2⟩ : ∃ rs2, rs2 = rs.set j (some ((encInts d).map SV.val ++ cells.drop l.length)) := ⟨_, rfl⟩
    rw [← hrs2]
    conv => cbv
    refine hR _ ⟨_, .row id 0 1 n cap, Wk.refl _, .inr (.inl ⟨2, rfl, rfl⟩), rs2, rfl, rfl, rfl, j, cap, by rw [hid, hn], ?_⟩
    have hjl : j < rs.length := (List.getElem?_eq_some_iff.1 h1).1
    rw [← hds, hrs2]
    refine ⟨_, List.getElem?_set_self hjl, ?_, by rw [hd]; exact h3, h4, ?_⟩
    · simp [encInts, hd]; omega
    · rw [List.take_left' (by simp [encInts])]
end Go.Abs
