/-
  Functions: slices.Values, AppendSeq, Collect, Sorted.
-/
import Derived.Test.YtbljnbpddboohaaGreatC3
import Derived.Test.YtbljnbpddboohaaGreatH1
set_option linter.unusedVariables false
set_option linter.unusedSimpArgs false
namespace Go.Abs
open Go.RowKit Go.Proofs

theorem slices_Values (xs : List PV) : CallsPV Tryz.prog 27 [.list 1 xs] (.fn 59 [.ptr [.list 1 xs] 0]) := by
  refine callsPV_by (clo := fun _ => false) (rows := false) env_ok Tryz.func27 rfl (enters_of Tryz.func27 (by kernel_rfl) rfl) (fun A q P Y hr hA hq => ?_)
  conv => cbv
  rw [← hq]

theorem values_seq (l : List Int) {xs : List PV} (hx : xs = encInts l) (hlen : l.length ≤ 1000000) : SeqPV Tryz.prog 59 [.ptr [.list 1 xs] 0] (l.map fun x => [.int .i64 x]) := by
  refine seqPV_by (clo := fun _ => false) (rows := false) env_ok Tryz.func59 rfl (enters_of Tryz.func59 (by kernel_rfl) rfl) rfl (fun A P Y Y' y R hr hys hy hA hR => ?_)
  have hR' := fun q (h : q = Y.ys.length ∨ q = Y.ys.length + 1) => hR q (by rw [hys] at h; exact h)
  have hll : xs.length = l.length := by rw [hx]; simp [encInts]
  have hyl : Y.ys.length = l.length := by rw [hys]; simp
  conv => cbv
  refine loop_set hA (fun (z : Int × Nat) s => { s.put (some 7) (.val (.int .i64 z.1)) with ax := ⟨s.ax.mp, z.2⟩ }) (fun z => z.1 = (z.2 : Int) ∧ z.2 ≤ l.length) (fun z => (l.length - z.1).toNat) (0, 0) ?_ ?_ ?_
  · conv => cbv
    exact wk_sl (by repeat (first | refine leL_same ?_ | refine leL_any ?_ | exact leL_nil))
  · exact ⟨rfl, by omega⟩
  rintro R2 ⟨i, kk⟩ ⟨hi, hk⟩ hR2
  simp only at hi hk
  conv => cbv
  split
  · rename_i hc
    have hlt : i < l.length := ltT' hA rfl (lenI hA hll) hc
    have his : A.iAdd i 1 = i + 1 := addI hA _ _
    conv => cbv
    refine idx_Int hA hx (by omega) hlt (fun x hx0 => ?_)
    have hyk : Y.ys[kk]? = some [.int .i64 x] := by
      rw [hys, List.getElem?_map, show kk = i.toNat by omega, hx0]; rfl
    conv => cbv
    refine yld_intro' hA rfl hy hyk ?_ (fun n' hn' => ?_)
    · conv => cbv
      split
      · rename_i hc
        cases (nT hA hc)
      conv => cbv
      refine ⟨inR' hA his (by unfold inI64; omega), hR2 (A.iAdd i 1, kk + 1) _ ?_ ?_ ?_⟩
      · conv => cbv
        exact wk_sl (by repeat (first | refine leL_same ?_ | refine leL_any ?_ | exact leL_nil))
      · exact ⟨by show A.iAdd i 1 = _; rw [his]; omega, by omega⟩
      · show (l.length - A.iAdd i 1).toNat < (l.length - i).toNat
        rw [his]; omega
    · conv => cbv
      split
      · conv => cbv
        exact hR' _ (.inr hn')
      · rename_i hc
        have hf : False := nF hA hc
        cases hf
  · rename_i hc
    have hge : (l.length : Int) ≤ i := ltF' hA rfl (lenI hA hll) hc
    conv => cbv
    exact hR' _ (.inl (by show kk = _; rw [hyl]; omega))

/-- A list of numbers as a row: the first cells of a box. -/
def RowK (b : List Int) (rs : List (Option (List SV))) (j cap : Nat) : Prop :=
  ∃ cells, rs[j]? = some (some cells) ∧ cap ≤ cells.length ∧ b.length ≤ cap ∧ cap ≤ maxLen ∧ cells.take b.length = (encInts b).map SV.val
def ArgK (k0 : Nat) (b : List Int) (rs : List (Option (List SV))) (arg : SV) : Prop :=
  (b = [] ∧ arg = .lit 0 []) ∨ ∃ j cap, arg = .row (k0 + j) 0 1 b.length cap ∧ RowK b rs j cap

theorem takeS1 {α : Type} (l : List α) (x : α) (r : List α) (n : Nat) (h : n = l.length + 1) : (l ++ x :: r).take n = l ++ [x] := by
  subst h; rw [List.append_cons]; exact List.take_left' (by simp)

/-- What a list is, one number more. -/
theorem appK {E : Env} (hE : E.T = tab) {A : Ops} (hA : A = stdOps E) {b : List Int} {arg : SV} {rs : List (Option (List SV))} {bx0 : List (Option (List SV))} {k0 : Nat} (h0 : bx0.length = k0) (harg : ArgK k0 b rs arg) (hb : b.length ≤ 1000000) (i : Int) (sl : List SV) (tk : List (Nat × TypeId)) (ax : Ax) (K : SV → St → Prop)
    (hK : ∀ (j cap : Nat) (rs' : List (Option (List SV))), RowK (b ++ [i]) rs' j cap → K (.row (k0 + j) 0 1 (b.length + 1) cap) ⟨sl, bx0 ++ rs', tk, ax⟩) :
    A.appR [29, 29] [arg, .lit 1 [.int .i64 i]] ⟨sl, bx0 ++ rs, tk, ax⟩ K := by
  have hk : (E.T 29).k = .slice 3 := by rw [hE]; rfl
  have hi : E.T 3 = tab 3 := by rw [hE]
  refine appR_intro hA ?_
  unfold wpAppR
  simp only [hk, SV.elems, hi]
  refine ⟨trivial, rfl, by simp, by decide, rfl, ?_⟩
  have hfresh : ∀ (cap : Nat) (junk : List SV), b.length + 1 ≤ cap → cap ≤ maxLen → cap = b.length + 1 + junk.length → K (.row (bx0 ++ rs).length 0 1 (b.length + 1) cap) ⟨sl, bx0 ++ (rs ++ [some ((encInts b).map SV.val ++ (.val (.int .i64 i) :: junk))]), tk, ax⟩ := by
    intro cap junk hc1 hc2 hc3
    rw [List.length_append, h0]
    refine hK _ cap _ ⟨(encInts b).map SV.val ++ (.val (.int .i64 i) :: junk), by simp, by simp [encInts]; omega, by simp; omega, hc2, ?_⟩
    rw [takeS1 _ _ _ _ (by simp [encInts])]; simp [encInts, encInt]
  rcases harg with ⟨rfl, rfl⟩ | ⟨j, cap, rfl, cells, h3, h4, h5, h6, h7⟩
  · refine ⟨.inr rfl, by show (0 + 1) * (8 + 1) ≤ 140737488355328; omega, fun cap hc1 hc2 => ?_⟩
    have := hfresh cap (List.replicate (cap - 1) (.val .any)) (by simpa using hc1) hc2 (by simp at hc1 ⊢; omega)
    have e1 : (tab 3).size = 1 := rfl
    rw [e1]
    simp only [St.newBx, List.length_nil, List.nil_append, Nat.zero_add, List.length_singleton, Nat.mul_one, List.append_assoc, List.flatMap_cons, List.flatMap_nil, List.append_nil] at this ⊢
    exact this
  · refine ⟨rfl, by simp only [List.length_singleton]; show (b.length + 1) * (8 + 1) ≤ _; omega, cells, ?_, by omega, fun hin => ?_, fun hout cap' hc1 hc2 => ?_⟩
    · show (bx0 ++ rs).getD (k0 + j) none = some cells
      rw [List.getD_eq_getElem?_getD, List.getElem?_append_right (by omega)]
      simp [h0, h3]
    · simp only [List.length_singleton] at hin
      have e : (St.mk sl (bx0 ++ rs) tk ax).setBx (k0 + j) (some (cells.take (0 + b.length * 1) ++ (([PV.int IntKind.i64 i].flatMap PV.cells).map SV.val ++ cells.drop (0 + b.length * 1 + [PV.int IntKind.i64 i].length * 1)))) = ⟨sl, bx0 ++ rs.set j (some (cells.take b.length ++ (.val (.int .i64 i) :: cells.drop (b.length + 1)))), tk, ax⟩ := by
        simp only [St.setBx, St.mk.injEq, true_and, and_true]
        rw [List.set_append_right _ _ (by omega)]
        simp [h0, PV.cells]
      rw [e]
      have hjl : j < rs.length := (List.getElem?_eq_some_iff.1 h3).1
      refine hK j cap _ ⟨_, List.getElem?_set_self hjl, by simp; omega, by simpa using hin, h6, ?_⟩
      rw [h7, takeS1 _ _ _ _ (by simp [encInts])]
      simp [encInts, encInt]
    · simp only [List.length_singleton] at hout hc1 ⊢
      have := hfresh cap' (List.replicate (cap' - (b.length + 1)) (.val .any)) hc1 hc2 (by simp; omega)
      simp only [St.newBx, Nat.mul_one, List.drop_zero, List.append_assoc, List.flatMap_cons, List.flatMap_nil, List.append_nil] at this ⊢
      rw [h7]
      exact this

def cloS (n : Nat) : Bool := n == 5000000 + 26 || n == 5000000 + 57 || n == 5000000 + 87

theorem appendSeq (c0 c1 c2 c3 : Option (List SV)) (tk : List (Nat × TypeId)) (ax : Ax) (l : List Int) {xs : List PV} (hx : xs = encInts l) (hlen : l.length ≤ 1000000) :
    CallsR ⟨Tryz.prog, tab, cloS, true, .none⟩ 87 [.lit 0 [], .val (.fn 59 [.ptr [.list 1 xs] 0])] [c0, c1, c2, c3] tk ax
      (fun r bx' tk' ax' => ∃ rs, bx' = [c0, c1, c2, c3] ++ rs ∧ tk' = tk ∧ ax' = ax ∧ ArgK 4 l rs r) := by
  refine callsR_by (clo := cloS) (rows := true) env_ok Tryz.func87 rfl (enters_of Tryz.func87 (by kernel_rfl) rfl) (by intro h; simp at h) (fun A P' Y' nb R hA hnb hR => ?_)
  conv => cbv
  refine rng_intro hA (values_seq l hx hlen) (fun x hx => ?_) (fun (y : SV × List (Option (List SV))) s => { s with bx := [c0, c1, c2, c3, some [y.1]] ++ y.2 }) (fun k y => ArgK 5 (l.take k) y.2 y.1) (.lit 0 [], []) ?_ ?_ ?_ ?_ ?_
  · obtain ⟨y, _, rfl⟩ := List.mem_map.1 hx; rfl
  · exact fun y => rfl
  · exact Wk.refl _
  · exact .inl ⟨rfl, rfl⟩
  · rintro R2 k ⟨arg, rs⟩ x hk hinv hR2
    rw [List.getElem?_map, Option.map_eq_some_iff] at hk
    obtain ⟨z, hz, rfl⟩ := hk
    have htk : l.take (k + 1) = l.take k ++ [z] := by rw [List.take_add_one, hz]; rfl
    have hle : (l.take k).length ≤ 1000000 := by simp; omega
    simp only at hinv
    have next : ∀ (j cap : Nat) (rs' : List (Option (List SV))), RowK (l.take k ++ [z]) rs' j cap → ArgK 5 (l.take (k + 1)) rs' (.row (5 + j) 0 1 ((l.take k).length + 1) cap) := fun j cap rs' h => by
      rw [htk]
      exact .inr ⟨j, cap, by simp, h⟩
    have hap := fun (bx0 : List (Option (List SV))) (h0 : bx0.length = 5) sl K => appK (E := ⟨Tryz.prog, tab, cloS, true, .none⟩) rfl hA h0 hinv hle z sl tk ax K
    have fin : ∀ (j cap id n : Nat) (rs' : List (Option (List SV))), RowK (l.take k ++ [z]) rs' j cap → id = 5 + j → n = (l.take k).length + 1 → ArgK 5 (l.take (k + 1)) rs' (.row id 0 1 n cap) := fun j cap id n rs' h h1 h2 => by
      rw [h1, h2]; exact next j cap rs' h
    rcases id hinv with ⟨hb, rfl⟩ | ⟨j, cap, harg, hrow⟩
    · conv => cbv
      refine hap [c0, c1, c2, c3, some [.lit 0 []]] rfl _ _ (fun j' cap' rs' h' => ?_)
      have fin' := fun id n => fin j' cap' id n rs' h'
      generalize 5 + j' = id' at fin' ⊢
      generalize (l.take k).length + 1 = n' at fin' ⊢
      conv => cbv
      exact hR2 (.row id' 0 1 n' cap', rs') _ (by (conv => cbv); exact wk_sl (by repeat (first | refine leL_same ?_ | refine leL_any ?_ | exact leL_nil))) (fin' id' n' rfl rfl)
    · obtain ⟨id, hid⟩ : ∃ id, id = 5 + j := ⟨_, rfl⟩
      obtain ⟨n, hn⟩ : ∃ n, n = (l.take k).length := ⟨_, rfl⟩
      rw [← hid, ← hn] at harg
      subst harg
      conv => cbv
      refine hap [c0, c1, c2, c3, some [.row id 0 1 n cap]] rfl _ _ (fun j' cap' rs' h' => ?_)
      have fin' := fun id n => fin j' cap' id n rs' h'
      generalize 5 + j' = id' at fin' ⊢
      generalize (l.take k).length + 1 = n' at fin' ⊢
      conv => cbv
      exact hR2 (.row id' 0 1 n' cap', rs') _ (by (conv => cbv); exact wk_sl (by repeat (first | refine leL_same ?_ | refine leL_any ?_ | exact leL_nil))) (fin' id' n' rfl rfl)
  · rintro ⟨arg, rs⟩ hinv
    rw [List.take_of_length_le (by simp)] at hinv
    simp only at hinv
    rcases hinv with ⟨hb, rfl⟩ | ⟨j, cap, harg, hrow⟩
    · conv => cbv
      exact hR _ ⟨_, .lit 0 [], Wk.refl _, .inr ⟨4, rfl, rfl⟩, _ :: rs, rfl, rfl, rfl, .inl ⟨hb, rfl⟩⟩
    · obtain ⟨id, hid⟩ : ∃ id, id = 5 + j := ⟨_, rfl⟩
      obtain ⟨n, hn⟩ : ∃ n, n = l.length := ⟨_, rfl⟩
      rw [← hid, ← hn] at harg
      subst harg
      conv => cbv
      refine hR _ ⟨_, .row id 0 1 n cap, Wk.refl _, .inr ⟨4, rfl, rfl⟩, _ :: rs, rfl, rfl, rfl, .inr ⟨j + 1, cap, ?_, ?_⟩⟩
      · rw [hid, hn, show 5 + j = 4 + (j + 1) by omega]
      · obtain ⟨cells, h1, h2⟩ := hrow
        exact ⟨cells, h1, h2⟩

theorem collect (c0 c1 c2 c3 : Option (List SV)) (tk : List (Nat × TypeId)) (ax : Ax) (l : List Int) {xs : List PV} (hx : xs = encInts l) (hlen : l.length ≤ 1000000) :
    CallsR ⟨Tryz.prog, tab, cloS, true, .none⟩ 57 [.val (.fn 59 [.ptr [.list 1 xs] 0])] [c0, c1, c2, c3] tk ax
      (fun r bx' tk' ax' => ∃ rs, bx' = [c0, c1, c2, c3] ++ rs ∧ tk' = tk ∧ ax' = ax ∧ ArgK 4 l rs r) := by
  refine callsR_by (clo := cloS) (rows := true) env_ok Tryz.func57 rfl (enters_of Tryz.func57 (by kernel_rfl) rfl) (by intro h; simp at h) (fun A P' Y' nb R hA hnb hR => ?_)
  conv => cbv
  refine shareR_intro hA (appendSeq c0 c1 c2 c3 tk ax l hx hlen) (fun r bx' tk' ax' h => ?_)
  obtain ⟨rs, rfl, rfl, rfl, harg⟩ := h
  rcases harg with ⟨hb, rfl⟩ | ⟨j, cap, harg, hrow⟩
  · conv => cbv
    exact hR _ ⟨_, .lit 0 [], Wk.refl _, .inr ⟨2, rfl, rfl⟩, rs, rfl, rfl, rfl, .inl ⟨hb, rfl⟩⟩
  · obtain ⟨id, hid⟩ : ∃ id, id = 4 + j := ⟨_, rfl⟩
    obtain ⟨n, hn⟩ : ∃ n, n = l.length := ⟨_, rfl⟩
    rw [← hid, ← hn] at harg
    subst harg
    conv => cbv
    refine hR _ ⟨_, .row id 0 1 n cap, Wk.refl _, .inr ⟨2, rfl, rfl⟩, rs, rfl, rfl, rfl, .inr ⟨j, cap, ?_, hrow⟩⟩
    rw [hid, hn]

theorem sorted (c0 c1 c2 c3 : Option (List SV)) (tk : List (Nat × TypeId)) (ax : Ax) (l : List Int) {xs : List PV} (hx : xs = encInts l) (hlen : l.length ≤ 1000000) (hl0 : 0 < l.length) :
    CallsR ⟨Tryz.prog, tab, cloS, true, .none⟩ 26 [.val (.fn 59 [.ptr [.list 1 xs] 0])] [c0, c1, c2, c3] tk ax
      (fun r bx' tk' ax' => ∃ rs, bx' = [c0, c1, c2, c3] ++ rs ∧ tk' = tk ∧ ax' = ax ∧ ∃ j cap, r = .row (4 + j) 0 1 l.length cap ∧ RowK (l.mergeSort fun x y => decide (x ≤ y)) rs j cap) := by
  refine callsR_by (clo := cloS) (rows := true) env_ok Tryz.func26 rfl (enters_of Tryz.func26 (by kernel_rfl) rfl) (by intro h; simp at h) (fun A P' Y' nb R hA hnb hR => ?_)
  conv => cbv
  refine shareR_intro hA (collect c0 c1 c2 c3 tk ax l hx hlen) (fun r bx' tk' ax' h => ?_)
  obtain ⟨rs, rfl, rfl, rfl, harg⟩ := h
  rcases harg with ⟨hb, rfl⟩ | ⟨j, cap, harg, hrow⟩
  · rw [hb] at hl0; cases hl0
  · obtain ⟨id, hid⟩ : ∃ id, id = 4 + j := ⟨_, rfl⟩
    obtain ⟨n, hn⟩ : ∃ n, n = l.length := ⟨_, rfl⟩
    rw [← hid, ← hn] at harg
    subst harg
    obtain ⟨cells, h1, h2, h3, h4, h5⟩ := hrow
    have hcells : cells = (encInts l).map SV.val ++ cells.drop l.length := by rw [← h5, List.take_append_drop]
    have hc : ([c0, c1, c2, c3] ++ rs)[id]? = some (some ((encInts l).map SV.val ++ cells.drop l.length)) := by
      rw [← hcells, hid, List.getElem?_append_right (by simp)]
      simpa using h1
    have hs := slices_Sort (rows := true) (clo := cloS) (Y := .none) (tk := tk') (ax := ax') (cap := cap) hc hn (by omega)
    conv => cbv
    refine shareR_intro hA hs (fun r bx' tk2 ax2 h => ?_)
    obtain ⟨rfl, ⟨d, hd, hds, rfl⟩, rfl, rfl⟩ := h
    have hset : ([c0, c1, c2, c3] ++ rs).set id (some ((encInts d).map SV.val ++ cells.drop l.length)) = [c0, c1, c2, c3] ++ rs.set j (some ((encInts d).map SV.val ++ cells.drop l.length)) := by
      rw [hid, List.set_append_right _ _ (by simp)]
      simp
    rw [hset]
    obtain ⟨rs2, hrs2⟩ : ∃ rs2, rs2 = rs.set j (some ((encInts d).map SV.val ++ cells.drop l.length)) := ⟨_, rfl⟩
    rw [← hrs2]
    conv => cbv
    refine hR _ ⟨_, .row id 0 1 n cap, Wk.refl _, .inr ⟨2, rfl, rfl⟩, rs2, rfl, rfl, rfl, j, cap, by rw [hid, hn], ?_⟩
    have hjl : j < rs.length := (List.getElem?_eq_some_iff.1 h1).1
    rw [← hds, hrs2]
    refine ⟨_, List.getElem?_set_self hjl, ?_, by rw [hd]; exact h3, h4, ?_⟩
    · simp [encInts, hd]; omega
    · rw [List.take_left' (by simp [encInts])]
end Go.Abs
