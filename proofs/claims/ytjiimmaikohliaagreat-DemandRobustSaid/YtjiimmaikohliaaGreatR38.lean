/-
  References: ref20.FewPaths, Same.
-/
import Derived.Test.YtjiimmaikohliaaGreatR37
set_option linter.unusedVariables false
set_option linter.unusedSimpArgs false
namespace Go.Abs
open Go.RowKit Go.Proofs

/-- Is a path short? (A difference that does not fit is what the machine makes of it.) -/
def fewP (p : Path) : Bool := decide (p.Times.length ≤ 12) && (decide (p.Times.length = 0) || decide (IntKind.i64.wrap (p.Times.getD (p.Times.length - 1) 0 - p.Times.getD 0 0) ≤ 200))
def few20P (l : List Path) : Bool := l.all fewP && decide (l.length ≤ 12)
theorem wadd {A : Ops} {E : Env} (hA : A = stdOps E) {a b : Int} (h : inI64 (a + b)) : A.wOp .add .i64 a b = a + b := by
  subst hA
  show IntKind.i64.wrap (a + b) = a + b
  exact wrap_in h
theorem wsub {A : Ops} {E : Env} (hA : A = stdOps E) {a b : Int} (h : inI64 (a - b)) : A.wOp .sub .i64 a b = a - b := by
  subst hA
  show IntKind.i64.wrap (a - b) = a - b
  exact wrap_in h
theorem wsub_ {A : Ops} {E : Env} (hA : A = stdOps E) {a b : Int} : A.wOp .sub .i64 a b = IntKind.i64.wrap (a - b) := by
  subst hA; rfl

set_option maxRecDepth 40000 in
set_option maxHeartbeats 4000000 in
theorem ref20_FewPaths (l : List Path) {xs : List PV} (hx : xs = encPaths l) : CallsPV Tryz.prog 32 [.list 2 xs] (.bool (few20P l)) := by
  refine callsPV_by (clo := fun n => n == 11000000) (rows := false) env_ok Tryz.func32 rfl (enters_of Tryz.func32 (by kernel_rfl) rfl) (fun A q P Y hr hA hq => ?_)
  have hxl : xs.length = l.length := by rw [hx]; simp [encPaths]
  have hlen : l.length ≤ 9223372036854775807 := by have := (hr.mem (p := .list 2 xs) (by simp)).len; omega
  have hel : ∀ p ∈ l, p.Times.length ≤ 9223372036854775807 := fun p hp => by
    have := (Real.elem (hr.mem (p := .list 2 xs) (by simp)) (x := encPath p) (by rw [hx]; exact List.mem_map_of_mem hp) (c := .list 1 (encInts p.Times)) (by simp [encPath, PV.cells])).len
    simpa [encInts] using this
  have hbad : ∀ p ∈ l, fewP p = false → PV.bool false = q := fun p hp h => by
    rw [← hq]
    unfold few20P
    rw [List.all_eq_false.2 ⟨p, hp, by rw [h]; simp⟩]; rfl
  have hgood : (∀ p ∈ l, fewP p = true) → PV.bool (decide (l.length ≤ 12)) = q := fun h => by
    rw [← hq]
    unfold few20P
    rw [List.all_eq_true.2 h]; rfl
  clear hq
  conv => cbv
  refine loop_set hA (fun (i : Int) s => s.put (some 3) (.val (.int .i64 i))) (fun i => 0 ≤ i ∧ i ≤ l.length ∧ ∀ p ∈ l.take i.toNat, fewP p = true) (fun i => (l.length - i).toNat) 0 ?_ ?_ ?_
  · conv => cbv
    exact wk_sl (by repeat (first | refine leL_same ?_ | refine leL_any ?_ | exact leL_nil))
  · exact ⟨Int.le_refl _, by omega, by simp⟩
  rintro R i ⟨hi0, hi1, hi2⟩ hR
  conv => cbv
  split
  rotate_left
  · rename_i hc
    have hge : (l.length : Int) ≤ i := ltF' hA rfl (lenI hA hxl) hc
    rw [List.take_of_length_le (by omega)] at hi2
    conv => cbv
    rw [← hgood hi2]
    congr 1
    subst hA
    show decide ((xs.length : Int) ≤ 12) = _
    rw [hxl, decide_eq_decide]
    omega
  rename_i hc
  have hi : i < l.length := ltT' hA rfl (lenI hA hxl) hc
  have his : A.wOp .add .i64 i 1 = i + 1 := wadd hA (by unfold inI64; omega)
  conv => cbv
  refine idx_Path hA hx hi0 hi (fun p v hp hv => ?_)
  have hm := List.mem_of_getElem? hp
  have ht := take_snoc' hi0 hp
  have hpl := hel p hm
  have hbad := hbad p hm
  have hvl : v.length = p.Times.length := by rw [hv]; simp [encInts]
  have hfd : fewP p = (decide (p.Times.length ≤ 12) && (decide (p.Times.length = 0) || decide (IntKind.i64.wrap (p.Times.getD (p.Times.length - 1) 0 - p.Times.getD 0 0) ≤ 200))) := rfl
  have hnx : fewP p = true → 0 ≤ A.wOp .add .i64 i 1 ∧ A.wOp .add .i64 i 1 ≤ l.length ∧ ∀ p ∈ l.take (A.wOp .add .i64 i 1).toNat, fewP p = true := fun h => by
    rw [his]; exact ⟨by omega, by omega, mem_snoc ht hi2 h⟩
  generalize fewP p = fb at hbad hfd hnx
  have hpx := hp
  have him : (l.length - A.wOp .add .i64 i 1).toNat < (l.length - i).toNat := by rw [his]; omega
  obtain ⟨p1, p2⟩ := p
  simp only at hv hpl hvl hfd
  conv => cbv
  refine ⟨draw_intro hA (by kernel_rfl), ?_⟩
  split
  · rename_i hc
    have g := ltT' hA rfl (lenI hA hvl) hc
    conv => cbv
    exact hbad (by rw [hfd, decide_eq_false (by omega)]; rfl)
  rename_i g1; replace g1 := ltF' hA rfl (lenI hA hvl) g1
  rw [decide_eq_true (by omega), Bool.true_and] at hfd
  conv => cbv
  split
  rotate_left
  · rename_i hc
    have g := ltF' hA rfl (lenI hA hvl) hc
    conv => cbv
    exact hR (A.wOp .add .i64 i 1) _ (by (conv => cbv); exact wk_sl (by repeat (first | refine leL_same ?_ | refine leL_any ?_ | exact leL_nil))) (hnx (by rw [hfd, decide_eq_true (by omega)]; rfl)) him
  rename_i g2; replace g2 := ltT' hA rfl (lenI hA hvl) g2
  rw [decide_eq_false (by omega), Bool.false_or] at hfd
  have hsub : A.wOp .sub .i64 (A.lLen v) 1 = (p2.length : Int) - 1 := by
    rw [show A.lLen v = (p2.length : Int) from lenI hA hvl]
    exact wsub hA (by unfold inI64; omega)
  conv => cbv
  refine idx_Path hA hx hi0 hi (fun z w hz hw => ?_)
  rw [hpx] at hz
  cases hz
  have hw' : w = v := by rw [hw, hv]
  subst hw'
  conv => cbv
  refine idx_Int hA hv (n := A.wOp .sub .i64 (A.lLen w) 1) (by rw [hsub]; omega) (by rw [hsub]; omega) (fun la hla => ?_)
  rw [hsub] at hla
  conv => cbv
  refine idx_Path hA hx hi0 hi (fun z w2 hz hw2 => ?_)
  rw [hpx] at hz
  cases hz
  have hw' : w2 = w := by rw [hw2, hv]
  subst hw'
  conv => cbv
  refine idx_Int hA hv (Int.le_refl 0) (by omega) (fun fi hfi => ?_)
  have hfi : p2[0]? = some fi := hfi
  have hdiff : A.wOp .sub .i64 la fi = IntKind.i64.wrap (p2.getD (p2.length - 1) 0 - p2.getD 0 0) := by
    rw [wsub_ hA, List.getD_eq_getElem?_getD, List.getD_eq_getElem?_getD, hfi, show p2.length - 1 = ((p2.length : Int) - 1).toNat by omega, hla]
    rfl
  conv => cbv
  split
  · rename_i hc
    have g := ltT' hA rfl hdiff hc
    conv => cbv
    exact hbad (by rw [hfd, decide_eq_false (by omega)])
  · rename_i hc
    have g := ltF' hA rfl hdiff hc
    conv => cbv
    exact hR (A.wOp .add .i64 i 1) _ (by (conv => cbv); exact wk_sl (by repeat (first | refine leL_same ?_ | refine leL_any ?_ | exact leL_nil))) (hnx (by rw [hfd, decide_eq_true (by omega)])) him

/-- Are two lists of uses one? -/
theorem ref20_Same (a b : List Use) {xs ys : List PV} (hx : xs = encUses a) (hy : ys = encUses b) : CallsPV Tryz.prog 16 [.list 4 xs, .list 4 ys] (.bool (decide (a = b))) := by
  refine callsPV_by (clo := fun _ => false) (rows := false) env_ok Tryz.func16 rfl (enters_of Tryz.func16 (by kernel_rfl) rfl) (fun A q P Y hr hA hq => ?_)
  have hxl : xs.length = a.length := by rw [hx, encUses_len]
  have hyl : ys.length = b.length := by rw [hy, encUses_len]
  have hlen : a.length ≤ 9223372036854775807 := by have := (hr.mem (p := .list 4 xs) (by simp)).len; omega
  have hbad : a ≠ b → PV.bool false = q := fun h => by rw [← hq, decide_eq_false h]
  have hgood : a = b → PV.bool true = q := fun h => by rw [← hq, decide_eq_true h]
  clear hq
  conv => cbv
  split
  · rename_i hc
    conv => cbv
    exact hbad (fun h => by have := neT' hA (lenI hA hxl) (lenI hA hyl) hc; rw [h] at this; exact this rfl)
  rename_i g1; replace g1 := neF' hA (lenI hA hxl) (lenI hA hyl) g1
  conv => cbv
  refine loop_set hA (fun (i : Int) s => s.put (some 5) (.val (.int .i64 i))) (fun i => 0 ≤ i ∧ i ≤ (a.length : Int) ∧ (fun i => a.take i.toNat = b.take i.toNat) i) (fun i => ((a.length : Int) - i).toNat) 0 ?_ ?_ ?_
  · conv => cbv
    exact wk_sl (by repeat (first | refine leL_same ?_ | refine leL_any ?_ | exact leL_nil))
  · exact ⟨Int.le_refl _, by omega, by simp⟩
  rintro R i ⟨hi0, hi1, hi2⟩ hRi
  conv => cbv
  split
  ·   rename_i hc
      have hi : i < (a.length : Int) := ltT' hA rfl (lenI hA hxl) hc
      have his : A.iAdd i 1 = i + 1 := addI hA _ _
      have hir : A.inR (A.iAdd i 1) := inR' hA his (by unfold inI64; omega)
      have him : ((a.length : Int) - A.iAdd i 1).toNat < ((a.length : Int) - i).toNat := by rw [his]; omega
      have hin : (fun i => a.take i.toNat = b.take i.toNat) (i + 1) → 0 ≤ A.iAdd i 1 ∧ A.iAdd i 1 ≤ (a.length : Int) ∧ (fun i => a.take i.toNat = b.take i.toNat) (A.iAdd i 1) := fun h => by rw [his]; exact ⟨by omega, by omega, h⟩
      simp only at hin
      conv => cbv
      refine ⟨draw_intro hA (by kernel_rfl), ?_⟩
      refine idx_Use hA hx hi0 hi (fun x hx0 => ?_)
      have hlb : i.toNat < b.length := by omega
      have hyb := List.getElem?_eq_getElem hlb
      have hxa := hx0
      have htk := take_snoc' hi0 hx0
      obtain ⟨⟨x1, x2, x3⟩, x4⟩ := x
      conv => cbv
      refine idx_Use hA hy hi0 (by omega) (fun y hy0 => ?_)
      have htk2 := take_snoc' hi0 hy0
      obtain ⟨⟨y1, y2, y3⟩, y4⟩ := y
      conv => cbv
      split
      · rename_i hc
        have hne : (⟨⟨x1, x2, x3⟩, x4⟩ : Use) ≠ ⟨⟨y1, y2, y3⟩, y4⟩ := by
          intro h
          cases h
          subst hA
          simp [stdOps] at hc
        conv => cbv
        exact hbad (fun h => by rw [h, hy0] at hxa; cases hxa; exact hne rfl)
      · rename_i hc
        have he : (⟨⟨x1, x2, x3⟩, x4⟩ : Use) = ⟨⟨y1, y2, y3⟩, y4⟩ := by
          subst hA
          simp [stdOps] at hc
          obtain ⟨rfl, rfl, rfl, rfl⟩ := hc
          rfl
        conv => cbv
        exact ⟨hir, hRi (A.iAdd i 1) _ (by (conv => cbv); exact wk_sl (by repeat (first | refine leL_same ?_ | refine leL_any ?_ | exact leL_nil))) (hin (by show a.take (i + 1).toNat = b.take (i + 1).toNat; rw [htk, htk2, he, hi2])) him⟩
  rename_i hc
  have hi : i = (a.length : Int) := by have := ltF' hA rfl (lenI hA hxl) hc; omega
  conv => cbv
  exact hgood (by rw [List.take_of_length_le (by omega), List.take_of_length_le (by omega)] at hi2; exact hi2)
end Go.Abs
