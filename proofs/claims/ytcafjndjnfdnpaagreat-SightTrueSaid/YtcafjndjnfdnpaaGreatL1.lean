/-
  The law's tables; the examples that it begins with.
-/
import Derived.Test.YtcafjndjnfdnpaaGreatR2
import Derived.Test.YtcafjndjnfdnpaaGreatR1
import Derived.Test.YtcafjndjnfdnpaaGreatF10
import Derived.Test.YtcafjndjnfdnpaaGreatF8
import Derived.Test.YtcafjndjnfdnpaaGreatS1
set_option linter.unusedVariables false
set_option linter.unusedSimpArgs false
namespace Go.Abs
open Go.RowKit Go.Proofs

def lawT : Tables := ⟨2, [⟨ByteArray.empty, [], [0, 1], 3, 2⟩], [⟨ByteArray.empty, [], [0]⟩], [⟨0, 1, [⟨0, 0, 10, [⟨0, 1440⟩]⟩, ⟨1, 1, 10, [⟨0, 1440⟩]⟩]⟩], [[4], [4]], [⟨1, 2, 1, 1, 60, [[], []]⟩]⟩
def lawP : List Path := [⟨0, [92, 102, 110]⟩]
def lawR : Report := ⟨0, 0, 100, 0, ByteArray.empty, 1⟩
def lawS : List Station := [⟨[], 1, 0⟩, ⟨[], 0, 0⟩]

def pvI (n : Int) : PV := .int .i64 n
def pvSp (l : List (Int × Int)) : PV := .list 2 (l.map fun p => .agg [pvI p.1, pvI p.2])
/-- The law's tables, as they come out of the law's own function. -/
def lawTP : PV := .agg [pvI 2, .list 5 [.agg [.str ByteArray.empty, .list 0 [], .list 1 [pvI 0, pvI 1], pvI 3, pvI 2]], .list 3 [.agg [.str ByteArray.empty, .list 0 [], .list 1 [pvI 0]]],
  .list 3 [.agg [pvI 0, pvI 1, .list 4 [.agg [pvI 0, pvI 0, pvI 10, pvSp [(0, 1440)]], .agg [pvI 1, pvI 1, pvI 10, pvSp [(0, 1440)]]]]], .list 1 [.list 1 [pvI 4], .list 1 [pvI 4]],
  .list 6 [.agg [pvI 1, pvI 2, pvI 1, pvI 1, pvI 60, .list 1 [.list 0 [], .list 0 []]]]]

theorem law_tables : CallsPV Tryz.prog 43 [] lawTP := by
  refine callsPV_by (clo := fun _ => false) (rows := false) env_ok Tryz.func43 rfl (enters_of Tryz.func43 (by kernel_rfl) rfl) (fun A q P Y hr hA hq => ?_)
  conv => cbv
  rw [← hq]
  rfl

theorem lawT_le : LeP lawTP (encTables lawT) := lePb_ok 12 _ _ (by decide)

theorem ex_sees (r : Report) (s : Int) (l : List Path) (b : Bool) (e : Int) (hl : l.length ≤ 1000) (hb : seesB lawT r s l = b) (he : seesErr lawT r s l = e) (m : Nat) (hm : m = 2 ∨ l = []) : CallsPV Tryz.prog 18 [lawTP, encReport r, pvI s, .list m (encPaths l)] (.tup [.bool b, pvI e]) := by
  have h := sight_Sees lawT r s l hl rfl
  rw [hb, he] at h
  refine h.le (.cons lawT_le (.cons (.refl _) (.cons (.refl _) (.cons ?_ .nil)))) (.refl _)
  rcases hm with rfl | rfl
  · exact .refl _
  · exact .nil _ _ (by first | decide | (intro h; cases h) | exact fun h => h)

theorem ex_wrong (many : Int) (rs : List Report) (sh : List Int) (l : List Path) (res : List Int) (hl : l.length ≤ 1000) (hrl : rs.length ≤ 1000000) (he : wrongErr lawT many rs sh l = 0) (hb : wrongL lawT many rs sh l = res) (m1 m2 m3 : Nat) (h1 : m1 = 6 ∨ rs = []) (h2 : m2 = 1 ∨ sh = []) (h3 : m3 = 2 ∨ l = []) :
    CallsPV Tryz.prog 44 [lawTP, pvI many, .list m1 (encReports rs), .list m2 (encInts sh), .list m3 (encPaths l)] (.tup [.list 1 (encInts res), pvI 0]) := by
  have h := sight_Wrong lawT many rs sh l hl hrl rfl rfl rfl
  unfold wrongRes at h
  rw [he, hb, if_pos rfl] at h
  refine h.le (.cons lawT_le (.cons (.refl _) (.cons ?_ (.cons ?_ (.cons ?_ .nil))))) (.refl _)
  · rcases h1 with rfl | rfl
    · exact .refl _
    · exact .nil _ _ (by first | decide | (intro h; cases h) | exact fun h => h)
  · rcases h2 with rfl | rfl
    · exact .refl _
    · exact .nil _ _ (by first | decide | (intro h; cases h) | exact fun h => h)
  · rcases h3 with rfl | rfl
    · exact .refl _
    · exact .nil _ _ (by first | decide | (intro h; cases h) | exact fun h => h)

def pvSt (x : Int) : PV := .agg [.list 0 [], pvI x, pvI 0]
theorem ex_shifts (l : List Int) (m : Nat) (hm : m = 3 ∨ l = []) (p : PV) (hp : (if shiftsOk (l.map fun x => ⟨[], x, 0⟩) then PV.tup [.list 1 (encIntLs (shiftsL (l.map fun x => ⟨[], x, 0⟩))), .int .i64 0] else .tup [.list 0 [], .int .i64 230]) = p) : CallsPV Tryz.prog 45 [.list m (l.map pvSt)] p := by
  have h := sight_Shifts (l.map fun x => ⟨[], x, 0⟩) rfl
  rw [hp] at h
  refine h.le (.cons ?_ .nil) (.refl _)
  rcases hm with rfl | rfl
  · refine .list 3 _ _ (by simp [encStations]) (fun i x y hx hy => ?_)
    simp only [encStations, List.map_map, List.getElem?_map] at hx hy
    cases hq : l[i]? with
    | none => rw [hq] at hx; cases hx
    | some z =>
      rw [hq] at hx hy
      simp at hx hy
      subst hx hy
      exact .agg _ _ rfl (fun j u v hu hv => by
        match j, hu, hv with
        | 0, hu, hv => simp at hu hv; subst hu hv; exact .nil _ _ (by first | decide | (intro h; cases h) | exact fun h => h)
        | 1, hu, hv => simp at hu hv; subst hu hv; exact .refl _
        | 2, hu, hv => simp at hu hv; subst hu hv; exact .refl _
        | j + 3, hu, hv => simp at hu)
  · exact .nil _ _ (by first | decide | (intro h; cases h) | exact fun h => h)

set_option maxHeartbeats 2000000 in
theorem law_sane : CallsPV Tryz.prog 11 [] (.bool true) := by
  refine callsPV_by (clo := fun _ => false) (rows := false) env_ok Tryz.func11 rfl (enters_of Tryz.func11 (by kernel_rfl) rfl) (fun A q P Y hr hA hq => ?_)
  have heq : A.bNot (A.iEq 0 0) = false := by subst hA; rfl
  have heq2 : A.bNot (A.iEq 230 230) = false := by subst hA; rfl
  have hF : A.bNot false = true := by subst hA; rfl
  have c1 := ex_sees lawR 2 lawP true 0 (by decide) (by decide) (by decide) 2 (.inl rfl)
  have c2 := ex_sees lawR 1 lawP false 0 (by decide) (by decide) (by decide) 2 (.inl rfl)
  have c3 := ex_wrong 1 [lawR, lawR] [0] [] [2] (by decide) (by decide) (by decide) (by decide) 6 1 0 (.inl rfl) (.inl rfl) (.inr rfl)
  have c4 := ex_wrong 1 [lawR] [2] lawP [0] (by decide) (by decide) (by decide) (by decide) 6 1 2 (.inl rfl) (.inl rfl) (.inl rfl)
  have c5 := ex_wrong 0 [] [] [] [] (by decide) (by decide) (by decide) (by decide) 0 0 0 (.inr rfl) (.inr rfl) (.inr rfl)
  have c6 := ex_shifts [1, 0] 3 (.inl rfl) (.tup [.list 1 (encIntLs [[-1, 0], [0, 0], [1, 0]]), .int .i64 0]) (by rfl)
  have c7 := ex_shifts [] 0 (.inr rfl) (.tup [.list 1 (encIntLs [[]]), .int .i64 0]) (by rfl)
  have c8 := ex_shifts [4] 3 (.inl rfl) (.tup [.list 0 [], .int .i64 230]) (by rfl)
  have c9 := ex_sees ⟨0, 0, 1440, 0, ByteArray.empty, 0⟩ 0 [] false 230 (by decide) (by decide) (by decide) 0 (.inr rfl)
  have d1 : CallsPV Tryz.prog 46 [.list 1 (encInts [2]), .list 1 (encInts [2])] (.bool true) := ref_SameInts [2] [2] rfl rfl 1 1 (.inl rfl) (.inl rfl)
  have d2 : CallsPV Tryz.prog 46 [.list 1 (encInts [0]), .list 1 (encInts [0])] (.bool true) := ref_SameInts [0] [0] rfl rfl 1 1 (.inl rfl) (.inl rfl)
  have d3 : CallsPV Tryz.prog 47 [.list 1 (encIntLs [[-1, 0], [0, 0], [1, 0]]), .list 1 (encIntLs [[-1, 0], [0, 0], [1, 0]])] (.bool true) := ref_SameLists _ _ rfl rfl 1 1 (.inl rfl) (.inl rfl)
  have e0 : A.iEq (A.lLen []) 0 = true := by subst hA; rfl
  have e1 : A.iEq (A.lLen [.list 1 []]) 1 = true := by subst hA; rfl
  conv => cbv
  refine call_intro hA law_tables ?_
  conv => cbv
  refine call_intro hA c1 ?_
  conv => cbv
  refine call_intro hA c2 ?_
  conv => cbv
  refine call_intro hA c3 ?_
  conv => cbv
  refine call_intro hA c4 ?_
  conv => cbv
  refine call_intro hA c5 ?_
  conv => cbv
  refine call_intro hA c6 ?_
  conv => cbv
  refine call_intro hA c7 ?_
  conv => cbv
  refine call_intro hA c8 ?_
  conv => cbv
  refine call_intro hA c9 ?_
  conv => cbv
  iterate 7
    split
    · rename_i hc
      have hf : False := absurd (show A.bNot (A.iEq 0 0) = true from hc) (by rw [heq]; simp); cases hf
    conv => cbv
  iterate 2
    split
    · rename_i hc
      have hf : False := absurd (show A.bNot (A.iEq 230 230) = true from hc) (by rw [heq2]; simp); cases hf
    conv => cbv
  split
  rotate_left
  · rename_i hc
    have hf : False := absurd (show A.bNot false = false from hc) (by rw [hF]; simp); cases hf
  conv => cbv
  refine call_intro hA d1 ?_
  conv => cbv
  refine call_intro hA d2 ?_
  conv => cbv
  split
  rotate_left
  · rename_i hc
    have hf : False := absurd (show A.iEq (A.lLen []) 0 = false from hc) (by rw [e0]; simp); cases hf
  conv => cbv
  refine call_intro hA d3 ?_
  conv => cbv
  split
  rotate_left
  · rename_i hc
    have hf : False := absurd (show A.iEq (A.lLen [.list 1 []]) 1 = false from hc) (by rw [e1]; simp); cases hf
  conv => cbv
  refine idx_any hA (Int.le_refl _) (by decide) (fun x hx => ?_)
  simp at hx
  subst hx
  conv => cbv
  rw [← hq]
  show PV.bool (A.iEq (A.lLen []) 0) = _
  rw [e0]
end Go.Abs
