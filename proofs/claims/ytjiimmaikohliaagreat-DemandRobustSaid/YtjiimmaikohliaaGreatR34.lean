/-
  References: ref20.cells, Uses, Sure.
-/
import Derived.Test.YtjiimmaikohliaaGreatR33
set_option linter.unusedVariables false
set_option linter.unusedSimpArgs false
namespace Go.Abs
open Go.RowKit Go.Proofs

def encCellL (l : List Cell) : PV := .list 3 (encCells l)
def encCellLs (l : List (List Cell)) : List PV := l.map encCellL
theorem idx_CellL {A : Ops} {E : Env} (hA : A = stdOps E) {l : List (List Cell)} {xs : List PV} (hx : xs = encCellLs l) {n : Int} {K : List PV → Prop} (h0 : 0 ≤ n) (h1 : n < l.length) (hk : ∀ x v, l[n.toNat]? = some x → v = encCells x → K [.list 3 v]) : A.idx xs n K :=
  idx_var hA (l := l) (enc := encCellL) hx.symm h0 h1 fun x h => hk x _ h rfl

def allR (t : Tables) (s : List Change) (l : List Path) : List (List Cell) := l.map (cellsR t s)
def cellsLRes (t : Tables) (s : List Change) (cl : Int) (l : List Path) : PV := if cntErr t s cl l = 0 then .list 1 (encCellLs (allR t s l)) else .list 0 []

set_option maxHeartbeats 4000000 in
theorem ref20_cells (t : Tables) (s : List Change) (cl : Int) (l : List Path) (hl : l.length ≤ 1000) {xs : List PV} (hx : xs = encPaths l) :
    CallsPV Tryz.prog 34 [encTables t, encScheme s, .int .i64 cl, .list 2 xs] (.tup [cellsLRes t s cl l, .int .i64 (cntErr t s cl l)]) := by
  refine callsPV_by (clo := fun _ => false) (rows := false) env_ok Tryz.func34 rfl (enters_of Tryz.func34 (by kernel_rfl) rfl) (fun A q P Y hr hA hq => ?_)
  have hck := ref19_Check t s
  have hcs' := fun p => ref20_Cells t s p
  have hxl : xs.length = l.length := by rw [hx]; simp [encPaths]
  have hE : cntErr t s cl l = if capErr t s ≠ 0 then capErr t s else if cl < 0 ∨ (t.Kinds.length : Int) ≤ cl then 200 else stErr t l := rfl
  have hBad : ∀ e, e ≠ 0 → cntErr t s cl l = e → PV.tup [.list 0 [], .int .i64 e] = q := fun e h0 h => by rw [← hq]; unfold cellsLRes; rw [h, if_neg h0]
  have hOk : cntErr t s cl l = 0 → PV.tup [.list 1 (encCellLs (allR t s l)), .int .i64 0] = q := fun h => by rw [← hq]; unfold cellsLRes; rw [h, if_pos rfl]
  clear hq
  generalize cntErr t s cl l = ee at hE hBad hOk
  obtain ⟨ss, hss⟩ : ∃ ss, ss = encSectors t.Sectors := ⟨_, rfl⟩
  obtain ⟨cs, hcs⟩ : ∃ cs, cs = encConfigs t.Configs := ⟨_, rfl⟩
  obtain ⟨ws, hws⟩ : ∃ ws, ws = encWays t.Ways := ⟨_, rfl⟩
  obtain ⟨ms, hms⟩ : ∃ ms, ms = encIntLs t.Modes := ⟨_, rfl⟩
  obtain ⟨ks, hks⟩ : ∃ ks, ks = encKinds t.Kinds := ⟨_, rfl⟩
  obtain ⟨nv, hnv⟩ : ∃ nv, nv = t.Volumes := ⟨_, rfl⟩
  have htab : encTables t = .agg [.int .i64 nv, .list 5 ss, .list 3 cs, .list 3 ws, .list 1 ms, .list 6 ks] := by rw [encTables_eq t hss hcs hws hms hks, hnv]
  rw [htab] at hck hcs' ⊢
  have hkl : ks.length = t.Kinds.length := by rw [hks]; simp [encKinds]
  obtain ⟨sc, hsc⟩ : ∃ sc, sc = encChanges s := ⟨_, rfl⟩
  rw [encScheme_eq hsc] at hck hcs' ⊢
  generalize capErr t s = ce at hck hE
  conv => cbv
  refine call_intro hA (hck) ?_
  conv => cbv
  split
  · rename_i hc
    have g := neT hA hc
    rw [if_pos g] at hE
    conv => cbv
    exact hBad _ g hE
  rename_i hc
  have g := neF hA hc
  subst g
  rw [if_neg (by simp)] at hE
  conv => cbv
  split
  · rename_i hc
    have g := ltT hA hc
    rw [if_pos (.inl g)] at hE
    conv => cbv
    exact hBad _ (by decide) hE
  rename_i g1; replace g1 := ltF hA g1
  conv => cbv
  split
  · rename_i hc
    have g := leT' hA (lenI hA hkl) rfl hc
    rw [if_pos (.inr g)] at hE
    conv => cbv
    exact hBad _ (by decide) hE
  rename_i g2; replace g2 := leF' hA (lenI hA hkl) rfl g2
  rw [if_neg (by omega)] at hE
  conv => cbv
  refine loop_set hA (fun (z : Int × List PV) s => { (s.put (some 12) (.val (.int .i64 z.1))).put (some 11) (.own 0 1 z.2) with tk := [(A.nLen z.2, 86)] })
    (fun z => 0 ≤ z.1 ∧ z.1 ≤ l.length ∧ stErr t (l.take z.1.toNat) = 0 ∧ z.2 = encCellLs (allR t s (l.take z.1.toNat))) (fun z => (l.length - z.1).toNat) (0, []) ?_ ?_ ?_
  · conv => cbv
    exact wk_own 11 0 1 [] _ rfl (.inr rfl) (by repeat (first | refine leL_same ?_ | refine leL_any ?_ | exact leL_nil)) (by subst hA; rfl)
  · exact ⟨Int.le_refl _, by omega, rfl, rfl⟩
  rintro R ⟨i, L⟩ ⟨hi0, hi1, he, hL⟩ hR
  simp only at hi0 hi1 he hL
  conv => cbv
  split
  rotate_left
  · rename_i hc
    have hi : l.length ≤ i := ltF' hA rfl (lenI hA hxl) hc
    rw [List.take_of_length_le (by omega)] at he hL
    rw [he] at hE
    conv => cbv
    rw [← hOk hE, hL]
  rename_i hc
  have hi : i < l.length := ltT' hA rfl (lenI hA hxl) hc
  have his : A.iAdd i 1 = i + 1 := addI hA _ _
  have hir : A.inR (A.iAdd i 1) := inR' hA his (by unfold inI64; omega)
  conv => cbv
  refine ⟨draw_intro hA (by kernel_rfl), ?_⟩
  refine idx_Path hA hx hi0 hi (fun p ts hp hts => ?_)
  have htake := take_snoc' hi0 hp
  have hcp := hcs' p
  rw [encPath_eq p hts] at hcp
  have hbad : stErr1 t p ≠ 0 → stErr t l = stErr1 t p := by
    intro h
    have e : l = l.take i.toNat ++ (p :: l.drop (i.toNat + 1)) := by
      have h1 := List.getElem?_eq_some_iff.1 hp
      rw [← h1.2, List.getElem_cons_drop h1.1, List.take_append_drop]
    rw [e, stErr_append t _ _ he, stErr, if_neg h]
  have hgood : stErr1 t p = 0 → stErr t (l.take (i + 1).toNat) = 0 := by
    intro h
    rw [htake, stErr_append t _ _ he]
    simp [stErr, h]
  have hall : allR t s (l.take (i + 1).toNat) = allR t s (l.take i.toNat) ++ [cellsR t s p] := by rw [htake]; simp [allR]
  unfold cellsRes at hcp
  have hLl : L.length = i.toNat := by rw [hL]; simp [encCellLs, allR]; omega
  generalize stErr1 t p = e at hcp hbad hgood
  obtain ⟨M, hM⟩ : ∃ M, M = encCells (cellsR t s p) := ⟨_, rfl⟩
  rw [← hM] at hcp
  have hnext : A.lApp L [.list 3 M] = encCellLs (allR t s (l.take (i + 1).toNat)) := by
    rw [hall, hM]
    subst hA hL
    show encCellLs _ ++ _ = _
    simp [encCellLs, encCellL]
  have hroom : A.room (A.nLen (A.lApp L [.list 3 M])) 24 := by
    subst hA
    show (L ++ [_]).length * (24 + 1) ≤ 140737488355328
    rw [List.length_append, List.length_singleton]
    omega
  have htk : A.tkEq (A.nLen L) (A.nLen L) := by subst hA; rfl
  obtain ⟨way, T⟩ := p
  simp only at hcp hts
  by_cases h0 : e = 0
  · rw [if_pos h0, h0] at hcp
    conv => cbv
    refine call_intro hA (hcp) ?_
    conv => cbv
    split
    · rename_i hc
      cases (neT hA hc rfl)
    conv => cbv
    refine ⟨⟨htk, hroom⟩, hir, hR (A.iAdd i 1, A.lApp L [.list 3 M]) _ ?_ ?_ ?_⟩
    · conv => cbv
      exact wk_sl (by repeat (first | refine leL_same ?_ | refine leL_any ?_ | exact leL_nil))
    · rw [his]; exact ⟨by show 0 ≤ i + 1; omega, by show i + 1 ≤ _; omega, hgood h0, hnext⟩
    · rw [his]; simp only; omega
  · rw [if_neg h0] at hcp
    conv => cbv
    refine call_intro hA (hcp) ?_
    conv => cbv
    split
    rotate_left
    · rename_i hc
      cases (h0 (neF hA hc))
    conv => cbv
    rw [hbad h0] at hE
    exact hBad _ h0 hE
end Go.Abs
