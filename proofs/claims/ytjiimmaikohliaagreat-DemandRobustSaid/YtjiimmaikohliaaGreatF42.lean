/-
  Functions: demand.cells, the cells in which a flight is.
-/
import Derived.Test.YtjiimmaikohliaaGreatF40
set_option linter.unusedVariables false
set_option linter.unusedSimpArgs false
namespace Go.Abs
open Go.RowKit Go.Proofs

/-- The cell of a stay at a minute. -/
def cellM (t : Tables) (s : List Change) (x : Stay) (m : Int) : Option Cell :=
  if x.Airport then some ⟨true, x.Index, m⟩ else (secAt t s x.Index m).map fun i => ⟨false, i, m⟩
def loM (x : Stay) : Int := max x.Minutes.From 0
def hiM (x : Stay) : Int := min x.Minutes.To 1440
def cellsS (t : Tables) (s : List Change) (x : Stay) : List Cell := (rangeL (loM x) (hiM x - 1)).filterMap (cellM t s x)
def cellsOf (t : Tables) (s : List Change) (l : List Stay) : List Cell := l.flatMap (cellsS t s)

theorem fm_get {α β : Type} {l : List α} {g : α → List β} {i : Nat} {x : α} {c : β} {B R : List β} (hx : l[i]? = some x) (hg : g x = B ++ c :: R) : (l.flatMap g)[((l.take i).flatMap g).length + B.length]? = some c := by
  have hlt := List.getElem?_eq_some_iff.1 hx
  have e : l.flatMap g = (l.take i).flatMap g ++ ((B ++ c :: R) ++ (l.drop (i + 1)).flatMap g) := by
    conv => lhs; rw [← List.take_append_drop i l, List.drop_eq_getElem_cons hlt.1, hlt.2]
    rw [List.flatMap_append, List.flatMap_cons, hg]
  rw [e, List.getElem?_append_right (by omega), Nat.add_sub_cancel_left, List.append_assoc, List.getElem?_append_right (by omega), Nat.sub_self]
  rfl
theorem flt_get {α β : Type} {L : List α} {f : α → Option β} {j : Nat} {m : α} {c : β} (h : L.take (j + 1) = L.take j ++ [m]) (hf : f m = some c) : ∃ R, L.filterMap f = (L.take j).filterMap f ++ c :: R := by
  refine ⟨(L.drop (j + 1)).filterMap f, ?_⟩
  conv => lhs; rw [← List.take_append_drop (j + 1) L, h]
  rw [List.filterMap_append, List.filterMap_append, List.filterMap_cons_some hf, List.append_assoc]; rfl
theorem flt_len {α β : Type} {L : List α} {f : α → Option β} {j : Nat} {m : α} (h : L.take (j + 1) = L.take j ++ [m]) : ((L.take (j + 1)).filterMap f).length = ((L.take j).filterMap f).length + if (f m).isSome then 1 else 0 := by
  rw [h, List.filterMap_append, List.length_append]
  cases hf : f m with
  | none => simp [hf]
  | some c => simp [hf]

theorem dm_cells (nv : Int) (ss cs ws ms ks xs ys : List PV) :
    CallsPV Tryz.prog 78 [.agg [.int .i64 nv, .list 5 ss, .list 3 cs, .list 3 ws, .list 1 ms, .list 6 ks], .agg [.list 3 xs], .list 4 ys]
      (.fn 104 [.ptr [.list 4 ys] 0, .ptr [.int .i64 nv, .list 5 ss, .list 3 cs, .list 3 ws, .list 1 ms, .list 6 ks] 0, .ptr [.list 3 xs] 0]) := by
  refine callsPV_by (clo := fun _ => false) (rows := false) env_ok Tryz.func78 rfl (enters_of Tryz.func78 (by kernel_rfl) rfl) (fun A q P Y hr hA hq => ?_)
  conv => cbv
  rw [← hq]

set_option maxHeartbeats 4000000 in
theorem dm_cells1 (t : Tables) (s : List Change) (l : List Stay) {nv : Int} {ss cs ws ms ks xs ys : List PV} (htab : encTables t = .agg [.int .i64 nv, .list 5 ss, .list 3 cs, .list 3 ws, .list 1 ms, .list 6 ks]) (hxs : xs = encChanges s) (hys0 : ys = encStays l) (hlen : l.length ≤ 1000000) :
    SeqPV Tryz.prog 104 [.ptr [.list 4 ys] 0, .ptr [.int .i64 nv, .list 5 ss, .list 3 cs, .list 3 ws, .list 1 ms, .list 6 ks] 0, .ptr [.list 3 xs] 0] ((cellsOf t s l).map fun c => [encCell c]) := by
  refine seqPV_by (clo := fun _ => false) (rows := false) env_ok Tryz.func104 rfl (enters_of Tryz.func104 (by kernel_rfl) rfl) rfl (fun A P Y Y' y R hr hys hy hA hR => ?_)
  have hR' := fun q (h : q = Y.ys.length ∨ q = Y.ys.length + 1) => hR q (by rw [hys] at h; exact h)
  have hll : ys.length = l.length := by rw [hys0]; simp [encStays]
  have hyl : Y.ys.length = (cellsOf t s l).length := by rw [hys]; simp
  have hsec := fun v m => cap_Sector t s v m
  rw [htab, encScheme_eq hxs] at hsec
  conv => cbv
  refine loop_set hA (fun (z : Int × Nat) s => { s.put (some 12) (.val (.int .i64 z.1)) with ax := ⟨s.ax.mp, z.2⟩ }) (fun z => 0 ≤ z.1 ∧ z.1 ≤ l.length ∧ z.2 = ((l.take z.1.toNat).flatMap (cellsS t s)).length) (fun z => (l.length - z.1).toNat) (0, 0) ?_ ?_ ?_
  · conv => cbv
    exact wk_sl (by repeat (first | refine leL_same ?_ | refine leL_any ?_ | exact leL_nil))
  · exact ⟨Int.le_refl _, by omega, by simp⟩
  rintro R2 ⟨i, kk⟩ ⟨hi0, hi1, hk⟩ hR2
  simp only at hi0 hi1 hk
  conv => cbv
  split
  · rename_i hc
    have hi : i < l.length := ltT' hA rfl (lenI hA hll) hc
    have his : A.iAdd i 1 = i + 1 := addI hA _ _
    conv => cbv
    refine idx_Stay hA hys0 hi0 hi (fun x hx0 => ?_)
    obtain ⟨x1, x2, ⟨x3, x4⟩⟩ := x
    have hlo0 : 0 ≤ loM ⟨x1, x2, ⟨x3, x4⟩⟩ := Int.le_max_right _ _
    have hlo1 : loM ⟨x1, x2, ⟨x3, x4⟩⟩ = max x3 0 := rfl
    have hhi1 : hiM ⟨x1, x2, ⟨x3, x4⟩⟩ = min x4 1440 := rfl
    have hcl : cellsS t s ⟨x1, x2, ⟨x3, x4⟩⟩ = (rangeL (loM ⟨x1, x2, ⟨x3, x4⟩⟩) (hiM ⟨x1, x2, ⟨x3, x4⟩⟩ - 1)).filterMap (cellM t s ⟨x1, x2, ⟨x3, x4⟩⟩) := rfl
    have hcm : ∀ m, cellM t s ⟨x1, x2, ⟨x3, x4⟩⟩ m = if x1 then some ⟨true, x2, m⟩ else (secAt t s x2 m).map fun i => ⟨false, i, m⟩ := fun m => rfl
    have hget : ∀ kk c B R, kk = ((l.take i.toNat).flatMap (cellsS t s)).length + B.length → cellsS t s ⟨x1, x2, ⟨x3, x4⟩⟩ = B ++ c :: R → Y.ys[kk]? = some [encCell c] := fun kk c B R h1 h2 => by
      rw [hys, List.getElem?_map, h1, show cellsOf t s l = l.flatMap (cellsS t s) from rfl, fm_get hx0 h2]; rfl
    have hlen2 : ((l.take (i + 1).toNat).flatMap (cellsS t s)).length = ((l.take i.toNat).flatMap (cellsS t s)).length + (cellsS t s ⟨x1, x2, ⟨x3, x4⟩⟩).length := by
      rw [take_snoc' hi0 hx0, List.flatMap_append, List.length_append]; simp
    have hmx : A.iMax x3 0 = loM ⟨x1, x2, ⟨x3, x4⟩⟩ := by rw [hlo1]; subst hA; rfl
    have hmn : A.iMin x4 1440 = hiM ⟨x1, x2, ⟨x3, x4⟩⟩ := by rw [hhi1]; subst hA; rfl
    generalize loM ⟨x1, x2, ⟨x3, x4⟩⟩ = lo at hlo0 hlo1 hcl hmx
    generalize hiM ⟨x1, x2, ⟨x3, x4⟩⟩ = hi at hhi1 hcl hmn
    generalize cellM t s ⟨x1, x2, ⟨x3, x4⟩⟩ = f at hcl hcm
    generalize cellsS t s ⟨x1, x2, ⟨x3, x4⟩⟩ = L at hcl hget hlen2
    generalize ((l.take i.toNat).flatMap (cellsS t s)).length = k0 at hk hget hlen2
    conv => cbv
    refine loop_set hA (fun (z : Int × Nat) s => { s.put (some 7) (.val (.int .i64 z.1)) with ax := ⟨s.ax.mp, z.2⟩ }) (fun z => lo ≤ z.1 ∧ (z.1 ≤ hi ∨ z.1 = lo) ∧ z.2 = k0 + (((rangeL lo (hi - 1)).take (z.1 - lo).toNat).filterMap f).length) (fun z => (hi - z.1).toNat) (A.iMax x3 0, kk) ?_ ?_ ?_
    · conv => cbv
      exact wk_sl (by repeat (first | refine leL_same ?_ | refine leL_any ?_ | exact leL_nil))
    · show lo ≤ A.iMax x3 0 ∧ (A.iMax x3 0 ≤ hi ∨ A.iMax x3 0 = lo) ∧ kk = k0 + (((rangeL lo (hi - 1)).take (A.iMax x3 0 - lo).toNat).filterMap f).length
      rw [hmx]
      exact ⟨Int.le_refl _, .inr rfl, by rw [hk]; simp⟩
    rintro R3 ⟨m, kk⟩ ⟨hm0, hm1, hkk⟩ hR3
    simp only at hm0 hm1 hkk
    conv => cbv
    split
    rotate_left
    · rename_i hc
      have hge := ltF' hA rfl hmn hc
      conv => cbv
      refine ⟨inR' hA his (by unfold inI64; omega), hR2 (A.iAdd i 1, kk) _ ?_ ?_ ?_⟩
      · (conv => cbv)
        exact wk_round (bx := []) (bx' := [_]) (mp := []) (mp' := []) (by repeat (first | refine leL_same ?_ | refine leL_any ?_ | exact leL_nil)) (by simp) (by simp) rfl rfl
      · refine ⟨by show 0 ≤ A.iAdd i 1; omega, by show A.iAdd i 1 ≤ _; omega, ?_⟩
        show kk = ((l.take (A.iAdd i 1).toNat).flatMap (cellsS t s)).length
        rw [his, hlen2, hkk, hcl, List.take_of_length_le (by rw [rangeL_len]; omega)]
      · show (l.length - A.iAdd i 1).toNat < (l.length - i).toNat
        rw [his]; omega
    rename_i hc
    have hmh : m < hi := ltT' hA rfl hmn hc
    have hms : A.iAdd m 1 = m + 1 := addI hA _ _
    have hmr : A.inR (A.iAdd m 1) := inR' hA hms (by unfold inI64; omega)
    have hmd : (hi - A.iAdd m 1).toNat < (hi - m).toNat := by rw [hms]; omega
    have htk : (rangeL lo (hi - 1)).take ((m - lo).toNat + 1) = (rangeL lo (hi - 1)).take (m - lo).toNat ++ [m] := by
      rw [← rangeL_take hm0 (by omega), show (m + 1 - lo).toNat = (m - lo).toNat + 1 by omega]
    have hln := flt_len (f := f) htk
    have hnx : ∀ k', k' = kk + (if (f m).isSome then 1 else 0) → lo ≤ A.iAdd m 1 ∧ (A.iAdd m 1 ≤ hi ∨ A.iAdd m 1 = lo) ∧ k' = k0 + (((rangeL lo (hi - 1)).take (A.iAdd m 1 - lo).toNat).filterMap f).length := fun k' h => by
      rw [hms, show (m + 1 - lo).toNat = (m - lo).toNat + 1 by omega, hln]
      exact ⟨by omega, .inl (by omega), by omega⟩
    have hnS : (f m).isSome = true → lo ≤ A.iAdd m 1 ∧ (A.iAdd m 1 ≤ hi ∨ A.iAdd m 1 = lo) ∧ kk + 1 = k0 + (((rangeL lo (hi - 1)).take (A.iAdd m 1 - lo).toNat).filterMap f).length := fun h => hnx _ (by rw [h]; rfl)
    have hnN : f m = none → lo ≤ A.iAdd m 1 ∧ (A.iAdd m 1 ≤ hi ∨ A.iAdd m 1 = lo) ∧ kk = k0 + (((rangeL lo (hi - 1)).take (A.iAdd m 1 - lo).toNat).filterMap f).length := fun h => hnx _ (by rw [h]; rfl)
    have hfR : ∀ c, f m = some c → ∃ R, L = ((rangeL lo (hi - 1)).take (m - lo).toNat).filterMap f ++ c :: R := fun c h => by rw [hcl]; exact flt_get htk h
    have hfm := hcm m
    have hsc := hsec x2 m
    cases x1 with
    | true =>
      rw [if_pos rfl] at hfm
      have hfR2 := hfR _ hfm
      replace hfR2 := hfR2.choose_spec
      conv => cbv
      split
      · rename_i hc
        cases (nT hA hc)
      conv => cbv
      refine yld_intro' hA rfl hy (hget kk _ _ _ hkk hfR2) ?_ (fun n' hn' => ?_)
      · conv => cbv
        split
        · rename_i hc
          cases (nT hA hc)
        conv => cbv
        exact ⟨hmr, hR3 (A.iAdd m 1, kk + 1) _ (by (conv => cbv); exact wk_round (bx := [_]) (bx' := [_]) (mp := []) (mp' := []) (by repeat (first | refine leL_same ?_ | refine leL_any ?_ | exact leL_nil)) (by simp) (by simp) rfl rfl) (hnS (by rw [hfm]; rfl)) hmd⟩
      · conv => cbv
        split
        · conv => cbv
          exact hR' _ (.inr hn')
        · rename_i hc
          have hf : False := nF hA hc
          cases hf
    | false =>
      rw [if_neg (by simp)] at hfm
      cases hz : secAt t s x2 m with
      | none =>
        rw [hz] at hsc hfm
        have hsc2 : CallsPV Tryz.prog 105 _ (.tup [.int .i64 0, .bool false]) := hsc
        replace hfm : f m = none := hfm
        conv => cbv
        split
        rotate_left
        · rename_i hc
          cases (nF hA hc)
        conv => cbv
        refine call_intro hA (hsc2) ?_
        conv => cbv
        exact ⟨hmr, hR3 (A.iAdd m 1, kk) _ (by (conv => cbv); exact wk_round (bx := [_]) (bx' := [_]) (mp := []) (mp' := []) (by repeat (first | refine leL_same ?_ | refine leL_any ?_ | exact leL_nil)) (by simp) (by simp) rfl rfl) (hnN hfm) hmd⟩
      | some z =>
        rw [hz] at hsc hfm
        have hsc2 : CallsPV Tryz.prog 105 _ (.tup [.int .i64 z, .bool true]) := hsc
        replace hfm : f m = some ⟨false, z, m⟩ := hfm
        have hfR2 := (hfR _ hfm).choose_spec
        conv => cbv
        split
        rotate_left
        · rename_i hc
          cases (nF hA hc)
        conv => cbv
        refine call_intro hA (hsc2) ?_
        conv => cbv
        refine yld_intro' hA rfl hy (hget kk _ _ _ hkk hfR2) ?_ (fun n' hn' => ?_)
        · conv => cbv
          split
          · rename_i hc
            cases (nT hA hc)
          conv => cbv
          exact ⟨hmr, hR3 (A.iAdd m 1, kk + 1) _ (by (conv => cbv); exact wk_round (bx := [_]) (bx' := [_]) (mp := []) (mp' := []) (by repeat (first | refine leL_same ?_ | refine leL_any ?_ | exact leL_nil)) (by simp) (by simp) rfl rfl) (hnS (by rw [hfm]; rfl)) hmd⟩
        · conv => cbv
          split
          · conv => cbv
            exact hR' _ (.inr hn')
          · rename_i hc
            have hf : False := nF hA hc
            cases hf
  · rename_i hc
    have hge : (l.length : Int) ≤ i := ltF' hA rfl (lenI hA hll) hc
    conv => cbv
    exact hR' _ (.inl (by show kk = _; rw [hyl, hk, List.take_of_length_le (by omega)]; rfl))
end Go.Abs
