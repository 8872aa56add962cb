/-
  References: ref20.Cells.
-/
import Derived.Test.YtjiimmaikohliaaGreatR32
set_option linter.unusedVariables false
set_option linter.unusedSimpArgs false
namespace Go.Abs
open Go.RowKit Go.Proofs

theorem rangeL_nil {lo hi : Int} (h : hi < lo) : rangeL lo hi = [] := List.eq_nil_of_length_eq_zero (by rw [rangeL_len]; omega)
theorem rangeL_snoc {lo m : Int} (h : lo ≤ m) : rangeL lo m = rangeL lo (m - 1) ++ [m] := by
  have h1 := rangeL_take (lo := lo) (hi := m) (x := m) h (Int.le_refl _)
  rw [List.take_of_length_le (by rw [rangeL_len]; omega)] at h1
  rw [h1]
  congr 1
  unfold rangeL
  rw [← List.map_take, List.take_range]
  congr 2
  omega

theorem legStays_mem : ∀ {ls : List Leg} {ts : List Int} {x : Stay}, x ∈ legStays ls ts → x.Minutes.From ∈ ts ∧ x.Minutes.To ∈ ts ∧ x.Airport = false
  | [], _, _, h => by simp [legStays] at h
  | _ :: _, [], _, h => by simp [legStays] at h
  | _ :: _, [_], _, h => by simp [legStays] at h
  | y :: r, a :: b :: ts, x, h => by
    simp only [legStays, List.mem_cons] at h
    rcases h with rfl | h
    · exact ⟨by simp, by simp, rfl⟩
    · obtain ⟨h1, h2, h3⟩ := legStays_mem h
      exact ⟨List.mem_cons_of_mem _ h1, List.mem_cons_of_mem _ h2, h3⟩
theorem staysP_to {t : Tables} {p : Path} (h : stErr1 t p = 0) : ∀ x ∈ staysP t p, 0 ≤ x.Minutes.From ∧ x.Minutes.To ≤ 65536 := by
  unfold stErr1 at h
  split at h
  · split at h
    · rename_i hp
      obtain ⟨w, a1, a2, a3, a4, a5⟩ := pathOk_way hp
      rw [a5]
      intro x hx
      have hd : ∀ (l : List Int), (∀ m ∈ l, 0 ≤ m ∧ m ≤ 65535) → (0 ≤ l.headD 0 ∧ l.headD 0 ≤ 65535) ∧ 0 ≤ l.getLastD 0 ∧ l.getLastD 0 ≤ 65535 := fun l hl => by
        cases l with
        | nil => simp
        | cons y r =>
          refine ⟨hl y (by simp), ?_⟩
          rw [List.getLastD_eq_getLast?, List.getLast?_eq_some_getLast (by simp)]
          exact hl _ (List.getLast_mem _)
      obtain ⟨h1, h2⟩ := hd p.Times a4
      simp only [staysOf, List.cons_append, List.mem_cons, List.mem_append, List.not_mem_nil, or_false] at hx
      rcases hx with rfl | hx | rfl
      · exact ⟨h1.1, by show p.Times.headD 0 + 1 ≤ _; omega⟩
      · obtain ⟨k1, k2, _⟩ := legStays_mem hx
        exact ⟨(a4 _ k1).1, by have := (a4 _ k2).2; omega⟩
      · exact ⟨h2.1, by show p.Times.getLastD 0 + 1 ≤ _; omega⟩
    · cases h
  · cases h
theorem leL_nl {m m' : Nat} {l l' : List SV} (h : leL l l') : leL (.lit m [] :: l) (SV.val (.list m' []) :: l') := ⟨.inr (.inr ⟨rfl, m, rfl⟩), h⟩

/-- What a reference puts together of a path's cells. -/
def cellsR (t : Tables) (s : List Change) (p : Path) : List Cell := putsC [] (pathCells t s p)
def cellsRes (t : Tables) (s : List Change) (p : Path) : PV := if stErr1 t p = 0 then .list 3 (encCells (cellsR t s p)) else .list 0 []

set_option maxRecDepth 10000 in
set_option maxHeartbeats 4000000 in
theorem ref20_Cells (t : Tables) (s : List Change) (p : Path) : CallsPV Tryz.prog 51 [encTables t, encScheme s, encPath p] (.tup [cellsRes t s p, .int .i64 (stErr1 t p)]) := by
  refine callsPV_by (clo := fun _ => false) (rows := false) env_ok Tryz.func51 rfl (enters_of Tryz.func51 (by kernel_rfl) rfl) (fun A q P Y hr hA hq => ?_)
  have hst := ref17_Stays t p
  have hsec := fun v m => ref19_Sector t s v m
  have hsl : stErr1 t p = 0 → (staysP t p).length ≤ 10 ∧ ∀ x ∈ staysP t p, 0 ≤ x.Minutes.From ∧ x.Minutes.To ≤ 65536 := fun h => ⟨staysP_len h, staysP_to h⟩
  unfold cellsRes cellsR pathCells at hq
  unfold stRes1 at hst
  generalize staysP t p = l at hq hst hsl
  generalize stErr1 t p = e at hq hst hsl
  obtain ⟨ys, hys⟩ : ∃ ys, ys = encStays l := ⟨_, rfl⟩
  have hyl : ys.length = l.length := by rw [hys]; simp [encStays]
  rw [← hys] at hst
  obtain ⟨ss, hss⟩ : ∃ ss, ss = encSectors t.Sectors := ⟨_, rfl⟩
  obtain ⟨cs, hcs⟩ : ∃ cs, cs = encConfigs t.Configs := ⟨_, rfl⟩
  obtain ⟨ws, hws⟩ : ∃ ws, ws = encWays t.Ways := ⟨_, rfl⟩
  obtain ⟨ms, hms⟩ : ∃ ms, ms = encIntLs t.Modes := ⟨_, rfl⟩
  obtain ⟨ks, hks⟩ : ∃ ks, ks = encKinds t.Kinds := ⟨_, rfl⟩
  obtain ⟨nv, hnv⟩ : ∃ nv, nv = t.Volumes := ⟨_, rfl⟩
  have htab : encTables t = .agg [.int .i64 nv, .list 5 ss, .list 3 cs, .list 3 ws, .list 1 ms, .list 6 ks] := by rw [encTables_eq t hss hcs hws hms hks, hnv]
  rw [htab] at hst hsec ⊢
  obtain ⟨xs, hxs⟩ : ∃ xs, xs = encChanges s := ⟨_, rfl⟩
  rw [encScheme_eq hxs] at hsec ⊢
  obtain ⟨p1, p2⟩ := p
  obtain ⟨ts, hts⟩ : ∃ ts, ts = encInts p2 := ⟨_, rfl⟩
  rw [encPath_eq _ hts] at hst ⊢
  simp only at hst ⊢
  by_cases he : e = 0
  rotate_left
  · rw [if_neg he] at hst hq
    conv => cbv
    refine call_intro hA (hst) ?_
    conv => cbv
    split
    rotate_left
    · rename_i hc
      cases (he (neF hA hc))
    conv => cbv
    exact hq
  rw [if_pos he] at hst hq
  subst he
  obtain ⟨hsl, hsto⟩ := hsl rfl
  conv => cbv
  refine call_intro hA (hst) ?_
  conv => cbv
  split
  · rename_i hc
    cases ((neT hA hc rfl))
  conv => cbv
  refine loop_set hA (fun (z : Int × List PV) s => (s.put (some 11) (.val (.int .i64 z.1))).put (some 10) (.val (.list 3 z.2))) (fun z => 0 ≤ z.1 ∧ z.1 ≤ l.length ∧ z.2 = encCells (putsC [] ((l.take z.1.toNat).flatMap (cellsS t s)))) (fun z => (l.length - z.1).toNat) (0, []) ?_ ?_ ?_
  · (conv => cbv)
    exact wk_sl (by repeat (first | refine leL_same ?_ | refine leL_any ?_ | refine leL_nl ?_ | exact leL_nil))
  · exact ⟨Int.le_refl _, by omega, by simp [putsC, encCells]⟩
  rintro R2 ⟨i, M⟩ ⟨hi0, hi1, hM⟩ hR2
  simp only at hi0 hi1 hM
  conv => cbv
  split
  rotate_left
  · rename_i hc
    have hge : (l.length : Int) ≤ i := ltF' hA rfl (lenI hA hyl) hc
    conv => cbv
    rw [List.take_of_length_le (by omega)] at hM
    rw [← hq, hM]
    rfl
  rename_i hc
  have hi : i < l.length := ltT' hA rfl (lenI hA hyl) hc
  have his : A.iAdd i 1 = i + 1 := addI hA _ _
  have hir : A.inR (A.iAdd i 1) := inR' hA his (by unfold inI64; omega)
  conv => cbv
  refine idx_Stay hA hys hi0 hi (fun x hx0 => ?_)
  have htk : (l.take (i + 1).toNat).flatMap (cellsS t s) = (l.take i.toNat).flatMap (cellsS t s) ++ cellsS t s x := by rw [take_snoc' hi0 hx0, List.flatMap_append]; simp
  have hPl : ((l.take i.toNat).flatMap (cellsS t s)).length ≤ 14400 := by
    have h2 : ∀ x : Stay, (cellsS t s x).length ≤ 1440 := fun x => by
      unfold cellsS
      refine Nat.le_trans (List.length_filterMap_le _ _) ?_
      rw [rangeL_len]
      unfold hiM loM
      omega
    have h3 : ∀ L : List Stay, (L.flatMap (cellsS t s)).length ≤ L.length * 1440 := fun L => by
      induction L with
      | nil => simp
      | cons x l ih => rw [List.flatMap_cons, List.length_append, List.length_cons]; have := h2 x; omega
    have := h3 (l.take i.toNat)
    rw [List.length_take] at this
    omega
  generalize (l.take i.toNat).flatMap (cellsS t s) = P0 at hM htk hPl
  obtain ⟨hx3, hx4⟩ := hsto x (List.mem_of_getElem? hx0)
  obtain ⟨x1, x2, ⟨x3, x4⟩⟩ := x
  simp only at hx3 hx4
  have hlo1 : loM ⟨x1, x2, ⟨x3, x4⟩⟩ = max x3 0 := rfl
  have hhi1 : hiM ⟨x1, x2, ⟨x3, x4⟩⟩ = min x4 1440 := rfl
  have hcl : cellsS t s ⟨x1, x2, ⟨x3, x4⟩⟩ = (rangeL (loM ⟨x1, x2, ⟨x3, x4⟩⟩) (hiM ⟨x1, x2, ⟨x3, x4⟩⟩ - 1)).filterMap (cellM t s ⟨x1, x2, ⟨x3, x4⟩⟩) := rfl
  have hcm : ∀ m, cellM t s ⟨x1, x2, ⟨x3, x4⟩⟩ m = if x1 then some ⟨true, x2, m⟩ else (secAt t s x2 m).map fun i => ⟨false, i, m⟩ := fun m => rfl
  generalize loM ⟨x1, x2, ⟨x3, x4⟩⟩ = lo at hlo1 hcl
  generalize hiM ⟨x1, x2, ⟨x3, x4⟩⟩ = hi' at hhi1 hcl
  generalize cellM t s ⟨x1, x2, ⟨x3, x4⟩⟩ = f at hcl hcm
  generalize cellsS t s ⟨x1, x2, ⟨x3, x4⟩⟩ = L at hcl htk
  obtain ⟨cto, hcto⟩ : ∃ cto : Int → List Cell, cto = fun m => (rangeL lo (min m hi' - 1)).filterMap f := ⟨_, rfl⟩
  have hc0 : cto x3 = [] := by rw [hcto]; show List.filterMap f (rangeL _ _) = []; rw [rangeL_nil (by omega)]; rfl
  have hcout : ∀ m, m < 0 ∨ 1440 ≤ m → cto (m + 1) = cto m := fun m h => by
    rw [hcto]
    show List.filterMap f (rangeL _ _) = List.filterMap f (rangeL _ _)
    rcases h with h | h
    · rw [rangeL_nil (by omega), rangeL_nil (by omega)]
    · rw [show min (m + 1) hi' = min m hi' by omega]
  have hcin : ∀ m, x3 ≤ m → m < x4 → 0 ≤ m → m < 1440 → cto (m + 1) = cto m ++ (f m).toList := fun m h1 h2 h3 h4 => by
    rw [hcto]
    show List.filterMap f (rangeL _ _) = List.filterMap f (rangeL _ _) ++ _
    rw [show min (m + 1) hi' - 1 = m by omega, show min m hi' - 1 = m - 1 by omega, rangeL_snoc (by omega), List.filterMap_append]
    cases h : f m <;> simp [h]
  have hcend : ∀ m, x4 ≤ m → (m ≤ x4 ∨ m = x3) → cto m = L := fun m h1 h2 => by
    rw [hcto, hcl]
    show List.filterMap f (rangeL _ _) = _
    by_cases e : m = x4
    · rw [e, show min x4 hi' = hi' by omega]
    · rw [rangeL_nil (by omega), rangeL_nil (by omega)]
  have hclen : ∀ m, (cto m).length ≤ 1440 := fun m => by
    rw [hcto]
    refine Nat.le_trans (List.length_filterMap_le _ _) ?_
    rw [rangeL_len]
    omega
  clear hcto hcl
  conv => cbv
  refine loop_set hA (fun (z : Int × List PV) s => (s.put (some 13) (.val (.int .i64 z.1))).put (some 10) (.val (.list 3 z.2))) (fun z => x3 ≤ z.1 ∧ (z.1 ≤ x4 ∨ z.1 = x3) ∧ z.2 = encCells (putsC [] (P0 ++ cto z.1))) (fun z => (x4 - z.1).toNat) (x3, M) ?_ ?_ ?_
  · conv => cbv
    exact wk_sl (by repeat (first | refine leL_same ?_ | refine leL_any ?_ | exact leL_nil))
  · exact ⟨Int.le_refl _, .inr rfl, by show M = encCells (putsC [] (P0 ++ cto x3)); rw [hM, hc0, List.append_nil]⟩
  rintro R3 ⟨m, N⟩ ⟨hm0, hm1, hN⟩ hR3
  simp only at hm0 hm1 hN
  conv => cbv
  split
  rotate_left
  · rename_i hc
    have hge := ltF hA hc
    conv => cbv
    refine ⟨hir, hR2 (A.iAdd i 1, N) _ ?_ ?_ ?_⟩
    · (conv => cbv)
      exact wk_round (bx := [_, _, _]) (bx' := [_]) (mp := []) (mp' := []) (by repeat (first | refine leL_same ?_ | refine leL_any ?_ | exact leL_nil)) (by simp) (by simp) rfl rfl
    · rw [his]
      exact ⟨by show 0 ≤ i + 1; omega, by show i + 1 ≤ _; omega, by show N = _; rw [hN, hcend m hge hm1, htk]⟩
    · rw [his]; simp only; omega
  rename_i hc
  have hmh : m < x4 := ltT hA hc
  have hms : A.iAdd m 1 = m + 1 := addI hA _ _
  have hmr : A.inR (A.iAdd m 1) := inR' hA hms (by unfold inI64; omega)
  have hmd : (x4 - A.iAdd m 1).toNat < (x4 - m).toNat := by rw [hms]; omega
  have hnx : ∀ N', N' = encCells (putsC [] (P0 ++ cto (m + 1))) → x3 ≤ A.iAdd m 1 ∧ (A.iAdd m 1 ≤ x4 ∨ A.iAdd m 1 = x3) ∧ N' = encCells (putsC [] (P0 ++ cto (A.iAdd m 1))) := fun N' h => by
    rw [hms]; exact ⟨by omega, by omega, h⟩
  conv => cbv
  split
  · rename_i hc
    have g := ltT hA hc
    omega
  conv => cbv
  split
  · rename_i hc
    have g := leT hA hc
    conv => cbv
    exact ⟨hmr, hR3 (A.iAdd m 1, N) _ (by (conv => cbv); exact wk_sl (by repeat (first | refine leL_same ?_ | refine leL_any ?_ | exact leL_nil))) (hnx _ (by rw [hcout m (.inr g)]; exact hN)) hmd⟩
  rename_i hc
  have g := leF hA hc
  have hci := hcin m hm0 hmh (by omega) g
  have hNl : (putsC [] (P0 ++ cto m)).length ≤ 1000000 := by
    have h1 := putsC_len (L := P0 ++ cto m) []
    have h2 := hclen m
    rw [List.length_append] at h1
    simp at h1
    omega
  have hput := fun c => ref20_put (putsC [] (P0 ++ cto m)) c hNl hN
  have hfm := hcm m
  have hsc := hsec x2 m
  have hone : ∀ c, f m = some c → putC (putsC [] (P0 ++ cto m)) c = putsC [] (P0 ++ cto (m + 1)) := fun c h => by
    rw [hci, h, ← putsC_snoc, List.append_assoc]; rfl
  have hzero : f m = none → P0 ++ cto (m + 1) = P0 ++ cto m := fun h => by rw [hci, h]; simp
  cases x1 with
  | true =>
    rw [if_pos rfl] at hfm
    have hp2 := hput ⟨true, x2, m⟩
    rw [hone _ hfm] at hp2
    generalize encCells (putsC [] (P0 ++ cto (m + 1))) = N2 at hnx hp2
    conv => cbv
    refine call_intro hA hp2 ?_
    conv => cbv
    exact ⟨hmr, hR3 (A.iAdd m 1, N2) _ (by (conv => cbv); exact wk_sl (by repeat (first | refine leL_same ?_ | refine leL_any ?_ | exact leL_nil))) (hnx _ rfl) hmd⟩
  | false =>
    rw [if_neg (by simp)] at hfm
    cases hz : secAt t s x2 m with
    | none =>
      rw [hz] at hsc hfm
      have hsc2 : CallsPV Tryz.prog 82 _ (.tup [.int .i64 0, .bool false]) := hsc
      replace hfm : f m = none := hfm
      conv => cbv
      refine call_intro hA (hsc2) ?_
      conv => cbv
      exact ⟨hmr, hR3 (A.iAdd m 1, N) _ (by (conv => cbv); exact wk_sl (by repeat (first | refine leL_same ?_ | refine leL_any ?_ | exact leL_nil))) (hnx _ (by rw [hzero hfm]; exact hN)) hmd⟩
    | some z =>
      rw [hz] at hsc hfm
      have hsc2 : CallsPV Tryz.prog 82 _ (.tup [.int .i64 z, .bool true]) := hsc
      replace hfm : f m = some ⟨false, z, m⟩ := hfm
      have hp2 := hput ⟨false, z, m⟩
      rw [hone _ hfm] at hp2
      generalize encCells (putsC [] (P0 ++ cto (m + 1))) = N2 at hnx hp2
      conv => cbv
      refine call_intro hA (hsc2) ?_
      conv => cbv
      refine call_intro hA hp2 ?_
      conv => cbv
      exact ⟨hmr, hR3 (A.iAdd m 1, N2) _ (by (conv => cbv); exact wk_sl (by repeat (first | refine leL_same ?_ | refine leL_any ?_ | exact leL_nil))) (hnx _ rfl) hmd⟩
end Go.Abs
