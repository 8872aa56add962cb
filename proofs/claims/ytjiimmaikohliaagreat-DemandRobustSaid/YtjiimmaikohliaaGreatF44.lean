/-
  Functions: demand.counted.
-/
import Derived.Test.YtjiimmaikohliaaGreatF43
import Derived.Test.YtjiimmaikohliaaGreatF42
import Derived.Test.YtjiimmaikohliaaGreatF10
set_option linter.unusedVariables false
set_option linter.unusedSimpArgs false
namespace Go.Abs
open Go.RowKit Go.Proofs

def pathCells (t : Tables) (s : List Change) (p : Path) : List Cell := cellsOf t s (staysP t p)
/-- In how many of the lists a cell is. -/
def cntC (css : List (List Cell)) (c : Cell) : Nat := (css.filter fun l => decide (c ∈ l)).length
def cntO (n : Nat) : Option Int := if n = 0 then none else some (n : Int)
def CntOk (es : List (Cell × Int)) (css : List (List Cell)) : Prop := NodM es ∧ ∀ c, lookM es c = cntO (cntC css c)
def cntErr (t : Tables) (s : List Change) (cl : Int) (l : List Path) : Int := if capErr t s ≠ 0 then capErr t s else if cl < 0 ∨ (t.Kinds.length : Int) ≤ cl then 200 else stErr t l

theorem cntC_snoc (css : List (List Cell)) (L : List Cell) (c : Cell) : cntC (css ++ [L]) c = cntC css c + if c ∈ L then 1 else 0 := by
  unfold cntC
  rw [List.filter_append, List.length_append]
  by_cases h : c ∈ L
  · simp [h]
  · simp [h]
theorem cntC_le (css : List (List Cell)) (c : Cell) : cntC css c ≤ css.length := List.length_filter_le _ _

def cloC (n : Nat) : Bool := n == 9000000 || n == 1000020
def cntQ (t : Tables) (s : List Change) (cl : Int) (l : List Path) (bx : List (Option (List SV))) (r : SV) (bx' : List (Option (List SV))) (tk' : List (Nat × TypeId)) (ax' : Ax) : Prop :=
  bx' = bx ∧ tk' = [] ∧ ((cntErr t s cl l ≠ 0 ∧ r = .val (.tup [.map [] [], .int .i64 (cntErr t s cl l)]) ∧ ax' = ⟨[], 0⟩) ∨
    (cntErr t s cl l = 0 ∧ r = .mtup 0 [.int .i64 0] ∧ ∃ es, CntOk es (l.map (pathCells t s)) ∧ ax' = ⟨[.ents (encM encCell encInt es) none], 0⟩))
set_option maxRecDepth 40000 in
set_option maxHeartbeats 4000000 in
theorem dm_counted (t : Tables) (s : List Change) (cl : Int) (l : List Path) (c0 c1 : List SV) (hc0 : ∀ c ∈ c0, ∃ p, c = .val p) (hc1 : ∀ c ∈ c1, ∃ p, c = .val p) {xs : List PV} (hx : xs = encPaths l) (hlen : l.length ≤ 1000000) :
    CallsR ⟨Tryz.prog, tab, cloC, true, .none⟩ 49 [.val (encTables t), .val (encScheme s), .val (.int .i64 cl), .val (.list 2 xs)] [some c0, some c1] [] ⟨[], 0⟩ (cntQ t s cl l [some c0, some c1]) := by
  refine callsR_by (clo := cloC) (rows := true) env_ok Tryz.func49 rfl (enters_of Tryz.func49 (by kernel_rfl) rfl) (by intro h; simp at h) (fun A P Y nb R hA hnb hR => ?_)
  have hck := cap_Check t s
  have hst := fun p => occ_Stays t p
  have hxl : xs.length = l.length := by rw [hx]; simp [encPaths]
  have hin : ∀ M : List MapC, ([some c0, some c1] : List (Option (List SV))).all (fun o => match o with | none => true | some cs => cs.all (SV.within 2 M.length 0)) = true := fun M => by
    have h : ∀ cs : List SV, (∀ c ∈ cs, ∃ p, c = .val p) → cs.all (SV.within 2 M.length 0) = true := fun cs h => by
      rw [List.all_eq_true]
      intro c hc
      obtain ⟨p, rfl⟩ := h c hc
      rfl
    simp [h c0 hc0, h c1 hc1]
  have hinN : ∀ (a b : Nat) (r : List (Option (List SV))), 2 ≤ a → r.all (fun o => match o with | none => true | some cs => cs.all (SV.within a b 0)) = true → (some c0 :: some c1 :: r).all (fun o => match o with | none => true | some cs => cs.all (SV.within a b 0)) = true := fun a b r _ hr => by
    have h : ∀ cs : List SV, (∀ c ∈ cs, ∃ p, c = .val p) → cs.all (SV.within a b 0) = true := fun cs h => by
      rw [List.all_eq_true]
      intro c hc
      obtain ⟨p, rfl⟩ := h c hc
      rfl
    rw [List.all_cons, List.all_cons, hr]
    simp [h c0 hc0, h c1 hc1]
  have hretE : ∀ (sl : List SV) (B : List (Option (List SV))) (M : List MapC) (e : Int), leL sl (((List.replicate 70 (SV.val .any)).set 8 (.val (.map [] []))).set 9 (.val (.int .i64 e))) → e ≠ 0 → e = cntErr t s cl l → R ⟨sl, [some c0, some c1] ++ B, [], ⟨M, 0⟩⟩ := fun sl B M e h1 h2 h3 => by
    refine hR _ ⟨_, _, wk_round (bx := [some c0, some c1]) (bx' := B) (mp := []) (mp' := M) h1 (by rw [hnb]; simp) (.inr ⟨by rw [hnb]; simp, rfl⟩) rfl (hin []), .inl ⟨_, rfl, by (conv => cbv); first | exact ⟨trivial, rfl⟩ | rfl⟩, rfl, rfl, .inl ⟨by rw [← h3]; exact h2, by rw [← h3]; rfl, rfl⟩⟩
  have hretO : ∀ (sl : List SV) (B : List (Option (List SV))) (es : List (Cell × Int)), leL sl (((List.replicate 70 (SV.val .any)).set 8 (.mp 0)).set 9 (.val (.int .i64 0))) → cntErr t s cl l = 0 → CntOk es (l.map (pathCells t s)) → R ⟨sl, [some c0, some c1] ++ B, [], ⟨[.ents (encM encCell encInt es) none], 0⟩⟩ := fun sl B es h1 h2 h3 => by
    refine hR _ ⟨_, _, wk_round (bx := [some c0, some c1]) (bx' := B) (mp := [_]) (mp' := []) h1 (by rw [hnb]; simp) (.inl rfl) rfl (hin [_]), .inr (.inr ⟨_, 0, _, _, _, _, rfl, rfl, rfl, by first | trivial | exact ⟨trivial, trivial⟩, rfl⟩), rfl, rfl, .inr ⟨h2, rfl, es, h3, rfl⟩⟩
  clear hR
  obtain ⟨ss, hss⟩ : ∃ ss, ss = encSectors t.Sectors := ⟨_, rfl⟩
  obtain ⟨cs, hcs⟩ : ∃ cs, cs = encConfigs t.Configs := ⟨_, rfl⟩
  obtain ⟨ws, hws⟩ : ∃ ws, ws = encWays t.Ways := ⟨_, rfl⟩
  obtain ⟨ms, hms⟩ : ∃ ms, ms = encIntLs t.Modes := ⟨_, rfl⟩
  obtain ⟨ks, hks⟩ : ∃ ks, ks = encKinds t.Kinds := ⟨_, rfl⟩
  obtain ⟨nv, hnv⟩ : ∃ nv, nv = t.Volumes := ⟨_, rfl⟩
  have htab : encTables t = .agg [.int .i64 nv, .list 5 ss, .list 3 cs, .list 3 ws, .list 1 ms, .list 6 ks] := by rw [encTables_eq t hss hcs hws hms hks, hnv]
  rw [htab] at hck hst ⊢
  have hkl : ks.length = t.Kinds.length := by rw [hks]; simp [encKinds]
  obtain ⟨sc, hsc⟩ : ∃ sc, sc = encChanges s := ⟨_, rfl⟩
  rw [encScheme_eq hsc] at hck ⊢
  subst hnb
  conv => cbv
  refine callI hA hck rfl (fun r hr => ?_)
  conv => cbv
  split
  · rename_i hc
    have h1 := neT hA hc
    conv => cbv
    subst hr
    exact hretE _ [_, _] [] _ (by repeat (first | refine leL_any ?_ | refine leL_same ?_ | exact leL_nil)) h1 (by unfold cntErr; rw [if_pos h1])
  rename_i hc
  have h1 := neF hA hc
  rw [hr] at h1
  have hE : cntErr t s cl l = if cl < 0 ∨ (t.Kinds.length : Int) ≤ cl then 200 else stErr t l := by unfold cntErr; rw [if_neg (by simp [h1])]
  rw [hE] at hretE hretO
  have hret2 : cl < 0 ∨ (t.Kinds.length : Int) ≤ cl → (200 : Int) = if cl < 0 ∨ (t.Kinds.length : Int) ≤ cl then 200 else stErr t l := fun h => by rw [if_pos h]
  conv => cbv
  split
  · rename_i hc
    have g1 := ltT hA hc
    conv => cbv
    exact hretE _ [_, _] [] _ (by repeat (first | refine leL_any ?_ | refine leL_same ?_ | exact leL_nil)) (by decide) (hret2 (.inl g1))
  rename_i g1; replace g1 := ltF hA g1
  conv => cbv
  split
  · rename_i hc
    have g2 := leT' hA (lenI hA hkl) rfl hc
    conv => cbv
    exact hretE _ [_, _] [] _ (by repeat (first | refine leL_any ?_ | refine leL_same ?_ | exact leL_nil)) (by decide) (hret2 (.inr g2))
  rename_i g2; replace g2 := leF' hA (lenI hA hkl) rfl g2
  rw [if_neg (by omega)] at hretE hretO
  clear hret2
  conv => cbv
  refine loop_set hA (fun (z : Int × List (PV × PV)) s => { ((s.put (some 35) (.val (.int .i64 z.1))).put (some 8) (.mp 0)) with ax := ⟨[.ents z.2 none], s.ax.yk⟩ })
    (fun z => 0 ≤ z.1 ∧ z.1 ≤ l.length ∧ stErr t (l.take z.1.toNat) = 0 ∧ ∃ es, z.2 = encM encCell encInt es ∧ CntOk es ((l.take z.1.toNat).map (pathCells t s))) (fun z => (l.length - z.1).toNat) (0, []) ?_ ?_ ?_
  · conv => cbv
    exact wk_sl (by repeat (first | refine leL_same ?_ | refine leL_any ?_ | exact leL_nil))
  · exact ⟨Int.le_refl _, by omega, rfl, [], rfl, by simp [NodM], fun c => rfl⟩
  rintro R2 ⟨i, m⟩ ⟨hi0, hi1, hi2, es, hm, hes⟩ hR2
  simp only at hi0 hi1 hi2 hm hes
  conv => cbv
  split
  rotate_left
  · rename_i hc
    have hi : i = l.length := by have := ltF' hA rfl (lenI hA hxl) hc; omega
    rw [List.take_of_length_le (show l.length ≤ i.toNat by omega)] at hi2 hes
    subst hm
    have hO := fun sl B h => hretO sl B es h hi2 hes
    generalize encM encCell encInt es = m at hO
    conv => cbv
    exact hO _ [_, _] (by repeat (first | refine leL_any ?_ | refine leL_same ?_ | exact leL_nil))
  rename_i hc
  have hi : i < l.length := ltT' hA rfl (lenI hA hxl) hc
  have his : A.iAdd i 1 = i + 1 := addI hA _ _
  conv => cbv
  refine idx_Path hA hx hi0 hi (fun p v hp hv => ?_)
  have ht := take_snoc' hi0 hp
  have hst1 := hst p
  rw [encPath_eq p hv] at hst1
  have hset : stErr t (l.take (i + 1).toNat) = stErr1 t p := by
    rw [ht, stErr_append t _ _ hi2]
    unfold stErr
    split
    · rename_i h; rw [h]; rfl
    · rfl
  have hsta : stErr1 t p ≠ 0 → stErr t l = stErr1 t p := fun h => by
    have hll := List.getElem?_eq_some_iff.1 hp
    conv => lhs; rw [← List.take_append_drop i.toNat l, List.drop_eq_getElem_cons hll.1, hll.2]
    rw [stErr_append t _ _ hi2]
    unfold stErr
    rw [if_neg h]
  obtain ⟨sy, hsy⟩ : ∃ sy, sy = encStays (staysP t p) := ⟨_, rfl⟩
  have hsyl : stErr1 t p = 0 → (staysP t p).length ≤ 10 := staysP_len
  have hres : stRes1 t p = if stErr1 t p = 0 then .list 4 sy else .list 0 [] := by rw [hsy]; rfl
  rw [hres] at hst1
  clear hres
  have hseq := fun h => dm_cells1 t s (staysP t p) htab hsc hsy h
  have hpc : cellsOf t s (staysP t p) = pathCells t s p := rfl
  have hset2 : (l.take (i + 1).toNat).map (pathCells t s) = (l.take i.toNat).map (pathCells t s) ++ [pathCells t s p] := by rw [ht]; simp
  rw [hpc] at hseq
  generalize pathCells t s p = L at hseq hset2
  generalize stErr1 t p = e1 at hst1 hset hsta hsyl
  obtain ⟨p1, p2⟩ := p
  simp only at hst1
  by_cases g3 : e1 = 0
  rotate_left
  · rw [if_neg g3] at hst1
    conv => cbv
    refine call_intro hA hst1 ?_
    conv => cbv
    split
    · rename_i hc
      conv => cbv
      exact hretE _ [_, _, _] [_] _ (by repeat (first | refine leL_any ?_ | refine leL_same ?_ | exact leL_nil)) g3 (hsta g3).symm
    · rename_i hc
      exact absurd (neF hA hc) g3
  rw [if_pos g3] at hst1
  subst g3
  have hsyl := hsyl rfl
  conv => cbv
  refine call_intro hA hst1 ?_
  conv => cbv
  split
  · rename_i hc
    cases ((neT hA hc rfl))
  conv => cbv
  refine call_intro hA (dm_cells nv ss cs ws ms ks sc sy) ?_
  conv => cbv
  refine rng_intro hA (hseq (by omega)) (fun x hx => ?_) (fun (y : List (PV × PV)) s => { s with ax := ⟨[.ents m none, .ents y none], s.ax.yk⟩ })
    (fun k y => ∃ hs : List (Cell × Unit), y = encM encCell (fun _ => .bool true) hs ∧ NodM hs ∧ ∀ c, hasM hs c = decide (c ∈ L.take k)) [] (fun _ => rfl) ?_ ?_ ?_ ?_
  · obtain ⟨c, _, rfl⟩ := List.mem_map.1 hx
    rfl
  · conv => cbv
    exact Wk.refl _
  · exact ⟨[], rfl, by simp [NodM], fun c => by simp [hasM]⟩
  · rintro R3 k y x hx ⟨hs, hy1, hy2, hy3⟩ hR3
    rw [List.getElem?_map] at hx
    obtain ⟨c, hc, hx⟩ := Option.map_eq_some_iff.1 hx
    subst hx
    have hkk : keysOk true [.bool, .int, .int] y (encCell c) := by rw [hy1]; exact keysOk_Cell _ _
    have hpt : putE y (encCell c) (.bool true) = encM encCell (fun _ => .bool true) (putM hs c ()) := by rw [hy1]; exact putE_enc keq_Cell (f := fun _ : Unit => PV.bool true) hs c ()
    have hnx : NodM (putM hs c ()) ∧ ∀ d, hasM (putM hs c ()) d = decide (d ∈ L.take (k + 1)) := by
      refine ⟨hy2.put _ _, fun d => ?_⟩
      rw [List.take_add_one, hc]
      have h1 : hasM (putM hs c ()) d = (decide (d = c) || hasM hs d) := by
        cases h : hasM (putM hs c ()) d with
        | true =>
          have h2 : lookM (putM hs c ()) d ≠ none := fun e => by rw [lookM_none.1 e] at h; cases h
          rw [lookM_put] at h2
          by_cases e : d = c
          · simp [e]
          · rw [if_neg e] at h2
            cases h3 : hasM hs d with
            | true => simp
            | false => exact absurd (lookM_none.2 h3) h2
        | false =>
          have h2 := lookM_none.2 h
          rw [lookM_put] at h2
          by_cases e : d = c
          · rw [if_pos e] at h2; cases h2
          · rw [if_neg e] at h2
            rw [lookM_none.1 h2]; simp [e]
      rw [h1, hy3]
      rw [Bool.eq_iff_iff]
      simp [or_comm]
    obtain ⟨k1, k2, k3⟩ := c
    have hpt2 : A.ePut y (.agg [.bool k1, .int .i64 k2, .int .i64 k3]) (.bool true) = encM encCell (fun _ => .bool true) (putM hs ⟨k1, k2, k3⟩ ()) := by rw [← hpt]; subst hA; rfl
    conv => cbv
    refine ⟨⟨kOk_intro hA hkk, trivial⟩, hR3 (A.ePut y (.agg [.bool k1, .int .i64 k2, .int .i64 k3]) (.bool true)) _ ?_ ⟨_, hpt2, hnx⟩⟩
    (conv => cbv)
    exact wk_round (bx := [_, _, _, _, _, _]) (bx' := [_]) (mp := [_, _]) (mp' := []) (by repeat (first | refine leL_same ?_ | refine leL_any ?_ | exact leL_nil)) (by simp) (by simp) rfl (hinN 6 2 _ (by decide) rfl)
  · rintro y ⟨hs, hy1, hy2, hy3⟩
    conv => cbv
    refine loop_set hA (fun (z : List PV × List (PV × PV)) s => { s with ax := ⟨[.ents z.2 none, .ents y none, .iter (some 1) [] z.1 none], s.ax.yk⟩ })
      (fun z => ∃ (left : List Cell) (es : List (Cell × Int)), z.1 = left.map encCell ∧ left.Nodup ∧ (∀ c ∈ left, c ∈ L) ∧ z.2 = encM encCell encInt es ∧ NodM es ∧ ∀ c, lookM es c = cntO (cntC ((l.take i.toNat).map (pathCells t s)) c + if c ∈ L ∧ c ∉ left then 1 else 0))
      (fun z => z.1.length) (A.eKeys y, m) ?_ ?_ ?_
    · conv => cbv
      exact wk_sl (by repeat (first | refine leL_same ?_ | refine leL_any ?_ | exact leL_nil))
    · have hkeys : ∀ c, c ∈ hs.map (·.1) ↔ c ∈ L := fun c => by
        rw [← hasM_iff, hy3, decide_eq_true_eq, List.take_of_length_le (by simp)]
      refine ⟨hs.map fun p : Cell × Unit => p.1, es, ?_, hy2, fun c h => (hkeys c).1 h, hm, hes.1, fun c => ?_⟩
      · show A.eKeys y = _
        subst hA
        rw [hy1]
        show (encM encCell _ hs).map (·.1) = _
        unfold encM
        rw [List.map_map, List.map_map]
        rfl
      · rw [if_neg (fun h => h.2 ((hkeys c).2 h.1))]
        exact hes.2 c
    rintro R3 ⟨lf, m2⟩ ⟨left, es2, hl1, hl2', hl3, hl4, hl5, hl6⟩ hR3
    simp only at hl1 hl4
    refine seq_stop (fun R4 hR4 => ?_)
    conv => cbv
    refine nxt_intro hA (fun h0 => ?_) (fun k w hk hkv => ?_)
    · conv => cbv
      refine hR4 _ ?_
      conv => cbv
      refine ⟨inR' hA his (by unfold inI64; omega), hR2 (A.iAdd i 1, m2) _ ?_ ?_ ?_⟩
      · (conv => cbv)
        exact wk_round (bx := [_, _, _, _]) (bx' := [_, _]) (mp := [_]) (mp' := [_, _]) (by repeat (first | refine leL_same ?_ | refine leL_any ?_ | exact leL_nil)) (by simp) (.inr ⟨by simp, rfl⟩) rfl (hinN 4 1 _ (by decide) rfl)
      · have hl0 : left = [] := List.map_eq_nil_iff.1 (hl1.symm.trans h0)
        rw [his]
        refine ⟨by show 0 ≤ i + 1; omega, by show i + 1 ≤ _; omega, hset, es2, hl4, hl5, fun c => ?_⟩
        show lookM es2 c = cntO (cntC ((l.take (i + 1).toNat).map (pathCells t s)) c)
        rw [hset2, cntC_snoc, hl6, hl0]
        simp
      · show (l.length - A.iAdd i 1).toNat < (l.length - i).toNat
        rw [his]; omega
    · rw [hl1] at hk
      obtain ⟨c, hcl, hck2⟩ := List.mem_map.1 hk
      subst hck2
      obtain ⟨k1, k2, k3⟩ := c
      conv => cbv
      refine hR4 _ ?_
      refine seq_stop (fun R5 hR5 => ?_)
      conv => cbv
      refine hR5 _ ?_
      refine block_tail (fun R6 hR6 => ?_)
      conv => cbv
      refine ent_intro hA (v := .bool true) ?_ ?_
      · show lookE y (encCell ⟨k1, k2, k3⟩) = _
        rw [hy1, lookE_enc keq_Cell (f := fun _ : Unit => PV.bool true)]
        have h := hy3 ⟨k1, k2, k3⟩
        rw [List.take_of_length_le (by simp), decide_eq_true (hl3 _ hcl)] at h
        cases hl : lookM hs ⟨k1, k2, k3⟩ with
        | none => rw [lookM_none.1 hl] at h; cases h
        | some u => rfl
      conv => cbv
      refine hR6 _ ?_
      obtain ⟨o, ho⟩ : ∃ o, o = (lookM es2 ⟨k1, k2, k3⟩).getD 0 := ⟨_, rfl⟩
      have hoc : o = (cntC ((l.take i.toNat).map (pathCells t s)) ⟨k1, k2, k3⟩ : Nat) := by
        rw [ho, hl6, if_neg (fun h => h.2 hcl), Nat.add_zero]
        unfold cntO
        split
        · rename_i h; rw [h]; rfl
        · rfl
      have hoL : 0 ≤ o ∧ o ≤ 1000000 := by
        have := cntC_le ((l.take i.toNat).map (pathCells t s)) ⟨k1, k2, k3⟩
        rw [List.length_map, List.length_take] at this
        omega
      have hos : A.iAdd o 1 = o + 1 := addI hA _ _
      have hor : A.inR (A.iAdd o 1) := inR' hA hos (by unfold inI64; omega)
      have hl2 : lookE m2 (encCell ⟨k1, k2, k3⟩) = (lookM es2 ⟨k1, k2, k3⟩).map encInt := by rw [hl4, lookE_enc keq_Cell]
      have hk2 : keysOk true [.bool, .int, .int] m2 (encCell ⟨k1, k2, k3⟩) := by rw [hl4]; exact keysOk_Cell _ _
      have hv2 : (lookE m2 (encCell ⟨k1, k2, k3⟩)).getD (.int .i64 0) = .int .i64 o := by
        rw [hl2, ho]
        cases lookM es2 ⟨k1, k2, k3⟩ <;> rfl
      obtain ⟨m3, hm3⟩ : ∃ m3, m3 = entE m2 (encCell ⟨k1, k2, k3⟩) (encInt 0) := ⟨_, rfl⟩
      have hv3 : (lookE m3 (encCell ⟨k1, k2, k3⟩)).getD (.int .i64 0) = .int .i64 o := by
        rw [hm3, hl4, entE_enc keq_Cell, lookE_enc keq_Cell, lookM_ent, ho]
        rfl
      have hk3 : keysOk true [.bool, .int, .int] m3 (encCell ⟨k1, k2, k3⟩) := by rw [hm3, hl4, entE_enc keq_Cell]; exact keysOk_Cell _ _
      obtain ⟨m4, hm4⟩ : ∃ m4, m4 = putE m3 (encCell ⟨k1, k2, k3⟩) (encInt (A.iAdd o 1)) := ⟨_, rfl⟩
      have he3 : m3 = A.eEnt m2 (.agg [.bool k1, .int .i64 k2, .int .i64 k3]) (.int .i64 0) := by rw [hm3]; subst hA; rfl
      have he4 : m4 = A.ePut m3 (.agg [.bool k1, .int .i64 k2, .int .i64 k3]) (.int .i64 (A.iAdd o 1)) := by rw [hm4]; subst hA; rfl
      refine region_inv3 rfl (0 : Int) (fun n => [.mp 0, .val (.agg [.bool k1, .int .i64 k2, .int .i64 k3]), .val (.int .i64 o), .val (.int .i64 (A.iAdd o 1)), .val (.tup [.int .i64 o, .int .i64 n]), .val (.int .i64 n), .undef])
        (fun _ _ => [some c0, some c1, some [.val (.int .i64 nv), .val (.list 5 ss), .val (.list 3 cs), .val (.list 3 ws), .val (.list 1 ms), .val (.list 6 ks)], some [.val (.list 3 sc)], some [.val (.int .i64 p1), .val (.list 1 v)], some [.mp 1], some [.val (.bool k1), .val (.int .i64 k2), .val (.int .i64 k3)]])
        (fun L n => [.ents (sel3 (L 6) (L 4) m4 m3 m2) (sel3 (L 6) (L 4) none (some (.agg [.bool k1, .int .i64 k2, .int .i64 k3], n)) none), .ents y none, .iter (some 1) [] (A.lDrop lf (.agg [.bool k1, .int .i64 k2, .int .i64 k3])) (some (.agg [.bool k1, .int .i64 k2, .int .i64 k3]))])
        rfl (fun _ _ _ _ => rfl) (fun L L' h n => by simp only [h 6 (by decide), h 4 (by decide)]) rfl ?_ ?_
      intro L' i' o' hi' hL hC he K' n hK
      rcases i' with _ | i'
      · cases hi'
        conv => cbv
        exact hK n
      rcases i' with _ | i'
      · cases hi'
        conv => cbv
        exact hK n
      rcases i' with _ | i'
      · cases hi'
        have h0 : L' 0 = true := he ⟨0, .data⟩ (by simp) rfl
        have h1' : L' 1 = true := he ⟨1, .data⟩ (by simp) rfl
        have h6 : L' 6 = false := by
          cases h : L' 6 with
          | false => rfl
          | true => exact absurd (hC 3 _ rfl (hC 6 _ rfl h ⟨3, .data⟩ (by simp) rfl) ⟨2, .data⟩ (by simp) rfl) (by rw [hL]; simp)
        cases h4 : L' 4 with
        | false =>
          conv => cbv
          simp only [h0, h1', h4, h6]
          conv => cbv
          refine ⟨kOk_intro hA hk2, look_intro hA hv2 rfl ?_⟩
          conv => cbv
          refine cast (congrArg K' ?_) (hK n)
          conv => lhs; cbv
          simp only [h0, h1', h4, h6] <;> rfl
        | true =>
          conv => cbv
          simp only [h0, h1', h4, h6]
          conv => cbv
          refine ⟨kOk_intro hA hk3, look_intro hA hv3 rfl ?_⟩
          conv => cbv
          refine cast (congrArg K' ?_) (hK n)
          conv => lhs; cbv
          simp only [h0, h1', h4, h6] <;> rfl
      rcases i' with _ | i'
      · cases hi'
        have h2 : L' 2 = true := he ⟨2, .data⟩ (by simp) rfl
        conv => cbv
        simp only [h2]
        conv => cbv
        refine ⟨hor, ?_⟩
        refine cast (congrArg K' ?_) (hK n)
        conv => lhs; cbv
        simp only [h2] <;> rfl
      rcases i' with _ | i'
      · cases hi'
        have h0 : L' 0 = true := he ⟨0, .data⟩ (by simp) rfl
        have h1' : L' 1 = true := he ⟨1, .data⟩ (by simp) rfl
        have h5 : L' 5 = false := by
          cases h : L' 5 with
          | false => rfl
          | true => exact absurd (hC 5 _ rfl h ⟨4, .data⟩ (by simp) rfl) (by rw [hL]; simp)
        have h6 : L' 6 = false := by
          cases h : L' 6 with
          | false => rfl
          | true => exact absurd (hC 6 _ rfl h ⟨5, .data⟩ (by simp) rfl) (by rw [h5]; simp)
        conv => cbv
        simp only [h0, h1', hL, h6]
        conv => cbv
        subst he3
        first
          | refine ⟨kOk_intro hA hk2, look_intro hA hv2 rfl (ment_intro hA fun n' => ?_)⟩
          | refine ⟨kOk_intro hA hk2, trivial, look_intro hA hv2 rfl (ment_intro hA fun n' => ?_)⟩
        conv => cbv
        refine cast (congrArg K' ?_) (hK n')
        conv => lhs; cbv
        simp only [h0, h1', h5, hL, h6] <;> rfl
      rcases i' with _ | i'
      · cases hi'
        have h4 : L' 4 = true := he ⟨4, .data⟩ (by simp) rfl
        conv => cbv
        simp only [h4]
        conv => cbv
        refine cast (congrArg K' ?_) (hK n)
        conv => lhs; cbv
        simp only [h4] <;> rfl
      rcases i' with _ | i'
      · cases hi'
        have h0 : L' 0 = true := he ⟨0, .data⟩ (by simp) rfl
        have h3 : L' 3 = true := he ⟨3, .data⟩ (by simp) rfl
        have h5 : L' 5 = true := he ⟨5, .data⟩ (by simp) rfl
        have h4 : L' 4 = true := hC 5 _ rfl h5 ⟨4, .data⟩ (by simp) rfl
        conv => cbv
        simp only [h0, h3, h4, h5, hL]
        conv => cbv
        subst he4
        refine ⟨same_intro hA rfl, ?_⟩
        refine cast (congrArg K' ?_) (hK n)
        conv => lhs; cbv
        simp only [h0, h3, h4, h5] <;> rfl
      · simp at hi'
      intro n
      conv => cbv
      have hdr : A.lDrop lf (.agg [.bool k1, .int .i64 k2, .int .i64 k3]) = (left.filter fun d => !decide ((⟨k1, k2, k3⟩ : Cell) = d)).map encCell := by
        subst hA
        rw [hl1]
        show (left.map encCell).filter (fun y => !keq (encCell ⟨k1, k2, k3⟩) y) = _
        rw [List.filter_map]
        simp only [Function.comp_def, keq_Cell]
      refine hR3 (A.lDrop lf (.agg [.bool k1, .int .i64 k2, .int .i64 k3]), m4) _ ?_ ?_ ?_
      · (conv => cbv)
        exact Wk.trans _ _ _ (Wk.forgetMp _ _ _ _ [.ents m4 none, .ents y none, .iter (some 1) [] (A.lDrop lf (.agg [.bool k1, .int .i64 k2, .int .i64 k3])) none] _ ⟨⟨List.Perm.refl _, .inl rfl⟩, ⟨List.Perm.refl _, .inl rfl⟩, ⟨rfl, rfl, rfl, .inl rfl⟩, trivial⟩) (wk_round (bx := [_, _, _, _, _, _]) (bx' := [_]) (mp := [_, _, _]) (mp' := []) (by repeat (first | refine leL_same ?_ | refine leL_any ?_ | exact leL_nil)) (by simp) (.inl rfl) rfl (hinN 6 3 _ (by decide) rfl))
      · refine ⟨left.filter fun d => !decide ((⟨k1, k2, k3⟩ : Cell) = d), putM es2 ⟨k1, k2, k3⟩ (o + 1), hdr, hl2'.filter _, fun c h => hl3 c (List.mem_filter.1 h).1, ?_, hl5.put _ _, fun d => ?_⟩
        · show m4 = _
          rw [hm4, hm3, hl4, entE_enc keq_Cell, putE_enc keq_Cell, putM_ent, hos]
        · rw [lookM_put]
          by_cases e : d = ⟨k1, k2, k3⟩
          · rw [if_pos e, if_pos ⟨by rw [e]; exact hl3 _ hcl, by rw [e]; simp⟩, e, hoc]
            unfold cntO
            rw [if_neg (by omega)]
            rfl
          · rw [if_neg e, hl6]
            congr 2
            have : (d ∈ left.filter fun d => !decide ((⟨k1, k2, k3⟩ : Cell) = d)) ↔ d ∈ left := by simp [Ne.symm e]
            simp only [this]
      · show (A.lDrop lf _).length < lf.length
        rw [hdr, hl1, List.length_map, List.length_map]
        exact List.length_filter_lt_length_iff_exists.2 ⟨_, hcl, by simp⟩
end Go.Abs
