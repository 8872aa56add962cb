/-
  Functions: divisions into sectors, continued; the check of an airspace.
-/
import Derived.Test.YtbljnbpddboohaaGreatF4
set_option linter.unusedVariables false
set_option linter.unusedSimpArgs false
namespace Go.Abs
open Go.RowKit Go.Proofs

theorem apartB_cons {l : List Nat} {x : Nat} {s : Int} {r : List Int} : apartB l x (s :: r) = (decide (0 ≤ s) && decide (s < l.length) && decide (x &&& l.getD s.toNat 0 = 0) && apartB l (x ||| l.getD s.toNat 0) r) := rfl
theorem joined_cons {l : List Nat} {x : Nat} {s : Int} {r : List Int} : joined l x (s :: r) = joined l (x ||| l.getD s.toNat 0) r := rfl

set_option maxHeartbeats 4000000 in
theorem configs_divisions {vs ss cs : List PV} (mv : Nat) (n : Nat) (hv : vs.length = n) (l : List Sector) (hss : ss = encSectors l) (c : List Config) (hcs : cs = encConfigs c) :
    CallsPV Tryz.prog 77 [encAir mv vs ss cs] (if divOk n l c then .tup [.list 1 (List.replicate c.length .ref), .bool true] else .tup [.list 0 [], .bool false]) := by
  refine callsPV_by (clo := fun _ => false) (rows := false) env_ok Tryz.func77 rfl (enters_of Tryz.func77 (by kernel_rfl) rfl) (fun A q P Y hr hA hq => ?_)
  have hsl : ss.length = l.length := by rw [hss]; simp [encSectors]
  have hcl : cs.length = c.length := by rw [hcs]; simp [encConfigs]
  have hbd : ∀ s ∈ c, s.Sectors.length ≤ 9223372036854775807 := fun s hs => by
    have h1 := Real.cell (show Real [.agg _] from hr) (c := .list 3 cs) (by simp)
    have h2 := h1.elem (x := encConfig s) (by rw [hcs]; exact List.mem_map_of_mem hs) (c := .list 1 (encInts s.Sectors)) (by simp [encConfig, PV.cells])
    have := h2.len
    simpa [encInts] using this
  have bad : ∀ b, divOk n l c = b → b = false → PV.tup [.list 0 [], .bool false] = q := by
    intro b hb hbf
    subst hbf
    rw [← hq, hb]; rfl
  conv => cbv
  split
  · rename_i h1
    have h1' : n < 1 := by subst hA; have t := h1; simp [stdOps] at t; omega
    conv => cbv
    exact bad _ rfl (by unfold divOk; simp; omega)
  rename_i h1
  have h1' : 1 ≤ n := by subst hA; have t := h1; simp [stdOps] at t; omega
  conv => cbv
  split
  · rename_i h2
    have h2' : 64 < n := by subst hA; have t := h2; simp [stdOps] at t; omega
    conv => cbv
    exact bad _ rfl (by unfold divOk; simp; omega)
  rename_i h2
  have h2' : n ≤ 64 := by subst hA; have t := h2; simp [stdOps] at t; omega
  conv => cbv
  split
  · rename_i h3
    have h3' : 64 < l.length := by subst hA; have t := h3; simp [stdOps] at t; omega
    conv => cbv
    exact bad _ rfl (by unfold divOk; simp; omega)
  rename_i h3
  have h3' : l.length ≤ 64 := by subst hA; have t := h3; simp [stdOps] at t; omega
  conv => cbv
  split
  · rename_i h4
    have h4' : c.length < 1 := by subst hA; have t := h4; simp [stdOps] at t; omega
    conv => cbv
    exact bad _ rfl (by unfold divOk; simp; omega)
  rename_i h4
  have h4' : 1 ≤ c.length := by subst hA; have t := h4; simp [stdOps] at t; omega
  conv => cbv
  split
  · rename_i h5
    have h5' : 32 < c.length := by subst hA; have t := h5; simp [stdOps] at t; omega
    conv => cbv
    exact bad _ rfl (by unfold divOk; simp; omega)
  rename_i h5
  have h5' : c.length ≤ 32 := by subst hA; have t := h5; simp [stdOps] at t; omega
  conv => cbv
  have hsets := configs_sets (cs := cs) mv n hv h2' l h3' hss
  by_cases hall : l.all (sectorIx n) = true
  rotate_left
  · rw [if_neg hall] at hsets
    refine call_intro hA hsets ?_
    conv => cbv
    split
    · conv => cbv
      exact bad _ rfl (by unfold divOk; simp [Bool.eq_false_iff.2 hall])
    · rename_i hx; exact absurd hx (by subst hA; simp [stdOps])
  rw [if_pos hall] at hsets
  obtain ⟨se, hse⟩ : ∃ se, se = encSets (secBits l) := ⟨_, rfl⟩
  rw [← hse] at hsets
  have hsel : se.length = l.length := by rw [hse]; simp [encSets, secBits]
  have hlt := secBits_lt h2' hall
  have hbl : (secBits l).length = l.length := by simp [secBits]
  refine call_intro hA hsets ?_
  conv => cbv
  split
  · rename_i hx; exact absurd hx (by subst hA; simp [stdOps])
  conv => cbv
  have eall : A.wShr 18446744073709551615 (A.iSub 64 (A.lLen vs)) = ((2 ^ n - 1 : Nat) : Int) := by subst hA; rw [← u64_all (E := ⟨Tryz.prog, tab, fun _ => false, false, YS.none⟩) h1' h2', ← hv]; rfl
  refine ⟨by subst hA; show inI64 (64 - (vs.length : Int)); unfold inI64; omega, by subst hA; show 0 ≤ 64 - (vs.length : Int) ∧ 64 - (vs.length : Int) < 64; omega, ?_⟩
  refine loop_set hA (fun (y : Int × List PV) s => { ((s.put (some 55) (.val (.int .i64 y.1))).put (some 2) (.own 0 1 y.2)) with tk := [(A.nLen y.2, 140)] })
    (fun y => 0 ≤ y.1 ∧ y.1 ≤ c.length ∧ y.2 = List.replicate y.1.toNat .ref ∧ (c.take y.1.toNat).all (configOk n (secBits l)) = true) (fun y => (c.length - y.1).toNat) (0, []) ?_ ?_ ?_
  · conv => cbv
    exact wk_own 2 0 1 [] _ rfl (.inr rfl) (by simp [leL, leS]) (by subst hA; rfl)
  · exact ⟨Int.le_refl _, by simp, by simp, by simp⟩
  · intro R y hi hR
    obtain ⟨i, ys⟩ := y
    obtain ⟨hi0, hi1, hys, hcall⟩ := hi
    simp only at hi0 hi1 hys hcall
    conv => cbv
    split
    · rename_i h6
      have h6' : i < c.length := by subst hA; rw [← hcl]; simpa [stdOps] using h6
      conv => cbv
      refine idx_Config hA hcs hi0 h6' (fun s u1 u2 hx hu1 hu2 => ?_)
      have hul : u2.length = s.Sectors.length := by rw [hu2]; simp [encInts]
      have htk := take_snoc' hi0 hx
      have hsb := hbd s (List.mem_of_getElem? hx)
      have hbad : configOk n (secBits l) s = false → PV.tup [.list 0 [], .bool false] = q := fun hb => bad _ rfl (by
        have : c.all (configOk n (secBits l)) = false := by rw [List.all_eq_false]; exact ⟨s, List.mem_of_getElem? hx, by simp [hb]⟩
        unfold divOk; simp [this])
      conv => cbv
      refine loop_set hA (fun (y : Int × Nat × Nat) s => { (((s.put (some 63) (.val (.int .i64 y.1))).put (some 8) (.val (.int .u64 (y.2.1 : Int)))).put (some 2) (.own 0 1 ys)) with ax := { mp := [.plain 139 4 y.2.2], yk := 0 } })
        (fun y => 0 ≤ y.1 ∧ y.1 ≤ s.Sectors.length ∧ y.2.1 < 2 ^ 64 ∧ (y.2.2 : Int) ≤ y.1 ∧ apartB (secBits l) 0 s.Sectors = apartB (secBits l) y.2.1 (s.Sectors.drop y.1.toNat) ∧ joined (secBits l) 0 s.Sectors = joined (secBits l) y.2.1 (s.Sectors.drop y.1.toNat)) (fun y => (s.Sectors.length - y.1).toNat) (0, 0, 0) ?_ ?_ ?_
      · conv => cbv
        exact wk_sl (by simp [leL, leS])
      · exact ⟨Int.le_refl _, by simp, by simp, by simp, by simp, by simp⟩
      · intro R2 y hj hR2
        obtain ⟨j, x, m⟩ := y
        obtain ⟨hj0, hj1, hx64, hm, hj2, hj3⟩ := hj
        simp only at hj0 hj1 hx64 hm hj2 hj3
        conv => cbv
        split
        · rename_i h7
          have h7' : j < s.Sectors.length := by subst hA; rw [← hul]; simpa [stdOps] using h7
          conv => cbv
          refine idx_Int hA hu2 hj0 h7' (fun v hvx => ?_)
          have hdr := drop_cons' hj0 hvx
          rw [hdr, apartB_cons] at hj2
          rw [hdr, joined_cons] at hj3
          conv => cbv
          split
          · rename_i h8
            have h8' : v < 0 := by subst hA; simpa [stdOps] using h8
            conv => cbv
            exact hbad (by unfold configOk; rw [hj2]; simp [show ¬ (0 ≤ v) by omega])
          rename_i h8
          have h8' : 0 ≤ v := by subst hA; have := h8; simp [stdOps] at this; omega
          conv => cbv
          split
          · rename_i h9
            have h9' : ¬ v < l.length := by subst hA; rw [← hsel]; simpa [stdOps] using h9
            conv => cbv
            exact hbad (by unfold configOk; rw [hj2, hbl]; simp [h9'])
          rename_i h9
          have h9' : v < l.length := by subst hA; rw [← hsel]; simpa [stdOps] using h9
          conv => cbv
          refine idx_Set hA hse h8' (by rw [hbl]; exact h9') (fun z hz => ?_)
          have hzl : z < 2 ^ 64 := hlt z (List.mem_of_getElem? hz)
          have hzd : (secBits l).getD v.toNat 0 = z := by rw [List.getD_eq_getElem?_getD, hz]; rfl
          rw [hzd] at hj2 hj3
          have e2 : A.wOp .and .u64 (x : Int) (z : Int) = ((x &&& z : Nat) : Int) := by subst hA; exact u64_and hx64
          have e3 : A.wOp .or .u64 (x : Int) (z : Int) = ((x ||| z : Nat) : Int) := by subst hA; exact u64_or hx64 hzl
          conv => cbv
          split
          · rename_i h10
            have h10' : ¬ (x &&& z = 0) := by
              have : A.bNot (A.iEq (A.wOp .and .u64 (x : Int) (z : Int)) 0) = true := h10
              rw [e2] at this; subst hA; simpa [stdOps] using this
            conv => cbv
            exact hbad (by unfold configOk; rw [hj2]; simp [h10'])
          rename_i h10
          have h10' : x &&& z = 0 := by
            have : A.bNot (A.iEq (A.wOp .and .u64 (x : Int) (z : Int)) 0) = false := h10
            rw [e2] at this; subst hA; simpa [stdOps] using this
          conv => cbv
          refine idx_Set hA hse h8' (by rw [hbl]; exact h9') (fun z2 hz2 => ?_)
          obtain rfl : z = z2 := by rw [hz] at hz2; exact Option.some.inj hz2
          conv => cbv
          refine idx_Set hA hse h8' (by rw [hbl]; exact h9') (fun z2 hz2 => ?_)
          obtain rfl : z = z2 := by rw [hz] at hz2; exact Option.some.inj hz2
          conv => cbv
          refine ⟨by subst hA; show m < 9223372036854775807 ∧ inKind .u64 (z : Int); refine ⟨by omega, ?_⟩; simp [inKind, IntKind.min, IntKind.max, IntKind.bits, IntKind.signed]; omega, by subst hA; show inI64 (j + 1); unfold inI64; omega, ?_⟩
          obtain ⟨x', hx'⟩ : ∃ x', x' = x ||| z := ⟨_, rfl⟩
          rw [← hx'] at e3 hj2 hj3
          refine hR2 (A.iAdd j 1, x', A.nS m) _ (by (conv => cbv); exact wk_sl (by simp [leL, leS]; exact e3)) ?_ ?_
          · subst hA
            refine ⟨by show 0 ≤ j + 1; omega, by show j + 1 ≤ _; omega, by rw [hx']; exact Nat.or_lt_two_pow hx64 hzl, by show ((m + 1 : Nat) : Int) ≤ j + 1; omega, ?_, hj3⟩
            rw [hj2, hbl]
            simp [h8', h9', h10']
            rfl
          · subst hA
            show (s.Sectors.length - (j + 1)).toNat < (s.Sectors.length - j).toNat
            omega
        · rename_i h7
          have h7' : ¬ j < s.Sectors.length := by subst hA; rw [← hul]; simpa [stdOps] using h7
          rw [drop_all' h7'] at hj2 hj3
          have hj2' : apartB (secBits l) 0 s.Sectors = true := hj2
          have hj3' : joined (secBits l) 0 s.Sectors = x := hj3
          conv => cbv
          split
          · rename_i h8
            have h8' : ¬ (x = 2 ^ n - 1) := by
              have t : A.bNot (A.iEq (x : Int) (A.wShr 18446744073709551615 (A.iSub 64 (A.lLen vs)))) = true := h8
              rw [eall] at t; subst hA
              intro e
              rw [e] at t
              simp [stdOps] at t
            conv => cbv
            exact hbad (by unfold configOk; rw [hj3']; simp [h8'])
          rename_i h8
          have h8' : x = 2 ^ n - 1 := by
            have t : A.bNot (A.iEq (x : Int) (A.wShr 18446744073709551615 (A.iSub 64 (A.lLen vs)))) = false := h8
            rw [eall] at t; subst hA
            exact Int.ofNat.inj (by simpa [stdOps] using t)
          have hlen : ys.length = i.toNat := by rw [hys]; simp
          conv => cbv
          refine ⟨⟨by subst hA; rfl, by subst hA; show (ys ++ [_]).length * _ ≤ _; simp; omega⟩, by subst hA; show inI64 (i + 1); unfold inI64; omega, ?_⟩
          refine hR (A.iAdd i 1, A.lApp ys [.ref]) _ (by (conv => cbv); exact wk_round (bx := [_]) (bx' := [_]) (mp := []) (mp' := [_]) (by simp [leL, leS]) (by simp) (by simp) rfl rfl) ?_ ?_
          · subst hA
            show 0 ≤ i + 1 ∧ i + 1 ≤ c.length ∧ ys ++ [.ref] = List.replicate (i + 1).toNat .ref ∧ (c.take (i + 1).toNat).all (configOk n (secBits l)) = true
            refine ⟨by omega, by omega, ?_, ?_⟩
            · rw [hys, show (i + 1).toNat = i.toNat + 1 by omega, List.replicate_succ']
            · rw [htk, List.all_append, hcall]; simp [configOk, hj2', hj3', h8']
          · subst hA
            show (c.length - (i + 1)).toNat < (c.length - i).toNat
            omega
    · rename_i h6
      have h6' : ¬ i < c.length := by subst hA; rw [← hcl]; simpa [stdOps] using h6
      rw [take_all' h6'] at hcall
      have hi2 : i.toNat = c.length := by omega
      conv => cbv
      have hd : divOk n l c = true := by unfold divOk; simp [h1', h2', h3', h4', h5', hall, hcall]
      rw [← hq, hd, hys, hi2]
      rfl
end Go.Abs
