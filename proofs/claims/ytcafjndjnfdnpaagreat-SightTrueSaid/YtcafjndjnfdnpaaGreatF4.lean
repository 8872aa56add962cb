/-
  Functions: divisions into sectors.
  Functions: divisions into sectors, continued; the check of an airspace.
  Functions: the check of an airspace.
-/
import Derived.Test.YtcafjndjnfdnpaaGreatF2
import Derived.Test.YtcafjndjnfdnpaaGreatS1
set_option linter.unusedVariables false
set_option linter.unusedSimpArgs false
namespace Go.Abs
open Go.RowKit Go.Proofs

theorem indexed_cons {n x : Nat} {v : Int} {r : List Int} : indexed n x (v :: r) = (decide (0 ≤ v) && decide (v < n) && decide (x &&& 2 ^ v.toNat = 0) && indexed n (x ||| 2 ^ v.toNat) r) := rfl
theorem bitsFrom_cons {x : Nat} {v : Int} {r : List Int} : bitsFrom x (v :: r) = bitsFrom (x ||| 2 ^ v.toNat) r := rfl
theorem drop_cons' {α : Type} {l : List α} {i : Int} {x : α} (h0 : 0 ≤ i) (hx : l[i.toNat]? = some x) : l.drop i.toNat = x :: l.drop (i + 1).toNat := by
  obtain ⟨h, hv⟩ := List.getElem?_eq_some_iff.1 hx
  rw [show (i + 1).toNat = i.toNat + 1 by omega, List.drop_eq_getElem_cons h, hv]
theorem take_all' {α : Type} {l : List α} {i : Int} (h : ¬ i < l.length) : l.take i.toNat = l := List.take_of_length_le (by omega)
theorem drop_all' {α : Type} {l : List α} {i : Int} (h : ¬ i < l.length) : l.drop i.toNat = [] := List.drop_eq_nil_of_le (by omega)

/-- The airspace of which tables are divisions. -/
def encAir (mv : Nat) (vs ss cs : List PV) : PV := .agg [.list mv vs, .list 5 ss, .list 3 cs, .list 0 [], .list 0 [], .list 0 [], .list 0 [], .list 0 []]

set_option maxHeartbeats 2000000 in
theorem configs_sets {vs ss cs : List PV} (mv : Nat) (n : Nat) (hv : vs.length = n) (hn : n ≤ 64) (l : List Sector) (hl : l.length ≤ 64) (hss : ss = encSectors l) :
    CallsPV Tryz.prog 238 [encAir mv vs ss cs] (if l.all (sectorIx n) then .tup [.list 1 (encSets (secBits l)), .bool true] else .tup [.list 0 [], .bool false]) := by
  refine callsPV_by (clo := fun _ => false) (rows := false) env_ok Tryz.func238 rfl (enters_of Tryz.func238 (by kernel_rfl) rfl) (fun A q P Y hr hA hq => ?_)
  have hsl : ss.length = l.length := by rw [hss]; simp [encSectors]
  have hbd : ∀ s ∈ l, s.Volumes.length ≤ 9223372036854775807 := fun s hs => by
    have h1 := Real.cell (show Real [.agg _] from hr) (c := .list 5 ss) (by simp)
    have h2 := h1.elem (x := encSector s) (by rw [hss]; exact List.mem_map_of_mem hs) (c := .list 1 (encInts s.Volumes)) (by simp [encSector, PV.cells])
    have := h2.len
    simpa [encInts] using this
  conv => cbv
  refine loop_set hA (fun (y : Int × List PV) s => { s.put (some 12) (.val (.int .i64 y.1)) with sl := (s.put (some 12) (.val (.int .i64 y.1))).sl.set 2 (.own 0 1 y.2), tk := [(A.nLen y.2, 319)] })
    (fun y => 0 ≤ y.1 ∧ y.1 ≤ l.length ∧ y.2 = encSets (secBits (l.take y.1.toNat)) ∧ (l.take y.1.toNat).all (sectorIx n) = true) (fun y => (l.length - y.1).toNat) (0, []) ?_ ?_ ?_
  · conv => cbv
    exact wk_own 2 0 1 [] _ rfl (.inr rfl) (by simp [leL, leS]) (by subst hA; rfl)
  · exact ⟨Int.le_refl _, by simp, by simp [secBits, encSets], by simp⟩
  · intro R y hi hR
    obtain ⟨i, xs⟩ := y
    obtain ⟨hi0, hi1, hxs, hall⟩ := hi
    simp only at hi0 hi1 hxs hall
    conv => cbv
    split
    · rename_i h1
      have h1' : i < l.length := by subst hA; rw [← hsl]; simpa [stdOps] using h1
      conv => cbv
      refine idx_Sector hA hss hi0 h1' (fun s u1 u2 hx hu1 hu2 => ?_)
      have hul : u2.length = s.Volumes.length := by rw [hu2]; simp [encInts]
      have htk := take_snoc' hi0 hx
      have hvb := hbd s (List.mem_of_getElem? hx)
      have hbad : sectorIx n s = false → l.all (sectorIx n) = false := fun hb => by rw [List.all_eq_false]; exact ⟨s, List.mem_of_getElem? hx, by simp [hb]⟩
      conv => cbv
      refine loop_set hA (fun (y : Int × Nat) s => ((s.put (some 19) (.val (.int .i64 y.1))).put (some 6) (.val (.int .u64 (y.2 : Int)))).put (some 2) (.own 0 1 xs))
        (fun y => 0 ≤ y.1 ∧ y.1 ≤ s.Volumes.length ∧ y.2 < 2 ^ 64 ∧ indexed n 0 s.Volumes = indexed n y.2 (s.Volumes.drop y.1.toNat) ∧ bitsFrom 0 s.Volumes = bitsFrom y.2 (s.Volumes.drop y.1.toNat)) (fun y => (s.Volumes.length - y.1).toNat) (0, 0) ?_ ?_ ?_
      · conv => cbv
        exact wk_sl (by simp [leL, leS])
      · exact ⟨Int.le_refl _, by simp, by simp, by simp, by simp⟩
      · intro R2 y hj hR2
        obtain ⟨j, x⟩ := y
        obtain ⟨hj0, hj1, hx64, hj2, hj3⟩ := hj
        simp only at hj0 hj1 hx64 hj2 hj3
        conv => cbv
        split
        · rename_i h2
          have h2' : j < s.Volumes.length := by subst hA; rw [← hul]; simpa [stdOps] using h2
          conv => cbv
          refine idx_Int hA hu2 hj0 h2' (fun v hvx => ?_)
          have hdr := drop_cons' hj0 hvx
          rw [hdr, indexed_cons] at hj2
          rw [hdr, bitsFrom_cons] at hj3
          have bad : ∀ b : Bool, (decide (0 ≤ v) && decide (v < n) && decide (x &&& 2 ^ v.toNat = 0)) = b → b = false → (if l.all (sectorIx n) then PV.tup [.list 1 (encSets (secBits l)), .bool true] else .tup [.list 0 [], .bool false]) = .tup [.list 0 [], .bool false] := by
            intro b hb hbf
            subst hbf
            rw [hbad (by unfold sectorIx; rw [hj2, hb]; rfl)]
            rfl
          conv => cbv
          split
          · rename_i h3
            have h3' : v < 0 := by subst hA; simpa [stdOps] using h3
            conv => cbv
            rw [← hq]
            exact ((bad _ rfl (by simp; omega))).symm
          · rename_i h3
            have h3' : ¬ v < 0 := by subst hA; simpa [stdOps] using h3
            conv => cbv
            split
            · rename_i h4
              have h4' : ¬ v < n := by subst hA; rw [← hv]; simpa [stdOps] using h4
              conv => cbv
              rw [← hq]
              exact ((bad _ rfl (by simp; omega))).symm
            · rename_i h4
              have h4' : v < n := by subst hA; rw [← hv]; simpa [stdOps] using h4
              have hv0 : 0 ≤ v := by omega
              have hv64 : v < 64 := by omega
              have hp := pow_lt64 hv64
              conv => cbv
              refine ⟨by subst hA; exact ⟨hv0, hv64⟩, ?_⟩
              have e1 : A.wShl .u64 1 v = ((2 ^ v.toNat : Nat) : Int) := by subst hA; exact u64_shl hv0 hv64
              have e2 : A.wOp .and .u64 (x : Int) (A.wShl .u64 1 v) = ((x &&& 2 ^ v.toNat : Nat) : Int) := by rw [e1]; subst hA; exact u64_and hx64
              have e3 : A.wOp .or .u64 (x : Int) (A.wShl .u64 1 v) = ((x ||| 2 ^ v.toNat : Nat) : Int) := by rw [e1]; subst hA; exact u64_or hx64 hp
              split
              · rename_i h5
                have h5' : ¬ (x &&& 2 ^ v.toNat = 0) := by
                  have : A.bNot (A.iEq (A.wOp .and .u64 (x : Int) (A.wShl .u64 1 v)) 0) = true := h5
                  rw [e2] at this; subst hA; simpa [stdOps] using this
                conv => cbv
                rw [← hq]
                exact ((bad _ rfl (by simp [h5']))).symm
              · rename_i h5
                have h5' : x &&& 2 ^ v.toNat = 0 := by
                  have : A.bNot (A.iEq (A.wOp .and .u64 (x : Int) (A.wShl .u64 1 v)) 0) = false := h5
                  rw [e2] at this; subst hA; simpa [stdOps] using this
                conv => cbv
                refine ⟨by subst hA; exact ⟨hv0, hv64⟩, by subst hA; show inI64 (j + 1); unfold inI64; omega, ?_⟩
                obtain ⟨x', hx'⟩ : ∃ x', x' = x ||| 2 ^ v.toNat := ⟨_, rfl⟩
                rw [← hx'] at e3 hj2 hj3
                refine hR2 (A.iAdd j 1, x') _ (by (conv => cbv); exact wk_sl (by simp [leL, leS]; exact e3)) ?_ ?_
                · subst hA
                  refine ⟨by show 0 ≤ j + 1; omega, by show j + 1 ≤ _; omega, by rw [hx']; exact Nat.or_lt_two_pow hx64 hp, ?_, hj3⟩
                  rw [hj2]
                  simp [hv0, h4', h5']
                  rfl
                · subst hA
                  show (s.Volumes.length - (j + 1)).toNat < (s.Volumes.length - j).toNat
                  omega
        · rename_i h2
          have h2' : ¬ j < s.Volumes.length := by subst hA; rw [← hul]; simpa [stdOps] using h2
          rw [drop_all' h2'] at hj2 hj3
          have hj2' : indexed n 0 s.Volumes = true := hj2
          have hj3' : bitsFrom 0 s.Volumes = x := hj3
          conv => cbv
          split
          · rename_i h3
            have h3' : x = 0 := by subst hA; simpa [stdOps] using h3
            conv => cbv
            rw [← hq, hbad (by unfold sectorIx; rw [hj3', h3']; simp)]
            rfl
          · rename_i h3
            have h3' : ¬ x = 0 := by subst hA; simpa [stdOps] using h3
            have hlen : xs.length = i.toNat := by rw [hxs]; simp [encSets, secBits]; omega
            conv => cbv
            refine ⟨⟨by subst hA; rfl, by subst hA; show (xs ++ [_]).length * _ ≤ _; simp; omega⟩, by subst hA; show inI64 (i + 1); unfold inI64; omega, ?_⟩
            refine hR (A.iAdd i 1, A.lApp xs [.int .u64 (x : Int)]) _ (by (conv => cbv); exact wk_round (bx := [_]) (bx' := [_]) (mp := []) (mp' := []) (by simp [leL, leS]) (by simp) (by simp) rfl rfl) ?_ ?_
            · subst hA
              show 0 ≤ i + 1 ∧ i + 1 ≤ l.length ∧ xs ++ [.int .u64 (x : Int)] = encSets (secBits (l.take (i + 1).toNat)) ∧ (l.take (i + 1).toNat).all (sectorIx n) = true
              refine ⟨by omega, by omega, ?_, ?_⟩
              · rw [htk, hxs]; simp [encSets, secBits, encSet, hj3']
              · rw [htk, List.all_append, hall]; simp [sectorIx, hj2', hj3', h3']
            · subst hA
              show (l.length - (i + 1)).toNat < (l.length - i).toNat
              omega
    · rename_i h1
      have h1' : ¬ i < l.length := by subst hA; rw [← hsl]; simpa [stdOps] using h1
      rw [take_all' h1'] at hxs hall
      conv => cbv
      rw [← hq, hall, hxs]
      rfl
end Go.Abs

namespace Go.Abs
open Go.RowKit Go.Proofs

theorem apartB_cons {l : List Nat} {x : Nat} {s : Int} {r : List Int} : apartB l x (s :: r) = (decide (0 ≤ s) && decide (s < l.length) && decide (x &&& l.getD s.toNat 0 = 0) && apartB l (x ||| l.getD s.toNat 0) r) := rfl
theorem joined_cons {l : List Nat} {x : Nat} {s : Int} {r : List Int} : joined l x (s :: r) = joined l (x ||| l.getD s.toNat 0) r := rfl

set_option maxHeartbeats 4000000 in
theorem configs_divisions {vs ss cs : List PV} (mv : Nat) (n : Nat) (hv : vs.length = n) (l : List Sector) (hss : ss = encSectors l) (c : List Config) (hcs : cs = encConfigs c) :
    CallsPV Tryz.prog 179 [encAir mv vs ss cs] (if divOk n l c then .tup [.list 1 (List.replicate c.length .ref), .bool true] else .tup [.list 0 [], .bool false]) := by
  refine callsPV_by (clo := fun _ => false) (rows := false) env_ok Tryz.func179 rfl (enters_of Tryz.func179 (by kernel_rfl) rfl) (fun A q P Y hr hA hq => ?_)
  have hsl : ss.length = l.length := by rw [hss]; simp [encSectors]
  have hcl : cs.length = c.length := by rw [hcs]; simp [encConfigs]
  have hbd : ∀ s ∈ c, s.Sectors.length ≤ 9223372036854775807 := fun s hs => by
    have h1 := Real.cell (show Real [.agg _] from hr) (c := .list 3 cs) (by simp)
    have h2 := h1.elem (x := encConfig s) (by rw [hcs]; exact List.mem_map_of_mem hs) (c := .list 1 (encInts s.Sectors)) (by simp [encConfig, PV.cells])
    have := h2.len
    simpa [encInts] using this
  have bad : ∀ b, divOk n l c = b → b = false → PV.tup [.list 0 [], .bool false] = q := by
    intro b hb hbf
    subst hbf
    rw [← hq, hb]; rfl
  conv => cbv
  split
  · rename_i h1
    have h1' : n < 1 := by subst hA; have t := h1; simp [stdOps] at t; omega
    conv => cbv
    exact bad _ rfl (by unfold divOk; simp; omega)
  rename_i h1
  have h1' : 1 ≤ n := by subst hA; have t := h1; simp [stdOps] at t; omega
  conv => cbv
  split
  · rename_i h2
    have h2' : 64 < n := by subst hA; have t := h2; simp [stdOps] at t; omega
    conv => cbv
    exact bad _ rfl (by unfold divOk; simp; omega)
  rename_i h2
  have h2' : n ≤ 64 := by subst hA; have t := h2; simp [stdOps] at t; omega
  conv => cbv
  split
  · rename_i h3
    have h3' : 64 < l.length := by subst hA; have t := h3; simp [stdOps] at t; omega
    conv => cbv
    exact bad _ rfl (by unfold divOk; simp; omega)
  rename_i h3
  have h3' : l.length ≤ 64 := by subst hA; have t := h3; simp [stdOps] at t; omega
  conv => cbv
  split
  · rename_i h4
    have h4' : c.length < 1 := by subst hA; have t := h4; simp [stdOps] at t; omega
    conv => cbv
    exact bad _ rfl (by unfold divOk; simp; omega)
  rename_i h4
  have h4' : 1 ≤ c.length := by subst hA; have t := h4; simp [stdOps] at t; omega
  conv => cbv
  split
  · rename_i h5
    have h5' : 32 < c.length := by subst hA; have t := h5; simp [stdOps] at t; omega
    conv => cbv
    exact bad _ rfl (by unfold divOk; simp; omega)
  rename_i h5
  have h5' : c.length ≤ 32 := by subst hA; have t := h5; simp [stdOps] at t; omega
  conv => cbv
  have hsets := configs_sets (cs := cs) mv n hv h2' l h3' hss
  by_cases hall : l.all (sectorIx n) = true
  rotate_left
  · rw [if_neg hall] at hsets
    refine call_intro hA hsets ?_
    conv => cbv
    split
    · conv => cbv
      exact bad _ rfl (by unfold divOk; simp [Bool.eq_false_iff.2 hall])
    · rename_i hx; exact absurd hx (by subst hA; simp [stdOps])
  rw [if_pos hall] at hsets
  obtain ⟨se, hse⟩ : ∃ se, se = encSets (secBits l) := ⟨_, rfl⟩
  rw [← hse] at hsets
  have hsel : se.length = l.length := by rw [hse]; simp [encSets, secBits]
  have hlt := secBits_lt h2' hall
  have hbl : (secBits l).length = l.length := by simp [secBits]
  refine call_intro hA hsets ?_
  conv => cbv
  split
  · rename_i hx; exact absurd hx (by subst hA; simp [stdOps])
  conv => cbv
  have eall : A.wShr 18446744073709551615 (A.iSub 64 (A.lLen vs)) = ((2 ^ n - 1 : Nat) : Int) := by subst hA; rw [← u64_all (E := ⟨Tryz.prog, tab, fun _ => false, false, YS.none⟩) h1' h2', ← hv]; rfl
  refine ⟨by subst hA; show inI64 (64 - (vs.length : Int)); unfold inI64; omega, by subst hA; show 0 ≤ 64 - (vs.length : Int) ∧ 64 - (vs.length : Int) < 64; omega, ?_⟩
  refine loop_set hA (fun (y : Int × List PV) s => { ((s.put (some 55) (.val (.int .i64 y.1))).put (some 2) (.own 0 1 y.2)) with tk := [(A.nLen y.2, 320)] })
    (fun y => 0 ≤ y.1 ∧ y.1 ≤ c.length ∧ y.2 = List.replicate y.1.toNat .ref ∧ (c.take y.1.toNat).all (configOk n (secBits l)) = true) (fun y => (c.length - y.1).toNat) (0, []) ?_ ?_ ?_
  · conv => cbv
    exact wk_own 2 0 1 [] _ rfl (.inr rfl) (by simp [leL, leS]) (by subst hA; rfl)
  · exact ⟨Int.le_refl _, by simp, by simp, by simp⟩
  · intro R y hi hR
    obtain ⟨i, ys⟩ := y
    obtain ⟨hi0, hi1, hys, hcall⟩ := hi
    simp only at hi0 hi1 hys hcall
    conv => cbv
    split
    · rename_i h6
      have h6' : i < c.length := by subst hA; rw [← hcl]; simpa [stdOps] using h6
      conv => cbv
      refine idx_Config hA hcs hi0 h6' (fun s u1 u2 hx hu1 hu2 => ?_)
      have hul : u2.length = s.Sectors.length := by rw [hu2]; simp [encInts]
      have htk := take_snoc' hi0 hx
      have hsb := hbd s (List.mem_of_getElem? hx)
      have hbad : configOk n (secBits l) s = false → PV.tup [.list 0 [], .bool false] = q := fun hb => bad _ rfl (by
        have : c.all (configOk n (secBits l)) = false := by rw [List.all_eq_false]; exact ⟨s, List.mem_of_getElem? hx, by simp [hb]⟩
        unfold divOk; simp [this])
      conv => cbv
      refine loop_set hA (fun (y : Int × Nat × Nat) s => { (((s.put (some 63) (.val (.int .i64 y.1))).put (some 8) (.val (.int .u64 (y.2.1 : Int)))).put (some 2) (.own 0 1 ys)) with ax := { mp := [.plain 319 4 y.2.2], yk := 0 } })
        (fun y => 0 ≤ y.1 ∧ y.1 ≤ s.Sectors.length ∧ y.2.1 < 2 ^ 64 ∧ (y.2.2 : Int) ≤ y.1 ∧ apartB (secBits l) 0 s.Sectors = apartB (secBits l) y.2.1 (s.Sectors.drop y.1.toNat) ∧ joined (secBits l) 0 s.Sectors = joined (secBits l) y.2.1 (s.Sectors.drop y.1.toNat)) (fun y => (s.Sectors.length - y.1).toNat) (0, 0, 0) ?_ ?_ ?_
      · conv => cbv
        exact wk_sl (by simp [leL, leS])
      · exact ⟨Int.le_refl _, by simp, by simp, by simp, by simp, by simp⟩
      · intro R2 y hj hR2
        obtain ⟨j, x, m⟩ := y
        obtain ⟨hj0, hj1, hx64, hm, hj2, hj3⟩ := hj
        simp only at hj0 hj1 hx64 hm hj2 hj3
        conv => cbv
        split
        · rename_i h7
          have h7' : j < s.Sectors.length := by subst hA; rw [← hul]; simpa [stdOps] using h7
          conv => cbv
          refine idx_Int hA hu2 hj0 h7' (fun v hvx => ?_)
          have hdr := drop_cons' hj0 hvx
          rw [hdr, apartB_cons] at hj2
          rw [hdr, joined_cons] at hj3
          conv => cbv
          split
          · rename_i h8
            have h8' : v < 0 := by subst hA; simpa [stdOps] using h8
            conv => cbv
            exact hbad (by unfold configOk; rw [hj2]; simp [show ¬ (0 ≤ v) by omega])
          rename_i h8
          have h8' : 0 ≤ v := by subst hA; have := h8; simp [stdOps] at this; omega
          conv => cbv
          split
          · rename_i h9
            have h9' : ¬ v < l.length := by subst hA; rw [← hsel]; simpa [stdOps] using h9
            conv => cbv
            exact hbad (by unfold configOk; rw [hj2, hbl]; simp [h9'])
          rename_i h9
          have h9' : v < l.length := by subst hA; rw [← hsel]; simpa [stdOps] using h9
          conv => cbv
          refine idx_Set hA hse h8' (by rw [hbl]; exact h9') (fun z hz => ?_)
          have hzl : z < 2 ^ 64 := hlt z (List.mem_of_getElem? hz)
          have hzd : (secBits l).getD v.toNat 0 = z := by rw [List.getD_eq_getElem?_getD, hz]; rfl
          rw [hzd] at hj2 hj3
          have e2 : A.wOp .and .u64 (x : Int) (z : Int) = ((x &&& z : Nat) : Int) := by subst hA; exact u64_and hx64
          have e3 : A.wOp .or .u64 (x : Int) (z : Int) = ((x ||| z : Nat) : Int) := by subst hA; exact u64_or hx64 hzl
          conv => cbv
          split
          · rename_i h10
            have h10' : ¬ (x &&& z = 0) := by
              have : A.bNot (A.iEq (A.wOp .and .u64 (x : Int) (z : Int)) 0) = true := h10
              rw [e2] at this; subst hA; simpa [stdOps] using this
            conv => cbv
            exact hbad (by unfold configOk; rw [hj2]; simp [h10'])
          rename_i h10
          have h10' : x &&& z = 0 := by
            have : A.bNot (A.iEq (A.wOp .and .u64 (x : Int) (z : Int)) 0) = false := h10
            rw [e2] at this; subst hA; simpa [stdOps] using this
          conv => cbv
          refine idx_Set hA hse h8' (by rw [hbl]; exact h9') (fun z2 hz2 => ?_)
          obtain rfl : z = z2 := by rw [hz] at hz2; exact Option.some.inj hz2
          conv => cbv
          refine idx_Set hA hse h8' (by rw [hbl]; exact h9') (fun z2 hz2 => ?_)
          obtain rfl : z = z2 := by rw [hz] at hz2; exact Option.some.inj hz2
          conv => cbv
          refine ⟨by subst hA; show m < 9223372036854775807 ∧ inKind .u64 (z : Int); refine ⟨by omega, ?_⟩; simp [inKind, IntKind.min, IntKind.max, IntKind.bits, IntKind.signed]; omega, by subst hA; show inI64 (j + 1); unfold inI64; omega, ?_⟩
          obtain ⟨x', hx'⟩ : ∃ x', x' = x ||| z := ⟨_, rfl⟩
          rw [← hx'] at e3 hj2 hj3
          refine hR2 (A.iAdd j 1, x', A.nS m) _ (by (conv => cbv); exact wk_sl (by simp [leL, leS]; exact e3)) ?_ ?_
          · subst hA
            refine ⟨by show 0 ≤ j + 1; omega, by show j + 1 ≤ _; omega, by rw [hx']; exact Nat.or_lt_two_pow hx64 hzl, by show ((m + 1 : Nat) : Int) ≤ j + 1; omega, ?_, hj3⟩
            rw [hj2, hbl]
            simp [h8', h9', h10']
            rfl
          · subst hA
            show (s.Sectors.length - (j + 1)).toNat < (s.Sectors.length - j).toNat
            omega
        · rename_i h7
          have h7' : ¬ j < s.Sectors.length := by subst hA; rw [← hul]; simpa [stdOps] using h7
          rw [drop_all' h7'] at hj2 hj3
          have hj2' : apartB (secBits l) 0 s.Sectors = true := hj2
          have hj3' : joined (secBits l) 0 s.Sectors = x := hj3
          conv => cbv
          split
          · rename_i h8
            have h8' : ¬ (x = 2 ^ n - 1) := by
              have t : A.bNot (A.iEq (x : Int) (A.wShr 18446744073709551615 (A.iSub 64 (A.lLen vs)))) = true := h8
              rw [eall] at t; subst hA
              intro e
              rw [e] at t
              simp [stdOps] at t
            conv => cbv
            exact hbad (by unfold configOk; rw [hj3']; simp [h8'])
          rename_i h8
          have h8' : x = 2 ^ n - 1 := by
            have t : A.bNot (A.iEq (x : Int) (A.wShr 18446744073709551615 (A.iSub 64 (A.lLen vs)))) = false := h8
            rw [eall] at t; subst hA
            exact Int.ofNat.inj (by simpa [stdOps] using t)
          have hlen : ys.length = i.toNat := by rw [hys]; simp
          conv => cbv
          refine ⟨⟨by subst hA; rfl, by subst hA; show (ys ++ [_]).length * _ ≤ _; simp; omega⟩, by subst hA; show inI64 (i + 1); unfold inI64; omega, ?_⟩
          refine hR (A.iAdd i 1, A.lApp ys [.ref]) _ (by (conv => cbv); exact wk_round (bx := [_]) (bx' := [_]) (mp := []) (mp' := [_]) (by simp [leL, leS]) (by simp) (.inr ⟨by simp, rfl⟩) rfl rfl) ?_ ?_
          · subst hA
            show 0 ≤ i + 1 ∧ i + 1 ≤ c.length ∧ ys ++ [.ref] = List.replicate (i + 1).toNat .ref ∧ (c.take (i + 1).toNat).all (configOk n (secBits l)) = true
            refine ⟨by omega, by omega, ?_, ?_⟩
            · rw [hys, show (i + 1).toNat = i.toNat + 1 by omega, List.replicate_succ']
            · rw [htk, List.all_append, hcall]; simp [configOk, hj2', hj3', h8']
          · subst hA
            show (c.length - (i + 1)).toNat < (c.length - i).toNat
            omega
    · rename_i h6
      have h6' : ¬ i < c.length := by subst hA; rw [← hcl]; simpa [stdOps] using h6
      rw [take_all' h6'] at hcall
      have hi2 : i.toNat = c.length := by omega
      conv => cbv
      have hd : divOk n l c = true := by unfold divOk; simp [h1', h2', h3', h4', h5', hall, hcall]
      rw [← hq, hd, hys, hi2]
      rfl
end Go.Abs

namespace Go.Abs
open Go.RowKit Go.Proofs

theorem configs_Check {vs ss cs : List PV} (mv : Nat) (n : Nat) (hv : vs.length = n) (l : List Sector) (hss : ss = encSectors l) (c : List Config) (hcs : cs = encConfigs c) :
    CallsPV Tryz.prog 119 [encAir mv vs ss cs] (.int .i64 (if divOk n l c then 0 else 100)) := by
  refine callsPV_by (clo := fun _ => false) (rows := false) env_ok Tryz.func119 rfl (enters_of Tryz.func119 (by kernel_rfl) rfl) (fun A q P Y hr hA hq => ?_)
  have h := configs_divisions mv n hv l hss c hcs
  cases hd : divOk n l c with
  | true =>
    rw [hd] at h hq
    generalize List.replicate c.length PV.ref = rs at h
    conv => cbv
    refine call_intro hA h ?_
    conv => cbv
    split
    · rename_i hx; exact absurd hx (by subst hA; simp [stdOps])
    · conv => cbv
      rw [← hq]; rfl
  | false =>
    rw [hd] at h hq
    conv => cbv
    refine call_intro hA h ?_
    conv => cbv
    split
    · conv => cbv
      rw [← hq]; rfl
    · rename_i hx; exact absurd hx (by subst hA; simp [stdOps])

def zeroVolume : PV := .agg [.str ByteArray.empty, .list 0 []]
theorem air_divided (nv : Int) (h1 : 1 ≤ nv) (h2 : nv ≤ 64) (ss cs ws ms ks : List PV) : CallsPV Tryz.prog 120 [.agg [.int .i64 nv, .list 5 ss, .list 3 cs, .list 3 ws, .list 1 ms, .list 6 ks]] (encAir 2 (List.replicate nv.toNat zeroVolume) ss cs) := by
  refine callsPV_by (clo := fun _ => false) (rows := false) env_ok Tryz.func120 rfl (enters_of Tryz.func120 (by kernel_rfl) rfl) (fun A q P Y hr hA hq => ?_)
  conv => cbv
  refine ⟨draw_intro hA (by kernel_rfl), ?_⟩
  refine ⟨by subst hA; show (0 ≤ nv ∧ nv = nv ∧ nv * _ ≤ _ ∧ nv ≤ _); omega, ?_⟩
  rw [← hq]
  subst hA
  rfl

set_option maxHeartbeats 2000000 in
theorem air_Check (t : Tables) : CallsPV Tryz.prog 49 [encTables t] (.int .i64 (if airOk t then 0 else 140)) := by
  refine callsPV_by (clo := fun _ => false) (rows := false) env_ok Tryz.func49 rfl (enters_of Tryz.func49 (by kernel_rfl) rfl) (fun A q P Y hr hA hq => ?_)
  have hbd : ∀ k ∈ t.Kinds, k.Curfews.length ≤ 9223372036854775807 := fun k hk => by
    have h1 := Real.cell (show Real [.agg _] from hr) (c := .list 6 (encKinds t.Kinds)) (by simp)
    have h2 := h1.elem (x := encKind k) (List.mem_map_of_mem hk) (c := .list 1 (encSpanLs k.Curfews)) (by simp [encKind, PV.cells])
    have := h2.len
    simpa [encSpanLs] using this
  have bad : ∀ b, airOk t = b → b = false → PV.int .i64 140 = q := by
    intro b hb hbf
    subst hbf
    rw [← hq, hb]; rfl
  obtain ⟨nv, S, C, W, M, K⟩ := t
  simp only [encTables] at hr ⊢
  simp only at hbd
  obtain ⟨ss, hss⟩ : ∃ ss, ss = encSectors S := ⟨_, rfl⟩
  obtain ⟨cs, hcs⟩ : ∃ cs, cs = encConfigs C := ⟨_, rfl⟩
  obtain ⟨ws, hws⟩ : ∃ ws, ws = encWays W := ⟨_, rfl⟩
  obtain ⟨ms, hms⟩ : ∃ ms, ms = encIntLs M := ⟨_, rfl⟩
  obtain ⟨ks, hks⟩ : ∃ ks, ks = encKinds K := ⟨_, rfl⟩
  have hwl : ws.length = W.length := by rw [hws]; simp [encWays]
  have hml : ms.length = M.length := by rw [hms]; simp [encIntLs]
  have hkl : ks.length = K.length := by rw [hks]; simp [encKinds]
  rw [← hss, ← hcs, ← hws, ← hms, ← hks]
  conv => cbv
  refine callB hA (air_in nv 1 64) rfl (fun r1 hr1 => ?_)
  conv => cbv
  split
  · rename_i h
    have h1 : r1 = false := by subst hA; simpa [stdOps] using h
    conv => cbv
    exact bad _ rfl (by unfold airOk; rw [← hr1, h1]; rfl)
  rename_i h
  have h1 : r1 = true := by subst hA; simpa [stdOps] using h
  rw [h1] at hr1
  have hnv : 1 ≤ nv ∧ nv ≤ 64 := by simpa [inB] using hr1.symm
  conv => cbv
  refine call_intro hA (air_divided nv hnv.1 hnv.2 ss cs ws ms ks) ?_
  obtain ⟨vs, hvs⟩ : ∃ vs, vs = List.replicate nv.toNat zeroVolume := ⟨_, rfl⟩
  rw [← hvs]
  conv => cbv
  refine callI hA (configs_Check 2 nv.toNat (by rw [hvs]; simp) S hss C hcs) rfl (fun r2 hr2 => ?_)
  conv => cbv
  split
  · rename_i h
    have h2 : divOk nv.toNat S C = false := by
      subst hA
      cases hd : divOk nv.toNat S C with
      | false => rfl
      | true => rw [hd] at hr2; subst hr2; simp [stdOps] at h
    conv => cbv
    exact bad _ rfl (by unfold airOk; simp [h2])
  rename_i h
  have h2 : divOk nv.toNat S C = true := by
    subst hA
    cases hd : divOk nv.toNat S C with
    | true => rfl
    | false => rw [hd] at hr2; subst hr2; simp [stdOps] at h
  conv => cbv
  refine callB hA (all_Sector sectorOk S hss fun x _ => air_sector x) rfl (fun r3 hr3 => ?_)
  conv => cbv
  split
  · rename_i h
    have h3 : r3 = false := by subst hA; simpa [stdOps] using h
    conv => cbv
    exact bad _ rfl (by unfold airOk; simp [← hr3, h3])
  rename_i h
  have h3 : r3 = true := by subst hA; simpa [stdOps] using h
  rw [h3] at hr3
  conv => cbv
  split
  · rename_i h
    have h4 : ¬ M.length ≤ 16 := by subst hA; have t := h; simp [stdOps] at t; omega
    conv => cbv
    exact bad _ rfl (by unfold airOk; simp [h4])
  rename_i h
  have h4 : M.length ≤ 16 := by subst hA; have t := h; simp [stdOps] at t; omega
  have hmb : ms.length ≤ 1000 := by omega
  conv => cbv
  refine callB hA (all_ListInt modeOk M hms fun x _ => air_mode x rfl) rfl (fun r5 hr5 => ?_)
  conv => cbv
  split
  · rename_i h
    have h5 : r5 = false := by subst hA; simpa [stdOps] using h
    conv => cbv
    exact bad _ rfl (by unfold airOk; simp [← hr5, h5])
  rename_i h
  have h5 : r5 = true := by subst hA; simpa [stdOps] using h
  rw [h5] at hr5
  conv => cbv
  split
  · rename_i h
    have h6 : ¬ W.length ≤ 64 := by subst hA; have t := h; simp [stdOps] at t; omega
    conv => cbv
    exact bad _ rfl (by unfold airOk; simp [h6])
  rename_i h
  have h6 : W.length ≤ 64 := by subst hA; have t := h; simp [stdOps] at t; omega
  conv => cbv
  refine callB hA (all_Way (wayOk nv ms.length) W hws fun x _ => air_way nv hnv ms hmb (.list 5 ss) (.list 3 cs) (.list 3 ws) (.list 6 ks) x) rfl (fun r7 hr7 => ?_)
  rw [hml] at hr7
  conv => cbv
  split
  · rename_i h
    have h7 : r7 = false := by subst hA; simpa [stdOps] using h
    conv => cbv
    exact bad _ rfl (by unfold airOk; simp [← hr7, h7])
  rename_i h
  have h7 : r7 = true := by subst hA; simpa [stdOps] using h
  rw [h7] at hr7
  conv => cbv
  split
  · rename_i h
    have h8 : ¬ K.length ≤ 8 := by subst hA; have t := h; simp [stdOps] at t; omega
    conv => cbv
    exact bad _ rfl (by unfold airOk; simp [h8])
  rename_i h
  have h8 : K.length ≤ 8 := by subst hA; have t := h; simp [stdOps] at t; omega
  conv => cbv
  refine callB hA (all_Kind (fun k => kindOk k && decide (k.Curfews.length = ms.length)) K hks fun x hx => air_kind ms hmb _ (.list 5 ss) (.list 3 cs) (.list 3 ws) (.list 6 ks) x (hbd x hx)) rfl (fun r9 hr9 => ?_)
  rw [hml] at hr9
  conv => cbv
  split
  · rename_i h
    have h9 : r9 = false := by subst hA; simpa [stdOps] using h
    conv => cbv
    exact bad _ rfl (by unfold airOk; simp only [← hr9, h9]; simp)
  rename_i h
  have h9 : r9 = true := by subst hA; simpa [stdOps] using h
  rw [h9] at hr9
  conv => cbv
  have hok : airOk ⟨nv, S, C, W, M, K⟩ = true := by unfold airOk; simp only [← hr1, h2, ← hr3, ← hr5, ← hr7, ← hr9]; simp [h4, h6, h8]
  rw [← hq, hok]; rfl
end Go.Abs
