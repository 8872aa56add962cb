/-
  Functions: divisions into sectors.
-/
import Derived.Test.YtbljnbpddboohaaGreatF3
import Derived.Test.YtbljnbpddboohaaGreatB1
set_option linter.unusedVariables false
set_option linter.unusedSimpArgs false
namespace Go.Abs
open Go.RowKit Go.Proofs

theorem indexed_cons {n x : Nat} {v : Int} {r : List Int} : indexed n x (v :: r) = (decide (0 ≤ v) && decide (v < n) && decide (x &&& 2 ^ v.toNat = 0) && indexed n (x ||| 2 ^ v.toNat) r) := rfl
theorem bitsFrom_cons {x : Nat} {v : Int} {r : List Int} : bitsFrom x (v :: r) = bitsFrom (x ||| 2 ^ v.toNat) r := rfl
theorem drop_cons' {α : Type} {l : List α} {i : Int} {x : α} (h0 : 0 ≤ i) (hx : l[i.toNat]? = some x) : l.drop i.toNat = x :: l.drop (i + 1).toNat := by
  obtain ⟨h, hv⟩ := List.getElem?_eq_some_iff.1 hx
  rw [show (i + 1).toNat = i.toNat + 1 by omega, List.drop_eq_getElem_cons h, hv]
theorem take_all' {α : Type} {l : List α} {i : Int} (h : ¬ i < l.length) : l.take i.toNat = l := List.take_of_length_le (by omega)
theorem drop_all' {α : Type} {l : List α} {i : Int} (h : ¬ i < l.length) : l.drop i.toNat = [] := List.drop_eq_nil_of_le (by omega)

/-- The airspace of which tables are divisions. -/
def encAir (mv : Nat) (vs ss cs : List PV) : PV := .agg [.list mv vs, .list 5 ss, .list 3 cs, .list 0 [], .list 0 [], .list 0 [], .list 0 [], .list 0 []]

set_option maxHeartbeats 2000000 in
theorem configs_sets {vs ss cs : List PV} (mv : Nat) (n : Nat) (hv : vs.length = n) (hn : n ≤ 64) (l : List Sector) (hl : l.length ≤ 64) (hss : ss = encSectors l) :
    CallsPV Tryz.prog 100 [encAir mv vs ss cs] (if l.all (sectorIx n) then .tup [.list 1 (encSets (secBits l)), .bool true] else .tup [.list 0 [], .bool false]) := by
  refine callsPV_by (clo := fun _ => false) (rows := false) env_ok Tryz.func100 rfl (enters_of Tryz.func100 (by kernel_rfl) rfl) (fun A q P Y hr hA hq => ?_)
  have hsl : ss.length = l.length := by rw [hss]; simp [encSectors]
  have hbd : ∀ s ∈ l, s.Volumes.length ≤ 9223372036854775807 := fun s hs => by
    have h1 := Real.cell (show Real [.agg _] from hr) (c := .list 5 ss) (by simp)
    have h2 := h1.elem (x := encSector s) (by rw [hss]; exact List.mem_map_of_mem hs) (c := .list 1 (encInts s.Volumes)) (by simp [encSector, PV.cells])
    have := h2.len
    simpa [encInts] using this
  conv => cbv
  refine loop_set hA (fun (y : Int × List PV) s => { s.put (some 12) (.val (.int .i64 y.1)) with sl := (s.put (some 12) (.val (.int .i64 y.1))).sl.set 2 (.own 0 1 y.2), tk := [(A.nLen y.2, 139)] })
    (fun y => 0 ≤ y.1 ∧ y.1 ≤ l.length ∧ y.2 = encSets (secBits (l.take y.1.toNat)) ∧ (l.take y.1.toNat).all (sectorIx n) = true) (fun y => (l.length - y.1).toNat) (0, []) ?_ ?_ ?_
  · conv => cbv
    exact wk_own 2 0 1 [] _ rfl (.inr rfl) (by simp [leL, leS]) (by subst hA; rfl)
  · exact ⟨Int.le_refl _, by simp, by simp [secBits, encSets], by simp⟩
  · intro R y hi hR
    obtain ⟨i, xs⟩ := y
    obtain ⟨hi0, hi1, hxs, hall⟩ := hi
    simp only at hi0 hi1 hxs hall
    conv => cbv
    split
    · rename_i h1
      have h1' : i < l.length := by subst hA; rw [← hsl]; simpa [stdOps] using h1
      conv => cbv
      refine idx_Sector hA hss hi0 h1' (fun s u1 u2 hx hu1 hu2 => ?_)
      have hul : u2.length = s.Volumes.length := by rw [hu2]; simp [encInts]
      have htk := take_snoc' hi0 hx
      have hvb := hbd s (List.mem_of_getElem? hx)
      have hbad : sectorIx n s = false → l.all (sectorIx n) = false := fun hb => by rw [List.all_eq_false]; exact ⟨s, List.mem_of_getElem? hx, by simp [hb]⟩
      conv => cbv
      refine loop_set hA (fun (y : Int × Nat) s => ((s.put (some 19) (.val (.int .i64 y.1))).put (some 6) (.val (.int .u64 (y.2 : Int)))).put (some 2) (.own 0 1 xs))
        (fun y => 0 ≤ y.1 ∧ y.1 ≤ s.Volumes.length ∧ y.2 < 2 ^ 64 ∧ indexed n 0 s.Volumes = indexed n y.2 (s.Volumes.drop y.1.toNat) ∧ bitsFrom 0 s.Volumes = bitsFrom y.2 (s.Volumes.drop y.1.toNat)) (fun y => (s.Volumes.length - y.1).toNat) (0, 0) ?_ ?_ ?_
      · conv => cbv
        exact wk_sl (by simp [leL, leS])
      · exact ⟨Int.le_refl _, by simp, by simp, by simp, by simp⟩
      · intro R2 y hj hR2
        obtain ⟨j, x⟩ := y
        obtain ⟨hj0, hj1, hx64, hj2, hj3⟩ := hj
        simp only at hj0 hj1 hx64 hj2 hj3
        conv => cbv
        split
        · rename_i h2
          have h2' : j < s.Volumes.length := by subst hA; rw [← hul]; simpa [stdOps] using h2
          conv => cbv
          refine idx_Int hA hu2 hj0 h2' (fun v hvx => ?_)
          have hdr := drop_cons' hj0 hvx
          rw [hdr, indexed_cons] at hj2
          rw [hdr, bitsFrom_cons] at hj3
          have bad : ∀ b : Bool, (decide (0 ≤ v) && decide (v < n) && decide (x &&& 2 ^ v.toNat = 0)) = b → b = false → (if l.all (sectorIx n) then PV.tup [.list 1 (encSets (secBits l)), .bool true] else .tup [.list 0 [], .bool false]) = .tup [.list 0 [], .bool false] := by
            intro b hb hbf
            subst hbf
            rw [hbad (by unfold sectorIx; rw [hj2, hb]; rfl)]
            rfl
          conv => cbv
          split
          · rename_i h3
            have h3' : v < 0 := by subst hA; simpa [stdOps] using h3
            conv => cbv
            rw [← hq]
            exact ((bad _ rfl (by simp; omega))).symm
          · rename_i h3
            have h3' : ¬ v < 0 := by subst hA; simpa [stdOps] using h3
            conv => cbv
            split
            · rename_i h4
              have h4' : ¬ v < n := by subst hA; rw [← hv]; simpa [stdOps] using h4
              conv => cbv
              rw [← hq]
              exact ((bad _ rfl (by simp; omega))).symm
            · rename_i h4
              have h4' : v < n := by subst hA; rw [← hv]; simpa [stdOps] using h4
              have hv0 : 0 ≤ v := by omega
              have hv64 : v < 64 := by omega
              have hp := pow_lt64 hv64
              conv => cbv
              refine ⟨by subst hA; exact ⟨hv0, hv64⟩, ?_⟩
              have e1 : A.wShl .u64 1 v = ((2 ^ v.toNat : Nat) : Int) := by subst hA; exact u64_shl hv0 hv64
              have e2 : A.wOp .and .u64 (x : Int) (A.wShl .u64 1 v) = ((x &&& 2 ^ v.toNat : Nat) : Int) := by rw [e1]; subst hA; exact u64_and hx64
              have e3 : A.wOp .or .u64 (x : Int) (A.wShl .u64 1 v) = ((x ||| 2 ^ v.toNat : Nat) : Int) := by rw [e1]; subst hA; exact u64_or hx64 hp
              split
              · rename_i h5
                have h5' : ¬ (x &&& 2 ^ v.toNat = 0) := by
                  have : A.bNot (A.iEq (A.wOp .and .u64 (x : Int) (A.wShl .u64 1 v)) 0) = true := h5
                  rw [e2] at this; subst hA; simpa [stdOps] using this
                conv => cbv
                rw [← hq]
                exact ((bad _ rfl (by simp [h5']))).symm
              · rename_i h5
                have h5' : x &&& 2 ^ v.toNat = 0 := by
                  have : A.bNot (A.iEq (A.wOp .and .u64 (x : Int) (A.wShl .u64 1 v)) 0) = false := h5
                  rw [e2] at this; subst hA; simpa [stdOps] using this
                conv => cbv
                refine ⟨by subst hA; exact ⟨hv0, hv64⟩, by subst hA; show inI64 (j + 1); unfold inI64; omega, ?_⟩
                obtain ⟨x', hx'⟩ : ∃ x', x' = x ||| 2 ^ v.toNat := ⟨_, rfl⟩
                rw [← hx'] at e3 hj2 hj3
                refine hR2 (A.iAdd j 1, x') _ (by (conv => cbv); exact wk_sl (by simp [leL, leS]; exact e3)) ?_ ?_
                · subst hA
                  refine ⟨by show 0 ≤ j + 1; omega, by show j + 1 ≤ _; omega, by rw [hx']; exact Nat.or_lt_two_pow hx64 hp, ?_, hj3⟩
                  rw [hj2]
                  simp [hv0, h4', h5']
                  rfl
                · subst hA
                  show (s.Volumes.length - (j + 1)).toNat < (s.Volumes.length - j).toNat
                  omega
        · rename_i h2
          have h2' : ¬ j < s.Volumes.length := by subst hA; rw [← hul]; simpa [stdOps] using h2
          rw [drop_all' h2'] at hj2 hj3
          have hj2' : indexed n 0 s.Volumes = true := hj2
          have hj3' : bitsFrom 0 s.Volumes = x := hj3
          conv => cbv
          split
          · rename_i h3
            have h3' : x = 0 := by subst hA; simpa [stdOps] using h3
            conv => cbv
            rw [← hq, hbad (by unfold sectorIx; rw [hj3', h3']; simp)]
            rfl
          · rename_i h3
            have h3' : ¬ x = 0 := by subst hA; simpa [stdOps] using h3
            have hlen : xs.length = i.toNat := by rw [hxs]; simp [encSets, secBits]; omega
            conv => cbv
            refine ⟨⟨by subst hA; rfl, by subst hA; show (xs ++ [_]).length * _ ≤ _; simp; omega⟩, by subst hA; show inI64 (i + 1); unfold inI64; omega, ?_⟩
            refine hR (A.iAdd i 1, A.lApp xs [.int .u64 (x : Int)]) _ (by (conv => cbv); exact wk_round (bx := [_]) (bx' := [_]) (mp := []) (mp' := []) (by simp [leL, leS]) (by simp) (by simp) rfl rfl) ?_ ?_
            · subst hA
              show 0 ≤ i + 1 ∧ i + 1 ≤ l.length ∧ xs ++ [.int .u64 (x : Int)] = encSets (secBits (l.take (i + 1).toNat)) ∧ (l.take (i + 1).toNat).all (sectorIx n) = true
              refine ⟨by omega, by omega, ?_, ?_⟩
              · rw [htk, hxs]; simp [encSets, secBits, encSet, hj3']
              · rw [htk, List.all_append, hall]; simp [sectorIx, hj2', hj3', h3']
            · subst hA
              show (l.length - (i + 1)).toNat < (l.length - i).toNat
              omega
    · rename_i h1
      have h1' : ¬ i < l.length := by subst hA; rw [← hsl]; simpa [stdOps] using h1
      rw [take_all' h1'] at hxs hall
      conv => cbv
      rw [← hq, hall, hxs]
      rfl
end Go.Abs
