/-
  Functions of the reference's chapter 12: Legs; Same.
-/
import Derived.Test.YtcafjndjnfdnpaaGreatF24
import Derived.Test.YtcafjndjnfdnpaaGreatR4
import Derived.Test.YtcafjndjnfdnpaaGreatD1
set_option linter.unusedVariables false
set_option linter.unusedSimpArgs false
namespace Go.Abs
open Go.RowKit Go.Proofs

theorem ref12_Length (n : Int) (h : 1 ≤ n ∧ n ≤ 4096) : CallsPV Tryz.prog 299 [.int .i64 n] (.bool true) := by
  refine callsPV_by (clo := fun _ => false) (rows := false) env_ok Tryz.func299 rfl (enters_of Tryz.func299 (by kernel_rfl) rfl) (fun A q P Y hr hA hq => ?_)
  conv => cbv
  split
  rotate_left
  · rename_i hc
    cases ((show False by have := leF hA hc; omega))
  conv => cbv
  refine Eq.trans ?_ hq
  show PV.bool (A.iLe n 4096) = _
  subst hA
  show PV.bool (decide (n ≤ 4096)) = _
  rw [decide_eq_true h.2]

theorem ref12_Minutes (len speed : Int) (h0 : 1 ≤ len ∧ len ≤ 4096) (h1 : 1 ≤ speed ∧ speed ≤ 64) : CallsPV Tryz.prog 300 [.int .i64 len, .int .i64 speed] (.int .i64 (minutesC len speed)) := by
  refine callsPV_by (clo := fun _ => false) (rows := false) env_ok Tryz.func300 rfl (enters_of Tryz.func300 (by kernel_rfl) rfl) (fun A q P Y hr hA hq => ?_)
  have hm := minutesC_spec h0.1 h1.1
  generalize minutesC len speed = M at hm hq
  conv => cbv
  refine loop_set hA (fun (z : Int) s => s.put (some 5) (.val (.int .i64 z))) (fun z => 0 ≤ z ∧ z ≤ M) (fun z => (M - z).toNat) 0 ?_ ?_ ?_
  · conv => cbv
    exact wk_sl (by repeat (first | refine leL_same ?_ | refine leL_any ?_ | exact leL_nil))
  · exact ⟨Int.le_refl _, by omega⟩
  rintro R z ⟨hz0, hz1⟩ hR
  have e1 : A.iMul z speed = z * speed := mulI hA _ _
  have hu : z * speed ≤ 4096 * 64 := Int.mul_le_mul (by omega) h1.2 (by omega) (by omega)
  have hl : 0 ≤ z * speed := Int.mul_nonneg hz0 (by omega)
  conv => cbv
  refine ⟨inR' hA e1 (by unfold inI64; omega), ?_⟩
  split
  · rename_i hc
    have hlt := ltT' hA e1 rfl hc
    have hzM : z < M := by
      rcases Int.lt_or_le z M with h | h
      · exact h
      · have : M * speed ≤ z * speed := Int.mul_le_mul_of_nonneg_right h (by omega)
        omega
    have hzs : A.iAdd z 1 = z + 1 := addI hA _ _
    conv => cbv
    refine ⟨inR' hA hzs (by unfold inI64; omega), hR (A.iAdd z 1) _ ?_ ?_ ?_⟩
    · conv => cbv
      exact wk_sl (by repeat (first | refine leL_same ?_ | refine leL_any ?_ | exact leL_nil))
    · show 0 ≤ A.iAdd z 1 ∧ A.iAdd z 1 ≤ M
      rw [hzs]; omega
    · show (M - A.iAdd z 1).toNat < (M - z).toNat
      rw [hzs]; omega
  · rename_i hc
    have hge := ltF' hA e1 rfl hc
    have hzM : z = M := by
      rcases Int.lt_or_le z M with h | h
      · have : z * speed ≤ (M - 1) * speed := Int.mul_le_mul_of_nonneg_right (by omega) (by omega)
        omega
      · omega
    conv => cbv
    rw [← hq, hzM]

theorem ref12_Bound (k : Kind) (hk : KindOk k) (len : Int) (h0 : 1 ≤ len ∧ len ≤ 4096) : CallsPV Tryz.prog 287 [encKind k, .int .i64 len] (.tup [encBound (boundK k len 0), .int .i64 0]) := by
  refine callsPV_by (clo := fun _ => false) (rows := false) env_ok Tryz.func287 rfl (enters_of Tryz.func287 (by kernel_rfl) rfl) (fun A q P Y hr hA hq => ?_)
  have hchk := ref12_Check k
  rw [hk.ok] at hchk
  have hlen := ref12_Length len h0
  have c1 := ref12_Minutes len k.Fast h0 ⟨by have := hk.s1; have := hk.s2; omega, hk.s3⟩
  have c2 := ref12_Minutes len k.Slow h0 ⟨hk.s1, by have := hk.s2; have := hk.s3; omega⟩
  simp only [boundK, encBound, Int.add_zero] at hq
  generalize minutesC len k.Fast = n1 at c1 hq
  generalize minutesC len k.Slow = n2 at c2 hq
  obtain ⟨k1, k2, k3, k4, k5, k6⟩ := k
  simp only [encKind] at c1 c2 hq hchk ⊢
  obtain ⟨cs, hcs⟩ : ∃ cs, cs = encSpanLs k6 := ⟨_, rfl⟩
  rw [← hcs] at hchk ⊢
  conv => cbv
  refine call_intro hA (hchk) ?_
  conv => cbv
  split
  · rename_i hc
    cases (neT hA hc rfl)
  conv => cbv
  refine call_intro hA (hlen) ?_
  conv => cbv
  split
  · rename_i hc
    cases (nT hA hc)
  conv => cbv
  refine ⟨draw_intro hA (by kernel_rfl), ?_⟩
  refine call_intro hA (c1) ?_
  conv => cbv
  refine call_intro hA (c2) ?_
  conv => cbv
  exact hq

set_option maxHeartbeats 1000000 in
theorem ref12_Legs (k : Kind) (hk : KindOk k) (ls : List Leg) (hl : legsOk ls) (hold : Int) (h0 : 0 ≤ hold ∧ hold ≤ 10) {lg : List PV} (hlg : lg = encLegs ls) :
    CallsPV Tryz.prog 264 [encKind k, .list 4 lg, .int .i64 hold] (.tup [.list 2 (encBounds (legsB k hold ls)), .int .i64 0]) := by
  refine callsPV_by (clo := fun n => n == 1000010) (rows := false) env_ok Tryz.func264 rfl (enters_of Tryz.func264 (by kernel_rfl) rfl) (fun A q P Y hr hA hq => ?_)
  have hchk := ref12_Check k
  rw [hk.ok] at hchk
  have hll : lg.length = ls.length := by rw [hlg]; simp [encLegs]
  have hbd := fun (x : Leg) (hx : x ∈ ls) => ref12_Bound k hk x.Length (hl.2.2 x hx)
  have hbf := fun (x : Leg) (hx : x ∈ ls) => bound_facts hk (hl.2.2 x hx).1 (hl.2.2 x hx).2 (Int.le_refl 0) (by omega)
  have hget := fun (i : Nat) (x : Leg) (h : ls[i]? = some x) => legsB_get (k := k) (hold := hold) h
  have hbl := legsB_len k hold ls
  have hbK : ∀ n h, boundK k n h = ⟨minutesC n k.Fast + h, minutesC n k.Slow + h⟩ := fun n h => rfl
  generalize legsB k hold ls = M at hget hq hbl
  have hl1 := hl.1
  have hl8 := hl.2.1
  obtain ⟨k1, k2, k3, k4, k5, k6⟩ := k
  simp only at hbK
  simp only [encKind] at hchk hbd ⊢
  obtain ⟨cs, hcs⟩ : ∃ cs, cs = encSpanLs k6 := ⟨_, rfl⟩
  rw [← hcs] at hchk hbd ⊢
  conv => cbv
  refine call_intro hA (hchk) ?_
  conv => cbv
  split
  · rename_i hc
    cases (neT hA hc rfl)
  conv => cbv
  split
  · rename_i hc
    cases ((show False by have := ltT' hA (lenI hA hll) rfl hc; omega))
  conv => cbv
  split
  · rename_i hc
    cases ((show False by have := ltT' hA rfl (lenI hA hll) hc; omega))
  conv => cbv
  split
  · rename_i hc
    cases ((show False by have := ltT hA hc; omega))
  conv => cbv
  split
  · rename_i hc
    cases ((show False by have := ltT hA hc; omega))
  conv => cbv
  refine loop_set hA (fun (z : Int × List PV) s => { (s.put (some 10) (.val (.int .i64 z.1))).put (some 9) (.own 0 2 z.2) with tk := [(A.nLen z.2, 148)] }) (fun z => 0 ≤ z.1 ∧ z.1 ≤ ls.length ∧ z.2 = encBounds (M.take z.1.toNat)) (fun z => ((ls.length : Int) - z.1).toNat) (0, []) ?_ ?_ ?_
  · conv => cbv
    exact wk_own 9 0 2 _ _ rfl (.inr rfl) (by repeat (first | refine leL_same ?_ | refine leL_any ?_ | exact leL_nil)) (by subst hA; rfl)
  · exact ⟨Int.le_refl _, by omega, by simp [encBounds]⟩
  rintro R ⟨i, L⟩ ⟨hi0, hi1, hL⟩ hR
  simp only at hi0 hi1 hL
  conv => cbv
  split
  · rename_i hc
    have hi : i < ls.length := ltT' hA rfl (lenI hA hll) hc
    have his : A.iAdd i 1 = i + 1 := addI hA _ _
    have hir : A.inR (A.iAdd i 1) := inR' hA his (by unfold inI64; omega)
    have hls1 : A.iSub (A.lLen lg) 1 = (ls.length : Int) - 1 := by rw [subI hA, lenI hA hll]
    have hlsr : A.inR (A.iSub (A.lLen lg) 1) := inR' hA hls1 (by unfold inI64; omega)
    have hLl : L.length ≤ 1000 := by rw [hL]; simp [encBounds]; omega
    have htk : A.tkEq (A.nLen L) (A.nLen L) := by subst hA; rfl
    obtain ⟨x, hx⟩ : ∃ x, ls[i.toNat]? = some x := ⟨ls[i.toNat]'(by omega), List.getElem?_eq_getElem (by omega)⟩
    have hxm := List.mem_of_getElem? hx
    have g1 := hbd x hxm
    have g2 := hbf x hxm
    have g3 := hget i.toNat x hx
    rw [hbK] at g1 g2 g3
    obtain ⟨x1, x2, x3, x4⟩ := x
    simp only [encBound, Int.add_zero] at g1 g2 g3
    generalize minutesC x3 k2 = m1 at g1 g2 g3
    generalize minutesC x3 k1 = m2 at g1 g2 g3
    have fin : ∀ (u v : Int), M[i.toNat]? = some ⟨u, v⟩ → A.lApp L [.agg [.int .i64 u, .int .i64 v]] = encBounds (M.take (i + 1).toNat) ∧ A.room (A.nLen (A.lApp L [.agg [.int .i64 u, .int .i64 v]])) 16 := fun u v huv => by
      refine ⟨?_, ?_⟩
      · rw [take_snoc' hi0 huv, hL]
        subst hA
        show encBounds _ ++ _ = _
        simp [encBounds, encBound]
      · subst hA
        show (L ++ [_]).length * (16 + 1) ≤ 140737488355328
        rw [List.length_append, List.length_singleton]; omega
    have hmm : ((ls.length : Int) - A.iAdd i 1).toNat < ((ls.length : Int) - i).toNat := by rw [his]; omega
    obtain ⟨ms, hms⟩ : ∃ ms, ms = encSpans x4 := ⟨_, rfl⟩
    refine skip_block (hQ := fun _ => rfl) ?_
    refine region_inv2 rfl [.val (.agg [.int .i64 k1, .int .i64 k2, .int .i64 k3, .int .i64 k4, .int .i64 k5, .list 1 cs]), .val (.list 4 lg), .val (.int .i64 i), .val (.ptr [.int .i64 x1, .int .i64 x2, .int .i64 x3, .list 2 ms] 0), .val (.ptr [.int .i64 x1, .int .i64 x2, .int .i64 x3, .list 2 ms] 2), .val (.int .i64 x3), .val (.tup [.agg [.int .i64 m1, .int .i64 m2], .int .i64 0]), .val (.tup [.agg [.int .i64 m1, .int .i64 m2], .int .i64 0]),
        .val (.agg [.int .i64 m1, .int .i64 m2]), .val (.int .i64 0), .box 1 0, .undef, .val (.int .i64 0)]
      (fun L => some [.val (.int .i64 k1), .val (.int .i64 k2), .val (.int .i64 k3), .val (.int .i64 k4), .val (.int .i64 k5), .val (.list 1 cs)] :: (match L 10 with | true => [some [.val (.int .i64 (cond (L 11) m1 0)), .val (.int .i64 (cond (L 11) m2 0))]] | false => []))
      rfl (fun L L' h => by simp only [h 10 (by decide), h 11 (by decide)]) rfl ?_ ?_
    · intro L i' o hi' hL hC he K' hK
      rcases i' with _ | i'
      · cases hi'
        conv => cbv
        exact hK
      rcases i' with _ | i'
      · cases hi'
        conv => cbv
        exact hK
      rcases i' with _ | i'
      · cases hi'
        conv => cbv
        exact hK
      rcases i' with _ | i'
      · cases hi'
        have h1 : L 1 = true := he ⟨1, .data⟩ (by simp) rfl
        have h2 : L 2 = true := he ⟨2, .data⟩ (by simp) rfl
        conv => cbv
        simp only [h1, h2]
        conv => cbv
        refine idx_Leg hA hlg hi0 hi (fun z v hz hv => ?_)
        obtain rfl := Option.some.inj (hx.symm.trans hz)
        obtain rfl := hms.trans hv.symm
        conv => cbv
        refine cast (congrArg K' ?_) hK
        conv => lhs; cbv
        simp only [h1, h2] <;> rfl
      rcases i' with _ | i'
      · cases hi'
        have h3 : L 3 = true := he ⟨3, .data⟩ (by simp) rfl
        conv => cbv
        simp only [h3]
        conv => cbv
        refine cast (congrArg K' ?_) hK
        conv => lhs; cbv
        simp only [h3] <;> rfl
      rcases i' with _ | i'
      · cases hi'
        have h4 : L 4 = true := he ⟨4, .data⟩ (by simp) rfl
        conv => cbv
        simp only [h4]
        conv => cbv
        refine cast (congrArg K' ?_) hK
        conv => lhs; cbv
        simp only [h4] <;> rfl
      rcases i' with _ | i'
      · cases hi'
        have h0 : L 0 = true := he ⟨0, .data⟩ (by simp) rfl
        have h5 : L 5 = true := he ⟨5, .data⟩ (by simp) rfl
        conv => cbv
        simp only [h0, h5]
        conv => cbv
        refine call_intro hA g1 ?_
        conv => cbv
        refine cast (congrArg K' ?_) hK
        conv => lhs; cbv
        simp only [h0, h5] <;> rfl
      rcases i' with _ | i'
      · cases hi'
        have h6 : L 6 = true := he ⟨6, .data⟩ (by simp) rfl
        conv => cbv
        simp only [h6]
        conv => cbv
        refine cast (congrArg K' ?_) hK
        conv => lhs; cbv
        simp only [h6] <;> rfl
      rcases i' with _ | i'
      · cases hi'
        have h7 : L 7 = true := he ⟨7, .data⟩ (by simp) rfl
        conv => cbv
        simp only [h7]
        conv => cbv
        refine cast (congrArg K' ?_) hK
        conv => lhs; cbv
        simp only [h7] <;> rfl
      rcases i' with _ | i'
      · cases hi'
        have h7 : L 7 = true := he ⟨7, .data⟩ (by simp) rfl
        conv => cbv
        simp only [h7]
        conv => cbv
        refine cast (congrArg K' ?_) hK
        conv => lhs; cbv
        simp only [h7] <;> rfl
      rcases i' with _ | i'
      · cases hi'
        conv => cbv
        have h11 : L 11 = false := by
          cases h : L 11 with
          | false => rfl
          | true => exact absurd (hC 11 _ rfl h ⟨10, .data⟩ (by simp) rfl) (by rw [hL]; simp)
        simp only [hL, h11]
        conv => cbv
        refine cast (congrArg K' ?_) hK
        conv => lhs; cbv
        simp only [h11] <;> rfl
      rcases i' with _ | i'
      · cases hi'
        have h10 : L 10 = true := he ⟨10, .data⟩ (by simp) rfl
        have h8 : L 8 = true := he ⟨8, .data⟩ (by simp) rfl
        conv => cbv
        simp only [h10, h8]
        conv => cbv
        refine cast (congrArg K' ?_) hK
        conv => lhs; cbv
        simp only [h10, h8] <;> rfl
      rcases i' with _ | i'
      · cases hi'
        have h9 : L 9 = true := he ⟨9, .data⟩ (by simp) rfl
        conv => cbv
        simp only [h9]
        conv => cbv
        refine cast (congrArg K' ?_) hK
        conv => lhs; cbv
        simp only [h9] <;> rfl
      simp at hi'
    conv => cbv
    split
    · rename_i hc
      cases (neT hA hc rfl)
    conv => cbv
    refine ⟨hlsr, ?_⟩
    split
    · rename_i hc
      have hl1 : i = (ls.length : Int) - 1 := eqT' hA rfl hls1 hc
      rw [if_pos (by omega)] at g3
      have a1 : A.iAdd m1 hold = m1 + hold := addI hA _ _
      have a2 : A.iAdd m2 hold = m2 + hold := addI hA _ _
      rw [← a1, ← a2] at g3
      obtain ⟨hnext, hroom⟩ := fin _ _ g3
      conv => cbv
      refine ⟨inR' hA a1 (by unfold inI64; omega), inR' hA a2 (by unfold inI64; omega), ⟨htk, hroom⟩, hir, hR (A.iAdd i 1, A.lApp L [.agg [.int .i64 (A.iAdd m1 hold), .int .i64 (A.iAdd m2 hold)]]) _ ?_ ?_ hmm⟩
      · conv => cbv
        exact wk_round (bx := [_]) (bx' := [_]) (mp := []) (mp' := []) (by repeat (first | refine leL_same ?_ | refine leL_any ?_ | refine leL_own ?_ | exact leL_nil)) (by simp) (by simp) rfl rfl
      · show 0 ≤ A.iAdd i 1 ∧ A.iAdd i 1 ≤ ls.length ∧ _ = encBounds (M.take (A.iAdd i 1).toNat)
        rw [his]; exact ⟨by omega, by omega, hnext⟩
    · rename_i hc
      have hl1 : i ≠ (ls.length : Int) - 1 := eqF' hA rfl hls1 hc
      rw [if_neg (by omega), Int.add_zero, Int.add_zero] at g3
      obtain ⟨hnext, hroom⟩ := fin _ _ g3
      conv => cbv
      refine ⟨⟨htk, hroom⟩, hir, hR (A.iAdd i 1, A.lApp L [.agg [.int .i64 m1, .int .i64 m2]]) _ ?_ ?_ hmm⟩
      · conv => cbv
        exact wk_round (bx := [_]) (bx' := [_]) (mp := []) (mp' := []) (by repeat (first | refine leL_same ?_ | refine leL_any ?_ | refine leL_own ?_ | exact leL_nil)) (by simp) (by simp) rfl rfl
      · show 0 ≤ A.iAdd i 1 ∧ A.iAdd i 1 ≤ ls.length ∧ _ = encBounds (M.take (A.iAdd i 1).toNat)
        rw [his]; exact ⟨by omega, by omega, hnext⟩
  · rename_i hc
    have hi : ls.length ≤ i := ltF' hA rfl (lenI hA hll) hc
    rw [List.take_of_length_le (by omega)] at hL
    conv => cbv
    rw [← hq, hL]
end Go.Abs
