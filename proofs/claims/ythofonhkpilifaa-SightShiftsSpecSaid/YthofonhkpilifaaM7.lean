/-
  Law SightShiftsSpec.
-/
import Derived.Test.YthofonhkpilifaaR12
import Derived.Test.YthofonhkpilifaaL1
import Derived.Test.YthofonhkpilifaaG2
namespace Go.Abs
open Go.RowKit Go.Proofs

def LexLt (p q : List Int) : Prop := ∃ (c : List Int) (x y : Int) (r s : List Int), p = c ++ x :: r ∧ q = c ++ y :: s ∧ x < y

theorem LexLt.cons {p q : List Int} (n : Int) (h : LexLt p q) : LexLt (n :: p) (n :: q) := by
  obtain ⟨c, x, y, r, s, rfl, rfl, h⟩ := h
  exact ⟨n :: c, x, y, r, s, rfl, rfl, h⟩
theorem LexLt.head {m n : Int} (p q : List Int) (h : m < n) : LexLt (m :: p) (n :: q) := ⟨[], m, n, p, q, rfl, rfl, h⟩

theorem rangeI_pw (m : Int) : (rangeI m).Pairwise (· < ·) := by
  unfold rangeI
  rw [List.pairwise_map]
  exact List.Pairwise.imp (fun h => by omega) List.pairwise_lt_range

theorem shiftsL_pw : ∀ l : List Station, (shiftsL l).Pairwise LexLt
  | [] => by simp [shiftsL]
  | x :: r => by
    unfold shiftsL
    rw [List.pairwise_flatMap]
    refine ⟨fun n _ => ?_, ?_⟩
    · rw [List.pairwise_map]
      exact (shiftsL_pw r).imp (fun h => h.cons n)
    · refine (rangeI_pw x.Shift).imp (fun h p hp q hq => ?_)
      rw [List.mem_map] at hp hq
      obtain ⟨p', _, rfl⟩ := hp
      obtain ⟨q', _, rfl⟩ := hq
      exact .head _ _ h

theorem shiftsL_mul (a : List Station) (x : Station) (h : 0 ≤ x.Shift) : ((shiftsL (a ++ [x])).length : Int) = (shiftsL a).length * (2 * x.Shift + 1) := by
  rw [shiftsL_snoc]
  generalize shiftsL a = S
  induction S with
  | nil => simp
  | cons p r ih =>
    rw [List.flatMap_cons, List.length_append, List.length_cons]
    have : (snocs x.Shift (x.Shift + 1) p).length = (2 * x.Shift + 1).toNat := by
      unfold snocs; rw [rangeTo_all]; simp [rangeI]
    rw [this]
    push_cast
    rw [ih]
    have : ((2 * x.Shift + 1).toNat : Int) = 2 * x.Shift + 1 := by omega
    rw [this]
    have : ((r.length : Int) + 1) * (2 * x.Shift + 1) = r.length * (2 * x.Shift + 1) + (2 * x.Shift + 1) := by rw [Int.add_mul, Int.one_mul]
    omega

set_option maxRecDepth 100000 in
set_option maxHeartbeats 4000000 in
theorem law_SightShiftsSpec (s : List Station) (_ : ∀ x ∈ s, okStation x) : CallsPV Try.prog 5 [.list 3 (encStations s)] (.bool true) := by
  refine callsPV_by (clo := fun _ => false) (rows := false) env_ok Try.func5 rfl (enters_of Try.func5 (by kernel_rfl) rfl) (fun A q P Y hr hA hq => ?_)
  obtain ⟨xs, hxs⟩ : ∃ xs, xs = encStations s := ⟨_, rfl⟩
  have hll : xs.length = s.length := by rw [hxs]; simp [encStations]
  have w1 := sight_Shifts s hxs
  have w2 := ref23_Shifts s hxs
  rw [← hxs]
  conv => cbv
  refine callB hA law_sane rfl (fun b0 hb0 => ?_)
  subst hb0
  conv => cbv
  split
  · rename_i hc
    cases (nT hA hc)
  conv => cbv
  split
  · conv => cbv
    exact hq
  conv => cbv
  by_cases hok : shiftsOk s = true
  rotate_left
  · rw [if_neg hok] at w1 w2
    have hsame := ref_SameLists [] [] (xs := []) (ys := []) rfl rfl 0 0 (.inr rfl) (.inr rfl)
    refine call_intro hA (w1) ?_
    conv => cbv
    refine call_intro hA (w2) ?_
    conv => cbv
    refine callB hA hsame rfl (fun b hb => ?_)
    obtain rfl : b = true := by rw [hb]; simp
    conv => cbv
    split
    · rename_i hc
      cases (nT hA hc)
    conv => cbv
    split
    · rename_i hc
      cases (neT hA hc rfl)
    conv => cbv
    split
    rotate_left
    · rename_i hc
      cases ((show False by have := neF hA hc; omega))
    conv => cbv
    rw [← hq]
    show PV.bool (A.iEq (A.lLen []) 0) = _
    rw [lenI hA (show ([] : List PV).length = 0 from rfl), iEqI hA]; rfl
  rw [if_pos hok] at w1 w2
  obtain ⟨h4, hsh⟩ := (shiftsOk_iff s).1 hok
  have hmul := fun a x => shiftsL_mul a x
  have hpw := shiftsL_pw s
  obtain ⟨Q, hQ⟩ : ∃ Q, Q = shiftsL s := ⟨_, rfl⟩
  have hQl : ∀ i : Nat, ((shiftsL (s.take i)).length : Int) ≤ 2401 := fun i => by
    have := (shiftsL_len (s.take i) (fun x hx => hsh x (List.mem_of_mem_take hx))).1
    have h7 : 7 ^ (s.take i).length ≤ 7 ^ 4 := Nat.pow_le_pow_right (by omega) (by rw [List.length_take]; omega)
    omega
  rw [← hQ] at w1 w2 hpw
  obtain ⟨L, hL⟩ : ∃ L, L = encIntLs Q := ⟨_, rfl⟩
  have hLl : L.length = Q.length := by rw [hL]; simp [encIntLs]
  have hsame := ref_SameLists Q Q hL hL 1 1 (.inl rfl) (.inl rfl)
  rw [← hL] at w1 w2
  refine call_intro hA (w1) ?_
  conv => cbv
  refine call_intro hA (w2) ?_
  conv => cbv
  refine callB hA hsame rfl (fun b hb => ?_)
  obtain rfl : b = true := by rw [hb]; simp
  conv => cbv
  split
  · rename_i hc
    cases (nT hA hc)
  conv => cbv
  split
  · rename_i hc
    cases (neT hA hc rfl)
  conv => cbv
  split
  · rename_i hc
    cases (neT hA hc rfl)
  conv => cbv
  refine loop_set hA (fun (z : Int × Int) s => (s.put (some 8) (.val (.int .i64 z.1))).put (some 7) (.val (.int .i64 z.2)))
    (fun z => 0 ≤ z.1 ∧ z.1 ≤ s.length ∧ z.2 = ((shiftsL (s.take z.1.toNat)).length : Int)) (fun z => (s.length - z.1).toNat) (0, 1) ?_ ?_ ?_
  · conv => cbv
    exact wk_sl (by repeat (first | refine leL_same ?_ | refine leL_any ?_ | exact leL_nil))
  · exact ⟨Int.le_refl _, by omega, rfl⟩
  rintro R ⟨i, n⟩ ⟨hi0, hi1, hn⟩ hR
  simp only at hi0 hi1 hn
  conv => cbv
  split
  · rename_i hc
    have hi : i < s.length := ltT' hA rfl (lenI hA hll) hc
    have his : A.iAdd i 1 = i + 1 := addI hA _ _
    have hir : A.inR (A.iAdd i 1) := inR' hA his (by unfold inI64; omega)
    conv => cbv
    refine idx_Station hA hxs hi0 hi (fun x v hx0 hv => ?_)
    have ht := take_snoc' hi0 hx0
    have hxs' := hsh x (List.mem_of_getElem? hx0)
    have hm := hmul (s.take i.toNat) x hxs'.1
    rw [← ht, ← hn] at hm
    have hn1 := hQl i.toNat
    have hn2 := hQl (i + 1).toNat
    rw [← hn] at hn1
    rw [hm] at hn2
    have hn0 : 0 ≤ n := by omega
    obtain ⟨x1, x2, x3⟩ := x
    simp only at hv hxs' hm hn2
    have e1 : A.iMul 2 x2 = 2 * x2 := mulI hA _ _
    have e2 : A.iAdd (A.iMul 2 x2) 1 = 2 * x2 + 1 := by rw [addI hA, e1]
    have e3 : A.iMul n (A.iAdd (A.iMul 2 x2) 1) = n * (2 * x2 + 1) := by rw [mulI hA, e2]
    have hp0 : 0 ≤ n * (2 * x2 + 1) := Int.mul_nonneg hn0 (by omega)
    conv => cbv
    refine ⟨inR' hA e1 (by unfold inI64; omega), inR' hA e2 (by unfold inI64; omega), inR' hA e3 (by unfold inI64; omega), hir, hR (A.iAdd i 1, A.iMul n (A.iAdd (A.iMul 2 x2) 1)) _ ?_ ?_ ?_⟩
    · conv => cbv
      exact wk_sl (by repeat (first | refine leL_same ?_ | refine leL_any ?_ | exact leL_nil))
    · show 0 ≤ A.iAdd i 1 ∧ A.iAdd i 1 ≤ s.length ∧ A.iMul n (A.iAdd (A.iMul 2 x2) 1) = _
      rw [his, e3, hm]; exact ⟨by omega, by omega, rfl⟩
    · show ((s.length : Int) - A.iAdd i 1).toNat < ((s.length : Int) - i).toNat
      rw [his]; omega
  rename_i hc
  have hi : s.length ≤ i := ltF' hA rfl (lenI hA hll) hc
  rw [List.take_of_length_le (by omega), ← hQ] at hn
  conv => cbv
  have hlen9 : ∀ a ∈ Q, a.length ≤ 4 := fun a ha => by rw [hQ] at ha; rw [shiftsL_all s a ha]; omega
  have hQ0 : 0 < Q.length := by rw [hQ]; exact (shiftsL_len s hsh).2
  have hQ24 : (Q.length : Int) ≤ 2401 := by have := hQl s.length; rw [List.take_length, ← hQ] at this; exact this
  refine loop_set hA (fun (i : Int) s => s.put (some 9) (.val (.int .i64 i))) (fun i => 1 ≤ i ∧ i ≤ Q.length) (fun i => (Q.length - i).toNat) 1 ?_ ?_ ?_
  · conv => cbv
    exact wk_sl (by repeat (first | refine leL_same ?_ | refine leL_any ?_ | exact leL_nil))
  · exact ⟨Int.le_refl _, by omega⟩
  rintro R2 j ⟨hj1, hj2⟩ hR2
  conv => cbv
  split
  · rename_i hc
    have hj : j < Q.length := ltT' hA rfl (lenI hA hLl) hc
    have hjs : A.iAdd j 1 = j + 1 := addI hA _ _
    have hjr : A.inR (A.iAdd j 1) := inR' hA hjs (by unfold inI64; omega)
    have hjm : A.iSub j 1 = j - 1 := subI hA _ _
    have hjmr : A.inR (A.iSub j 1) := inR' hA hjm (by unfold inI64; omega)
    obtain ⟨b, hb0⟩ : ∃ b, Q[j.toNat]? = some b := ⟨_, List.getElem?_eq_getElem (by omega)⟩
    obtain ⟨a, ha0⟩ : ∃ a, Q[(j - 1).toNat]? = some a := ⟨_, List.getElem?_eq_getElem (by omega)⟩
    have hlex : LexLt a b := by
      have h1 := List.getElem?_eq_some_iff.1 ha0
      have h2 := List.getElem?_eq_some_iff.1 hb0
      have := List.pairwise_iff_getElem.1 hpw (j - 1).toNat j.toNat h1.1 h2.1 (by omega)
      rw [h1.2, h2.2] at this
      exact this
    have halen : a.length ≤ 9223372036854775806 := by
      have := hlen9 a (List.mem_of_getElem? ha0)
      omega
    obtain ⟨c, x, y, r, t, hae, hbe, hxy⟩ := hlex
    have hal : c.length < a.length := by rw [hae]; simp
    have hbl : c.length < b.length := by rw [hbe]; simp
    have hlo : ∀ (k : Nat) (u w : Int), k < c.length → b[k]? = some u → a[k]? = some w → u = w := fun k u w hk h1 h2 => by
      rw [hbe, List.getElem?_append_left hk] at h1
      rw [hae, List.getElem?_append_left hk, h1] at h2
      exact Option.some.inj h2
    have hat : ∀ (u w : Int), b[c.length]? = some u → a[c.length]? = some w → w < u := fun u w h1 h2 => by
      rw [hbe, List.getElem?_append_right (Nat.le_refl _)] at h1
      rw [hae, List.getElem?_append_right (Nat.le_refl _)] at h2
      simp at h1 h2
      omega
    clear hae hbe
    conv => cbv
    refine loop_set hA (fun (k : Int) s => s.put (some 10) (.val (.int .i64 k))) (fun k => 0 ≤ k ∧ k ≤ c.length) (fun k => (c.length - k).toNat) 0 ?_ ?_ ?_
    · conv => cbv
      exact wk_sl (by repeat (first | refine leL_same ?_ | refine leL_any ?_ | exact leL_nil))
    · exact ⟨Int.le_refl _, by omega⟩
    rintro R3 k ⟨hk0, hk1⟩ hR3
    have hks : A.iAdd k 1 = k + 1 := addI hA _ _
    conv => cbv
    refine ⟨draw_intro hA (by kernel_rfl), ?_⟩
    refine idx_IntL hA hL (by omega) hj (fun z v hz hv => ?_)
    obtain rfl := Option.some.inj (hb0.symm.trans hz)
    have hvl : v.length = b.length := by rw [hv]; simp [encInts]
    conv => cbv
    split
    rotate_left
    · rename_i hc
      cases ((show False by have := ltF' hA rfl (lenI hA hvl) hc; omega))
    conv => cbv
    refine ⟨hjmr, ?_⟩
    refine idx_IntL hA hL (n := A.iSub j 1) (by rw [hjm]; omega) (by rw [hjm]; omega) (fun z v' hz hv' => ?_)
    rw [hjm] at hz
    obtain rfl := Option.some.inj (ha0.symm.trans hz)
    have hvl' : v'.length = a.length := by rw [hv']; simp [encInts]
    conv => cbv
    split
    rotate_left
    · rename_i hc
      cases ((show False by have := ltF' hA rfl (lenI hA hvl') hc; omega))
    conv => cbv
    refine idx_IntL hA hL (by omega) hj (fun z e1 hz he1 => ?_)
    obtain rfl := Option.some.inj ((hb0).symm.trans hz)
    conv => cbv
    refine idx_Int hA he1 hk0 (by omega) (fun u hu => ?_)
    conv => cbv
    refine ⟨hjmr, ?_⟩
    refine idx_IntL hA hL (n := A.iSub j 1) (by rw [hjm]; omega) (by rw [hjm]; omega) (fun z e2 hz he2 => ?_)
    rw [hjm] at hz
    obtain rfl := Option.some.inj (ha0.symm.trans hz)
    conv => cbv
    refine idx_Int hA he2 hk0 (by omega) (fun w hw => ?_)
    conv => cbv
    split
    · rename_i hc
      have huw := eqT hA hc
      have hkc : k < c.length := by
        rcases (show k < c.length ∨ (c.length : Int) ≤ k by omega) with h | h
        · exact h
        · have e : k.toNat = c.length := by omega
          rw [e] at hu hw
          have := hat u w hu hw
          omega
      conv => cbv
      refine ⟨inR' hA hks (by unfold inI64; omega), hR3 (A.iAdd k 1) _ ?_ ?_ ?_⟩
      · conv => cbv
        exact wk_sl (by repeat (first | refine leL_same ?_ | refine leL_any ?_ | exact leL_nil))
      · show 0 ≤ A.iAdd k 1 ∧ A.iAdd k 1 ≤ c.length
        rw [hks]; omega
      · show ((c.length : Int) - A.iAdd k 1).toNat < ((c.length : Int) - k).toNat
        rw [hks]; omega
    · rename_i hc
      have huw := eqF hA hc
      have hkc : k.toNat = c.length := by
        rcases (show k < c.length ∨ (c.length : Int) ≤ k by omega) with h | h
        · exact absurd (hlo k.toNat u w (by omega) hu hw) huw
        · omega
      have hlt : ∀ (u w : Int), b[k.toNat]? = some u → a[k.toNat]? = some w → w < u := by rw [hkc]; exact hat
      conv => cbv
      refine ⟨draw_intro hA (by kernel_rfl), ?_⟩
      refine idx_IntL hA hL (by omega) hj (fun z f1 hz hf1 => ?_)
      obtain rfl := Option.some.inj ((hb0).symm.trans hz)
      conv => cbv
      have hfl : f1.length = b.length := by rw [hf1]; simp [encInts]
      split
      · rename_i hc
        cases ((show False by have := leT' hA (lenI hA hfl) rfl hc; omega))
      conv => cbv
      refine ⟨hjmr, ?_⟩
      refine idx_IntL hA hL (n := A.iSub j 1) (by rw [hjm]; omega) (by rw [hjm]; omega) (fun z f2 hz hf2 => ?_)
      rw [hjm] at hz
      obtain rfl := Option.some.inj (ha0.symm.trans hz)
      have hfl' : f2.length = a.length := by rw [hf2]; simp [encInts]
      conv => cbv
      split
      · rename_i hc
        cases ((show False by have := leT' hA (lenI hA hfl') rfl hc; omega))
      conv => cbv
      refine ⟨hjmr, ?_⟩
      refine idx_IntL hA hL (n := A.iSub j 1) (by rw [hjm]; omega) (by rw [hjm]; omega) (fun z f3 hz hf3 => ?_)
      rw [hjm] at hz
      obtain rfl := Option.some.inj (ha0.symm.trans hz)
      conv => cbv
      refine idx_Int hA hf3 hk0 (by omega) (fun w' hw' => ?_)
      conv => cbv
      refine idx_IntL hA hL (by omega) hj (fun z f4 hz hf4 => ?_)
      obtain rfl := Option.some.inj ((hb0).symm.trans hz)
      conv => cbv
      refine idx_Int hA hf4 hk0 (by omega) (fun u' hu' => ?_)
      conv => cbv
      split
      · rename_i hc
        cases ((show False by have := leT hA hc; have := hlt u' w' hu' hw'; omega))
      conv => cbv
      refine ⟨hjr, hR2 (A.iAdd j 1) _ ?_ ?_ ?_⟩
      · conv => cbv
        exact wk_sl (by repeat (first | refine leL_same ?_ | refine leL_any ?_ | exact leL_nil))
      · show 1 ≤ A.iAdd j 1 ∧ A.iAdd j 1 ≤ Q.length
        rw [hjs]; omega
      · show ((Q.length : Int) - A.iAdd j 1).toNat < ((Q.length : Int) - j).toNat
        rw [hjs]; omega
  · rename_i hc
    conv => cbv
    rw [← hq]
    show PV.bool (A.iEq (A.lLen L) n) = _
    rw [lenI hA hLl, iEqI hA, hn]; simp
end Go.Abs
