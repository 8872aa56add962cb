/-
  Functions: searches for options; ref15's Few and SameOptions.
-/
import Derived.Test.YtbljnbpddboohaaGreatF15
import Derived.Test.YtbljnbpddboohaaGreatF1
set_option linter.unusedVariables false
set_option linter.unusedSimpArgs false
namespace Go.Abs
open Go.RowKit Go.Proofs

theorem index_Opt (v : Opt) (l : List Opt) {xs : List PV} (hx : xs = encOpts l) : CallsPV Tryz.prog 69 [.list 4 xs, encOpt v] (.int .i64 (findI (fun x => decide (v = x)) l)) := by
  refine callsPV_by (clo := fun _ => false) (rows := false) env_ok Tryz.func69 rfl (enters_of Tryz.func69 (by kernel_rfl) rfl) (fun A q P Y hr hA hq => ?_)
  have hlen := (hr.mem (p := .list 4 xs) (by simp)).len
  have hll : xs.length = l.length := by rw [hx]; simp [encOpts]
  obtain ⟨v1, v2, v3, v4⟩ := v
  conv => cbv
  refine loop_set hA (fun (i : Int) s => s.put (some 8) (.val (.int .i64 i))) (fun i => 0 ≤ i ∧ i ≤ (l.length : Int) ∧ (fun i => ∀ x ∈ l.take i.toNat, decide ((⟨v1, v2, v3, v4⟩ : Opt) = x) = false) i) (fun i => ((l.length : Int) - i).toNat) 0 ?_ ?_ ?_
  · conv => cbv
    exact wk_sl (by repeat (first | refine leL_same ?_ | refine leL_any ?_ | exact leL_nil))
  · exact ⟨Int.le_refl _, by omega, by simp⟩
  rintro R i ⟨hi0, hi1, hi2⟩ hRi
  conv => cbv
  split
  ·   rename_i hc
      have hi : i < (l.length : Int) := ltT' hA rfl (lenI hA hll) hc
      have his : A.iAdd i 1 = i + 1 := addI hA _ _
      have hir : A.inR (A.iAdd i 1) := inR' hA his (by unfold inI64; omega)
      have him : ((l.length : Int) - A.iAdd i 1).toNat < ((l.length : Int) - i).toNat := by rw [his]; omega
      have hin : (fun i => ∀ x ∈ l.take i.toNat, decide ((⟨v1, v2, v3, v4⟩ : Opt) = x) = false) (i + 1) → 0 ≤ A.iAdd i 1 ∧ A.iAdd i 1 ≤ (l.length : Int) ∧ (fun i => ∀ x ∈ l.take i.toNat, decide ((⟨v1, v2, v3, v4⟩ : Opt) = x) = false) (A.iAdd i 1) := fun h => by rw [his]; exact ⟨by omega, by omega, h⟩
      simp only at hin
      conv => cbv
      refine ⟨draw_intro hA (by kernel_rfl), ?_⟩
      refine idx_Opt hA hx hi0 hi (fun x hx0 => ?_)
      have ht := take_snoc' hi0 hx0
      obtain ⟨x1, x2, x3, x4⟩ := x
      conv => cbv
      split
      · rename_i h
        have h' : decide ((⟨v1, v2, v3, v4⟩ : Opt) = ⟨x1, x2, x3, x4⟩) = true := by subst hA; simpa [stdOps] using h
        conv => cbv
        rw [← hq, findI_hit hi0 hx0 h' hi2]
      · rename_i h
        have h' : decide ((⟨v1, v2, v3, v4⟩ : Opt) = ⟨x1, x2, x3, x4⟩) = false := by subst hA; simpa [stdOps] using h
        conv => cbv
        exact ⟨hir, hRi (A.iAdd i 1) _ (by (conv => cbv); exact wk_sl (by repeat (first | refine leL_same ?_ | refine leL_any ?_ | exact leL_nil))) (hin (mem_snoc ht hi2 h')) him⟩
  rename_i hc
  have hi : i = (l.length : Int) := by have := ltF' hA rfl (lenI hA hll) hc; omega
  conv => cbv
  rw [← hq, findI_miss (take_all hi hi2)]

theorem contains_Opt (v : Opt) (l : List Opt) {xs : List PV} (hx : xs = encOpts l) : CallsPV Tryz.prog 32 [.list 4 xs, encOpt v] (.bool (decide (v ∈ l))) := by
  refine callsPV_by (clo := fun _ => false) (rows := false) env_ok Tryz.func32 rfl (enters_of Tryz.func32 (by kernel_rfl) rfl) (fun A q P Y hr hA hq => ?_)
  have hi := index_Opt v l hx
  have ha : l.any (fun x => decide (v = x)) = decide (v ∈ l) := by
    rw [Bool.eq_iff_iff]; simp
  rw [← ha, ← findI_any] at hq
  generalize findI (fun x => decide (v = x)) l = r at hi hq
  obtain ⟨v1, v2, v3, v4⟩ := v
  conv => cbv
  refine call_intro hA hi ?_
  conv => cbv
  rw [← hq]
  subst hA
  rfl

def fewF (f : Flight) : Bool := decide (f.Ways.length ≤ 8) && decide (f.Call.size ≤ 100)
theorem ref15_Few (f : Flight) : CallsPV Tryz.prog 7 [encFlight f] (.bool (fewF f)) := by
  refine callsPV_by (clo := fun _ => false) (rows := false) env_ok Tryz.func7 rfl (enters_of Tryz.func7 (by kernel_rfl) rfl) (fun A q P Y hr hA hq => ?_)
  have hF : fewF f = (decide (f.Ways.length ≤ 8) && decide (f.Call.size ≤ 100)) := rfl
  obtain ⟨f1, f2, f3, f4, f5, ⟨f6, f7⟩, f8⟩ := f
  obtain ⟨fl, hfl⟩ : ∃ fl, fl = encInts f5 := ⟨_, rfl⟩
  have hfl' : fl.length = f5.length := by rw [hfl]; simp [encInts]
  rw [encFlight_eq _ hfl]
  simp only at hF ⊢
  rw [hF] at hq
  have hs : A.sSize f4 = (f4.size : Int) := by subst hA; rfl
  conv => cbv
  split
  · rename_i h
    have h' := leT' hA (lenI hA hfl') rfl h
    conv => cbv
    rw [← hq, decide_eq_true (by omega)]
    have e : A.iLe (A.sSize f4) 100 = decide (f4.size ≤ 100) := by
      rw [hs]; subst hA; simp [stdOps]; omega
    show PV.bool (A.iLe (A.sSize f4) 100) = _
    rw [e]; rfl
  · rename_i h
    have h' := leF' hA (lenI hA hfl') rfl h
    conv => cbv
    rw [← hq, decide_eq_false (by omega)]; rfl

theorem ref15_Same (a b : List Opt) {xs ys : List PV} (hx : xs = encOpts a) (hy : ys = encOpts b) : CallsPV Tryz.prog 16 [.list 4 xs, .list 4 ys] (.bool (decide (a = b))) := by
  refine callsPV_by (clo := fun _ => false) (rows := false) env_ok Tryz.func16 rfl (enters_of Tryz.func16 (by kernel_rfl) rfl) (fun A q P Y hr hA hq => ?_)
  have hlen := (hr.mem (p := .list 4 xs) (by simp)).len
  have hxl : xs.length = a.length := by rw [hx]; simp [encOpts]
  have hyl : ys.length = b.length := by rw [hy]; simp [encOpts]
  have bad : a ≠ b → PV.bool false = q := fun h => by rw [← hq, decide_eq_false h]
  conv => cbv
  split
  · rename_i h
    have h' := neT' hA (lenI hA hxl) (lenI hA hyl) h
    conv => cbv
    exact bad (fun e => h' (by rw [e]))
  rename_i h
  have hab := neF' hA (lenI hA hxl) (lenI hA hyl) h
  clear h
  conv => cbv
  refine loop_set hA (fun (i : Int) s => s.put (some 5) (.val (.int .i64 i))) (fun i => 0 ≤ i ∧ i ≤ (a.length : Int) ∧ (fun i => ∀ k : Nat, k < i.toNat → a[k]? = b[k]?) i) (fun i => ((a.length : Int) - i).toNat) 0 ?_ ?_ ?_
  · conv => cbv
    exact wk_sl (by repeat (first | refine leL_same ?_ | refine leL_any ?_ | exact leL_nil))
  · exact ⟨Int.le_refl _, by omega, by simp⟩
  rintro R i ⟨hi0, hi1, hi2⟩ hRi
  conv => cbv
  split
  ·   rename_i hc
      have hi : i < (a.length : Int) := ltT' hA rfl (lenI hA hxl) hc
      have his : A.iAdd i 1 = i + 1 := addI hA _ _
      have hir : A.inR (A.iAdd i 1) := inR' hA his (by unfold inI64; omega)
      have him : ((a.length : Int) - A.iAdd i 1).toNat < ((a.length : Int) - i).toNat := by rw [his]; omega
      have hin : (fun i => ∀ k : Nat, k < i.toNat → a[k]? = b[k]?) (i + 1) → 0 ≤ A.iAdd i 1 ∧ A.iAdd i 1 ≤ (a.length : Int) ∧ (fun i => ∀ k : Nat, k < i.toNat → a[k]? = b[k]?) (A.iAdd i 1) := fun h => by rw [his]; exact ⟨by omega, by omega, h⟩
      simp only at hin
      conv => cbv
      refine ⟨draw_intro hA (by kernel_rfl), ?_⟩
      refine idx_Opt hA hx hi0 hi (fun x hx0 => ?_)
      obtain ⟨x1, x2, x3, x4⟩ := x
      conv => cbv
      refine idx_Opt hA hy hi0 (by omega) (fun y hy0 => ?_)
      obtain ⟨y1, y2, y3, y4⟩ := y
      conv => cbv
      split
      · rename_i h
        have h' : (⟨x1, x2, x3, x4⟩ : Opt) ≠ ⟨y1, y2, y3, y4⟩ := by subst hA; intro e; injection e with e1 e2 e3 e4; subst e1 e2 e3 e4; simp [stdOps] at h
        conv => cbv
        exact bad (fun e => h' (by rw [e, hy0] at hx0; exact (Option.some.inj hx0).symm))
      · rename_i h
        have h' : (⟨x1, x2, x3, x4⟩ : Opt) = ⟨y1, y2, y3, y4⟩ := by subst hA; simpa [stdOps] using h
        have nx : ∀ k : Nat, k < (i + 1).toNat → a[k]? = b[k]? := fun k hk => by
          rcases Nat.lt_or_eq_of_le (Nat.le_of_lt_succ (show k < i.toNat + 1 by omega)) with h1 | h1
          · exact hi2 k h1
          · rw [h1, hx0, hy0, h']
        conv => cbv
        exact ⟨hir, hRi (A.iAdd i 1) _ (by (conv => cbv); exact wk_sl (by repeat (first | refine leL_same ?_ | refine leL_any ?_ | exact leL_nil))) (hin nx) him⟩
  rename_i hc
  have hi : i = (a.length : Int) := by have := ltF' hA rfl (lenI hA hxl) hc; omega
  conv => cbv
  rw [← hq, decide_eq_true]
  apply List.ext_getElem?
  intro k
  rcases Nat.lt_or_ge k a.length with h | h
  · exact hi2 k (by omega)
  · rw [List.getElem?_eq_none h, List.getElem?_eq_none (by omega)]
end Go.Abs
