/-
  References: hours, speed, tables' checks.
  References: sectors and configurations.
  References: has, indices, divides, the check of configurations.
-/
import Derived.Test.YtcafjndjnfdnpaaGreatF4
import Derived.Test.YtcafjndjnfdnpaaGreatS1
set_option linter.unusedVariables false
set_option linter.unusedSimpArgs false
namespace Go.Abs
open Go.RowKit Go.Proofs

theorem ref05_Check {xs : List PV} (l : List Span) (hx : xs = encSpans l) : CallsPV Tryz.prog 261 [.list 2 xs] (.int .i64 (if hoursOk l then 0 else 50)) := by
  refine callsPV_by (clo := fun _ => false) (rows := false) env_ok Tryz.func261 rfl (enters_of Tryz.func261 (by kernel_rfl) rfl) (fun A q P Y hr hA hq => ?_)
  have hll : xs.length = l.length := by rw [hx]; simp [encSpans]
  have hlen : l.length ≤ 9223372036854775807 := by have := (hr.mem (p := .list 2 xs) (by simp)).len; omega
  have hbad : ∀ x ∈ l, spanBad x = true → PV.int .i64 50 = q := fun x hx h => by
    rw [← hq, show hoursOk l = false by unfold hoursOk; rw [List.any_eq_true.2 ⟨x, hx, h⟩]; rfl]; rfl
  conv => cbv
  refine loop_set hA (fun (i : Int) s => s.put (some 3) (.val (.int .i64 i))) (fun i => 0 ≤ i ∧ i ≤ (l.length : Int) ∧ (fun i => ∀ x ∈ l.take i.toNat, spanBad x = false) i) (fun i => ((l.length : Int) - i).toNat) 0 ?_ ?_ ?_
  · conv => cbv
    exact wk_sl (by repeat (first | refine leL_same ?_ | refine leL_any ?_ | exact leL_nil))
  · exact ⟨Int.le_refl _, by omega, by simp⟩
  · rintro R i ⟨hi0, hi1, hi2⟩ hRi
    conv => cbv
    split
    · rename_i hc
      have hi : i < (l.length : Int) := ltT' hA rfl (lenI hA hll) hc
      have his : A.iAdd i 1 = i + 1 := addI hA _ _
      have hir : A.inR (A.iAdd i 1) := inR' hA his (by unfold inI64; omega)
      have him : ((l.length : Int) - A.iAdd i 1).toNat < ((l.length : Int) - i).toNat := by rw [his]; omega
      have hin : (fun i => ∀ x ∈ l.take i.toNat, spanBad x = false) (i + 1) → 0 ≤ A.iAdd i 1 ∧ A.iAdd i 1 ≤ (l.length : Int) ∧ (fun i => ∀ x ∈ l.take i.toNat, spanBad x = false) (A.iAdd i 1) := fun h => by rw [his]; exact ⟨by omega, by omega, h⟩
      simp only at hin
      conv => cbv
      refine ⟨draw_intro hA (by kernel_rfl), ?_⟩
      refine idx_Span hA hx hi0 hi (fun x hx0 => ?_)
      have hm := List.mem_of_getElem? hx0
      have ht := take_snoc' hi0 hx0
      obtain ⟨x1, x2⟩ := x
      conv => cbv
      split
      · rename_i hc
        conv => cbv
        exact hbad _ hm (by have := ltT hA hc; unfold spanBad; simp; omega)
      rename_i c1
      conv => cbv
      refine idx_Span hA hx hi0 hi (fun z hz => ?_)
      obtain rfl := Option.some.inj ((hx0).symm.trans hz)
      conv => cbv
      refine idx_Span hA hx hi0 hi (fun z hz => ?_)
      obtain rfl := Option.some.inj ((hx0).symm.trans hz)
      conv => cbv
      split
      · rename_i hc
        conv => cbv
        exact hbad _ hm (by have := leT hA hc; unfold spanBad; simp; omega)
      rename_i c2
      conv => cbv
      refine idx_Span hA hx hi0 hi (fun z hz => ?_)
      obtain rfl := Option.some.inj ((hx0).symm.trans hz)
      conv => cbv
      split
      · rename_i hc
        conv => cbv
        exact hbad _ hm (by have := ltT hA hc; unfold spanBad; simp; omega)
      rename_i c3
      conv => cbv
      exact ⟨hir, hRi (A.iAdd i 1) _ (by (conv => cbv); exact wk_sl (by repeat (first | refine leL_same ?_ | refine leL_any ?_ | exact leL_nil))) (hin (mem_snoc ht hi2 (by have := ltF hA c1; have := leF hA c2; have := ltF hA c3; unfold spanBad; simp; omega))) him⟩
    · rename_i hc
      have hi : i = (l.length : Int) := by have := ltF' hA rfl (lenI hA hll) hc; omega
      conv => cbv
      rw [← hq, show hoursOk l = true by unfold hoursOk; rw [any_f (take_all hi hi2)]; rfl]; rfl

theorem kindOk_iff (k : Kind) : kindOk k = true ↔ (1 ≤ k.Slow ∧ k.Slow ≤ 64 ∧ k.Slow ≤ k.Fast ∧ k.Fast ≤ 64 ∧ 1 ≤ k.Places ∧ k.Places ≤ 8 ∧ 1 ≤ k.Weight ∧ k.Weight ≤ 8 ∧ 0 ≤ k.Longest ∧ k.Longest ≤ 60 ∧ (k.Curfews.length : Int) ≤ 16) ∧ k.Longest.tmod 10 = 0 ∧ ∀ l ∈ k.Curfews, hoursOk l = true := by
  unfold kindOk
  simp only [withinL, Bool.and_eq_true, Bool.not_eq_true', Bool.or_eq_false_iff, decide_eq_false_iff_not, decide_eq_true_eq, List.any_eq_false, Bool.not_eq_false, and_true, and_assoc]
  constructor
  · rintro ⟨h1, h2, h3, h4, h5, h6, h7, h8, h9, h10, h11, h12, h13, h14⟩
    refine ⟨by omega, by omega, by omega, by omega, by omega, by omega, by omega, by omega, by omega, by omega, by omega, h13, fun l hl => ?_⟩
    have := h14 l hl; simpa using this
  · rintro ⟨h1, h2, h3, h4, h5, h6, h7, h8, h9, h10, h11, h12, h13⟩
    refine ⟨by omega, by omega, by omega, by omega, by omega, by omega, by omega, by omega, by omega, by omega, by omega, by omega, h12, fun l hl => ?_⟩
    simp [h13 l hl]

theorem ref12_Check (k : Kind) : CallsPV Tryz.prog 205 [encKind k] (.int .i64 (if kindOk k then 0 else 120)) := by
  refine callsPV_by (clo := fun _ => false) (rows := false) env_ok Tryz.func205 rfl (enters_of Tryz.func205 (by kernel_rfl) rfl) (fun A q P Y hr hA hq => ?_)
  have hbad : ¬ kindOk k = true → PV.int .i64 120 = q := fun h => by rw [← hq, if_neg h]
  have hK := (kindOk_iff k).1
  have hK2 := (kindOk_iff k).2
  generalize kindOk k = kb at hbad hK hK2 hq
  obtain ⟨cu, hcu⟩ : ∃ cu, cu = encSpanLs k.Curfews := ⟨_, rfl⟩
  have hcl : cu.length = k.Curfews.length := by rw [hcu]; simp [encSpanLs]
  have hlen : k.Curfews.length ≤ 9223372036854775807 := by
    have := (Real.cell (show Real [.agg _] from hr) (c := .list 1 (encSpanLs k.Curfews)) (by simp)).len
    rw [← hcu, hcl] at this; exact this
  rw [show encKind k = .agg [.int .i64 k.Slow, .int .i64 k.Fast, .int .i64 k.Places, .int .i64 k.Weight, .int .i64 k.Longest, .list 1 cu] by rw [hcu]; rfl]
  obtain ⟨k1, k2, k3, k4, k5, k6⟩ := k
  simp only at hK hK2 hcu hcl hlen ⊢
  conv => cbv
  split
  · rename_i hc
    conv => cbv
    exact hbad (fun h => by have := hK h; have := ltT hA hc; omega)
  rename_i c1; replace c1 := ltF hA c1
  conv => cbv
  split
  · rename_i hc
    conv => cbv
    exact hbad (fun h => by have := hK h; have := ltT hA hc; omega)
  rename_i c2; replace c2 := ltF hA c2
  conv => cbv
  split
  · rename_i hc
    conv => cbv
    exact hbad (fun h => by have := hK h; have := ltT hA hc; omega)
  rename_i c3; replace c3 := ltF hA c3
  conv => cbv
  split
  · rename_i hc
    conv => cbv
    exact hbad (fun h => by have := hK h; have := ltT hA hc; omega)
  rename_i c4; replace c4 := ltF hA c4
  conv => cbv
  split
  · rename_i hc
    conv => cbv
    exact hbad (fun h => by have := hK h; have := ltT hA hc; omega)
  rename_i c5; replace c5 := ltF hA c5
  conv => cbv
  split
  · rename_i hc
    conv => cbv
    exact hbad (fun h => by have := hK h; have := ltT hA hc; omega)
  rename_i c6; replace c6 := ltF hA c6
  conv => cbv
  split
  · rename_i hc
    conv => cbv
    exact hbad (fun h => by have := hK h; have := ltT hA hc; omega)
  rename_i c7; replace c7 := ltF hA c7
  conv => cbv
  split
  · rename_i hc
    conv => cbv
    exact hbad (fun h => by have := hK h; have := ltT hA hc; omega)
  rename_i c8; replace c8 := ltF hA c8
  conv => cbv
  split
  · rename_i hc
    conv => cbv
    exact hbad (fun h => by have := hK h; have := ltT hA hc; omega)
  rename_i c9; replace c9 := ltF hA c9
  conv => cbv
  split
  · rename_i hc
    conv => cbv
    exact hbad (fun h => by have := hK h; have := ltT hA hc; omega)
  rename_i c10; replace c10 := ltF hA c10
  conv => cbv
  refine ⟨by subst hA; show (10 : Int) ≠ 0; omega, ?_⟩
  split
  · rename_i hc
    conv => cbv
    exact hbad (fun h => by have := hK h; have := neT' hA (modI hA k5 10) rfl hc; exact this (hK h).2.1)
  rename_i c11; replace c11 := neF' hA (modI hA k5 10) rfl c11
  conv => cbv
  split
  · rename_i hc
    conv => cbv
    exact hbad (fun h => by have := hK h; have := ltT' hA rfl (lenI hA hcl) hc; omega)
  rename_i c12; replace c12 := ltF' hA rfl (lenI hA hcl) c12
  conv => cbv
  refine loop_set hA (fun (i : Int) s => s.put (some 3) (.val (.int .i64 i))) (fun i => 0 ≤ i ∧ i ≤ (k6.length : Int) ∧ (fun i => ∀ x ∈ k6.take i.toNat, hoursOk x = true) i) (fun i => ((k6.length : Int) - i).toNat) 0 ?_ ?_ ?_
  · conv => cbv
    exact wk_sl (by repeat (first | refine leL_same ?_ | refine leL_any ?_ | exact leL_nil))
  · exact ⟨Int.le_refl _, by omega, by simp⟩
  · rintro R i ⟨hi0, hi1, hi2⟩ hRi
    conv => cbv
    split
    · rename_i hc
      have hi : i < (k6.length : Int) := ltT' hA rfl (lenI hA hcl) hc
      have his : A.iAdd i 1 = i + 1 := addI hA _ _
      have hir : A.inR (A.iAdd i 1) := inR' hA his (by unfold inI64; omega)
      have him : ((k6.length : Int) - A.iAdd i 1).toNat < ((k6.length : Int) - i).toNat := by rw [his]; omega
      have hin : (fun i => ∀ x ∈ k6.take i.toNat, hoursOk x = true) (i + 1) → 0 ≤ A.iAdd i 1 ∧ A.iAdd i 1 ≤ (k6.length : Int) ∧ (fun i => ∀ x ∈ k6.take i.toNat, hoursOk x = true) (A.iAdd i 1) := fun h => by rw [his]; exact ⟨by omega, by omega, h⟩
      simp only at hin
      conv => cbv
      refine idx_SpanL hA hcu hi0 hi (fun x v hx0 hv => ?_)
      have hm := List.mem_of_getElem? hx0
      have ht := take_snoc' hi0 hx0
      have hcall := ref05_Check x hv
      conv => cbv
      cases hb : hoursOk x with
      | false =>
        rw [hb, if_neg (by simp)] at hcall
        refine call_intro hA (hcall) ?_
        conv => cbv
        split
        rotate_left
        · rename_i hc
          cases ((show False by have := neF hA hc; omega))
        conv => cbv
        exact hbad (fun h => by have := (hK h).2.2 x hm; rw [hb] at this; cases this)
      | true =>
        rw [hb, if_pos rfl] at hcall
        refine call_intro hA (hcall) ?_
        conv => cbv
        split
        · rename_i hc
          cases (neT hA hc rfl)
        conv => cbv
        exact ⟨hir, hRi (A.iAdd i 1) _ (by (conv => cbv); exact wk_sl (by repeat (first | refine leL_same ?_ | refine leL_any ?_ | exact leL_nil))) (hin (mem_snoc ht hi2 hb)) him⟩
    · rename_i hc
      have hi : i = (k6.length : Int) := by have := ltF' hA rfl (lenI hA hcl) hc; omega
      conv => cbv
      rw [← hq, if_pos (hK2 ⟨by omega, c11, take_all hi hi2⟩)]
end Go.Abs

namespace Go.Abs
open Go.RowKit Go.Proofs

def idxB (n : Int) (l : List Int) : Bool := l.all (fun x => decide (0 ≤ x) && decide (x < n)) && decide l.Nodup
def inSec (ss : List Sector) (v : Int) (s : Int) : Bool := match ss[s.toNat]? with | some x => decide (v ∈ x.Volumes) | none => false
def cntSec (ss : List Sector) (c : List Int) (v : Int) : Nat := (c.filter (inSec ss v)).length
def divB (n : Nat) (ss : List Sector) (c : Config) : Bool := idxB ss.length c.Sectors && (List.range n).all fun v => decide (cntSec ss c.Sectors (v : Int) = 1)

theorem and_pow_eq (x i : Nat) : x &&& 2 ^ i = 0 ↔ x.testBit i = false := by
  constructor
  · intro h
    have := congrArg (fun y => Nat.testBit y i) h
    simpa [Nat.testBit_and, Nat.testBit_two_pow_self] using this
  · intro h
    apply Nat.eq_of_testBit_eq
    intro j
    rw [Nat.testBit_and, Nat.testBit_two_pow, Nat.zero_testBit]
    by_cases e : i = j
    · subst e; simp [h]
    · simp [e]

theorem indexed_iff (n : Nat) : ∀ (l : List Int) (x : Nat), indexed n x l = true ↔ (∀ v ∈ l, 0 ≤ v ∧ v < n ∧ x.testBit v.toNat = false) ∧ l.Nodup
  | [], x => by simp [indexed]
  | v :: r, x => by
    simp only [indexed, Bool.and_eq_true, decide_eq_true_eq, and_pow_eq, indexed_iff n r, List.mem_cons, List.nodup_cons, Nat.testBit_or, Nat.testBit_two_pow, Bool.or_eq_false_iff, decide_eq_false_iff_not]
    constructor
    · rintro ⟨⟨⟨h1, h2⟩, h3⟩, h4, h5⟩
      refine ⟨?_, ?_, h5⟩
      · rintro w (rfl | hw)
        · exact ⟨h1, h2, h3⟩
        · exact ⟨(h4 w hw).1, (h4 w hw).2.1, (h4 w hw).2.2.1⟩
      · intro hv
        exact (h4 v hv).2.2.2 rfl
    · rintro ⟨h1, h2, h3⟩
      refine ⟨⟨⟨(h1 v (.inl rfl)).1, (h1 v (.inl rfl)).2.1⟩, (h1 v (.inl rfl)).2.2⟩, fun w hw => ⟨(h1 w (.inr hw)).1, (h1 w (.inr hw)).2.1, (h1 w (.inr hw)).2.2, fun e => ?_⟩, h3⟩
      have a := (h1 v (.inl rfl)).1
      have b := (h1 w (.inr hw)).1
      exact h2 (by rw [show v = w by omega]; exact hw)

theorem indexed_idxB (n : Nat) (l : List Int) : indexed n 0 l = idxB n l := by
  rw [Bool.eq_iff_iff, indexed_iff]
  simp only [idxB, Bool.and_eq_true, List.all_eq_true, decide_eq_true_eq, Nat.zero_testBit, and_true]

theorem bitsFrom_bit : ∀ (l : List Int) (x i : Nat), (bitsFrom x l).testBit i = (x.testBit i || l.any fun v => decide (v.toNat = i))
  | [], x, i => by simp [bitsFrom]
  | v :: r, x, i => by
    have := bitsFrom_bit r (x ||| 2 ^ v.toNat) i
    unfold bitsFrom at this ⊢
    rw [List.foldl_cons, this, Nat.testBit_or, Nat.testBit_two_pow, List.any_cons, Bool.or_assoc]

theorem sectorIx_eq (n : Nat) (s : Sector) : sectorIx n s = (!decide (s.Volumes.length = 0) && idxB n s.Volumes) := by
  unfold sectorIx
  rw [indexed_idxB]
  cases hv : s.Volumes with
  | nil => simp [bitsFrom]
  | cons v r =>
    have h : bitsFrom 0 (v :: r) ≠ 0 := by
      intro h
      have := bitsFrom_bit (v :: r) 0 v.toNat
      rw [h] at this
      simp at this
    simp [h]

def bitN (l : List Nat) (i : Nat) (s : Int) : Bool := (l.getD s.toNat 0).testBit i
def cntB (l : List Nat) (c : List Int) (i : Nat) : Nat := (c.filter (bitN l i)).length

theorem cntB_cons (l : List Nat) (s : Int) (r : List Int) (i : Nat) : cntB l (s :: r) i = (if bitN l i s then 1 else 0) + cntB l r i := by
  unfold cntB
  rw [List.filter_cons]
  split <;> simp; omega

theorem apartB_iff (l : List Nat) : ∀ (c : List Int) (x : Nat), apartB l x c = true ↔ (∀ s ∈ c, 0 ≤ s ∧ s < l.length) ∧ ∀ i, (if x.testBit i then 1 else 0) + cntB l c i ≤ 1
  | [], x => by
    simp only [apartB, true_iff]
    exact ⟨by simp, fun i => by unfold cntB; simp; split <;> omega⟩
  | s :: r, x => by
    simp only [apartB, Bool.and_eq_true, decide_eq_true_eq, apartB_iff l r, List.mem_cons, Nat.testBit_or, cntB_cons]
    have hand : (x &&& l.getD s.toNat 0) = 0 ↔ ∀ i, ¬ (x.testBit i = true ∧ bitN l i s = true) := by
      constructor
      · intro h i hi
        have := congrArg (fun y => Nat.testBit y i) h
        simp only [Nat.testBit_and, Nat.zero_testBit, Bool.and_eq_false_iff] at this
        unfold bitN at hi
        rcases this with h' | h' <;> rw [h'] at hi <;> simp at hi
      · intro h
        apply Nat.eq_of_testBit_eq
        intro i
        rw [Nat.testBit_and, Nat.zero_testBit]
        have := h i
        unfold bitN at this
        cases hx : x.testBit i <;> cases hy : (l.getD s.toNat 0).testBit i <;> simp_all
    rw [hand]
    constructor
    · rintro ⟨⟨⟨h1, h2⟩, h3⟩, h4, h5⟩
      refine ⟨?_, fun i => ?_⟩
      · rintro w (rfl | hw)
        · exact ⟨h1, h2⟩
        · exact h4 w hw
      · have a := h5 i
        have b := h3 i
        have e : (l.getD s.toNat 0).testBit i = bitN l i s := rfl
        rw [e] at a
        cases hx : x.testBit i <;> cases hy : bitN l i s <;> rw [hx, hy] at a b <;> simp at a b ⊢ <;> omega
    · rintro ⟨h1, h2⟩
      refine ⟨⟨h1 s (.inl rfl), fun i hi => ?_⟩, fun w hw => h1 w (.inr hw), fun i => ?_⟩
      · have := h2 i
        rw [hi.1, hi.2] at this
        simp at this
        omega
      · have a := h2 i
        have e : (l.getD s.toNat 0).testBit i = bitN l i s := rfl
        rw [e]
        cases hx : x.testBit i <;> cases hy : bitN l i s <;> rw [hx, hy] at a <;> simp at a ⊢ <;> omega

theorem joined_bit (l : List Nat) : ∀ (c : List Int) (x i : Nat), (joined l x c).testBit i = (x.testBit i || decide (0 < cntB l c i))
  | [], x, i => by simp [joined, cntB]
  | s :: r, x, i => by
    have := joined_bit l r (x ||| l.getD s.toNat 0) i
    unfold joined at this ⊢
    rw [List.foldl_cons, this, Nat.testBit_or, cntB_cons]
    have e : (l.getD s.toNat 0).testBit i = bitN l i s := rfl
    rw [e]
    cases x.testBit i <;> cases bitN l i s <;> simp <;> omega

theorem secBits_bit {ss : List Sector} {n : Nat} (h : ss.all (sectorIx n) = true) {s : Int} (i : Nat) : bitN (secBits ss) i s = inSec ss (i : Int) s := by
  unfold bitN inSec secBits
  rw [List.getD_eq_getElem?_getD, List.getElem?_map]
  cases hs : ss[s.toNat]? with
  | none => simp
  | some x =>
    have hx := List.all_eq_true.1 h x (List.mem_of_getElem? hs)
    rw [sectorIx_eq] at hx
    simp only [idxB, Bool.and_eq_true, List.all_eq_true, decide_eq_true_eq] at hx
    simp only [Option.map_some, Option.getD_some, bitsFrom_bit, Nat.zero_testBit, Bool.false_or]
    rw [Bool.eq_iff_iff, List.any_eq_true, decide_eq_true_eq]
    constructor
    · rintro ⟨v, hv, e⟩
      have e := of_decide_eq_true e
      have := (hx.2.1 v hv).1
      rw [show (i : Int) = v by omega]; exact hv
    · intro hv
      exact ⟨_, hv, by simp⟩

theorem configOk_eq {ss : List Sector} {n : Nat} (h : ss.all (sectorIx n) = true) (c : Config) : configOk n (secBits ss) c = divB n ss c := by
  have hc : ∀ i, cntB (secBits ss) c.Sectors i = cntSec ss c.Sectors (i : Int) := fun i => by
    unfold cntB cntSec
    rw [show bitN (secBits ss) i = inSec ss (i : Int) from funext fun s => secBits_bit h i]
  have hbig : ∀ i, n ≤ i → cntSec ss c.Sectors (i : Int) = 0 := fun i hi => by
    unfold cntSec
    rw [List.length_eq_zero_iff, List.filter_eq_nil_iff]
    intro s _ hs
    unfold inSec at hs
    cases hx : ss[s.toNat]? with
    | none => rw [hx] at hs; cases hs
    | some x =>
      rw [hx] at hs
      have hs := of_decide_eq_true hs
      have hy := List.all_eq_true.1 h x (List.mem_of_getElem? hx)
      rw [sectorIx_eq] at hy
      simp only [idxB, Bool.and_eq_true, List.all_eq_true, decide_eq_true_eq] at hy
      have := (hy.2.1 _ hs).2
      omega
  rw [Bool.eq_iff_iff]
  unfold configOk divB
  simp only [Bool.and_eq_true, apartB_iff, decide_eq_true_eq, Nat.zero_testBit, Bool.false_eq_true, if_false, Nat.zero_add, hc, List.all_eq_true, List.mem_range]
  have hl : (secBits ss).length = ss.length := by simp [secBits]
  rw [hl]
  have hj : joined (secBits ss) 0 c.Sectors = 2 ^ n - 1 ↔ ∀ i : Nat, decide (0 < cntSec ss c.Sectors (i : Int)) = decide (i < n) := by
    constructor
    · intro e i
      have := joined_bit (secBits ss) c.Sectors 0 i
      rw [e, Nat.testBit_two_pow_sub_one, Nat.zero_testBit, Bool.false_or, hc] at this
      exact this.symm
    · intro e
      apply Nat.eq_of_testBit_eq
      intro i
      rw [joined_bit, Nat.testBit_two_pow_sub_one, Nat.zero_testBit, Bool.false_or, hc, e]
  rw [hj]
  constructor
  · rintro ⟨⟨h1, h2⟩, h3⟩
    refine ⟨?_, fun v hv => ?_⟩
    · simp only [idxB, Bool.and_eq_true, List.all_eq_true, decide_eq_true_eq]
      refine ⟨h1, ?_⟩
      rw [List.nodup_iff_count]
      intro s
      by_cases hs : s ∈ c.Sectors
      · obtain ⟨a, b⟩ := h1 s hs
        have hx : ss[s.toNat]? = some ss[s.toNat] := List.getElem?_eq_getElem (by omega)
        have hy := List.all_eq_true.1 h _ (List.mem_of_getElem? hx)
        rw [sectorIx_eq] at hy
        simp only [idxB, Bool.and_eq_true, Bool.not_eq_true', decide_eq_false_iff_not, List.all_eq_true, decide_eq_true_eq] at hy
        obtain ⟨v, hv⟩ := List.exists_mem_of_length_pos (Nat.pos_of_ne_zero hy.1)
        have hv0 := (hy.2.1 v hv).1
        have h4 := h2 v.toNat
        unfold cntSec at h4
        refine Nat.le_trans ?_ h4
        have e : List.count s c.Sectors = List.count s (c.Sectors.filter (inSec ss (v.toNat : Int))) := by
          rw [List.count_filter]
          unfold inSec
          rw [hx]
          simp only [decide_eq_true_eq]
          rw [show ((v.toNat : Nat) : Int) = v by omega]
          exact hv
        rw [e]
        exact List.count_le_length
      · rw [List.count_eq_zero.2 hs]; omega
    · have a := h2 v
      have b := h3 v
      simp only [hv, decide_true, decide_eq_true_eq] at b
      omega
  · rintro ⟨h1, h2⟩
    simp only [idxB, Bool.and_eq_true, List.all_eq_true, decide_eq_true_eq] at h1
    refine ⟨⟨h1.1, fun i => ?_⟩, fun i => ?_⟩
    · by_cases hi : i < n
      · rw [h2 i hi]; omega
      · rw [hbig i (by omega)]; omega
    · by_cases hi : i < n
      · rw [h2 i hi]; simp [hi]
      · rw [hbig i (by omega)]; simp [hi]
end Go.Abs

namespace Go.Abs
open Go.RowKit Go.Proofs

theorem ref10_has {xs : List PV} (l : List Int) (hx : xs = encInts l) (n : Int) : CallsPV Tryz.prog 286 [.list 1 xs, .int .i64 n] (.bool (decide (n ∈ l))) := by
  refine callsPV_by (clo := fun _ => false) (rows := false) env_ok Tryz.func286 rfl (enters_of Tryz.func286 (by kernel_rfl) rfl) (fun A q P Y hr hA hq => ?_)
  have hll : xs.length = l.length := by rw [hx]; simp [encInts]
  have hlen : l.length ≤ 9223372036854775807 := by have := (hr.mem (p := .list 1 xs) (by simp)).len; omega
  conv => cbv
  refine loop_set hA (fun (i : Int) s => s.put (some 5) (.val (.int .i64 i))) (fun i => 0 ≤ i ∧ i ≤ (l.length : Int) ∧ (fun i => ∀ x ∈ l.take i.toNat, x ≠ n) i) (fun i => ((l.length : Int) - i).toNat) 0 ?_ ?_ ?_
  · conv => cbv
    exact wk_sl (by repeat (first | refine leL_same ?_ | refine leL_any ?_ | exact leL_nil))
  · exact ⟨Int.le_refl _, by omega, by simp⟩
  · rintro R i ⟨hi0, hi1, hi2⟩ hRi
    conv => cbv
    split
    · rename_i hc
      have hi : i < (l.length : Int) := ltT' hA rfl (lenI hA hll) hc
      have his : A.iAdd i 1 = i + 1 := addI hA _ _
      have hir : A.inR (A.iAdd i 1) := inR' hA his (by unfold inI64; omega)
      have him : ((l.length : Int) - A.iAdd i 1).toNat < ((l.length : Int) - i).toNat := by rw [his]; omega
      have hin : (fun i => ∀ x ∈ l.take i.toNat, x ≠ n) (i + 1) → 0 ≤ A.iAdd i 1 ∧ A.iAdd i 1 ≤ (l.length : Int) ∧ (fun i => ∀ x ∈ l.take i.toNat, x ≠ n) (A.iAdd i 1) := fun h => by rw [his]; exact ⟨by omega, by omega, h⟩
      simp only at hin
      conv => cbv
      refine idx_Int hA hx hi0 hi (fun x hx0 => ?_)
      have ht := take_snoc' hi0 hx0
      conv => cbv
      split
      · rename_i hc
        conv => cbv
        rw [← hq, show decide (n ∈ l) = true from decide_eq_true (by rw [← eqT hA hc]; exact List.mem_of_getElem? hx0)]
      rename_i c1
      conv => cbv
      exact ⟨hir, hRi (A.iAdd i 1) _ (by (conv => cbv); exact wk_sl (by repeat (first | refine leL_same ?_ | refine leL_any ?_ | exact leL_nil))) (hin (mem_snoc ht hi2 (eqF hA c1))) him⟩
    · rename_i hc
      have hi : i = (l.length : Int) := by have := ltF' hA rfl (lenI hA hll) hc; omega
      conv => cbv
      rw [← hq, show decide (n ∈ l) = false from decide_eq_false (fun h => take_all hi hi2 n h rfl)]

theorem idxB_iff (n : Int) (l : List Int) : idxB n l = true ↔ (∀ x ∈ l, 0 ≤ x ∧ x < n) ∧ l.Nodup := by
  simp only [idxB, Bool.and_eq_true, List.all_eq_true, decide_eq_true_eq]

theorem ref10_indices {xs : List PV} (l : List Int) (hx : xs = encInts l) (n : Int) : CallsPV Tryz.prog 259 [.list 1 xs, .int .i64 n] (.bool (idxB n l)) := by
  refine callsPV_by (clo := fun _ => false) (rows := false) env_ok Tryz.func259 rfl (enters_of Tryz.func259 (by kernel_rfl) rfl) (fun A q P Y hr hA hq => ?_)
  have hll : xs.length = l.length := by rw [hx]; simp [encInts]
  have hlen : l.length ≤ 9223372036854775807 := by have := (hr.mem (p := .list 1 xs) (by simp)).len; omega
  have hbad : ¬ idxB n l = true → PV.bool false = q := fun h => by rw [← hq, Bool.eq_false_iff.2 h]
  conv => cbv
  refine loop_set hA (fun (i : Int) s => s.put (some 5) (.val (.int .i64 i))) (fun i => 0 ≤ i ∧ i ≤ (l.length : Int) ∧ (fun i => (∀ x ∈ l.take i.toNat, 0 ≤ x ∧ x < n) ∧ (l.take i.toNat).Nodup) i) (fun i => ((l.length : Int) - i).toNat) 0 ?_ ?_ ?_
  · conv => cbv
    exact wk_sl (by repeat (first | refine leL_same ?_ | refine leL_any ?_ | exact leL_nil))
  · exact ⟨Int.le_refl _, by omega, by simp⟩
  · rintro R i ⟨hi0, hi1, hi2⟩ hRi
    conv => cbv
    split
    · rename_i hc
      have hi : i < (l.length : Int) := ltT' hA rfl (lenI hA hll) hc
      have his : A.iAdd i 1 = i + 1 := addI hA _ _
      have hir : A.inR (A.iAdd i 1) := inR' hA his (by unfold inI64; omega)
      have him : ((l.length : Int) - A.iAdd i 1).toNat < ((l.length : Int) - i).toNat := by rw [his]; omega
      have hin : (fun i => (∀ x ∈ l.take i.toNat, 0 ≤ x ∧ x < n) ∧ (l.take i.toNat).Nodup) (i + 1) → 0 ≤ A.iAdd i 1 ∧ A.iAdd i 1 ≤ (l.length : Int) ∧ (fun i => (∀ x ∈ l.take i.toNat, 0 ≤ x ∧ x < n) ∧ (l.take i.toNat).Nodup) (A.iAdd i 1) := fun h => by rw [his]; exact ⟨by omega, by omega, h⟩
      simp only at hin
      conv => cbv
      refine ⟨draw_intro hA (by kernel_rfl), ?_⟩
      refine idx_Int hA hx hi0 hi (fun x hx0 => ?_)
      have ht := take_snoc' hi0 hx0
      have hm := List.mem_of_getElem? hx0
      have hsub : A.lSub xs 0 i = encInts (l.take i.toNat) := by subst hA; show (xs.take i.toNat).drop (0 : Int).toNat = _; rw [hx]; simp [encInts, List.map_take]
      have hhas := ref10_has (xs := A.lSub xs 0 i) (l.take i.toNat) hsub x
      conv => cbv
      split
      · rename_i hc
        conv => cbv
        exact hbad (fun h => by have := ((idxB_iff n l).1 h).1 x hm; have := ltT hA hc; omega)
      rename_i c1
      conv => cbv
      refine idx_Int hA hx hi0 hi (fun z hz => ?_)
      obtain rfl := Option.some.inj ((hx0).symm.trans hz)
      conv => cbv
      split
      · rename_i hc
        conv => cbv
        exact hbad (fun h => by have := ((idxB_iff n l).1 h).1 x hm; have := leT hA hc; omega)
      rename_i c2
      conv => cbv
      refine ⟨by subst hA; show (0 : Int) ≤ 0 ∧ 0 ≤ i ∧ i ≤ (xs.length : Int); omega, ?_⟩
      refine idx_Int hA hx hi0 hi (fun z hz => ?_)
      obtain rfl := Option.some.inj ((hx0).symm.trans hz)
      conv => cbv
      refine callB hA hhas rfl (fun b hb => ?_)
      conv => cbv
      cases b with
      | true =>
        conv => cbv
        exact hbad (fun h => by
          have hn := ((idxB_iff n l).1 h).2
          have e : l = l.take (i + 1).toNat ++ l.drop (i + 1).toNat := (List.take_append_drop _ _).symm
          rw [e, ht, List.append_assoc, List.nodup_append] at hn
          exact hn.2.2 x (of_decide_eq_true hb.symm) x (by simp) rfl)
      | false =>
        conv => cbv
        exact ⟨hir, hRi (A.iAdd i 1) _ (by (conv => cbv); exact wk_sl (by repeat (first | refine leL_same ?_ | refine leL_any ?_ | exact leL_nil))) (hin (by rw [ht]; refine ⟨mem_snoc rfl hi2.1 ⟨ltF hA c1, leF hA c2⟩, ?_⟩; rw [List.nodup_append]; refine ⟨hi2.2, by simp, ?_⟩; intro a ha b hb' e; rw [List.mem_singleton] at hb'; subst hb' e; exact of_decide_eq_false hb.symm ha)) him⟩
    · rename_i hc
      have hi : i = (l.length : Int) := by have := ltF' hA rfl (lenI hA hll) hc; omega
      conv => cbv
      rw [← hq, (idxB_iff n l).2]
      rw [List.take_of_length_le (by omega)] at hi2
      exact hi2

theorem cntSec_snoc (S : List Sector) (a : List Int) (x v : Int) : cntSec S (a ++ [x]) v = cntSec S a v + if inSec S v x then 1 else 0 := by
  unfold cntSec
  rw [List.filter_append, List.length_append, List.filter_cons, List.filter_nil]
  split <;> simp_all
theorem cntSec_le (S : List Sector) (a : List Int) (v : Int) : cntSec S a v ≤ a.length := List.length_filter_le _ _

theorem encConfig_eq (c : Config) {ns xs : List PV} (h1 : ns = encStrs c.Names) (h2 : xs = encInts c.Sectors) : encConfig c = .agg [.str c.Name, .list 1 ns, .list 1 xs] := by rw [h1, h2]; rfl

set_option maxHeartbeats 1000000 in
theorem ref10_divides {vs ss cs : List PV} (mv n : Nat) (hv : vs.length = n) (S : List Sector) (hS : ss = encSectors S) (c : Config) (hsl : S.length ≤ 64) (hn : n ≤ 64) :
    CallsPV Tryz.prog 260 [encAir mv vs ss cs, encConfig c] (.bool (divB n S c)) := by
  refine callsPV_by (clo := fun _ => false) (rows := false) env_ok Tryz.func260 rfl (enters_of Tryz.func260 (by kernel_rfl) rfl) (fun A q P Y hr hA hq => ?_)
  obtain ⟨ns, hns⟩ : ∃ ns, ns = encStrs c.Names := ⟨_, rfl⟩
  obtain ⟨xs, hxs⟩ : ∃ xs, xs = encInts c.Sectors := ⟨_, rfl⟩
  have hxl : xs.length = c.Sectors.length := by rw [hxs]; simp [encInts]
  have hssl : ss.length = S.length := by rw [hS]; simp [encSectors]
  have hlen : c.Sectors.length ≤ 9223372036854775807 := by
    have := (Real.cell (cs := [.str c.Name, .list 1 ns, .list 1 xs]) (by rw [← encConfig_eq c hns hxs]; exact Real.mem hr (by simp)) (c := .list 1 xs) (by simp)).len
    omega
  have hcall := ref10_indices c.Sectors hxs (A.lLen ss)
  rw [lenI hA hssl] at hcall
  have hD : divB n S c = (idxB S.length c.Sectors && (List.range n).all fun v => decide (cntSec S c.Sectors (v : Int) = 1)) := rfl
  have hbad : ∀ v : Nat, v < n → cntSec S c.Sectors (v : Int) ≠ 1 → PV.bool false = q := fun v hv h => by
    rw [← hq, hD, show ((List.range n).all fun v => decide (cntSec S c.Sectors (v : Int) = 1)) = false by rw [List.all_eq_false]; exact ⟨v, List.mem_range.2 hv, by simp [h]⟩]; simp
  rw [encConfig_eq c hns hxs]
  obtain ⟨c1, c2, C⟩ := c
  simp only at hns hxs hxl hlen hcall hD hbad ⊢
  conv => cbv
  refine callB hA hcall (by subst hA; show [_, PV.int _ ((ss.length : Nat) : Int)] = _; rw [hssl]) (fun b hb => ?_)
  rw [← hb] at hD
  have hix := (idxB_iff S.length C).1
  rw [← hb] at hix
  conv => cbv
  cases b with
  | false =>
    split
    rotate_left
    · rename_i hc
      cases (nF hA hc)
    conv => cbv
    rw [← hq, hD]; rfl
  | true =>
  split
  · rename_i hc
    cases (nT hA hc)
  conv => cbv
  obtain ⟨hix, _⟩ := hix rfl
  refine loop_set hA (fun (i : Int) s => s.put (some 5) (.val (.int .i64 i))) (fun i => 0 ≤ i ∧ i ≤ (n : Int) ∧ (fun i => ∀ v : Nat, v < i.toNat → cntSec S C (v : Int) = 1) i) (fun i => ((n : Int) - i).toNat) 0 ?_ ?_ ?_
  · conv => cbv
    exact wk_sl (by repeat (first | refine leL_same ?_ | refine leL_any ?_ | exact leL_nil))
  · exact ⟨Int.le_refl _, by omega, (by intro v hv; simp at hv)⟩
  · rintro R i ⟨hi0, hi1, hi2⟩ hRi
    conv => cbv
    split
    · rename_i hc
      have hi : i < (n : Int) := ltT' hA rfl (lenI hA hv) hc
      have his : A.iAdd i 1 = i + 1 := addI hA _ _
      have hir : A.inR (A.iAdd i 1) := inR' hA his (by unfold inI64; omega)
      have him : ((n : Int) - A.iAdd i 1).toNat < ((n : Int) - i).toNat := by rw [his]; omega
      have hin : (fun i => ∀ v : Nat, v < i.toNat → cntSec S C (v : Int) = 1) (i + 1) → 0 ≤ A.iAdd i 1 ∧ A.iAdd i 1 ≤ (n : Int) ∧ (fun i => ∀ v : Nat, v < i.toNat → cntSec S C (v : Int) = 1) (A.iAdd i 1) := fun h => by rw [his]; exact ⟨by omega, by omega, h⟩
      simp only at hin
      conv => cbv
      refine loop_set hA (fun (z : Int × Int) s => (s.put (some 7) (.val (.int .i64 z.1))).put (some 6) (.val (.int .i64 z.2))) (fun z => 0 ≤ z.1 ∧ z.1 ≤ C.length ∧ z.2 = cntSec S (C.take z.1.toNat) i) (fun z => (C.length - z.1).toNat) (0, 0) ?_ ?_ ?_
      · conv => cbv
        exact wk_sl (by repeat (first | refine leL_same ?_ | refine leL_any ?_ | exact leL_nil))
      · exact ⟨Int.le_refl _, by omega, by simp [cntSec]⟩
      rintro R2 ⟨k, m⟩ ⟨hk0, hk1, hk2⟩ hR2
      simp only at hk0 hk1 hk2
      conv => cbv
      split
      · rename_i hc
        have hk : k < C.length := ltT' hA rfl (lenI hA hxl) hc
        have hks : A.iAdd k 1 = k + 1 := addI hA _ _
        have hkr : A.inR (A.iAdd k 1) := inR' hA hks (by unfold inI64; omega)
        have hkm : (C.length - A.iAdd k 1).toNat < (C.length - k).toNat := by rw [hks]; omega
        conv => cbv
        refine ⟨draw_intro hA (by kernel_rfl), ?_⟩
        refine idx_Int hA hxs hk0 hk (fun s hs0 => ?_)
        have ht := take_snoc' hk0 hs0
        have hsr := hix s (List.mem_of_getElem? hs0)
        have hcs := cntSec_snoc S (C.take k.toNat) s i
        have hcl := cntSec_le S (C.take k.toNat) i
        have htl : ((C.take k.toNat).length : Int) ≤ k := by rw [List.length_take]; omega
        conv => cbv
        refine idx_Sector hA hS hsr.1 hsr.2 (fun x u1 u2 hx0 hu1 hu2 => ?_)
        conv => cbv
        refine callB hA (ref10_has x.Volumes hu2 i) rfl (fun b hb => ?_)
        have hin : inSec S i s = b := by unfold inSec; rw [hx0, hb]
        rw [hin] at hcs
        conv => cbv
        cases b with
        | true =>
          have hms : A.iAdd m 1 = m + 1 := addI hA _ _
          conv => cbv
          refine ⟨inR' hA hms (by unfold inI64; omega), hkr, hR2 (A.iAdd k 1, A.iAdd m 1) _ ?_ ?_ hkm⟩
          · conv => cbv
            exact wk_sl (by repeat (first | refine leL_same ?_ | refine leL_any ?_ | exact leL_nil))
          · show 0 ≤ A.iAdd k 1 ∧ A.iAdd k 1 ≤ C.length ∧ A.iAdd m 1 = _
            rw [hks, hms, ht, hcs]; simp; omega
        | false =>
          conv => cbv
          refine ⟨hkr, hR2 (A.iAdd k 1, m) _ ?_ ?_ hkm⟩
          · conv => cbv
            exact wk_sl (by repeat (first | refine leL_same ?_ | refine leL_any ?_ | exact leL_nil))
          · show 0 ≤ A.iAdd k 1 ∧ A.iAdd k 1 ≤ C.length ∧ m = _
            rw [hks, ht, hcs]; simp; omega
      · rename_i hc
        have hk : C.length ≤ k := ltF' hA rfl (lenI hA hxl) hc
        rw [List.take_of_length_le (by omega)] at hk2
        conv => cbv
        have hiN : ((i.toNat : Nat) : Int) = i := by omega
        split
        · rename_i hc2
          have := neT hA hc2
          conv => cbv
          exact hbad i.toNat (by omega) (fun e => this (by rw [hk2, ← hiN, e]; rfl))
        · rename_i hc2
          have h1 := neF hA hc2
          conv => cbv
          exact ⟨hir, hRi (A.iAdd i 1) _ (by (conv => cbv); exact wk_sl (by repeat (first | refine leL_same ?_ | refine leL_any ?_ | exact leL_nil))) (hin (by intro v hv'; by_cases e : v < i.toNat; exact hi2 v e; rw [show (v : Int) = i by omega]; omega)) him⟩
    · rename_i hc
      have hi : i = (n : Int) := by have := ltF' hA rfl (lenI hA hv) hc; omega
      conv => cbv
      rw [← hq, hD, show ((List.range n).all fun v => decide (cntSec S C (v : Int) = 1)) = true by rw [List.all_eq_true]; intro v hv'; rw [List.mem_range] at hv'; exact decide_eq_true (hi2 v (by omega))]
      rfl
end Go.Abs
