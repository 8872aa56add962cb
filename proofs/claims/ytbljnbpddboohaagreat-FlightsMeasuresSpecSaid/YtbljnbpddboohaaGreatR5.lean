/-
  References: sectors and configurations.
-/
import Derived.Test.YtbljnbpddboohaaGreatR4
import Derived.Test.YtbljnbpddboohaaGreatF5
set_option linter.unusedVariables false
set_option linter.unusedSimpArgs false
namespace Go.Abs
open Go.RowKit Go.Proofs

def idxB (n : Int) (l : List Int) : Bool := l.all (fun x => decide (0 ≤ x) && decide (x < n)) && decide l.Nodup
def inSec (ss : List Sector) (v : Int) (s : Int) : Bool := match ss[s.toNat]? with | some x => decide (v ∈ x.Volumes) | none => false
def cntSec (ss : List Sector) (c : List Int) (v : Int) : Nat := (c.filter (inSec ss v)).length
def divB (n : Nat) (ss : List Sector) (c : Config) : Bool := idxB ss.length c.Sectors && (List.range n).all fun v => decide (cntSec ss c.Sectors (v : Int) = 1)

theorem and_pow_eq (x i : Nat) : x &&& 2 ^ i = 0 ↔ x.testBit i = false := by
  constructor
  · intro h
    have := congrArg (fun y => Nat.testBit y i) h
    simpa [Nat.testBit_and, Nat.testBit_two_pow_self] using this
  · intro h
    apply Nat.eq_of_testBit_eq
    intro j
    rw [Nat.testBit_and, Nat.testBit_two_pow, Nat.zero_testBit]
    by_cases e : i = j
    · subst e; simp [h]
    · simp [e]

theorem indexed_iff (n : Nat) : ∀ (l : List Int) (x : Nat), indexed n x l = true ↔ (∀ v ∈ l, 0 ≤ v ∧ v < n ∧ x.testBit v.toNat = false) ∧ l.Nodup
  | [], x => by simp [indexed]
  | v :: r, x => by
    simp only [indexed, Bool.and_eq_true, decide_eq_true_eq, and_pow_eq, indexed_iff n r, List.mem_cons, List.nodup_cons, Nat.testBit_or, Nat.testBit_two_pow, Bool.or_eq_false_iff, decide_eq_false_iff_not]
    constructor
    · rintro ⟨⟨⟨h1, h2⟩, h3⟩, h4, h5⟩
      refine ⟨?_, ?_, h5⟩
      · rintro w (rfl | hw)
        · exact ⟨h1, h2, h3⟩
        · exact ⟨(h4 w hw).1, (h4 w hw).2.1, (h4 w hw).2.2.1⟩
      · intro hv
        exact (h4 v hv).2.2.2 rfl
    · rintro ⟨h1, h2, h3⟩
      refine ⟨⟨⟨(h1 v (.inl rfl)).1, (h1 v (.inl rfl)).2.1⟩, (h1 v (.inl rfl)).2.2⟩, fun w hw => ⟨(h1 w (.inr hw)).1, (h1 w (.inr hw)).2.1, (h1 w (.inr hw)).2.2, fun e => ?_⟩, h3⟩
      have a := (h1 v (.inl rfl)).1
      have b := (h1 w (.inr hw)).1
      exact h2 (by rw [show v = w by omega]; exact hw)

theorem indexed_idxB (n : Nat) (l : List Int) : indexed n 0 l = idxB n l := by
  rw [Bool.eq_iff_iff, indexed_iff]
  simp only [idxB, Bool.and_eq_true, List.all_eq_true, decide_eq_true_eq, Nat.zero_testBit, and_true]

theorem bitsFrom_bit : ∀ (l : List Int) (x i : Nat), (bitsFrom x l).testBit i = (x.testBit i || l.any fun v => decide (v.toNat = i))
  | [], x, i => by simp [bitsFrom]
  | v :: r, x, i => by
    have := bitsFrom_bit r (x ||| 2 ^ v.toNat) i
    unfold bitsFrom at this ⊢
    rw [List.foldl_cons, this, Nat.testBit_or, Nat.testBit_two_pow, List.any_cons, Bool.or_assoc]

theorem sectorIx_eq (n : Nat) (s : Sector) : sectorIx n s = (!decide (s.Volumes.length = 0) && idxB n s.Volumes) := by
  unfold sectorIx
  rw [indexed_idxB]
  cases hv : s.Volumes with
  | nil => simp [bitsFrom]
  | cons v r =>
    have h : bitsFrom 0 (v :: r) ≠ 0 := by
      intro h
      have := bitsFrom_bit (v :: r) 0 v.toNat
      rw [h] at this
      simp at this
    simp [h]

def bitN (l : List Nat) (i : Nat) (s : Int) : Bool := (l.getD s.toNat 0).testBit i
def cntB (l : List Nat) (c : List Int) (i : Nat) : Nat := (c.filter (bitN l i)).length

theorem cntB_cons (l : List Nat) (s : Int) (r : List Int) (i : Nat) : cntB l (s :: r) i = (if bitN l i s then 1 else 0) + cntB l r i := by
  unfold cntB
  rw [List.filter_cons]
  split <;> simp; omega

theorem apartB_iff (l : List Nat) : ∀ (c : List Int) (x : Nat), apartB l x c = true ↔ (∀ s ∈ c, 0 ≤ s ∧ s < l.length) ∧ ∀ i, (if x.testBit i then 1 else 0) + cntB l c i ≤ 1
  | [], x => by
    simp only [apartB, true_iff]
    exact ⟨by simp, fun i => by unfold cntB; simp; split <;> omega⟩
  | s :: r, x => by
    simp only [apartB, Bool.and_eq_true, decide_eq_true_eq, apartB_iff l r, List.mem_cons, Nat.testBit_or, cntB_cons]
    have hand : (x &&& l.getD s.toNat 0) = 0 ↔ ∀ i, ¬ (x.testBit i = true ∧ bitN l i s = true) := by
      constructor
      · intro h i hi
        have := congrArg (fun y => Nat.testBit y i) h
        simp only [Nat.testBit_and, Nat.zero_testBit, Bool.and_eq_false_iff] at this
        unfold bitN at hi
        rcases this with h' | h' <;> rw [h'] at hi <;> simp at hi
      · intro h
        apply Nat.eq_of_testBit_eq
        intro i
        rw [Nat.testBit_and, Nat.zero_testBit]
        have := h i
        unfold bitN at this
        cases hx : x.testBit i <;> cases hy : (l.getD s.toNat 0).testBit i <;> simp_all
    rw [hand]
    constructor
    · rintro ⟨⟨⟨h1, h2⟩, h3⟩, h4, h5⟩
      refine ⟨?_, fun i => ?_⟩
      · rintro w (rfl | hw)
        · exact ⟨h1, h2⟩
        · exact h4 w hw
      · have a := h5 i
        have b := h3 i
        have e : (l.getD s.toNat 0).testBit i = bitN l i s := rfl
        rw [e] at a
        cases hx : x.testBit i <;> cases hy : bitN l i s <;> rw [hx, hy] at a b <;> simp at a b ⊢ <;> omega
    · rintro ⟨h1, h2⟩
      refine ⟨⟨h1 s (.inl rfl), fun i hi => ?_⟩, fun w hw => h1 w (.inr hw), fun i => ?_⟩
      · have := h2 i
        rw [hi.1, hi.2] at this
        simp at this
        omega
      · have a := h2 i
        have e : (l.getD s.toNat 0).testBit i = bitN l i s := rfl
        rw [e]
        cases hx : x.testBit i <;> cases hy : bitN l i s <;> rw [hx, hy] at a <;> simp at a ⊢ <;> omega

theorem joined_bit (l : List Nat) : ∀ (c : List Int) (x i : Nat), (joined l x c).testBit i = (x.testBit i || decide (0 < cntB l c i))
  | [], x, i => by simp [joined, cntB]
  | s :: r, x, i => by
    have := joined_bit l r (x ||| l.getD s.toNat 0) i
    unfold joined at this ⊢
    rw [List.foldl_cons, this, Nat.testBit_or, cntB_cons]
    have e : (l.getD s.toNat 0).testBit i = bitN l i s := rfl
    rw [e]
    cases x.testBit i <;> cases bitN l i s <;> simp <;> omega

theorem secBits_bit {ss : List Sector} {n : Nat} (h : ss.all (sectorIx n) = true) {s : Int} (i : Nat) : bitN (secBits ss) i s = inSec ss (i : Int) s := by
  unfold bitN inSec secBits
  rw [List.getD_eq_getElem?_getD, List.getElem?_map]
  cases hs : ss[s.toNat]? with
  | none => simp
  | some x =>
    have hx := List.all_eq_true.1 h x (List.mem_of_getElem? hs)
    rw [sectorIx_eq] at hx
    simp only [idxB, Bool.and_eq_true, List.all_eq_true, decide_eq_true_eq] at hx
    simp only [Option.map_some, Option.getD_some, bitsFrom_bit, Nat.zero_testBit, Bool.false_or]
    rw [Bool.eq_iff_iff, List.any_eq_true, decide_eq_true_eq]
    constructor
    · rintro ⟨v, hv, e⟩
      have e := of_decide_eq_true e
      have := (hx.2.1 v hv).1
      rw [show (i : Int) = v by omega]; exact hv
    · intro hv
      exact ⟨_, hv, by simp⟩

theorem configOk_eq {ss : List Sector} {n : Nat} (h : ss.all (sectorIx n) = true) (c : Config) : configOk n (secBits ss) c = divB n ss c := by
  have hc : ∀ i, cntB (secBits ss) c.Sectors i = cntSec ss c.Sectors (i : Int) := fun i => by
    unfold cntB cntSec
    rw [show bitN (secBits ss) i = inSec ss (i : Int) from funext fun s => secBits_bit h i]
  have hbig : ∀ i, n ≤ i → cntSec ss c.Sectors (i : Int) = 0 := fun i hi => by
    unfold cntSec
    rw [List.length_eq_zero_iff, List.filter_eq_nil_iff]
    intro s _ hs
    unfold inSec at hs
    cases hx : ss[s.toNat]? with
    | none => rw [hx] at hs; cases hs
    | some x =>
      rw [hx] at hs
      have hs := of_decide_eq_true hs
      have hy := List.all_eq_true.1 h x (List.mem_of_getElem? hx)
      rw [sectorIx_eq] at hy
      simp only [idxB, Bool.and_eq_true, List.all_eq_true, decide_eq_true_eq] at hy
      have := (hy.2.1 _ hs).2
      omega
  rw [Bool.eq_iff_iff]
  unfold configOk divB
  simp only [Bool.and_eq_true, apartB_iff, decide_eq_true_eq, Nat.zero_testBit, Bool.false_eq_true, if_false, Nat.zero_add, hc, List.all_eq_true, List.mem_range]
  have hl : (secBits ss).length = ss.length := by simp [secBits]
  rw [hl]
  have hj : joined (secBits ss) 0 c.Sectors = 2 ^ n - 1 ↔ ∀ i : Nat, decide (0 < cntSec ss c.Sectors (i : Int)) = decide (i < n) := by
    constructor
    · intro e i
      have := joined_bit (secBits ss) c.Sectors 0 i
      rw [e, Nat.testBit_two_pow_sub_one, Nat.zero_testBit, Bool.false_or, hc] at this
      exact this.symm
    · intro e
      apply Nat.eq_of_testBit_eq
      intro i
      rw [joined_bit, Nat.testBit_two_pow_sub_one, Nat.zero_testBit, Bool.false_or, hc, e]
  rw [hj]
  constructor
  · rintro ⟨⟨h1, h2⟩, h3⟩
    refine ⟨?_, fun v hv => ?_⟩
    · simp only [idxB, Bool.and_eq_true, List.all_eq_true, decide_eq_true_eq]
      refine ⟨h1, ?_⟩
      rw [List.nodup_iff_count]
      intro s
      by_cases hs : s ∈ c.Sectors
      · obtain ⟨a, b⟩ := h1 s hs
        have hx : ss[s.toNat]? = some ss[s.toNat] := List.getElem?_eq_getElem (by omega)
        have hy := List.all_eq_true.1 h _ (List.mem_of_getElem? hx)
        rw [sectorIx_eq] at hy
        simp only [idxB, Bool.and_eq_true, Bool.not_eq_true', decide_eq_false_iff_not, List.all_eq_true, decide_eq_true_eq] at hy
        obtain ⟨v, hv⟩ := List.exists_mem_of_length_pos (Nat.pos_of_ne_zero hy.1)
        have hv0 := (hy.2.1 v hv).1
        have h4 := h2 v.toNat
        unfold cntSec at h4
        refine Nat.le_trans ?_ h4
        have e : List.count s c.Sectors = List.count s (c.Sectors.filter (inSec ss (v.toNat : Int))) := by
          rw [List.count_filter]
          unfold inSec
          rw [hx]
          simp only [decide_eq_true_eq]
          rw [show ((v.toNat : Nat) : Int) = v by omega]
          exact hv
        rw [e]
        exact List.count_le_length
      · rw [List.count_eq_zero.2 hs]; omega
    · have a := h2 v
      have b := h3 v
      simp only [hv, decide_true, decide_eq_true_eq] at b
      omega
  · rintro ⟨h1, h2⟩
    simp only [idxB, Bool.and_eq_true, List.all_eq_true, decide_eq_true_eq] at h1
    refine ⟨⟨h1.1, fun i => ?_⟩, fun i => ?_⟩
    · by_cases hi : i < n
      · rw [h2 i hi]; omega
      · rw [hbig i (by omega)]; omega
    · by_cases hi : i < n
      · rw [h2 i hi]; simp [hi]
      · rw [hbig i (by omega)]; simp [hi]
end Go.Abs
