/-
  References: ref20.Compare, put, has, uses.
-/
import Derived.Test.YtjiimmaikohliaaGreatF47
set_option linter.unusedVariables false
set_option linter.unusedSimpArgs false
namespace Go.Abs
open Go.RowKit Go.Proofs

theorem ref20_Compare (a b : Cell) : CallsPV Tryz.prog 23 [encCell a, encCell b] (.int .i64 (cmpC a b)) := by
  refine callsPV_by (clo := fun _ => false) (rows := false) env_ok Tryz.func23 rfl (enters_of Tryz.func23 (by kernel_rfl) rfl) (fun A q P Y hr hA hq => ?_)
  have hc := cmpC_def a b
  obtain ⟨a1, a2, a3⟩ := a
  obtain ⟨b1, b2, b3⟩ := b
  simp only at hc
  rw [hc] at hq
  clear hc
  have fin : ∀ v : Int, (v = if rankB a1 < rankB b1 then -1 else if rankB b1 < rankB a1 then 1 else if a2 < b2 then -1 else if b2 < a2 then 1 else if a3 < b3 then -1 else if b3 < a3 then 1 else 0) → PV.int .i64 v = q := fun v h => by rw [h]; exact hq
  clear hq
  conv => cbv
  split
  · rename_i h1
    conv => cbv
    exact fin _ (by subst hA; simp [stdOps] at h1; (try cases a1) <;> (try cases b1) <;> simp_all [rankB] <;> (repeat' split) <;> omega)
  rename_i h1
  conv => cbv
  split
  · rename_i h2
    conv => cbv
    split
    · rename_i h3
      conv => cbv
      split
      · rename_i h4
        conv => cbv
        exact fin _ (by subst hA; simp [stdOps] at h1 h2 h3; (try cases a1) <;> (try cases b1) <;> simp_all [rankB] <;> (repeat' split) <;> omega)
      · rename_i h4
        conv => cbv
        exact fin _ (by subst hA; simp [stdOps] at h1 h2 h3; (try cases a1) <;> (try cases b1) <;> simp_all [rankB] <;> (repeat' split) <;> omega)
    · rename_i h3
      conv => cbv
      split
      · rename_i h4
        conv => cbv
        exact fin _ (by subst hA; simp [stdOps] at h1 h2 h3 h4; (try cases a1) <;> (try cases b1) <;> simp_all [rankB] <;> (repeat' split) <;> omega)
      · rename_i h4
        conv => cbv
        exact fin _ (by subst hA; simp [stdOps] at h1 h2 h3 h4; (try cases a1) <;> (try cases b1) <;> simp_all [rankB] <;> (repeat' split) <;> omega)
  · rename_i h2
    conv => cbv
    split
    · rename_i h3
      conv => cbv
      split
      · rename_i h4
        conv => cbv
        exact fin _ (by subst hA; simp [stdOps] at h1 h2 h3; (try cases a1) <;> (try cases b1) <;> simp_all [rankB] <;> (repeat' split) <;> omega)
      · rename_i h4
        conv => cbv
        exact fin _ (by subst hA; simp [stdOps] at h1 h2 h3; (try cases a1) <;> (try cases b1) <;> simp_all [rankB] <;> (repeat' split) <;> omega)
    · rename_i h3
      conv => cbv
      split
      · rename_i h4
        conv => cbv
        exact fin _ (by subst hA; simp [stdOps] at h1 h2 h3 h4; (try cases a1) <;> (try cases b1) <;> simp_all [rankB] <;> (repeat' split) <;> omega)
      · rename_i h4
        conv => cbv
        exact fin _ (by subst hA; simp [stdOps] at h1 h2 h3 h4; (try cases a1) <;> (try cases b1) <;> simp_all [rankB] <;> (repeat' split) <;> omega)

instance (a b : Cell) : Decidable (cellLt a b) := by unfold cellLt; infer_instance
/-- A cell put into a list, in order, once. -/
def putC : List Cell → Cell → List Cell
  | [], c => [c]
  | x :: r, c => if cellLt x c then x :: putC r c else if x = c then x :: r else c :: x :: r
theorem mem_putC {l : List Cell} {c d : Cell} : d ∈ putC l c ↔ d ∈ l ∨ d = c := by
  induction l with
  | nil => simp [putC]
  | cons x r ih =>
    unfold putC
    split
    · rw [List.mem_cons, ih, List.mem_cons, or_assoc]
    · split
      · rename_i h; subst h
        simp only [List.mem_cons]
        constructor
        · exact .inl
        · rintro (h | h)
          · exact h
          · exact .inl h
      · simp only [List.mem_cons]
        constructor
        · rintro (h | h | h)
          · exact .inr h
          · exact .inl (.inl h)
          · exact .inl (.inr h)
        · rintro ((h | h) | h)
          · exact .inr (.inl h)
          · exact .inr (.inr h)
          · exact .inl h
theorem putC_sorted {l : List Cell} {c : Cell} (h : l.Pairwise cellLt) : (putC l c).Pairwise cellLt := by
  induction l with
  | nil => simp [putC]
  | cons x r ih =>
    obtain ⟨h1, h2⟩ := List.pairwise_cons.1 h
    unfold putC
    split
    · rename_i hx
      refine List.pairwise_cons.2 ⟨fun d hd => ?_, ih h2⟩
      rcases mem_putC.1 hd with h3 | rfl
      · exact h1 d h3
      · exact hx
    · rename_i hx
      split
      · exact h
      · rename_i hc
        have hcx : cellLt c x := by
          rcases cellLt_tri x c with h3 | h3 | h3
          · exact absurd h3 hx
          · exact absurd h3 hc
          · exact h3
        refine List.pairwise_cons.2 ⟨fun d hd => ?_, h⟩
        rcases List.mem_cons.1 hd with rfl | h3
        · exact hcx
        · exact cellLt_trans hcx (h1 d h3)
theorem putC_len (l : List Cell) (c : Cell) : (putC l c).length ≤ l.length + 1 := by
  induction l with
  | nil => simp [putC]
  | cons x r ih =>
    unfold putC
    split
    · simp; exact ih
    · split <;> simp
/-- Many cells put into a list. -/
def putsC (l L : List Cell) : List Cell := L.foldl putC l
theorem putsC_snoc (l L : List Cell) (c : Cell) : putsC l (L ++ [c]) = putC (putsC l L) c := by unfold putsC; rw [List.foldl_append]; rfl
theorem mem_putsC {L : List Cell} : ∀ {l : List Cell} {d : Cell}, d ∈ putsC l L ↔ d ∈ l ∨ d ∈ L := by
  induction L with
  | nil => intro l d; simp [putsC]
  | cons x r ih =>
    intro l d
    show d ∈ putsC (putC l x) r ↔ _
    rw [ih, mem_putC, List.mem_cons, or_assoc]
theorem putsC_sorted {L : List Cell} : ∀ {l : List Cell}, l.Pairwise cellLt → (putsC l L).Pairwise cellLt := by
  induction L with
  | nil => intro l h; exact h
  | cons x r ih => intro l h; exact ih (putC_sorted h)
theorem putsC_len {L : List Cell} : ∀ (l : List Cell), (putsC l L).length ≤ l.length + L.length := by
  induction L with
  | nil => intro l; simp [putsC]
  | cons x r ih =>
    intro l
    have h1 := ih (putC l x)
    have h2 := putC_len l x
    show (putsC (putC l x) r).length ≤ _
    rw [List.length_cons]
    omega
theorem sorted_nodup {l : List Cell} (h : l.Pairwise cellLt) : l.Nodup := List.Pairwise.imp (fun {a b} (h : cellLt a b) => by rintro rfl; exact cellLt_irrefl _ h) h
/-- The cells of a list, in order: one list. -/
theorem puts_sortC {L M : List Cell} (hM : M.Nodup) (h : ∀ c, c ∈ L ↔ c ∈ M) : putsC [] L = sortC M := by
  have h1 : (putsC [] L).Pairwise cellLt := putsC_sorted List.Pairwise.nil
  refine (sortC_eq ?_ h1).symm
  refine (List.perm_ext_iff_of_nodup hM (sorted_nodup h1)).2 fun c => ?_
  rw [mem_putsC, ← h c]
  simp

/-- What comes before a cell. -/
theorem putC_split : ∀ {l : List Cell} {c : Cell} {k : Nat}, (∀ x ∈ l.take k, cellLt x c) → (∀ x, l[k]? = some x → ¬ cellLt x c) → k ≤ l.length → putC l c = if l[k]? = some c then l else l.take k ++ (c :: l.drop k)
  | [], c, k, _, _, hk => by
    have : k = 0 := by simpa using hk
    subst this
    simp [putC]
  | x :: r, c, 0, _, h2, _ => by
    have h3 := h2 x rfl
    unfold putC
    rw [if_neg h3]
    simp
  | x :: r, c, k + 1, h1, h2, hk => by
    have h3 := h1 x (by simp)
    unfold putC
    rw [if_pos h3, putC_split (k := k) (fun y hy => h1 y (by simp [hy])) (fun y hy => h2 y (by simpa using hy)) (by simpa using hk)]
    simp only [List.getElem?_cons_succ, List.take_succ_cons, List.drop_succ_cons, List.cons_append]
    split <;> rfl

theorem encCells_len (l : List Cell) : (encCells l).length = l.length := by simp [encCells]
end Go.Abs

namespace Go.Abs
open Go.RowKit Go.Proofs
theorem ins_tail {A : Ops} {E : Env} (hA : A = stdOps E) {l : List Cell} {xs : List PV} (hx : xs = encCells l) (hl : l.length ≤ 1000000) {i : Int} (hi0 : 0 ≤ i) (hi1 : i ≤ l.length) (c : Cell) {p q : PV} (hp : p = encCell c) (hq : PV.list 3 (encCells (l.take i.toNat ++ (c :: l.drop i.toNat))) = q) :
    A.sl 0 i (A.lLen xs) ∧ A.room (A.nLen (A.lApp [] (A.lSub xs 0 i))) 24 ∧ (A.tkEq (A.nLen (A.lApp [] (A.lSub xs 0 i))) (A.nLen (A.lApp [] (A.lSub xs 0 i))) ∧ A.room (A.nLen (A.lApp (A.lApp [] (A.lSub xs 0 i)) [p])) 24) ∧
      A.sl i (A.lLen xs) (A.lLen xs) ∧ (A.tkEq (A.nLen (A.lApp (A.lApp [] (A.lSub xs 0 i)) [p])) (A.nLen (A.lApp (A.lApp [] (A.lSub xs 0 i)) [p])) ∧ A.room (A.nLen (A.lApp (A.lApp (A.lApp [] (A.lSub xs 0 i)) [p]) (A.lSub xs i (A.lLen xs)))) 24) ∧
      PV.list 3 (A.lApp (A.lApp (A.lApp [] (A.lSub xs 0 i)) [p]) (A.lSub xs i (A.lLen xs))) = q := by
  subst hA hp
  have hxl : xs.length = l.length := by rw [hx, encCells_len]
  have e1 : ((xs.take i.toNat).drop (0 : Int).toNat) = encCells (l.take i.toNat) := by rw [hx]; simp [encCells]
  have e2 : ((xs.take (xs.length : Int).toNat).drop i.toNat) = encCells (l.drop i.toNat) := by
    rw [show (xs.length : Int).toNat = xs.length from rfl, List.take_length, hx]
    simp [encCells]
  have n1 : (encCells (l.take i.toNat)).length ≤ l.length := by rw [encCells_len, List.length_take]; omega
  have n2 : (encCells (l.drop i.toNat)).length ≤ l.length := by rw [encCells_len, List.length_drop]; omega
  dsimp only [stdOps]
  rw [e1, e2]
  simp only [List.nil_append, List.length_append, List.length_singleton]
  refine ⟨⟨by omega, hi0, by omega⟩, by omega, ⟨trivial, by omega⟩, ⟨hi0, by omega, by omega⟩, ⟨trivial, by omega⟩, ?_⟩
  rw [← hq]
  simp [encCells]

set_option maxHeartbeats 1000000 in
theorem ref20_put (l : List Cell) (c : Cell) (hl : l.length ≤ 1000000) {xs : List PV} (hx : xs = encCells l) : CallsPV Tryz.prog 35 [.list 3 xs, encCell c] (.list 3 (encCells (putC l c))) := by
  refine callsPV_by (clo := fun _ => false) (rows := false) env_ok Tryz.func35 rfl (enters_of Tryz.func35 (by kernel_rfl) rfl) (fun A q P Y hr hA hq => ?_)
  have hxl : xs.length = l.length := by rw [hx, encCells_len]
  have hcmp := fun x => ref20_Compare x c
  have hsp := @putC_split l c
  generalize putC l c = R at hq hsp
  obtain ⟨c1, c2, c3⟩ := c
  conv => cbv
  refine loop_set hA (fun (i : Int) s => s.put (some 5) (.val (.int .i64 i))) (fun i => 0 ≤ i ∧ i ≤ l.length ∧ ∀ x ∈ l.take i.toNat, cellLt x ⟨c1, c2, c3⟩) (fun i => (l.length - i).toNat) 0 ?_ ?_ ?_
  · conv => cbv
    exact wk_sl (by repeat (first | refine leL_same ?_ | refine leL_any ?_ | exact leL_nil))
  · exact ⟨Int.le_refl _, by omega, by simp⟩
  rintro R2 i ⟨hi0, hi1, hi2⟩ hR2
  have hout : (∀ x, l[i.toNat]? = some x → ¬ cellLt x ⟨c1, c2, c3⟩) → R = if l[i.toNat]? = some ⟨c1, c2, c3⟩ then l else l.take i.toNat ++ (⟨c1, c2, c3⟩ :: l.drop i.toNat) := fun h => hsp hi2 h (by omega)
  clear hsp
  conv => cbv
  refine ⟨draw_intro hA (by kernel_rfl), ?_⟩
  split
  · rename_i hc
    have hi : i < l.length := ltT' hA rfl (lenI hA hxl) hc
    conv => cbv
    refine idx_Cell hA hx hi0 hi (fun x hx0 => ?_)
    have ht := take_snoc' hi0 hx0
    have hcx := hcmp x
    have hneg := cmpC_neg x ⟨c1, c2, c3⟩
    have hzero := cmpC_zero x ⟨c1, c2, c3⟩
    obtain ⟨x1, x2, x3⟩ := x
    generalize cmpC ⟨x1, x2, x3⟩ ⟨c1, c2, c3⟩ = r at hcx hneg hzero
    conv => cbv
    refine call_intro hA hcx ?_
    conv => cbv
    split
    · rename_i hc2
      have g := hneg.1 (ltT hA hc2)
      have his : A.iAdd i 1 = i + 1 := addI hA _ _
      conv => cbv
      refine ⟨inR' hA his (by unfold inI64; omega), hR2 (A.iAdd i 1) _ ?_ ?_ ?_⟩
      · conv => cbv
        exact wk_sl (by repeat (first | refine leL_same ?_ | refine leL_any ?_ | exact leL_nil))
      · rw [his]
        exact ⟨by omega, by omega, mem_snoc ht hi2 g⟩
      · rw [his]; omega
    · rename_i hc2
      have g : ¬ cellLt ⟨x1, x2, x3⟩ ⟨c1, c2, c3⟩ := fun h => by have := hneg.2 h; have := ltF hA hc2; omega
      have hout := hout (fun y hy => by rw [hx0] at hy; cases hy; exact g)
      conv => cbv
      refine ⟨draw_intro hA (by kernel_rfl), ?_⟩
      split
      rotate_left
      · rename_i hc3
        have := ltF' hA rfl (lenI hA hxl) hc3
        omega
      conv => cbv
      refine idx_Cell hA hx hi0 hi (fun z hz => ?_)
      obtain rfl := Option.some.inj ((hx0).symm.trans hz)
      conv => cbv
      split
      · rename_i hc3
        have he : (⟨x1, x2, x3⟩ : Cell) = ⟨c1, c2, c3⟩ := by
          subst hA
          simp [stdOps] at hc3
          rw [hc3.1, hc3.2.1, hc3.2.2]
        rw [hx0, he, if_pos rfl] at hout
        conv => cbv
        rw [← hq, hx, hout]
      · rename_i hc3
        have he : (⟨x1, x2, x3⟩ : Cell) ≠ ⟨c1, c2, c3⟩ := by
          rintro h
          cases h
          subst hA
          simp [stdOps] at hc3
        rw [hx0, if_neg (by simpa using he)] at hout
        conv => cbv
        refine ⟨draw_intro hA (by kernel_rfl), ?_⟩
        rw [hout] at hq
        exact ins_tail hA hx hl hi0 hi1 ⟨c1, c2, c3⟩ rfl hq
  · rename_i hc
    have hi : i = l.length := by have := ltF' hA rfl (lenI hA hxl) hc; omega
    have hnone : l[i.toNat]? = none := List.getElem?_eq_none (by omega)
    have hout := hout (fun y hy => by rw [hnone] at hy; cases hy)
    rw [hnone, if_neg (by simp)] at hout
    conv => cbv
    refine ⟨draw_intro hA (by kernel_rfl), ?_⟩
    split
    · rename_i hc3
      have := ltT' hA rfl (lenI hA hxl) hc3
      omega
    conv => cbv
    refine ⟨draw_intro hA (by kernel_rfl), ?_⟩
    rw [hout] at hq
    exact ins_tail hA hx hl hi0 hi1 ⟨c1, c2, c3⟩ rfl hq

theorem ref20_has (l : List Cell) (c : Cell) {xs : List PV} (hx : xs = encCells l) : CallsPV Tryz.prog 37 [.list 3 xs, encCell c] (.bool (decide (c ∈ l))) := by
  refine callsPV_by (clo := fun _ => false) (rows := false) env_ok Tryz.func37 rfl (enters_of Tryz.func37 (by kernel_rfl) rfl) (fun A q P Y hr hA hq => ?_)
  have hxl : xs.length = l.length := by rw [hx, encCells_len]
  have hlen : l.length ≤ 9223372036854775807 := by have := (hr.mem (p := .list 3 xs) (by simp)).len; omega
  have hmem : c ∈ l → PV.bool true = q := fun h => by rw [← hq, decide_eq_true h]
  have hnot : (∀ x ∈ l, x ≠ c) → PV.bool false = q := fun h => by rw [← hq, decide_eq_false (fun h2 => h c h2 rfl)]
  clear hq
  obtain ⟨c1, c2, c3⟩ := c
  conv => cbv
  refine loop_set hA (fun (i : Int) s => s.put (some 5) (.val (.int .i64 i))) (fun i => 0 ≤ i ∧ i ≤ (l.length : Int) ∧ (fun i => ∀ x ∈ l.take i.toNat, x ≠ ⟨c1, c2, c3⟩) i) (fun i => ((l.length : Int) - i).toNat) 0 ?_ ?_ ?_
  · conv => cbv
    exact wk_sl (by repeat (first | refine leL_same ?_ | refine leL_any ?_ | exact leL_nil))
  · exact ⟨Int.le_refl _, by omega, (by simp)⟩
  rintro R i ⟨hi0, hi1, hi2⟩ hRi
  conv => cbv
  split
  ·   rename_i hc
      have hi : i < (l.length : Int) := ltT' hA rfl (lenI hA hxl) hc
      have his : A.iAdd i 1 = i + 1 := addI hA _ _
      have hir : A.inR (A.iAdd i 1) := inR' hA his (by unfold inI64; omega)
      have him : ((l.length : Int) - A.iAdd i 1).toNat < ((l.length : Int) - i).toNat := by rw [his]; omega
      have hin : (fun i => ∀ x ∈ l.take i.toNat, x ≠ ⟨c1, c2, c3⟩) (i + 1) → 0 ≤ A.iAdd i 1 ∧ A.iAdd i 1 ≤ (l.length : Int) ∧ (fun i => ∀ x ∈ l.take i.toNat, x ≠ ⟨c1, c2, c3⟩) (A.iAdd i 1) := fun h => by rw [his]; exact ⟨by omega, by omega, h⟩
      simp only at hin
      conv => cbv
      refine ⟨draw_intro hA (by kernel_rfl), ?_⟩
      refine idx_Cell hA hx hi0 hi (fun x hx0 => ?_)
      have ht := take_snoc' hi0 hx0
      have hm := List.mem_of_getElem? hx0
      obtain ⟨x1, x2, x3⟩ := x
      conv => cbv
      split
      · rename_i hc3
        have he : (⟨x1, x2, x3⟩ : Cell) = ⟨c1, c2, c3⟩ := by
          subst hA
          simp [stdOps] at hc3
          rw [hc3.1, hc3.2.1, hc3.2.2]
        conv => cbv
        exact hmem (by rw [← he]; exact hm)
      · rename_i hc3
        have he : (⟨x1, x2, x3⟩ : Cell) ≠ ⟨c1, c2, c3⟩ := by
          rintro h
          cases h
          subst hA
          simp [stdOps] at hc3
        conv => cbv
        exact ⟨hir, hRi (A.iAdd i 1) _ (by (conv => cbv); exact wk_sl (by repeat (first | refine leL_same ?_ | refine leL_any ?_ | exact leL_nil))) (hin (mem_snoc ht hi2 he)) him⟩
  rename_i hc
  have hi : i = (l.length : Int) := by have := ltF' hA rfl (lenI hA hxl) hc; omega
  conv => cbv
  exact hnot (take_all hi hi2)

theorem ref20_uses (l : List Cell) (pl : Int) (hl : l.length ≤ 1000000) {xs : List PV} (hx : xs = encCells l) : CallsPV Tryz.prog 36 [.list 3 xs, .int .i64 pl] (.list 4 (encUses (l.map fun c => ⟨c, pl⟩))) := by
  refine callsPV_by (clo := fun _ => false) (rows := false) env_ok Tryz.func36 rfl (enters_of Tryz.func36 (by kernel_rfl) rfl) (fun A q P Y hr hA hq => ?_)
  have hxl : xs.length = l.length := by rw [hx, encCells_len]
  conv => cbv
  refine loop_set hA (fun (z : Int × List PV) s => { (s.put (some 6) (.val (.int .i64 z.1))).put (some 5) (.own 0 4 z.2) with tk := [(A.nLen z.2, 55)] })
    (fun z => 0 ≤ z.1 ∧ z.1 ≤ l.length ∧ z.2 = encUses ((l.take z.1.toNat).map fun c => ⟨c, pl⟩)) (fun z => (l.length - z.1).toNat) (0, []) ?_ ?_ ?_
  · conv => cbv
    exact wk_own 5 0 4 [] _ rfl (.inr rfl) (by repeat (first | refine leL_same ?_ | refine leL_any ?_ | exact leL_nil)) (by subst hA; rfl)
  · exact ⟨Int.le_refl _, by omega, rfl⟩
  rintro R ⟨i, U⟩ ⟨hi0, hi1, hU⟩ hR
  simp only at hi0 hi1 hU
  conv => cbv
  split
  · rename_i hc
    have hi : i < l.length := ltT' hA rfl (lenI hA hxl) hc
    have his : A.iAdd i 1 = i + 1 := addI hA _ _
    have hir : A.inR (A.iAdd i 1) := inR' hA his (by unfold inI64; omega)
    conv => cbv
    refine idx_Cell hA hx hi0 hi (fun c hc => ?_)
    have htake := take_snoc' hi0 hc
    have hnext : A.lApp U [.agg [.bool c.Airport, .int .i64 c.Index, .int .i64 c.Minute, .int .i64 pl]] = encUses ((l.take (i + 1).toNat).map fun c => ⟨c, pl⟩) := by
      rw [htake]
      subst hA hU
      show encUses _ ++ _ = _
      simp [encUses, encUse]
    have hUl : U.length = i.toNat := by rw [hU]; simp [encUses]; omega
    have hroom : A.room (A.nLen (A.lApp U [.agg [.bool c.Airport, .int .i64 c.Index, .int .i64 c.Minute, .int .i64 pl]])) 32 := by
      subst hA
      show (U ++ [_]).length * (32 + 1) ≤ 140737488355328
      rw [List.length_append, List.length_singleton]
      omega
    have htk : A.tkEq (A.nLen U) (A.nLen U) := by subst hA; rfl
    obtain ⟨c1, c2, c3⟩ := c
    simp only at hnext hroom
    conv => cbv
    refine ⟨⟨htk, hroom⟩, hir, hR (A.iAdd i 1, A.lApp U [.agg [.bool c1, .int .i64 c2, .int .i64 c3, .int .i64 pl]]) _ ?_ ?_ ?_⟩
    · conv => cbv
      exact wk_sl (by repeat (first | refine leL_same ?_ | refine leL_any ?_ | exact leL_nil))
    · rw [his]; exact ⟨by omega, by omega, hnext⟩
    · rw [his]; simp only; omega
  · rename_i hc
    have hi : l.length ≤ i := ltF' hA rfl (lenI hA hxl) hc
    conv => cbv
    rw [List.take_of_length_le (by omega)] at hU
    rw [← hq, hU]
end Go.Abs
