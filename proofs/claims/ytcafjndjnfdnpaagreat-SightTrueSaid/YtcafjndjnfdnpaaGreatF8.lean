/-
  sight.Shifts' closure, which calls itself: all lists that begin as one does.
  sight.Shifts.
-/
import Derived.Test.YtcafjndjnfdnpaaGreatF7
import Derived.Test.YtcafjndjnfdnpaaGreatC1
import Derived.Test.YtcafjndjnfdnpaaGreatD1
set_option linter.unusedVariables false
set_option linter.unusedSimpArgs false
namespace Go.Abs
open Go.RowKit Go.Proofs

/-- The numbers from -m to m. -/
def rangeI (m : Int) : List Int := (List.range (2 * m + 1).toNat).map fun (i : Nat) => (i : Int) - m
/-- A number for each station. -/
def shiftsL : List Station → List (List Int)
  | [] => [[]]
  | x :: r => (rangeI x.Shift).flatMap fun n => (shiftsL r).map (n :: ·)

theorem shiftsL_len : ∀ (l : List Station), (∀ s ∈ l, 0 ≤ s.Shift ∧ s.Shift ≤ 3) → (shiftsL l).length ≤ 7 ^ l.length ∧ 0 < (shiftsL l).length
  | [], _ => by simp [shiftsL]
  | x :: r, h => by
    obtain ⟨h1, h2⟩ := shiftsL_len r fun s hs => h s (List.mem_cons_of_mem _ hs)
    have hx := h x List.mem_cons_self
    have hl : (shiftsL (x :: r)).length = (2 * x.Shift + 1).toNat * (shiftsL r).length := by
      simp only [shiftsL, List.length_flatMap, List.length_map, rangeI, List.map_map]
      generalize (shiftsL r).length = k
      generalize (2 * x.Shift + 1).toNat = m
      induction m with
      | zero => simp
      | succ m ih => rw [List.range_succ, List.map_append, List.sum_append]; simp [Function.comp_def] at ih ⊢; rw [ih, Nat.succ_mul]
    rw [hl, List.length_cons, Nat.pow_succ]
    have h7 : (2 * x.Shift + 1).toNat ≤ 7 := by omega
    have h0 : 0 < (2 * x.Shift + 1).toNat := by omega
    exact ⟨by calc _ ≤ 7 * 7 ^ r.length := Nat.mul_le_mul h7 h1
                 _ = _ := Nat.mul_comm _ _, Nat.mul_pos h0 h2⟩

/-- What is kept of rows: all of the others; of row jo its first n cells. -/
def KeptR (n : Nat) (jo : Option Nat) (rest rest' : List (Option (List SV))) : Prop :=
  (∀ (i : Nat) (c : Option (List SV)), rest[i]? = some c → jo ≠ some i → rest'[i]? = some c) ∧
    ∀ (j : Nat) (cells : List SV), jo = some j → rest[j]? = some (some cells) → ∃ cells', rest'[j]? = some (some cells') ∧ cells'.length = cells.length ∧ cells'.take n = cells.take n

theorem KeptR.refl (n : Nat) (jo : Option Nat) (rest : List (Option (List SV))) : KeptR n jo rest rest := ⟨fun _ _ h _ => h, fun j cells _ h => ⟨cells, h, rfl, rfl⟩⟩
theorem KeptR.trans {n : Nat} {jo : Option Nat} {a b c : List (Option (List SV))} (h : KeptR n jo a b) (k : KeptR n jo b c) : KeptR n jo a c := by
  refine ⟨fun i x hx hj => k.1 i x (h.1 i x hx hj) hj, fun j cells hj hc => ?_⟩
  obtain ⟨c1, a1, a2, a3⟩ := h.2 j cells hj hc
  obtain ⟨c2, b1, b2, b3⟩ := k.2 j c1 hj a1
  exact ⟨c2, b1, b2.trans a2, b3.trans a3⟩

/-- The list that a call begins with: none, or the first cells of a row. -/
def ArgR (b : List Int) (rest : List (Option (List SV))) (jo : Option Nat) (arg : SV) : Prop :=
  (b = [] ∧ jo = none ∧ arg = .lit 0 []) ∨ ∃ j cap cells, jo = some j ∧ arg = .row (3 + j) 0 1 b.length cap ∧ rest[j]? = some (some cells) ∧ cap ≤ cells.length ∧ b.length ≤ cap ∧ cap ≤ maxLen ∧ cells.take b.length = (encInts b).map SV.val

theorem ArgR.kept {b : List Int} {rest rest' : List (Option (List SV))} {jo : Option Nat} {arg : SV} (h : ArgR b rest jo arg) (k : KeptR b.length jo rest rest') : ArgR b rest' jo arg := by
  rcases h with h | ⟨j, cap, cells, h1, h2, h3, h4, h5, h6, h7⟩
  · exact .inl h
  · obtain ⟨c', k1, k2, k3⟩ := k.2 j cells h1 h3
    exact .inr ⟨j, cap, c', h1, h2, k1, by omega, h5, h6, k3.trans h7⟩

def bx3 (ss acc : List PV) : List (Option (List SV)) := [some [.val (.list 3 ss)], some [.own 0 1 acc], some [.clo 105 [.box 0 0, .box 1 0, .box 2 0]]]

theorem clone_nil : CallsPV Tryz.prog 106 [.list 0 []] (.list 1 []) := by
  refine ⟨enters_of Tryz.func106 (by kernel_rfl) rfl, fun S w vs hS hv => ?_⟩
  obtain ⟨hl, hv⟩ := hv
  match vs, hl with
  | [v], _ =>
    refine (clone_calls S w [] (by simp) 0 v (hv 0 _ v rfl rfl)).mono ?_
    rintro e w' ⟨v', rfl, k1, k2⟩
    exact ⟨v', rfl, k2, rv_owned (l := []) k1⟩

def postX (ss : List PV) (ax : Ax) (b : List Int) (jo : Option Nat) (rest : List (Option (List SV))) (acc : List (List Int)) (r : SV) (bx' : List (Option (List SV))) (tk' : List (Nat × TypeId)) (ax' : Ax) : Prop :=
  r = .val (.tup []) ∧ ∃ rest', bx' = bx3 ss (encIntLs acc) ++ rest' ∧ tk' = [(acc.length, 29)] ∧ ax' = ax ∧ KeptR b.length jo rest rest'

/-- The closures that share, the regions that are gone through in each order, the slices that are no rows. -/
def cloX (n : Nat) : Bool := n == 105 || n == 1000001 || n == 1000006 || n == 2000000 + 25

theorem rangeI_len (m : Int) : (rangeI m).length = (2 * m + 1).toNat := by simp [rangeI]
theorem rangeI_take (m i : Int) (h0 : -m ≤ i) (h1 : i ≤ m) : (rangeI m).take (i + 1 + m).toNat = (rangeI m).take (i + m).toNat ++ [i] := by
  rw [show (i + 1 + m).toNat = (i + m).toNat + 1 by omega, List.take_add_one]
  have : (rangeI m)[(i + m).toNat]? = some i := by
    simp only [rangeI, List.getElem?_map]
    rw [List.getElem?_range (by omega)]
    simp; omega
  rw [this]; rfl

theorem take_app1 {α : Type} (l : List α) (x : α) (r : List α) (n : Nat) (h : n = l.length + 1) : (l ++ x :: r).take n = l ++ [x] := by
  subst h; rw [List.append_cons]; exact List.take_left' (by simp)

/-- What a list is, one number more. -/
theorem appX {E : Env} (hE : E.T = tab) {A : Ops} (hA : A = stdOps E) {b : List Int} {jo : Option Nat} {arg : SV} {rs : List (Option (List SV))} {bx0 : List (Option (List SV))} (h0 : bx0.length = 3) (harg : ArgR b rs jo arg) (hb : b.length ≤ 4) (i : Int) (sl : List SV) (tk : List (Nat × TypeId)) (ax : Ax) (K : SV → St → Prop)
    (hK : ∀ (arg' : SV) (jo' : Option Nat) (rs' : List (Option (List SV))), ArgR (b ++ [i]) rs' jo' arg' → (∀ rs'', KeptR (b ++ [i]).length jo' rs' rs'' → KeptR b.length jo rs rs'') → K arg' ⟨sl, bx0 ++ rs', tk, ax⟩) :
    A.appR [29, 29] [arg, .lit 1 [.int .i64 i]] ⟨sl, bx0 ++ rs, tk, ax⟩ K := by
  have hk : (E.T 29).k = .slice 3 := by rw [hE]; rfl
  have hi : E.T 3 = tab 3 := by rw [hE]
  refine appR_intro hA ?_
  unfold wpAppR
  simp only [hk, SV.elems, hi]
  refine ⟨trivial, rfl, by simp, by decide, rfl, ?_⟩
  have hfresh : ∀ (cap : Nat) (junk : List SV), b.length + 1 ≤ cap → cap ≤ maxLen → cap = b.length + 1 + junk.length → K (.row (bx0 ++ rs).length 0 1 (b.length + 1) cap) ⟨sl, bx0 ++ (rs ++ [some ((encInts b).map SV.val ++ (.val (.int .i64 i) :: junk))]), tk, ax⟩ := by
    intro cap junk hc1 hc2 hc3
    refine hK _ (some rs.length) _ (.inr ⟨rs.length, cap, (encInts b).map SV.val ++ (.val (.int .i64 i) :: junk), rfl, ?_, by simp, by simp [encInts]; omega, by simp; omega, hc2, ?_⟩) ?_
    · simp [h0]
    · rw [take_app1 _ _ _ _ (by simp [encInts])]; simp [encInts, encInt]
    · intro rs'' hk
      refine ⟨fun k c hkc hj => ?_, fun j cells hj hc => ?_⟩
      · have hlt : k < rs.length := (List.getElem?_eq_some_iff.1 hkc).1
        exact hk.1 k c (by rw [List.getElem?_append_left hlt]; exact hkc) (by simp; omega)
      · have hlt : j < rs.length := (List.getElem?_eq_some_iff.1 hc).1
        exact ⟨cells, hk.1 j _ (by rw [List.getElem?_append_left hlt]; exact hc) (by simp; omega), rfl, rfl⟩
  rcases harg with ⟨rfl, rfl, rfl⟩ | ⟨j, cap, cells, rfl, rfl, h3, h4, h5, h6, h7⟩
  · refine ⟨.inr rfl, by show (0 + 1) * (8 + 1) ≤ 140737488355328; omega, fun cap hc1 hc2 => ?_⟩
    have := hfresh cap (List.replicate (cap - 1) (.val .any)) (by simpa using hc1) hc2 (by simp at hc1 ⊢; omega)
    have e1 : (tab 3).size = 1 := rfl
    rw [e1]
    simp only [St.newBx, List.length_nil, List.nil_append, Nat.zero_add, List.length_singleton, Nat.mul_one, List.append_assoc, List.flatMap_cons, List.flatMap_nil, List.append_nil] at this ⊢
    exact this
  · refine ⟨rfl, by simp only [List.length_singleton]; show (b.length + 1) * (8 + 1) ≤ _; omega, cells, ?_, by omega, fun hin => ?_, fun hout cap' hc1 hc2 => ?_⟩
    · show (bx0 ++ rs).getD (3 + j) none = some cells
      rw [List.getD_eq_getElem?_getD, List.getElem?_append_right (by omega)]
      simp [h0, h3]
    · simp only [List.length_singleton] at hin
      have e : (St.mk sl (bx0 ++ rs) tk ax).setBx (3 + j) (some (cells.take (0 + b.length * 1) ++ (([PV.int IntKind.i64 i].flatMap PV.cells).map SV.val ++ cells.drop (0 + b.length * 1 + [PV.int IntKind.i64 i].length * 1)))) = ⟨sl, bx0 ++ rs.set j (some (cells.take b.length ++ (.val (.int .i64 i) :: cells.drop (b.length + 1)))), tk, ax⟩ := by
        simp only [St.setBx, St.mk.injEq, true_and, and_true]
        rw [List.set_append_right _ _ (by omega)]
        simp [h0, PV.cells]
      rw [e]
      have hjl : j < rs.length := (List.getElem?_eq_some_iff.1 h3).1
      have hlen : (cells.take b.length ++ (SV.val (.int .i64 i) :: cells.drop (b.length + 1))).length = cells.length := by simp; omega
      refine hK _ (some j) _ (.inr ⟨j, cap, _, rfl, by simp, by rw [List.getElem?_set_self hjl], by omega, by simpa using hin, h6, ?_⟩) ?_
      · rw [h7, take_app1 _ _ _ _ (by simp [encInts])]
        simp [encInts, encInt]
      · intro rs'' hk
        refine ⟨fun k c hkc hj => hk.1 k c (by rw [List.getElem?_set_ne (by simpa using hj)]; exact hkc) hj, fun j' cells' hj hc => ?_⟩
        simp only [Option.some.injEq] at hj
        subst hj
        rw [h3] at hc
        simp only [Option.some.injEq] at hc
        subst hc
        obtain ⟨c2, k1, k2, k3⟩ := hk.2 j _ rfl (List.getElem?_set_self hjl)
        refine ⟨c2, k1, k2.trans hlen, ?_⟩
        have := congrArg (List.take b.length) k3
        rw [List.take_take, List.take_take] at this
        simp only [List.length_append, List.length_singleton, show min b.length (b.length + 1) = b.length by omega] at this
        rw [this, List.take_append_of_le_length (by simp; omega), List.take_take, Nat.min_self]
    · simp only [List.length_singleton] at hout hc1 ⊢
      have := hfresh cap' (List.replicate (cap' - (b.length + 1)) (.val .any)) hc1 hc2 (by simp; omega)
      simp only [St.newBx, Nat.mul_one, List.drop_zero, List.append_assoc, List.flatMap_cons, List.flatMap_nil, List.append_nil] at this ⊢
      rw [h7]
      exact this

theorem extend_spec (ss : List Station) {xs : List PV} (hx : xs = encStations ss) (hs : ss.length ≤ 4) (hsh : ∀ s ∈ ss, 0 ≤ s.Shift ∧ s.Shift ≤ 3) (ax : Ax) : ∀ (d : Nat) (b : List Int), b.length + d = ss.length → ∀ (acc : List (List Int)) (rest : List (Option (List SV))) (jo : Option Nat) (arg : SV),
    acc.length + (shiftsL (ss.drop b.length)).length ≤ 1000000 → ArgR b rest jo arg →
    CallsR ⟨Tryz.prog, tab, cloX, true, .none⟩ 105 [arg, .box 0 0, .box 1 0, .box 2 0] (bx3 xs (encIntLs acc) ++ rest) [(acc.length, 29)] ax
      (postX xs ax b jo rest (acc ++ (shiftsL (ss.drop b.length)).map (b ++ ·))) := by
  intro d
  induction d with
  | zero =>
    intro b hb acc rest jo arg hacc harg
    refine callsR_by (clo := cloX) (rows := true) env_ok Tryz.func105 rfl (enters_of Tryz.func105 (by kernel_rfl) rfl) (by intro h; simp [bx3] at h) (fun A P' Y' nb R hA hnb hR => ?_)
    have hll : xs.length = ss.length := by rw [hx]; simp [encStations]
    have hdrop : ss.drop b.length = [] := List.drop_eq_nil_of_le (by omega)
    have hsp : acc ++ (shiftsL (ss.drop b.length)).map (b ++ ·) = acc ++ [b] := by rw [hdrop]; simp [shiftsL]
    rw [hsp] at hR
    rw [hdrop] at hacc
    have hacc' : acc.length + 1 ≤ 1000000 := by simpa [shiftsL] using hacc
    obtain ⟨L, hL⟩ : ∃ L, L = encIntLs acc := ⟨_, rfl⟩
    have hLl : L.length = acc.length := by rw [hL]; simp [encIntLs]
    rw [← hL] at hnb ⊢
    obtain ⟨N, hN⟩ : ∃ N, N = acc.length := ⟨_, rfl⟩
    rw [← hN] at hLl ⊢
    obtain ⟨M, hM⟩ : ∃ M, M = encInts b := ⟨_, rfl⟩
    have h1 : A.tkEq N (A.nLen L) := by subst hA; exact hLl.symm
    have h2 : A.room (A.nLen (A.lApp L [.list 1 M])) 24 := by
      subst hA
      show (L ++ [PV.list 1 M]).length * (24 + 1) ≤ 140737488355328
      rw [List.length_append, List.length_singleton]; omega
    have fin : ∀ sl, R ⟨sl, bx3 xs (A.lApp L [.list 1 M]) ++ rest, [(A.nLen (A.lApp L [.list 1 M]), 29)], ax⟩ := fun sl => by
      refine hR _ ⟨_, _, Wk.refl _, .inl ⟨.tup [], rfl, trivial, rfl⟩, rfl, rest, ?_, ?_, rfl, KeptR.refl _ _ _⟩
      · subst hA hL hM
        show bx3 xs (encIntLs acc ++ [PV.list 1 (encInts b)]) ++ rest = _
        simp [encIntLs, encIntL]
      · subst hA
        show [((L ++ [PV.list 1 M]).length, _)] = _
        rw [List.length_append, hLl, hN]; simp
    clear hsp
    rcases harg with ⟨rfl, rfl, rfl⟩ | ⟨j, cap, cells, rfl, rfl, h3, h4, h5, h6, h7⟩
    · have hM0 : M = [] := by rw [hM]; rfl
      subst hM0
      conv => cbv
      split
      · conv => cbv
        repeat' first | exact h1 | exact h2 | exact fin _ | apply And.intro | (refine call_intro hA clone_nil ?_; conv => cbv)
      · rename_i hno
        exfalso
        subst hA
        have hno' : decide ((([] : List PV).length : Int) = xs.length) = false := hno
        simp at hno' hb
        rw [hx] at hno'; simp [encStations] at hno'
        omega
    · obtain ⟨n, hn⟩ : ∃ n, n = b.length := ⟨_, rfl⟩
      obtain ⟨id, hid⟩ : ∃ id, id = 3 + j := ⟨_, rfl⟩
      rw [← hn, ← hid]
      have hlend : ∀ (sl : List SV) (K : SV → St → Prop), K (.val (.list 1 M)) ⟨sl, bx3 xs L ++ rest, [(N, 29)], ax⟩ → A.opn 106 [] [.row id 0 1 n cap] ⟨sl, bx3 xs L ++ rest, [(N, 29)], ax⟩ K := fun sl K hk => by
        rw [hM] at hk
        refine lend_intro hA (clone_fresh b (by omega)) (cells := cells) ?_ ?_ ?_ ?_ hk
        · show (bx3 xs L ++ rest).getD id none = some cells
          rw [hid, List.getD_eq_getElem?_getD, List.getElem?_append_right (by simp [bx3])]
          simp [bx3, h3]
        · rw [flat_ints, List.drop_zero, Nat.mul_one, hn]; exact h7
        · rw [hn]; simp [encInts]
        · intro x hx; simp only [encInts, List.mem_map] at hx; obtain ⟨y, _, rfl⟩ := hx; rfl
      conv => cbv
      split
      · conv => cbv
        repeat' first | exact h1 | exact h2 | exact fin _ | apply And.intro | (refine hlend _ _ ?_; conv => cbv)
      · rename_i hno
        exfalso
        subst hA
        have hno' : decide ((n : Int) = xs.length) = false := hno
        simp at hno'
        omega
  | succ d ih =>
    intro b hb acc rest jo arg hacc harg
    refine callsR_by (clo := cloX) (rows := true) env_ok Tryz.func105 rfl (enters_of Tryz.func105 (by kernel_rfl) rfl) (by intro h; simp [bx3] at h) (fun A P' Y' nb R hA hnb hR => ?_)
    have hll : xs.length = ss.length := by rw [hx]; simp [encStations]
    have hlt : b.length < ss.length := by omega
    obtain ⟨x, hx0⟩ : ∃ x, x = ss[b.length] := ⟨_, rfl⟩
    have hdrop : ss.drop b.length = x :: ss.drop (b.length + 1) := by rw [hx0]; exact List.drop_eq_getElem_cons hlt
    obtain ⟨r, hr⟩ : ∃ r, r = ss.drop (b.length + 1) := ⟨_, rfl⟩
    have hsx := hsh x (by rw [hx0]; exact List.getElem_mem hlt)
    rw [← hr] at hdrop
    rw [hdrop] at hR hacc
    have hrl : ∀ s ∈ r, 0 ≤ s.Shift ∧ s.Shift ≤ 3 := fun s hs => hsh s (List.mem_of_mem_drop (by rw [← hr]; exact hs))
    have hk0 : (shiftsL (x :: r)).length = (2 * x.Shift + 1).toNat * (shiftsL r).length := by
      simp only [shiftsL, List.length_flatMap, List.length_map]
      rw [List.map_const', List.sum_replicate_nat, rangeI_len]
    have hnext : ∀ (i : Int) (a : List (List Int)), a = acc ++ ((rangeI x.Shift).take (i + x.Shift).toNat).flatMap (fun v => (shiftsL r).map (fun t => b ++ (v :: t))) → -x.Shift ≤ i → i ≤ x.Shift →
        a ++ (shiftsL r).map ((b ++ [i]) ++ ·) = acc ++ ((rangeI x.Shift).take (i + 1 + x.Shift).toNat).flatMap (fun v => (shiftsL r).map (fun t => b ++ (v :: t))) ∧ a.length + (shiftsL r).length ≤ 1000000 := by
      intro i a ha h1 h2
      have e : a ++ (shiftsL r).map ((b ++ [i]) ++ ·) = acc ++ ((rangeI x.Shift).take (i + 1 + x.Shift).toNat).flatMap (fun v => (shiftsL r).map (fun t => b ++ (v :: t))) := by
        rw [rangeI_take _ _ h1 h2, List.flatMap_append, ha, List.append_assoc]
        simp
      refine ⟨e, ?_⟩
      have hl := congrArg List.length e
      rw [List.length_append, List.length_map, List.length_append, List.length_flatMap] at hl
      simp only [List.length_map] at hl
      rw [List.map_const', List.sum_replicate_nat, List.length_take, rangeI_len] at hl
      rw [hl]
      have : min (i + 1 + x.Shift).toNat (2 * x.Shift + 1).toNat * (shiftsL r).length ≤ (2 * x.Shift + 1).toNat * (shiftsL r).length := Nat.mul_le_mul_right _ (Nat.min_le_right _ _)
      omega
    have hend : acc ++ (shiftsL (x :: r)).map (b ++ ·) = acc ++ ((rangeI x.Shift).take (x.Shift + 1 + x.Shift).toNat).flatMap (fun v => (shiftsL r).map (fun t => b ++ (v :: t))) := by
      rw [List.take_of_length_le (by rw [rangeI_len]; omega)]
      simp [shiftsL, List.map_flatMap, Function.comp_def]
    obtain ⟨L, hL⟩ : ∃ L, L = encIntLs acc := ⟨_, rfl⟩
    obtain ⟨N, hN⟩ : ∃ N, N = acc.length := ⟨_, rfl⟩
    rw [← hL] at hnb ⊢
    rw [← hN]
    have hlenA : ∀ n, n = b.length → ∃ y, ss[n]? = some y ∧ y = x := fun n hn => ⟨_, by rw [hn]; exact List.getElem?_eq_getElem hlt, hx0.symm⟩
    have hfirst : ∀ (i : Int), i = (b.length : Int) → A.iEq i (A.lLen xs) = false := fun i hi => by
      subst hA hi
      show decide ((b.length : Int) = xs.length) = false
      rw [hll]; simp; omega
    obtain ⟨m, hm⟩ : ∃ m, m = x.Shift := ⟨_, rfl⟩
    rw [← hm] at hnext hend hsx
    have hb4 : b.length ≤ 4 := by omega
    have harg0 := harg
    have hhead : ∀ (k : Int) (y : Station), k = (b.length : Int) → ss[k.toNat]? = some y → y.Shift = m := by
      intro k y hk hy
      subst hk
      rw [Int.toNat_natCast, List.getElem?_eq_getElem hlt] at hy
      rw [hm, hx0]; simp only [Option.some.injEq] at hy; rw [hy]
    rcases harg with ⟨hb0, hjo, rfl⟩ | ⟨j, cap, cells, hjo, rfl, h3, h4, h5, h6, h7⟩
    case' inl =>
      have hk : A.lLen [] = (b.length : Int) := by subst hA hb0; rfl
      conv => cbv
      split
      · rename_i hno
        have hf : False := absurd (show A.iEq (A.lLen []) (A.lLen xs) = true from hno) (by rw [hfirst _ hk]; simp); cases hf
      conv => cbv
      refine idx_Station hA hx (by show 0 ≤ A.lLen []; omega) (by show A.lLen [] < _; omega) (fun y v hy hv => ?_)
      have hym := hhead _ y hk hy
    case' inr =>
      obtain ⟨n, hn⟩ : ∃ n, n = b.length := ⟨_, rfl⟩
      obtain ⟨id, hid⟩ : ∃ id, id = 3 + j := ⟨_, rfl⟩
      have hk : A.iNat n = (b.length : Int) := by subst hA hn; rfl
      rw [← hn, ← hid] at harg0 ⊢
      conv => cbv
      split
      · rename_i hno
        have hf : False := absurd (show A.iEq (A.iNat n) (A.lLen xs) = true from hno) (by rw [hfirst _ hk]; simp); cases hf
      conv => cbv
      refine idx_Station hA hx (by show 0 ≤ A.iNat n; omega) (by show A.iNat n < _; omega) (fun y v hy hv => ?_)
      have hym := hhead _ y hk hy
    all_goals
      obtain ⟨y1, y2, y3⟩ := y
      simp only at hym
      subst hym
      conv => cbv
      refine ⟨by subst hA; show -9223372036854775808 < y2 ∧ y2 ≤ 9223372036854775807; omega, ?_⟩
      refine loop_set hA (fun (z : Int × List PV × Nat × List (Option (List SV))) s => ⟨(s.put (some 6) (.val (.int .i64 z.1))).sl, bx3 xs z.2.1 ++ z.2.2.2, [(z.2.2.1, 29)], s.ax⟩)
        (fun z => -y2 ≤ z.1 ∧ z.1 ≤ y2 + 1 ∧ KeptR b.length jo rest z.2.2.2 ∧ ∃ a, z.2.1 = encIntLs a ∧ z.2.2.1 = a.length ∧ a = acc ++ ((rangeI y2).take (z.1 + y2).toNat).flatMap (fun v => (shiftsL r).map (fun t => b ++ (v :: t))))
        (fun z => (y2 + 1 - z.1).toNat) (A.iNeg y2, L, N, rest) ?_ ?_ ?_
      · conv => cbv
        exact wk_sl (by simp [leL, leS])
      · have : A.iNeg y2 = -y2 := by subst hA; rfl
        refine ⟨by rw [this]; exact Int.le_refl _, by rw [this]; omega, KeptR.refl _ _ _, acc, hL, hN, ?_⟩
        show acc = acc ++ ((rangeI y2).take (A.iNeg y2 + y2).toNat).flatMap _
        rw [this, show (-y2 + y2).toNat = 0 by omega]
        simp
      · rintro R2 ⟨i, L', N', rs⟩ ⟨hi1, hi2, hk, a, hL', hN', ha⟩ hRR
        simp only at hi1 hi2 hk hL' hN' ha
        conv => cbv
        split
        · rename_i hc
          have hc' : i ≤ y2 := by subst hA; simpa [stdOps] using hc
          obtain ⟨ha2, hbd⟩ := hnext i a ha hi1 hc'
          obtain ⟨a2, ha2'⟩ : ∃ a2, a2 = a ++ (shiftsL r).map ((b ++ [i]) ++ ·) := ⟨_, rfl⟩
          obtain ⟨L2, hL2⟩ : ∃ L2, L2 = encIntLs a2 := ⟨_, rfl⟩
          obtain ⟨N2, hN2⟩ : ∃ N2, N2 = a2.length := ⟨_, rfl⟩
          have hdeep : ∀ (arg' : SV) (jo' : Option Nat) (rs' : List (Option (List SV))), ArgR (b ++ [i]) rs' jo' arg' → CallsR ⟨Tryz.prog, tab, cloX, true, .none⟩ 105 [arg', .box 0 0, .box 1 0, .box 2 0] (bx3 xs L' ++ rs') [(N', 29)] ax
              (fun r bx' tk' ax' => r = .val (.tup []) ∧ ∃ rest', bx' = bx3 xs L2 ++ rest' ∧ tk' = [(N2, 29)] ∧ ax' = ax ∧ KeptR (b ++ [i]).length jo' rs' rest') := by
            intro arg' jo' rs' har
            have hd : ss.drop (b ++ [i]).length = r := by rw [hr]; simp
            have := ih (b ++ [i]) (by simp; omega) a rs' jo' arg' (by rw [hd]; exact hbd) har
            rw [hd, ← ha2', ← hL', ← hN'] at this
            unfold postX at this
            rw [← hL2, ← hN2] at this
            exact this
          have hinr : A.inR (A.iAdd i 1) := by subst hA; show inI64 (i + 1); unfold inI64; omega
          have hinv : ∀ rs'', KeptR b.length jo rs rs'' → -y2 ≤ A.iAdd i 1 ∧ A.iAdd i 1 ≤ y2 + 1 ∧ KeptR b.length jo rest rs'' ∧ ∃ a, L2 = encIntLs a ∧ N2 = a.length ∧ a = acc ++ ((rangeI y2).take (A.iAdd i 1 + y2).toNat).flatMap (fun v => (shiftsL r).map (fun t => b ++ (v :: t))) := by
            intro rs'' hk2
            have e : A.iAdd i 1 = i + 1 := by subst hA; rfl
            rw [e]
            exact ⟨by omega, by omega, hk.trans hk2, a2, hL2, hN2, by rw [ha2', ha2]⟩
          have hmu : (y2 + 1 - A.iAdd i 1).toNat < (y2 + 1 - i).toNat := by
            have e : A.iAdd i 1 = i + 1 := by subst hA; rfl
            rw [e]; omega
          have hargk := harg0.kept hk
          conv => cbv
          repeat' first
            | exact hinr
            | (refine appX (E := ⟨Tryz.prog, tab, cloX, true, .none⟩) rfl hA (bx0 := bx3 xs L') rfl hargk hb4 i _ _ _ _ (fun arg' jo' rs' har hk1 => ?_); conv => cbv)
            | (refine deepR_intro hA (hdeep arg' jo' rs' har) ?_; rintro _ _ _ _ ⟨rfl, rs'', rfl, rfl, rfl, hk2⟩; conv => cbv)
            | exact hRR (A.iAdd i 1, L2, N2, rs'') _ (by (conv => cbv); exact wk_sl (by simp [leL, leS])) (hinv rs'' (hk1 rs'' hk2)) hmu
            | apply And.intro
        · rename_i hc
          have hc' : i = y2 + 1 := by
            have : ¬ i ≤ y2 := by subst hA; simpa [stdOps] using hc
            omega
          conv => cbv
          subst hc'
          refine hR _ ⟨_, _, Wk.refl _, .inl ⟨.tup [], rfl, trivial, rfl⟩, rfl, rs, ?_, ?_, rfl, hk⟩
          · rw [hend, ← ha, ← hL']; rfl
          · rw [hend, ← ha, ← hN']
end Go.Abs

namespace Go.Abs
open Go.RowKit Go.Proofs

def shiftsOk (l : List Station) : Bool := decide (l.length ≤ 4) && !l.any shiftBad

theorem sight_Shifts (l : List Station) {xs : List PV} (hx : xs = encStations l) : CallsPV Tryz.prog 45 [.list 3 xs] (if shiftsOk l then .tup [.list 1 (encIntLs (shiftsL l)), .int .i64 0] else .tup [.list 0 [], .int .i64 230]) := by
  refine callsPV_by (clo := fun n => n == 105) (rows := false) env_ok Tryz.func45 rfl (enters_of Tryz.func45 (by kernel_rfl) rfl) (fun A q P Y hr hA hq => ?_)
  have hll : xs.length = l.length := by rw [hx]; simp [encStations]
  have hany := containsFunc_Station shiftBad l hx (fun x _ => sight_Shifts1 x)
  obtain ⟨bad, hbad⟩ : ∃ bad, bad = l.any shiftBad := ⟨_, rfl⟩
  obtain ⟨L, hL⟩ : ∃ L, L = encIntLs (shiftsL l) := ⟨_, rfl⟩
  have hlast : shiftsOk l = true → ∀ ax, CallsR ⟨Tryz.prog, tab, fun n => n == 105, false, .none⟩ 105 [.lit 0 [], .box 0 0, .box 1 0, .box 2 0] [some [.val (.list 3 xs)], some [.lit 0 []], some [.clo 105 [.box 0 0, .box 1 0, .box 2 0]]] [] ax
      (fun r bx' tk' ax' => r = .val (.tup []) ∧ ∃ rest N, bx' = bx3 xs L ++ rest ∧ tk' = [(N, 29)] ∧ ax' = ax) := by
    intro hok ax
    simp only [shiftsOk, Bool.and_eq_true, decide_eq_true_eq, Bool.not_eq_true', List.any_eq_false, shiftBad, inB] at hok
    have hsh : ∀ s ∈ l, 0 ≤ s.Shift ∧ s.Shift ≤ 3 := fun s hs => by have := hok.2 s hs; simpa using this
    have hlen := shiftsL_len l hsh
    have h7 : 7 ^ l.length ≤ 7 ^ 4 := Nat.pow_le_pow_right (by omega) hok.1
    have h := extend_spec l hx hok.1 hsh ax l.length [] (by simp) [] [] none (.lit 0 []) (by simp; omega) (.inl ⟨rfl, rfl, rfl⟩)
    have h' := CallsR.flags (clo' := fun n => n == 105) (rows' := false) h
    refine CallsR.wk (svs2 := [.lit 0 [], .box 0 0, .box 1 0, .box 2 0]) (bx2 := bx3 xs (encIntLs []) ++ []) (tk2 := [((([] : List (List Int)).length), 29)]) (ax2 := ax) (by intro h; simp at h) ?_ ?_
    · exact Wk.ownBx _ _ [] ax 1 0 0 1 [.lit 0 []] [] 29 rfl rfl (.inr rfl)
    · refine ⟨h'.1, fun B S0 w0 G S w vs a b c d => (h'.2 B S0 w0 G S w vs a b c d).mono ?_⟩
      rintro e w' ⟨v, r, bx', tk', ax', G2, S2, ⟨hq1, rest', hq2, hq3, hq4, _⟩, he⟩
      refine ⟨v, r, bx', tk', ax', G2, S2, ⟨hq1, rest', _, ?_, hq3, hq4⟩, he⟩
      rw [hq2, hL]; simp
  rw [← hL] at hq
  have hsok : shiftsOk l = (decide (l.length ≤ 4) && !bad) := by rw [hbad]; rfl
  rw [← hbad] at hany
  rw [hsok] at hq hlast
  conv => cbv
  split
  · rename_i h1
    conv => cbv
    rw [← hq, if_neg]
    have : 4 < l.length := by subst hA; simp [stdOps] at h1; omega
    simp; intro h; omega
  · rename_i h1
    conv => cbv
    refine callB hA hany rfl (fun r hr => ?_)
    conv => cbv
    have h4 : l.length ≤ 4 := by subst hA; simp [stdOps] at h1; omega
    split
    · conv => cbv
      rw [← hq, if_neg]
      rw [← hr]; simp
    · conv => cbv
      rw [← hr] at hlast hq
      refine deepR_intro hA (hlast (by simp [h4]) _) ?_
      rintro _ _ _ _ ⟨rfl, rest, N, rfl, rfl, rfl⟩
      conv => cbv
      rw [← hq, if_pos (by simp [h4])]
end Go.Abs
