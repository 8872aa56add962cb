/-
  slices.Clone at []int, of a row that is lent for the call: by the library's contract.
-/
import Derived.Test.YthofonhkpilifaaF2
import Derived.Shelf.Slices.Clone
namespace Go.Abs
open Go.RowKit Go.Proofs Go.Shelf

def renClone : Ren := ⟨fun _ => 37, fun x => if x = 3 then 3 else if x = 4 then 4 else 40, id⟩

theorem layClone : Lays2.n15 Try.prog renClone where
  mixed := by kernel_rfl
  f15 := by kernel_rfl
  t3 := Try.underlying3
  a3 := Try.isAgg3
  z3 := Try.sizeOf3
  v3 := Try.zeroValue3
  t4 := Try.underlying4
  a4 := Try.isAgg4
  z4 := Try.sizeOf4
  v4 := Try.zeroValue4
  t22 := Try.underlying40
  a22 := Try.isAgg40
  z22 := Try.sizeOf40
  v22 := Try.zeroValue40
  i3 := by kernel_rfl

theorem flat_ints (l : List Int) : (encInts l).flatMap PV.cells = encInts l := by
  induction l with
  | nil => rfl
  | cons x r ih => simp only [encInts, List.map_cons, List.flatMap_cons] at ih ⊢; rw [ih]; rfl

/-- What is owned reads as a list. -/
theorem rv_owned {S : Addr → Prop} {w w' : World} {t : TypeId} {v : Value} {l : List Int} (h : w'.ownsRow w.heap.size t 1 v l.length (l.map (Value.int .i64))) : RV (Snew S w w') w' (.list 1 (encInts l)) v := by
  rcases h.2 with ⟨rfl, h0⟩ | ⟨g, cap, cur, rfl, hb, hg, hn, hm, hs, ht⟩
  · have : l = [] := List.eq_nil_of_length_eq_zero h0
    subst this
    exact RV.list_nil 1 none 0 (by decide)
  · have hlt : g < w'.heap.size := (Array.getElem?_eq_some_iff.1 hg).1
    have hget : ∀ (i : Nat) (x : Int), l[i]? = some x → w'.cell? ⟨g, 0 + i, none⟩ = some (.int .i64 x) := fun i x hx => by
      have hi : i < l.length := (List.getElem?_eq_some_iff.1 hx).1
      have e1 : (cur.toList.take (l.length * 1))[i]? = (l.map (Value.int .i64))[i]? := by rw [ht]
      rw [List.getElem?_take, if_pos (by omega), Array.getElem?_toList, List.getElem?_map, hx] at e1
      simp only [World.cell?, hg, Nat.zero_add]
      simpa using e1
    have hlen : (encInts l).length = l.length := by simp [encInts]
    rw [← hlen]
    refine RV.list 1 (encInts l) (some ⟨g, 0, none⟩) ⟨g, 0, none⟩ cap (fun i _ => .int .i64 (l.getD i 0)) (fun _ => rfl) (by omega) hm (fun i x hx => ?_) (fun i x j c hx hc => ?_) (fun i x j c hx hc => ?_)
    all_goals
      rw [encInts, List.getElem?_map] at hx
      cases hq : l[i]? with
      | none => rw [hq] at hx; cases hx
      | some y => ?_
      rw [hq] at hx
      simp only [Option.map_some, Option.some.injEq] at hx
      subst hx
    · rfl
    · have hj : j = 0 := by
        cases j with
        | zero => rfl
        | succ j => simp [encInt, PV.cells] at hc
      subst hj
      have hi : i < l.length := (List.getElem?_eq_some_iff.1 hq).1
      rw [Addr.add_lit]
      refine ⟨.inr ⟨hb, hlt⟩, ?_, rfl⟩
      have := hget i y hq
      simp only [List.getD_eq_getElem?_getD, hq, Option.getD_some, Nat.mul_one, Nat.add_zero]
      exact this
    · have hj : j = 0 := by
        cases j with
        | zero => rfl
        | succ j => simp [encInt, PV.cells] at hc
      subst hj
      simp [encInt, PV.cells] at hc
      subst hc
      simp only [List.getD_eq_getElem?_getD, hq, Option.getD_some]
      exact .int _ _

theorem clone_fresh (l : List Int) (hl : l.length ≤ 1000000) : CallsFresh Try.prog 37 1 (encInts l) (.list 1 (encInts l)) := by
  refine ⟨enters_of Try.func37 (by kernel_rfl) rfl, fun S w a cap vals hS hlen hc hrv hcap hmax => ?_⟩
  rw [flat_ints] at hrv
  have hel : (encInts l).length = l.length := by simp [encInts]
  rw [hel] at hlen hcap ⊢
  have hval : ∀ j, j < l.length → vals[j]? = some (.int .i64 (l.getD j 0)) := fun j hj => by
    have hv : j < vals.length := by omega
    have e1 : (encInts l)[j]? = some (.int .i64 l[j]) := by simp [encInts, encInt, hj]
    have := hrv.2 j _ _ e1 (List.getElem?_eq_getElem hv)
    rw [List.getElem?_eq_getElem hv, RV.int_inv this]
    simp [List.getD_eq_getElem?_getD, hj]
  by_cases h0 : l = []
  · subst h0
    refine (Any.slices_Clone_int_zero layClone a cap w).mono ?_
    rintro e w' ⟨v', rfl, h1, h2, h3⟩
    exact ⟨v', rfl, h3, rv_owned (l := []) h1⟩
  · have hp : 0 < l.length := List.length_pos_iff.2 h0
    obtain ⟨b, off, p⟩ := a
    have hpn : p = none := by
      have := (hc 0 _ (hval 0 hp)).1
      cases p with
      | none => rfl
      | some q =>
        simp only [World.cell?, Addr.add] at this
        split at this <;> simp_all
    subst hpn
    refine (Any.slices_Clone_int layClone b off l.length cap l w (Nat.le_refl _) (by omega) (fun j hj => ?_)).mono ?_
    · have := (hc j _ (hval j hj)).1
      rwa [Addr.add_lit] at this
    · rintro e w' ⟨v', rfl, h1, h2, h3⟩
      rw [List.take_length] at h1
      exact ⟨v', rfl, h3, rv_owned h1⟩

end Go.Abs
