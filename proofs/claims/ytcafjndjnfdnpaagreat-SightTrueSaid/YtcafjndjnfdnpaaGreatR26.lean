/-
  Law's (chapter 16) less: a path comes before another one by its times.
  Plain facts of chapter 16's laws: all paths fly, in order; each path that flies is among them.
  Plain facts of chapter 16's laws: reached, moved, the window taken apart, the legs' durations.
  Plain facts of chapter 16's laws: times are small.
-/
import Derived.Test.YtcafjndjnfdnpaaGreatR20
import Derived.Test.YtcafjndjnfdnpaaGreatG1
import Derived.Test.YtcafjndjnfdnpaaGreatS1
import Derived.Test.YtcafjndjnfdnpaaGreatP1
import Derived.Test.YtcafjndjnfdnpaaGreatF24
set_option linter.unusedVariables false
set_option linter.unusedSimpArgs false
namespace Go.Abs
open Go.RowKit Go.Proofs

/-- The first place where they are not equal decides. -/
def lessB : List Int → List Int → Bool
  | a :: r, b :: s => if a = b then lessB r s else decide (a < b)
  | _, _ => false
theorem lessB_iff : ∀ {l m : List Int}, lexL l m → lessB l m = true
  | a :: r, b :: s, h => by
    unfold lexL at h
    unfold lessB
    rcases h with h | ⟨rfl, h⟩
    · rw [if_neg (by omega), decide_eq_true h]
    · rw [if_pos rfl]; exact lessB_iff h
  | [], _, h => by unfold lexL at h; exact h.elim
  | _ :: _, [], h => by unfold lexL at h; exact h.elim
theorem lessB_nil {l m : List Int} (h : l = [] ∨ m = []) : lessB l m = false := by
  rcases h with rfl | rfl
  · simp [lessB]
  · cases l <;> simp [lessB]
theorem drop_get {α : Type} {l : List α} {i : Nat} {x : α} (h : l[i]? = some x) : l.drop i = x :: l.drop (i + 1) := by
  obtain ⟨h1, h2⟩ := List.getElem?_eq_some_iff.1 h
  rw [List.drop_eq_getElem_cons h1, h2]

end Go.Abs

namespace Go.Abs
open Go.RowKit Go.Proofs

theorem countE_case (t : Tables) (f : Flight) (o : Opt) : (countE t f o ≠ 0 ∧ allP t f o = [] ∧ countN t f o = 0) ∨
    (countE t f o = 0 ∧ planE t f o = 0 ∧ allP t f o = (allT t f o).map (fun ts => ⟨planW f o, ts⟩) ∧ countN t f o = ((allP t f o).length : Int) ∧ 1 ≤ (allP t f o).length ∧ (allP t f o).length ≤ 4096) := by
  rcases Decidable.em (countE t f o = 0) with h | h
  · refine .inr ⟨h, (countE_plan h).1, by rw [allP, if_pos h], ?_, ?_, ?_⟩
    · rw [countN, if_pos h, allP, if_pos h, List.length_map, allT_len]
    · rw [allP, if_pos h, List.length_map, allT_len]
      obtain ⟨k, w, hp⟩ := planE_plan (countE_plan h).1
      exact prodB_pos fun b hb => (hp.all b hb).2.1
    · rw [allP, if_pos h, List.length_map, allT_len]
      exact (countE_plan h).2
  · exact .inl ⟨h, by rw [allP, if_neg h], by rw [countN, if_neg h]⟩

theorem allP_iff {t : Tables} {f : Flight} {o : Opt} (h : countE t f o = 0) {p : Path} : p ∈ allP t f o ↔ fliesB t f o p = true := by
  rw [allP, if_pos h, fliesB_ok (countE_plan h).1, List.mem_map]
  constructor
  · rintro ⟨ts, h1, rfl⟩
    exact ⟨rfl, mem_extL.1 h1⟩
  · rintro ⟨h1, h2⟩
    refine ⟨p.Times, mem_extL.2 h2, ?_⟩
    obtain ⟨w, T⟩ := p
    simp only at h1 ⊢
    rw [h1]

theorem allP_less {t : Tables} {f : Flight} {o : Opt} {i : Nat} {a b : Path} (ha : (allP t f o)[i]? = some a) (hb : (allP t f o)[i + 1]? = some b) : lessB a.Times b.Times = true := by
  unfold allP at ha hb
  split at ha
  · rw [if_pos (by assumption)] at hb
    rw [List.getElem?_map] at ha hb
    obtain ⟨x, hx, rfl⟩ := Option.map_eq_some_iff.1 ha
    obtain ⟨y, hy, rfl⟩ := Option.map_eq_some_iff.1 hb
    have hs := extL_sorted (firstB f o :: planL t f o) 0
    obtain ⟨h1, e1⟩ := List.getElem?_eq_some_iff.1 hx
    obtain ⟨h2, e2⟩ := List.getElem?_eq_some_iff.1 hy
    have := List.pairwise_iff_getElem.1 hs i (i + 1) h1 h2 (by omega)
    refine lessB_iff ?_
    simp only
    rw [← e1, ← e2]
    exact this
  · simp at ha
end Go.Abs

namespace Go.Abs
open Go.RowKit Go.Proofs

theorem allP_get {t : Tables} {f : Flight} {o : Opt} (h : countE t f o = 0) : allP t f o = (allT t f o).map (fun ts => ⟨planW f o, ts⟩) := by rw [allP, if_pos h]
theorem allP_flies {t : Tables} {f : Flight} {o : Opt} (h : countE t f o = 0) {p : Path} (hp : p ∈ allP t f o) : p.Way = planW f o ∧ fliesT 0 (firstB f o :: planL t f o) p.Times :=
  (fliesB_ok (countE_plan h).1).1 ((allP_iff h).1 hp)

/-- Each element is between its bounds, and both bounds are reached. -/
theorem reached {t : Tables} {f : Flight} {o : Opt} (h : countE t f o = 0) :
    (∀ p ∈ allP t f o, p.Times.length = (boundsB t f o).length ∧ ∀ (k : Nat) (x : Int) (b : Bound), p.Times[k]? = some x → (boundsB t f o)[k]? = some b → b.Lo ≤ x ∧ x ≤ b.Hi) ∧
    (∃ p ∈ allP t f o, p.Times = (boundsB t f o).map (·.Lo)) ∧ (∃ p ∈ allP t f o, p.Times = (boundsB t f o).map (·.Hi)) := by
  have hb : boundsB t f o = sumT ⟨0, 0⟩ (firstB f o :: planL t f o) := by rw [boundsB, if_pos (countE_plan h).1]
  obtain ⟨k, w, hp⟩ := planE_plan (countE_plan h).1
  have hle : ∀ b ∈ firstB f o :: planL t f o, b.Lo ≤ b.Hi := fun b hb => (hp.all b hb).2.1
  rw [hb]
  refine ⟨fun p hp => ?_, ⟨⟨planW f o, (sumT ⟨0, 0⟩ (firstB f o :: planL t f o)).map (·.Lo)⟩, ?_, rfl⟩, ⟨⟨planW f o, (sumT ⟨0, 0⟩ (firstB f o :: planL t f o)).map (·.Hi)⟩, ?_, rfl⟩⟩
  · obtain ⟨_, h2⟩ := allP_flies h hp
    refine ⟨by rw [sumT_len]; exact (fliesT_get.1 h2).1, fun k x b h3 h4 => flies_in h2 (x := ⟨0, 0⟩) (Int.le_refl _) (Int.le_refl _) k x b h3 h4⟩
  · exact (allP_iff h).2 ((fliesB_ok (countE_plan h).1).2 ⟨rfl, flies_lo ⟨0, 0⟩ hle⟩)
  · exact (allP_iff h).2 ((fliesB_ok (countE_plan h).1).2 ⟨rfl, flies_hi ⟨0, 0⟩ hle⟩)

theorem planE_of {t : Tables} {f : Flight} {o : Opt} {k : Kind} (hc : checkF t f = 0) (hk : t.Kinds[f.Class.toNat]? = some k) (hcan : o.Cancel = false) (hO : isO k.Longest f.Ways.length f.Cancel o) : planE t f o = 0 := by
  have hm : o ∈ measL t f := by rw [measL, hk]; exact (measO_iff o).2 hO
  rw [planE, delayF, if_pos hc, if_pos hm]
  simp [hcan]

/-- Without the delay on the ground. -/
theorem moves_ground {t : Tables} {f : Flight} {o : Opt} (h : countE t f o = 0) :
    countE t f { o with Delay := 0 } = 0 ∧ allP t f o = (allP t f { o with Delay := 0 }).map fun p => ⟨p.Way, p.Times.map (· + o.Delay)⟩ := by
  obtain ⟨k, w, hp⟩ := planE_plan (countE_plan h).1
  have h0 := hp.d0
  have h1 : planE t f { o with Delay := 0 } = 0 := planE_of hp.chk hp.hk hp.can (.inr ⟨hp.can, Int.le_refl _, rfl, by simp only; omega, hp.w0.1, hp.w0.2, hp.h0.1, hp.h0.2.2, hp.h0.2.1⟩)
  have e1 : firstB f o = ⟨(firstB f { o with Delay := 0 }).Lo + o.Delay, (firstB f { o with Delay := 0 }).Hi + o.Delay⟩ := by simp [firstB]
  have e2 : planL t f o = planL t f { o with Delay := 0 } := rfl
  have e3 : allT t f o = (allT t f { o with Delay := 0 }).map (·.map (· + o.Delay)) := by
    unfold allT
    rw [e1, extL_move, e2]
  have e4 : manyT t f { o with Delay := 0 } = manyT t f o := by rw [← allT_len, ← allT_len, e3, List.length_map]
  have e5 : countE t f { o with Delay := 0 } = 0 := by rw [countE, if_pos h1, e4, if_pos (countE_plan h).2]
  refine ⟨e5, ?_⟩
  rw [allP_get h, allP_get e5, e3, List.map_map, List.map_map]
  rfl

/-- Without the minutes in the air. -/
theorem moves_air {t : Tables} {f : Flight} {o : Opt} (h : countE t f o = 0) :
    countE t f { o with Hold := 0 } = 0 ∧ allP t f o = (allP t f { o with Hold := 0 }).map fun p => ⟨p.Way, lateL o.Hold p.Times⟩ := by
  obtain ⟨k, w, hp⟩ := planE_plan (countE_plan h).1
  have h0 := hp.d0
  have h1 : planE t f { o with Hold := 0 } = 0 := planE_of hp.chk hp.hk hp.can (.inr ⟨hp.can, h0.1, h0.2.2.2, h0.2.2.1, hp.w0.1, hp.w0.2, Int.le_refl _, rfl, by simp only; omega⟩)
  have e1 : firstB f o = firstB f { o with Hold := 0 } := rfl
  have hl0 : planL t f { o with Hold := 0 } = legsB k 0 w.Legs := by
    unfold planL
    rw [show planW f { o with Hold := 0 } = planW f o from rfl, hp.hk, hp.hl]
  have e2 : planL t f o = lateB o.Hold (planL t f { o with Hold := 0 }) := by rw [hl0, hp.leg, legsB_late]
  have hne : planL t f { o with Hold := 0 } ≠ [] := by
    rw [hl0]
    intro e
    have := congrArg List.length e
    rw [legsB_len] at this
    have h2 := hp.lok.1
    simp at this
    rw [this] at h2
    simp at h2
  have e3 : allT t f o = (allT t f { o with Hold := 0 }).map (lateL o.Hold) := by
    unfold allT
    rw [e1, e2]
    cases hL : planL t f { o with Hold := 0 } with
    | nil => exact absurd hL hne
    | cons x r => rw [← extL_late]; rfl
  have e4 : manyT t f { o with Hold := 0 } = manyT t f o := by rw [← allT_len, ← allT_len, e3, List.length_map]
  have e5 : countE t f { o with Hold := 0 } = 0 := by rw [countE, if_pos h1, e4, if_pos (countE_plan h).2]
  refine ⟨e5, ?_⟩
  rw [allP_get h, allP_get e5, e3, List.map_map, List.map_map]
  rfl

/-- The durations of the legs. -/
theorem legs_dur {t : Tables} {f : Flight} {o : Opt} (h : countE t f o = 0) : ∃ k w, PlanOk t f o k w ∧ ∀ p ∈ allP t f o, p.Way = planW f o ∧ p.Times.length = w.Legs.length + 1 ∧
    ∀ (n : Nat) (l : Leg) (x y : Int), w.Legs[n]? = some l → p.Times[n]? = some x → p.Times[n + 1]? = some y →
      1 ≤ y - x - (if n + 1 = w.Legs.length then o.Hold else 0) ∧ l.Length ≤ (y - x - (if n + 1 = w.Legs.length then o.Hold else 0)) * k.Fast ∧ (y - x - (if n + 1 = w.Legs.length then o.Hold else 0) - 1) * k.Slow < l.Length ∧
      y - x - (if n + 1 = w.Legs.length then o.Hold else 0) ≤ 4096 := by
  obtain ⟨k, w, hp⟩ := planE_plan (countE_plan h).1
  refine ⟨k, w, hp, fun p hm => ?_⟩
  obtain ⟨h1, h2⟩ := allP_flies h hm
  have h3 := flies_iff.1 h2
  rw [hp.leg, legsB_len] at h3
  refine ⟨h1, h3.1, fun n l x y hl hx hy => ?_⟩
  have h4 := h3.2.2 n _ x y (legsB_get hl) hx hy
  obtain ⟨c1, c2⟩ := hp.lok.2.2 l (List.mem_of_getElem? hl)
  have k1 := hp.kok.s1
  have k2 := hp.kok.s2
  unfold boundK at h4
  simp only at h4
  generalize (if n + 1 = w.Legs.length then o.Hold else 0) = g at h4 ⊢
  obtain ⟨s1, s2, s3, s4⟩ := minutesC_spec c1 (show 1 ≤ k.Fast by omega)
  obtain ⟨r1, r2, r3, r4⟩ := minutesC_spec c1 (show 1 ≤ k.Slow by omega)
  refine ⟨by omega, ?_, ?_, by omega⟩
  · refine Int.le_trans s3 (Int.mul_le_mul_of_nonneg_right (by omega) (by omega))
  · refine Int.lt_of_le_of_lt (Int.mul_le_mul_of_nonneg_right (b := minutesC l.Length k.Slow - 1) (by omega) (by omega)) r4

/-- The window taken apart: a flight of one minute of it. -/
def oneF (f : Flight) (m : Int) : Flight := { f with Window := ⟨m, m + 1⟩ }
theorem one_check {t : Tables} {f : Flight} {m : Int} (h : checkF t f = 0) (h0 : 0 ≤ m) (h1 : m < 1440) : checkF t (oneF f m) = 0 := by
  obtain ⟨ha, hb⟩ := checkF_zero h
  have : flightB t (oneF f m) = true := by
    unfold flightB at hb ⊢
    simp only [Bool.and_eq_true] at hb ⊢
    obtain ⟨⟨⟨h2, _⟩, h3⟩, h4⟩ := hb
    refine ⟨⟨⟨h2, ?_⟩, h3⟩, h4⟩
    have a1 : ¬ m < 0 := by omega
    have a2 : ¬ m + 1 ≤ m := by omega
    have a3 : ¬ 1440 < m + 1 := by omega
    have a4 : ¬ 16 < m + 1 - m := by omega
    show (!(decide (m < 0) || decide (m + 1 ≤ m) || decide (1440 < m + 1) || decide (16 < m + 1 - m))) = true
    rw [decide_eq_false a1, decide_eq_false a2, decide_eq_false a3, decide_eq_false a4]
    rfl
  rw [checkF, ha, this]; rfl
theorem window_one {t : Tables} {f : Flight} {o : Opt} (h : countE t f o = 0) {m : Int} (h0 : f.Window.From ≤ m) (h1 : m < f.Window.To) :
    countE t (oneF f m) o = 0 ∧ allT t (oneF f m) o = extL 0 (⟨m + o.Delay, m + o.Delay⟩ :: planL t f o) := by
  obtain ⟨k, w, hp⟩ := planE_plan (countE_plan h).1
  have hw := hp.win
  have hd := hp.d0
  have hh := hp.h0
  have hc := one_check hp.chk (m := m) (by omega) (by omega)
  have hpl : planE t (oneF f m) o = 0 := planE_of hc hp.hk hp.can (.inr ⟨hp.can, hd.1, hd.2.2.2, hd.2.2.1, hp.w0.1, hp.w0.2, hh.1, hh.2.2, hh.2.1⟩)
  have e1 : firstB (oneF f m) o = ⟨m + o.Delay, m + o.Delay⟩ := by simp [firstB, oneF]
  have e2 : planL t (oneF f m) o = planL t f o := rfl
  have hm : manyT t (oneF f m) o ≤ 4096 := by
    have h2 := (countE_plan h).2
    have h3 := hp.first.2.1
    unfold manyT at h2 ⊢
    rw [e1, e2, prodB]
    rw [prodB] at h2
    refine Nat.le_trans (Nat.mul_le_mul_right _ ?_) h2
    unfold widthB
    simp only
    omega
  refine ⟨by rw [countE, if_pos hpl, if_pos hm], ?_⟩
  rw [allT, e1, e2]

/-- The paths of the window's minutes, up to one of them. -/
def winL (t : Tables) (f : Flight) (o : Opt) (n : Nat) : List Path := (List.range n).flatMap fun (i : Nat) => allP t (oneF f (f.Window.From + (i : Int))) o
theorem winL_succ (t : Tables) (f : Flight) (o : Opt) (n : Nat) : winL t f o (n + 1) = winL t f o n ++ allP t (oneF f (f.Window.From + n)) o := by
  unfold winL
  rw [List.range_succ, List.flatMap_append]
  simp
theorem winL_all {t : Tables} {f : Flight} {o : Opt} (h : countE t f o = 0) : winL t f o (f.Window.To - f.Window.From).toNat = allP t f o := by
  rw [allP_get h, allT, show firstB f o = ⟨f.Window.From + o.Delay, f.Window.To - 1 + o.Delay⟩ from rfl, extL_window, rangeL_add, List.flatMap_map, List.map_flatMap, rangeL, List.flatMap_map, winL]
  rw [show f.Window.To - 1 - f.Window.From + 1 = f.Window.To - f.Window.From by omega]
  have hfc : ∀ {α β : Type} {l : List α} {F G : α → List β}, (∀ a ∈ l, F a = G a) → l.flatMap F = l.flatMap G := fun {α β l F G} h => by
    rw [List.flatMap_def, List.flatMap_def, List.map_congr_left h]
  refine hfc fun i hi => ?_
  have hi' := List.mem_range.1 hi
  obtain ⟨h1, h2⟩ := window_one h (m := f.Window.From + i) (by omega) (by omega)
  rw [allP_get h1, h2]
  rfl
end Go.Abs

namespace Go.Abs
open Go.RowKit Go.Proofs

theorem take_exI {α : Type} {l : List α} {i : Int} (h0 : 0 ≤ i) {x : α} (hx : l[i.toNat]? = some x) (P : α → Prop) :
    (∃ a ∈ l.take (i + 1).toNat, P a) ↔ ((∃ a ∈ l.take i.toNat, P a) ∨ P x) := by
  rw [show (i + 1).toNat = i.toNat + 1 by omega, List.take_add_one, hx]
  simp [or_and_right, exists_or]

theorem times_small {t : Tables} {f : Flight} {o : Opt} (h : countE t f o = 0) {p : Path} (hp : p ∈ allP t f o) : 2 ≤ p.Times.length ∧ p.Times.length ≤ 9 ∧ ∀ (k : Nat) (x : Int), p.Times[k]? = some x → 0 ≤ x ∧ x ≤ 1600 + 5000 * (k : Int) := by
  obtain ⟨k, w, hP, hd⟩ := legs_dur h
  obtain ⟨_, hlen, hd⟩ := hd p hp
  have hlk := hP.lok
  have hl8 := hlk.2.1
  have hl1 := hlk.1
  refine ⟨by omega, by omega, fun i => ?_⟩
  induction i with
  | zero =>
    intro x hx
    have h2 := (allP_flies h hp).2
    have hw := hP.win
    have hd0 := hP.d0
    cases hT : p.Times with
    | nil => rw [hT] at hx; cases hx
    | cons y r =>
      rw [hT] at h2 hx
      simp only [List.getElem?_cons_zero, Option.some.injEq] at hx
      subst hx
      have h3 := h2.1
      simp only [firstB] at h3
      omega
  | succ i ih =>
    intro y hy
    have hi1 : i + 1 < p.Times.length := (List.getElem?_eq_some_iff.1 hy).1
    have hi : i < w.Legs.length := by omega
    have hx : p.Times[i]? = some p.Times[i] := List.getElem?_eq_getElem (by omega)
    have h1 := ih _ hx
    have h2 := hd i w.Legs[i] p.Times[i] y (List.getElem?_eq_getElem hi) hx hy
    have h3 := hP.h0
    push_cast
    split at h2 <;> omega
end Go.Abs
