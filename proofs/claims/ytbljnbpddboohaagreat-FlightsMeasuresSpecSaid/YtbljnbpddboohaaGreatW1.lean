/-
  Trees that say the same of nil slices: their elements' size may be told as one likes.
-/
import Derived.Test.YtbljnbpddboohaaGreatA4
set_option linter.unusedVariables false
set_option linter.unusedSimpArgs false
namespace Go.Abs
open Go.RowKit

inductive LeP : PV → PV → Prop
  | refl (p : PV) : LeP p p
  | nil (m m' : Nat) : LeP (.list m []) (.list m' [])
  | list (m : Nat) (xs ys : List PV) (hl : xs.length = ys.length) (h : ∀ (i : Nat) (x y : PV), xs[i]? = some x → ys[i]? = some y → LeP x y) : LeP (.list m xs) (.list m ys)
  | agg (xs ys : List PV) (hl : xs.length = ys.length) (h : ∀ (i : Nat) (x y : PV), xs[i]? = some x → ys[i]? = some y → LeP x y) : LeP (.agg xs) (.agg ys)
  | tup (xs ys : List PV) (hl : xs.length = ys.length) (h : ∀ (i : Nat) (x y : PV), xs[i]? = some x → ys[i]? = some y → LeP x y) : LeP (.tup xs) (.tup ys)

theorem get_other {α β : Type} {xs : List α} {ys : List β} (hl : xs.length = ys.length) {i : Nat} {y : β} (h : ys[i]? = some y) : ∃ x, xs[i]? = some x :=
  ⟨xs[i]'(by rw [hl]; exact (List.getElem?_eq_some_iff.1 h).1), List.getElem?_eq_getElem _⟩

theorem LeP.cells {p q : PV} (h : LeP p q) : p.cells.length = q.cells.length ∧ ∀ (j : Nat) (c d : PV), p.cells[j]? = some c → q.cells[j]? = some d → LeP c d := by
  cases h with
  | refl p => exact ⟨rfl, fun j c d h1 h2 => by rw [h1] at h2; cases h2; exact .refl _⟩
  | agg xs ys hl h => exact ⟨hl, h⟩
  | nil m m' =>
    refine ⟨rfl, fun j c d h1 h2 => ?_⟩
    cases j with
    | zero => simp [PV.cells] at h1 h2; subst h1 h2; exact .nil m m'
    | succ j => simp [PV.cells] at h1
  | list m xs ys hl h =>
    refine ⟨rfl, fun j c d h1 h2 => ?_⟩
    cases j with
    | zero => simp [PV.cells] at h1 h2; subst h1 h2; exact .list m xs ys hl h
    | succ j => simp [PV.cells] at h1
  | tup xs ys hl h =>
    refine ⟨rfl, fun j c d h1 h2 => ?_⟩
    cases j with
    | zero => simp [PV.cells] at h1 h2; subst h1 h2; exact .tup xs ys hl h
    | succ j => simp [PV.cells] at h1

theorem RV.le {S : Addr → Prop} {w : World} {p : PV} {v : Value} (h : RV S w p v) : ∀ {q : PV}, LeP p q → RV S w q v := by
  induction h with
  | any v => intro q hq; cases hq; exact .any v
  | int k n => intro q hq; cases hq; exact .int k n
  | bool b => intro q hq; cases hq; exact .bool b
  | str s => intro q hq; cases hq; exact .str s
  | agg cs vs hl h ih =>
    intro q hq
    cases hq with
    | refl => exact .agg cs vs hl h
    | agg xs ys hl' h' =>
      refine .agg ys vs (by omega) fun i c v hc hv => ?_
      obtain ⟨x, hx⟩ := get_other hl' hc
      exact ih i x v hx hv (h' i x c hx hc)
  | tup cs vs hl h ih =>
    intro q hq
    cases hq with
    | refl => exact .tup cs vs hl h
    | tup xs ys hl' h' =>
      refine .tup ys vs (by omega) fun i c v hc hv => ?_
      obtain ⟨x, hx⟩ := get_other hl' hc
      exact ih i x v hx hv (h' i x c hx hc)
  | list m xs a ad cap g ha hcap hmax hm hc hr ih =>
    intro q hq
    cases hq with
    | refl => exact .list m xs a ad cap g ha hcap hmax hm hc hr
    | nil m m' => exact RV.list_nil m' a cap hmax
    | list m xs ys hl' h' =>
      rw [hl']
      have hcell : ∀ (i : Nat) (y : PV) (j : Nat) (d : PV), ys[i]? = some y → y.cells[j]? = some d → ∃ x c, xs[i]? = some x ∧ x.cells[j]? = some c ∧ LeP c d := fun i y j d hy hd => by
        obtain ⟨x, hx⟩ := get_other hl' hy
        obtain ⟨k1, k2⟩ := (h' i x y hx hy).cells
        obtain ⟨c, hc⟩ := get_other k1 hd
        exact ⟨x, c, hx, hc, k2 j c d hc hd⟩
      refine .list m ys a ad cap g (fun hne => ha (fun e => hne ?_)) (by omega) hmax (fun i y hy => ?_) (fun i y j d hy hd => ?_) (fun i y j d hy hd => ?_)
      · subst e; exact List.eq_nil_of_length_eq_zero hl'.symm
      · obtain ⟨x, hx⟩ := get_other hl' hy
        rw [← (h' i x y hx hy).cells.1]; exact hm i x hx
      · obtain ⟨x, c, h1, h2, _⟩ := hcell i y j d hy hd
        exact hc i x j c h1 h2
      · obtain ⟨x, c, h1, h2, h3⟩ := hcell i y j d hy hd
        exact ih i x j c h1 h2 h3
  | ptr cs off ad g hc hr ih => intro q hq; cases hq; exact .ptr cs off ad g hc hr
  | fn f caps vs hl h ih => intro q hq; cases hq; exact .fn f caps vs hl h
  | yld l => intro q hq; cases hq; exact .yld l
  | ref v h => intro q hq; cases hq; exact .ref v h

inductive LeL : List PV → List PV → Prop
  | nil : LeL [] []
  | cons {x y : PV} {xs ys : List PV} (h : LeP x y) (hs : LeL xs ys) : LeL (x :: xs) (y :: ys)

theorem LeL.refl : ∀ (l : List PV), LeL l l
  | [] => .nil
  | x :: r => .cons (.refl x) (LeL.refl r)

theorem RVs.le {S : Addr → Prop} {w : World} : ∀ {ps qs : List PV} {vs : List Value}, LeL ps qs → RVs S w ps vs → RVs S w qs vs
  | _, _, vs, .nil, h => h
  | _, _, [], .cons _ _, h => by have := h.1; simp at this
  | _, _, v :: vs, .cons hp hs, h => RVs.cons (RV.le (h.2 0 _ v rfl rfl) hp) (RVs.le hs ⟨by have := h.1; simpa using this, fun i p u h1 h2 => h.2 (i + 1) p u (by simpa using h1) (by simpa using h2)⟩)

theorem CallsPV.le {P : Program} {f : FuncId} {args args' : List PV} {p p' : PV} (h : CallsPV P f args' p) (ha : LeL args args') (hp : LeP p p') : CallsPV P f args p' := by
  refine ⟨h.1, fun S w vs hS hv => (h.2 S w vs hS (hv.le ha)).mono ?_⟩
  rintro e w' ⟨v, he, hb, hr⟩
  exact ⟨v, he, hb, hr.le hp⟩

/-- .. by looking. -/
def lePb : Nat → PV → PV → Bool
  | 0, _, _ => false
  | n + 1, .list m xs, .list m' ys => (xs.isEmpty && ys.isEmpty) || (decide (m = m') && decide (xs.length = ys.length) && (xs.zip ys).all fun p => lePb n p.1 p.2)
  | n + 1, .agg xs, .agg ys => decide (xs.length = ys.length) && (xs.zip ys).all fun p => lePb n p.1 p.2
  | n + 1, .tup xs, .tup ys => decide (xs.length = ys.length) && (xs.zip ys).all fun p => lePb n p.1 p.2
  | _ + 1, .int k a, .int k' b => decide (k = k') && decide (a = b)
  | _ + 1, .bool a, .bool b => decide (a = b)
  | _ + 1, .str a, .str b => decide (a = b)
  | _ + 1, _, _ => false

theorem lePb_ok : ∀ (n : Nat) (p q : PV), lePb n p q = true → LeP p q := by
  intro n
  induction n with
  | zero => intro p q h; cases h
  | succ n ih =>
    intro p q h
    have hz : ∀ {xs ys : List PV}, ((xs.zip ys).all fun p => lePb n p.1 p.2) = true → ∀ (i : Nat) (x y : PV), xs[i]? = some x → ys[i]? = some y → LeP x y := by
      intro xs ys h i x y hx hy
      refine ih x y (List.all_eq_true.1 h (x, y) (List.mem_of_getElem? (i := i) ?_))
      rw [List.getElem?_zip_eq_some]; exact ⟨hx, hy⟩
    unfold lePb at h
    split at h
    · cases h
    · rename_i n' m xs m' ys he
      cases he
      rw [Bool.or_eq_true] at h
      rcases h with h | h
      · simp only [Bool.and_eq_true, List.isEmpty_iff] at h
        obtain ⟨rfl, rfl⟩ := h
        exact .nil _ _
      · simp only [Bool.and_eq_true, decide_eq_true_eq] at h
        obtain ⟨⟨rfl, h2⟩, h3⟩ := h
        exact .list _ _ _ h2 (hz h3)
    · rename_i n' xs ys he
      cases he
      simp only [Bool.and_eq_true, decide_eq_true_eq] at h; exact .agg _ _ h.1 (hz h.2)
    · rename_i n' xs ys he
      cases he
      simp only [Bool.and_eq_true, decide_eq_true_eq] at h; exact .tup _ _ h.1 (hz h.2)
    · simp only [Bool.and_eq_true, decide_eq_true_eq] at h; obtain ⟨rfl, rfl⟩ := h; exact .refl _
    · simp only [decide_eq_true_eq] at h; subst h; exact .refl _
    · simp only [decide_eq_true_eq] at h; subst h; exact .refl _
    · cases h

end Go.Abs
