/-
  Plain law: a valid flight's ways; a flight with one way more.
-/
import Derived.Test.YtbljnbpddboohaaF20
import Derived.Test.YtbljnbpddboohaaP1
set_option linter.unusedVariables false
set_option linter.unusedSimpArgs false
namespace Go.Abs

/-- A flight with one way more. -/
def moreF (f : Flight) (w : Int) : Flight := ⟨f.ID, f.Airline, f.Class, f.Call, f.Ways ++ [w], f.Window, f.Cancel⟩
def goodW (t : Tables) (f : Flight) (w : Int) : Bool := decide (f.Ways.length + 1 ≤ 4) && !decide (w ∈ f.Ways) && decide (0 ≤ w) && decide (w < t.Ways.length) && !elsewhere t.Ways (head0 t f) w

theorem check_ways {t : Tables} {f : Flight} (h : checkF t f = 0) : ∃ (x : Int) (w0 : Way), f.Ways[0]? = some x ∧ 0 ≤ x ∧ x < t.Ways.length ∧ t.Ways[x.toNat]? = some w0 ∧ head0 t f = w0 ∧
    ∀ n : Int, n ∈ f.Ways → 0 ≤ n ∧ n < t.Ways.length ∧ ∃ v, t.Ways[n.toNat]? = some v ∧ v.From = w0.From ∧ v.To = w0.To := by
  obtain ⟨_, h2⟩ := checkF_zero h
  simp only [flightB, Bool.and_eq_true, Bool.not_eq_true'] at h2
  obtain ⟨⟨⟨⟨⟨⟨⟨⟨_, _⟩, _⟩, _⟩, hl⟩, hr⟩, _⟩, he⟩, _⟩ := h2
  have hl' : 1 ≤ f.Ways.length := by simp [outB] at hl; omega
  have hin : ∀ n ∈ f.Ways, 0 ≤ n ∧ n < t.Ways.length := fun n hn => by
    rw [List.any_eq_false] at hr
    have := hr n hn
    simp [outB] at this
    omega
  obtain ⟨x, hx⟩ : ∃ x, f.Ways[0]? = some x := ⟨f.Ways[0]'(by omega), List.getElem?_eq_getElem (by omega)⟩
  have hx1 := hin x (List.mem_of_getElem? hx)
  obtain ⟨w0, hw0⟩ : ∃ w0, t.Ways[x.toNat]? = some w0 := ⟨t.Ways[x.toNat]'(by omega), List.getElem?_eq_getElem (by omega)⟩
  have hhd : head0 t f = w0 := by
    have : f.Ways.headD 0 = x := by
      cases hf : f.Ways with
      | nil => rw [hf] at hx; simp at hx
      | cons a r => rw [hf] at hx; simpa using hx
    simp only [head0, this, hw0]
    rfl
  refine ⟨x, w0, hx, hx1.1, hx1.2, hw0, hhd, fun n hn => ⟨(hin n hn).1, (hin n hn).2, ?_⟩⟩
  have hn1 := hin n hn
  rw [List.any_eq_false] at he
  have := he n hn
  rw [hhd] at this
  unfold elsewhere at this
  rw [List.getElem?_eq_getElem (by omega)] at this ⊢
  simp at this
  exact ⟨_, rfl, this⟩

theorem check_more {t : Tables} {f : Flight} (h : checkF t f = 0) (w : Int) : checkF t (moreF f w) = if goodW t f w then 0 else 150 := by
  obtain ⟨ha, h2⟩ := checkF_zero h
  obtain ⟨x, w0, hx, _, _, _, hhd, _⟩ := check_ways h
  unfold checkF
  rw [if_pos ha]
  congr 1
  have e : flightB t (moreF f w) = (!outB 0 4095 f.ID && !outB 0 7 f.Airline && !outB 0 (t.Kinds.length - 1) f.Class && nameB f.Call && !outB 1 4 (f.Ways ++ [w]).length && !(f.Ways ++ [w]).any (outB 0 (t.Ways.length - 1)) &&
      !(decide (f.Window.From < 0) || decide (f.Window.To ≤ f.Window.From) || decide (1440 < f.Window.To) || decide (16 < f.Window.To - f.Window.From)) &&
      !(f.Ways ++ [w]).any (elsewhere t.Ways (head0 t (moreF f w))) && onceB (f.Ways ++ [w])) := rfl
  rw [Bool.eq_iff_iff, e, goodW]
  have hh : head0 t (moreF f w) = head0 t f := by
    have : (moreF f w).Ways.headD 0 = f.Ways.headD 0 := by
      simp only [moreF]
      cases hf : f.Ways with
      | nil => rw [hf] at hx; simp at hx
      | cons a r => rfl
    simp only [head0, this]
  rw [hh]
  simp only [flightB, Bool.and_eq_true, Bool.not_eq_true'] at h2
  obtain ⟨⟨⟨⟨⟨⟨⟨⟨h1, h3⟩, h4⟩, h5⟩, hl⟩, hr⟩, h6⟩, he⟩, ho⟩ := h2
  simp only [Bool.and_eq_true, Bool.not_eq_true', h1, h3, h4, h5, h6, true_and, and_true]
  simp only [List.any_append, hr, he, Bool.false_or, List.any_cons, List.any_nil, Bool.or_false]
  rw [onceB_iff, List.nodup_append]
  rw [onceB_iff] at ho
  simp [outB] at hl ⊢
  constructor
  · rintro ⟨⟨⟨a, b⟩, c⟩, d⟩
    refine ⟨⟨⟨⟨by omega, fun hm => d.2 w hm rfl⟩, by omega⟩, by omega⟩, c⟩
  · rintro ⟨⟨⟨⟨a, b⟩, c⟩, d⟩, e⟩
    exact ⟨⟨⟨by omega, by omega⟩, e⟩, ho, fun y hy e => b (e ▸ hy)⟩
end Go.Abs
