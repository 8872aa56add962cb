/-
  What flies: facts in plain words, for SightTrue and the stages.
-/
import Derived.Test.YtcafjndjnfdnpaaGreatF10
import Derived.Test.YtcafjndjnfdnpaaGreatR26
set_option linter.unusedVariables false
set_option linter.unusedSimpArgs false
namespace Go.Abs
open Go.RowKit Go.Proofs

/-- What holds of a trajectory that is one of all. -/
structure Flown (t : Tables) (p : Path) (w : Way) : Prop where
  w0 : 0 ≤ p.Way ∧ p.Way < t.Ways.length
  hw : t.Ways[p.Way.toNat]? = some w
  len : p.Times.length = w.Legs.length + 1
  l1 : 1 ≤ w.Legs.length ∧ w.Legs.length ≤ 8
  err : stErr1 t p = 0
  sty : staysP t p = staysOf w p.Times
  up : ∀ (i : Nat) (x y : Int), p.Times[i]? = some x → p.Times[i + 1]? = some y → x < y
  big : ∀ x ∈ p.Times, 0 ≤ x ∧ x ≤ 65535

theorem timesFrom_of : ∀ (l : List Int) (q : Int), (∀ x ∈ l, 0 ≤ x ∧ x ≤ 65535) → (∀ (i : Nat) (x y : Int), l[i]? = some x → l[i + 1]? = some y → x < y) → (∀ x, l[0]? = some x → q < x) → timesFrom q l = true
  | [], _, _, _, _ => rfl
  | x :: r, q, h1, h2, h3 => by
    have hx := h1 x (by simp)
    have hq := h3 x rfl
    simp only [timesFrom, Bool.and_eq_true, decide_eq_true_eq]
    exact ⟨⟨⟨hx.1, hx.2⟩, hq⟩, timesFrom_of r x (fun y hy => h1 y (List.mem_cons_of_mem _ hy)) (fun i a b ha hb => h2 (i + 1) a b (by simpa using ha) (by simpa using hb)) (fun y hy => h2 0 x y rfl (by simpa using hy))⟩

theorem flown_ok {t : Tables} {f : Flight} {o : Opt} (h : countE t f o = 0) {p : Path} (hp : p ∈ allP t f o) : ∃ w, Flown t p w := by
  obtain ⟨k, w, hP, hd⟩ := legs_dur h
  obtain ⟨hway, hlen, hd⟩ := hd p hp
  have hsm := times_small h hp
  have hl := hP.lok
  have hair := (checkF_zero hP.chk).1
  have hp0 := hP.p0
  have hhold := hP.h0
  have up : ∀ (i : Nat) (x y : Int), p.Times[i]? = some x → p.Times[i + 1]? = some y → x < y := by
    intro i x y hx hy
    have hi : i + 1 < p.Times.length := (List.getElem?_eq_some_iff.1 hy).1
    have := hd i w.Legs[i] x y (List.getElem?_eq_getElem (by omega)) hx hy
    have h0 : 0 ≤ (if i + 1 = w.Legs.length then o.Hold else 0) := by split <;> omega
    omega
  have big : ∀ x ∈ p.Times, 0 ≤ x ∧ x ≤ 65535 := by
    intro x hx
    obtain ⟨i, hi⟩ := List.mem_iff_getElem?.1 hx
    have h1 := hsm.2.2 i x hi
    have h2 : i < p.Times.length := (List.getElem?_eq_some_iff.1 hi).1
    have h3 := hsm.2.1
    omega
  have hw0 : 0 ≤ p.Way ∧ p.Way < t.Ways.length := by rw [hway]; exact hp0
  have hww : t.Ways[p.Way.toNat]? = some w := by rw [hway]; exact hP.hl
  have hok : pathOk t.Ways p = true := by
    unfold pathOk
    rw [if_pos hw0.1, hww]
    simp only [Bool.and_eq_true, decide_eq_true_eq]
    exact ⟨hlen, timesFrom_of _ _ big up (fun x hx => by have := big x (List.mem_of_getElem? hx); omega)⟩
  refine ⟨w, hw0, hww, hlen, ⟨hl.1, hl.2.1⟩, by rw [stErr1, if_pos hair, if_pos hok], ?_, up, big⟩
  unfold staysP
  rw [if_pos hw0.1, hww]

theorem legStays_mem : ∀ (ls : List Leg) (ts : List Int) (i : Nat) (l : Leg) (x y : Int), ls[i]? = some l → ts[i]? = some x → ts[i + 1]? = some y → (⟨false, l.Volume, ⟨x, y⟩⟩ : Stay) ∈ legStays ls ts
  | [], _, i, _, _, _, h, _, _ => by simp at h
  | _ :: _, [], i, _, _, _, _, h, _ => by simp at h
  | _ :: _, [_], i, _, _, _, _, _, h => by simp at h
  | a :: r, b :: c :: ts, 0, l, x, y, h1, h2, h3 => by
    simp only [List.getElem?_cons_zero, Option.some.injEq, Nat.zero_add, List.getElem?_cons_succ] at h1 h2 h3
    subst h1 h2 h3
    simp [legStays]
  | a :: r, b :: c :: ts, i + 1, l, x, y, h1, h2, h3 => by
    simp only [legStays]
    exact List.mem_cons_of_mem _ (legStays_mem r (c :: ts) i l x y (by simpa using h1) (by simpa using h2) (by simpa using h3))

theorem Flown.right {t : Tables} {p : Path} {w : Way} (h : Flown t p w) {i : Nat} {l : Leg} {x y : Int} (hl : w.Legs[i]? = some l) (hx : p.Times[i]? = some x) (hy : p.Times[i + 1]? = some y) {m s : Int} (h0 : x ≤ m) (h1 : m < y)
    (hm : m < 1440) (hs : 0 ≤ m - s) (hs2 : m - s < 1440) (hsh : -3 ≤ s ∧ s ≤ 3) (st no ar : Int) (call : ByteArray) : seesErr t ⟨st, no, m - s, ar, call, l.Volume⟩ s [p] = 0 ∧ seesB t ⟨st, no, m - s, ar, call, l.Volume⟩ s [p] = true := by
  have e : seesErr t ⟨st, no, m - s, ar, call, l.Volume⟩ s [p] = 0 := by
    unfold seesErr
    rw [if_pos]
    · unfold stErr
      rw [if_pos h.err]
      rfl
    · simp only [isShiftB, isMinuteB, inB, Bool.and_eq_true, decide_eq_true_eq]
      omega
  refine ⟨e, ?_⟩
  unfold seesB
  rw [if_pos e]
  unfold rightB
  rw [List.any_eq_true]
  refine ⟨⟨false, l.Volume, ⟨x, y⟩⟩, ?_, ?_⟩
  · simp only [stL, List.flatMap_cons, List.flatMap_nil, List.append_nil, h.sty, staysOf]
    exact List.mem_append_left _ (List.mem_cons_of_mem _ (legStays_mem _ _ i l x y hl hx hy))
  · simp only [ofVol, Bool.and_eq_true, decide_eq_true_eq]
    refine ⟨by simp, by omega, by omega⟩

theorem staysOf_len2 : ∀ (ls : List Leg) (ts : List Int), ts.length = ls.length + 1 → (legStays ls ts).length = ls.length
  | [], ts, _ => by cases ts <;> rfl
  | _ :: r, [], h => by simp at h
  | _ :: r, [_], h => by simp at h
  | _ :: r, a :: b :: ts, h => by
    simp only [legStays, List.length_cons]
    rw [staysOf_len2 r (b :: ts) (by simpa using h)]

theorem u64_rem {a b : Int} (ha : 0 ≤ a) (hb : 0 < b) : 0 ≤ a.tmod b ∧ a.tmod b < b := by
  rw [Int.tmod_eq_emod_of_nonneg ha]
  exact ⟨Int.emod_nonneg _ (by omega), Int.emod_lt_of_pos _ hb⟩
theorem i64_rem4 (a : Int) : -3 ≤ a.tmod 4 ∧ a.tmod 4 ≤ 3 := by
  rcases Int.le_total 0 a with h | h
  · rw [Int.tmod_eq_emod_of_nonneg h]; omega
  · obtain ⟨b, rfl⟩ : ∃ b, a = -b := ⟨-a, by omega⟩
    rw [Int.neg_tmod, Int.tmod_eq_emod_of_nonneg (show 0 ≤ b by omega)]; omega

end Go.Abs
