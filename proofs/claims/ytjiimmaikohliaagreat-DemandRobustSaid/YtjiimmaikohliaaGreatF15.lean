/-
  Functions: flights' small ones, cmp's, searches for options.
  Plain law: what is a measure of a flight.
  Functions: searches for options; ref15's Few and SameOptions.
-/
import Derived.Test.YtjiimmaikohliaaGreatF2
import Derived.Test.YtjiimmaikohliaaGreatS1
import Derived.Test.YtjiimmaikohliaaGreatF1
set_option linter.unusedVariables false
set_option linter.unusedSimpArgs false
namespace Go.Abs
open Go.RowKit Go.Proofs

def outB (lo hi n : Int) : Bool := decide (n < lo) || decide (hi < n)
theorem encFlight_eq (f : Flight) {ws : List PV} (h : ws = encInts f.Ways) : encFlight f = .agg [.int .i64 f.ID, .int .i64 f.Airline, .int .i64 f.Class, .str f.Call, .list 1 ws, .int .i64 f.Window.From, .int .i64 f.Window.To, .bool f.Cancel] := by rw [h]; rfl

/-- The k-th measure of a flight with n ways. -/
def optAt (n k : Nat) : Opt := ⟨(10 * (k / (3 * n)) : Nat), ((k % (3 * n)) / 3 : Nat), (5 * (k % 3) : Nat), false⟩
def measO (L : Int) (n : Nat) (c : Bool) : List Opt := (List.range ((L / 10 + 1).toNat * (3 * n))).map (optAt n) ++ (if c then [⟨0, 0, 0, true⟩] else [])

theorem optAt_eq {n j w m : Nat} (hw : w < n) (hm : m < 3) : optAt n (j * (3 * n) + (3 * w + m)) = ⟨((10 * j : Nat) : Int), (w : Int), ((5 * m : Nat) : Int), false⟩ := by
  unfold optAt
  have hB : 0 < 3 * n := by omega
  have hr : 3 * w + m < 3 * n := by omega
  have e1 : (j * (3 * n) + (3 * w + m)) / (3 * n) = j := by rw [Nat.add_comm, Nat.add_mul_div_right _ _ hB, Nat.div_eq_of_lt hr, Nat.zero_add]
  have e2 : (j * (3 * n) + (3 * w + m)) % (3 * n) = 3 * w + m := by rw [Nat.add_comm, Nat.add_mul_mod_self_right, Nat.mod_eq_of_lt hr]
  have e3 : (j * (3 * n) + (3 * w + m)) % 3 = m := by
    rw [Nat.mul_left_comm]
    generalize j * n = X
    omega
  rw [e1, e2, e3, show (3 * w + m) / 3 = w by omega]

theorem measO_get {L : Int} {n j w m : Nat} {c : Bool} (hj : (10 * j : Nat) ≤ L) (hw : w < n) (hm : m < 3) : ((measO L n c).map fun o => [encOpt o])[j * (3 * n) + (3 * w + m)]? = some [.agg [.int .i64 ((10 * j : Nat) : Int), .int .i64 (w : Int), .int .i64 ((5 * m : Nat) : Int), .bool false]] := by
  have hJ : j < (L / 10 + 1).toNat := by omega
  have hlt : j * (3 * n) + (3 * w + m) < (L / 10 + 1).toNat * (3 * n) := by
    have h1 : (j + 1) * (3 * n) ≤ (L / 10 + 1).toNat * (3 * n) := Nat.mul_le_mul_right _ hJ
    rw [Nat.add_mul, Nat.one_mul] at h1
    omega
  unfold measO
  rw [List.map_append, List.getElem?_append_left (by simpa using hlt), List.getElem?_map, List.getElem?_map, List.getElem?_range hlt]
  simp only [Option.map_some, optAt_eq hw hm]
  rfl

theorem measO_len (L : Int) (n : Nat) (c : Bool) : (measO L n c).length = (L / 10 + 1).toNat * (3 * n) + (if c then 1 else 0) := by
  unfold measO
  rw [List.length_append, List.length_map, List.length_range]
  cases c <;> rfl
theorem measO_last {L : Int} {n : Nat} : ((measO L n true).map fun o => [encOpt o])[(L / 10 + 1).toNat * (3 * n)]? = some [.agg [.int .i64 0, .int .i64 0, .int .i64 0, .bool true]] := by
  unfold measO
  rw [List.map_append, List.getElem?_append_right (by simp)]
  simp [encOpt]

end Go.Abs

namespace Go.Abs

/-- What is a measure, as the reference asks it. -/
def isO (L : Int) (n : Nat) (c : Bool) (o : Opt) : Prop :=
  (o.Cancel = true ∧ c = true ∧ o = ⟨0, 0, 0, true⟩) ∨ (o.Cancel = false ∧ 0 ≤ o.Delay ∧ o.Delay.tmod 10 = 0 ∧ o.Delay ≤ L ∧ 0 ≤ o.Way ∧ o.Way < n ∧ 0 ≤ o.Hold ∧ o.Hold.tmod 5 = 0 ∧ o.Hold ≤ 10)

theorem measO_iff {L : Int} {n : Nat} {c : Bool} (o : Opt) : o ∈ measO L n c ↔ isO L n c o := by
  unfold measO
  rw [List.mem_append]
  constructor
  · rintro (h | h)
    · obtain ⟨k, hk, rfl⟩ := List.mem_map.1 h
      have hk' := List.mem_range.1 hk
      have hn : 0 < n := by
        rcases Nat.eq_zero_or_pos n with h0 | h0
        · subst h0; simp at hk'
        · exact h0
      have hB : 0 < 3 * n := by omega
      have h1 : k / (3 * n) < (L / 10 + 1).toNat := (Nat.div_lt_iff_lt_mul hB).2 hk'
      have h2 : k % (3 * n) < 3 * n := Nat.mod_lt _ hB
      have h3 : k % 3 < 3 := Nat.mod_lt _ (by omega)
      refine .inr ⟨rfl, ?_⟩
      simp only [optAt]
      refine ⟨by omega, ?_, by omega, by omega, by omega, by omega, ?_, by omega⟩
      · rw [Int.tmod_eq_emod_of_nonneg (by omega)]; omega
      · rw [Int.tmod_eq_emod_of_nonneg (by omega)]; omega
    · cases c with
      | false => simp at h
      | true => simp at h; subst h; exact .inl ⟨rfl, rfl, rfl⟩
  · rintro (⟨_, rfl, rfl⟩ | ⟨h0, h1, h2, h3, h4, h5, h6, h7, h8⟩)
    · exact .inr (by simp)
    · obtain ⟨o1, o2, o3, o4⟩ := o
      simp only at h0 h1 h2 h3 h4 h5 h6 h7 h8
      subst h0
      rw [Int.tmod_eq_emod_of_nonneg h1] at h2
      rw [Int.tmod_eq_emod_of_nonneg h6] at h7
      refine .inl (List.mem_map.2 ⟨(o1.toNat / 10) * (3 * n) + (3 * o2.toNat + o3.toNat / 5), List.mem_range.2 ?_, ?_⟩)
      · have h9 : (o1.toNat / 10 + 1) * (3 * n) ≤ (L / 10 + 1).toNat * (3 * n) := Nat.mul_le_mul_right _ (by omega)
        rw [Nat.add_mul, Nat.one_mul] at h9
        omega
      · rw [optAt_eq (by omega) (by omega)]
        simp only [Opt.mk.injEq, and_true]
        omega
end Go.Abs

namespace Go.Abs
open Go.RowKit Go.Proofs

def fewF (f : Flight) : Bool := decide (f.Ways.length ≤ 8) && decide (f.Call.size ≤ 100)
end Go.Abs
