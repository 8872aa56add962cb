/-
  Sets of bits: what Go's operations on 64 bits come to.
-/
import Derived.Test.YtbljnbpddboohaaGreatS1
set_option linter.unusedVariables false
set_option linter.unusedSimpArgs false
namespace Go.Abs
open Go.RowKit

def encSet (n : Nat) : PV := .int .u64 (n : Int)
def encSets (l : List Nat) : List PV := l.map encSet

section
variable {A : Ops} {E : Env}

theorem u64_wrap {n : Nat} (h : n < 2 ^ 64) : IntKind.u64.wrap (n : Int) = (n : Int) := by
  unfold IntKind.wrap
  simp [IntKind.bits, IntKind.signed]
  omega
theorem u64_shl {v : Int} (h0 : 0 ≤ v) (h1 : v < 64) : (stdOps E).wShl .u64 1 v = ((2 ^ v.toNat : Nat) : Int) := by
  show IntKind.u64.wrap (1 * 2 ^ v.toNat) = _
  rw [Int.one_mul, show ((2 : Int) ^ v.toNat) = ((2 ^ v.toNat : Nat) : Int) by simp]
  exact u64_wrap (Nat.pow_lt_pow_right (by omega) (by omega))
theorem bv_and {x y : Nat} (hx : x < 2 ^ 64) : (BitVec.ofInt 64 (x : Int) &&& BitVec.ofInt 64 (y : Int)).toNat = x &&& y := by
  rw [BitVec.ofInt_natCast, BitVec.ofInt_natCast, BitVec.toNat_and, BitVec.toNat_ofNat, BitVec.toNat_ofNat, Nat.mod_eq_of_lt hx]
  apply Nat.eq_of_testBit_eq
  intro i
  rw [Nat.testBit_and, Nat.testBit_and, Nat.testBit_mod_two_pow]
  by_cases hi : i < 64
  · simp [hi]
  · have : x.testBit i = false := Nat.testBit_lt_two_pow (Nat.lt_of_lt_of_le hx (Nat.pow_le_pow_right (by omega) (by omega)))
    simp [this]
theorem bv_or {x y : Nat} (hx : x < 2 ^ 64) (hy : y < 2 ^ 64) : (BitVec.ofInt 64 (x : Int) ||| BitVec.ofInt 64 (y : Int)).toNat = x ||| y := by
  rw [BitVec.ofInt_natCast, BitVec.ofInt_natCast, BitVec.toNat_or, BitVec.toNat_ofNat, BitVec.toNat_ofNat, Nat.mod_eq_of_lt hx, Nat.mod_eq_of_lt hy]
theorem u64_and {x y : Nat} (hx : x < 2 ^ 64) : (stdOps E).wOp .and .u64 x y = ((x &&& y : Nat) : Int) := by
  show IntKind.u64.wrap (((BitVec.ofInt 64 (x : Int) &&& BitVec.ofInt 64 (y : Int)).toNat : Nat) : Int) = _
  rw [bv_and hx]
  exact u64_wrap (Nat.lt_of_le_of_lt Nat.and_le_left hx)
theorem u64_or {x y : Nat} (hx : x < 2 ^ 64) (hy : y < 2 ^ 64) : (stdOps E).wOp .or .u64 x y = ((x ||| y : Nat) : Int) := by
  show IntKind.u64.wrap (((BitVec.ofInt 64 (x : Int) ||| BitVec.ofInt 64 (y : Int)).toNat : Nat) : Int) = _
  rw [bv_or hx hy]
  exact u64_wrap (Nat.or_lt_two_pow hx hy)
theorem pow_lt64 {v : Int} (h1 : v < 64) : 2 ^ v.toNat < 2 ^ 64 := Nat.pow_lt_pow_right (by omega) (by omega)

theorem idx_Set (hA : A = stdOps E) {l : List Nat} {xs : List PV} (hx : xs = encSets l) {n : Int} {K : List PV → Prop} (h0 : 0 ≤ n) (h1 : n < l.length) (hk : ∀ x, l[n.toNat]? = some x → K [.int .u64 (x : Int)]) : A.idx xs n K :=
  idx_var hA (l := l) (enc := encSet) hx.symm h0 h1 fun x h => hk x h

theorem u64_all {n : Nat} (h1 : 1 ≤ n) (h2 : n ≤ 64) : (stdOps E).wShr 18446744073709551615 (64 - (n : Int)) = ((2 ^ n - 1 : Nat) : Int) := by
  show (18446744073709551615 : Int).fdiv (2 ^ (64 - (n : Int)).toNat) = _
  have e : (64 - (n : Int)).toNat = 64 - n := by omega
  rw [e]
  have : ∀ m : Fin 65, 1 ≤ m.val → (18446744073709551615 : Int).fdiv (2 ^ (64 - m.val)) = ((2 ^ m.val - 1 : Nat) : Int) := by decide +kernel
  exact this ⟨n, by omega⟩ h1

theorem secBits_lt {ss : List Sector} {n : Nat} (hn : n ≤ 64) (h : ss.all (sectorIx n) = true) : ∀ x ∈ secBits ss, x < 2 ^ 64 := by
  have key : ∀ (vs : List Int) (x : Nat), x < 2 ^ 64 → indexed n x vs = true → bitsFrom x vs < 2 ^ 64 := by
    intro vs
    induction vs with
    | nil => intro x hx _; exact hx
    | cons v r ih =>
      intro x hx hi
      simp only [indexed, Bool.and_eq_true, decide_eq_true_eq] at hi
      exact ih _ (Nat.or_lt_two_pow hx (pow_lt64 (by omega))) hi.2
  intro x hx
  simp only [secBits, List.mem_map] at hx
  obtain ⟨s, hs, rfl⟩ := hx
  have := List.all_eq_true.1 h s hs
  simp only [sectorIx, Bool.and_eq_true] at this
  exact key _ 0 (by omega) this.1
end
end Go.Abs
