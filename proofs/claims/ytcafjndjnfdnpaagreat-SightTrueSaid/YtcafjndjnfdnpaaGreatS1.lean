/-
  What the program's checks come to, in plain words: hours, speeds, divisions, airspaces.
  What sight's functions come to, in plain words.
  Sets of bits: what Go's operations on 64 bits come to.
  Short words for what a walk's tests say.
  Trees that say the same of nil slices: their elements' size may be told as one likes.
  Plain law: all times of a trajectory, by the bounds of its legs.
-/
import Derived.Test.YtcafjndjnfdnpaaGreatD1
import Derived.Test.YtcafjndjnfdnpaaGreatA4
import Derived.Test.YtcafjndjnfdnpaaGreatA3
set_option linter.unusedVariables false
set_option linter.unusedSimpArgs false
namespace Go.Abs

def inB (n lo hi : Int) : Bool := decide (lo ≤ n) && decide (n ≤ hi)
def spanBad (s : Span) : Bool := decide (s.From < 0) || decide (s.To ≤ s.From) || decide (1440 < s.To)
def hoursOk (l : List Span) : Bool := !l.any spanBad

/-- Each three numbers: one, and its bounds. -/
def withinL : List Int → Bool
  | a :: b :: c :: r => !(decide (a < b) || decide (c < a)) && withinL r
  | _ => true

def kindOk (k : Kind) : Bool :=
  withinL [k.Slow, 1, 64, k.Fast, k.Slow, 64, k.Places, 1, 8, k.Weight, 1, 8, k.Longest, 0, 60, (k.Curfews.length : Int), 0, 16] && decide (k.Longest.tmod 10 = 0) && !k.Curfews.any (fun l => !hoursOk l)

/-- The set of some volumes, a bit for each. -/
def bitsOf : List Int → Nat
  | [] => 0
  | v :: r => 2 ^ v.toNat ||| bitsOf r
def bitsFrom (x : Nat) (l : List Int) : Nat := l.foldl (fun x v => x ||| 2 ^ v.toNat) x
/-- Different indices below a bound. -/
def indexed (n : Nat) : Nat → List Int → Bool
  | _, [] => true
  | x, v :: r => decide (0 ≤ v) && decide (v < n) && decide (x &&& 2 ^ v.toNat = 0) && indexed n (x ||| 2 ^ v.toNat) r
def sectorIx (n : Nat) (s : Sector) : Bool := indexed n 0 s.Volumes && decide (bitsFrom 0 s.Volumes ≠ 0)
/-- Sectors that do not meet. -/
def apartB (l : List Nat) : Nat → List Int → Bool
  | _, [] => true
  | x, s :: r => decide (0 ≤ s) && decide (s < l.length) && decide (x &&& l.getD s.toNat 0 = 0) && apartB l (x ||| l.getD s.toNat 0) r
def joined (l : List Nat) (x : Nat) (c : List Int) : Nat := c.foldl (fun x s => x ||| l.getD s.toNat 0) x
def secBits (l : List Sector) : List Nat := l.map fun s => bitsFrom 0 s.Volumes
def configOk (n : Nat) (l : List Nat) (c : Config) : Bool := apartB l 0 c.Sectors && decide (joined l 0 c.Sectors = 2 ^ n - 1)
def divOk (n : Nat) (ss : List Sector) (cs : List Config) : Bool :=
  decide (1 ≤ n) && decide (n ≤ 64) && decide (ss.length ≤ 64) && decide (1 ≤ cs.length) && decide (cs.length ≤ 32) && ss.all (sectorIx n) && cs.all (configOk n (secBits ss))

def sectorOk (s : Sector) : Bool := inB s.Radar 0 64 && inB s.Procedural 0 s.Radar
def modeOk (l : List Int) : Bool := inB l.length 1 16 && l.all fun n => inB n 0 64
def legOk (nv : Int) (x : Leg) : Bool := inB x.Segment 0 127 && inB x.Volume 0 (nv - 1) && inB x.Length 1 4096 && decide (0 < x.Minutes.length) && hoursOk x.Minutes
def wayOk (nv nm : Int) (w : Way) : Bool := inB w.From 0 (nm - 1) && inB w.To 0 (nm - 1) && inB w.Legs.length 1 8 && w.Legs.all (legOk nv)
def airOk (t : Tables) : Bool :=
  inB t.Volumes 1 64 && divOk t.Volumes.toNat t.Sectors t.Configs && t.Sectors.all sectorOk && decide (t.Modes.length ≤ 16) && t.Modes.all modeOk && decide (t.Ways.length ≤ 64) && t.Ways.all (wayOk t.Volumes t.Modes.length) &&
    decide (t.Kinds.length ≤ 8) && t.Kinds.all fun k => kindOk k && decide (k.Curfews.length = t.Modes.length)
end Go.Abs

namespace Go.Abs

/-- Minutes, one after the other. -/
def timesFrom : Int → List Int → Bool
  | _, [] => true
  | p, t :: r => decide (0 ≤ t) && decide (t ≤ 65535) && decide (p < t) && timesFrom t r
def pathOk (ws : List Way) (p : Path) : Bool :=
  match (if 0 ≤ p.Way then ws[p.Way.toNat]? else none) with
  | none => false
  | some w => decide (p.Times.length = w.Legs.length + 1) && timesFrom (-1) p.Times

/-- The stays on the legs of a path. -/
def legStays : List Leg → List Int → List Stay
  | x :: r, a :: b :: ts => ⟨false, x.Volume, ⟨a, b⟩⟩ :: legStays r (b :: ts)
  | _, _ => []
def staysOf (w : Way) (ts : List Int) : List Stay :=
  ⟨true, w.From, ⟨ts.headD 0, ts.headD 0 + 1⟩⟩ :: legStays w.Legs ts ++ [⟨true, w.To, ⟨ts.getLastD 0, ts.getLastD 0 + 1⟩⟩]

theorem air_legs {t : Tables} (h : airOk t = true) {w : Way} (hw : w ∈ t.Ways) : w.Legs.length ≤ 8 ∧ 1 ≤ w.Legs.length := by
  unfold airOk at h
  simp only [Bool.and_eq_true, List.all_eq_true] at h
  have := h.1.1.2 w hw
  simp only [wayOk, inB, Bool.and_eq_true, decide_eq_true_eq] at this
  omega

end Go.Abs

namespace Go.Abs
open Go.RowKit

def encSet (n : Nat) : PV := .int .u64 (n : Int)
def encSets (l : List Nat) : List PV := l.map encSet

section
variable {A : Ops} {E : Env}

theorem u64_wrap {n : Nat} (h : n < 2 ^ 64) : IntKind.u64.wrap (n : Int) = (n : Int) := by
  unfold IntKind.wrap
  simp [IntKind.bits, IntKind.signed]
  omega
theorem u64_shl {v : Int} (h0 : 0 ≤ v) (h1 : v < 64) : (stdOps E).wShl .u64 1 v = ((2 ^ v.toNat : Nat) : Int) := by
  show IntKind.u64.wrap (1 * 2 ^ v.toNat) = _
  rw [Int.one_mul, show ((2 : Int) ^ v.toNat) = ((2 ^ v.toNat : Nat) : Int) by simp]
  exact u64_wrap (Nat.pow_lt_pow_right (by omega) (by omega))
theorem bv_and {x y : Nat} (hx : x < 2 ^ 64) : (BitVec.ofInt 64 (x : Int) &&& BitVec.ofInt 64 (y : Int)).toNat = x &&& y := by
  rw [BitVec.ofInt_natCast, BitVec.ofInt_natCast, BitVec.toNat_and, BitVec.toNat_ofNat, BitVec.toNat_ofNat, Nat.mod_eq_of_lt hx]
  apply Nat.eq_of_testBit_eq
  intro i
  rw [Nat.testBit_and, Nat.testBit_and, Nat.testBit_mod_two_pow]
  by_cases hi : i < 64
  · simp [hi]
  · have : x.testBit i = false := Nat.testBit_lt_two_pow (Nat.lt_of_lt_of_le hx (Nat.pow_le_pow_right (by omega) (by omega)))
    simp [this]
theorem bv_or {x y : Nat} (hx : x < 2 ^ 64) (hy : y < 2 ^ 64) : (BitVec.ofInt 64 (x : Int) ||| BitVec.ofInt 64 (y : Int)).toNat = x ||| y := by
  rw [BitVec.ofInt_natCast, BitVec.ofInt_natCast, BitVec.toNat_or, BitVec.toNat_ofNat, BitVec.toNat_ofNat, Nat.mod_eq_of_lt hx, Nat.mod_eq_of_lt hy]
theorem u64_and {x y : Nat} (hx : x < 2 ^ 64) : (stdOps E).wOp .and .u64 x y = ((x &&& y : Nat) : Int) := by
  show IntKind.u64.wrap (((BitVec.ofInt 64 (x : Int) &&& BitVec.ofInt 64 (y : Int)).toNat : Nat) : Int) = _
  rw [bv_and hx]
  exact u64_wrap (Nat.lt_of_le_of_lt Nat.and_le_left hx)
theorem u64_or {x y : Nat} (hx : x < 2 ^ 64) (hy : y < 2 ^ 64) : (stdOps E).wOp .or .u64 x y = ((x ||| y : Nat) : Int) := by
  show IntKind.u64.wrap (((BitVec.ofInt 64 (x : Int) ||| BitVec.ofInt 64 (y : Int)).toNat : Nat) : Int) = _
  rw [bv_or hx hy]
  exact u64_wrap (Nat.or_lt_two_pow hx hy)
theorem pow_lt64 {v : Int} (h1 : v < 64) : 2 ^ v.toNat < 2 ^ 64 := Nat.pow_lt_pow_right (by omega) (by omega)

theorem idx_Set (hA : A = stdOps E) {l : List Nat} {xs : List PV} (hx : xs = encSets l) {n : Int} {K : List PV → Prop} (h0 : 0 ≤ n) (h1 : n < l.length) (hk : ∀ x, l[n.toNat]? = some x → K [.int .u64 (x : Int)]) : A.idx xs n K :=
  idx_var hA (l := l) (enc := encSet) hx.symm h0 h1 fun x h => hk x h

theorem u64_all {n : Nat} (h1 : 1 ≤ n) (h2 : n ≤ 64) : (stdOps E).wShr 18446744073709551615 (64 - (n : Int)) = ((2 ^ n - 1 : Nat) : Int) := by
  show (18446744073709551615 : Int).fdiv (2 ^ (64 - (n : Int)).toNat) = _
  have e : (64 - (n : Int)).toNat = 64 - n := by omega
  rw [e]
  have : ∀ m : Fin 65, 1 ≤ m.val → (18446744073709551615 : Int).fdiv (2 ^ (64 - m.val)) = ((2 ^ m.val - 1 : Nat) : Int) := by decide +kernel
  exact this ⟨n, by omega⟩ h1

theorem secBits_lt {ss : List Sector} {n : Nat} (hn : n ≤ 64) (h : ss.all (sectorIx n) = true) : ∀ x ∈ secBits ss, x < 2 ^ 64 := by
  have key : ∀ (vs : List Int) (x : Nat), x < 2 ^ 64 → indexed n x vs = true → bitsFrom x vs < 2 ^ 64 := by
    intro vs
    induction vs with
    | nil => intro x hx _; exact hx
    | cons v r ih =>
      intro x hx hi
      simp only [indexed, Bool.and_eq_true, decide_eq_true_eq] at hi
      exact ih _ (Nat.or_lt_two_pow hx (pow_lt64 (by omega))) hi.2
  intro x hx
  simp only [secBits, List.mem_map] at hx
  obtain ⟨s, hs, rfl⟩ := hx
  have := List.all_eq_true.1 h s hs
  simp only [sectorIx, Bool.and_eq_true] at this
  exact key _ 0 (by omega) this.1
end
end Go.Abs

namespace Go.Abs
open Go.RowKit

section
variable {A : Ops} {E : Env}
theorem nT (hA : A = stdOps E) (h : A.bNot true = true) : False := by subst hA; cases h
theorem nF (hA : A = stdOps E) (h : A.bNot false = false) : False := by subst hA; cases h
theorem notT (hA : A = stdOps E) {b : Bool} (h : A.bNot b = true) : b = false := by subst hA; simpa [stdOps] using h
theorem notF (hA : A = stdOps E) {b : Bool} (h : A.bNot b = false) : b = true := by subst hA; simpa [stdOps] using h
theorem ltT (hA : A = stdOps E) {a b : Int} (h : A.iLt a b = true) : a < b := by subst hA; simpa [stdOps] using h
theorem ltF (hA : A = stdOps E) {a b : Int} (h : A.iLt a b = false) : b ≤ a := by subst hA; simp [stdOps] at h; omega
theorem leT (hA : A = stdOps E) {a b : Int} (h : A.iLe a b = true) : a ≤ b := by subst hA; simpa [stdOps] using h
theorem leF (hA : A = stdOps E) {a b : Int} (h : A.iLe a b = false) : b < a := by subst hA; simp [stdOps] at h; omega
theorem eqT (hA : A = stdOps E) {a b : Int} (h : A.iEq a b = true) : a = b := by subst hA; simpa [stdOps] using h
theorem eqF (hA : A = stdOps E) {a b : Int} (h : A.iEq a b = false) : a ≠ b := by subst hA; simpa [stdOps] using h
theorem neT (hA : A = stdOps E) {a b : Int} (h : A.bNot (A.iEq a b) = true) : a ≠ b := eqF hA (notT hA h)
theorem neF (hA : A = stdOps E) {a b : Int} (h : A.bNot (A.iEq a b) = false) : a = b := eqT hA (notF hA h)
theorem ltT' (hA : A = stdOps E) {a b a' b' : Int} (ha : a = a') (hb : b = b') (h : A.iLt a b = true) : a' < b' := by subst ha hb; exact ltT hA h
theorem ltF' (hA : A = stdOps E) {a b a' b' : Int} (ha : a = a') (hb : b = b') (h : A.iLt a b = false) : b' ≤ a' := by subst ha hb; exact ltF hA h
theorem leT' (hA : A = stdOps E) {a b a' b' : Int} (ha : a = a') (hb : b = b') (h : A.iLe a b = true) : a' ≤ b' := by subst ha hb; exact leT hA h
theorem leF' (hA : A = stdOps E) {a b a' b' : Int} (ha : a = a') (hb : b = b') (h : A.iLe a b = false) : b' < a' := by subst ha hb; exact leF hA h
theorem eqT' (hA : A = stdOps E) {a b a' b' : Int} (ha : a = a') (hb : b = b') (h : A.iEq a b = true) : a' = b' := by subst ha hb; exact eqT hA h
theorem eqF' (hA : A = stdOps E) {a b a' b' : Int} (ha : a = a') (hb : b = b') (h : A.iEq a b = false) : a' ≠ b' := by subst ha hb; exact eqF hA h
theorem neT' (hA : A = stdOps E) {a b a' b' : Int} (ha : a = a') (hb : b = b') (h : A.bNot (A.iEq a b) = true) : a' ≠ b' := by subst ha hb; exact neT hA h
theorem neF' (hA : A = stdOps E) {a b a' b' : Int} (ha : a = a') (hb : b = b') (h : A.bNot (A.iEq a b) = false) : a' = b' := by subst ha hb; exact neF hA h
theorem beqT (hA : A = stdOps E) {a b : Bool} (h : A.bEq a b = true) : a = b := by subst hA; simpa [stdOps] using h
theorem beqF (hA : A = stdOps E) {a b : Bool} (h : A.bEq a b = false) : a ≠ b := by subst hA; simpa [stdOps] using h
theorem bneT (hA : A = stdOps E) {a b : Bool} (h : A.bNot (A.bEq a b) = true) : a ≠ b := beqF hA (notT hA h)
theorem bneF (hA : A = stdOps E) {a b : Bool} (h : A.bNot (A.bEq a b) = false) : a = b := beqT hA (notF hA h)
theorem iEqI (hA : A = stdOps E) (a b : Int) : A.iEq a b = decide (a = b) := by subst hA; rfl
theorem slI (hA : A = stdOps E) {l h n l' h' n' : Int} (e1 : l = l') (e2 : h = h') (e3 : n = n') (h0 : 0 ≤ l') (h1 : l' ≤ h') (h2 : h' ≤ n') : A.sl l h n := by subst hA e1 e2 e3; exact ⟨h0, h1, h2⟩
theorem bneIT (hA : A = stdOps E) {a b : Int} {c : Bool} (h : A.bNot (A.bEq (A.iEq a b) c) = true) : decide (a = b) ≠ c := by have := bneT hA h; rw [iEqI hA] at this; exact this
theorem addI (hA : A = stdOps E) (a b : Int) : A.iAdd a b = a + b := by subst hA; rfl
theorem subI (hA : A = stdOps E) (a b : Int) : A.iSub a b = a - b := by subst hA; rfl
theorem mulI (hA : A = stdOps E) (a b : Int) : A.iMul a b = a * b := by subst hA; rfl
theorem modI (hA : A = stdOps E) (a b : Int) : A.iMod a b = a.tmod b := by subst hA; rfl
theorem divI (hA : A = stdOps E) (a b : Int) : A.iDiv a b = a.tdiv b := by subst hA; rfl
theorem lenI (hA : A = stdOps E) {xs : List PV} {n : Nat} (h : xs.length = n) : A.lLen xs = (n : Int) := by subst hA; subst h; rfl
theorem natI (hA : A = stdOps E) (n : Nat) : A.iNat n = (n : Int) := by subst hA; rfl
theorem natN (hA : A = stdOps E) (n : Int) : A.nNat n = n.toNat := by subst hA; rfl
theorem natNat (hA : A = stdOps E) {n : Int} (h : 0 ≤ n) : A.iNat (A.nNat n) = n := by subst hA; exact Int.toNat_of_nonneg h
theorem inRI (hA : A = stdOps E) {a : Int} (h : inI64 a) : A.inR a := by subst hA; exact h
theorem inR' (hA : A = stdOps E) {a b : Int} (e : a = b) (h : inI64 b) : A.inR a := by subst hA; subst e; exact h
theorem withI (hA : A = stdOps E) {a b c : Int} (e : b = c) (h0 : 0 ≤ a) (h : a < c) : A.within a b := by subst hA; subst e; exact ⟨h0, h⟩
end

theorem mem_snoc {α : Type} {p : α → Prop} {l l' : List α} {y : α} (e : l' = l ++ [y]) (h : ∀ x ∈ l, p x) (hy : p y) : ∀ x ∈ l', p x := by
  subst e
  intro x hx
  rcases List.mem_append.1 hx with h1 | h1
  · exact h x h1
  · rw [List.mem_singleton.1 h1]; exact hy
theorem take_all {α : Type} {p : α → Prop} {l : List α} {i : Int} (hi : i = (l.length : Int)) (h : ∀ x ∈ l.take i.toNat, p x) : ∀ x ∈ l, p x := by
  rw [List.take_of_length_le (by omega)] at h
  exact h
theorem any_f {α : Type} {p : α → Bool} {l : List α} (h : ∀ x ∈ l, p x = false) : l.any p = false := by rw [List.any_eq_false]; intro x hx; simp [h x hx]
theorem all_t {α : Type} {p : α → Bool} {l : List α} (h : ∀ x ∈ l, p x = true) : l.all p = true := by rw [List.all_eq_true]; exact h
theorem leS_refl (s : SV) : leS s s := (leL_refl [s]).1
theorem leL_same {s : SV} {l l' : List SV} (h : leL l l') : leL (s :: l) (s :: l') := ⟨leS_refl s, h⟩
theorem leL_any {s : SV} {l l' : List SV} (h : leL l l') : leL (s :: l) (SV.val .any :: l') := ⟨trivial, h⟩
theorem leL_own {t m : Nat} {xs : List PV} {l l' : List SV} (h : leL l l') : leL (.own t m xs :: l) (SV.val (.list m xs) :: l') := ⟨.inr (.inl rfl), h⟩
theorem leL_lit {m : Nat} {xs : List PV} {l l' : List SV} (h : leL l l') : leL (.lit m xs :: l) (SV.val (.list m xs) :: l') := ⟨.inr (.inl rfl), h⟩
theorem leL_nil : leL [] [] := trivial
end Go.Abs

namespace Go.Abs
open Go.RowKit

inductive LeP : PV → PV → Prop
  | refl (p : PV) : LeP p p
  | nil (m m' : Nat) (h0 : m' = 0 → m = 0 := by decide) : LeP (.list m []) (.list m' [])
  | list (m : Nat) (xs ys : List PV) (hl : xs.length = ys.length) (h : ∀ (i : Nat) (x y : PV), xs[i]? = some x → ys[i]? = some y → LeP x y) : LeP (.list m xs) (.list m ys)
  | agg (xs ys : List PV) (hl : xs.length = ys.length) (h : ∀ (i : Nat) (x y : PV), xs[i]? = some x → ys[i]? = some y → LeP x y) : LeP (.agg xs) (.agg ys)
  | tup (xs ys : List PV) (hl : xs.length = ys.length) (h : ∀ (i : Nat) (x y : PV), xs[i]? = some x → ys[i]? = some y → LeP x y) : LeP (.tup xs) (.tup ys)
  | map (ks vs ks' vs' : List PV) (hl : ks'.length = vs'.length) (hp : (ks.zip vs).Perm (ks'.zip vs')) : LeP (.map ks vs) (.map ks' vs')

theorem get_other {α β : Type} {xs : List α} {ys : List β} (hl : xs.length = ys.length) {i : Nat} {y : β} (h : ys[i]? = some y) : ∃ x, xs[i]? = some x :=
  ⟨xs[i]'(by rw [hl]; exact (List.getElem?_eq_some_iff.1 h).1), List.getElem?_eq_getElem _⟩

theorem LeP.cells {p q : PV} (h : LeP p q) : p.cells.length = q.cells.length ∧ ∀ (j : Nat) (c d : PV), p.cells[j]? = some c → q.cells[j]? = some d → LeP c d := by
  cases h with
  | refl p => exact ⟨rfl, fun j c d h1 h2 => by rw [h1] at h2; cases h2; exact .refl _⟩
  | agg xs ys hl h => exact ⟨hl, h⟩
  | nil m m' h0 =>
    refine ⟨rfl, fun j c d h1 h2 => ?_⟩
    cases j with
    | zero => simp [PV.cells] at h1 h2; subst h1 h2; exact .nil m m' h0
    | succ j => simp [PV.cells] at h1
  | list m xs ys hl h =>
    refine ⟨rfl, fun j c d h1 h2 => ?_⟩
    cases j with
    | zero => simp [PV.cells] at h1 h2; subst h1 h2; exact .list m xs ys hl h
    | succ j => simp [PV.cells] at h1
  | tup xs ys hl h =>
    refine ⟨rfl, fun j c d h1 h2 => ?_⟩
    cases j with
    | zero => simp [PV.cells] at h1 h2; subst h1 h2; exact .tup xs ys hl h
    | succ j => simp [PV.cells] at h1
  | map ks vs ks' vs' hl hp =>
    refine ⟨rfl, fun j c d h1 h2 => ?_⟩
    cases j with
    | zero => simp [PV.cells] at h1 h2; subst h1 h2; exact .map ks vs ks' vs' hl hp
    | succ j => simp [PV.cells] at h1

theorem RV.le {S : Addr → Prop} {w : World} {p : PV} {v : Value} (h : RV S w p v) : ∀ {q : PV}, LeP p q → RV S w q v := by
  induction h with
  | any v => intro q hq; cases hq; exact .any v
  | int k n => intro q hq; cases hq; exact .int k n
  | bool b => intro q hq; cases hq; exact .bool b
  | str s => intro q hq; cases hq; exact .str s
  | agg cs vs hl h ih =>
    intro q hq
    cases hq with
    | refl => exact .agg cs vs hl h
    | agg xs ys hl' h' =>
      refine .agg ys vs (by omega) fun i c v hc hv => ?_
      obtain ⟨x, hx⟩ := get_other hl' hc
      exact ih i x v hx hv (h' i x c hx hc)
  | tup cs vs hl h ih =>
    intro q hq
    cases hq with
    | refl => exact .tup cs vs hl h
    | tup xs ys hl' h' =>
      refine .tup ys vs (by omega) fun i c v hc hv => ?_
      obtain ⟨x, hx⟩ := get_other hl' hc
      exact ih i x v hx hv (h' i x c hx hc)
  | list m xs a ad cap g ha hcap hmax hm hc hr hz ih =>
    intro q hq
    cases hq with
    | refl => exact .list m xs a ad cap g ha hcap hmax hm hc hr hz
    | nil m m' h0 => exact RV.list_nil m' a cap hmax (fun e => hz (h0 e))
    | list m xs ys hl' h' =>
      rw [hl']
      have hcell : ∀ (i : Nat) (y : PV) (j : Nat) (d : PV), ys[i]? = some y → y.cells[j]? = some d → ∃ x c, xs[i]? = some x ∧ x.cells[j]? = some c ∧ LeP c d := fun i y j d hy hd => by
        obtain ⟨x, hx⟩ := get_other hl' hy
        obtain ⟨k1, k2⟩ := (h' i x y hx hy).cells
        obtain ⟨c, hc⟩ := get_other k1 hd
        exact ⟨x, c, hx, hc, k2 j c d hc hd⟩
      refine .list m ys a ad cap g (fun hne => ha (fun e => hne ?_)) (by omega) hmax (fun i y hy => ?_) (fun i y j d hy hd => ?_) (fun i y j d hy hd => ?_) hz
      · subst e; exact List.eq_nil_of_length_eq_zero hl'.symm
      · obtain ⟨x, hx⟩ := get_other hl' hy
        rw [← (h' i x y hx hy).cells.1]; exact hm i x hx
      · obtain ⟨x, c, h1, h2, _⟩ := hcell i y j d hy hd
        exact hc i x j c h1 h2
      · obtain ⟨x, c, h1, h2, h3⟩ := hcell i y j d hy hd
        exact ih i x j c h1 h2 h3
  | ptr cs off ad g hc hr ih => intro q hq; cases hq; exact .ptr cs off ad g hc hr
  | fn f caps vs hl h ih => intro q hq; cases hq; exact .fn f caps vs hl h
  | yld l => intro q hq; cases hq; exact .yld l
  | ref v h => intro q hq; cases hq; exact .ref v h
  | mapNil =>
    intro q hq
    cases hq with
    | refl => exact .mapNil
    | map ks vs ks' vs' hl hp =>
      have h1 := hp.length_eq
      simp [List.length_zip] at h1
      cases ks' with
      | nil => cases vs' with
        | nil => exact .mapNil
        | cons _ _ => cases hl
      | cons _ _ => cases vs' with
        | nil => cases hl
        | cons _ _ => simp at h1
  | map ks vs es b arr clock hp hl hS hb he hv ih =>
    intro q hq
    cases hq with
    | refl => exact .map ks vs es b arr clock hp hl hS hb he hv
    | map ks vs ks' vs' hl' hp' => exact .map ks' vs' es b arr clock (hp.trans hp') hl' hS hb he hv

inductive LeL : List PV → List PV → Prop
  | nil : LeL [] []
  | cons {x y : PV} {xs ys : List PV} (h : LeP x y) (hs : LeL xs ys) : LeL (x :: xs) (y :: ys)

theorem LeL.refl : ∀ (l : List PV), LeL l l
  | [] => .nil
  | x :: r => .cons (.refl x) (LeL.refl r)

theorem RVs.le {S : Addr → Prop} {w : World} : ∀ {ps qs : List PV} {vs : List Value}, LeL ps qs → RVs S w ps vs → RVs S w qs vs
  | _, _, vs, .nil, h => h
  | _, _, [], .cons _ _, h => by have := h.1; simp at this
  | _, _, v :: vs, .cons hp hs, h => RVs.cons (RV.le (h.2 0 _ v rfl rfl) hp) (RVs.le hs ⟨by have := h.1; simpa using this, fun i p u h1 h2 => h.2 (i + 1) p u (by simpa using h1) (by simpa using h2)⟩)

theorem CallsPV.le {P : Program} {f : FuncId} {args args' : List PV} {p p' : PV} (h : CallsPV P f args' p) (ha : LeL args args') (hp : LeP p p') : CallsPV P f args p' := by
  refine ⟨h.1, fun S w vs hS hv => (h.2 S w vs hS (hv.le ha)).mono ?_⟩
  rintro e w' ⟨v, he, hb, hr⟩
  exact ⟨v, he, hb, hr.le hp⟩

/-- .. by looking. -/
def lePb : Nat → PV → PV → Bool
  | 0, _, _ => false
  | n + 1, .list m xs, .list m' ys => (xs.isEmpty && ys.isEmpty && (decide (m' ≠ 0) || decide (m = 0))) || (decide (m = m') && decide (xs.length = ys.length) && (xs.zip ys).all fun p => lePb n p.1 p.2)
  | n + 1, .agg xs, .agg ys => decide (xs.length = ys.length) && (xs.zip ys).all fun p => lePb n p.1 p.2
  | n + 1, .tup xs, .tup ys => decide (xs.length = ys.length) && (xs.zip ys).all fun p => lePb n p.1 p.2
  | _ + 1, .int k a, .int k' b => decide (k = k') && decide (a = b)
  | _ + 1, .bool a, .bool b => decide (a = b)
  | _ + 1, .str a, .str b => decide (a = b)
  | _ + 1, _, _ => false

theorem lePb_ok : ∀ (n : Nat) (p q : PV), lePb n p q = true → LeP p q := by
  intro n
  induction n with
  | zero => intro p q h; cases h
  | succ n ih =>
    intro p q h
    have hz : ∀ {xs ys : List PV}, ((xs.zip ys).all fun p => lePb n p.1 p.2) = true → ∀ (i : Nat) (x y : PV), xs[i]? = some x → ys[i]? = some y → LeP x y := by
      intro xs ys h i x y hx hy
      refine ih x y (List.all_eq_true.1 h (x, y) (List.mem_of_getElem? (i := i) ?_))
      rw [List.getElem?_zip_eq_some]; exact ⟨hx, hy⟩
    unfold lePb at h
    split at h
    · cases h
    · rename_i n' m xs m' ys he
      cases he
      rw [Bool.or_eq_true] at h
      rcases h with h | h
      · simp only [Bool.and_eq_true, List.isEmpty_iff, Bool.or_eq_true, decide_eq_true_eq] at h
        obtain ⟨⟨rfl, rfl⟩, h0⟩ := h
        exact .nil _ _ (fun e => by rcases h0 with h0 | h0; exact absurd e h0; exact h0)
      · simp only [Bool.and_eq_true, decide_eq_true_eq] at h
        obtain ⟨⟨rfl, h2⟩, h3⟩ := h
        exact .list _ _ _ h2 (hz h3)
    · rename_i n' xs ys he
      cases he
      simp only [Bool.and_eq_true, decide_eq_true_eq] at h; exact .agg _ _ h.1 (hz h.2)
    · rename_i n' xs ys he
      cases he
      simp only [Bool.and_eq_true, decide_eq_true_eq] at h; exact .tup _ _ h.1 (hz h.2)
    · simp only [Bool.and_eq_true, decide_eq_true_eq] at h; obtain ⟨rfl, rfl⟩ := h; exact .refl _
    · simp only [decide_eq_true_eq] at h; subst h; exact .refl _
    · simp only [decide_eq_true_eq] at h; subst h; exact .refl _
    · cases h

end Go.Abs

namespace Go.Abs

/-- The numbers from one to another. -/
def rangeL (lo hi : Int) : List Int := (List.range (hi - lo + 1).toNat).map fun (i : Nat) => lo + (i : Int)
theorem mem_rangeL {lo hi x : Int} : x ∈ rangeL lo hi ↔ lo ≤ x ∧ x ≤ hi := by
  unfold rangeL
  simp only [List.mem_map, List.mem_range]
  constructor
  · rintro ⟨i, h, rfl⟩; omega
  · rintro ⟨h1, h2⟩; exact ⟨(x - lo).toNat, by omega, by omega⟩
theorem rangeL_len (lo hi : Int) : (rangeL lo hi).length = (hi - lo + 1).toNat := by simp [rangeL]
theorem rangeL_get {lo hi : Int} {i : Nat} (h : lo + i ≤ hi) : (rangeL lo hi)[i]? = some (lo + i) := by
  unfold rangeL
  rw [List.getElem?_map, List.getElem?_range (by omega)]; rfl
theorem rangeL_take {lo hi x : Int} (h0 : lo ≤ x) (h1 : x ≤ hi) : (rangeL lo hi).take (x + 1 - lo).toNat = (rangeL lo hi).take (x - lo).toNat ++ [x] := by
  rw [show (x + 1 - lo).toNat = (x - lo).toNat + 1 by omega, List.take_add_one, rangeL_get (by omega)]
  simp; omega
theorem rangeL_add (lo hi d : Int) : rangeL (lo + d) (hi + d) = (rangeL lo hi).map (· + d) := by
  unfold rangeL
  rw [List.map_map, show hi + d - (lo + d) + 1 = hi - lo + 1 by omega]
  refine List.map_congr_left fun i _ => ?_
  simp only [Function.comp_def]; omega
theorem rangeL_sorted (lo hi : Int) : (rangeL lo hi).Pairwise (· < ·) := by
  unfold rangeL
  rw [List.pairwise_map]
  exact List.pairwise_lt_range.imp fun h => by omega

/-- All times from one on, by the bounds of what comes. -/
def extL : Int → List Bound → List (List Int)
  | _, [] => [[]]
  | last, b :: r => (rangeL (last + b.Lo) (last + b.Hi)).flatMap fun t => (extL t r).map (t :: ·)
/-- .. whether some are. -/
def fliesT : Int → List Bound → List Int → Prop
  | _, [], ts => ts = []
  | _, _ :: _, [] => False
  | last, b :: r, t :: ts => (last + b.Lo ≤ t ∧ t ≤ last + b.Hi) ∧ fliesT t r ts

theorem mem_extL : ∀ {bs : List Bound} {last : Int} {ts : List Int}, ts ∈ extL last bs ↔ fliesT last bs ts
  | [], last, ts => by simp [extL, fliesT]
  | b :: r, last, ts => by
    simp only [extL, List.mem_flatMap, List.mem_map, mem_rangeL]
    cases ts with
    | nil => simp [fliesT]
    | cons t ts =>
      simp only [fliesT, List.cons.injEq]
      constructor
      · rintro ⟨t', h, ts', h2, rfl, rfl⟩; exact ⟨h, mem_extL.1 h2⟩
      · rintro ⟨h1, h2⟩; exact ⟨t, h1, ts, mem_extL.2 h2, rfl, rfl⟩

theorem extL_mem_len : ∀ {bs : List Bound} {last : Int} {ts : List Int}, ts ∈ extL last bs → ts.length = bs.length
  | [], last, ts, h => by simp [extL] at h; simp [h]
  | b :: r, last, ts, h => by
    simp only [extL, List.mem_flatMap, List.mem_map] at h
    obtain ⟨t, _, ts', h2, rfl⟩ := h
    simp [extL_mem_len h2]

def widthB (b : Bound) : Nat := (b.Hi - b.Lo + 1).toNat
def prodB : List Bound → Nat
  | [] => 1
  | b :: r => widthB b * prodB r
theorem extL_len : ∀ (bs : List Bound) (last : Int), (extL last bs).length = prodB bs
  | [], _ => rfl
  | b :: r, last => by
    simp only [extL, List.length_flatMap, List.length_map, prodB]
    rw [show (fun t => (extL t r).length) = fun _ => prodB r from funext fun t => extL_len r t]
    rw [List.map_const', List.sum_replicate_nat, rangeL_len]
    congr 1
    unfold widthB
    congr 1; omega

/-- One list comes before another one: at the first place where they are not equal it is less. -/
def lexL : List Int → List Int → Prop
  | a :: r, b :: s => a < b ∨ (a = b ∧ lexL r s)
  | _, _ => False

theorem extL_sorted : ∀ (bs : List Bound) (last : Int), (extL last bs).Pairwise lexL
  | [], _ => by simp [extL]
  | b :: r, last => by
    simp only [extL]
    rw [List.pairwise_flatMap]
    refine ⟨fun t _ => ?_, ?_⟩
    · rw [List.pairwise_map]
      exact (extL_sorted r t).imp fun h => .inr ⟨rfl, h⟩
    · refine (rangeL_sorted _ _).imp fun h => ?_
      intro x hx y hy
      obtain ⟨x', _, rfl⟩ := List.mem_map.1 hx
      obtain ⟨y', _, rfl⟩ := List.mem_map.1 hy
      exact .inl h

theorem extL_shift : ∀ (bs : List Bound) (last d : Int), extL (last + d) bs = (extL last bs).map (·.map (· + d))
  | [], _, _ => rfl
  | b :: r, last, d => by
    simp only [extL, List.map_flatMap, List.map_map]
    rw [show last + d + b.Lo = last + b.Lo + d by omega, show last + d + b.Hi = last + b.Hi + d by omega, rangeL_add, List.flatMap_map]
    congr 1
    funext t
    rw [extL_shift r t d, List.map_map]
    rfl

/-- The first bounds moved. -/
theorem extL_move (b : Bound) (r : List Bound) (last d : Int) : extL last (⟨b.Lo + d, b.Hi + d⟩ :: r) = (extL last (b :: r)).map (·.map (· + d)) := by
  have := extL_shift (b :: r) last d
  rw [← this]
  simp only [extL]
  rw [show last + (b.Lo + d) = last + d + b.Lo by omega, show last + (b.Hi + d) = last + d + b.Hi by omega]

/-- The last number of a list, so much more. -/
def lateL (d : Int) : List Int → List Int
  | [] => []
  | [x] => [x + d]
  | x :: y :: r => x :: lateL d (y :: r)
def lateB (d : Int) : List Bound → List Bound
  | [] => []
  | [b] => [⟨b.Lo + d, b.Hi + d⟩]
  | x :: y :: r => x :: lateB d (y :: r)
theorem extL_late (d : Int) : ∀ (bs : List Bound) (last : Int), extL last (lateB d bs) = (extL last bs).map (lateL d)
  | [], _ => rfl
  | [b], last => by
    rw [lateB, extL_move]
    simp [extL, lateL, List.map_flatMap]
  | x :: y :: r, last => by
    simp only [lateB]
    rw [show extL last (x :: lateB d (y :: r)) = (rangeL (last + x.Lo) (last + x.Hi)).flatMap fun t => (extL t (lateB d (y :: r))).map (t :: ·) from rfl,
      show extL last (x :: y :: r) = (rangeL (last + x.Lo) (last + x.Hi)).flatMap fun t => (extL t (y :: r)).map (t :: ·) from rfl, List.map_flatMap]
    congr 1
    funext t
    rw [extL_late d (y :: r) t, List.map_map, List.map_map]
    refine List.map_congr_left fun ts hts => ?_
    have := extL_mem_len hts
    cases ts with
    | nil => simp at this
    | cons a s => rfl
theorem lateL_len (d : Int) : ∀ (l : List Int), (lateL d l).length = l.length
  | [] => rfl
  | [x] => rfl
  | x :: y :: r => by simp [lateL, lateL_len d (y :: r)]
theorem lateL_get (d : Int) : ∀ (l : List Int) (i : Nat), (lateL d l)[i]? = l[i]?.map fun x => if i + 1 = l.length then x + d else x
  | [], i => by simp [lateL]
  | [x], i => by cases i <;> simp [lateL]
  | x :: y :: r, i => by
    cases i with
    | zero => simp [lateL]
    | succ i =>
      rw [lateL, List.getElem?_cons_succ, lateL_get d (y :: r) i, List.getElem?_cons_succ]
      simp

/-- The window taken apart. -/
theorem extL_window (lo hi : Int) (r : List Bound) : extL 0 (⟨lo, hi⟩ :: r) = (rangeL lo hi).flatMap fun m => extL 0 (⟨m, m⟩ :: r) := by
  simp only [extL, Int.zero_add]
  congr 1
  funext m
  have : rangeL m m = [m] := by
    unfold rangeL
    rw [show m - m + 1 = 1 by omega]; simp
  rw [this]; simp

/-- The bounds of all crossings that come. -/
def sumT : Bound → List Bound → List Bound
  | _, [] => []
  | x, b :: r => ⟨x.Lo + b.Lo, x.Hi + b.Hi⟩ :: sumT ⟨x.Lo + b.Lo, x.Hi + b.Hi⟩ r
theorem sumT_len : ∀ (bs : List Bound) (x : Bound), (sumT x bs).length = bs.length
  | [], _ => rfl
  | b :: r, x => by simp [sumT, sumT_len r]
theorem sumT_get : ∀ {bs : List Bound} {x y b : Bound} {i : Nat}, (x :: sumT x bs)[i]? = some y → bs[i]? = some b → (sumT x bs)[i]? = some ⟨y.Lo + b.Lo, y.Hi + b.Hi⟩
  | [], _, _, _, i, _, h => by simp at h
  | c :: r, x, y, b, 0, h1, h2 => by simp at h1 h2; subst h1 h2; rfl
  | c :: r, x, y, b, i + 1, h1, h2 => by
    simp only [sumT, List.getElem?_cons_succ] at h1 h2 ⊢
    exact sumT_get h1 h2
theorem flies_in : ∀ {bs : List Bound} {last : Int} {ts : List Int} {x : Bound}, fliesT last bs ts → x.Lo ≤ last → last ≤ x.Hi → ∀ (k : Nat) (t : Int) (b : Bound), ts[k]? = some t → (sumT x bs)[k]? = some b → b.Lo ≤ t ∧ t ≤ b.Hi
  | [], _, ts, x, h, _, _, k, t, b, h1, h2 => by simp [sumT] at h2
  | c :: r, last, [], x, h, _, _, k, t, b, h1, h2 => by simp at h1
  | c :: r, last, t0 :: ts, x, h, hl, hh, k, t, b, h1, h2 => by
    obtain ⟨⟨h3, h4⟩, h5⟩ := h
    cases k with
    | zero =>
      simp [sumT] at h1 h2
      subst h1 h2
      simp only; omega
    | succ k =>
      refine flies_in h5 (x := ⟨x.Lo + c.Lo, x.Hi + c.Hi⟩) (by simp only; omega) (by simp only; omega) k t b (by simpa using h1) (by simpa [sumT] using h2)
theorem flies_lo : ∀ {bs : List Bound} (x : Bound), (∀ b ∈ bs, b.Lo ≤ b.Hi) → fliesT x.Lo bs ((sumT x bs).map (·.Lo))
  | [], _, _ => rfl
  | c :: r, x, h => by
    have hc := h c (by simp)
    exact ⟨by simp only; omega, flies_lo ⟨x.Lo + c.Lo, x.Hi + c.Hi⟩ fun b hb => h b (by simp [hb])⟩
theorem flies_hi : ∀ {bs : List Bound} (x : Bound), (∀ b ∈ bs, b.Lo ≤ b.Hi) → fliesT x.Hi bs ((sumT x bs).map (·.Hi))
  | [], _, _ => rfl
  | c :: r, x, h => by
    have hc := h c (by simp)
    exact ⟨by simp only; omega, flies_hi ⟨x.Lo + c.Lo, x.Hi + c.Hi⟩ fun b hb => h b (by simp [hb])⟩

theorem prodB_pos : ∀ {bs : List Bound}, (∀ b ∈ bs, b.Lo ≤ b.Hi) → 0 < prodB bs
  | [], _ => by simp [prodB]
  | b :: r, h => by
    have hb := h b (by simp)
    exact Nat.mul_pos (by unfold widthB; omega) (prodB_pos fun c hc => h c (by simp [hc]))
theorem prodB_append : ∀ (a b : List Bound), prodB (a ++ b) = prodB a * prodB b
  | [], b => by simp [prodB]
  | x :: a, b => by rw [List.cons_append, prodB, prodB_append a b, prodB, Nat.mul_assoc]

/-- Step by step. -/
theorem fliesT_get : ∀ {bs : List Bound} {last : Int} {ts : List Int}, fliesT last bs ts ↔ ts.length = bs.length ∧ ∀ (k : Nat) (b : Bound) (t p : Int), bs[k]? = some b → ts[k]? = some t → (last :: ts)[k]? = some p → p + b.Lo ≤ t ∧ t ≤ p + b.Hi
  | [], last, ts => by
    simp only [fliesT, List.length_nil, List.length_eq_zero_iff]
    exact ⟨fun h => ⟨h, fun k b t p h1 => by simp at h1⟩, fun h => h.1⟩
  | c :: r, last, [] => by simp [fliesT]
  | c :: r, last, t0 :: ts => by
    simp only [fliesT]
    rw [fliesT_get (bs := r)]
    constructor
    · rintro ⟨h1, h2, h3⟩
      refine ⟨by simp [h2], fun k b t p hb ht hp => ?_⟩
      cases k with
      | zero => simp at hb ht hp; subst hb ht hp; exact h1
      | succ k => exact h3 k b t p (by simpa using hb) (by simpa using ht) (by simpa using hp)
    · rintro ⟨h1, h2⟩
      refine ⟨h2 0 c t0 last rfl rfl rfl, by simpa using h1, fun k b t p hb ht hp => h2 (k + 1) b t p (by simpa using hb) (by simpa using ht) (by simpa using hp)⟩
end Go.Abs
