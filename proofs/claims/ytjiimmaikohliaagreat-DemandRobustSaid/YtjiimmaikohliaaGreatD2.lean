/-
  Layers 19 and 20: cells, uses, changes, schemes; what the functions compute, in plain words.
-/
import Derived.Test.YtjiimmaikohliaaGreatS1
set_option linter.unusedVariables false
set_option linter.unusedSimpArgs false
namespace Go.Abs
open Go.RowKit Go.Proofs

structure Cell where
  Airport : Bool
  Index : Int
  Minute : Int
deriving DecidableEq
structure Use where
  Cell : Cell
  Places : Int
deriving DecidableEq
structure Change where
  From : Int
  Config : Int
  Modes : List Int
deriving DecidableEq

def encCell (c : Cell) : PV := .agg [.bool c.Airport, .int .i64 c.Index, .int .i64 c.Minute]
def encCells (l : List Cell) : List PV := l.map encCell
def encUse (u : Use) : PV := .agg [.bool u.Cell.Airport, .int .i64 u.Cell.Index, .int .i64 u.Cell.Minute, .int .i64 u.Places]
def encUses (l : List Use) : List PV := l.map encUse
def encUseL (l : List Use) : PV := .list 4 (encUses l)
def encUseLs (l : List (List Use)) : List PV := l.map encUseL
def encChange (c : Change) : PV := .agg [.int .i64 c.From, .int .i64 c.Config, .list 1 (encInts c.Modes)]
def encChanges (l : List Change) : List PV := l.map encChange
def encScheme (l : List Change) : PV := .agg [.list 3 (encChanges l)]

section
variable {A : Ops} {E : Env}
theorem idx_Cell (hA : A = stdOps E) {l : List Cell} {xs : List PV} (hx : xs = encCells l) {n : Int} {K : List PV → Prop} (h0 : 0 ≤ n) (h1 : n < l.length)
    (hk : ∀ x, l[n.toNat]? = some x → K [.bool x.Airport, .int .i64 x.Index, .int .i64 x.Minute]) : A.idx xs n K :=
  idx_var hA (l := l) (enc := encCell) hx.symm h0 h1 fun x h => hk x h
theorem idx_Use (hA : A = stdOps E) {l : List Use} {xs : List PV} (hx : xs = encUses l) {n : Int} {K : List PV → Prop} (h0 : 0 ≤ n) (h1 : n < l.length)
    (hk : ∀ x, l[n.toNat]? = some x → K [.bool x.Cell.Airport, .int .i64 x.Cell.Index, .int .i64 x.Cell.Minute, .int .i64 x.Places]) : A.idx xs n K :=
  idx_var hA (l := l) (enc := encUse) hx.symm h0 h1 fun x h => hk x h
theorem idx_UseL (hA : A = stdOps E) {l : List (List Use)} {xs : List PV} (hx : xs = encUseLs l) {n : Int} {K : List PV → Prop} (h0 : 0 ≤ n) (h1 : n < l.length) (hk : ∀ x v, l[n.toNat]? = some x → v = encUses x → K [.list 4 v]) : A.idx xs n K :=
  idx_var hA (l := l) (enc := encUseL) hx.symm h0 h1 fun x h => hk x _ h rfl
theorem idx_Change (hA : A = stdOps E) {l : List Change} {xs : List PV} (hx : xs = encChanges l) {n : Int} {K : List PV → Prop} (h0 : 0 ≤ n) (h1 : n < l.length)
    (hk : ∀ x v, l[n.toNat]? = some x → v = encInts x.Modes → K [.int .i64 x.From, .int .i64 x.Config, .list 1 v]) : A.idx xs n K :=
  idx_var hA (l := l) (enc := encChange) hx.symm h0 h1 fun x h => hk x _ h rfl
end

/-- Is a mode one of the airport's? -/
def modeB (p : Int × List Int) : Bool := decide (0 ≤ p.1) && decide (p.1 < p.2.length)
/-- A change that fits the tables. -/
def changeOk (nc : Nat) (M : List (List Int)) (c : Change) : Bool :=
  decide (0 ≤ c.From) && decide (c.From < 1440) && decide (0 ≤ c.Config) && decide (c.Config < nc) && decide (c.Modes.length = M.length) && (c.Modes.zip M).all modeB
/-- Changes in order of their minutes, from one on. -/
def incFrom : Int → List Change → Bool
  | _, [] => true
  | p, c :: r => decide (p < c.From) && incFrom c.From r
/-- A scheme that is valid for tables. -/
def schemeOk (nc : Nat) (M : List (List Int)) : List Change → Bool
  | [] => false
  | c :: r => decide (c.From = 0) && (c :: r).all (changeOk nc M) && incFrom c.From r
def capErr (t : Tables) (s : List Change) : Int := if airOk t then (if schemeOk t.Configs.length t.Modes s then 0 else 190) else 140

/-- The change in force at a minute. -/
def inStep (m : Int) (o : Option Change) (x : Change) : Option Change :=
  if x.From ≤ m then match o with | none => some x | some c => if c.From ≤ x.From then some x else some c else o
def inS (s : List Change) (m : Int) : Option Change := s.foldl (inStep m) none
def nilChange : Change := ⟨0, 0, []⟩
/-- Is a volume in a sector? -/
def volIn (ss : List Sector) (v i : Int) : Bool := decide (0 ≤ i) && (match ss[i.toNat]? with | some s => decide (v ∈ s.Volumes) | none => false)
/-- The sector in which a volume is, by a configuration. -/
def cfgSec (ss : List Sector) (cs : List Config) (c v : Int) : Option Int :=
  if 0 ≤ c then match cs[c.toNat]? with | some k => k.Sectors.find? (volIn ss v) | none => none else none
def secAt (t : Tables) (s : List Change) (v m : Int) : Option Int :=
  match inS s m with | some c => cfgSec t.Sectors t.Configs c.Config v | none => none

theorem foldl_snoc {α β : Type} (f : β → α → β) (b : β) (l : List α) (x : α) : (l ++ [x]).foldl f b = f (l.foldl f b) x := by simp
theorem incFrom_drop : ∀ (l : List Change) (p : Int) (i : Nat) (x y : Change), incFrom p l = true → l[i]? = some x → l[i + 1]? = some y → x.From < y.From
  | [], _, _, _, _, _, h, _ => by simp at h
  | [c], _, i, _, _, _, _, h => by simp at h
  | c :: d :: r, p, 0, x, y, h, hx, hy => by
    simp at hx hy; subst hx hy
    simp [incFrom] at h; exact h.2.1
  | c :: d :: r, p, i + 1, x, y, h, hx, hy => incFrom_drop (d :: r) c.From i x y (by unfold incFrom at h; simp only [Bool.and_eq_true] at h; exact h.2) (by simpa using hx) (by simpa using hy)
theorem incFrom_of : ∀ (l : List Change) (p : Int), (∀ c r, l = c :: r → p < c.From) → (∀ (i : Nat) (x y : Change), l[i]? = some x → l[i + 1]? = some y → x.From < y.From) → incFrom p l = true
  | [], _, _, _ => rfl
  | c :: r, p, h0, h => by
    unfold incFrom
    rw [Bool.and_eq_true, decide_eq_true_eq]
    refine ⟨h0 c r rfl, incFrom_of r c.From (fun d q e => ?_) fun i x y hx hy => h (i + 1) x y (by simpa using hx) (by simpa using hy)⟩
    subst e
    exact h 0 c d rfl rfl
theorem schemeOk_iff {nc : Nat} {M : List (List Int)} {s : List Change} : schemeOk nc M s = true ↔ (∃ c, s[0]? = some c ∧ c.From = 0) ∧ (∀ x ∈ s, changeOk nc M x = true) ∧ ∀ (i : Nat) (x y : Change), s[i]? = some x → s[i + 1]? = some y → x.From < y.From := by
  cases s with
  | nil => simp [schemeOk]
  | cons c r =>
    unfold schemeOk
    rw [Bool.and_eq_true, Bool.and_eq_true, decide_eq_true_eq, List.all_eq_true]
    constructor
    · rintro ⟨⟨h1, h2⟩, h3⟩
      refine ⟨⟨c, rfl, h1⟩, h2, fun i x y hx hy => ?_⟩
      exact incFrom_drop (c :: r) (c.From - 1) i x y (by unfold incFrom; rw [h3]; simp; omega) hx hy
    · rintro ⟨⟨d, h1, h2⟩, h3, h4⟩
      cases h1
      refine ⟨⟨h2, h3⟩, incFrom_of r c.From (fun d q e => ?_) fun i x y hx hy => h4 (i + 1) x y (by simpa using hx) (by simpa using hy)⟩
      subst e
      exact h4 0 c d rfl rfl

/-- The order of cells. -/
def rankB (b : Bool) : Int := if b then 1 else 0
end Go.Abs
