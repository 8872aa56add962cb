/-
  Data: the program's structs as Lean structures, and as trees.
-/
import Derived.Test.YtbljnbpddboohaaGreatA4
set_option linter.unusedVariables false
set_option linter.unusedSimpArgs false
namespace Go.Abs
open Go.RowKit

structure Span where
  From : Int
  To : Int
deriving DecidableEq
structure Sector where
  Name : ByteArray
  Names : List ByteArray
  Volumes : List Int
  Radar : Int
  Procedural : Int
structure Config where
  Name : ByteArray
  Names : List ByteArray
  Sectors : List Int
structure Leg where
  Segment : Int
  Volume : Int
  Length : Int
  Minutes : List Span
structure Way where
  From : Int
  To : Int
  Legs : List Leg
structure Kind where
  Slow : Int
  Fast : Int
  Places : Int
  Weight : Int
  Longest : Int
  Curfews : List (List Span)
structure Tables where
  Volumes : Int
  Sectors : List Sector
  Configs : List Config
  Ways : List Way
  Modes : List (List Int)
  Kinds : List Kind
structure Flight where
  ID : Int
  Airline : Int
  Class : Int
  Call : ByteArray
  Ways : List Int
  Window : Span
  Cancel : Bool
structure Opt where
  Delay : Int
  Way : Int
  Hold : Int
  Cancel : Bool
deriving DecidableEq
structure Bound where
  Lo : Int
  Hi : Int
deriving DecidableEq
structure Stay where
  Airport : Bool
  Index : Int
  Minutes : Span
deriving DecidableEq
structure Station where
  Volumes : List Int
  Shift : Int
  Faults : Int
structure Report where
  Station : Int
  No : Int
  Minute : Int
  Arrived : Int
  Call : ByteArray
  Volume : Int
structure Path where
  Way : Int
  Times : List Int

def encInt (n : Int) : PV := .int .i64 n
def encInts (l : List Int) : List PV := l.map encInt
def encStr (s : ByteArray) : PV := .str s
def encStrs (l : List ByteArray) : List PV := l.map encStr
def encSpan (s : Span) : PV := .agg [.int .i64 s.From, .int .i64 s.To]
def encSpans (l : List Span) : List PV := l.map encSpan
def encSpanL (l : List Span) : PV := .list 2 (encSpans l)
def encSpanLs (l : List (List Span)) : List PV := l.map encSpanL
def encIntL (l : List Int) : PV := .list 1 (encInts l)
def encIntLs (l : List (List Int)) : List PV := l.map encIntL
def encSector (s : Sector) : PV := .agg [.str s.Name, .list 1 (encStrs s.Names), .list 1 (encInts s.Volumes), .int .i64 s.Radar, .int .i64 s.Procedural]
def encSectors (l : List Sector) : List PV := l.map encSector
def encConfig (s : Config) : PV := .agg [.str s.Name, .list 1 (encStrs s.Names), .list 1 (encInts s.Sectors)]
def encConfigs (l : List Config) : List PV := l.map encConfig
def encLeg (s : Leg) : PV := .agg [.int .i64 s.Segment, .int .i64 s.Volume, .int .i64 s.Length, .list 2 (encSpans s.Minutes)]
def encLegs (l : List Leg) : List PV := l.map encLeg
def encWay (s : Way) : PV := .agg [.int .i64 s.From, .int .i64 s.To, .list 4 (encLegs s.Legs)]
def encWays (l : List Way) : List PV := l.map encWay
def encKind (s : Kind) : PV := .agg [.int .i64 s.Slow, .int .i64 s.Fast, .int .i64 s.Places, .int .i64 s.Weight, .int .i64 s.Longest, .list 1 (encSpanLs s.Curfews)]
def encKinds (l : List Kind) : List PV := l.map encKind
def encTables (t : Tables) : PV := .agg [.int .i64 t.Volumes, .list 5 (encSectors t.Sectors), .list 3 (encConfigs t.Configs), .list 3 (encWays t.Ways), .list 1 (encIntLs t.Modes), .list 6 (encKinds t.Kinds)]
def encFlight (f : Flight) : PV := .agg [.int .i64 f.ID, .int .i64 f.Airline, .int .i64 f.Class, .str f.Call, .list 1 (encInts f.Ways), .int .i64 f.Window.From, .int .i64 f.Window.To, .bool f.Cancel]
def encOpt (o : Opt) : PV := .agg [.int .i64 o.Delay, .int .i64 o.Way, .int .i64 o.Hold, .bool o.Cancel]
def encOpts (l : List Opt) : List PV := l.map encOpt
def encBound (b : Bound) : PV := .agg [.int .i64 b.Lo, .int .i64 b.Hi]
def encBounds (l : List Bound) : List PV := l.map encBound
def encStay (s : Stay) : PV := .agg [.bool s.Airport, .int .i64 s.Index, .int .i64 s.Minutes.From, .int .i64 s.Minutes.To]
def encStays (l : List Stay) : List PV := l.map encStay
def encStation (s : Station) : PV := .agg [.list 1 (encInts s.Volumes), .int .i64 s.Shift, .int .i64 s.Faults]
def encStations (l : List Station) : List PV := l.map encStation
def encReport (r : Report) : PV := .agg [.int .i64 r.Station, .int .i64 r.No, .int .i64 r.Minute, .int .i64 r.Arrived, .str r.Call, .int .i64 r.Volume]
def encReports (l : List Report) : List PV := l.map encReport
def encPath (p : Path) : PV := .agg [.int .i64 p.Way, .list 1 (encInts p.Times)]
def encPaths (l : List Path) : List PV := l.map encPath

section
variable {A : Ops} {E : Env}

theorem idx_Int (hA : A = stdOps E) {l : List Int} {xs : List PV} (hx : xs = encInts l) {n : Int} {K : List PV → Prop} (h0 : 0 ≤ n) (h1 : n < l.length) (hk : ∀ x, l[n.toNat]? = some x → K [.int .i64 x]) : A.idx xs n K :=
  idx_var hA (l := l) (enc := encInt) hx.symm h0 h1 fun x h => hk x h
theorem idx_Span (hA : A = stdOps E) {l : List Span} {xs : List PV} (hx : xs = encSpans l) {n : Int} {K : List PV → Prop} (h0 : 0 ≤ n) (h1 : n < l.length) (hk : ∀ x, l[n.toNat]? = some x → K [.int .i64 x.From, .int .i64 x.To]) : A.idx xs n K :=
  idx_var hA (l := l) (enc := encSpan) hx.symm h0 h1 fun x h => hk x h
theorem idx_SpanL (hA : A = stdOps E) {l : List (List Span)} {xs : List PV} (hx : xs = encSpanLs l) {n : Int} {K : List PV → Prop} (h0 : 0 ≤ n) (h1 : n < l.length) (hk : ∀ x v, l[n.toNat]? = some x → v = encSpans x → K [.list 2 v]) : A.idx xs n K :=
  idx_var hA (l := l) (enc := encSpanL) hx.symm h0 h1 fun x h => hk x _ h rfl
theorem idx_IntL (hA : A = stdOps E) {l : List (List Int)} {xs : List PV} (hx : xs = encIntLs l) {n : Int} {K : List PV → Prop} (h0 : 0 ≤ n) (h1 : n < l.length) (hk : ∀ x v, l[n.toNat]? = some x → v = encInts x → K [.list 1 v]) : A.idx xs n K :=
  idx_var hA (l := l) (enc := encIntL) hx.symm h0 h1 fun x h => hk x _ h rfl
theorem idx_Sector (hA : A = stdOps E) {l : List Sector} {xs : List PV} (hx : xs = encSectors l) {n : Int} {K : List PV → Prop} (h0 : 0 ≤ n) (h1 : n < l.length)
    (hk : ∀ x v1 v2, l[n.toNat]? = some x → v1 = encStrs x.Names → v2 = encInts x.Volumes → K [.str x.Name, .list 1 v1, .list 1 v2, .int .i64 x.Radar, .int .i64 x.Procedural]) : A.idx xs n K :=
  idx_var hA (l := l) (enc := encSector) hx.symm h0 h1 fun x h => hk x _ _ h rfl rfl
theorem idx_Config (hA : A = stdOps E) {l : List Config} {xs : List PV} (hx : xs = encConfigs l) {n : Int} {K : List PV → Prop} (h0 : 0 ≤ n) (h1 : n < l.length)
    (hk : ∀ x v1 v2, l[n.toNat]? = some x → v1 = encStrs x.Names → v2 = encInts x.Sectors → K [.str x.Name, .list 1 v1, .list 1 v2]) : A.idx xs n K :=
  idx_var hA (l := l) (enc := encConfig) hx.symm h0 h1 fun x h => hk x _ _ h rfl rfl
theorem idx_Leg (hA : A = stdOps E) {l : List Leg} {xs : List PV} (hx : xs = encLegs l) {n : Int} {K : List PV → Prop} (h0 : 0 ≤ n) (h1 : n < l.length)
    (hk : ∀ x v, l[n.toNat]? = some x → v = encSpans x.Minutes → K [.int .i64 x.Segment, .int .i64 x.Volume, .int .i64 x.Length, .list 2 v]) : A.idx xs n K :=
  idx_var hA (l := l) (enc := encLeg) hx.symm h0 h1 fun x h => hk x _ h rfl
theorem idx_Way (hA : A = stdOps E) {l : List Way} {xs : List PV} (hx : xs = encWays l) {n : Int} {K : List PV → Prop} (h0 : 0 ≤ n) (h1 : n < l.length)
    (hk : ∀ x v, l[n.toNat]? = some x → v = encLegs x.Legs → K [.int .i64 x.From, .int .i64 x.To, .list 4 v]) : A.idx xs n K :=
  idx_var hA (l := l) (enc := encWay) hx.symm h0 h1 fun x h => hk x _ h rfl
theorem idx_Kind (hA : A = stdOps E) {l : List Kind} {xs : List PV} (hx : xs = encKinds l) {n : Int} {K : List PV → Prop} (h0 : 0 ≤ n) (h1 : n < l.length)
    (hk : ∀ x v, l[n.toNat]? = some x → v = encSpanLs x.Curfews → K [.int .i64 x.Slow, .int .i64 x.Fast, .int .i64 x.Places, .int .i64 x.Weight, .int .i64 x.Longest, .list 1 v]) : A.idx xs n K :=
  idx_var hA (l := l) (enc := encKind) hx.symm h0 h1 fun x h => hk x _ h rfl
theorem idx_Opt (hA : A = stdOps E) {l : List Opt} {xs : List PV} (hx : xs = encOpts l) {n : Int} {K : List PV → Prop} (h0 : 0 ≤ n) (h1 : n < l.length)
    (hk : ∀ x, l[n.toNat]? = some x → K [.int .i64 x.Delay, .int .i64 x.Way, .int .i64 x.Hold, .bool x.Cancel]) : A.idx xs n K :=
  idx_var hA (l := l) (enc := encOpt) hx.symm h0 h1 fun x h => hk x h
theorem idx_Bound (hA : A = stdOps E) {l : List Bound} {xs : List PV} (hx : xs = encBounds l) {n : Int} {K : List PV → Prop} (h0 : 0 ≤ n) (h1 : n < l.length) (hk : ∀ x, l[n.toNat]? = some x → K [.int .i64 x.Lo, .int .i64 x.Hi]) : A.idx xs n K :=
  idx_var hA (l := l) (enc := encBound) hx.symm h0 h1 fun x h => hk x h
theorem idx_Stay (hA : A = stdOps E) {l : List Stay} {xs : List PV} (hx : xs = encStays l) {n : Int} {K : List PV → Prop} (h0 : 0 ≤ n) (h1 : n < l.length)
    (hk : ∀ x, l[n.toNat]? = some x → K [.bool x.Airport, .int .i64 x.Index, .int .i64 x.Minutes.From, .int .i64 x.Minutes.To]) : A.idx xs n K :=
  idx_var hA (l := l) (enc := encStay) hx.symm h0 h1 fun x h => hk x h
theorem idx_Station (hA : A = stdOps E) {l : List Station} {xs : List PV} (hx : xs = encStations l) {n : Int} {K : List PV → Prop} (h0 : 0 ≤ n) (h1 : n < l.length)
    (hk : ∀ x v, l[n.toNat]? = some x → v = encInts x.Volumes → K [.list 1 v, .int .i64 x.Shift, .int .i64 x.Faults]) : A.idx xs n K :=
  idx_var hA (l := l) (enc := encStation) hx.symm h0 h1 fun x h => hk x _ h rfl
theorem idx_Report (hA : A = stdOps E) {l : List Report} {xs : List PV} (hx : xs = encReports l) {n : Int} {K : List PV → Prop} (h0 : 0 ≤ n) (h1 : n < l.length)
    (hk : ∀ x, l[n.toNat]? = some x → K [.int .i64 x.Station, .int .i64 x.No, .int .i64 x.Minute, .int .i64 x.Arrived, .str x.Call, .int .i64 x.Volume]) : A.idx xs n K :=
  idx_var hA (l := l) (enc := encReport) hx.symm h0 h1 fun x h => hk x h
theorem idx_Path (hA : A = stdOps E) {l : List Path} {xs : List PV} (hx : xs = encPaths l) {n : Int} {K : List PV → Prop} (h0 : 0 ≤ n) (h1 : n < l.length)
    (hk : ∀ x v, l[n.toNat]? = some x → v = encInts x.Times → K [.int .i64 x.Way, .list 1 v]) : A.idx xs n K :=
  idx_var hA (l := l) (enc := encPath) hx.symm h0 h1 fun x h => hk x _ h rfl

/-- The result of a search. -/
def findI {α : Type} (p : α → Bool) (l : List α) : Int := match l.findIdx? p with | some i => i | none => -1

theorem findI_hit {α : Type} {p : α → Bool} {l : List α} {i : Int} {x : α} (h0 : 0 ≤ i) (hx : l[i.toNat]? = some x) (hp : p x = true) (h : ∀ y ∈ l.take i.toNat, p y = false) : findI p l = i := by
  have e : l.findIdx? p = some i.toNat := by
    rw [List.findIdx?_eq_some_iff_getElem]
    have hlt := (List.getElem?_eq_some_iff.1 hx)
    have hl1 := hlt.1
    refine ⟨hlt.1, by rw [hlt.2]; exact hp, fun j hj => ?_⟩
    rw [h _ (List.mem_take_iff_getElem.2 ⟨j, by omega, rfl⟩)]
    simp
  unfold findI
  rw [e]
  simp only [Int.toNat_of_nonneg h0]

theorem findI_miss {α : Type} {p : α → Bool} {l : List α} (h : ∀ y ∈ l, p y = false) : findI p l = -1 := by
  have e : l.findIdx? p = none := by
    rw [List.findIdx?_eq_none_iff]
    exact h
  unfold findI
  rw [e]

theorem findI_any {α : Type} (p : α → Bool) (l : List α) : decide (0 ≤ findI p l) = l.any p := by
  unfold findI
  cases h : l.findIdx? p with
  | none =>
    rw [List.findIdx?_eq_none_iff] at h
    have : l.any p = false := by rw [List.any_eq_false]; intro x hx; simp [h x hx]
    rw [this]; rfl
  | some i =>
    have := List.findIdx?_eq_some_iff_getElem.1 h
    obtain ⟨h1, h2, _⟩ := this
    have : l.any p = true := List.any_eq_true.2 ⟨l[i], List.getElem_mem h1, h2⟩
    rw [this]
    simp

theorem take_snoc' {α : Type} {l : List α} {i : Int} {x : α} (h0 : 0 ≤ i) (hx : l[i.toNat]? = some x) : l.take (i + 1).toNat = l.take i.toNat ++ [x] := by
  rw [show (i + 1).toNat = i.toNat + 1 by omega, List.take_add_one, hx]; rfl

end
theorem encPath_eq (p : Path) {ts : List PV} (h : ts = encInts p.Times) : encPath p = .agg [.int .i64 p.Way, .list 1 ts] := by rw [h]; rfl
theorem encTables_eq (t : Tables) {ss cs ws ms ks : List PV} (h1 : ss = encSectors t.Sectors) (h2 : cs = encConfigs t.Configs) (h3 : ws = encWays t.Ways) (h4 : ms = encIntLs t.Modes) (h5 : ks = encKinds t.Kinds) :
    encTables t = .agg [.int .i64 t.Volumes, .list 5 ss, .list 3 cs, .list 3 ws, .list 1 ms, .list 6 ks] := by rw [h1, h2, h3, h4, h5]; rfl

end Go.Abs
