/-
  Data: the program's structs as Lean structures, and as trees.
  Rows of the activation's own, turned as a whole by a function of the library's.
  A call that shares some of the caller's variables leaves the others alone.
  A region whose order is drawn, gone through operation by operation: what is known is told by which of them have been carried out.
  .. told, too, that an operation has not been carried out yet when its turn comes.
-/
import Derived.Test.YtcafjndjnfdnpaaGreatA4
import Derived.Sort.OwnSortedInts
set_option linter.unusedVariables false
set_option linter.unusedSimpArgs false
namespace Go.Abs
open Go.RowKit

structure Span where
  From : Int
  To : Int
deriving DecidableEq
structure Sector where
  Name : ByteArray
  Names : List ByteArray
  Volumes : List Int
  Radar : Int
  Procedural : Int
structure Config where
  Name : ByteArray
  Names : List ByteArray
  Sectors : List Int
structure Leg where
  Segment : Int
  Volume : Int
  Length : Int
  Minutes : List Span
structure Way where
  From : Int
  To : Int
  Legs : List Leg
structure Kind where
  Slow : Int
  Fast : Int
  Places : Int
  Weight : Int
  Longest : Int
  Curfews : List (List Span)
structure Tables where
  Volumes : Int
  Sectors : List Sector
  Configs : List Config
  Ways : List Way
  Modes : List (List Int)
  Kinds : List Kind
structure Flight where
  ID : Int
  Airline : Int
  Class : Int
  Call : ByteArray
  Ways : List Int
  Window : Span
  Cancel : Bool
structure Opt where
  Delay : Int
  Way : Int
  Hold : Int
  Cancel : Bool
deriving DecidableEq
structure Bound where
  Lo : Int
  Hi : Int
deriving DecidableEq
structure Stay where
  Airport : Bool
  Index : Int
  Minutes : Span
deriving DecidableEq
structure Station where
  Volumes : List Int
  Shift : Int
  Faults : Int
structure Report where
  Station : Int
  No : Int
  Minute : Int
  Arrived : Int
  Call : ByteArray
  Volume : Int
structure Path where
  Way : Int
  Times : List Int

def encInt (n : Int) : PV := .int .i64 n
def encInts (l : List Int) : List PV := l.map encInt
def encStr (s : ByteArray) : PV := .str s
def encStrs (l : List ByteArray) : List PV := l.map encStr
def encSpan (s : Span) : PV := .agg [.int .i64 s.From, .int .i64 s.To]
def encSpans (l : List Span) : List PV := l.map encSpan
def encSpanL (l : List Span) : PV := .list 2 (encSpans l)
def encSpanLs (l : List (List Span)) : List PV := l.map encSpanL
def encIntL (l : List Int) : PV := .list 1 (encInts l)
def encIntLs (l : List (List Int)) : List PV := l.map encIntL
def encSector (s : Sector) : PV := .agg [.str s.Name, .list 1 (encStrs s.Names), .list 1 (encInts s.Volumes), .int .i64 s.Radar, .int .i64 s.Procedural]
def encSectors (l : List Sector) : List PV := l.map encSector
def encConfig (s : Config) : PV := .agg [.str s.Name, .list 1 (encStrs s.Names), .list 1 (encInts s.Sectors)]
def encConfigs (l : List Config) : List PV := l.map encConfig
def encLeg (s : Leg) : PV := .agg [.int .i64 s.Segment, .int .i64 s.Volume, .int .i64 s.Length, .list 2 (encSpans s.Minutes)]
def encLegs (l : List Leg) : List PV := l.map encLeg
def encWay (s : Way) : PV := .agg [.int .i64 s.From, .int .i64 s.To, .list 4 (encLegs s.Legs)]
def encWays (l : List Way) : List PV := l.map encWay
def encKind (s : Kind) : PV := .agg [.int .i64 s.Slow, .int .i64 s.Fast, .int .i64 s.Places, .int .i64 s.Weight, .int .i64 s.Longest, .list 1 (encSpanLs s.Curfews)]
def encKinds (l : List Kind) : List PV := l.map encKind
def encTables (t : Tables) : PV := .agg [.int .i64 t.Volumes, .list 5 (encSectors t.Sectors), .list 3 (encConfigs t.Configs), .list 3 (encWays t.Ways), .list 1 (encIntLs t.Modes), .list 6 (encKinds t.Kinds)]
def encFlight (f : Flight) : PV := .agg [.int .i64 f.ID, .int .i64 f.Airline, .int .i64 f.Class, .str f.Call, .list 1 (encInts f.Ways), .int .i64 f.Window.From, .int .i64 f.Window.To, .bool f.Cancel]
def encOpt (o : Opt) : PV := .agg [.int .i64 o.Delay, .int .i64 o.Way, .int .i64 o.Hold, .bool o.Cancel]
def encOpts (l : List Opt) : List PV := l.map encOpt
def encBound (b : Bound) : PV := .agg [.int .i64 b.Lo, .int .i64 b.Hi]
def encBounds (l : List Bound) : List PV := l.map encBound
def encStay (s : Stay) : PV := .agg [.bool s.Airport, .int .i64 s.Index, .int .i64 s.Minutes.From, .int .i64 s.Minutes.To]
def encStays (l : List Stay) : List PV := l.map encStay
def encStation (s : Station) : PV := .agg [.list 1 (encInts s.Volumes), .int .i64 s.Shift, .int .i64 s.Faults]
def encStations (l : List Station) : List PV := l.map encStation
def encReport (r : Report) : PV := .agg [.int .i64 r.Station, .int .i64 r.No, .int .i64 r.Minute, .int .i64 r.Arrived, .str r.Call, .int .i64 r.Volume]
def encReports (l : List Report) : List PV := l.map encReport
def encPath (p : Path) : PV := .agg [.int .i64 p.Way, .list 1 (encInts p.Times)]
def encPaths (l : List Path) : List PV := l.map encPath

section
variable {A : Ops} {E : Env}

theorem idx_Int (hA : A = stdOps E) {l : List Int} {xs : List PV} (hx : xs = encInts l) {n : Int} {K : List PV → Prop} (h0 : 0 ≤ n) (h1 : n < l.length) (hk : ∀ x, l[n.toNat]? = some x → K [.int .i64 x]) : A.idx xs n K :=
  idx_var hA (l := l) (enc := encInt) hx.symm h0 h1 fun x h => hk x h
theorem idx_Span (hA : A = stdOps E) {l : List Span} {xs : List PV} (hx : xs = encSpans l) {n : Int} {K : List PV → Prop} (h0 : 0 ≤ n) (h1 : n < l.length) (hk : ∀ x, l[n.toNat]? = some x → K [.int .i64 x.From, .int .i64 x.To]) : A.idx xs n K :=
  idx_var hA (l := l) (enc := encSpan) hx.symm h0 h1 fun x h => hk x h
theorem idx_SpanL (hA : A = stdOps E) {l : List (List Span)} {xs : List PV} (hx : xs = encSpanLs l) {n : Int} {K : List PV → Prop} (h0 : 0 ≤ n) (h1 : n < l.length) (hk : ∀ x v, l[n.toNat]? = some x → v = encSpans x → K [.list 2 v]) : A.idx xs n K :=
  idx_var hA (l := l) (enc := encSpanL) hx.symm h0 h1 fun x h => hk x _ h rfl
theorem idx_IntL (hA : A = stdOps E) {l : List (List Int)} {xs : List PV} (hx : xs = encIntLs l) {n : Int} {K : List PV → Prop} (h0 : 0 ≤ n) (h1 : n < l.length) (hk : ∀ x v, l[n.toNat]? = some x → v = encInts x → K [.list 1 v]) : A.idx xs n K :=
  idx_var hA (l := l) (enc := encIntL) hx.symm h0 h1 fun x h => hk x _ h rfl
theorem idx_Sector (hA : A = stdOps E) {l : List Sector} {xs : List PV} (hx : xs = encSectors l) {n : Int} {K : List PV → Prop} (h0 : 0 ≤ n) (h1 : n < l.length)
    (hk : ∀ x v1 v2, l[n.toNat]? = some x → v1 = encStrs x.Names → v2 = encInts x.Volumes → K [.str x.Name, .list 1 v1, .list 1 v2, .int .i64 x.Radar, .int .i64 x.Procedural]) : A.idx xs n K :=
  idx_var hA (l := l) (enc := encSector) hx.symm h0 h1 fun x h => hk x _ _ h rfl rfl
theorem idx_Config (hA : A = stdOps E) {l : List Config} {xs : List PV} (hx : xs = encConfigs l) {n : Int} {K : List PV → Prop} (h0 : 0 ≤ n) (h1 : n < l.length)
    (hk : ∀ x v1 v2, l[n.toNat]? = some x → v1 = encStrs x.Names → v2 = encInts x.Sectors → K [.str x.Name, .list 1 v1, .list 1 v2]) : A.idx xs n K :=
  idx_var hA (l := l) (enc := encConfig) hx.symm h0 h1 fun x h => hk x _ _ h rfl rfl
theorem idx_Leg (hA : A = stdOps E) {l : List Leg} {xs : List PV} (hx : xs = encLegs l) {n : Int} {K : List PV → Prop} (h0 : 0 ≤ n) (h1 : n < l.length)
    (hk : ∀ x v, l[n.toNat]? = some x → v = encSpans x.Minutes → K [.int .i64 x.Segment, .int .i64 x.Volume, .int .i64 x.Length, .list 2 v]) : A.idx xs n K :=
  idx_var hA (l := l) (enc := encLeg) hx.symm h0 h1 fun x h => hk x _ h rfl
theorem idx_Way (hA : A = stdOps E) {l : List Way} {xs : List PV} (hx : xs = encWays l) {n : Int} {K : List PV → Prop} (h0 : 0 ≤ n) (h1 : n < l.length)
    (hk : ∀ x v, l[n.toNat]? = some x → v = encLegs x.Legs → K [.int .i64 x.From, .int .i64 x.To, .list 4 v]) : A.idx xs n K :=
  idx_var hA (l := l) (enc := encWay) hx.symm h0 h1 fun x h => hk x _ h rfl
theorem idx_Kind (hA : A = stdOps E) {l : List Kind} {xs : List PV} (hx : xs = encKinds l) {n : Int} {K : List PV → Prop} (h0 : 0 ≤ n) (h1 : n < l.length)
    (hk : ∀ x v, l[n.toNat]? = some x → v = encSpanLs x.Curfews → K [.int .i64 x.Slow, .int .i64 x.Fast, .int .i64 x.Places, .int .i64 x.Weight, .int .i64 x.Longest, .list 1 v]) : A.idx xs n K :=
  idx_var hA (l := l) (enc := encKind) hx.symm h0 h1 fun x h => hk x _ h rfl
theorem idx_Opt (hA : A = stdOps E) {l : List Opt} {xs : List PV} (hx : xs = encOpts l) {n : Int} {K : List PV → Prop} (h0 : 0 ≤ n) (h1 : n < l.length)
    (hk : ∀ x, l[n.toNat]? = some x → K [.int .i64 x.Delay, .int .i64 x.Way, .int .i64 x.Hold, .bool x.Cancel]) : A.idx xs n K :=
  idx_var hA (l := l) (enc := encOpt) hx.symm h0 h1 fun x h => hk x h
theorem idx_Bound (hA : A = stdOps E) {l : List Bound} {xs : List PV} (hx : xs = encBounds l) {n : Int} {K : List PV → Prop} (h0 : 0 ≤ n) (h1 : n < l.length) (hk : ∀ x, l[n.toNat]? = some x → K [.int .i64 x.Lo, .int .i64 x.Hi]) : A.idx xs n K :=
  idx_var hA (l := l) (enc := encBound) hx.symm h0 h1 fun x h => hk x h
theorem idx_Stay (hA : A = stdOps E) {l : List Stay} {xs : List PV} (hx : xs = encStays l) {n : Int} {K : List PV → Prop} (h0 : 0 ≤ n) (h1 : n < l.length)
    (hk : ∀ x, l[n.toNat]? = some x → K [.bool x.Airport, .int .i64 x.Index, .int .i64 x.Minutes.From, .int .i64 x.Minutes.To]) : A.idx xs n K :=
  idx_var hA (l := l) (enc := encStay) hx.symm h0 h1 fun x h => hk x h
theorem idx_Station (hA : A = stdOps E) {l : List Station} {xs : List PV} (hx : xs = encStations l) {n : Int} {K : List PV → Prop} (h0 : 0 ≤ n) (h1 : n < l.length)
    (hk : ∀ x v, l[n.toNat]? = some x → v = encInts x.Volumes → K [.list 1 v, .int .i64 x.Shift, .int .i64 x.Faults]) : A.idx xs n K :=
  idx_var hA (l := l) (enc := encStation) hx.symm h0 h1 fun x h => hk x _ h rfl
theorem idx_Report (hA : A = stdOps E) {l : List Report} {xs : List PV} (hx : xs = encReports l) {n : Int} {K : List PV → Prop} (h0 : 0 ≤ n) (h1 : n < l.length)
    (hk : ∀ x, l[n.toNat]? = some x → K [.int .i64 x.Station, .int .i64 x.No, .int .i64 x.Minute, .int .i64 x.Arrived, .str x.Call, .int .i64 x.Volume]) : A.idx xs n K :=
  idx_var hA (l := l) (enc := encReport) hx.symm h0 h1 fun x h => hk x h
theorem idx_Path (hA : A = stdOps E) {l : List Path} {xs : List PV} (hx : xs = encPaths l) {n : Int} {K : List PV → Prop} (h0 : 0 ≤ n) (h1 : n < l.length)
    (hk : ∀ x v, l[n.toNat]? = some x → v = encInts x.Times → K [.int .i64 x.Way, .list 1 v]) : A.idx xs n K :=
  idx_var hA (l := l) (enc := encPath) hx.symm h0 h1 fun x h => hk x _ h rfl

/-- The result of a search. -/
def findI {α : Type} (p : α → Bool) (l : List α) : Int := match l.findIdx? p with | some i => i | none => -1

theorem findI_hit {α : Type} {p : α → Bool} {l : List α} {i : Int} {x : α} (h0 : 0 ≤ i) (hx : l[i.toNat]? = some x) (hp : p x = true) (h : ∀ y ∈ l.take i.toNat, p y = false) : findI p l = i := by
  have e : l.findIdx? p = some i.toNat := by
    rw [List.findIdx?_eq_some_iff_getElem]
    have hlt := (List.getElem?_eq_some_iff.1 hx)
    have hl1 := hlt.1
    refine ⟨hlt.1, by rw [hlt.2]; exact hp, fun j hj => ?_⟩
    rw [h _ (List.mem_take_iff_getElem.2 ⟨j, by omega, rfl⟩)]
    simp
  unfold findI
  rw [e]
  simp only [Int.toNat_of_nonneg h0]

theorem findI_miss {α : Type} {p : α → Bool} {l : List α} (h : ∀ y ∈ l, p y = false) : findI p l = -1 := by
  have e : l.findIdx? p = none := by
    rw [List.findIdx?_eq_none_iff]
    exact h
  unfold findI
  rw [e]

theorem findI_any {α : Type} (p : α → Bool) (l : List α) : decide (0 ≤ findI p l) = l.any p := by
  unfold findI
  cases h : l.findIdx? p with
  | none =>
    rw [List.findIdx?_eq_none_iff] at h
    have : l.any p = false := by rw [List.any_eq_false]; intro x hx; simp [h x hx]
    rw [this]; rfl
  | some i =>
    have := List.findIdx?_eq_some_iff_getElem.1 h
    obtain ⟨h1, h2, _⟩ := this
    have : l.any p = true := List.any_eq_true.2 ⟨l[i], List.getElem_mem h1, h2⟩
    rw [this]
    simp

theorem take_snoc' {α : Type} {l : List α} {i : Int} {x : α} (h0 : 0 ≤ i) (hx : l[i.toNat]? = some x) : l.take (i + 1).toNat = l.take i.toNat ++ [x] := by
  rw [show (i + 1).toNat = i.toNat + 1 by omega, List.take_add_one, hx]; rfl

end
theorem encPath_eq (p : Path) {ts : List PV} (h : ts = encInts p.Times) : encPath p = .agg [.int .i64 p.Way, .list 1 ts] := by rw [h]; rfl
theorem encTables_eq (t : Tables) {ss cs ws ms ks : List PV} (h1 : ss = encSectors t.Sectors) (h2 : cs = encConfigs t.Configs) (h3 : ws = encWays t.Ways) (h4 : ms = encIntLs t.Modes) (h5 : ks = encKinds t.Kinds) :
    encTables t = .agg [.int .i64 t.Volumes, .list 5 ss, .list 3 cs, .list 3 ws, .list 1 ms, .list 6 ks] := by rw [h1, h2, h3, h4, h5]; rfl

end Go.Abs

namespace Go.Abs
open Go.RowKit Go.Proofs Go.Sort

section
variable {E : Env} {B : Nat} {S0 : Addr → Prop} {G : Gh} {S : Addr → Prop} {w : World}

/-- A variable of the activation's own has turned; and there are new blocks. -/
theorem Inv.rebox {bx : List (Option (List SV))} {tk : List (Nat × TypeId)} {ax : Ax} (hI : Inv E B S0 bx tk ax G S w) {id b : Nat} {t : TypeId} {arr arr' : Array Value} {cs cs' : List SV} {w' : World} (hb : G.bx[id]? = some b) (hc : bx[id]? = some (some cs)) (hh : w.heap[b]? = some (.cells arr t (0, 0)))
    (hg : w.grownBy w' (some b)) (hm : w.drawn ≤ w'.drawn) (hh' : w'.heap[b]? = some (.cells arr' t (0, 0)))
    (hl : arr'.size = cs'.length) (hr : ∀ (j : Nat) (c : SV) (v : Value), cs'[j]? = some c → arr'[j]? = some v → RSV tk G S w c v ∧ v.oneCell' = true) :
    Inv E B S0 (bx.set id (some cs')) tk ax G S w' ∧ Ext tk G S w tk G S w' ∧ ∀ w0, Below B w0 w → Below B w0 w' := by
  have hSb : ∀ a, S a → a.block ≠ b := (hI.box id b cs hc hb).2
  have hsz := hg.size
  have hbl : ∀ k, k < w.heap.size → k ≠ b → w'.heap[k]? = w.heap[k]? := fun k hk hne => hg.block k hk (fun e => hne (Option.some.inj e))
  have hE : Ext tk G S w tk G S w' := ⟨fun _ _ h => h, fun _ hv le h1 h2 => ⟨hv, le, h1, h2, .inl ⟨rfl, rfl⟩⟩, fun _ h => h, fun a ha => Still.of_block (hbl _ (hI.slt a ha) (hSb a ha)), fun _ _ h => h, ⟨hg.os, hg.tape, hg.output, hsz, fun k hk => absurd hk (Nat.not_lt_zero _), hm⟩, fun b' hlt hf => hbl b' hlt (fun e => hf (.inl ⟨id, by rw [e]; exact hb⟩)), fun _ _ h => h, fun _ h => .inl h⟩
  have hBb := (hI.old id b hb).1
  have hK : ∀ b', b' < w.heap.size → Kept w w' b' := fun b' hlt => by
    by_cases e : b' = b
    · intro o ho h
      rw [e, hh] at h
      cases h
      cases ho
    · exact Kept.of_eq (hbl b' hlt e)
  have hid : id < bx.length := (List.getElem?_eq_some_iff.1 hc).1
  refine ⟨⟨Nat.le_trans hI.base hsz, hI.s0, fun a ha => Nat.lt_of_lt_of_le (hI.slt a ha) hsz, by simp [hI.lbx], hI.ltk, fun i b' h => ⟨(hI.old i b' h).1, Nat.lt_of_lt_of_le (hI.old i b' h).2 hsz⟩, hI.dist, ?_, ?_, hI.apart, hI.lmp, hI.dmp, fun i b' h => ⟨(hI.mpo i b' h).1, Nat.lt_of_lt_of_le (hI.mpo i b' h).2 hsz⟩, fun i b' c h1 h2 => (hI.mpk i b' c h1 h2).mono (hK b' (hI.mpo i b' h2).2) (fun m bm h => ⟨h, hK bm (hI.mpo m bm h).2⟩) (fun _ h => h) hE.cell (fun _ h => .inl h), fun b' h => Nat.lt_of_lt_of_le (hI.flt b' h) hsz, hI.fbx, hI.ftk, hI.fmp,
    ⟨E.Y.ok _ _ _ _ _ _ hI.yl.1 ⟨hE.calm, fun b' h => hbl b' (hI.flt b' h) (fun e => hI.fbx id b' (by rw [e]; exact hb) h), fun _ h => h, hE.cell, fun _ h => .inl h, fun a ha => Nat.lt_of_lt_of_le (hI.slt a ha) hsz⟩, hI.yl.2⟩⟩, hE, fun w0 h => h.grown hg hm hI.base (fun k e => by cases e; exact hBb)⟩
  · intro id' b' cs'' h1 h2
    simp only [List.getElem?_set] at h1
    split at h1
    · rename_i he
      subst he
      simp only [Option.some.injEq] at h1
      subst h1
      rw [hb] at h2
      cases h2
      exact ⟨⟨t, arr', hh', hl, fun j c v a1 a2 => ⟨RSV.mono hE (hr j c v a1 a2).1, (hr j c v a1 a2).2⟩⟩, hSb⟩
    · rename_i hne
      have hbb : b' ≠ b := fun e => hne (hI.dist id id' b hb (by rw [← e]; exact h2))
      obtain ⟨⟨t', a', k1, k2, k3⟩, k4⟩ := hI.box id' b' cs'' h1 h2
      exact ⟨⟨t', a', by rw [hbl b' (hI.old id' b' h2).2 hbb]; exact k1, k2, fun j c v a1 a2 => ⟨RSV.mono hE (k3 j c v a1 a2).1, (k3 j c v a1 a2).2⟩⟩, k4⟩
  · intro t' n e hv h1 h2
    obtain ⟨a, cap, k1, k2, k3, k4⟩ := hI.tok t' n e hv h1 h2
    refine ⟨a, cap, k1, k2, k3, fun hlt => ?_⟩
    obtain ⟨g, cur, c1, c2, c3, c4, c5, c6⟩ := k4 hlt
    have hgb : g ≠ b := fun e => c6 id (by rw [e]; exact hb)
    exact ⟨g, cur, c1, c2, by rw [hbl g (Array.getElem?_eq_some_iff.1 c3).1 hgb]; exact c3, c4, c5, c6⟩

/-- A function of the library's that turns a row of numbers in place. -/
theorem callsR_rowI {f : FuncId} (he : Enters E.P f) {bx : List (Option (List SV))} {tk : List (Nat × TypeId)} {ax : Ax} {id n cap : Nat} {zs : List Int} {rest : List SV} (hc : bx[id]? = some (some ((encInts zs).map SV.val ++ rest)))
    (res : SV) (resv : Nat → Value) (hres : ∀ tk G S w b, G.bx[id]? = some b → RSV tk G S w res (resv b)) (D : List Int → Prop)
    (h : ∀ (w : World) (b : Nat), Holds (Value.int .i64) w b 0 zs.toArray → b < w.heap.size → n ≤ cap → cap ≤ maxLen →
      Calls E.P f #[.slice (some ⟨b, 0, none⟩) n cap] w fun e w' => e = .returned (resv b) ∧ ∃ k os d, d.length = zs.length ∧ D d ∧ w' = grow (putRow (Value.int .i64) (Sort.ahead w k) b 0 d.toArray) os) :
    CallsR E f [.row id 0 1 n cap] bx tk ax fun r bx' tk' ax' => r = res ∧ (∃ d, d.length = zs.length ∧ D d ∧ bx' = bx.set id (some ((encInts d).map SV.val ++ rest))) ∧ tk' = tk ∧ ax' = ax := by
  refine ⟨he, fun B S0 w0 G S w vs hI hw hlen hvs => ?_⟩
  match vs, hlen with
  | [v], _ =>
    obtain ⟨b, hb, rfl, hcap, hmax⟩ := hvs 0 _ v rfl rfl
    obtain ⟨⟨t, arr, hh, hsz, hcells⟩, hS⟩ := hI.box id b _ hc hb
    have hval : ∀ j, j < zs.length → arr[j]? = some (.int .i64 (zs.getD j 0)) := fun j hj => by
      have h1 : ((encInts zs).map SV.val ++ rest)[j]? = some (.val (.int .i64 (zs.getD j 0))) := by
        rw [List.getElem?_append_left (by simpa [encInts] using hj)]
        simp [encInts, encInt, hj]
      have hjs : j < arr.size := by rw [hsz]; simp [encInts]; omega
      obtain ⟨h2, _⟩ := hcells j _ arr[j] h1 (by simp [hjs])
      rw [Array.getElem?_eq_getElem hjs]
      generalize arr[j] = u at h2
      have h3 : RV S w (.int .i64 (zs.getD j 0)) u := h2
      cases h3
      rfl
    have htake : arr.toList.take zs.length = zs.map (Value.int .i64) := by
      apply List.ext_getElem?
      intro j
      by_cases hj : j < zs.length
      · rw [List.getElem?_take_of_lt hj, Array.getElem?_toList, hval j hj]
        simp [hj]
      · rw [List.getElem?_take_eq_none (by omega), List.getElem?_eq_none (by simp; omega)]
    have hlt : b < w.heap.size := (hI.old id b hb).2
    refine (h w b (holds_of_blockI hh htake) hlt hcap hmax).mono ?_
    rintro e w' ⟨rfl, k, os, d, hd, hD, rfl⟩
    have hg : w.grownBy (grow (putRow (Value.int .i64) (Sort.ahead w k) b 0 d.toArray) os) (some b) := grownBy_sortedI d.toArray
    have hh' := heap_sortedI (n := k) (os := os) d.toArray hh
    have harr : ∀ (j : Nat) (c : SV) (v : Value), ((encInts d).map SV.val ++ rest)[j]? = some c → (putCells (Value.int .i64) 0 d.toArray arr)[j]? = some v → RSV tk G S w c v ∧ v.oneCell' = true := by
      intro j c v h1 h2
      by_cases hj : j < d.length
      · rw [List.getElem?_append_left (by simpa [encInts] using hj)] at h1
        have hja : j < arr.size := by rw [hsz]; simp [encInts]; omega
        simp [encInts, encInt, hj] at h1
        simp [putCells, hj, hja] at h2
        subst h1; subst h2
        exact ⟨RV.int _ _, rfl⟩
      · rw [List.getElem?_append_right (by simpa [encInts] using hj)] at h1
        have h3 : ((encInts zs).map SV.val ++ rest)[j]? = some c := by
          rw [List.getElem?_append_right (by simp [encInts]; omega)]
          simpa [encInts, hd] using h1
        have h4 : arr[j]? = some v := by
          simp only [putCells, Array.getElem?_mapIdx] at h2
          rw [Option.map_eq_some_iff] at h2
          obtain ⟨x, h5, h6⟩ := h2
          rw [if_neg (by simp; omega)] at h6
          rw [h5, h6]
        exact hcells j c v h3 h4
    obtain ⟨k1, k2, k3⟩ := hI.rebox hb hc hh hg (by simp [grow, putRow, mapBlock, Sort.ahead]) hh' (by simp [putCells, hsz, encInts, hd]) harr
    exact ⟨_, res, _, tk, ax, G, S, ⟨rfl, ⟨d, hd, hD, rfl⟩, rfl, rfl⟩, rfl, k1, k3 _ hw, k2, hres _ _ _ _ _ hb⟩
end
end Go.Abs

namespace Go.Abs
open Go.RowKit

theorem CallsR.frame {E : Env} {f : FuncId} {svs : List SV} {bx : List (Option (List SV))} {tk : List (Nat × TypeId)} {ax : Ax} {Q : SV → List (Option (List SV)) → List (Nat × TypeId) → Ax → Prop} (h : CallsR E f svs bx tk ax Q)
    (ex : List (Option (List SV))) (hex : ∀ o ∈ ex, ∃ cs, o = some cs ∧ ∀ c ∈ cs, ∃ p, c = .val p) (hQ : ∀ r bx' tk' ax', Q r bx' tk' ax' → bx'.length = bx.length)
    (hs : svs.all (SV.within bx.length ax.mp.length tk.length) = true) (hb : bx.all (fun o => match o with | none => true | some cs => cs.all (SV.within bx.length ax.mp.length tk.length)) = true) (hgo : ∀ c ∈ ax.mp, c ≠ .gone) :
    CallsR E f svs (bx ++ ex) tk ax fun r bx' tk' ax' => ∃ b0, bx' = b0 ++ ex ∧ Q r b0 tk' ax' := by
  refine ⟨h.1, fun B S0 w0 G S w vs hI hbel hlen hv => ?_⟩
  have hbl := hI.lbx
  rw [List.length_append] at hbl
  have hmpt : G.mp.take ax.mp.length = G.mp := List.take_of_length_le (Nat.le_of_eq hI.lmp)
  have hw : ∀ (s : SV) (v : Value), s.within bx.length ax.mp.length tk.length = true → RSV tk G S w s v → RSV tk ⟨G.bx.take bx.length, G.tk, G.mp, G.fp⟩ S w s v := fun s v h1 h2 => by
    have := RSV.within_ h1 h2
    rw [hmpt] at this
    exact this
  have htake : ∀ (i b : Nat), (G.bx.take bx.length)[i]? = some b → G.bx[i]? = some b ∧ i < bx.length := fun i b h => by
    rw [List.getElem?_take] at h
    split at h
    · exact ⟨h, ‹_›⟩
    · cases h
  have hIs : Inv E B S0 bx tk ax ⟨G.bx.take bx.length, G.tk, G.mp, G.fp⟩ S w := by
    refine ⟨hI.base, hI.s0, hI.slt, by simp only [List.length_take]; omega, hI.ltk, fun i b h1 => hI.old i b (htake i b h1).1, fun i j b h1 h2 => hI.dist i j b (htake i b h1).1 (htake j b h2).1, fun id b cs h1 h2 => ?_, fun t n e v h1 h2 => ?_, hI.apart, hI.lmp, hI.dmp, hI.mpo, hI.mpk, hI.flt,
      fun i b h1 => hI.fbx i b (htake i b h1).1, hI.ftk, hI.fmp, hI.yl⟩
    · obtain ⟨h3, h4⟩ := htake id b h2
      obtain ⟨⟨t', arr, a1, a2, a3⟩, a4⟩ := hI.box id b cs (by rw [List.getElem?_append_left h4]; exact h1) h3
      refine ⟨⟨t', arr, a1, a2, fun j c v b1 b2 => ⟨hw c v ?_ (a3 j c v b1 b2).1, (a3 j c v b1 b2).2⟩⟩, a4⟩
      have hcs := List.all_eq_true.1 hb (some cs) (List.mem_of_getElem? h1)
      exact List.all_eq_true.1 hcs c (List.mem_of_getElem? b1)
    · obtain ⟨a, cap, a1, a2, a3, a4⟩ := hI.tok t n e v h1 h2
      refine ⟨a, cap, a1, a2, a3, fun hlt => ?_⟩
      obtain ⟨g, cur, c1, c2, c3, c4, c5, c6⟩ := a4 hlt
      exact ⟨g, cur, c1, c2, c3, c4, c5, fun i h => c6 i (htake i g h).1⟩
  refine (h.2 B S0 w0 _ S w vs hIs hbel hlen fun i s v h1 h2 => hw s v (List.all_eq_true.1 hs s (List.mem_of_getElem? h1)) (hv i s v h1 h2)).mono ?_
  rintro e w' ⟨v, r, bx', tk', ax', G', S', hq, he, hI', hbel', X, hr⟩
  have hl' : G'.bx.length = bx.length := hI'.lbx.trans (hQ _ _ _ _ hq)
  -- the variables that are left alone
  have hfoot : ∀ (j b : Nat), G.bx[bx.length + j]? = some b → b < w.heap.size ∧ ¬ Foot ⟨G.bx.take bx.length, G.tk, G.mp, G.fp⟩ b := fun j b hj => by
    refine ⟨(hI.old _ b hj).2, ?_⟩
    have hjl : bx.length + j < (bx ++ ex).length := by rw [List.length_append]; have := (List.getElem?_eq_some_iff.1 hj).1; omega
    obtain ⟨o, ho⟩ : ∃ o, (bx ++ ex)[bx.length + j]? = some o := ⟨_, List.getElem?_eq_getElem hjl⟩
    have ho' : ex[j]? = some o := by rw [List.getElem?_append_right (by omega)] at ho; simpa using ho
    obtain ⟨cs, rfl, _⟩ := hex o (List.mem_of_getElem? ho')
    obtain ⟨⟨t', arr, a1, _, _⟩, _⟩ := hI.box _ b cs ho hj
    rintro (⟨i, hi⟩ | ⟨t, n, cap, ht, hlt⟩ | ⟨i, hi⟩ | hf)
    · obtain ⟨h1, h2⟩ := htake i b hi
      have := hI.dist _ _ b h1 hj
      omega
    · have ht' : G.tk[t]? = some (.slice (some ⟨b, 0, none⟩) n cap) := ht
      have htl : t < tk.length := by have := (List.getElem?_eq_some_iff.1 ht').1; have := hI.ltk; omega
      obtain ⟨a, cp, q1, q2, q3, q4⟩ := hI.tok t _ _ _ (List.getElem?_eq_getElem htl) ht
      injection q1 with q1 q1' q1''
      subst q1' q1''
      obtain ⟨g2, cur2, p1, p2, p3, p4, p5, p6⟩ := q4 hlt
      rw [← q1] at p1
      injection p1 with p1
      injection p1 with p1
      subst p1
      exact p6 _ hj
    · have hi' : G.mp[i]? = some b := hi
      have hil : i < ax.mp.length := by have := (List.getElem?_eq_some_iff.1 hi').1; have := hI.lmp; omega
      obtain ⟨c, hc⟩ : ∃ c, ax.mp[i]? = some c := ⟨_, List.getElem?_eq_getElem hil⟩
      have hk := hI.mpk i b c hc hi
      have hcg := hgo c (List.mem_of_getElem? hc)
      match c, hk with
      | .plain k e n, hk =>
        obtain ⟨⟨D, es, clock, hm, _⟩, _⟩ := hk
        rw [a1] at hm
        cases hm
      | .ents es mk, hk =>
        obtain ⟨⟨arr', clock, es0, hm, _⟩, _⟩ := hk
        rw [a1] at hm
        cases hm
      | .iter (some m) es left cur, hk =>
        obtain ⟨⟨bm, _, arr', clock, since, seen, last, _, hm, _⟩, _⟩ := hk
        rw [a1] at hm
        cases hm
      | .iter none es left cur, hk =>
        obtain ⟨⟨hm, _⟩ | ⟨bm, _, _, arr', clock, since, seen, last, _, hm, _⟩, _⟩ := hk
        · rw [a1] at hm
          cases hm
        · rw [a1] at hm
          cases hm
      | .gone, _ => exact hcg rfl
    · exact hI.fbx _ b hj hf
  have hGb : ∀ (i b : Nat), (G'.bx ++ G.bx.drop bx.length)[i]? = some b → (G'.bx[i]? = some b ∧ i < bx.length) ∨ (∃ j, i = bx.length + j ∧ G.bx[bx.length + j]? = some b) := fun i b hi => by
    rcases Nat.lt_or_ge i bx.length with h1 | h1
    · rw [List.getElem?_append_left (by omega)] at hi
      exact .inl ⟨hi, h1⟩
    · rw [List.getElem?_append_right (by omega), List.getElem?_drop, hl'] at hi
      exact .inr ⟨i - bx.length, by omega, hi⟩
  have hG'lt : ∀ (i b : Nat), G'.bx[i]? = some b → G.bx[i]? = some b := fun i b hi => by
    have hil : i < bx.length := by have := (List.getElem?_eq_some_iff.1 hi).1; omega
    obtain ⟨c, hc⟩ : ∃ c, G.bx[i]? = some c := ⟨_, List.getElem?_eq_getElem (by omega)⟩
    have := X.bx i c (by rw [List.getElem?_take, if_pos hil]; exact hc)
    rw [hi] at this
    rw [hc]; exact this.symm
  have hnf : ∀ (j b : Nat), G.bx[bx.length + j]? = some b → ¬ Foot G' b := fun j b hj hf => (hfoot j b hj).2 (X.foot b (hfoot j b hj).1 hf)
  have hX0 : Ext0 tk' G' S' w' tk' ⟨G'.bx ++ G.bx.drop bx.length, G'.tk, G'.mp, G'.fp⟩ S' w' :=
    ⟨fun i b hi => by
      show (G'.bx ++ G.bx.drop bx.length)[i]? = _
      rw [List.getElem?_append_left (List.getElem?_eq_some_iff.1 hi).1]; exact hi, fun t hv' le h1 h2 => ⟨hv', le, h1, h2, .inl ⟨rfl, rfl⟩⟩, fun _ h => h, fun _ _ => Still.refl _ _, fun _ _ h => h⟩
  have hsame : ∀ (j b : Nat), G.bx[bx.length + j]? = some b → w'.heap[b]? = w.heap[b]? := fun j b hj => X.same b (hfoot j b hj).1 (hfoot j b hj).2
  refine ⟨v, r, bx' ++ ex, tk', ax', ⟨G'.bx ++ G.bx.drop bx.length, G'.tk, G'.mp, G'.fp⟩, S', ⟨bx', rfl, hq⟩, he, ?_, hbel', ?_, RSV.mono0 hX0 hr⟩
  · have hbxl := hQ _ _ _ _ hq
    refine ⟨hI'.base, hI'.s0, hI'.slt, ?_, hI'.ltk, fun i b h1 => ?_, fun i j b h1 h2 => ?_, fun id b cs h1 h2 => ?_, fun t n e' v' h1 h2 => ?_, hI'.apart, hI'.lmp, hI'.dmp, hI'.mpo, hI'.mpk, hI'.flt, fun i b h1 => ?_, hI'.ftk, hI'.fmp, hI'.yl⟩
    · simp only [List.length_append, List.length_drop]; omega
    · rcases hGb i b h1 with ⟨h2, _⟩ | ⟨j, rfl, h2⟩
      · exact hI'.old i b h2
      · exact ⟨(hI.old _ b h2).1, Nat.lt_of_lt_of_le (hI.old _ b h2).2 X.calm.size⟩
    · rcases hGb i b h1 with ⟨h3, h3'⟩ | ⟨k, rfl, h3⟩ <;> rcases hGb j b h2 with ⟨h4, h4'⟩ | ⟨l, rfl, h4⟩
      · exact hI'.dist i j b h3 h4
      · exact hI.dist _ _ b (hG'lt i b h3) h4
      · exact hI.dist _ _ b h3 (hG'lt j b h4)
      · exact hI.dist _ _ b h3 h4
    · rcases hGb id b h2 with ⟨h3, h3'⟩ | ⟨j, rfl, h3⟩
      · rw [List.getElem?_append_left (by omega)] at h1
        obtain ⟨⟨t', arr, a1, a2, a3⟩, a4⟩ := hI'.box id b cs h1 h3
        exact ⟨⟨t', arr, a1, a2, fun j c v b1 b2 => ⟨RSV.mono0 hX0 (a3 j c v b1 b2).1, (a3 j c v b1 b2).2⟩⟩, a4⟩
      · rw [List.getElem?_append_right (by omega), show bx.length + j - bx'.length = j by omega] at h1
        obtain ⟨⟨t', arr, a1, a2, a3⟩, a4⟩ := hI.box _ b cs (by rw [List.getElem?_append_right (by omega), show bx.length + j - bx.length = j by omega]; exact h1) h3
        obtain ⟨cs', e1, hcs⟩ := hex _ (List.mem_of_getElem? h1)
        cases e1
        refine ⟨⟨t', arr, (hsame j b h3).trans a1, a2, fun j' c v b1 b2 => ⟨?_, (a3 j' c v b1 b2).2⟩⟩, fun a ha hab => ?_⟩
        · obtain ⟨p, rfl⟩ := hcs c (List.mem_of_getElem? b1)
          exact RV.mono X.sub X.cell (a3 j' _ v b1 b2).1
        · rcases X.new a ha with h | h | h
          · exact a4 a h hab
          · rw [hab] at h; exact (hfoot j b h3).2 h
          · have := (hfoot j b h3).1; omega
    · obtain ⟨a, cap, a1, a2, a3, a4⟩ := hI'.tok t n e' v' h1 h2
      refine ⟨a, cap, a1, a2, a3, fun hlt => ?_⟩
      obtain ⟨g, cur, c1, c2, c3, c4, c5, c6⟩ := a4 hlt
      refine ⟨g, cur, c1, c2, c3, c4, c5, fun i h => ?_⟩
      rcases hGb i g h with ⟨h3, _⟩ | ⟨j, rfl, h3⟩
      · exact c6 i h3
      · refine hnf j g h3 (.inr (.inl ⟨t, n, cap, ?_, hlt⟩))
        rw [h2, a1, c1]
    · rcases hGb i b h1 with ⟨h2, _⟩ | ⟨j, rfl, h2⟩
      · exact hI'.fbx i b h2
      · exact fun hf => hnf j b h2 (.inr (.inr (.inr hf)))
  · refine ⟨fun i b h1 => ?_, X.tk, X.sub, X.cell, X.mp, X.calm, fun b h1 h2 => X.same b h1 (fun hf => h2 ?_), fun b h1 hf => ?_, fun a ha => ?_⟩
    · show (G'.bx ++ G.bx.drop bx.length)[i]? = some b
      rcases Nat.lt_or_ge i bx.length with h2 | h2
      · rw [List.getElem?_append_left (by omega)]
        exact X.bx i b (by rw [List.getElem?_take, if_pos h2]; exact h1)
      · rw [List.getElem?_append_right (by omega), List.getElem?_drop, hl', Nat.add_sub_cancel' h2]; exact h1
    · rcases hf with ⟨i, hi⟩ | hf
      · exact .inl ⟨i, (htake i b hi).1⟩
      · exact .inr hf
    · rcases hf with ⟨i, hi⟩ | hf
      · rcases hGb i b hi with ⟨h2, _⟩ | ⟨j, rfl, h2⟩
        · exact .inl ⟨i, hG'lt i b h2⟩
        · exact .inl ⟨_, h2⟩
      · rcases X.foot b h1 (.inr hf) with ⟨i, hi⟩ | h3
        · exact .inl ⟨i, (htake i b hi).1⟩
        · exact .inr h3
    · rcases X.new a ha with h1 | h1 | h1
      · exact .inl h1
      · rcases h1 with ⟨i, hi⟩ | h1
        · exact .inr (.inl (.inl ⟨i, (htake i _ hi).1⟩))
        · exact .inr (.inl (.inr h1))
      · exact .inr (.inr h1)

theorem CallsR.wk {E : Env} {f : FuncId} {svs svs2 : List SV} {bx bx2 : List (Option (List SV))} {tk tk2 : List (Nat × TypeId)} {ax ax2 : Ax} {Q : SV → List (Option (List SV)) → List (Nat × TypeId) → Ax → Prop}
    (hnt : (bx.length, ax.mp.length) = (0, 0) → tk = []) (hw : Wk (bx.length, ax.mp.length) ⟨svs, bx, tk, ax⟩ ⟨svs2, bx2, tk2, ax2⟩) (h : CallsR E f svs2 bx2 tk2 ax2 Q) : CallsR E f svs bx tk ax Q := by
  refine ⟨h.1, fun B S0 w0 G S w vs hI hb hl hv => ?_⟩
  have R : Rel E B S0 w0 ⟨svs, bx, tk, ax⟩ G S w vs.toArray := ⟨hI, hb, by simp [hl], fun i s v h1 h2 => hv i s v h1 (by simpa using h2)⟩
  obtain ⟨G', R', X', _⟩ := R.wk (Nat.le_of_eq hI.lbx) ⟨Nat.le_of_eq hI.lmp, hnt⟩ hw (Ext.refl tk G S w)
  have hc := h.2 B S0 w0 G' S w vs R'.inv R'.below (by simpa using R'.len) (fun i s v h1 h2 => R'.sl i s v h1 (by simpa using h2))
  refine hc.mono ?_
  rintro e w' ⟨v, r, bx', tk', ax', G2, S2, hq, he, hi, hb2, hx, hr⟩
  exact ⟨v, r, bx', tk', ax', G2, S2, hq, he, hi, hb2, X'.trans hx, hr⟩
end Go.Abs

namespace Go.Abs
open Go.RowKit

def mkSl (L : Nat → Bool) (sl0 vs : List SV) : List Oper → Nat → List SV → List SV
  | [], _, sl => sl
  | o :: r, i, sl => mkSl L sl0 vs r (i + 1) (match o.dst with | some t => sl.set t (cond (L i) (vs.getD i .undef) (sl0.getD t .undef)) | none => sl)
/-- The state where the operations of L have been carried out: operation i has given 'vs i'. -/
def mkSt (st : St) (ops : Array Oper) (vs : List SV) (bxf : (Nat → Bool) → List (Option (List SV))) (L : Nat → Bool) : St := ⟨mkSl L st.sl vs ops.toList 0 st.sl, bxf L, st.tk, st.ax⟩
def updL (L : Nat → Bool) (i : Nat) : Nat → Bool := fun j => match decide (j = i) with | true => true | false => L j

theorem mkSl_congr {L L' : Nat → Bool} {sl0 vs : List SV} : ∀ {l : List Oper} {i : Nat} {sl : List SV}, (∀ j, i ≤ j → j < i + l.length → L j = L' j) → mkSl L sl0 vs l i sl = mkSl L' sl0 vs l i sl
  | [], _, _, _ => rfl
  | o :: r, i, sl, h => by
    unfold mkSl
    rw [h i (Nat.le_refl _) (by simp)]
    exact mkSl_congr fun j h1 h2 => h j (by omega) (by simp only [List.length_cons]; omega)

theorem wpAll_inv {A : Ops} {E : Env} {ops : Array Oper} {J : (Nat → Bool) → St} {K : St → Prop}
    (hlt : ∀ (i : Nat) (o : Oper), ops[i]? = some o → ∀ e ∈ o.after, Region.binds .any e = true → e.on < i)
    (hJ : ∀ L L', (∀ i, i < ops.size → L i = L' i) → J L = J L')
    (hstep : ∀ (L : Nat → Bool) (i : Nat) (o : Oper), ops[i]? = some o → (∀ e ∈ o.after, Region.binds .any e = true → L e.on = true) → ∀ K' : St → Prop, K' (J (updL L i)) → wpOps' A E false ops.toList [o] (J L) K')
    (hend : K (J fun _ => true)) : ∀ (fuel : Nat) (listed : Array Bool), listed.size = ops.size → listed.toList.count false ≤ fuel → wpAll' A E ops fuel listed (J fun i => listed.getD i true) K := by
  have hall : ∀ (listed : Array Bool), listed.size = ops.size → (∀ i, i < ops.size → listed.getD i true = true) → K (J fun i => listed.getD i true) := fun listed h1 h2 => by
    rw [hJ _ (fun _ => true) h2]; exact hend
  have hnone : ∀ (listed : Array Bool), listed.size = ops.size → Region.ready .any ops listed = [] → ∀ i, i < ops.size → listed.getD i true = true := fun listed hs h i => by
    induction i using Nat.strongRecOn with
    | ind i ih =>
      intro hi
      cases hq : listed.getD i true with
      | true => rfl
      | false =>
        have hmem : i ∈ Region.ready .any ops listed := mem_ready.2 ⟨hq, ops[i], Array.getElem?_eq_getElem hi, fun e he hb => by
          have h3 := hlt i ops[i] (Array.getElem?_eq_getElem hi) e he hb
          have h4 := ih e.on h3 (by omega)
          simp only [Array.getD_eq_getD_getElem?, Array.getElem?_eq_getElem (show e.on < listed.size by omega), Option.getD_some] at h4 ⊢
          exact h4⟩
        rw [h] at hmem
        cases hmem
  intro fuel
  induction fuel with
  | zero =>
    intro listed h1 h2
    have h3 : ∀ i, i < ops.size → listed.getD i true = true := fun i hi => by
      have hm : false ∉ listed.toList := List.count_eq_zero.1 (by omega)
      have hl : i < listed.size := by omega
      simp only [Array.getD_eq_getD_getElem?, Array.getElem?_eq_getElem hl, Option.getD_some]
      cases hb : listed[i]
      · exact absurd (by rw [← hb]; simp) hm
      · rfl
    unfold wpAll'
    cases hr : Region.ready .any ops listed with
    | nil => exact hall listed h1 h3
    | cons i r =>
      have hmem : i ∈ Region.ready .any ops listed := by rw [hr]; simp
      obtain ⟨h4, o, ho, _⟩ := mem_ready.1 hmem
      have h5 := h3 i (Array.getElem?_eq_some_iff.1 ho).1
      rw [h5] at h4
      cases h4
  | succ fuel ih =>
    intro listed h1 h2
    unfold wpAll'
    cases hr : Region.ready .any ops listed with
    | nil => exact hall listed h1 (hnone listed h1 hr)
    | cons i r =>
      have hone : ∀ j ∈ i :: r, (match ops[j]? with | none => False | some o => wpOps' A E false ops.toList [o] (J fun i => listed.getD i true) fun st' => wpAll' A E ops fuel (listed.setIfInBounds j true) st' K) := fun j hj => by
        obtain ⟨h4, o, ho, h5⟩ := mem_ready.1 (by rw [hr]; exact hj)
        rw [ho]
        have hjl : j < ops.size := (Array.getElem?_eq_some_iff.1 ho).1
        refine hstep _ j o ho (fun e he hb => ?_) _ ?_
        · have h6 := h5 e he hb
          have h7 := hlt j o ho e he hb
          simp only [Array.getD_eq_getD_getElem?, Array.getElem?_eq_getElem (show e.on < listed.size by omega), Option.getD_some] at h6 ⊢
          exact h6
        · have hup : J (updL (fun i => listed.getD i true) j) = J fun i => (listed.setIfInBounds j true).getD i true := hJ _ _ fun k hk => by
            unfold updL
            simp only [Array.getD_eq_getD_getElem?, Array.getElem?_setIfInBounds]
            by_cases hkj : k = j
            · subst hkj
              simp [show k < listed.size by omega]
            · simp [hkj, Ne.symm hkj]
          rw [hup]
          refine ih _ (by simp [h1]) ?_
          have hcnt : (listed.setIfInBounds j true).toList.count false + 1 ≤ listed.toList.count false := by
            have hl2 : j < listed.toList.length := by rw [Array.length_toList]; omega
            have hb : listed.toList[j] = false := by
              simp only [Array.getD_eq_getD_getElem?, Array.getElem?_eq_getElem (show j < listed.size by omega), Option.getD_some] at h4
              simpa using h4
            rw [Array.toList_setIfInBounds, List.count_set hl2, hb]
            have : 0 < listed.toList.count false := List.count_pos_iff.2 (by rw [← hb]; exact List.getElem_mem hl2)
            show listed.toList.count false - 1 + 0 + 1 ≤ _
            omega
          omega
      have hL : ∀ (l : List Nat) (f : Nat → Prop), (∀ j ∈ l, f j) → allL l f := by
        intro l f h
        induction l with
        | nil => trivial
        | cons a t iht =>
          cases t with
          | nil => exact h a (by simp)
          | cons b u => exact ⟨h a (by simp), iht fun j hj => h j (List.mem_cons_of_mem _ hj)⟩
      exact hL _ _ hone

def ltOk (ops : Array Oper) : Bool := (List.range ops.size).all fun i => match ops[i]? with | none => true | some o => o.after.toList.all fun e => !Region.binds .any e || decide (e.on < i)
theorem ltOk_spec {ops : Array Oper} (h : ltOk ops = true) : ∀ (i : Nat) (o : Oper), ops[i]? = some o → ∀ e ∈ o.after, Region.binds .any e = true → e.on < i := fun i o hi e he hb => by
  unfold ltOk at h
  have h1 := List.all_eq_true.1 h i (List.mem_range.2 (Array.getElem?_eq_some_iff.1 hi).1)
  rw [hi] at h1
  have h2 := List.all_eq_true.1 h1 e (by simpa using he)
  rw [hb] at h2
  simpa using h2

theorem region_inv {A : Ops} {E : Env} {id : Nat} {ops : Array Oper} {nb : Nat × Nat} {st : St} {Q : AX → St → Prop} (hm : drawMode E true id ops.size = .each) (vs : List SV) (bxf : (Nat → Bool) → List (Option (List SV)))
    (h0 : mkSt st ops vs bxf (fun _ => false) = st) (hbx : ∀ L L', (∀ i, i < ops.size → L i = L' i) → bxf L = bxf L')
    (hlt' : ltOk ops = true)
    (hstep : ∀ (L : Nat → Bool) (i : Nat) (o : Oper), ops[i]? = some o → (∀ e ∈ o.after, Region.binds .any e = true → L e.on = true) → ∀ K' : St → Prop, K' (mkSt st ops vs bxf (updL L i)) → wpOps' A E false ops.toList [o] (mkSt st ops vs bxf L) K')
    (hend : Q .normal (mkSt st ops vs bxf fun _ => true)) : wpC' A E (.region id ops true) nb st Q := by
  have hlt := ltOk_spec hlt'
  unfold wpC'
  rw [hm]
  have hJ : ∀ L L', (∀ i, i < ops.size → L i = L' i) → mkSt st ops vs bxf L = mkSt st ops vs bxf L' := fun L L' h => by
    unfold mkSt
    rw [hbx L L' h, mkSl_congr (L := L) (L' := L') fun j _ h2 => h j (by simpa using h2)]
  have h := wpAll_inv (A := A) (E := E) (K := Q .normal) hlt hJ hstep hend ops.size (Array.replicate ops.size false) (by simp) (by simp [List.count_replicate])
  have e : mkSt st ops vs bxf (fun i => (Array.replicate ops.size false).getD i true) = st := by
    refine (hJ _ (fun _ => false) fun i hi => ?_).trans h0
    simp [Array.getD_eq_getD_getElem?, hi]
  rw [e] at h
  exact h
end Go.Abs

namespace Go.Abs
open Go.RowKit

theorem wpAll_inv2 {A : Ops} {E : Env} {ops : Array Oper} {J : (Nat → Bool) → St} {K : St → Prop}
    (hlt : ∀ (i : Nat) (o : Oper), ops[i]? = some o → ∀ e ∈ o.after, Region.binds .any e = true → e.on < i)
    (hJ : ∀ L L', (∀ i, i < ops.size → L i = L' i) → J L = J L')
    (hstep : ∀ (L : Nat → Bool) (i : Nat) (o : Oper), ops[i]? = some o → L i = false → (∀ (j : Nat) (o' : Oper), ops[j]? = some o' → L j = true → ∀ e ∈ o'.after, Region.binds .any e = true → L e.on = true) → (∀ e ∈ o.after, Region.binds .any e = true → L e.on = true) → ∀ K' : St → Prop, K' (J (updL L i)) → wpOps' A E false ops.toList [o] (J L) K')
    (hend : K (J fun _ => true)) : ∀ (fuel : Nat) (listed : Array Bool), listed.size = ops.size → listed.toList.count false ≤ fuel → (∀ (j : Nat) (o' : Oper), ops[j]? = some o' → listed.getD j true = true → ∀ e ∈ o'.after, Region.binds .any e = true → listed.getD e.on true = true) → wpAll' A E ops fuel listed (J fun i => listed.getD i true) K := by
  have hall : ∀ (listed : Array Bool), listed.size = ops.size → (∀ i, i < ops.size → listed.getD i true = true) → K (J fun i => listed.getD i true) := fun listed h1 h2 => by
    rw [hJ _ (fun _ => true) h2]; exact hend
  have hnone : ∀ (listed : Array Bool), listed.size = ops.size → Region.ready .any ops listed = [] → ∀ i, i < ops.size → listed.getD i true = true := fun listed hs h i => by
    induction i using Nat.strongRecOn with
    | ind i ih =>
      intro hi
      cases hq : listed.getD i true with
      | true => rfl
      | false =>
        have hmem : i ∈ Region.ready .any ops listed := mem_ready.2 ⟨hq, ops[i], Array.getElem?_eq_getElem hi, fun e he hb => by
          have h3 := hlt i ops[i] (Array.getElem?_eq_getElem hi) e he hb
          have h4 := ih e.on h3 (by omega)
          simp only [Array.getD_eq_getD_getElem?, Array.getElem?_eq_getElem (show e.on < listed.size by omega), Option.getD_some] at h4 ⊢
          exact h4⟩
        rw [h] at hmem
        cases hmem
  intro fuel
  induction fuel with
  | zero =>
    intro listed h1 h2 _
    have h3 : ∀ i, i < ops.size → listed.getD i true = true := fun i hi => by
      have hm : false ∉ listed.toList := List.count_eq_zero.1 (by omega)
      have hl : i < listed.size := by omega
      simp only [Array.getD_eq_getD_getElem?, Array.getElem?_eq_getElem hl, Option.getD_some]
      cases hb : listed[i]
      · exact absurd (by rw [← hb]; simp) hm
      · rfl
    unfold wpAll'
    cases hr : Region.ready .any ops listed with
    | nil => exact hall listed h1 h3
    | cons i r =>
      have hmem : i ∈ Region.ready .any ops listed := by rw [hr]; simp
      obtain ⟨h4, o, ho, _⟩ := mem_ready.1 hmem
      have h5 := h3 i (Array.getElem?_eq_some_iff.1 ho).1
      rw [h5] at h4
      cases h4
  | succ fuel ih =>
    intro listed h1 h2 hC
    unfold wpAll'
    cases hr : Region.ready .any ops listed with
    | nil => exact hall listed h1 (hnone listed h1 hr)
    | cons i r =>
      have hone : ∀ j ∈ i :: r, (match ops[j]? with | none => False | some o => wpOps' A E false ops.toList [o] (J fun i => listed.getD i true) fun st' => wpAll' A E ops fuel (listed.setIfInBounds j true) st' K) := fun j hj => by
        obtain ⟨h4, o, ho, h5⟩ := mem_ready.1 (by rw [hr]; exact hj)
        rw [ho]
        have hjl : j < ops.size := (Array.getElem?_eq_some_iff.1 ho).1
        refine hstep _ j o ho h4 hC (fun e he hb => ?_) _ ?_
        · have h6 := h5 e he hb
          have h7 := hlt j o ho e he hb
          simp only [Array.getD_eq_getD_getElem?, Array.getElem?_eq_getElem (show e.on < listed.size by omega), Option.getD_some] at h6 ⊢
          exact h6
        · have hup : J (updL (fun i => listed.getD i true) j) = J fun i => (listed.setIfInBounds j true).getD i true := hJ _ _ fun k hk => by
            unfold updL
            simp only [Array.getD_eq_getD_getElem?, Array.getElem?_setIfInBounds]
            by_cases hkj : k = j
            · subst hkj
              simp [show k < listed.size by omega]
            · simp [hkj, Ne.symm hkj]
          rw [hup]
          refine ih _ (by simp [h1]) ?_ ?_
          rotate_left
          · intro k o' ho' hk e he hb
            have hkl : k < ops.size := (Array.getElem?_eq_some_iff.1 ho').1
            have hek := hlt k o' ho' e he hb
            have key : listed.getD e.on true = true := by
              by_cases hkj : k = j
              · subst hkj
                rw [ho] at ho'
                cases ho'
                have h6 := h5 e he hb
                simp only [Array.getD_eq_getD_getElem?, Array.getElem?_eq_getElem (show e.on < listed.size by omega), Option.getD_some] at h6 ⊢
                exact h6
              · refine hC k o' ho' ?_ e he hb
                simp only [Array.getD_eq_getD_getElem?, Array.getElem?_setIfInBounds] at hk ⊢
                simpa [Ne.symm hkj] using hk
            simp only [Array.getD_eq_getD_getElem?, Array.getElem?_setIfInBounds] at key ⊢
            by_cases hej : j = e.on
            · simp [hej, show e.on < listed.size by omega]
            · simpa [hej] using key
          have hcnt : (listed.setIfInBounds j true).toList.count false + 1 ≤ listed.toList.count false := by
            have hl2 : j < listed.toList.length := by rw [Array.length_toList]; omega
            have hb : listed.toList[j] = false := by
              simp only [Array.getD_eq_getD_getElem?, Array.getElem?_eq_getElem (show j < listed.size by omega), Option.getD_some] at h4
              simpa using h4
            rw [Array.toList_setIfInBounds, List.count_set hl2, hb]
            have : 0 < listed.toList.count false := List.count_pos_iff.2 (by rw [← hb]; exact List.getElem_mem hl2)
            show listed.toList.count false - 1 + 0 + 1 ≤ _
            omega
          omega
      have hL : ∀ (l : List Nat) (f : Nat → Prop), (∀ j ∈ l, f j) → allL l f := by
        intro l f h
        induction l with
        | nil => trivial
        | cons a t iht =>
          cases t with
          | nil => exact h a (by simp)
          | cons b u => exact ⟨h a (by simp), iht fun j hj => h j (List.mem_cons_of_mem _ hj)⟩
      exact hL _ _ hone

theorem region_inv2 {A : Ops} {E : Env} {id : Nat} {ops : Array Oper} {nb : Nat × Nat} {st : St} {Q : AX → St → Prop} (hm : drawMode E true id ops.size = .each) (vs : List SV) (bxf : (Nat → Bool) → List (Option (List SV)))
    (h0 : mkSt st ops vs bxf (fun _ => false) = st) (hbx : ∀ L L', (∀ i, i < ops.size → L i = L' i) → bxf L = bxf L')
    (hlt' : ltOk ops = true)
    (hstep : ∀ (L : Nat → Bool) (i : Nat) (o : Oper), ops[i]? = some o → L i = false → (∀ (j : Nat) (o' : Oper), ops[j]? = some o' → L j = true → ∀ e ∈ o'.after, Region.binds .any e = true → L e.on = true) → (∀ e ∈ o.after, Region.binds .any e = true → L e.on = true) → ∀ K' : St → Prop, K' (mkSt st ops vs bxf (updL L i)) → wpOps' A E false ops.toList [o] (mkSt st ops vs bxf L) K')
    (hend : Q .normal (mkSt st ops vs bxf fun _ => true)) : wpC' A E (.region id ops true) nb st Q := by
  have hlt := ltOk_spec hlt'
  unfold wpC'
  rw [hm]
  have hJ : ∀ L L', (∀ i, i < ops.size → L i = L' i) → mkSt st ops vs bxf L = mkSt st ops vs bxf L' := fun L L' h => by
    unfold mkSt
    rw [hbx L L' h, mkSl_congr (L := L) (L' := L') fun j _ h2 => h j (by simpa using h2)]
  have h := wpAll_inv2 (A := A) (E := E) (K := Q .normal) hlt hJ hstep hend ops.size (Array.replicate ops.size false) (by simp) (by simp [List.count_replicate]) (fun j o' ho' hj => by
    have := (Array.getElem?_eq_some_iff.1 ho').1
    simp [Array.getD_eq_getD_getElem?, this] at hj)
  have e : mkSt st ops vs bxf (fun i => (Array.replicate ops.size false).getD i true) = st := by
    refine (hJ _ (fun _ => false) fun i hi => ?_).trans h0
    simp [Array.getD_eq_getD_getElem?, hi]
  rw [e] at h
  exact h

/-- A region at the head of a block, behind a test. -/
theorem skip_block {A : Ops} {E : Env} {id b : Nat} {ops : Array Oper} {c d : Code} {nb : Nat × Nat} {st : St} {Q Q0 : AX → St → Prop} (hQ : ∀ s, Q .normal s = wpC' A E (.seq (.block b (.seq (.region id ops true) c)) d) nb s Q0)
    (h : wpC' A E (.region id ops true) nb st fun e st' => match e with
      | .normal => wpC' A E c nb st' fun e st' => match e with | .normal => wpC' A E d nb st' Q0 | .exit i => if i = b then wpC' A E d nb st' Q0 else Q0 (.exit i) st' | .ret => Q0 .ret st'
      | .exit i => if i = b then wpC' A E d nb st' Q0 else Q0 (.exit i) st'
      | .ret => Q0 .ret st') : wpC' A E .skip nb st Q := by
  unfold wpC'
  rw [hQ]
  unfold wpC'
  unfold wpC'
  unfold wpC'
  exact h
end Go.Abs
