/-
  The abstract walk: what each operation does to the slots, told in trees.
-/
import Derived.Test.YthofonhkpilifaaAbs1
import Derived.RangeFuncSeq
namespace Go.Abs
open Go.RowKit

/-- What an operation comes to: a side condition, a value, a state. -/
structure Res where
  side : Prop
  v : SV
  st : St

def Res.go (r : Option Res) (K : SV → St → Prop) : Prop :=
  match r with
  | some r => r.side ∧ K r.v r.st
  | none => False

def constPV : Value → PV
  | .int k n => .int k n
  | .bool b => .bool b
  | .string s => .str s
  | .slice none 0 0 => .list 0 []
  | _ => .any

def ofConst : Value → SV
  | .int k n => .val (.int k n)
  | .bool b => .val (.bool b)
  | .string s => .val (.str s)
  | .slice none 0 0 => .lit 0 []
  | .agg cs => .val (.agg (cs.toList.map constPV))
  | _ => .val .any

def valOf (st : St) : Operand → SV
  | .tmp t => st.sl.getD t .undef
  | .const v => ofConst v
  | .func f => .val (.fn f [])
  | .global _ => .val .any

def St.put (st : St) (dst : Option Tmp) (v : SV) : St :=
  match dst with
  | some d => { st with sl := st.sl.set d v }
  | none => st

def intOfSV : SV → Option (IntKind × Int)
  | .val (.int k n) => some (k, n)
  | _ => none

/-- The elements of a slice. -/
def SV.elems : SV → Option (Nat × List PV)
  | .val (.list m xs) => some (m, xs)
  | .lit m xs => some (m, xs)
  | .own _ m xs => some (m, xs)
  | _ => none

def pvsOf : List SV → Option (List PV)
  | [] => some []
  | s :: r => match s.pv, pvsOf r with
    | some p, some l => some (p :: l)
    | _, _ => none

/-- One cell's worth, and known to be. -/
def PV.one : PV → Bool
  | .int _ _ | .bool _ | .str _ | .list _ _ | .ptr _ _ | .fn _ _ | .yld _ | .ref => true
  | _ => false
def SV.one : SV → Bool
  | .val p => p.one
  | .undef => false
  | _ => true

/-- A value of a type, as its cells; only if it is known to have as many as the type. -/
def partCells (d : TD) (s : SV) : Option (List PV) :=
  if d.agg then (match s with | .val (.agg l) => if l.length = d.size then some l else none | _ => none)
  else (match s.pv with | some p => if p.one && d.size == 1 then some [p] else none | none => none)

def PV.ofCells (d : TD) (cs : List PV) : PV := if d.agg then .agg cs else cs.getD 0 .any

def opPick (c a b : SV) (st : St) : Option Res :=
  match c with
  | .val (.bool t) => some ⟨True, if t then a else b, st⟩
  | _ => none

def opFieldAddr (E : Env) (s : TypeId) (x : SV) (f : Nat) (st : St) : Option Res :=
  match (E.T s).k with
  | .struct fs =>
    match fs[f]? with
    | some (o, ft) =>
      if (E.T ft).size = 0 then none else
      match x with
      | .val (.ptr cs off) => some ⟨True, .val (.ptr cs (off + o)), st⟩
      | .box id off => some ⟨True, .box id (off + o), st⟩
      | .rbx id off i m k => some ⟨True, .rbx id off i m (k + o), st⟩
      | _ => none
    | none => none
  | _ => none

def opLoad (E : Env) (t : TypeId) (x : SV) (st : St) : Option Res :=
  match x with
  | .val (.ptr cs off) =>
    if (E.T t).agg then some ⟨off + (E.T t).size ≤ cs.length, .val (.agg ((cs.drop off).take (E.T t).size)), st⟩
    else if (E.T t).size = 1 then some ⟨off < cs.length, .val (cs.getD off .any), st⟩ else none
  | .box id off =>
    match st.bx.getD id none with
    | some cs =>
      if (E.T t).agg then
        match pvsOf ((cs.drop off).take (E.T t).size) with
        | some l => some ⟨off + (E.T t).size ≤ cs.length, .val (.agg l), st⟩
        | none => none
      else if (E.T t).size = 1 then some ⟨off < cs.length, cs.getD off .undef, st⟩ else none
    | none => none
  | _ => none

def St.setBx (st : St) (id : Nat) (c : Option (List SV)) : St := { st with bx := st.bx.set id c }

def opStore (E : Env) (t : TypeId) (x v : SV) (st : St) : Option Res :=
  match x with
  | .box id off =>
    match st.bx.getD id none with
    | some cs =>
      if (E.T t).agg then
        match v with
        | .val (.agg l) =>
          if l.length = (E.T t).size ∧ l.all PV.one then some ⟨off + l.length ≤ cs.length, .undef, st.setBx id (some (cs.take off ++ (l.map SV.val ++ cs.drop (off + l.length))))⟩ else none
        | _ => none
      else if v.one ∧ (E.T t).size = 1 then some ⟨off < cs.length, .undef, st.setBx id (some (cs.set off v))⟩ else none
    | none => none
  | _ => none

def St.newBx (st : St) (cs : List SV) : St := { st with bx := st.bx ++ [some cs] }

/-- A zero value; a nil slice may be appended to. -/
def zeroSV : PV → SV
  | .list 0 [] => .lit 0 []
  | p => .val p

def opAlloc (E : Env) (t : TypeId) (st : St) : Option Res :=
  if (E.T t).zero.length = (E.T t).size ∧ (E.T t).size ≠ 0 then some ⟨True, .box st.bx.length 0, st.newBx ((E.T t).zero.map zeroSV)⟩ else none

def opBox (E : Env) (t : TypeId) (v : SV) (st : St) : Option Res :=
  if (E.T t).agg then
    match v with
    | .val (.agg l) => if l.all PV.one then some ⟨True, .box st.bx.length 0, st.newBx (l.map SV.val)⟩ else none
    | _ => none
  else if v.one then some ⟨True, .box st.bx.length 0, st.newBx [v]⟩ else none

/-- The parts of a struct or an array laid over its zero value. -/
def fillPV (place : Nat → Option (Nat × TD)) (cells : List PV) : List (Nat × SV) → Option (List PV)
  | [] => some cells
  | (i, v) :: rest =>
    match place i with
    | none => none
    | some (off, d) =>
      match partCells d v with
      | none => none
      | some l => if off + l.length ≤ cells.length then fillPV place (cells.take off ++ (l ++ cells.drop (off + l.length))) rest else none

def opBuild (E : Env) (t : TypeId) (parts : List (Nat × SV)) (st : St) : Option Res :=
  if (E.T t).agg then
    match (E.T t).k with
    | .struct fs =>
      if fs.all fun p => (E.T p.2).size != 0 || (E.T p.2).agg then
        match fillPV (fun i => (fs[i]?).map fun p => (p.1, E.T p.2)) (E.T t).zero parts with
        | some l => some ⟨True, .val (.agg l), st⟩
        | none => none
      else none
    | .array _ e =>
      if (E.T e).size != 0 then
        match fillPV (fun i => some (i * (E.T e).size, E.T e)) (E.T t).zero parts with
        | some l => some ⟨True, .val (.agg l), st⟩
        | none => none
      else none
    | _ => none
  else none

/-- The elements of a slice written out. -/
def fillElems (d : TD) (xs : List PV) : List (Nat × SV) → Option (List PV)
  | [] => some xs
  | (i, v) :: rest =>
    match partCells d v with
    | none => none
    | some l => if i < xs.length ∧ l.all PV.one then fillElems d (xs.set i (PV.ofCells d l)) rest else none

def opBuildSlice (E : Env) (t : TypeId) (n : Nat) (parts : List (Nat × SV)) (st : St) : Option Res :=
  match (E.T t).k with
  | .slice e =>
    if (E.T e).zero.length = (E.T e).size ∧ 0 < (E.T e).size ∧ n * (E.T e).size ≤ 16777216 then
      match fillElems (E.T e) (List.replicate n (PV.ofCells (E.T e) (E.T e).zero)) parts with
      | some xs => some ⟨True, .lit (E.T e).size xs, st⟩
      | none => none
    else none
  | _ => none

def opMakeSlice (E : Env) (t : TypeId) (len cap : SV) (st : St) : Option Res :=
  match (E.T t).k, len, cap with
  | .slice e, .val (.int _ n), .val (.int _ c) =>
    if (E.T e).zero.length = (E.T e).size ∧ 0 < (E.T e).size then
      if E.rows then some ⟨0 ≤ n ∧ n = c ∧ n * (E.T e).bytes ≤ 140737488355328 ∧ n ≤ 140737488355328, .msl st.bx.length 0 n.toNat, st.newBx ((List.replicate n.toNat (E.T e).zero).flatten.map SV.val)⟩ else
      some ⟨0 ≤ n ∧ n = c ∧ n * (E.T e).bytes ≤ 140737488355328 ∧ n ≤ 140737488355328, .lit (E.T e).size (List.replicate n.toNat (PV.ofCells (E.T e) (E.T e).zero)), st⟩
    else none
  | _, _, _ => none

def bound (o : Option SV) (d : Int) : Option Int :=
  match o with
  | none => some d
  | some (.val (.int _ n)) => some n
  | _ => none

def opSlice (E : Env) (t : TypeId) (x : SV) (lo hi mx : Option SV) (st : St) : Option Res :=
  match mx, (E.T t).k with
  | none, .slice e =>
    match x.elems with
    | some (m, xs) =>
      if (m = (E.T e).size ∨ xs = []) ∧ (E.T e).size ≠ 0 then
        match bound lo 0, bound hi xs.length with
        | some l, some h => some ⟨0 ≤ l ∧ l ≤ h ∧ h ≤ xs.length, .val (.list m ((xs.take h.toNat).drop l.toNat)), st⟩
        | _, _ => none
      else none
    | none => none
  | none, .str =>
    match x with
    | .val (.str s) =>
      match bound lo 0, bound hi s.size with
      | some l, some h => some ⟨0 ≤ l ∧ l ≤ h ∧ h ≤ s.size, .val (.str (s.extract l.toNat h.toNat)), st⟩
      | _, _ => none
    | _ => none
  | _, _ => none

/-- A slice over an array of the activation's own. -/
def opSliceArr (E : Env) (t : TypeId) (id off : Nat) (lo hi mx : Option SV) (st : St) : Option Res :=
  match (E.T t).k, lo with
  | .array n e, none =>
    if (E.T e).size ≠ 0 ∧ n ≤ 9223372036854775807 then
      match hi, mx with
      | some (.val (.int _ h)), some (.val (.int _ m)) => some ⟨0 ≤ h ∧ h ≤ m ∧ m ≤ n, .msl id off h.toNat, st⟩
      | some (.val (.int _ h)), none => some ⟨0 ≤ h ∧ h ≤ n, .msl id off h.toNat, st⟩
      | none, none => some ⟨True, .msl id off n, st⟩
      | _, _ => none
    else none
  | _, _ => none

/-- A pointer to an element. -/
def elemSV (E : Env) (id off i m : Nat) : SV := match E.rows with | true => .rbx id off i m 0 | false => .box id (off + i * m)

/-- A slice of a row. -/
def opSliceRow (E : Env) (t : TypeId) (id off m len cap : Nat) (lo hi mx : Option SV) (st : St) : Option Res :=
  match mx, (E.T t).k with
  | none, .slice e =>
    if m = (E.T e).size ∧ m ≠ 0 then
      match lo, bound hi len with
      | none, some h => some ⟨(0 : Int) ≤ 0 ∧ 0 ≤ h ∧ h ≤ len, .row id off m h.toNat cap, st⟩
      | some (.val (.int _ l)), some h => some ⟨(0 ≤ l ∧ l ≤ h ∧ h ≤ len) ∧ 0 ≤ l ∧ l < cap, .row id (off + l.toNat * m) m (h - l).toNat ((cap : Int) - l).toNat, st⟩
      | _, _ => none
    else none
  | _, _ => none

def opIndexAddr (E : Env) (t : TypeId) (x i : SV) (st : St) : Option Res :=
  match intOfSV i with
  | none => none
  | some (_, n) =>
    match (E.T t).k with
    | .slice e =>
      if (E.T e).size = 0 then none else
      match x with
      | .msl id off len => some ⟨0 ≤ n ∧ n < len, elemSV E id off n.toNat (E.T e).size, st⟩
      | .row id off _ len _ => some ⟨0 ≤ n ∧ n < len, elemSV E id off n.toNat (E.T e).size, st⟩
      | x =>
        match x.elems with
        | some (m, xs) => if m = (E.T e).size then some ⟨0 ≤ n ∧ n < xs.length, .val (.ptr (xs.getD n.toNat .any).cells 0), st⟩ else none
        | none => none
    | .array cnt e =>
      if (E.T e).size = 0 then none else
      match x with
      | .val (.ptr cs off) => some ⟨0 ≤ n ∧ n < cnt, .val (.ptr cs (off + n.toNat * (E.T e).size)), st⟩
      | .box id off => some ⟨0 ≤ n ∧ n < cnt, elemSV E id off n.toNat (E.T e).size, st⟩
      | _ => none
    | _ => none

def opIndex (E : Env) (t : TypeId) (x i : SV) (st : St) : Option Res :=
  match intOfSV i, (E.T t).k, x with
  | some (_, n), .str, .val (.str s) => some ⟨0 ≤ n ∧ n < s.size, .val (.int .u8 (s.data.toList.getD n.toNat 0).toNat), st⟩
  | _, _, _ => none

def opField (E : Env) (t : TypeId) (x : SV) (f : Nat) (st : St) : Option Res :=
  match (E.T t).k, x with
  | .struct fs, .val (.agg cs) =>
    match fs[f]? with
    | some (o, ft) =>
      if (E.T ft).agg then some ⟨o + (E.T ft).size ≤ cs.length, .val (.agg ((cs.drop o).take (E.T ft).size)), st⟩
      else if (E.T ft).size = 1 then some ⟨o < cs.length, .val (cs.getD o .any), st⟩ else none
    | none => none
  | _, _ => none

def opExtract (x : SV) (i : Nat) (st : St) : Option Res :=
  match x with
  | .val (.tup vs) => match vs[i]? with | some p => some ⟨True, .val p, st⟩ | none => none
  | _ => none

def sealCap (id : Nat) (cs : List PV) : Cap → Cap
  | .box i o => if i = id then .pv (.ptr cs o) else .box i o
  | c => c
def capPVs : List Cap → Option (List PV)
  | [] => some []
  | .pv p :: r => (capPVs r).map (p :: ·)
  | .box _ _ :: _ => none

/-- A variable of the activation's own turns still: from here on it is only read. -/
def sealSV (id : Nat) (cs : List PV) : SV → SV
  | .box i o => if i = id then .val (.ptr cs o) else .box i o
  | .clo f caps => match capPVs (caps.map (sealCap id cs)) with | some ps => .val (.fn f ps) | none => .clo f (caps.map (sealCap id cs))
  | s => s
def St.sealBx (st : St) (id : Nat) (cs : List PV) : St := { st with sl := st.sl.map (sealSV id cs), bx := st.bx.set id none }

def opCaps (st : St) : List SV → Option (List PV × St)
  | [] => some ([], st)
  | .val p :: r => (opCaps st r).map fun q => (p :: q.1, q.2)
  | .lit m xs :: r => (opCaps st r).map fun q => (.list m xs :: q.1, q.2)
  | .box id off :: r =>
    match opCaps st r with
    | none => none
    | some (l, st') =>
      match st'.bx.getD id none with
      | some cs => match pvsOf cs with | some ps => some (.ptr ps off :: l, st'.sealBx id ps) | none => none
      | none => none
  | _ => none

/-- What a closure holds that shares. -/
def capsOf : List SV → Option (List Cap)
  | [] => some []
  | .val p :: r => (capsOf r).map (.pv p :: ·)
  | .lit m xs :: r => (capsOf r).map (.pv (.list m xs) :: ·)
  | .box id off :: r => (capsOf r).map (.box id off :: ·)
  | _ => none

def opMakeFunc (E : Env) (fn : Fn) (first captured : List SV) (st : St) : Option Res :=
  match fn, first with
  | .func f, [] =>
    if E.clo f then (match capsOf captured with | some l => some ⟨True, .clo f l, st⟩ | none => none)
    else match opCaps st captured with | some (l, st') => some ⟨True, .val (.fn f l), st'⟩ | none => none
  | _, _ => none

def opUn (op : UnOp) (x : SV) (st : St) : Option Res :=
  match op, x with
  | .not, .val (.bool b) => some ⟨True, .val (.bool (!b)), st⟩
  | .neg, .val (.int .i64 n) => some ⟨-9223372036854775808 < n ∧ n ≤ 9223372036854775807, .val (.int .i64 (-n)), st⟩
  | .xor, .val (.int .u64 n) => some ⟨True, .val (.int .u64 (IntKind.u64.wrap (BitVec.ofInt 64 IntKind.u64.max ^^^ BitVec.ofInt 64 n).toNat)), st⟩
  | _, _ => none

def opConvert (E : Env) (src dst : TypeId) (x : SV) (st : St) : Option Res :=
  match (E.T src).k, (E.T dst).k, x with
  | .int k, .int k', .val (.int k'' n) => if k = k' ∧ k'' = k ∧ k = .i64 then some ⟨-9223372036854775808 ≤ n ∧ n ≤ 9223372036854775807, .val (.int k n), st⟩ else some ⟨True, .val (.int k' (k'.wrap n)), st⟩
  | .str, .str, .val (.str s) => some ⟨True, .val (.str s), st⟩
  | _, _, _ => none

def inI64 (n : Int) : Prop := -9223372036854775808 ≤ n ∧ n ≤ 9223372036854775807

def arithI64 (op : BinOp) (a b : Int) : Option (Prop × PV) :=
  match op with
  | .add => some (inI64 (a + b), .int .i64 (a + b))
  | .sub => some (inI64 (a - b), .int .i64 (a - b))
  | .mul => some (inI64 (a * b), .int .i64 (a * b))
  | .quo => some (b ≠ 0 ∧ inI64 (a.tdiv b), .int .i64 (a.tdiv b))
  | .rem => some (b ≠ 0, .int .i64 (a.tmod b))
  | .eql => some (True, .bool (decide (a = b)))
  | .neq => some (True, .bool (decide (a ≠ b)))
  | .lss => some (True, .bool (decide (a < b)))
  | .leq => some (True, .bool (decide (a ≤ b)))
  | .gtr => some (True, .bool (decide (b < a)))
  | .geq => some (True, .bool (decide (b ≤ a)))
  | _ => none

/-- Unsigned, 64 bits: sets of bits. -/
def arithOther (op : BinOp) (k : IntKind) (a b : Int) : Option (Prop × PV) :=
  match op with
  | .and => some (True, .int k (k.wrap ((BitVec.ofInt k.bits a &&& BitVec.ofInt k.bits b).toNat)))
  | .or => some (True, .int k (k.wrap ((BitVec.ofInt k.bits a ||| BitVec.ofInt k.bits b).toNat)))
  | .add => some (True, .int k (k.wrap (a + b)))
  | .sub => some (True, .int k (k.wrap (a - b)))
  | .eql => some (True, .bool (decide (a = b)))
  | .neq => some (True, .bool (decide (a ≠ b)))
  | .lss => some (True, .bool (decide (a < b)))
  | .leq => some (True, .bool (decide (a ≤ b)))
  | .gtr => some (True, .bool (decide (b < a)))
  | .geq => some (True, .bool (decide (b ≤ a)))
  | _ => none

def eqPV : SK → PV → PV → Option Bool
  | .int, .int k a, .int k' b => if k = k' then some (decide (a = b)) else none
  | .bool, .bool a, .bool b => some (decide (a = b))
  | .str, .str a, .str b => some (decide (a = b))
  | _, _, _ => none

def eqCells : List SK → List PV → List PV → Option Bool
  | [], [], [] => some true
  | k :: ks, x :: xs, y :: ys => match eqPV k x y, eqCells ks xs ys with | some a, some b => some (a && b) | _, _ => none
  | _, _, _ => none

def opBin (E : Env) (op : BinOp) (t : TypeId) (x y : SV) (st : St) : Option Res :=
  match x, y with
  | .val (.int k a), .val (.int k' b) =>
    match op with
    | .shl => some ⟨0 ≤ b ∧ b < k.bits, .val (.int k (k.wrap (a * 2 ^ b.toNat))), st⟩
    | .shr => some ⟨0 ≤ b ∧ b < k.bits, .val (.int k (a.fdiv (2 ^ b.toNat))), st⟩
    | op =>
      if k = k' then
        match (if k = .i64 then arithI64 op a b else arithOther op k a b) with
        | some (s, p) => some ⟨s, .val p, st⟩
        | none => none
      else none
  | .val (.bool a), .val (.bool b) =>
    match (E.T t).k, op with
    | .bool, .eql => some ⟨True, .val (.bool (decide (a = b))), st⟩
    | .bool, .neq => some ⟨True, .val (.bool (decide (a ≠ b))), st⟩
    | _, _ => none
  | .val (.str a), .val (.str b) =>
    match op with
    | .eql => some ⟨True, .val (.bool (decide (a = b))), st⟩
    | .neq => some ⟨True, .val (.bool (decide (a ≠ b))), st⟩
    | _ => none
  | .val (.agg a), .val (.agg b) =>
    match (E.T t).eq with
    | none => none
    | some ks =>
      match eqCells ks a b, op with
      | some r, .eql => some ⟨True, .val (.bool r), st⟩
      | some r, .neq => some ⟨True, .val (.bool (!r)), st⟩
      | _, _ => none
  | _, _ => none

def opLen (E : Env) (t : TypeId) (x : SV) (st : St) : Option Res :=
  match (E.T t).k, x with
  | .str, .val (.str s) => some ⟨True, .val (.int .i64 s.size), st⟩
  | .slice _, .msl _ _ n => some ⟨True, .val (.int .i64 n), st⟩
  | .slice _, .row _ _ _ n _ => some ⟨True, .val (.int .i64 n), st⟩
  | .slice _, x => match x.elems with | some (_, xs) => some ⟨True, .val (.int .i64 xs.length), st⟩ | none => none
  | .array n _, _ => some ⟨True, .val (.int .i64 n), st⟩
  | _, _ => none

def opAppend (E : Env) (t : TypeId) (s y : SV) (st : St) : Option Res :=
  match (E.T t).k, y.elems with
  | .slice e, some (m', ys) =>
    if (m' = (E.T e).size ∨ ys = []) ∧ 0 < (E.T e).size ∧ (E.T e).zero.length = (E.T e).size then
      match s with
      | .lit m xs =>
        if m = (E.T e).size ∨ xs = [] then
          some ⟨(xs.length + ys.length) * ((E.T e).bytes + 1) ≤ 140737488355328, .own st.tk.length (E.T e).size (xs ++ ys), { st with tk := st.tk ++ [((xs ++ ys).length, e)] }⟩
        else none
      | .own k m xs =>
        if (m = (E.T e).size ∨ xs = []) ∧ ((st.tk.getD k (0, 0)).2 = e) then
          some ⟨(st.tk.getD k (0, 0)).1 = xs.length ∧ k < st.tk.length ∧ (xs.length + ys.length) * ((E.T e).bytes + 1) ≤ 140737488355328, .own k (E.T e).size (xs ++ ys), { st with tk := st.tk.set k ((xs ++ ys).length, e) }⟩
        else none
      | _ => none
    else none
  | _, _ => none

def opMakeMap (E : Env) (t : TypeId) (reserve : Option Operand) (st : St) : Option Res :=
  match (E.T t).k, reserve with
  | .map k e, none => some ⟨True, .mp st.ax.mp.length, { st with ax := { st.ax with mp := st.ax.mp ++ [.plain k e 0] } }⟩
  | _, _ => none

/-- What fits an integer's kind. -/
def inKind (k : IntKind) (a : Int) : Prop := k.min ≤ a ∧ a ≤ k.max

def opMapUpdate (E : Env) (t : TypeId) (m x v : SV) (st : St) : Option Res :=
  match m, x, v with
  | .mp id, .val (.int kk a), .val (.bool _) =>
    match st.ax.mp[id]?, (E.T t).k with
    | some (.plain k e n), .map k' e' =>
      match (E.T k).k, (E.T e).k with
      | .int kk', .bool => if k = k' ∧ e = e' ∧ kk = kk' then some ⟨n < 9223372036854775807 ∧ inKind kk a, .undef, { st with ax := { st.ax with mp := st.ax.mp.set id (.plain k e (n + 1)) } }⟩ else none
      | _, _ => none
    | _, _ => none
  | _, _, _ => none

def opMinMax (mn : Bool) (xs : List SV) (st : St) : Option Res :=
  match xs with
  | [.val (.int .i64 a), .val (.int .i64 b)] => some ⟨True, .val (.int .i64 (if mn then min a b else max a b)), st⟩
  | _ => none

def opBuiltin (E : Env) (b : Builtin) (ts : List TypeId) (xs : List SV) (st : St) : Option Res :=
  match b, ts, xs with
  | .len, [t], [x] => opLen E t x st
  | .append, [t, t'], [s, y] => if t = t' then opAppend E t s y st else none
  | .min, _, xs => opMinMax true xs st
  | .max, _, xs => opMinMax false xs st
  | _, _, _ => none

/-- An operation that is no call of a function. -/
def evalOp (E : Env) (o : Op) (st : St) : Option Res :=
  match o with
  | .move x | .assign x => some ⟨True, valOf st x, st⟩
  | .pick c a b => opPick (valOf st c) (valOf st a) (valOf st b) st
  | .alloc t => opAlloc E t st
  | .box t x => opBox E t (valOf st x) st
  | .build t parts => opBuild E t (parts.toList.map fun p => (p.1, valOf st p.2)) st
  | .buildSlice t n parts => opBuildSlice E t n (parts.toList.map fun p => (p.1, valOf st p.2)) st
  | .load t a => opLoad E t (valOf st a).norm st
  | .store t a x => opStore E t (valOf st a).norm (valOf st x) st
  | .nilCheck x => (match valOf st x with | .val (.ptr cs o) => some ⟨True, .val (.ptr cs o), st⟩ | .box id o => some ⟨True, .box id o, st⟩ | .val (.fn f cs) => some ⟨True, .val (.fn f cs), st⟩ | .clo f cs => some ⟨True, .clo f cs, st⟩ | .rbx a b c d e => some ⟨True, .rbx a b c d e, st⟩ | .val (.yld l) => some ⟨True, .val (.yld l), st⟩ | _ => none)
  | .binOp op t x y _ => opBin E op t (valOf st x) (valOf st y) st
  | .unOp op _ x => opUn op (valOf st x) st
  | .convert s d x => opConvert E s d (valOf st x) st
  | .makeFunc fn first cap => opMakeFunc E fn (first.toList.map (valOf st)) (cap.toList.map (valOf st)) st
  | .makeSlice t l c => opMakeSlice E t (valOf st l) (valOf st c) st
  | .makeMap t r => opMakeMap E t r st
  | .mapUpdate t m x v => opMapUpdate E t (valOf st m) (valOf st x) (valOf st v) st
  | .slice t x lo hi mx => (match valOf st x with | .box id off => opSliceArr E t id off (lo.map (valOf st)) (hi.map (valOf st)) (mx.map (valOf st)) st | .row id off m len cap => opSliceRow E t id off m len cap (lo.map (valOf st)) (hi.map (valOf st)) (mx.map (valOf st)) st | x => opSlice E t x (lo.map (valOf st)) (hi.map (valOf st)) (mx.map (valOf st)) st)
  | .fieldAddr s x f => opFieldAddr E s (valOf st x) f st
  | .field t x f => opField E t (valOf st x) f st
  | .indexAddr t x i => opIndexAddr E t (valOf st x) (valOf st i) st
  | .index t x i => opIndex E t (valOf st x) (valOf st i) st
  | .extract x i => opExtract (valOf st x) i st
  | .call { callee := .builtin b, args, argTypes } => opBuiltin E b argTypes.toList (args.toList.map (valOf st)) st
  | _ => none

/-- What a loop over a function promises to the function. -/
def YOk (P : Program) (Y : YS) : Prop :=
  ∀ (r : Option Nat) (n : Nat) (k : Nat) (ps : List PV) (vs : List Value) (F : Nat → Prop) (S : Addr → Prop) (w : World), Y.ys[k]? = some ps → Y.J k F S w → (∀ b, F b → b < w.heap.size) → (∀ a, S a → a.block < w.heap.size) → RVs S w ps vs →
    YieldAt ({ Fence.wide with round := r }) n P Y.l vs.toArray w fun e w' => ∃ (k' : Nat) (F' : Nat → Prop) (S' : Addr → Prop), ((e = .returned (.bool true) ∧ k' = k + 1) ∨ (e = .returned (.bool false) ∧ k' = Y.ys.length + 1)) ∧ Y.J k' F' S' w' ∧
      Below 0 w w' ∧ (∀ b, b < w.heap.size → ¬ F b → w'.heap[b]? = w.heap[b]?) ∧ (∀ b, F' b → (F b ∨ w.heap.size ≤ b) ∧ b < w'.heap.size) ∧ (∀ a, S a → S' a) ∧ (∀ a, S a → w'.cell? a = w.cell? a) ∧
      (∀ a, S' a → (S a ∨ F a.block ∨ w.heap.size ≤ a.block) ∧ a.block < w'.heap.size)

/-- WHAT A FUNCTION DOES THAT IS RANGED OVER: it hands on the rows 'xs', one by one, till it is told to stop. -/
def SeqPV (P : Program) (f : FuncId) (caps : List PV) (xs : List (List PV)) : Prop :=
  Enters P f ∧ ∀ (Y : YS) (r : Option Nat) (n : Nat) (F : Nat → Prop) (S : Addr → Prop) (w : World) (vs : List Value), Y.ys = xs → YOk P Y → Y.J 0 F S w → (∀ b, F b → b < w.heap.size) → (∀ a, S a → a.block < w.heap.size) → RVs S w caps vs →
    CallsIn ({ Fence.wide with round := r }) n P f (#[.func (.yield Y.l) #[] #[]] ++ vs.toArray) w fun e w' => ∃ (v : Value) (k : Nat) (F' : Nat → Prop) (S' : Addr → Prop), e = .returned v ∧ (k = xs.length ∨ k = xs.length + 1) ∧ Y.J k F' S' w' ∧ Below 0 w w'

/-- A call of a function: by what it does. -/
def wpCall (E : Env) (f : FuncId) (args : List PV) (K : PV → Prop) : Prop := ∃ r, CallsPV E.P f args r ∧ K r

theorem wpCall_intro {E : Env} {f : FuncId} {args : List PV} {K : PV → Prop} {r : PV} (h : CallsPV E.P f args r) (hk : K r) : wpCall E f args K := ⟨r, h, hk⟩

/-- A call of a function that shares variables with the caller: by what it does to them. -/
def CallsSt (E : Env) (f : FuncId) (svs : List SV) (bx : List (Option (List SV))) (tk : List (Nat × TypeId)) (ax : Ax) (r : SV) (bx' : List (Option (List SV))) (tk' : List (Nat × TypeId)) (ax' : Ax) : Prop :=
  Enters E.P f ∧ ∀ (B : Nat) (S0 : Addr → Prop) (w0 : World) (G : Gh) (S : Addr → Prop) (w : World) (vs : List Value), Inv E B S0 bx tk ax G S w → Below B w0 w → svs.length = vs.length →
    (∀ (i : Nat) (s : SV) (v : Value), svs[i]? = some s → vs[i]? = some v → RSV tk G S w s v) →
    Calls E.P f vs.toArray w fun e w' => ∃ v G' S', e = .returned v ∧ Inv E B S0 bx' tk' ax' G' S' w' ∧ Below B w0 w' ∧ Ext tk G S w tk' G' S' w' ∧ RSV tk' G' S' w' r v

/-- .. of which less is said: 'Q': what it hands back, and what it leaves. -/
def CallsR (E : Env) (f : FuncId) (svs : List SV) (bx : List (Option (List SV))) (tk : List (Nat × TypeId)) (ax : Ax) (Q : SV → List (Option (List SV)) → List (Nat × TypeId) → Ax → Prop) : Prop :=
  Enters E.P f ∧ ∀ (B : Nat) (S0 : Addr → Prop) (w0 : World) (G : Gh) (S : Addr → Prop) (w : World) (vs : List Value), Inv E B S0 bx tk ax G S w → Below B w0 w → svs.length = vs.length →
    (∀ (i : Nat) (s : SV) (v : Value), svs[i]? = some s → vs[i]? = some v → RSV tk G S w s v) →
    Calls E.P f vs.toArray w fun e w' => ∃ v r bx' tk' ax' G' S', Q r bx' tk' ax' ∧ e = .returned v ∧ Inv E B S0 bx' tk' ax' G' S' w' ∧ Below B w0 w' ∧ Ext tk G S w tk' G' S' w' ∧ RSV tk' G' S' w' r v

theorem CallsSt.rel {E : Env} {f : FuncId} {svs : List SV} {bx bx' : List (Option (List SV))} {tk tk' : List (Nat × TypeId)} {ax ax' : Ax} {r : SV} (h : CallsSt E f svs bx tk ax r bx' tk' ax') :
    CallsR E f svs bx tk ax fun a b c d => a = r ∧ b = bx' ∧ c = tk' ∧ d = ax' := by
  refine ⟨h.1, fun B S0 w0 G S w vs a b c d cs => ?_⟩
  obtain ⟨e, w', fr, ⟨v, G', S', h1, h2, h3, h4, h5⟩, h6⟩ := h.2 B S0 w0 G S w vs a b c d cs
  exact ⟨e, w', fr, ⟨v, r, bx', tk', ax', G', S', ⟨rfl, rfl, rfl, rfl⟩, h1, h2, h3, h4, h5⟩, h6⟩

/-- Whether a slice of this type is appended to as a row: 'rows', but for the types that are named (two million and the type's number) among 'clo'. -/
def rowsAt (E : Env) (ts : List TypeId) : Bool :=
  match ts with
  | t :: _ => E.rows && !E.clo (2000000 + t)
  | [] => E.rows

/-- What is a row, and what is not. -/
structure RowM where
  rows : Bool
  at_ : List TypeId → Bool
def Env.rm (E : Env) : RowM := ⟨E.rows, rowsAt E⟩

theorem rowsAt_rows {E : Env} {ts : List TypeId} (h : rowsAt E ts = true) : E.rows = true := by
  cases ts with
  | nil => exact h
  | cons t r => simp only [rowsAt, Bool.and_eq_true] at h; exact h.1

def Cap.sv : Cap → SV
  | .pv p => .val p
  | .box id off => .box id off

def wpDeep (E : Env) (f : FuncId) (svs : List SV) (st : St) (K : SV → St → Prop) : Prop :=
  ∃ Q, CallsR E f svs st.bx st.tk st.ax Q ∧ ∀ r bx' tk' ax', Q r bx' tk' ax' → K r ⟨st.sl, bx', tk', ax'⟩

def St.yks (st : St) (k : Nat) : St := { st with ax := { st.ax with yk := k } }

/-- A call of the function that a loop hands on: one more round of the loop. -/
def wpYield (E : Env) (l : Nat) (ps : List PV) (st : St) (K : SV → St → Prop) : Prop :=
  l = E.Y.l ∧ E.Y.ys[st.ax.yk]? = some ps ∧ K (.val (.bool true)) (st.yks (st.ax.yk + 1)) ∧ K (.val (.bool false)) (st.yks (E.Y.ys.length + 1))

/-- .. a row: the slices over it, from its beginning, turn lists. -/
def rowSV (id m : Nat) (xs : List PV) (s : SV) : SV :=
  match s with
  | .msl i off len => if i = id ∧ off = 0 ∧ len ≤ xs.length then .val (.list m (xs.take len)) else .msl i off len
  | .row i off m' len cap => if i = id ∧ off = 0 ∧ m' = m ∧ len ≤ xs.length then .val (.list m (xs.take len)) else .row i off m' len cap
  | s => sealSV id (xs.flatMap PV.cells) s
def St.sealRow (st : St) (id m : Nat) (xs : List PV) : St := { st with sl := st.sl.map (rowSV id m xs), bx := st.bx.set id none }

/-- Variables of the activation's own turn still, so that what leads to them may be handed on. -/
inductive Frz : St → List SV → St → List SV → Prop
  | refl (st : St) (l : List SV) : Frz st l st l
  | still (id : Nat) (cs : List SV) (ps : List PV) (st st' : St) (l l' : List SV) (h1 : st.bx.getD id none = some cs) (h2 : pvsOf cs = some ps)
      (h3 : Frz (st.sealBx id ps) (l.map (sealSV id ps)) st' l') : Frz st l st' l'
  | row (id m : Nat) (cs : List SV) (xs : List PV) (st st' : St) (l l' : List SV) (h1 : st.bx.getD id none = some cs) (h2 : cs = (xs.flatMap PV.cells).map SV.val) (hm : ∀ x ∈ xs, x.cells.length = m)
      (h3 : Frz (st.sealRow id m xs) (l.map (rowSV id m xs)) st' l') : Frz st l st' l'

def freeze (st : St) (l : List SV) (K : List PV → St → Prop) : Prop := ∃ st' l' ps, Frz st l st' l' ∧ pvsOf l' = some ps ∧ K ps st'

/-- What a function does with a row that is lent to it for the call: what it returns is its own. -/
def CallsFresh (P : Program) (f : FuncId) (m : Nat) (xs : List PV) (r : PV) : Prop :=
  Enters P f ∧ ∀ (S : Addr → Prop) (w : World) (a : Addr) (cap : Nat) (vals : List Value), (∀ a, S a → a.block < w.heap.size) → vals.length = xs.length * m → (∀ (j : Nat) (v : Value), vals[j]? = some v → w.cell? (a.add j) = some v ∧ v.oneCell' = true) →
    RVs S w (xs.flatMap PV.cells) vals → xs.length ≤ cap → cap ≤ maxLen → Calls P f #[.slice (some a) xs.length cap] w fun e w' => ∃ v, e = .returned v ∧ Below w.heap.size w w' ∧ RV (Snew S w w') w' r v

def lend (E : Env) (f : FuncId) (args : List SV) (st : St) (K : SV → St → Prop) : Prop :=
  ∃ (id off m len cap : Nat) (cells : List SV) (xs : List PV) (r : PV), args = [.row id off m len cap] ∧ st.bx.getD id none = some cells ∧ (cells.drop off).take (len * m) = (xs.flatMap PV.cells).map SV.val ∧ xs.length = len ∧ (∀ x ∈ xs, x.cells.length = m) ∧
    CallsFresh E.P f m xs r ∧ K (.val r) st

/-- A call whose arguments lead to what the activation may write to: it turns still; or it is lent; or it is shared. -/
def wpOpen (E : Env) (f : FuncId) (caps : List PV) (args : List SV) (st : St) (K : SV → St → Prop) : Prop :=
  (freeze st args fun l st' => wpCall E f (l ++ caps) fun r => K (.val r) st') ∨ (caps = [] ∧ lend E f args st K) ∨ wpDeep E f (args ++ caps.map SV.val) st K

/-- append, where what is appended to is a row that may be written to. -/
def wpAppR (E : Env) (ts : List TypeId) (xs : List SV) (st : St) (K : SV → St → Prop) : Prop :=
  match ts, xs with
  | [t, t'], [s, y] =>
    match (E.T t).k, y.elems with
    | .slice e, some (m', ys) =>
      t = t' ∧ m' = (E.T e).size ∧ ys ≠ [] ∧ 0 < (E.T e).size ∧ (E.T e).zero.length = (E.T e).size ∧
      match s with
      | .lit ms zs =>
        (ms = (E.T e).size ∨ zs = []) ∧ (zs.length + ys.length) * ((E.T e).bytes + 1) ≤ 140737488355328 ∧
          ∀ cap, zs.length + ys.length ≤ cap → cap ≤ maxLen → K (.row st.bx.length 0 (E.T e).size (zs.length + ys.length) cap)
            (st.newBx (((zs ++ ys).flatMap PV.cells).map SV.val ++ List.replicate ((cap - (zs.length + ys.length)) * (E.T e).size) (.val .any)))
      | .row id off m len cap =>
        m = (E.T e).size ∧ (len + ys.length) * ((E.T e).bytes + 1) ≤ 140737488355328 ∧ ∃ cells, st.bx.getD id none = some cells ∧ off + cap * m ≤ cells.length ∧
          (len + ys.length ≤ cap → K (.row id off m (len + ys.length) cap) (st.setBx id (some (cells.take (off + len * m) ++ ((ys.flatMap PV.cells).map SV.val ++ cells.drop (off + len * m + ys.length * m)))))) ∧
          (cap < len + ys.length → ∀ cap', len + ys.length ≤ cap' → cap' ≤ maxLen → K (.row st.bx.length 0 m (len + ys.length) cap')
            (st.newBx ((cells.drop off).take (len * m) ++ ((ys.flatMap PV.cells).map SV.val ++ List.replicate ((cap' - (len + ys.length)) * m) (.val .any)))))
      | _ => False
    | _, _ => False
  | _, _ => False

/-- 'dr': in a region whose order is drawn. -/
def wpOp (E : Env) (dr : Bool) (o : Op) (st : St) (K : SV → St → Prop) : Prop :=
  match o with
  | .call { callee := .value x, args, .. } =>
    match valOf st x with
    | .val (.fn f caps) =>
      match pvsOf (args.toList.map (valOf st)) with
      | some l => wpCall E f (l ++ caps) fun r => K (.val r) st
      | none => dr = false ∧ wpOpen E f caps (args.toList.map (valOf st)) st K
    | .clo f caps => dr = false ∧ wpDeep E f (args.toList.map (valOf st) ++ caps.map Cap.sv) st K
    | .val (.yld l) =>
      match pvsOf (args.toList.map (valOf st)) with
      | some ps => dr = false ∧ wpYield E l ps st K
      | none => dr = false ∧ freeze st (args.toList.map (valOf st)) fun ps st' => wpYield E l ps st' K
    | _ => False
  | .call { callee := .builtin .append, args, argTypes } =>
    match rowsAt E argTypes.toList with
    | true => dr = false ∧ wpAppR E argTypes.toList (args.toList.map (valOf st)) st K
    | false => Res.go (evalOp E o st) K
  | o => Res.go (evalOp E o st) K

/-- Whether a guarded operation is carried out. -/
def dstOf (ops : List Oper) (j : Nat) : Option Tmp := (ops[j]?).bind (·.dst)

def wpOps (E : Env) (dr : Bool) (ops : List Oper) : List Oper → St → (St → Prop) → Prop
  | [], st, K => K st
  | o :: rest, st, K =>
    match o.guard with
    | none => wpOp E dr o.op st fun v st' => wpOps E dr ops rest (st'.put o.dst v) K
    | some (j, want) =>
      match dstOf ops j with
      | none => False
      | some t =>
        match st.sl.getD t .undef with
        | .undef => wpOps E dr ops rest (st.put o.dst .undef) K
        | .val (.bool b) =>
          (b = want → wpOp E dr o.op (st.put (some t) (.val (.bool want))) fun v st' => wpOps E dr ops rest (st'.put o.dst v) K) ∧
          (b = !want → wpOps E dr ops rest ((st.put (some t) (.val (.bool (!want)))).put o.dst .undef) K)
        | _ => False

/-- Of each of a list. -/
def allL : List Nat → (Nat → Prop) → Prop
  | [], _ => True
  | [i], f => f i
  | i :: r, f => f i ∧ allL r f

theorem allL_get {f : Nat → Prop} : ∀ {l : List Nat}, allL l f → ∀ i ∈ l, f i
  | [], _, i, hi => by cases hi
  | [j], h, i, hi => by rw [List.mem_singleton] at hi; subst hi; exact h
  | j :: k :: r, h, i, hi => by
    rcases List.mem_cons.1 hi with rfl | hi
    · exact h.1
    · exact allL_get h.2 i hi

theorem allL_mono {f g : Nat → Prop} (hk : ∀ i, f i → g i) : ∀ {l : List Nat}, allL l f → allL l g
  | [], _ => trivial
  | [_], h => hk _ h
  | _ :: _ :: _, h => ⟨hk _ h.1, allL_mono hk h.2⟩

/-- A region whose order is drawn, each order for itself. -/
def wpAll (E : Env) (ops : Array Oper) : Nat → Array Bool → St → (St → Prop) → Prop
  | 0, listed, st, K => (match Region.ready .any ops listed with | [] => K st | _ => False)
  | fuel + 1, listed, st, K => (match Region.ready .any ops listed with
    | [] => K st
    | i :: r => allL (i :: r) fun i => (match ops[i]? with
      | none => False
      | some o => wpOps E false ops.toList [o] st fun st' => wpAll E ops fuel (listed.setIfInBounds i true) st' K))

/-- How a region is gone through whose order is drawn: 1: by a look at what may change places; 2: each order for itself ('clo' has a million and its number); 3: cut at operation c ('clo' has also three millions, a hundred times its number and c). -/
inductive DMode where
  | text
  | each
  | cut (c : Nat)

def cutAt (E : Env) (id : Nat) : Nat → Nat → Option Nat
  | 0, _ => none
  | n + 1, c => match E.clo (3000000 + 100 * id + c) with | true => some c | false => cutAt E id n (c + 1)
def drawMode (E : Env) (draw : Bool) (id n : Nat) : DMode :=
  match draw && E.clo (1000000 + id) with
  | false => .text
  | true => match cutAt E id n 0 with | none => .each | some c => .cut c

theorem drawMode_draw {E : Env} {draw : Bool} {id n : Nat} (h : drawMode E draw id n ≠ .text) : draw = true := by
  cases draw with
  | true => rfl
  | false => exact absurd rfl h

end Go.Abs
