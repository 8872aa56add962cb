/-
  The walk as a computation: the same walk, with what is done to data behind a structure of functions, so that evaluation stops there.
-/
import Derived.Test.YthofonhkpilifaaAbs18
namespace Go.Abs
open Go.RowKit

/-- What is done to data. -/
structure Ops where
  iAdd : Int → Int → Int
  iSub : Int → Int → Int
  iMul : Int → Int → Int
  iDiv : Int → Int → Int
  iMod : Int → Int → Int
  iNeg : Int → Int
  iMin : Int → Int → Int
  iMax : Int → Int → Int
  iEq : Int → Int → Bool
  iLt : Int → Int → Bool
  iLe : Int → Int → Bool
  wOp : BinOp → IntKind → Int → Int → Int
  wShl : IntKind → Int → Int → Int
  wShr : Int → Int → Int
  wNot : Int → Int
  wrap : IntKind → Int → Int
  bNot : Bool → Bool
  bAnd : Bool → Bool → Bool
  bEq : Bool → Bool → Bool
  sEq : ByteArray → ByteArray → Bool
  sSize : ByteArray → Int
  sSub : ByteArray → Int → Int → ByteArray
  sByte : ByteArray → Int → Int
  lLen : List PV → Int
  lSub : List PV → Int → Int → List PV
  lApp : List PV → List PV → List PV
  lRep : Int → PV → List PV
  nLen : List PV → Nat
  inR : Int → Prop
  negOk : Int → Prop
  nz : Int → Prop
  within : Int → Int → Prop
  sl : Int → Int → Int → Prop
  room : Nat → Nat → Prop
  mks : Int → Int → Nat → Prop
  tkEq : Nat → Nat → Prop
  idx : List PV → Int → (List PV → Prop) → Prop
  call : FuncId → List PV → (PV → Prop) → Prop
  opn : FuncId → List PV → List SV → St → (SV → St → Prop) → Prop
  frzY : Nat → List SV → St → (SV → St → Prop) → Prop
  appR : List TypeId → List SV → St → (SV → St → Prop) → Prop
  nOff : Nat → Int → Nat → Nat
  deep : FuncId → List SV → St → (SV → St → Prop) → Prop
  iNat : Nat → Int
  nNat : Int → Nat
  rowZ : Int → List PV → List SV
  loop : Nat × Nat → Code → (St → (AX → St → Prop) → Prop) → St → (AX → St → Prop) → Prop
  rng : Nat × Nat → FuncId → List PV → Nat → (List PV → St → (AX → St → Prop) → Prop) → St → (AX → St → Prop) → Prop
  yld : Nat → List PV → St → (SV → St → Prop) → Prop
  rld : TypeId → SV → St → (SV → St → Prop) → Prop
  rst : TypeId → SV → SV → St → (SV → St → Prop) → Prop
  mapOk : Nat → IntKind → Int → Prop
  nS : Nat → Nat
  draw : List Oper → Prop
  cutOk : List Oper → Nat → Prop
  fits : List PV → Nat → Prop

def wBin (op : BinOp) (k : IntKind) (a b : Int) : Int :=
  match op with
  | .and => k.wrap ((BitVec.ofInt k.bits a &&& BitVec.ofInt k.bits b).toNat)
  | .or => k.wrap ((BitVec.ofInt k.bits a ||| BitVec.ofInt k.bits b).toNat)
  | .add => k.wrap (a + b)
  | .sub => k.wrap (a - b)
  | _ => 0

def stdOps (E : Env) : Ops where
  iAdd a b := a + b
  iSub a b := a - b
  iMul a b := a * b
  iDiv a b := a.tdiv b
  iMod a b := a.tmod b
  iNeg a := -a
  iMin a b := min a b
  iMax a b := max a b
  iEq a b := decide (a = b)
  iLt a b := decide (a < b)
  iLe a b := decide (a ≤ b)
  wOp := wBin
  wShl k a b := k.wrap (a * 2 ^ b.toNat)
  wShr a b := a.fdiv (2 ^ b.toNat)
  wNot n := IntKind.u64.wrap (BitVec.ofInt 64 IntKind.u64.max ^^^ BitVec.ofInt 64 n).toNat
  wrap k n := k.wrap n
  bNot b := !b
  bAnd a b := a && b
  bEq a b := decide (a = b)
  sEq a b := decide (a = b)
  sSize s := s.size
  sSub s l h := s.extract l.toNat h.toNat
  sByte s n := (s.data.toList.getD n.toNat 0).toNat
  lLen xs := xs.length
  lSub xs l h := (xs.take h.toNat).drop l.toNat
  lApp xs ys := xs ++ ys
  lRep n p := List.replicate n.toNat p
  nLen xs := xs.length
  inR := inI64
  negOk n := -9223372036854775808 < n ∧ n ≤ 9223372036854775807
  nz b := b ≠ 0
  within n m := 0 ≤ n ∧ n < m
  sl l h n := 0 ≤ l ∧ l ≤ h ∧ h ≤ n
  room n b := n * (b + 1) ≤ 140737488355328
  mks n c b := 0 ≤ n ∧ n = c ∧ n * b ≤ 140737488355328 ∧ n ≤ 140737488355328
  tkEq a b := a = b
  idx xs n K := (0 ≤ n ∧ n < xs.length) ∧ K (xs.getD n.toNat .any).cells
  call f args K := ∃ r, CallsPV E.P f args r ∧ K r
  opn f caps args st K := wpOpen E f caps args st K
  frzY l args st K := freeze st args fun ps st' => wpYield E l ps st' K
  appR := wpAppR E
  nOff off l m := off + l.toNat * m
  deep := wpDeep E
  iNat n := n
  nNat n := n.toNat
  rowZ n z := (List.replicate n.toNat z).flatten.map SV.val
  loop nb _ W st Q := ∃ (I : Nat → St → Prop), (∃ n0 st0, Wk nb st st0 ∧ I n0 st0) ∧
      ∀ n s, I n s → W s fun e s' => match e with | .normal => ∃ n' s'', n' < n ∧ Wk nb s' s'' ∧ I n' s'' | .exit i => Q (.exit i) s' | .ret => Q .ret s'
  rng nb f caps np W st Q := ∃ xs, SeqPV E.P f caps xs ∧ (∀ x ∈ xs, x.length = np) ∧ ∃ (I : Nat → St → Prop) (s0 : St), Wk nb st s0 ∧ I 0 s0 ∧ (∀ k s, I k s → s.sl = s0.sl) ∧
        (∀ k s x, xs[k]? = some x → I k s → W x s fun e s2 => match e with
          | .normal => ∃ s3, Wk s.nbs (s2.withSl s0.sl) s3 ∧ I (k + 1) s3
          | .exit i => Q (.exit i) (s2.withSl s0.sl)
          | .ret => Q .ret (s2.withSl s0.sl)) ∧
        (∀ s, I xs.length s → Q .normal s)
  yld l args st K := wpYield E l args st K
  rld t x st K := Res.go (opLoad E t x.norm st) K
  rst t x v st K := Res.go (opStore E t x.norm v st) K
  mapOk n k a := n < 9223372036854775807 ∧ inKind k a
  nS n := n + 1
  draw ops := anyOk E.rm ops = true
  cutOk ops c := cutOk E.rm ops c = true
  fits cs n := n ≤ cs.length

/-- Two ways, one of which is gone. -/
def way (b : Bool) (X Y : Unit → Prop) : Prop := match b with | true => X () | false => Y ()

section
variable (A : Ops) (E : Env)

def opPick' (c a b : SV) (st : St) : Option Res :=
  match c with
  | .val (.bool t) => match t with | true => some ⟨True, a, st⟩ | false => some ⟨True, b, st⟩
  | _ => none

/-- A cell, out of cells that are written out. -/
def cellAt : List PV → Nat → Option PV
  | [], _ => none
  | x :: _, 0 => some x
  | _ :: r, n + 1 => cellAt r n
def cellsAt : List PV → Nat → Nat → Option (List PV)
  | cs, 0, n => if n ≤ cs.length then some (cs.take n) else none
  | [], _ + 1, _ => none
  | _ :: r, o + 1, n => cellsAt r o n

def opLoad' (t : TypeId) (x : SV) (st : St) : Option Res :=
  match x with
  | .val (.ptr cs off) =>
    if (E.T t).agg then (match cellsAt cs off (E.T t).size with | some l => some ⟨True, .val (.agg l), st⟩ | none => none)
    else if (E.T t).size = 1 then (match cellAt cs off with | some p => some ⟨True, .val p, st⟩ | none => none) else none
  | x => opLoad E t x st

def opMakeSlice' (t : TypeId) (len cap : SV) (st : St) : Option Res :=
  match (E.T t).k, len, cap with
  | .slice e, .val (.int _ n), .val (.int _ c) =>
    if (E.T e).zero.length = (E.T e).size ∧ 0 < (E.T e).size then
      if E.rows then some ⟨A.mks n c (E.T e).bytes, .msl st.bx.length 0 (A.nNat n), st.newBx (A.rowZ n (E.T e).zero)⟩ else
      some ⟨A.mks n c (E.T e).bytes, .lit (E.T e).size (A.lRep n (PV.ofCells (E.T e) (E.T e).zero)), st⟩
    else none
  | _, _, _ => none

def bound' (o : Option SV) (d : Int) : Option Int :=
  match o with
  | none => some d
  | some (.val (.int _ n)) => some n
  | _ => none

def opSliceRow' (t : TypeId) (id off m len cap : Nat) (lo hi mx : Option SV) (st : St) : Option Res :=
  match mx, (E.T t).k with
  | none, .slice e =>
    if m = (E.T e).size ∧ m ≠ 0 then
      match lo, bound' hi (A.iNat len) with
      | none, some h => some ⟨A.sl 0 h (A.iNat len), .row id off m (A.nNat h) cap, st⟩
      | some (.val (.int _ l)), some h => some ⟨A.sl l h (A.iNat len) ∧ A.within l (A.iNat cap), .row id (A.nOff off l m) m (A.nNat (A.iSub h l)) (A.nNat (A.iSub (A.iNat cap) l)), st⟩
      | _, _ => none
    else none
  | _, _ => none

def opIndexAddr' (t : TypeId) (x i : SV) (st : St) : Option Res :=
  match E.rows with
  | false => opIndexAddr E t x i st
  | true =>
    match intOfSV i with
    | none => none
    | some (_, n) =>
      match (E.T t).k, x with
      | .slice e, .msl id off len => if (E.T e).size = 0 then none else some ⟨A.within n (A.iNat len), .rbx id off (A.nNat n) (E.T e).size 0, st⟩
      | .slice e, .row id off _ len _ => if (E.T e).size = 0 then none else some ⟨A.within n (A.iNat len), .rbx id off (A.nNat n) (E.T e).size 0, st⟩
      | .array cnt e, .box id off => if (E.T e).size = 0 then none else some ⟨A.within n (A.iNat cnt), .rbx id off (A.nNat n) (E.T e).size 0, st⟩
      | _, .msl _ _ _ => none
      | _, .row _ _ _ _ _ => none
      | _, .box _ _ => none
      | _, x => opIndexAddr E t x i st

def opMapUpdate' (t : TypeId) (m x v : SV) (st : St) : Option Res :=
  match m, x, v with
  | .mp id, .val (.int kk a), .val (.bool _) =>
    match st.ax.mp[id]?, (E.T t).k with
    | some (.plain k e n), .map k' e' =>
      match (E.T k).k, (E.T e).k with
      | .int kk', .bool => if k = k' ∧ e = e' ∧ kk = kk' then some ⟨A.mapOk n kk a, .undef, { st with ax := { st.ax with mp := st.ax.mp.set id (.plain k e (A.nS n)) } }⟩ else none
      | _, _ => none
    | _, _ => none
  | _, _, _ => none

def isNilL : List PV → Bool
  | [] => true
  | _ => false

def opSlice' (t : TypeId) (x : SV) (lo hi mx : Option SV) (st : St) : Option Res :=
  match mx, (E.T t).k with
  | none, .slice e =>
    match x.elems with
    | some (m, xs) =>
      if m = (E.T e).size ∧ (E.T e).size ≠ 0 then
        match bound' lo 0, bound' hi (A.lLen xs) with
        | some l, some h => some ⟨A.sl l h (A.lLen xs), .val (.list m (A.lSub xs l h)), st⟩
        | _, _ => none
      else none
    | none => none
  | none, .str =>
    match x with
    | .val (.str s) =>
      match bound' lo 0, bound' hi (A.sSize s) with
      | some l, some h => some ⟨A.sl l h (A.sSize s), .val (.str (A.sSub s l h)), st⟩
      | _, _ => none
    | _ => none
  | _, _ => none

def opSliceArr' (t : TypeId) (id off : Nat) (lo hi mx : Option SV) (st : St) : Option Res :=
  match (E.T t).k, lo with
  | .array n e, none =>
    if (E.T e).size ≠ 0 ∧ n ≤ 9223372036854775807 then
      match hi, mx with
      | some (.val (.int _ h)), some (.val (.int _ m)) => some ⟨A.sl 0 h m ∧ A.sl 0 m (A.iNat n), .msl id off (A.nNat h), st⟩
      | some (.val (.int _ h)), none => some ⟨A.sl 0 h (A.iNat n), .msl id off (A.nNat h), st⟩
      | none, none => some ⟨True, .msl id off n, st⟩
      | _, _ => none
    else none
  | _, _ => none

def opIndex' (t : TypeId) (x i : SV) (st : St) : Option Res :=
  match intOfSV i, (E.T t).k, x with
  | some (_, n), .str, .val (.str s) => some ⟨A.within n (A.sSize s), .val (.int .u8 (A.sByte s n)), st⟩
  | _, _, _ => none

def opUn' (op : UnOp) (x : SV) (st : St) : Option Res :=
  match op, x with
  | .not, .val (.bool b) => some ⟨True, .val (.bool (A.bNot b)), st⟩
  | .neg, .val (.int .i64 n) => some ⟨A.negOk n, .val (.int .i64 (A.iNeg n)), st⟩
  | .xor, .val (.int .u64 n) => some ⟨True, .val (.int .u64 (A.wNot n)), st⟩
  | _, _ => none

def opConvert' (src dst : TypeId) (x : SV) (st : St) : Option Res :=
  match (E.T src).k, (E.T dst).k, x with
  | .int k, .int k', .val (.int k'' n) => if k = k' ∧ k'' = k ∧ k = .i64 then some ⟨A.inR n, .val (.int k n), st⟩ else some ⟨True, .val (.int k' (A.wrap k' n)), st⟩
  | .str, .str, .val (.str s) => some ⟨True, .val (.str s), st⟩
  | _, _, _ => none

def arithI64' (op : BinOp) (a b : Int) : Option (Prop × PV) :=
  match op with
  | .add => some (A.inR (A.iAdd a b), .int .i64 (A.iAdd a b))
  | .sub => some (A.inR (A.iSub a b), .int .i64 (A.iSub a b))
  | .mul => some (A.inR (A.iMul a b), .int .i64 (A.iMul a b))
  | .quo => some (A.nz b ∧ A.inR (A.iDiv a b), .int .i64 (A.iDiv a b))
  | .rem => some (A.nz b, .int .i64 (A.iMod a b))
  | .eql => some (True, .bool (A.iEq a b))
  | .neq => some (True, .bool (A.bNot (A.iEq a b)))
  | .lss => some (True, .bool (A.iLt a b))
  | .leq => some (True, .bool (A.iLe a b))
  | .gtr => some (True, .bool (A.iLt b a))
  | .geq => some (True, .bool (A.iLe b a))
  | _ => none

def arithOther' (op : BinOp) (k : IntKind) (a b : Int) : Option (Prop × PV) :=
  match op with
  | .and => some (True, .int k (A.wOp .and k a b))
  | .or => some (True, .int k (A.wOp .or k a b))
  | .add => some (True, .int k (A.wOp .add k a b))
  | .sub => some (True, .int k (A.wOp .sub k a b))
  | .eql => some (True, .bool (A.iEq a b))
  | .neq => some (True, .bool (A.bNot (A.iEq a b)))
  | .lss => some (True, .bool (A.iLt a b))
  | .leq => some (True, .bool (A.iLe a b))
  | .gtr => some (True, .bool (A.iLt b a))
  | .geq => some (True, .bool (A.iLe b a))
  | _ => none

def eqPV' : SK → PV → PV → Option Bool
  | .int, .int k a, .int k' b => if k = k' then some (A.iEq a b) else none
  | .bool, .bool a, .bool b => some (A.bEq a b)
  | .str, .str a, .str b => some (A.sEq a b)
  | _, _, _ => none

def eqCells' : List SK → List PV → List PV → Option Bool
  | [], [], [] => some true
  | k :: ks, x :: xs, y :: ys => match eqPV' A k x y, eqCells' ks xs ys with | some a, some b => some (A.bAnd a b) | _, _ => none
  | _, _, _ => none

def opBin' (op : BinOp) (t : TypeId) (x y : SV) (st : St) : Option Res :=
  match x, y with
  | .val (.int k a), .val (.int k' b) =>
    match op with
    | .shl => some ⟨A.within b k.bits, .val (.int k (A.wShl k a b)), st⟩
    | .shr => some ⟨A.within b k.bits, .val (.int k (A.wShr a b)), st⟩
    | op =>
      if k = k' then
        match (if k = .i64 then arithI64' A op a b else arithOther' A op k a b) with
        | some (s, p) => some ⟨s, .val p, st⟩
        | none => none
      else none
  | .val (.bool a), .val (.bool b) =>
    match (E.T t).k, op with
    | .bool, .eql => some ⟨True, .val (.bool (A.bEq a b)), st⟩
    | .bool, .neq => some ⟨True, .val (.bool (A.bNot (A.bEq a b))), st⟩
    | _, _ => none
  | .val (.str a), .val (.str b) =>
    match op with
    | .eql => some ⟨True, .val (.bool (A.sEq a b)), st⟩
    | .neq => some ⟨True, .val (.bool (A.bNot (A.sEq a b))), st⟩
    | _ => none
  | .val (.agg a), .val (.agg b) =>
    match (E.T t).eq with
    | none => none
    | some ks =>
      match eqCells' A ks a b, op with
      | some r, .eql => some ⟨True, .val (.bool r), st⟩
      | some r, .neq => some ⟨True, .val (.bool (A.bNot r)), st⟩
      | _, _ => none
  | _, _ => none

def opLen' (t : TypeId) (x : SV) (st : St) : Option Res :=
  match (E.T t).k, x with
  | .str, .val (.str s) => some ⟨True, .val (.int .i64 (A.sSize s)), st⟩
  | .slice _, .msl _ _ n => some ⟨True, .val (.int .i64 (A.iNat n)), st⟩
  | .slice _, .row _ _ _ n _ => some ⟨True, .val (.int .i64 (A.iNat n)), st⟩
  | .slice _, x => match x.elems with | some (_, xs) => some ⟨True, .val (.int .i64 (A.lLen xs)), st⟩ | none => none
  | .array n _, _ => some ⟨True, .val (.int .i64 (A.iNat n)), st⟩
  | _, _ => none

def opAppend' (t : TypeId) (s y : SV) (st : St) : Option Res :=
  match (E.T t).k, y.elems with
  | .slice e, some (m', ys) =>
    if m' = (E.T e).size ∧ 0 < (E.T e).size ∧ (E.T e).zero.length = (E.T e).size then
      match s with
      | .lit m xs =>
        if m = (E.T e).size then
          some ⟨A.room (A.nLen (A.lApp xs ys)) (E.T e).bytes, .own st.tk.length (E.T e).size (A.lApp xs ys), { st with tk := st.tk ++ [(A.nLen (A.lApp xs ys), e)] }⟩
        else if m = 0 ∧ isNilL xs = true then
          some ⟨A.room (A.nLen ys) (E.T e).bytes, .own st.tk.length (E.T e).size ys, { st with tk := st.tk ++ [(A.nLen ys, e)] }⟩
        else none
      | .own k m xs =>
        if m = (E.T e).size ∧ ((st.tk.getD k (0, 0)).2 = e) ∧ k < st.tk.length then
          some ⟨A.tkEq (st.tk.getD k (0, 0)).1 (A.nLen xs) ∧ A.room (A.nLen (A.lApp xs ys)) (E.T e).bytes, .own k (E.T e).size (A.lApp xs ys), { st with tk := st.tk.set k (A.nLen (A.lApp xs ys), e) }⟩
        else none
      | _ => none
    else none
  | _, _ => none

def opMinMax' (mn : Bool) (xs : List SV) (st : St) : Option Res :=
  match xs with
  | [.val (.int .i64 a), .val (.int .i64 b)] => some ⟨True, .val (.int .i64 (if mn then A.iMin a b else A.iMax a b)), st⟩
  | _ => none

def opBuiltin' (b : Builtin) (ts : List TypeId) (xs : List SV) (st : St) : Option Res :=
  match b, ts, xs with
  | .len, [t], [x] => opLen' A E t x st
  | .append, [t, t'], [s, y] => if t = t' then opAppend' A E t s y st else none
  | .min, _, xs => opMinMax' A true xs st
  | .max, _, xs => opMinMax' A false xs st
  | _, _, _ => none

def evalOp' (o : Op) (st : St) : Option Res :=
  match o with
  | .pick c a b => opPick' (valOf st c) (valOf st a) (valOf st b) st
  | .load t a => opLoad' E t (valOf st a) st
  | .binOp op t x y _ => opBin' A E op t (valOf st x) (valOf st y) st
  | .unOp op _ x => opUn' A op (valOf st x) st
  | .convert s d x => opConvert' A E s d (valOf st x) st
  | .makeSlice t l c => opMakeSlice' A E t (valOf st l) (valOf st c) st
  | .slice t x lo hi mx => (match valOf st x with | .box id off => opSliceArr' A E t id off (lo.map (valOf st)) (hi.map (valOf st)) (mx.map (valOf st)) st | .row id off m len cap => opSliceRow' A E t id off m len cap (lo.map (valOf st)) (hi.map (valOf st)) (mx.map (valOf st)) st | x => opSlice' A E t x (lo.map (valOf st)) (hi.map (valOf st)) (mx.map (valOf st)) st)
  | .index t x i => opIndex' A E t (valOf st x) (valOf st i) st
  | .call { callee := .builtin b, args, argTypes } => opBuiltin' A E b argTypes.toList (args.toList.map (valOf st)) st
  | .indexAddr t x i =>
    (match valOf st x with
    | .msl id off len => opIndexAddr' A E t (.msl id off len) (valOf st i) st
    | .row id off m len cap => opIndexAddr' A E t (.row id off m len cap) (valOf st i) st
    | .val (.ptr cs off) => opIndexAddr' A E t (.val (.ptr cs off)) (valOf st i) st
    | .box id off => opIndexAddr' A E t (.box id off) (valOf st i) st
    | _ => none)
  | .move x => some ⟨True, valOf st x, st⟩
  | .assign x => some ⟨True, valOf st x, st⟩
  | .alloc t => opAlloc E t st
  | .box t x => opBox E t (valOf st x) st
  | .build t parts => opBuild E t (parts.toList.map fun p => (p.1, valOf st p.2)) st
  | .buildSlice t n parts => opBuildSlice E t n (parts.toList.map fun p => (p.1, valOf st p.2)) st
  | .store t a x => opStore E t (valOf st a) (valOf st x) st
  | .nilCheck x => (match valOf st x with | .val (.ptr cs o) => some ⟨True, .val (.ptr cs o), st⟩ | .box id o => some ⟨True, .box id o, st⟩ | .val (.fn f cs) => some ⟨True, .val (.fn f cs), st⟩ | .clo f cs => some ⟨True, .clo f cs, st⟩ | .rbx a b c d e => some ⟨True, .rbx a b c d e, st⟩ | .val (.yld l) => some ⟨True, .val (.yld l), st⟩ | _ => none)
  | .makeFunc fn first cap => opMakeFunc E fn (first.toList.map (valOf st)) (cap.toList.map (valOf st)) st
  | .fieldAddr s x f => opFieldAddr E s (valOf st x) f st
  | .field t x f => opField E t (valOf st x) f st
  | .extract x i => opExtract (valOf st x) i st
  | .makeMap t r => opMakeMap E t r st
  | .mapUpdate t m x v => opMapUpdate' A E t (valOf st m) (valOf st x) (valOf st v) st
  | _ => none

/-- The address of an element. -/
def wpIdx (t : TypeId) (x i : SV) (st : St) (K : SV → St → Prop) : Prop :=
  match (E.T t).k, x.elems, intOfSV i with
  | .slice e, some (m, xs), some (_, n) => if m = (E.T e).size ∧ (E.T e).size ≠ 0 then A.idx xs n fun cs => K (.val (.ptr cs 0)) st else False
  | _, _, _ => False

def go' (r : Option Res) (K : SV → St → Prop) : Prop :=
  match r with
  | some r => r.side ∧ K r.v r.st
  | none => False

def wpOp' (dr : Bool) (o : Op) (st : St) (K : SV → St → Prop) : Prop :=
  match o with
  | .call { callee := .value x, args, .. } =>
    match valOf st x with
    | .val (.fn f caps) =>
      match pvsOf (args.toList.map (valOf st)) with
      | some l => A.call f (l ++ caps) fun r => K (.val r) st
      | none => match dr with | true => False | false => A.opn f caps (args.toList.map (valOf st)) st K
    | .clo f caps => match dr with | true => False | false => A.deep f (args.toList.map (valOf st) ++ caps.map Cap.sv) st K
    | .val (.yld l) =>
      match pvsOf (args.toList.map (valOf st)) with
      | some ps => match dr with | true => False | false => A.yld l ps st K
      | none => match dr with | true => False | false => A.frzY l (args.toList.map (valOf st)) st K
    | _ => False
  | .call { callee := .builtin .append, args, argTypes } =>
    match rowsAt E argTypes.toList with
    | true => match dr with | true => False | false => A.appR argTypes.toList (args.toList.map (valOf st)) st K
    | false => go' (evalOp' A E o st) K
  | .load t a =>
    match valOf st a with
    | .rbx id off i m k => A.rld t (.rbx id off i m k) st K
    | _ => go' (evalOp' A E o st) K
  | .store t a x =>
    match valOf st a with
    | .rbx id off i m k => A.rst t (.rbx id off i m k) (valOf st x) st K
    | _ => go' (evalOp' A E o st) K
  | .indexAddr t x i =>
    match valOf st x with
    | .val (.list m xs) => wpIdx A E t (.val (.list m xs)) (valOf st i) st K
    | .lit m xs => wpIdx A E t (.lit m xs) (valOf st i) st K
    | .own k m xs => wpIdx A E t (.own k m xs) (valOf st i) st K
    | _ => go' (evalOp' A E o st) K
  | o => go' (evalOp' A E o st) K

def wpOps' (dr : Bool) (ops : List Oper) : List Oper → St → (St → Prop) → Prop
  | [], st, K => K st
  | o :: rest, st, K =>
    match o.guard with
    | none => wpOp' A E dr o.op st fun v st' => wpOps' dr ops rest (st'.put o.dst v) K
    | some (j, want) =>
      match dstOf ops j with
      | none => False
      | some t =>
        match st.sl.getD t .undef with
        | .undef => wpOps' dr ops rest (st.put o.dst .undef) K
        | .val (.bool b) =>
          match want with
          | true => way b (fun _ => wpOp' A E dr o.op (st.put (some t) (.val (.bool true))) fun v st' => wpOps' dr ops rest (st'.put o.dst v) K)
              (fun _ => wpOps' dr ops rest ((st.put (some t) (.val (.bool false))).put o.dst .undef) K)
          | false => way b (fun _ => wpOps' dr ops rest ((st.put (some t) (.val (.bool true))).put o.dst .undef) K)
              (fun _ => wpOp' A E dr o.op (st.put (some t) (.val (.bool false))) fun v st' => wpOps' dr ops rest (st'.put o.dst v) K)
        | _ => False

def wpAll' (ops : Array Oper) : Nat → Array Bool → St → (St → Prop) → Prop
  | 0, listed, st, K => (match Region.ready .any ops listed with | [] => K st | _ => False)
  | fuel + 1, listed, st, K => (match Region.ready .any ops listed with
    | [] => K st
    | i :: r => allL (i :: r) fun i => (match ops[i]? with
      | none => False
      | some o => wpOps' A E false ops.toList [o] st fun st' => wpAll' ops fuel (listed.setIfInBounds i true) st' K))

def wpC' : Code → Nat × Nat → St → (AX → St → Prop) → Prop
  | .skip, _, st, Q => Q .normal st
  | .region id ops draw, _, st, Q => match drawMode E draw id ops.size with
    | .each => wpAll' A E ops ops.size (Array.replicate ops.size false) st (Q .normal)
    | .cut c => A.cutOk ops.toList c ∧ wpOps' A E true (ops.toList.take c) (ops.toList.take c) st fun s =>
      (match ops[c]? with
      | none => False
      | some o => wpOps' A E false ops.toList [o] s fun s' => wpAll' A E ops (ops.size - (c + 1)) (listedTo (c + 1) ops.size) s' (Q .normal))
    | .text => (match draw with | true => A.draw ops.toList | false => True) ∧ wpOps' A E draw ops.toList ops.toList st (Q .normal)
  | .seq a b, nb, st, Q => wpC' a nb st fun e st' => match e with | .normal => wpC' b nb st' Q | .exit i => Q (.exit i) st' | .ret => Q .ret st'
  | .cond c a b, nb, st, Q =>
    match valOf st c with
    | .val (.bool t) => way t (fun _ => wpC' a nb st Q) (fun _ => wpC' b nb st Q)
    | _ => False
  | .block id body, nb, st, Q => wpC' body nb st fun e st' => match e with | .normal => Q .normal st' | .exit i => if i = id then Q .normal st' else Q (.exit i) st' | .ret => Q .ret st'
  | .loop body, nb, st, Q => A.loop nb body (fun s Q' => wpC' body nb s Q') st Q
  | .rangeFunc g ps asg body, nb, st, Q =>
    match valOf st g with
    | .val (.fn f caps) => A.rng nb f caps ps.toList.length (fun x s Q' => wpC' asg s.nbs (s.params ps.toList x) fun e s1 => match e with | .normal => wpC' body s1.nbs s1 Q' | _ => False) st Q
    | _ => False
  | .exit id, _, st, Q => Q (.exit id) st
  | .ret, _, st, Q => Q .ret st
  | .label _, _, st, Q => Q .normal st
  | _, _, _, _ => False

end
end Go.Abs
