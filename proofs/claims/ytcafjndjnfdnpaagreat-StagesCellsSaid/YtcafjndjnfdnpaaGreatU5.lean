/- Contracts of the functions, and what they rest on: part 5. -/
import Derived.Test.YtcafjndjnfdnpaaGreatU4
set_option linter.unusedVariables false
set_option linter.unusedSimpArgs false

/-
 The table of types,read off the program;that it agrees.
-/
namespace Go.Abs
open Go.RowKit
def tkOf:TypeDesc→TK
 | .int k=>.int k
 | .bool=>.bool
 | .string=>.str
 | .slice e=>.slice e
 | .struct F=>.struct (F.toList.map fun f=>(f.offset,f.type))
 | .array n e=>.array n e
 | .pointer e=>.ptr e
 | .map k e=>.map k e
 | .func ..=>.func
 | _=>.other
def zeroFits (i:TypeInfo) (z:Value) (u:TypeDesc):Bool :=
 z.cells.toList.all Value.oneCell'&&(z.cells.size == i.size)&&(if isAggD u then (match z with | .agg _=>true | _=>false) else z.oneCell')
def eqOf (P:Program) (t:TypeId):TypeDesc→Option (List SK)
 | .struct _=>if P.eqGuardType P.depth t then none else flatK P 20 t
 | _=>none
def tdOf (P:Program) (t:TypeId):TD :=
 match P.underlying t with
 | none=>default
 | some u =>
  match P.info? t with
  | none=>⟨tkOf u,0,0,false,eqOf P t u,[]⟩
  | some i =>
   match i.zero with
   | none=>⟨tkOf u,0,0,false,eqOf P t u,[]⟩
   | some z=>if zeroFits i z u then ⟨tkOf u,i.size,i.bytes,isAggD u,eqOf P t u,z.cells.toList.map constPV⟩ else ⟨tkOf u,0,0,false,eqOf P t u,[]⟩
theorem kok_of {P:Program} {t:TypeId} {u:TypeDesc} (h:P.underlying t=some u):KOk P t (tkOf u):=by
 cases u<;>first | exact h | exact ⟨_,h,rfl⟩ | trivial
theorem tdOf_ok (P:Program) (t:TypeId):TDOk P (tdOf P) t:=by
 have hk:KOk P t (tdOf P t).k:=by
  unfold tdOf
  cases h:P.underlying t with
  | none=>exact trivial
  | some u =>
   simp only
   repeat' split
   all_goals exact kok_of h
 refine ⟨hk,fun h=>?_,fun ks h=>?_⟩
 ·have hx:∃u i z,P.underlying t=some u∧P.info? t=some i∧i.zero=some z∧zeroFits i z u=true:=by
   unfold tdOf at h
   cases hu:P.underlying t with
   | none=>rw [hu] at h;rcases h with h | h<;>simp [default] at h
   | some u =>
    rw [hu] at h
    simp only at h
    cases hi:P.info? t with
    | none=>rw [hi] at h;rcases h with h | h<;>simp at h
    | some i =>
     rw [hi] at h
     simp only at h
     cases hz:i.zero with
     | none=>rw [hz] at h;rcases h with h | h<;>simp at h
     | some z =>
      rw [hz] at h
      simp only at h
      by_cases hf:zeroFits i z u=true
      ·exact ⟨u,i,z,rfl,rfl,hz,hf⟩
      ·rw [if_neg hf] at h
       rcases h with h | h<;>simp at h
  obtain ⟨u,i,z,hu,hi,hz,hf⟩:=hx
  have e:∃eq,tdOf P t=⟨tkOf u,i.size,i.bytes,isAggD u,eq,z.cells.toList.map constPV⟩:=by
   unfold tdOf
   rw [hu]
   simp only [hi]
   rw [hz]
   simp only [hf,if_true]
   exact ⟨_,rfl⟩
  obtain ⟨eq,e⟩:=e
  rw [e]
  simp only [zeroFits,Bool.and_eq_true,beq_iff_eq] at hf
  obtain ⟨⟨h1,h2⟩,h3⟩:=hf
  refine ⟨i,z,u,hi,rfl,rfl,hz,rfl,fun v hv=>List.all_eq_true.1 h1 v hv,h2,?_,hu,rfl⟩
  show (if isAggD u=true then _ else _)
  split at h3
  ·rename_i ha
   rw [if_pos ha]
   split at h3
   ·exact ⟨_,rfl⟩
   ·cases h3
  ·rename_i ha
   rw [if_neg ha]
   exact h3
 ·unfold tdOf at h
  cases hu:P.underlying t with
  | none=>rw [hu] at h;simp [default] at h
  | some u =>
   rw [hu] at h
   simp only at h
   have he:eqOf P t u=some ks:=by
    repeat' split at h
    all_goals exact h
   unfold eqOf at he
   split at he
   ·rename_i F
    split at he
    ·cases he
    ·rename_i hg
     exact ⟨20,by omega,he,by simpa using hg,F,rfl⟩
   ·cases he
theorem td_default (P:Program) (T:TypeId→TD) (t:TypeId) (h:T t=default):TDOk P T t:=by
 refine ⟨by rw [h];exact trivial,fun h'=>?_,fun ks h'=>?_⟩
 ·rw [h] at h';rcases h' with h' | h'<;>simp [default] at h'
 ·rw [h] at h';simp [default] at h'
theorem td_same {P:Program} {T T':TypeId→TD} {t:TypeId} (e:T t=T' t) (h:TDOk P T' t):TDOk P T t :=
 ⟨by rw [e];exact h.k,by rw [e];exact h.info,by rw [e];exact h.eq⟩
theorem envOk_tab {P:Program} {T:TypeId→TD} (clo:FuncId→Bool) (rows:Bool) (n:Nat) (h:(List.range n).map T=(List.range n).map (tdOf P)) (hd:∀t,n≤t→T t=default) (hm:P.follows .mixedOrders=true):EnvOk ⟨P,T,clo,rows,.none⟩:=by
 refine ⟨fun t=>?_,hm,fun r n k k1 ps vs F S w h=>by have:=nxOf_mem h;simp [YS.none] at this⟩
 rcases Nat.lt_or_ge t n with ht | ht
 ·have e:=congrArg (fun l=>l[t]?) h
  simp only [List.getElem?_map,List.getElem?_range ht,Option.map_some,Option.some.injEq] at e
  exact td_same e (tdOf_ok P t)
 ·exact td_default P T t (hd t ht)
end Go.Abs
/-
  The walk as a computation: the same walk, with what is done to data behind a structure of functions, so that evaluation stops there.
-/
namespace Go.Abs
open Go.RowKit
structure Ops where
 iAdd:Int→Int→Int
 iSub:Int→Int→Int
 iMul:Int→Int→Int
 iDiv:Int→Int→Int
 iMod:Int→Int→Int
 iNeg:Int→Int
 iMin:Int→Int→Int
 iMax:Int→Int→Int
 iEq:Int→Int→Bool
 iLt:Int→Int→Bool
 iLe:Int→Int→Bool
 wOp:BinOp→IntKind→Int→Int→Int
 wShl:IntKind→Int→Int→Int
 wShr:Int→Int→Int
 wNot:Int→Int
 wrap:IntKind→Int→Int
 bNot:Bool→Bool
 bAnd:Bool→Bool→Bool
 bEq:Bool→Bool→Bool
 sEq:ByteArray→ByteArray→Bool
 sSize:ByteArray→Int
 sSub:ByteArray→Int→Int→ByteArray
 sByte:ByteArray→Int→Int
 lLen:List PV→Int
 lSub:List PV→Int→Int→List PV
 lApp:List PV→List PV→List PV
 lRep:Int→PV→List PV
 nLen:List PV→Nat
 inR:Int→Prop
 negOk:Int→Prop
 nz:Int→Prop
 within:Int→Int→Prop
 sl:Int→Int→Int→Prop
 room:Nat→Nat→Prop
 mks:Int→Int→Nat→Prop
 tkEq:Nat→Nat→Prop
 idx:List PV→Int→(List PV→Prop)→Prop
 call:FuncId→List PV→(PV→Prop)→Prop
 opn:FuncId→List PV→List SV→St→(SV→St→Prop)→Prop
 frzY:Nat→List SV→St→(SV→St→Prop)→Prop
 appR:List TypeId→List SV→St→(SV→St→Prop)→Prop
 nOff:Nat→Int→Nat→Nat
 deep:FuncId→List SV→St→(SV→St→Prop)→Prop
 iNat:Nat→Int
 nNat:Int→Nat
 rowZ:Int→List PV→List SV
 loop:Nat × Nat→Code→(St→(AX→St→Prop)→Prop)→St→(AX→St→Prop)→Prop
 rng:Nat × Nat→FuncId→List PV→Nat→(List PV→St→(AX→St→Prop)→Prop)→St→(AX→St→Prop)→Prop
 yld:Nat→List PV→St→(SV→St→Prop)→Prop
 rld:TypeId→SV→St→(SV→St→Prop)→Prop
 rst:TypeId→SV→SV→St→(SV→St→Prop)→Prop
 alc:TypeId→St→(SV→St→Prop)→Prop
 bxo:TypeId→SV→St→(SV→St→Prop)→Prop
 mapOk:Nat→IntKind→Int→Prop
 nS:Nat→Nat
 draw:List Oper→Prop
 cutOk:List Oper→Nat→Prop
 fits:List PV→Nat→Prop
 tkAt:List (Nat × TypeId)→Nat→TypeId→Nat→Prop
 tkPut:List (Nat × TypeId)→Nat→Nat × TypeId→List (Nat × TypeId)
 kOk:Bool→List SK→List (PV × PV)→PV→Prop
 look:List (PV × PV)→PV→PV→(PV→Bool→Prop)→Prop
 ePut:List (PV × PV)→PV→PV→List (PV × PV)
 eEnt:List (PV × PV)→PV→PV→List (PV × PV)
 eDel:List (PV × PV)→PV→List (PV × PV)
 eLen:List (PV × PV)→Int
 eHas:List (PV × PV)→PV→Prop
 eKeys:List (PV × PV)→List PV
 eZip:List PV→List PV→List (PV × PV)
 ent:List (PV × PV)→PV→(PV→Prop)→Prop
 nxt:List PV→List (PV × PV)→(Unit→Prop)→(PV→PV→Prop)→Prop
 ment:(Int→Prop)→Prop
 same:Int→Int→Prop
 lDrop:List PV→PV→List PV
 cDrop:Option PV→PV→Option PV
def wBin (op:BinOp) (k:IntKind) (a b:Int):Int :=
 match op with
 | .and=>k.wrap ((BitVec.ofInt k.bits a &&& BitVec.ofInt k.bits b).toNat)
 | .or=>k.wrap ((BitVec.ofInt k.bits a ||| BitVec.ofInt k.bits b).toNat)
 | .add=>k.wrap (a+b)
 | .sub=>k.wrap (a - b)
 | _=>0
def stdOps (E:Env):Ops where
 iAdd a b:=a+b
 iSub a b:=a - b
 iMul a b:=a*b
 iDiv a b:=a.tdiv b
 iMod a b:=a.tmod b
 iNeg a:=-a
 iMin a b:=min a b
 iMax a b:=max a b
 iEq a b:=decide (a=b)
 iLt a b:=decide (a<b)
 iLe a b:=decide (a≤b)
 wOp:=wBin
 wShl k a b:=k.wrap (a*2 ^ b.toNat)
 wShr a b:=a.fdiv (2 ^ b.toNat)
 wNot n:=IntKind.u64.wrap (BitVec.ofInt 64 IntKind.u64.max ^^^ BitVec.ofInt 64 n).toNat
 wrap k n:=k.wrap n
 bNot b:=!b
 bAnd a b:=a&&b
 bEq a b:=decide (a=b)
 sEq a b:=decide (a=b)
 sSize s:=s.size
 sSub s l h:=s.extract l.toNat h.toNat
 sByte s n:=(s.data.toList.getD n.toNat 0).toNat
 lLen xs:=xs.length
 lSub xs l h:=(xs.take h.toNat).drop l.toNat
 lApp xs ys:=xs++ys
 lRep n p:=List.replicate n.toNat p
 nLen xs:=xs.length
 inR:=inI64
 negOk n:=-9223372036854775808<n∧n≤9223372036854775807
 nz b:=b≠0
 within n m:=0≤n∧n<m
 sl l h n:=0≤l∧l≤h∧h≤n
 room n b:=n*(b+1)≤140737488355328
 mks n c b:=0≤n∧n=c∧n*b≤140737488355328∧n≤140737488355328
 tkEq a b:=a=b
 idx xs n K:=(0≤n∧n<xs.length)∧K (xs.getD n.toNat .any).cells
 call f args K:=∃r,CallsPV E.P f args r∧K r
 opn f caps args st K:=wpOpen E f caps args st K
 frzY l args st K:=freeze st args fun ps st'=>wpYield E l ps st' K
 appR:=wpAppR E
 nOff off l m:=off+l.toNat*m
 deep:=wpDeep E
 iNat n:=n
 nNat n:=n.toNat
 rowZ n z:=(List.replicate n.toNat z).flatten.map SV.val
 loop nb _ W st Q:=∃(I:Nat→St→Prop),(∃n0 st0,Wk nb st st0∧I n0 st0) ∧
   ∀n s,I n s→W s fun e s'=>match e with | .normal=>∃n' s'',n'<n∧Wk nb s' s''∧I n' s'' | .exit i=>Q (.exit i) s' | .ret=>Q .ret s'
 rng nb f caps np W st Q:=∃xs an,SeqG E.P f caps xs an∧(∀x∈xs,x.length=np)∧∃(I:Nat→St→Prop) (s0:St),Wk nb st s0∧I 0 s0∧(∀k s,I k s→s.sl=s0.sl) ∧
    (∀k k1 s x,nxOf an xs k x k1→I k s→W x s fun e s2=>match e with
     | .normal=>∃s3,Wk s.nbs (s2.withSl s0.sl) s3∧I k1 s3
     | .exit i=>Q (.exit i) (s2.withSl s0.sl)
     | .ret=>Q .ret (s2.withSl s0.sl)) ∧
    (∀k s,finOf an xs k→I k s→Q .normal s)
 yld l args st K:=wpYield E l args st K
 rld t x st K:=Res.go (opLoad E t x.norm st) K
 rst t x v st K:=Res.go (opStore E t x.norm v st) K
 alc t st K:=Res.go (opAlloc E t st) K
 bxo t v st K:=Res.go (opBox E t v st) K
 mapOk n k a:=n<9223372036854775807∧inKind k a
 nS n:=n+1
 draw ops:=anyOk E.rm ops=true
 cutOk ops c:=cutOk E.rm ops c=true
 fits cs n:=n≤cs.length
 tkAt tk k e n:=(tk.getD k (0,0)).2=e∧(tk.getD k (0,0)).1=n∧k<tk.length
 tkPut tk k x:=tk.set k x
 kOk:=keysOk
 look es k z K:=K ((lookE es k).getD z) (lookE es k).isSome
 ePut:=putE
 eEnt:=entE
 eDel:=delE
 eLen es:=es.length
 eHas es k:=hasE es k=true
 eKeys es:=es.map (·.1)
 eZip:=List.zip
 ent es k K:=(lookE es k).isSome=true∧K ((lookE es k).getD .any)
 nxt left es D M:=(left=[]→D ())∧∀k v,k∈left→(k,v)∈es→M k v
 ment K:=∀n,K n
 same a b:=a=b
 lDrop l k:=l.filter fun y=>!keq k y
 cDrop u k:=match u with | some c=>if keq k c then none else some c | none=>none
def way (b:Bool) (X Y:Unit→Prop):Prop:=match b with | true=>X () | false=>Y ()
section
variable (A:Ops) (E:Env)
def opPick' (c a b:SV) (st:St):Option Res :=
 match c with
 | .val (.bool t)=>match t with | true=>some ⟨True,a,st⟩ | false=>some ⟨True,b,st⟩
 | _=>none
def cellAt:List PV→Nat→Option PV
 | [],_=>none
 | x::_,0=>some x
 | _::r,n+1=>cellAt r n
def cellsAt:List PV→Nat→Nat→Option (List PV)
 | cs,0,n=>if n≤cs.length then some (cs.take n) else none
 | [],_+1,_=>none
 | _::r,o+1,n=>cellsAt r o n
def opLoad' (t:TypeId) (x:SV) (st:St):Option Res :=
 match x with
 | .val (.ptr cs off) =>
  if (E.T t).agg then (match cellsAt cs off (E.T t).size with | some l=>some ⟨True,.val (.agg l),st⟩ | none=>none)
  else if (E.T t).size=1 then (match cellAt cs off with | some p=>some ⟨True,.val p,st⟩ | none=>none) else none
 | x=>opLoad E t x st
def opMakeSlice' (t:TypeId) (len cap:SV) (st:St):Option Res :=
 match (E.T t).k,len,cap with
 | .slice e,.val (.int _ n),.val (.int _ c) =>
  if (E.T e).zero.length=(E.T e).size∧0<(E.T e).size then
   if E.rows then some ⟨A.mks n c (E.T e).bytes,.msl st.bx.length 0 (A.nNat n),st.newBx (A.rowZ n (E.T e).zero)⟩ else
   some ⟨A.mks n c (E.T e).bytes,.lit (E.T e).size (A.lRep n (PV.ofCells (E.T e) (E.T e).zero)),st⟩
  else none
 | _,_,_=>none
def bound' (o:Option SV) (d:Int):Option Int :=
 match o with
 | none=>some d
 | some (.val (.int _ n))=>some n
 | _=>none
def opSliceRow' (t:TypeId) (id off m len cap:Nat) (lo hi mx:Option SV) (st:St):Option Res :=
 match mx,(E.T t).k with
 | none,.slice e =>
  if m=(E.T e).size∧m≠0 then
   match lo,bound' hi (A.iNat len) with
   | none,some h=>some ⟨A.sl 0 h (A.iNat len),.row id off m (A.nNat h) cap,st⟩
   | some (.val (.int _ l)),some h=>some ⟨A.sl l h (A.iNat len)∧A.within l (A.iNat cap),.row id (A.nOff off l m) m (A.nNat (A.iSub h l)) (A.nNat (A.iSub (A.iNat cap) l)),st⟩
   | _,_=>none
  else none
 | _,_=>none
def opIndexAddr' (t:TypeId) (x i:SV) (st:St):Option Res :=
 match E.rows with
 | false=>opIndexAddr E t x i st
 | true =>
  match intOfSV i with
  | none=>none
  | some (_,n) =>
   match (E.T t).k,x with
   | .slice e,.msl id off len=>if (E.T e).size=0 then none else some ⟨A.within n (A.iNat len),.rbx id off (A.nNat n) (E.T e).size 0,st⟩
   | .slice e,.row id off _ len _=>if (E.T e).size=0 then none else some ⟨A.within n (A.iNat len),.rbx id off (A.nNat n) (E.T e).size 0,st⟩
   | .array cnt e,.box id off=>if (E.T e).size=0 then none else some ⟨A.within n (A.iNat cnt),.rbx id off (A.nNat n) (E.T e).size 0,st⟩
   | _,.msl _ _ _=>none
   | _,.row _ _ _ _ _=>none
   | _,.box _ _=>none
   | _,x=>opIndexAddr E t x i st
def entsOf' (m:SV) (st:St):Option (List (PV × PV)) :=
 match m with
 | .val (.map ks vs)=>some (A.eZip ks vs)
 | .mp id=>match st.ax.mp[id]? with | some (.ents es _)=>some es | _=>none
 | _=>none
def opMapUpdate' (t:TypeId) (m x v:SV) (st:St):Option Res :=
 match m with
 | .mp id =>
  match st.ax.mp[id]?,(E.T t).k with
  | some (.plain k e n),.map k' e' =>
   match (E.T k).k,(E.T e).k,x,v with
   | .int kk',.bool,.val (.int kk a),.val (.bool _)=>if k=k'∧e=e'∧kk=kk'∧noIter id st.ax.mp=true then some ⟨A.mapOk n kk a,.undef,{ st with ax:={ st.ax with mp:=st.ax.mp.set id (.plain k e (A.nS n)) } }⟩ else none
   | _,_,_,_=>none
  | some (.ents es mk),.map k _ =>
   match keyK E k,x,v.pv with
   | some ks,.val key,some p=>some ⟨A.kOk (keyAgg E k) ks es key∧(match noIter id st.ax.mp with | true=>True | false=>A.eHas es key),.undef,st.mps (st.ax.mp.set id (.ents (A.ePut es key p) mk))⟩
   | _,_,_=>none
  | _,_=>none
 | _=>none
def wpLookup' (t:TypeId) (m x:SV) (ok:Bool) (st:St) (K:SV→St→Prop):Prop :=
 match (E.T t).k,x with
 | .map k e,.val key =>
  match keyK E k,entsOf' A m st,zeroPV (E.T e) with
  | some ks,some es,some z=>A.kOk (keyAgg E k) ks es key∧A.look es key z fun v b=>K (match ok with | true=>.val (.tup [v,.bool b]) | false=>.val v) st
  | _,_,_=>False
 | _,_=>False
def dropIt' (id:Nat) (k:PV):MapC→MapC
 | .iter (some m) es left cur=>if m=id then .iter (some m) es (A.lDrop left k) (A.cDrop cur k) else .iter (some m) es left cur
 | c=>c
def opDelete' (t k':TypeId) (m x:SV) (st:St):Option Res :=
 match (E.T t).k,m,x with
 | .map k _,.mp id,.val key =>
  match keyK E k,st.ax.mp[id]? with
  | some ks,some (.ents es _)=>if k'=k then some ⟨A.kOk (keyAgg E k) ks es key,.val (.tup []),st.mps ((st.ax.mp.map (dropIt' A id key)).set id (.ents (A.eDel es key) none))⟩ else none
  | _,_=>none
 | _,_,_=>none
def opRange' (t:TypeId) (m:SV) (st:St):Option Res :=
 match (E.T t).k,m with
 | .map _ _,.mp id =>
  match st.ax.mp[id]? with
  | some (.ents es _)=>some ⟨True,.it st.ax.mp.length,st.mps (st.ax.mp++[.iter (some id) [] (A.eKeys es) none])⟩
  | _=>none
 | .map _ _,.val (.map ks vs)=>some ⟨True,.it st.ax.mp.length,st.mps (st.ax.mp++[.iter none (A.eZip ks vs) ks none])⟩
 | _,_=>none
def wpEntry' (x:SV) (st:St) (K:SV→St→Prop):Prop :=
 match x with
 | .it id =>
  match st.ax.mp[id]? with
  | some (.iter src es _ (some k)) =>
   match iterEs st src es with
   | some es=>A.ent es k fun v=>K (.val (.tup [k,v])) st
   | none=>False
  | _=>False
 | _=>False
def opEntryStore' (m s v:SV) (st:St):Option Res :=
 match m,s,v.pv with
 | .mp id,.val (.int .i64 n),some p =>
  match st.ax.mp[id]? with
  | some (.ents es (some (k,n')))=>if k.flat=true then some ⟨A.same n n',.undef,st.mps (st.ax.mp.set id (.ents (A.ePut es k p) none))⟩ else none
  | _=>none
 | _,_,_=>none
def wpNext' (x:SV) (st:St) (K:SV→St→Prop):Prop :=
 match x with
 | .it id =>
  match st.ax.mp[id]? with
  | some (.iter src es left _) =>
   match iterEs st src es with
   | some es'=>A.nxt left es' (fun _=>K (.val (.tup [.bool false])) st) fun k v=>K (.val (.tup [.bool true,k,v])) (st.mps (st.ax.mp.set id (.iter src es (A.lDrop left k) (some k))))
   | none=>False
  | _=>False
 | _=>False
def wpMapEntry' (t:TypeId) (m x:SV) (st:St) (K:SV→St→Prop):Prop :=
 match (E.T t).k,m,x with
 | .map k e,.mp id,.val key =>
  match keyK E k,st.ax.mp[id]?,zeroPV (E.T e) with
  | some ks,some (.ents es _),some z=>A.kOk (keyAgg E k) ks es key∧(match noIter id st.ax.mp with | true=>True | false=>A.eHas es key) ∧
    A.look es key z fun v _=>A.ment fun n=>K (.val (.tup [v,.int .i64 n])) (st.mps (st.ax.mp.set id (.ents (A.eEnt es key z) (some (key,n)))))
  | _,_,_=>False
 | _,_,_=>False
def isNilL:List PV→Bool
 | []=>true
 | _=>false
def opSlice' (t:TypeId) (x:SV) (lo hi mx:Option SV) (st:St):Option Res :=
 match mx,(E.T t).k with
 | none,.slice e =>
  match x.elems with
  | some (m,xs) =>
   if m=(E.T e).size∧(E.T e).size≠0 then
    match bound' lo 0,bound' hi (A.lLen xs) with
    | some l,some h=>some ⟨A.sl l h (A.lLen xs),.val (.list m (A.lSub xs l h)),st⟩
    | _,_=>none
   else none
  | none=>none
 | none,.str =>
  match x with
  | .val (.str s) =>
   match bound' lo 0,bound' hi (A.sSize s) with
   | some l,some h=>some ⟨A.sl l h (A.sSize s),.val (.str (A.sSub s l h)),st⟩
   | _,_=>none
  | _=>none
 | _,_=>none
def opSliceArr' (t:TypeId) (id off:Nat) (lo hi mx:Option SV) (st:St):Option Res :=
 match (E.T t).k,lo with
 | .array n e,none =>
  if (E.T e).size≠0∧n≤9223372036854775807 then
   match hi,mx with
   | some (.val (.int _ h)),some (.val (.int _ m))=>some ⟨A.sl 0 h m∧A.sl 0 m (A.iNat n),.msl id off (A.nNat h),st⟩
   | some (.val (.int _ h)),none=>some ⟨A.sl 0 h (A.iNat n),.msl id off (A.nNat h),st⟩
   | none,none=>some ⟨True,.msl id off n,st⟩
   | _,_=>none
  else none
 | _,_=>none
def opIndex' (t:TypeId) (x i:SV) (st:St):Option Res :=
 match intOfSV i,(E.T t).k,x with
 | some (_,n),.str,.val (.str s)=>some ⟨A.within n (A.sSize s),.val (.int .u8 (A.sByte s n)),st⟩
 | _,_,_=>none
def opUn' (op:UnOp) (x:SV) (st:St):Option Res :=
 match op,x with
 | .not,.val (.bool b)=>some ⟨True,.val (.bool (A.bNot b)),st⟩
 | .neg,.val (.int .i64 n)=>some ⟨A.negOk n,.val (.int .i64 (A.iNeg n)),st⟩
 | .xor,.val (.int .u64 n)=>some ⟨True,.val (.int .u64 (A.wNot n)),st⟩
 | _,_=>none
def opConvert' (src dst:TypeId) (x:SV) (st:St):Option Res :=
 match (E.T src).k,(E.T dst).k,x with
 | .int k,.int k',.val (.int k'' n)=>if k=k'∧k''=k∧k=.i64 then some ⟨A.inR n,.val (.int k n),st⟩ else some ⟨True,.val (.int k' (A.wrap k' n)),st⟩
 | .str,.str,.val (.str s)=>some ⟨True,.val (.str s),st⟩
 | _,_,_=>none
def arithI64' (op:BinOp) (a b:Int):Option (Prop × PV) :=
 match op with
 | .add=>some (A.inR (A.iAdd a b),.int .i64 (A.iAdd a b))
 | .sub=>some (A.inR (A.iSub a b),.int .i64 (A.iSub a b))
 | .mul=>some (A.inR (A.iMul a b),.int .i64 (A.iMul a b))
 | .quo=>some (A.nz b∧A.inR (A.iDiv a b),.int .i64 (A.iDiv a b))
 | .rem=>some (A.nz b,.int .i64 (A.iMod a b))
 | .eql=>some (True,.bool (A.iEq a b))
 | .neq=>some (True,.bool (A.bNot (A.iEq a b)))
 | .lss=>some (True,.bool (A.iLt a b))
 | .leq=>some (True,.bool (A.iLe a b))
 | .gtr=>some (True,.bool (A.iLt b a))
 | .geq=>some (True,.bool (A.iLe b a))
 | _=>none
def arithOther' (op:BinOp) (k:IntKind) (a b:Int):Option (Prop × PV) :=
 match op with
 | .and=>some (True,.int k (A.wOp .and k a b))
 | .or=>some (True,.int k (A.wOp .or k a b))
 | .add=>some (True,.int k (A.wOp .add k a b))
 | .sub=>some (True,.int k (A.wOp .sub k a b))
 | .rem=>some (A.nz b,.int k (A.iMod a b))
 | .eql=>some (True,.bool (A.iEq a b))
 | .neq=>some (True,.bool (A.bNot (A.iEq a b)))
 | .lss=>some (True,.bool (A.iLt a b))
 | .leq=>some (True,.bool (A.iLe a b))
 | .gtr=>some (True,.bool (A.iLt b a))
 | .geq=>some (True,.bool (A.iLe b a))
 | _=>none
def eqPV':SK→PV→PV→Option Bool
 | .int,.int k a,.int k' b=>if k=k' then some (A.iEq a b) else none
 | .bool,.bool a,.bool b=>some (A.bEq a b)
 | .str,.str a,.str b=>some (A.sEq a b)
 | _,_,_=>none
def eqCells':List SK→List PV→List PV→Option Bool
 | [],[],[]=>some true
 | k::ks,x::xs,y::ys=>match eqPV' A k x y,eqCells' ks xs ys with | some a,some b=>some (A.bAnd a b) | _,_=>none
 | _,_,_=>none
def opBin' (op:BinOp) (t:TypeId) (x y:SV) (st:St):Option Res :=
 match x,y with
 | .val (.int k a),.val (.int k' b) =>
  match op with
  | .shl=>some ⟨A.within b k.bits,.val (.int k (A.wShl k a b)),st⟩
  | .shr=>some ⟨A.within b k.bits,.val (.int k (A.wShr a b)),st⟩
  | op =>
   if k=k' then
    match (match E.clo 11000000 with | true=>arithOther' A op k a b | false=>if k=.i64 then arithI64' A op a b else arithOther' A op k a b) with
    | some (s,p)=>some ⟨s,.val p,st⟩
    | none=>none
   else none
 | .val (.bool a),.val (.bool b) =>
  match (E.T t).k,op with
  | .bool,.eql=>some ⟨True,.val (.bool (A.bEq a b)),st⟩
  | .bool,.neq=>some ⟨True,.val (.bool (A.bNot (A.bEq a b))),st⟩
  | _,_=>none
 | .val (.str a),.val (.str b) =>
  match op with
  | .eql=>some ⟨True,.val (.bool (A.sEq a b)),st⟩
  | .neq=>some ⟨True,.val (.bool (A.bNot (A.sEq a b))),st⟩
  | _=>none
 | .val (.agg a),.val (.agg b) =>
  match (E.T t).eq with
  | none=>none
  | some ks =>
   match eqCells' A ks a b,op with
   | some r,.eql=>some ⟨True,.val (.bool r),st⟩
   | some r,.neq=>some ⟨True,.val (.bool (A.bNot r)),st⟩
   | _,_=>none
 | _,_=>none
def opLen' (t:TypeId) (x:SV) (st:St):Option Res :=
 match (E.T t).k,x with
 | .str,.val (.str s)=>some ⟨True,.val (.int .i64 (A.sSize s)),st⟩
 | .slice _,.msl _ _ n=>some ⟨True,.val (.int .i64 (A.iNat n)),st⟩
 | .slice _,.row _ _ _ n _=>some ⟨True,.val (.int .i64 (A.iNat n)),st⟩
 | .slice _,x=>match x.elems with | some (_,xs)=>some ⟨True,.val (.int .i64 (A.lLen xs)),st⟩ | none=>none
 | .array n _,_=>some ⟨True,.val (.int .i64 (A.iNat n)),st⟩
 | .map _ _,x=>match entsOf' A x st with | some es=>some ⟨True,.val (.int .i64 (A.eLen es)),st⟩ | none=>none
 | _,_=>none
def opAppend' (t:TypeId) (s y:SV) (st:St):Option Res :=
 match (E.T t).k,y.elems with
 | .slice e,some (m',ys) =>
  if m'=(E.T e).size∧0<(E.T e).size∧(E.T e).zero.length=(E.T e).size then
   match s.litz with
   | .lit m xs =>
    if m=(E.T e).size then
     some ⟨A.room (A.nLen (A.lApp xs ys)) (E.T e).bytes,.own st.tk.length (E.T e).size (A.lApp xs ys),{ st with tk:=st.tk++[(A.nLen (A.lApp xs ys),e)] }⟩
    else if m=0∧isNilL xs=true then
     some ⟨A.room (A.nLen ys) (E.T e).bytes,.own st.tk.length (E.T e).size ys,{ st with tk:=st.tk++[(A.nLen ys,e)] }⟩
    else none
   | .own k m xs =>
    match E.clo 8000000 with
    | true =>
     if m=(E.T e).size then
      some ⟨A.tkAt st.tk k e (A.nLen xs)∧A.room (A.nLen (A.lApp xs ys)) (E.T e).bytes,.own k (E.T e).size (A.lApp xs ys),{ st with tk:=A.tkPut st.tk k (A.nLen (A.lApp xs ys),e) }⟩
     else none
    | false =>
    if m=(E.T e).size∧((st.tk.getD k (0,0)).2=e)∧k<st.tk.length then
     some ⟨A.tkEq (st.tk.getD k (0,0)).1 (A.nLen xs)∧A.room (A.nLen (A.lApp xs ys)) (E.T e).bytes,.own k (E.T e).size (A.lApp xs ys),{ st with tk:=st.tk.set k (A.nLen (A.lApp xs ys),e) }⟩
    else none
   | _=>none
  else none
 | _,_=>none
def opMinMax' (mn:Bool) (xs:List SV) (st:St):Option Res :=
 match xs with
 | [.val (.int .i64 a),.val (.int .i64 b)]=>some ⟨True,.val (.int .i64 (if mn then A.iMin a b else A.iMax a b)),st⟩
 | _=>none
def opBuiltin' (b:Builtin) (ts:List TypeId) (xs:List SV) (st:St):Option Res :=
 match b,ts,xs with
 | .len,[t],[x]=>opLen' A E t x st
 | .append,[t,t'],[s,y]=>if t=t' then opAppend' A E t s y st else none
 | .min,_,xs=>opMinMax' A true xs st
 | .max,_,xs=>opMinMax' A false xs st
 | .delete,[t,k],[m,x]=>opDelete' A E t k m x st
 | .clear,[t],[x]=>opClear E t x st
 | _,_,_=>none
def evalOp' (o:Op) (st:St):Option Res :=
 match o with
 | .pick c a b=>opPick' (valOf st c) (valOf st a) (valOf st b) st
 | .load t a=>opLoad' E t (valOf st a) st
 | .binOp op t x y _=>opBin' A E op t (valOf st x) (valOf st y) st
 | .unOp op _ x=>opUn' A op (valOf st x) st
 | .convert s d x=>opConvert' A E s d (valOf st x) st
 | .makeSlice t l c=>opMakeSlice' A E t (valOf st l) (valOf st c) st
 | .slice t x lo hi mx=>(match valOf st x with | .box id off=>opSliceArr' A E t id off (lo.map (valOf st)) (hi.map (valOf st)) (mx.map (valOf st)) st | .row id off m len cap=>opSliceRow' A E t id off m len cap (lo.map (valOf st)) (hi.map (valOf st)) (mx.map (valOf st)) st | x=>opSlice' A E t x (lo.map (valOf st)) (hi.map (valOf st)) (mx.map (valOf st)) st)
 | .index t x i=>opIndex' A E t (valOf st x) (valOf st i) st
 | .call { callee:=.builtin b,args,argTypes }=>opBuiltin' A E b argTypes.toList (args.toList.map (valOf st)) st
 | .indexAddr t x i =>
  (match valOf st x with
  | .msl id off len=>opIndexAddr' A E t (.msl id off len) (valOf st i) st
  | .row id off m len cap=>opIndexAddr' A E t (.row id off m len cap) (valOf st i) st
  | .val (.ptr cs off)=>opIndexAddr' A E t (.val (.ptr cs off)) (valOf st i) st
  | .box id off=>opIndexAddr' A E t (.box id off) (valOf st i) st
  | _=>none)
 | .move x=>some ⟨True,valOf st x,st⟩
 | .assign x=>some ⟨True,valOf st x,st⟩
 | .alloc t=>opAlloc E t st
 | .box t x=>opBox E t (valOf st x) st
 | .build t parts=>opBuild E t (parts.toList.map fun p=>(p.1,valOf st p.2)) st
 | .buildSlice t n parts=>opBuildSlice E t n (parts.toList.map fun p=>(p.1,valOf st p.2)) st
 | .store t a x=>opStore E t (valOf st a) (valOf st x) st
 | .nilCheck x=>(match valOf st x with | .val (.ptr cs o)=>some ⟨True,.val (.ptr cs o),st⟩ | .box id o=>some ⟨True,.box id o,st⟩ | .val (.fn f cs)=>some ⟨True,.val (.fn f cs),st⟩ | .clo f cs=>some ⟨True,.clo f cs,st⟩ | .rbx a b c d e=>some ⟨True,.rbx a b c d e,st⟩ | .val (.yld l)=>some ⟨True,.val (.yld l),st⟩ | _=>none)
 | .makeFunc fn first cap=>opMakeFunc E fn (first.toList.map (valOf st)) (cap.toList.map (valOf st)) st
 | .fieldAddr s x f=>opFieldAddr E s (valOf st x) f st
 | .field t x f=>opField E t (valOf st x) f st
 | .extract x i=>opExtract (valOf st x) i st
 | .makeMap t r=>opMakeMap E t r st
 | .mapUpdate t m x v=>opMapUpdate' A E t (valOf st m) (valOf st x) (valOf st v) st
 | .range t m=>opRange' A E t (valOf st m) st
 | .entryStore _ m s v=>opEntryStore' A (valOf st m) (valOf st s) (valOf st v) st
 | _=>none
def wpIdx (t:TypeId) (x i:SV) (st:St) (K:SV→St→Prop):Prop :=
 match (E.T t).k,x.elems,intOfSV i with
 | .slice e,some (m,xs),some (_,n)=>if m=(E.T e).size∧(E.T e).size≠0 then A.idx xs n fun cs=>K (.val (.ptr cs 0)) st else False
 | _,_,_=>False
def go' (r:Option Res) (K:SV→St→Prop):Prop :=
 match r with
 | some r=>r.side∧K r.v r.st
 | none=>False
def wpOp' (dr:Bool) (o:Op) (st:St) (K:SV→St→Prop):Prop :=
 match o with
 | .call { callee:=.value x,args,.. } =>
  match valOf st x with
  | .val (.fn f caps) =>
   match argsOf E f (args.toList.map (valOf st)) with
   | some l=>A.call f (l++caps) fun r=>K (.val r) st
   | none=>match dr with | true=>False | false=>A.opn f caps (args.toList.map (valOf st)) st K
  | .clo f caps=>match dr with | true=>False | false=>A.deep f (args.toList.map (valOf st)++caps.map Cap.sv) st K
  | .val (.yld l) =>
   match pvsOf (args.toList.map (valOf st)) with
   | some ps=>match dr with | true=>False | false=>A.yld l ps st K
   | none=>match dr with | true=>False | false=>A.frzY l (args.toList.map (valOf st)) st K
  | _=>False
 | .call { callee:=.builtin .append,args,argTypes } =>
  match rowsAt E argTypes.toList with
  | true=>match dr with | true=>False | false=>A.appR argTypes.toList (args.toList.map (valOf st)) st K
  | false=>go' (evalOp' A E o st) K
 | .load t a =>
  match valOf st a with
  | .rbx id off i m k=>A.rld t (.rbx id off i m k) st K
  | .box id off=>match E.clo 10000000 with | true=>A.rld t (.box id off) st K | false=>go' (evalOp' A E o st) K
  | _=>go' (evalOp' A E o st) K
 | .store t a x =>
  match valOf st a with
  | .rbx id off i m k=>A.rst t (.rbx id off i m k) (valOf st x) st K
  | .box id off=>match E.clo 10000000 with | true=>A.rst t (.box id off) (valOf st x) st K | false=>go' (evalOp' A E o st) K
  | _=>go' (evalOp' A E o st) K
 | .alloc t=>match E.clo 10000000 with | true=>A.alc t st K | false=>go' (evalOp' A E o st) K
 | .box t x=>match E.clo 10000000 with | true=>A.bxo t (valOf st x) st K | false=>go' (evalOp' A E o st) K
 | .indexAddr t x i =>
  match valOf st x with
  | .val (.list m xs)=>wpIdx A E t (.val (.list m xs)) (valOf st i) st K
  | .lit m xs=>wpIdx A E t (.lit m xs) (valOf st i) st K
  | .own k m xs=>wpIdx A E t (.own k m xs) (valOf st i) st K
  | _=>go' (evalOp' A E o st) K
 | .lookup t m x ok=>wpLookup' A E t (valOf st m) (valOf st x) ok st K
 | .entry x=>wpEntry' A (valOf st x) st K
 | .next x false=>match dr with | true=>False | false=>wpNext' A (valOf st x) st K
 | .mapEntry t m x=>match dr with | true=>False | false=>wpMapEntry' A E t (valOf st m) (valOf st x) st K
 | .binOp op t x y u =>
  match nilOp op y with
  | some b=>match dr with | true=>False | false=>wpNilq E b t (valOf st x) st K
  | none=>go' (evalOp' A E (.binOp op t x y u) st) K
 | o=>go' (evalOp' A E o st) K
def wpOps' (dr:Bool) (ops:List Oper):List Oper→St→(St→Prop)→Prop
 | [],st,K=>K st
 | o::rest,st,K =>
  match o.guard with
  | none=>wpOp' A E dr o.op st fun v st'=>wpOps' dr ops rest (st'.put o.dst v) K
  | some (j,want) =>
   match dstOf ops j with
   | none=>False
   | some t =>
    match st.sl.getD t .undef with
    | .undef=>wpOps' dr ops rest (st.put o.dst .undef) K
    | .val (.bool b) =>
     match want with
     | true=>way b (fun _=>wpOp' A E dr o.op (st.put (some t) (.val (.bool true))) fun v st'=>wpOps' dr ops rest (st'.put o.dst v) K)
       (fun _=>wpOps' dr ops rest ((st.put (some t) (.val (.bool false))).put o.dst .undef) K)
     | false=>way b (fun _=>wpOps' dr ops rest ((st.put (some t) (.val (.bool true))).put o.dst .undef) K)
       (fun _=>wpOp' A E dr o.op (st.put (some t) (.val (.bool false))) fun v st'=>wpOps' dr ops rest (st'.put o.dst v) K)
    | _=>False
def wpAll' (ops:Array Oper):Nat→Array Bool→St→(St→Prop)→Prop
 | 0,listed,st,K=>(match Region.ready .any ops listed with | []=>K st | _=>False)
 | fuel+1,listed,st,K=>(match Region.ready .any ops listed with
  | []=>K st
  | i::r=>allL (i::r) fun i=>(match ops[i]? with
   | none=>False
   | some o=>wpOps' A E false ops.toList [o] st fun st'=>wpAll' ops fuel (listed.setIfInBounds i true) st' K))
def wpC':Code→Nat × Nat→St→(AX→St→Prop)→Prop
 | .skip,_,st,Q=>Q .normal st
 | .region id ops draw,_,st,Q=>match drawMode E draw id ops.size with
  | .each=>wpAll' A E ops ops.size (Array.replicate ops.size false) st (Q .normal)
  | .cut c=>A.cutOk ops.toList c∧wpOps' A E true (ops.toList.take c) (ops.toList.take c) st fun s =>
   (match ops[c]? with
   | none=>False
   | some o=>wpOps' A E false ops.toList [o] s fun s'=>wpAll' A E ops (ops.size - (c+1)) (listedTo (c+1) ops.size) s' (Q .normal))
  | .text=>(match draw with | true=>A.draw ops.toList | false=>True)∧wpOps' A E draw ops.toList ops.toList st (Q .normal)
 | .seq a b,nb,st,Q=>wpC' a nb st fun e st'=>match e with | .normal=>wpC' b nb st' Q | .exit i=>Q (.exit i) st' | .ret=>Q .ret st'
 | .cond c a b,nb,st,Q =>
  match valOf st c with
  | .val (.bool t)=>way t (fun _=>wpC' a nb st Q) (fun _=>wpC' b nb st Q)
  | _=>False
 | .block id body,nb,st,Q=>wpC' body nb st fun e st'=>match e with | .normal=>Q .normal st' | .exit i=>if i=id then Q .normal st' else Q (.exit i) st' | .ret=>Q .ret st'
 | .loop body,nb,st,Q=>A.loop nb body (fun s Q'=>wpC' body nb s Q') st Q
 | .rangeFunc g ps asg body,nb,st,Q =>
  match valOf st g with
  | .val (.fn f caps)=>A.rng nb f caps ps.toList.length (fun x s Q'=>wpC' asg s.nbs (s.params ps.toList x) fun e s1=>match e with | .normal=>wpC' body s1.nbs s1 Q' | _=>False) st Q
  | _=>False
 | .exit id,_,st,Q=>Q (.exit id) st
 | .ret,_,st,Q=>Q .ret st
 | .label _,_,st,Q=>Q .normal st
 | .scope b,nb,st,Q=>wpC' b nb st Q
 | _,_,_,_=>False
end
end Go.Abs
/-
  The walk as a computation is the walk.
-/
namespace Go.Abs
open Go.RowKit
section
variable {E:Env} {Es:Env}
theorem cellAt_spec:∀{cs:List PV} {o:Nat} {p:PV},cellAt cs o=some p→o<cs.length∧cs.getD o .any=p
 | [],o,p,h=>by cases o<;>cases h
 | x::r,0,p,h=>by cases h;exact ⟨by simp,rfl⟩
 | x::r,o+1,p,h=>by
  obtain ⟨h1,h2⟩:=cellAt_spec (cs:=r) (o:=o) (by simpa [cellAt] using h)
  exact ⟨by simpa using h1,by simpa using h2⟩
theorem cellsAt_spec:∀{cs:List PV} {o n:Nat} {l:List PV},cellsAt cs o n=some l→o+n≤cs.length∧(cs.drop o).take n=l
 | cs,0,n,l,h=>by
  cases cs with
  | nil =>
   simp only [cellsAt] at h
   split at h
   ·rename_i h1;cases h;exact ⟨by simpa using h1,rfl⟩
   ·cases h
  | cons x r =>
   simp only [cellsAt] at h
   split at h
   ·rename_i h1;cases h;exact ⟨by simpa using h1,rfl⟩
   ·cases h
 | [],o+1,n,l,h=>by simp [cellsAt] at h
 | x::r,o+1,n,l,h=>by
  obtain ⟨h1,h2⟩:=cellsAt_spec (cs:=r) (o:=o) (n:=n) (l:=l) (by simpa [cellsAt] using h)
  exact ⟨by simp only [List.length_cons];omega,by simpa using h2⟩
theorem load_impl {t:TypeId} {x:SV} {st:St} {K:SV→St→Prop} (h:go' (opLoad' E t x st) K):Res.go (opLoad E t x st) K:=by
 unfold opLoad' at h
 split at h
 ·rename_i cs off
  simp only [opLoad]
  split at h
  ·rename_i ha
   rw [if_pos ha]
   split at h
   ·rename_i l hl
    obtain ⟨h1,h2⟩:=cellsAt_spec hl
    exact ⟨h1,by have:=h.2;simpa [h2] using this⟩
   ·exact h.elim
  ·rename_i ha
   rw [if_neg ha]
   split at h
   ·rename_i h1
    rw [if_pos h1]
    split at h
    ·rename_i p hp
     obtain ⟨h1,h2⟩:=cellAt_spec hp
     exact ⟨h1,by have:=h.2;simpa only [h2] using this⟩
    ·exact h.elim
   ·exact h.elim
 ·exact h
theorem pick_impl {c a b:SV} {st:St} {K:SV→St→Prop} (h:go' (opPick' c a b st) K):Res.go (opPick c a b st) K:=by
 unfold opPick' at h
 unfold opPick
 split at h
 ·rename_i t
  cases t<;>exact h
 ·exact h.elim
theorem bound_eq (o:Option SV) (d:Int):bound' o d=bound o d:=by
 unfold bound' bound
 rfl
theorem slice_impl {t:TypeId} {x:SV} {lo hi mx:Option SV} {st:St} {K:SV→St→Prop} (h:go' (opSlice' (stdOps Es) E t x lo hi mx st) K):Res.go (opSlice E t x lo hi mx st) K:=by
 unfold opSlice' at h
 unfold opSlice
 simp only [bound_eq] at h
 split at h
 ·rename_i e hk
  simp only [hk]
  split at h
  ·rename_i m xs hx
   simp only [hx]
   split at h
   ·rename_i hc
    rw [if_pos ⟨.inl hc.1,hc.2⟩]
    exact h
   ·exact h.elim
  ·exact h.elim
 ·rename_i hk
  simp only [hk]
  exact h
 ·exact h.elim
theorem sliceArr_impl {t:TypeId} {id off:Nat} {lo hi mx:Option SV} {st:St} {K:SV→St→Prop} (h:go' (opSliceArr' (stdOps Es) E t id off lo hi mx st) K):Res.go (opSliceArr E t id off lo hi mx st) K:=by
 unfold opSliceArr' at h
 unfold opSliceArr
 split at h
 ·rename_i n e hk
  simp only [hk]
  split at h
  ·rename_i hc
   rw [if_pos hc]
   split at h
   ·obtain ⟨⟨⟨a1,a2,a3⟩,b1,b2,b3⟩,k⟩:=h
    exact ⟨⟨a2,a3,b3⟩,k⟩
   ·obtain ⟨⟨a1,a2,a3⟩,k⟩:=h
    exact ⟨⟨a2,a3⟩,k⟩
   ·exact h
   ·exact h.elim
  ·exact h.elim
 ·exact h.elim
theorem eqCells_eq:∀(ks:List SK) (a b:List PV),eqCells' (stdOps Es) ks a b=eqCells ks a b
 | [],a,b=>by cases a<;>cases b<;>rfl
 | k::ks,a,b=>by
  cases a<;>cases b
  ·rfl
  ·rfl
  ·rfl
  ·simp only [eqCells',eqCells,eqCells_eq ks]
   rfl
theorem arith64_eq (op:BinOp) (a b:Int):arithI64' (stdOps Es) op a b=arithI64 op a b:=by
 cases op<;>simp [arithI64',arithI64,stdOps]
theorem arithO_eq (op:BinOp) (k:IntKind) (a b:Int):arithOther' (stdOps Es) op k a b=arithOther op k a b:=by
 cases op<;>simp [arithOther',arithOther,stdOps,wBin]
theorem bin_eq (op:BinOp) (t:TypeId) (x y:SV) (st:St):opBin' (stdOps Es) E op t x y st=opBin E op t x y st:=by
 unfold opBin' opBin
 simp only [arith64_eq,arithO_eq,eqCells_eq]
 cases x with
 | val p =>
  cases y with
  | val q =>
   cases p with
   | int k a=>cases q with
    | int k' b=>cases op<;>first | rfl | (simp [stdOps];done) | (simp [stdOps];rfl)
    | _=>rfl
   | bool a=>cases q with
    | bool b=>cases h:(E.T t).k<;>first | rfl | (cases op<;>first | rfl | (simp [stdOps];done))
    | _=>rfl
   | str a=>cases q with
    | str b=>cases op<;>first | rfl | (simp [stdOps];done)
    | _=>rfl
   | agg a=>cases q with
    | agg b =>
     cases h:(E.T t).eq with
     | none=>rfl
     | some ks =>
      simp only
      cases h2:eqCells ks a b with
      | none=>rfl
      | some r=>cases op<;>rfl
    | _=>rfl
   | _=>cases q<;>rfl
  | _=>cases p<;>rfl
 | _=>cases y<;>rfl
theorem append_impl {t:TypeId} {s y:SV} {st:St} {K:SV→St→Prop} (h:go' (opAppend' (stdOps Es) E t s y st) K):Res.go (opAppend E t s y st) K:=by
 unfold opAppend' at h
 unfold opAppend
 generalize s.litz=s at h ⊢
 split at h
 ·rename_i e m' ys hk hy
  simp only [hk,hy]
  split at h
  ·rename_i hc
   rw [if_pos ⟨.inl hc.1,hc.2⟩]
   split at h
   ·rename_i m xs
    split at h
    ·rename_i hm
     simp only
     rw [if_pos (.inl hm)]
     obtain ⟨h1,h2⟩:=h
     refine ⟨?_,h2⟩
     have h1:(xs++ys).length*((E.T e).bytes+1)≤140737488355328:=h1
     rw [List.length_append] at h1
     exact h1
    ·split at h
     ·rename_i hm
      have hx:xs=[]:=by
       have:=hm.2
       cases xs with
       | nil=>rfl
       | cons a b=>cases this
      subst hx
      simp only
      rw [if_pos (by simp)]
      obtain ⟨h1,h2⟩:=h
      refine ⟨?_,h2⟩
      have h1:ys.length*((E.T e).bytes+1)≤140737488355328:=h1
      simpa using h1
     ·exact h.elim
   ·rename_i k m xs
    split at h
    ·split at h
     ·rename_i hm
      obtain ⟨⟨⟨h3,h0,h4⟩,h1⟩,h2⟩:=h
      have h1:(xs++ys).length*((E.T e).bytes+1)≤140737488355328:=h1
      rw [List.length_append] at h1
      simp only
      rw [if_pos ⟨.inl hm,h3⟩]
      exact ⟨⟨h0,h4,h1⟩,h2⟩
     ·exact h.elim
    ·split at h
     ·rename_i hm
      simp only
      rw [if_pos ⟨.inl hm.1,hm.2.1⟩]
      obtain ⟨⟨h0,h1⟩,h2⟩:=h
      have h1:(xs++ys).length*((E.T e).bytes+1)≤140737488355328:=h1
      rw [List.length_append] at h1
      exact ⟨⟨h0,hm.2.2,h1⟩,h2⟩
     ·exact h.elim
   ·exact h.elim
  ·exact h.elim
 ·exact h.elim
theorem entsOf_eq (m:SV) (st:St):entsOf' (stdOps Es) m st=entsOf m st:=by
 unfold entsOf' entsOf
 cases m with
 | val p=>cases p<;>rfl
 | _=>rfl
theorem len_eq (t:TypeId) (x:SV) (st:St):opLen' (stdOps Es) E t x st=opLen E t x st:=by
 unfold opLen' opLen
 simp only [entsOf_eq]
 cases (E.T t).k<;>cases x<;>rfl
theorem lookup_impl {t:TypeId} {m x:SV} {ok:Bool} {st:St} {K:SV→St→Prop} (h:wpLookup' (stdOps Es) E t m x ok st K):Res.go (opLookup E t m x ok st) K:=by
 unfold wpLookup' at h
 rw [entsOf_eq] at h
 unfold opLookup
 split at h
 ·rename_i k e key hk
  simp only [hk]
  split at h
  ·rename_i ks es z h1 h2 h3
   simp only [h1,h2,h3]
   obtain ⟨a,b⟩:=h
   refine ⟨a,?_⟩
   cases ok<;>exact b
  ·exact h.elim
 ·exact h.elim
theorem entry_impl {x:SV} {st:St} {K:SV→St→Prop} (h:wpEntry' (stdOps Es) x st K):Res.go (opEntry x st) K:=by
 unfold wpEntry' at h
 unfold opEntry
 split at h
 ·split at h
  ·rename_i h1
   simp only [h1]
   split at h
   ·rename_i h2
    simp only [h2]
    exact h
   ·exact h.elim
  ·exact h.elim
 ·exact h.elim
theorem dropIt_std (id:Nat) (k:PV):dropIt' (stdOps Es) id k=dropIt id k:=by
 funext c
 match c with
 | .iter (some m) es left cur=>rfl
 | .iter none es left cur=>rfl
 | .plain _ _ _=>rfl
 | .ents _ _=>rfl
 | .gone=>rfl
theorem delete_eq (t k':TypeId) (m x:SV) (st:St):opDelete' (stdOps Es) E t k' m x st=opDelete E t k' m x st:=by
 unfold opDelete' opDelete
 simp only [dropIt_std]
 rfl
theorem mapUpdate_impl {t:TypeId} {m x v:SV} {st:St} {K:SV→St→Prop} (h:go' (opMapUpdate' (stdOps Es) E t m x v st) K):Res.go (opMapUpdate E t m x v st) K:=by
 unfold opMapUpdate' at h
 unfold opMapUpdate
 split at h
 ·rename_i id
  split at h
  ·rename_i h1 h2
   simp only [h1,h2]
   exact h
  ·rename_i es um k e h1 h2
   simp only [h1,h2]
   split at h
   ·rename_i h3 h4
    simp only [h3,h4]
    obtain ⟨⟨a,b⟩,c⟩:=h
    refine ⟨⟨a,?_⟩,c⟩
    cases hn:noIter id st.ax.mp with
    | true=>exact .inl rfl
    | false=>rw [hn] at b;exact .inr b
   ·exact h.elim
  ·exact h.elim
 ·exact h.elim
theorem mapEntry_impl {t:TypeId} {m x:SV} {st:St} {K:SV→St→Prop} (h:wpMapEntry' (stdOps Es) E t m x st K):wpMapEntry E t m x st K:=by
 unfold wpMapEntry' at h
 unfold wpMapEntry
 split at h
 ·rename_i k e id key h0
  simp only [h0]
  split at h
  ·rename_i h1 h2 h3
   simp only [h1,h2,h3]
   obtain ⟨a,b,c⟩:=h
   refine ⟨a,?_,c⟩
   cases hn:noIter id st.ax.mp with
   | true=>exact .inl rfl
   | false=>rw [hn] at b;exact .inr b
  ·exact h.elim
 ·exact h.elim
theorem un_eq (op:UnOp) (x:SV) (st:St):opUn' (stdOps Es) op x st=opUn op x st:=by
 unfold opUn' opUn
 cases x with
 | val p =>
  cases op<;>cases p<;>first | rfl | skip
  all_goals (rename_i k n;cases k<;>first | rfl | simp [stdOps])
 | _=>cases op<;>rfl
theorem indexAddr_impl {t:TypeId} {x i:SV} {st:St} {K:SV→St→Prop} (h:go' (opIndexAddr' (stdOps Es) E t x i st) K):Res.go (opIndexAddr E t x i st) K:=by
 unfold opIndexAddr' at h
 split at h
 ·exact h
 ·rename_i hr
  split at h
  ·exact h.elim
  ·rename_i kk n hi
   split at h
   ·rename_i e id off len hk
    unfold opIndexAddr
    simp only [hi,hk]
    split at h
    ·exact h.elim
    ·rename_i hz
     rw [if_neg hz]
     simp only [elemSV,hr]
     exact h
   ·rename_i e id off m len cap hk
    unfold opIndexAddr
    simp only [hi,hk]
    split at h
    ·exact h.elim
    ·rename_i hz
     rw [if_neg hz]
     simp only [elemSV,hr]
     exact h
   ·rename_i cnt e id off hk
    unfold opIndexAddr
    simp only [hi,hk]
    split at h
    ·exact h.elim
    ·rename_i hz
     rw [if_neg hz]
     simp only [elemSV,hr]
     exact h
   ·exact h.elim
   ·exact h.elim
   ·exact h.elim
   ·exact h
theorem sliceRow_impl {t:TypeId} {id off m len cap:Nat} {lo hi mx:Option SV} {st:St} {K:SV→St→Prop} (h:go' (opSliceRow' (stdOps Es) E t id off m len cap lo hi mx st) K):Res.go (opSliceRow E t id off m len cap lo hi mx st) K:=h
theorem eval_impl {o:Op} {st:St} {K:SV→St→Prop} (h:go' (evalOp' (stdOps Es) E o st) K):Res.go (evalOp E o st) K:=by
 cases o with
 | pick c a b=>exact pick_impl h
 | load t a =>
  simp only [evalOp',evalOp] at h ⊢
  have:=load_impl h
  cases hq:valOf st a<;>rw [hq] at this<;>first | exact this | exact this.elim
 | store t a x =>
  simp only [evalOp',evalOp] at h ⊢
  cases hq:valOf st a<;>rw [hq] at h<;>first | exact h | exact h.elim
 | nilCheck x =>
  simp only [evalOp',evalOp] at h ⊢
  split at h<;>first | exact h | exact h.elim | (rename_i hq;simp only [hq];exact h)
 | mapUpdate t m x v=>exact mapUpdate_impl h
 | lookup t m x ok=>exact h.elim
 | entry x=>exact h.elim
 | binOp op t x y z=>simp only [evalOp',bin_eq] at h;exact h
 | unOp op t x=>simp only [evalOp',un_eq] at h;exact h
 | slice t x lo hi mx =>
  simp only [evalOp'] at h
  simp only [evalOp]
  split at h
  ·rename_i hx;simp only [hx];exact sliceArr_impl h
  ·rename_i hx;simp only [hx];exact sliceRow_impl h
  ·rename_i hne hne2
   split
   ·rename_i hx;exact absurd hx (hne _ _)
   ·rename_i hx;exact absurd hx (hne2 _ _ _ _ _)
   ·exact slice_impl h
 | indexAddr t x i =>
  simp only [evalOp'] at h
  simp only [evalOp]
  split at h
  ·rename_i hx;rw [hx];exact indexAddr_impl h
  ·rename_i hx;rw [hx];exact indexAddr_impl h
  ·rename_i hx;rw [hx];exact indexAddr_impl h
  ·rename_i hx;rw [hx];exact indexAddr_impl h
  ·exact h.elim
 | call c =>
  obtain ⟨callee,args,ts⟩:=c
  cases callee with
  | builtin b =>
   simp only [evalOp',evalOp] at h ⊢
   unfold opBuiltin' at h
   unfold opBuiltin
   split at h
   ·rename_i e1 e2;rw [len_eq] at h;simp only [e1,e2];exact h
   ·rename_i e1 e2
    simp only [e1,e2]
    split at h
    ·rename_i he;rw [if_pos he];exact append_impl h
    ·exact h.elim
   ·exact h
   ·exact h
   ·rename_i e1 e2;rw [delete_eq] at h;simp only [e1,e2];exact h
   ·rename_i e1 e2;simp only [e1,e2];exact h
   ·exact h.elim
  | value x=>exact h
  | invoke r m=>exact h
 | _=>exact h
theorem wpOp_impl {dr:Bool} {o:Op} {st:St} {K:SV→St→Prop} (h:wpOp' (stdOps E) E dr o st K):wpOp E dr o st K:=by
 have idx:∀{t:TypeId} {xo i:Operand} {s:SV},valOf st xo=s→(∀id off n,s≠.msl id off n)→(∀m xs,s.elems=some (m,xs)→s=s)→wpIdx (stdOps E) E t s (valOf st i) st K→Res.go (opIndexAddr E t s (valOf st i) st) K:=by
  intro t xo i s hs hm _ h
  unfold wpIdx at h
  split at h
  ·rename_i e m xs kk n hk hx hi
   split at h
   ·rename_i hc
    have e1:opIndexAddr E t s (valOf st i) st=some ⟨0≤n∧n<xs.length,.val (.ptr (xs.getD n.toNat .any).cells 0),st⟩:=by
     unfold opIndexAddr
     simp only [hi,hk]
     rw [if_neg hc.2]
     cases s with
     | msl a b c=>exact absurd rfl (hm _ _ _)
     | row a b c d e=>cases hx
     | _=>simp only [hx];rw [if_pos hc.1]
    rw [e1]
    exact h
   ·exact h.elim
  ·exact h.elim
 unfold wpOp' at h
 split at h
 ·simp only [wpOp]
  split at h
  ·rename_i h1
   simp only [h1]
   split at h
   ·rename_i h2;simp only [h2];exact h
   ·rename_i h2
    simp only [h2]
    cases dr with
    | true=>exact h.elim
    | false=>exact ⟨rfl,h⟩
  ·rename_i h1
   simp only [h1]
   cases dr with
   | true=>exact h.elim
   | false=>exact ⟨rfl,h⟩
  ·rename_i h1
   simp only [h1]
   split at h
   ·rename_i h2
    simp only [h2]
    cases dr with
    | true=>exact h.elim
    | false=>exact ⟨rfl,h⟩
   ·rename_i h2
    simp only [h2]
    cases dr with
    | true=>exact h.elim
    | false=>exact ⟨rfl,h⟩
  ·exact h.elim
 ·simp only [wpOp]
  split at h
  ·rename_i hr
   simp only [hr]
   cases dr with
   | true=>exact h.elim
   | false=>exact ⟨rfl,h⟩
  ·rename_i hr
   simp only [hr]
   exact eval_impl h
 ·rename_i t a
  show Res.go (evalOp E (.load t a) st) K
  split at h
  ·rename_i hx;simp only [evalOp,hx];exact h
  ·rename_i hx
   split at h
   ·simp only [evalOp,hx];exact h
   ·exact eval_impl h
  ·exact eval_impl h
 ·rename_i t a x
  show Res.go (evalOp E (.store t a x) st) K
  split at h
  ·rename_i hx;simp only [evalOp,hx];exact h
  ·rename_i hx
   split at h
   ·simp only [evalOp,hx];exact h
   ·exact eval_impl h
  ·exact eval_impl h
 ·rename_i t
  show Res.go (evalOp E (.alloc t) st) K
  split at h
  ·exact h
  ·exact eval_impl h
 ·rename_i t x
  show Res.go (evalOp E (.box t x) st) K
  split at h
  ·exact h
  ·exact eval_impl h
 ·rename_i t x i
  show Res.go (evalOp E (.indexAddr t x i) st) K
  split at h
  ·rename_i hx;simp only [evalOp,hx];exact idx hx (by intros;simp) (by intros;rfl) h
  ·rename_i hx;simp only [evalOp,hx];exact idx hx (by intros;simp) (by intros;rfl) h
  ·rename_i hx;simp only [evalOp,hx];exact idx hx (by intros;simp) (by intros;rfl) h
  ·exact eval_impl h
 ·exact lookup_impl h
 ·exact entry_impl h
 ·cases dr with
  | true=>exact h.elim
  | false=>exact ⟨rfl,h⟩
 ·cases dr with
  | true=>exact h.elim
  | false=>exact ⟨rfl,mapEntry_impl h⟩
 ·rename_i op t x y u
  simp only [wpOp]
  split at h
  ·rename_i b hb
   simp only [hb]
   cases dr with
   | true=>exact h.elim
   | false=>exact ⟨rfl,h⟩
  ·rename_i hb
   simp only [hb]
   exact eval_impl h
 ·rename_i h1 h1' h2 h2' ha hb h2'' h4 h5 h6 h7 h8
  have h3:=eval_impl h
  unfold wpOp
  split
  ·exact (h1 _ _ _ rfl).elim
  ·exact (h1' _ _ rfl).elim
  ·exact (h6 _ rfl).elim
  ·exact (h7 _ _ _ rfl).elim
  ·exact (h8 _ _ _ _ _ rfl).elim
  ·exact h3
theorem Res.go_mono {r:Option Res} {K K':SV→St→Prop} (hk:∀v s,K v s→K' v s) (h:Res.go r K):Res.go r K':=by
 unfold Res.go at *
 split at h
 ·exact ⟨h.1,hk _ _ h.2⟩
 ·exact h.elim
theorem wpAppR_mono {ts:List TypeId} {xs:List SV} {st:St} {K K':SV→St→Prop} (hk:∀v s,K v s→K' v s) (h:wpAppR E ts xs st K):wpAppR E ts xs st K':=by
 unfold wpAppR at *
 split at h
 ·split at h
  ·obtain ⟨a1,a2,a3,a4,a5,h⟩:=h
   refine ⟨a1,a2,a3,a4,a5,?_⟩
   split at h
   ·exact ⟨h.1,h.2.1,fun cap h1 h2=>hk _ _ (h.2.2 cap h1 h2)⟩
   ·obtain ⟨b1,b2,cells,b3,b4,b5,b6⟩:=h
    exact ⟨b1,b2,cells,b3,b4,fun h=>hk _ _ (b5 h),fun h cap' h1 h2=>hk _ _ (b6 h cap' h1 h2)⟩
   ·exact h.elim
  ·exact h.elim
 ·exact h.elim
theorem wpOp_mono {dr:Bool} {o:Op} {st:St} {K K':SV→St→Prop} (hk:∀v s,K v s→K' v s) (h:wpOp E dr o st K):wpOp E dr o st K':=by
 unfold wpOp at *
 split at h
 ·split at h
  ·split at h
   ·obtain ⟨r,h1,h2⟩:=h;exact ⟨r,h1,hk _ _ h2⟩
   ·obtain ⟨h0,h⟩:=h
    refine ⟨h0,?_⟩
    rcases h with ⟨st',l',ps,hF,hp,r,h1,h2⟩ | ⟨hc,id,off,m,len,cap,cells,xs,r,a1,a2,a3,a4,a5,a6,a7⟩ | ⟨QR,h1,h2⟩
    ·exact .inl ⟨st',l',ps,hF,hp,r,h1,hk _ _ h2⟩
    ·exact .inr (.inl ⟨hc,id,off,m,len,cap,cells,xs,r,a1,a2,a3,a4,a5,a6,hk _ _ a7⟩)
    ·exact .inr (.inr ⟨QR,h1,fun a b c d hq=>hk _ _ (h2 a b c d hq)⟩)
  ·obtain ⟨h0,QR,h1,h2⟩:=h;exact ⟨h0,QR,h1,fun a b c d hq=>hk _ _ (h2 a b c d hq)⟩
  ·split at h
   ·obtain ⟨h0,h1,k1,h2,h3,h4⟩:=h;exact ⟨h0,h1,k1,h2,hk _ _ h3,hk _ _ h4⟩
   ·obtain ⟨h0,st',l',ps,hF,hp,h1,k1,h2,h3,h4⟩:=h;exact ⟨h0,st',l',ps,hF,hp,h1,k1,h2,hk _ _ h3,hk _ _ h4⟩
  ·exact h.elim
 ·split at h
  ·exact ⟨h.1,wpAppR_mono hk h.2⟩
  ·exact Res.go_mono hk h
 ·refine ⟨h.1,?_⟩
  have h:=h.2
  unfold wpNext at *
  split at h
  ·split at h
   ·split at h
    ·exact ⟨fun e=>hk _ _ (h.1 e),fun k v a b=>hk _ _ (h.2 k v a b)⟩
    ·exact h.elim
   ·exact h.elim
  ·exact h.elim
 ·refine ⟨h.1,?_⟩
  have h:=h.2
  unfold wpMapEntry at *
  split at h
  ·split at h
   ·exact ⟨h.1,h.2.1,fun n=>hk _ _ (h.2.2 n)⟩
   ·exact h.elim
  ·exact h.elim
 ·split at h
  ·refine ⟨h.1,?_⟩
   have h:=h.2
   unfold wpNilq at *
   split at h
   ·exact ⟨fun e=>hk _ _ (h.1 e),hk _ _ h.2⟩
   ·exact h.elim
  ·exact Res.go_mono hk h
 ·exact Res.go_mono hk h
theorem wpOps_mono {dr:Bool} {ops:List Oper} {K K':St→Prop} (hk:∀s,K s→K' s):∀{l:List Oper} {st:St},wpOps E dr ops l st K→wpOps E dr ops l st K'
 | [],st,h=>hk _ h
 | o::rest,st,h=>by
  simp only [wpOps] at h ⊢
  split at h
  ·exact wpOp_mono (fun v s h=>wpOps_mono hk h) h
  ·split at h
   ·exact h.elim
   ·split at h
    ·exact wpOps_mono hk h
    ·exact ⟨fun e=>wpOp_mono (fun v s h=>wpOps_mono hk h) (h.1 e),fun e=>wpOps_mono hk (h.2 e)⟩
    ·exact h.elim
theorem wpAll_mono {ops:Array Oper} {K K':St→Prop} (hk:∀s,K s→K' s):∀{fuel:Nat} {listed:Array Bool} {st:St},wpAll E ops fuel listed st K→wpAll E ops fuel listed st K'
 | 0,listed,st,h=>by
  rw [wpAll] at h ⊢
  split at h
  ·rename_i h0;exact hk _ h
  ·exact h.elim
 | fuel+1,listed,st,h=>by
  rw [wpAll] at h ⊢
  split at h
  ·rename_i h0;exact hk _ h
  ·rename_i i r h0
   refine allL_mono (fun i h=>?_) h
   split at h
   ·exact h.elim
   ·rename_i o ho
    exact wpOps_mono (fun st' h=>wpAll_mono hk h) h
theorem wpC_mono:∀{c:Code} {nb:Nat × Nat} {st:St} {Q Q':AX→St→Prop},(∀e s,Q e s→Q' e s)→wpC E c nb st Q→wpC E c nb st Q':=by
 intro c
 induction c with
 | skip=>intro nb st Q Q' hk h;exact hk _ _ h
 | region id ops draw =>
  intro nb st Q Q' hk h
  simp only [wpC] at h ⊢
  split at h
  ·rename_i he
   try simp only [he]
   exact wpAll_mono (hk .normal) h
  ·rename_i c he
   try simp only [he]
   refine ⟨h.1,wpOps_mono (fun s h=>?_) h.2⟩
   split at h
   ·exact h.elim
   ·exact wpOps_mono (fun s' h=>wpAll_mono (hk .normal) h) h
  ·rename_i he
   try simp only [he]
   exact ⟨h.1,wpOps_mono (hk .normal) h.2⟩
 | seq a b iha ihb =>
  intro nb st Q Q' hk h
  refine iha (fun e s h=>?_) h
  cases e with
  | normal=>exact ihb hk h
  | exit i=>exact hk _ _ h
  | ret=>exact hk _ _ h
 | cond c a b iha ihb =>
  intro nb st Q Q' hk h
  simp only [wpC] at h ⊢
  split at h
  ·exact ⟨fun e=>iha hk (h.1 e),fun e=>ihb hk (h.2 e)⟩
  ·exact h.elim
 | block id body ih =>
  intro nb st Q Q' hk h
  refine ih (fun e s h=>?_) h
  cases e with
  | normal=>exact hk _ _ h
  | exit i =>
   simp only at h ⊢
   split at h
   ·rename_i hi;rw [if_pos hi];exact hk _ _ h
   ·rename_i hi;rw [if_neg hi];exact hk _ _ h
  | ret=>exact hk _ _ h
 | loop body ih =>
  intro nb st Q Q' hk h
  obtain ⟨I,h0,hs⟩:=h
  refine ⟨I,h0,fun n s hI=>ih (fun e s h=>?_) (hs n s hI)⟩
  cases e with
  | normal=>exact h
  | exit i=>exact hk _ _ h
  | ret=>exact hk _ _ h
 | exit id=>intro nb st Q Q' hk h;exact hk _ _ h
 | ret=>intro nb st Q Q' hk h;exact hk _ _ h
 | label l=>intro nb st Q Q' hk h;exact hk _ _ h
 | rangeFunc f ps a b iha ihb =>
  intro nb st Q Q' hk h
  simp only [wpC] at h ⊢
  split at h
  ·obtain ⟨xs,an,h1,h2,I,s0,h3,h4,h5,h6,h7⟩:=h
   refine ⟨xs,an,h1,h2,I,s0,h3,h4,h5,fun k k1 s x hx hI=>iha (fun e s1 h=>?_) (h6 k k1 s x hx hI),fun k s hf hI=>hk _ _ (h7 k s hf hI)⟩
   cases e with
   | normal =>
    refine ihb (fun e s2 h=>?_) h
    cases e with
    | normal=>exact h
    | exit i=>exact hk _ _ h
    | ret=>exact hk _ _ h
   | exit i=>exact h
   | ret=>exact h
  ·exact h.elim
 | scope b ih=>intro nb st Q Q' hk h;exact ih hk h
 | goto l=>intro nb st Q Q' hk h;exact h.elim
 | refuse s=>intro nb st Q Q' hk h;exact h.elim
theorem way_iff {b:Bool} {X Y:Unit→Prop}:way b X Y↔(b=true→X ())∧(b=false→Y ()):=by cases b<;>simp [way]
theorem wpOps_impl {dr:Bool} {ops:List Oper} {K:St→Prop}:∀{l:List Oper} {st:St},wpOps' (stdOps E) E dr ops l st K→wpOps E dr ops l st K
 | [],st,h=>h
 | o::rest,st,h=>by
  simp only [wpOps',wpOps] at h ⊢
  split at h
  ·rename_i hg;simp only [hg];exact wpOp_mono (fun v s h=>wpOps_impl h) (wpOp_impl h)
  ·rename_i hg
   simp only [hg]
   split at h
   ·exact h.elim
   ·rename_i ht
    simp only [ht]
    split at h
    ·rename_i hs;simp only [hs];exact wpOps_impl h
    ·rename_i hs
     simp only [hs]
     split at h
     ·rw [way_iff] at h
      exact ⟨fun e=>wpOp_mono (fun v s h=>wpOps_impl h) (wpOp_impl (h.1 e)),fun e=>wpOps_impl (h.2 e)⟩
     ·rw [way_iff] at h
      exact ⟨fun e=>wpOp_mono (fun v s h=>wpOps_impl h) (wpOp_impl (h.2 e)),fun e=>wpOps_impl (h.1 e)⟩
    ·exact h.elim
theorem wpAll_impl {ops:Array Oper}:∀{fuel:Nat} {listed:Array Bool} {st:St} {K:St→Prop},wpAll' (stdOps E) E ops fuel listed st K→wpAll E ops fuel listed st K
 | 0,listed,st,K,h=>h
 | fuel+1,listed,st,K,h=>by
  rw [wpAll'] at h
  rw [wpAll]
  split at h
  ·rename_i h0;simp only [h0];exact h
  ·rename_i i r h0
   simp only [h0]
   refine allL_mono (fun i h=>?_) h
   split at h
   ·exact h.elim
   ·rename_i o ho
    simp only [ho]
    exact wpOps_mono (fun st' h=>wpAll_impl h) (wpOps_impl h)
theorem wpC_impl:∀{c:Code} {nb:Nat × Nat} {st:St} {Q:AX→St→Prop},wpC' (stdOps E) E c nb st Q→wpC E c nb st Q:=by
 intro c
 induction c with
 | skip=>intro nb st Q h;exact h
 | region id ops draw =>
  intro nb st Q h
  simp only [wpC'] at h
  simp only [wpC]
  split at h
  ·rename_i he
   simp only [he]
   exact wpAll_impl h
  ·rename_i c he
   simp only [he]
   refine ⟨h.1,wpOps_mono (fun s h=>?_) (wpOps_impl h.2)⟩
   split at h
   ·exact h.elim
   ·rename_i o ho
    simp only [ho]
    exact wpOps_mono (fun s' h=>wpAll_impl h) (wpOps_impl h)
  ·rename_i he
   simp only [he]
   refine ⟨?_,wpOps_impl h.2⟩
   have:=h.1
   cases draw with
   | false=>rfl
   | true=>exact this
 | seq a b iha ihb =>
  intro nb st Q h
  have h1:=iha (st:=st) (Q:=fun e st'=>match e with | .normal=>wpC' (stdOps E) E b nb st' Q | .exit i=>Q (.exit i) st' | .ret=>Q .ret st') h
  show wpC E a nb st fun e st'=>match e with | .normal=>wpC E b nb st' Q | .exit i=>Q (.exit i) st' | .ret=>Q .ret st'
  refine wpC_mono (fun e s h=>?_) h1
  cases e with
  | normal=>exact ihb h
  | exit i=>exact h
  | ret=>exact h
 | cond c a b iha ihb =>
  intro nb st Q h
  simp only [wpC',wpC] at h ⊢
  split at h
  ·rename_i hv
   simp only [hv]
   rw [way_iff] at h
   exact ⟨fun e=>iha (h.1 e),fun e=>ihb (h.2 e)⟩
  ·exact h.elim
 | block id body ih=>intro nb st Q h;exact ih h
 | loop body ih =>
  intro nb st Q h
  obtain ⟨I,h0,hs⟩:=h
  exact ⟨I,h0,fun n s hI=>ih (hs n s hI)⟩
 | exit id=>intro nb st Q h;exact h
 | ret=>intro nb st Q h;exact h
 | label l=>intro nb st Q h;exact h
 | rangeFunc f ps a b iha ihb =>
  intro nb st Q h
  simp only [wpC',wpC] at h ⊢
  split at h
  ·rename_i hv
   simp only [hv]
   obtain ⟨xs,an,h1,h2,I,s0,h3,h4,h5,h6,h7⟩:=h
   refine ⟨xs,an,h1,by simpa using h2,I,s0,h3,h4,h5,fun k k1 s x hx hI=>?_,h7⟩
   have h8:=iha (h6 k k1 s x hx hI)
   refine wpC_mono (fun e s1 h=>?_) h8
   cases e with
   | normal=>exact ihb h
   | exit i=>exact h
   | ret=>exact h
  ·exact h.elim
 | scope b ih=>intro nb st Q h;exact ih h
 | goto l=>intro nb st Q h;exact h.elim
 | refuse s=>intro nb st Q h;exact h.elim
theorem callsPV_by {P:Program} {T:TypeId→TD} {clo:FuncId→Bool} {rows:Bool} (hE:EnvOk ⟨P,T,clo,rows,.none⟩) {f:FuncId} {fn:Func} {c:Code} (hf:P.funcs[f]?=some fn) (hb:fn.body=some c) (he:Enters P f) {args:List PV} {p:PV}
  (h:∀A q P' Y,Real args→A=stdOps ⟨P,T,clo,rows,.none⟩→p=q→wpC' A ⟨P',T,clo,rows,Y⟩ c (0,0) ⟨args.map .val++List.replicate (fn.ntmps - args.length) .undef,[],[],⟨[],0⟩⟩ fun e st=>match e with | .exit _=>False | _=>retFz ⟨P',T,clo,rows,Y⟩ fn.results.toList st q):CallsPV P f args p :=
 callsPV_of (E:=⟨P,T,clo,rows,.none⟩) hE rfl hf hb he fun hr=>wpC_impl (E:=⟨P,T,clo,rows,.none⟩) (h _ _ P .none hr rfl rfl)
theorem callsR_by {P:Program} {T:TypeId→TD} {clo:FuncId→Bool} {rows:Bool} {Y:YS} (hE:EnvOk ⟨P,T,clo,rows,Y⟩) {f:FuncId} {fn:Func} {c:Code} (hf:P.funcs[f]?=some fn) (hb:fn.body=some c) (he:Enters P f)
  {svs:List SV} {bx:List (Option (List SV))} {tk:List (Nat × TypeId)} {ax:Ax} {Q:SV→List (Option (List SV))→List (Nat × TypeId)→Ax→Prop}
  (hnt:(bx.length,ax.mp.length)=(0,0)→tk=[])
  (h:∀A P' Y' nb (R:St→Prop),A=stdOps ⟨P,T,clo,rows,Y⟩→nb=(bx.length,ax.mp.length)→(∀st,retR ⟨P',T,clo,rows,Y'⟩ nb fn.results.toList st Q→R st) →
   wpC' A ⟨P',T,clo,rows,Y'⟩ c nb ⟨svs++List.replicate (fn.ntmps - svs.length) .undef,bx,tk,ax⟩ fun e st=>match e with | .exit _=>False | _=>R st):CallsR ⟨P,T,clo,rows,Y⟩ f svs bx tk ax Q :=
 callsR_of (E:=⟨P,T,clo,rows,Y⟩) hE hf hb he hnt (wpC_impl (E:=⟨P,T,clo,rows,Y⟩) (h _ P Y _ _ rfl rfl fun _ h=>h))
theorem MapOk.flags {P:Program} {T:TypeId→TD} {c1 c2:FuncId→Bool} {r1 r2:Bool} {Y:YS} {M:List Nat} {S:Addr→Prop} {w:World} {b:Nat} {c:MapC} (h:MapOk ⟨P,T,c1,r1,Y⟩ M S w b c):MapOk ⟨P,T,c2,r2,Y⟩ M S w b c:=by
 match c,h with
 | .plain k e n,h=>exact h
 | .ents es um,h=>exact h
 | .iter (some m) es l u,h=>exact h
 | .iter none es l u,h=>exact h
 | .gone,_=>trivial
theorem CallsR.flags {P:Program} {T:TypeId→TD} {clo clo':FuncId→Bool} {rows rows':Bool} {Y:YS} {f:FuncId} {svs:List SV} {bx:List (Option (List SV))} {tk:List (Nat × TypeId)} {ax:Ax} {Q:SV→List (Option (List SV))→List (Nat × TypeId)→Ax→Prop}
  (h:CallsR ⟨P,T,clo,rows,Y⟩ f svs bx tk ax Q):CallsR ⟨P,T,clo',rows',Y⟩ f svs bx tk ax Q:=by
 have hi:∀{c1 c2:FuncId→Bool} {r1 r2:Bool} {B:Nat} {S0:Addr→Prop} {bx:List (Option (List SV))} {tk:List (Nat × TypeId)} {ax:Ax} {G:Gh} {S:Addr→Prop} {w:World},Inv ⟨P,T,c1,r1,Y⟩ B S0 bx tk ax G S w→Inv ⟨P,T,c2,r2,Y⟩ B S0 bx tk ax G S w :=
  fun h=>⟨h.base,h.s0,h.slt,h.lbx,h.ltk,h.old,h.dist,h.box,h.tok,h.apart,h.lmp,h.dmp,h.mpo,fun i b c h1 h2=>(MapOk.flags (h.mpk i b c h1 h2)),h.flt,h.fbx,h.ftk,h.fmp,h.yl⟩
 refine ⟨h.1,fun B S0 w0 G S w vs a b c d cs=>?_⟩
 obtain ⟨e,w',fr,⟨v,r,bx',tk',ax',G',S',hq,h1,h2,h3⟩,h4⟩:=h.2 B S0 w0 G S w vs (hi a) b c d cs
 exact ⟨e,w',fr,⟨v,r,bx',tk',ax',G',S',hq,h1,hi h2,h3⟩,h4⟩
theorem seqPV_by {P:Program} {T:TypeId→TD} {clo:FuncId→Bool} {rows:Bool} (hE:EnvOk ⟨P,T,clo,rows,.none⟩) {f:FuncId} {fn:Func} {c:Code} (hf:P.funcs[f]?=some fn) (hb:fn.body=some c) (he:Enters P f) (hr:fn.results=#[]) {caps:List PV} {xs:List (List PV)}
  (h:∀A P' Y Y' l (R:Nat→Prop),Real caps→Y.ys=xs→(l=Y.l∧Y.any=false)→A=stdOps ⟨P,T,clo,rows,Y⟩→(∀k,(k=xs.length∨k=xs.length+1)→R k) →
   wpC' A ⟨P',T,clo,rows,Y'⟩ c (0,0) ⟨(PV.yld l::caps).map .val++List.replicate (fn.ntmps - (caps.length+1)) .undef,[],[],⟨[],0⟩⟩ fun e st=>match e with | .exit _=>False | _=>R st.ax.yk):SeqPV P f caps xs :=
 seqG_of (an:=false) hE hf hb he hr fun Y hY hYa _ hR=>wpC_impl (E:=⟨P,T,clo,rows,Y⟩) (h _ P Y Y _ _ hR hY ⟨rfl,hYa⟩ rfl fun _ h=>h)
theorem seqPV_byY {P:Program} {T:TypeId→TD} {clo:FuncId→Bool} {rows:Bool} (hE:EnvOk ⟨P,T,clo,rows,.none⟩) {f:FuncId} {fn:Func} {c:Code} (hf:P.funcs[f]?=some fn) (hb:fn.body=some c) (he:Enters P f) (hr:fn.results=#[]) {caps:List PV} {xs:List (List PV)}
  (h:∀A P' Y Y' l (R:Nat→Prop),Real caps→Y.ys=xs→EnvOk ⟨P,T,clo,rows,Y⟩→(l=Y.l∧Y.any=false)→A=stdOps ⟨P,T,clo,rows,Y⟩→(∀k,(k=xs.length∨k=xs.length+1)→R k) →
   wpC' A ⟨P',T,clo,rows,Y'⟩ c (0,0) ⟨(PV.yld l::caps).map .val++List.replicate (fn.ntmps - (caps.length+1)) .undef,[],[],⟨[],0⟩⟩ fun e st=>match e with | .exit _=>False | _=>R st.ax.yk):SeqPV P f caps xs :=
 seqG_of (an:=false) hE hf hb he hr fun Y hY hYa hYok hR=>wpC_impl (E:=⟨P,T,clo,rows,Y⟩) (h _ P Y Y _ _ hR hY ⟨hE.td,hE.mixed,hYok⟩ ⟨rfl,hYa⟩ rfl fun _ h=>h)
theorem seqAny_by {P:Program} {T:TypeId→TD} {clo:FuncId→Bool} {rows:Bool} (hE:EnvOk ⟨P,T,clo,rows,.none⟩) {f:FuncId} {fn:Func} {c:Code} (hf:P.funcs[f]?=some fn) (hb:fn.body=some c) (he:Enters P f) (hr:fn.results=#[]) {caps:List PV} {xs:List (List PV)}
  (h:∀A P' Y Y' l (R:Nat→Prop),Real caps→Y.ys=xs→(l=Y.l∧Y.any=true)→A=stdOps ⟨P,T,clo,rows,Y⟩→(∀k,(k+1=2 ^ xs.length∨k=2 ^ xs.length)→R k) →
   wpC' A ⟨P',T,clo,rows,Y'⟩ c (0,0) ⟨(PV.yld l::caps).map .val++List.replicate (fn.ntmps - (caps.length+1)) .undef,[],[],⟨[],0⟩⟩ fun e st=>match e with | .exit _=>False | _=>R st.ax.yk):SeqG P f caps xs true :=
 seqG_of (an:=true) hE hf hb he hr fun Y hY hYa _ hR=>wpC_impl (E:=⟨P,T,clo,rows,Y⟩) (h _ P Y Y _ _ hR hY ⟨rfl,hYa⟩ rfl fun _ h=>h)
end
end Go.Abs
/-
  What a walk's stops are left by: calls, elements of lists, loops.
-/
namespace Go.Abs
open Go.RowKit
def dsts:Code→List Nat
 | .region _ ops _=>ops.toList.filterMap (·.dst)
 | .seq a b=>dsts a++dsts b
 | .cond _ a b=>dsts a++dsts b
 | .block _ b=>dsts b
 | .loop b=>dsts b
 | .rangeFunc _ _ _ _=>[]
 | _=>[]
def forgetL (l:List Nat):Nat→List SV→List SV
 | _,[]=>[]
 | i,s::r=>(if l.contains i then .val .any else s)::forgetL l (i+1) r
def havoc (c:Code) (st:St):St:={ st with sl:=forgetL (dsts c) 0 st.sl }
section
variable {A:Ops} {E:Env}
theorem call_intro (hA:A=stdOps E) {f:FuncId} {args:List PV} {K:PV→Prop} {r:PV} (h:CallsPV E.P f args r) (hk:K r):A.call f args K:=by
 subst hA;exact ⟨r,h,hk⟩
theorem call_intro' (hA:A=stdOps E) {f:FuncId} {args args':List PV} {K:PV→Prop} {r:PV} (h:CallsPV E.P f args' r) (e:args=args') (hk:K r):A.call f args K:=by
 subst hA;subst e;exact ⟨r,h,hk⟩
theorem callB (hA:A=stdOps E) {f:FuncId} {args args':List PV} {K:PV→Prop} {b:Bool} (h:CallsPV E.P f args' (.bool b)) (e:args=args') (hk:∀r,r=b→K (.bool r)):A.call f args K:=by
 subst hA;subst e;exact ⟨_,h,hk _ rfl⟩
theorem callI (hA:A=stdOps E) {f:FuncId} {args args':List PV} {K:PV→Prop} {k:IntKind} {n:Int} (h:CallsPV E.P f args' (.int k n)) (e:args=args') (hk:∀r,r=n→K (.int k r)):A.call f args K:=by
 subst hA;subst e;exact ⟨_,h,hk _ rfl⟩
theorem deepR_intro (hA:A=stdOps E) {f:FuncId} {svs:List SV} {st:St} {K:SV→St→Prop} {Q:SV→List (Option (List SV))→List (Nat × TypeId)→Ax→Prop} (h:CallsR E f svs st.bx st.tk st.ax Q) (hk:∀r bx' tk' ax',Q r bx' tk' ax'→K r ⟨st.sl,bx',tk',ax'⟩) :
  A.deep f svs st K:=by
 subst hA;exact ⟨Q,h,hk⟩
theorem shareR_intro (hA:A=stdOps E) {f:FuncId} {caps:List PV} {svs:List SV} {st:St} {K:SV→St→Prop} {Q:SV→List (Option (List SV))→List (Nat × TypeId)→Ax→Prop} (h:CallsR E f (svs++caps.map SV.val) st.bx st.tk st.ax Q) (hk:∀r bx' tk' ax',Q r bx' tk' ax'→K r ⟨st.sl,bx',tk',ax'⟩) :
  A.opn f caps svs st K:=by
 subst hA;exact .inr (.inr ⟨Q,h,hk⟩)
theorem appR_intro (hA:A=stdOps E) {ts:List TypeId} {xs:List SV} {st:St} {K:SV→St→Prop} (h:wpAppR E ts xs st K):A.appR ts xs st K:=by subst hA;exact h
theorem frz_intro (hA:A=stdOps E) {st st':St} {l l':List SV} {f:FuncId} {caps:List PV} {K:SV→St→Prop} {ps:List PV} {r:PV} (h:Frz st l st' l') (hp:pvsOf l'=some ps) (hf:CallsPV E.P f (ps++caps) r) (hk:K (.val r) st'):A.opn f caps l st K:=by
 subst hA;exact .inl ⟨st',l',ps,h,hp,r,hf,hk⟩
theorem idx_map (hA:A=stdOps E) {α:Type} (enc:α→PV) (l:List α) {n:Int} {K:List PV→Prop} (h0:0≤n) (h1:n<l.length) (hk:∀x,l[n.toNat]?=some x→K (enc x).cells):A.idx (l.map enc) n K:=by
 subst hA
 have hn:n.toNat<l.length:=by omega
 refine ⟨⟨h0,by simpa using h1⟩,?_⟩
 have:=hk l[n.toNat] (List.getElem?_eq_getElem hn)
 simpa [List.getD_eq_getElem?_getD,hn] using this
theorem idx_var (hA:A=stdOps E) {α:Type} {enc:α→PV} {l:List α} {xs:List PV} (hx:l.map enc=xs) {n:Int} {K:List PV→Prop} (h0:0≤n) (h1:n<l.length) (hk:∀x,l[n.toNat]?=some x→K (enc x).cells):A.idx xs n K:=by
 subst hx;exact idx_map hA enc l h0 h1 hk
theorem yld_intro (hA:A=stdOps E) {Y:YS} (hY:Y=E.Y) {l:Nat} {ps:List PV} {st:St} {K:SV→St→Prop} (hl:l=Y.l∧Y.any=false) (hy:Y.ys[st.ax.yk]?=some ps) (h1:K (.val (.bool true)) (st.yks (st.ax.yk+1))) (h2:K (.val (.bool false)) (st.yks (Y.ys.length+1))) :
  A.yld l ps st K:=by
 subst hA hY
 refine ⟨hl.1,st.ax.yk+1,?_,h1,?_⟩
 ·rw [hl.2];exact ⟨hy,rfl⟩
 ·rw [hl.2];exact h2
theorem yld_intro' (hA:A=stdOps E) {Y:YS} (hY:Y=E.Y) {l:Nat} {ps:List PV} {st:St} {K:SV→St→Prop} (hl:l=Y.l∧Y.any=false) (hy:Y.ys[st.ax.yk]?=some ps) (h1:K (.val (.bool true)) (st.yks (st.ax.yk+1))) (h2:∀n,n=Y.ys.length+1→K (.val (.bool false)) (st.yks n)) :
  A.yld l ps st K:=yld_intro hA hY hl hy h1 (h2 _ rfl)
theorem yld_any (hA:A=stdOps E) {Y:YS} (hY:Y=E.Y) {l:Nat} {ps:List PV} {st:St} {K:SV→St→Prop} (hl:l=Y.l∧Y.any=true) (i:Nat) (hk:st.ax.yk<2 ^ Y.ys.length) (hy:Y.ys[i]?=some ps) (hb:st.ax.yk.testBit i=false)
  (h1:∀n,n=st.ax.yk ||| 2 ^ i→K (.val (.bool true)) (st.yks n)) (h2:∀n,n=2 ^ Y.ys.length→K (.val (.bool false)) (st.yks n)):A.yld l ps st K:=by
 subst hA hY
 refine ⟨hl.1,st.ax.yk ||| 2 ^ i,?_,h1 _ rfl,?_⟩
 ·rw [hl.2];exact ⟨hk,i,hy,hb,rfl⟩
 ·rw [hl.2];exact h2 _ rfl
theorem draw_intro (hA:A=stdOps E) {ops:List Oper} (h:anyOk E.rm ops=true):A.draw ops:=by subst hA;exact h
theorem cut_intro (hA:A=stdOps E) {ops:List Oper} {c:Nat} (h:cutOk E.rm ops c=true):A.cutOk ops c:=by subst hA;exact h
theorem rld_intro (hA:A=stdOps E) {t:TypeId} {x:SV} {st:St} {K:SV→St→Prop} (h:Res.go (opLoad E t x.norm st) K):A.rld t x st K:=by subst hA;exact h
theorem rst_intro (hA:A=stdOps E) {t:TypeId} {x v:SV} {st:St} {K:SV→St→Prop} (h:Res.go (opStore E t x.norm v st) K):A.rst t x v st K:=by subst hA;exact h
theorem alc_intro (hA:A=stdOps E) {t:TypeId} {st:St} {K:SV→St→Prop} (h:Res.go (opAlloc E t st) K):A.alc t st K:=by subst hA;exact h
theorem bxo_intro (hA:A=stdOps E) {t:TypeId} {v:SV} {st:St} {K:SV→St→Prop} (h:Res.go (opBox E t v st) K):A.bxo t v st K:=by subst hA;exact h
theorem alc_at (hA:A=stdOps E) {t:TypeId} {z:List PV} {st:St} {K:SV→St→Prop} (hz:(E.T t).zero=z) (hs:(E.T t).size=z.length) (h0:z.length≠0) (h:∀n B,n=st.bx.length→B=st.bx++[some (z.map zeroSV)]→K (.box n 0) { st with bx:=B }):A.alc t st K:=by
 refine alc_intro hA ?_
 unfold opAlloc
 rw [hz,hs,if_pos ⟨rfl,h0⟩]
 exact ⟨trivial,h _ _ rfl rfl⟩
theorem rld_at (hA:A=stdOps E) {t:TypeId} {id off:Nat} {cs:List SV} {c:SV} {st:St} {K:SV→St→Prop} (hb:st.bx[id]?=some (some cs)) (ha:(E.T t).agg=false) (hs:(E.T t).size=1) (hc:cs[off]?=some c) (h:K c st):A.rld t (.box id off) st K:=by
 refine rld_intro hA ?_
 show Res.go (opLoad E t (.box id off) st) K
 unfold opLoad
 simp only [List.getD_eq_getElem?_getD,hb,Option.getD_some,ha,hs,if_true,Bool.false_eq_true,if_false,hc]
 exact ⟨(List.getElem?_eq_some_iff.1 hc).1,h⟩
theorem rldA_at (hA:A=stdOps E) {t:TypeId} {id off:Nat} {cs:List SV} {l:List PV} {st:St} {K:SV→St→Prop} (hb:st.bx[id]?=some (some cs)) (ha:(E.T t).agg=true) (hc:pvsOf ((cs.drop off).take (E.T t).size)=some l) (hl:off+(E.T t).size≤cs.length) (h:K (.val (.agg l)) st):A.rld t (.box id off) st K:=by
 refine rld_intro hA ?_
 show Res.go (opLoad E t (.box id off) st) K
 unfold opLoad
 simp only [List.getD_eq_getElem?_getD,hb,Option.getD_some,ha,if_true,hc]
 exact ⟨hl,h⟩
theorem rst_at (hA:A=stdOps E) {t:TypeId} {id off:Nat} {cs:List SV} {v:SV} {st:St} {K:SV→St→Prop} (hb:st.bx[id]?=some (some cs)) (ha:(E.T t).agg=false) (hs:(E.T t).size=1) (h1:v.one=true) (hl:off<cs.length) (h:∀B,B=st.bx.set id (some (cs.set off v))→K .undef { st with bx:=B }):A.rst t (.box id off) v st K:=by
 refine rst_intro hA ?_
 show Res.go (opStore E t (.box id off) v st) K
 unfold opStore
 simp only [List.getD_eq_getElem?_getD,hb,Option.getD_some,ha,hs,h1,Bool.false_eq_true,if_false,and_self,if_true]
 exact ⟨hl,h _ rfl⟩
theorem rstA_at (hA:A=stdOps E) {t:TypeId} {id off:Nat} {cs:List SV} {l:List PV} {st:St} {K:SV→St→Prop} (hb:st.bx[id]?=some (some cs)) (ha:(E.T t).agg=true) (hs:(E.T t).size=l.length) (h1:l.all PV.one=true) (hl:off+l.length≤cs.length) (h:∀B,B=st.bx.set id (some (cs.take off++(l.map SV.val++cs.drop (off+l.length))))→K .undef { st with bx:=B }):A.rst t (.box id off) (.val (.agg l)) st K:=by
 refine rst_intro hA ?_
 show Res.go (opStore E t (.box id off) _ st) K
 unfold opStore
 simp only [List.getD_eq_getElem?_getD,hb,Option.getD_some,ha,hs,h1,and_self,if_true]
 exact ⟨hl,h _ rfl⟩
def again (nb:Nat × Nat) {α:Type} (f:α→St) (inv:α→Prop) (μ:α→Nat) (n:Nat) (s':St):Prop :=
 ∃n' s'',n'<n∧Wk nb s' s''∧∃y,inv y∧μ y=n'∧s''=f y
theorem again_intro {nb:Nat × Nat} {α:Type} {f:α→St} {inv:α→Prop} {μ:α→Nat} {n:Nat} {s':St} (y:α) (h1:Wk nb s' (f y)) (h2:inv y) (h3:μ y<n):again nb f inv μ n s' :=
 ⟨μ y,_,h3,h1,y,h2,rfl,rfl⟩
theorem loop_intro (hA:A=stdOps E) {nb:Nat × Nat} {α:Type} (f:α→St) (inv:α→Prop) (μ:α→Nat) (x0:α) {body:Code} {W:St→(AX→St→Prop)→Prop} {st:St} {Q:AX→St→Prop}
  (h0:Wk nb st (f x0)) (hi:inv x0)
  (hs:∀x,inv x→W (f x) fun e s'=>match e with | .normal=>again nb f inv μ (μ x) s' | .exit i=>Q (.exit i) s' | .ret=>Q .ret s'):A.loop nb body W st Q:=by
 subst hA
 refine ⟨fun n s=>∃x,inv x∧μ x=n∧s=f x,⟨μ x0,_,h0,x0,hi,rfl,rfl⟩,?_⟩
 rintro n s ⟨x,hx,rfl,rfl⟩
 exact hs x hx
theorem loop_set (hA:A=stdOps E) {nb:Nat × Nat} {α:Type} (g:α→St→St) (inv:α→Prop) (μ:α→Nat) (x0:α) {body:Code} {W:St→(AX→St→Prop)→Prop} {st:St} {Q:AX→St→Prop}
  (h0:Wk nb st (g x0 (havoc body st))) (hi:inv x0)
  (hs:∀(R:St→Prop) x,inv x→(∀y s',Wk nb s' (g y (havoc body st))→inv y→μ y < μ x→R s')→W (g x (havoc body st)) fun e s'=>match e with | .normal=>R s' | .exit i=>Q (.exit i) s' | .ret=>Q .ret s'):A.loop nb body W st Q :=
 loop_intro hA (fun y=>g y (havoc body st)) inv μ x0 h0 hi fun x hx=>hs _ x hx fun y _ h1 h2 h3=>again_intro y h1 h2 h3
theorem rng_introG (hA:A=stdOps E) {nb:Nat × Nat} {α:Type} {f:FuncId} {caps:List PV} {np:Nat} {xs:List (List PV)} {an:Bool} (hseq:SeqG E.P f caps xs an) (hnp:∀x∈xs,x.length=np) (g:α→St→St) (inv:Nat→α→Prop) (x0:α)
  {W:List PV→St→(AX→St→Prop)→Prop} {st:St} {Q:AX→St→Prop} (hsl:∀y,(g y st).sl=(g x0 st).sl) (h0:Wk nb st (g x0 st)) (hi:inv 0 x0)
  (hs:∀(R:St→Prop) k k1 y x,nxOf an xs k x k1→inv k y→(∀z s',Wk (g y st).nbs (s'.withSl (g x0 st).sl) (g z st)→inv k1 z→R s') →
   W x (g y st) fun e s'=>match e with | .normal=>R s' | .exit i=>Q (.exit i) (s'.withSl (g x0 st).sl) | .ret=>Q .ret (s'.withSl (g x0 st).sl))
  (hd:∀k y,finOf an xs k→inv k y→Q .normal (g y st)):A.rng nb f caps np W st Q:=by
 subst hA
 refine ⟨xs,an,hseq,hnp,fun k s=>∃y,inv k y∧s=g y st,_,h0,⟨x0,hi,rfl⟩,?_,?_,?_⟩
 ·rintro k s ⟨y,_,rfl⟩;exact hsl y
 ·rintro k k1 s x hx ⟨y,hy,rfl⟩
  exact hs (fun s'=>∃s3,Wk (g y st).nbs (s'.withSl (g x0 st).sl) s3∧∃z,inv k1 z∧s3=g z st) k k1 y x hx hy fun z s' h1 h2=>⟨_,h1,z,h2,rfl⟩
 ·rintro k s hk ⟨y,hy,rfl⟩
  exact hd k y hk hy
theorem rng_intro (hA:A=stdOps E) {nb:Nat × Nat} {α:Type} {f:FuncId} {caps:List PV} {np:Nat} {xs:List (List PV)} (hseq:SeqPV E.P f caps xs) (hnp:∀x∈xs,x.length=np) (g:α→St→St) (inv:Nat→α→Prop) (x0:α)
  {W:List PV→St→(AX→St→Prop)→Prop} {st:St} {Q:AX→St→Prop} (hsl:∀y,(g y st).sl=(g x0 st).sl) (h0:Wk nb st (g x0 st)) (hi:inv 0 x0)
  (hs:∀(R:St→Prop) k y x,xs[k]?=some x→inv k y→(∀z s',Wk (g y st).nbs (s'.withSl (g x0 st).sl) (g z st)→inv (k+1) z→R s') →
   W x (g y st) fun e s'=>match e with | .normal=>R s' | .exit i=>Q (.exit i) (s'.withSl (g x0 st).sl) | .ret=>Q .ret (s'.withSl (g x0 st).sl))
  (hd:∀y,inv xs.length y→Q .normal (g y st)):A.rng nb f caps np W st Q :=
 rng_introG hA hseq hnp g inv x0 hsl h0 hi (fun R k k1 y x hx hy hR=>by
  obtain ⟨h1,rfl⟩:=hx
  exact hs R k y x h1 hy hR) (fun k y hk hy=>hd y (by have hk:k=xs.length:=hk;rw [←hk];exact hy))
/-! ### maps -/
theorem look_intro (hA:A=stdOps E) {es:List (PV × PV)} {k z v:PV} {b:Bool} {K:PV→Bool→Prop} (hv:(lookE es k).getD z=v) (hb:(lookE es k).isSome=b) (hk:K v b):A.look es k z K:=by subst hA hv hb;exact hk
theorem ent_intro (hA:A=stdOps E) {es:List (PV × PV)} {k v:PV} {K:PV→Prop} (hv:lookE es k=some v) (hk:K v):A.ent es k K:=by subst hA;exact ⟨by rw [hv];rfl,by rw [hv];exact hk⟩
theorem nxt_intro (hA:A=stdOps E) {left:List PV} {es:List (PV × PV)} {D:Unit→Prop} {M:PV→PV→Prop} (h0:left=[]→D ()) (h1:∀k v,k∈left→(k,v)∈es→M k v):A.nxt left es D M:=by subst hA;exact ⟨h0,h1⟩
theorem ment_intro (hA:A=stdOps E) {K:Int→Prop} (h:∀n,K n):A.ment K:=by subst hA;exact h
theorem same_intro (hA:A=stdOps E) {a b:Int} (h:a=b):A.same a b:=by subst hA;exact h
theorem kOk_intro (hA:A=stdOps E) {ag:Bool} {ks:List SK} {es:List (PV × PV)} {k:PV} (h:keysOk ag ks es k):A.kOk ag ks es k:=by subst hA;exact h
theorem wk_sl {nb:Nat × Nat} {sl sl':List SV} {bx:List (Option (List SV))} {tk:List (Nat × TypeId)} {ax:Ax} (h:leL sl sl'):Wk nb ⟨sl,bx,tk,ax⟩ ⟨sl',bx,tk,ax⟩:=Wk.forget sl sl' bx tk ax h
theorem wk_round {nb:Nat × Nat} {sl sl':List SV} {bx bx':List (Option (List SV))} {tk:List (Nat × TypeId)} {mp mp':List MapC} {yk:Nat} (h:leL sl sl') (hnb:nb.1≤bx.length) (hnm:mp'=[]∨(nb.2≤mp.length∧mpIn mp=true))
  (h1:sl'.all (SV.within bx.length mp.length tk.length)=true) (h2:bx.all (fun o=>match o with | none=>true | some cs=>cs.all (SV.within bx.length mp.length tk.length))=true) :
  Wk nb ⟨sl,bx++bx',tk,⟨mp++mp',yk⟩⟩ ⟨sl',bx,tk,⟨mp,yk⟩⟩ :=
 Wk.trans _ _ _ (Wk.forget sl sl' _ tk _ h) (Wk.drop sl' bx bx' tk mp mp' yk hnb hnm h1 h2)
theorem wk_roundT {sl sl':List SV} {bx bx':List (Option (List SV))} {tk tk':List (Nat × TypeId)} {ax:Ax} (h:leL sl sl') (h1:sl'.all (SV.within bx.length ax.mp.length tk.length)=true) (h2:bx.all (fun o=>match o with | none=>true | some cs=>cs.all (SV.within bx.length ax.mp.length tk.length))=true)
  (h3:sl'.all (SV.within bx.length ax.mp.length (tk++tk').length)=true) (h4:bx.all (fun o=>match o with | none=>true | some cs=>cs.all (SV.within bx.length ax.mp.length (tk++tk').length))=true) :
  Wk (0,0) ⟨sl,bx++bx',tk++tk',ax⟩ ⟨sl',bx,tk,ax⟩ :=
 Wk.trans _ _ _ (Wk.forget sl sl' _ _ ax h) (Wk.trans _ ⟨sl',bx,tk++tk',ax⟩ _ (by
  have:=Wk.drop (nb:=(0,0)) sl' bx bx' (tk++tk') ax.mp [] ax.yk (Nat.zero_le _) (.inl rfl) h3 h4
  rw [List.append_nil] at this;exact this) (Wk.dropT sl' bx tk tk' ax rfl h1 h2))
theorem wk_own {nb:Nat × Nat} {sl sl':List SV} {bx:List (Option (List SV))} {tk:List (Nat × TypeId)} {ax:Ax} (t m m':Nat) (xs:List PV) (e:TypeId) (h:sl[t]?=some (.lit m xs)) (hm:m=m'∨xs=[]) (hl:leL (sl.set t (.own tk.length m' xs)) sl') {tk':List (Nat × TypeId)} (htk:tk'=tk++[(xs.length,e)]) (hm0:m'≠0:=by decide) :
  Wk nb ⟨sl,bx,tk,ax⟩ ⟨sl',bx,tk',ax⟩:=by
 subst htk;exact Wk.trans _ _ _ (Wk.own sl bx tk ax t m m' xs e h hm hm0) (Wk.forget _ _ _ _ _ hl)
end
end Go.Abs
