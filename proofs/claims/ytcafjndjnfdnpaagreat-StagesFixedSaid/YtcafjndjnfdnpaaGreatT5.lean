/- Contracts of the functions, and what they rest on: part 5. -/
import Derived.Test.YtcafjndjnfdnpaaGreatT4
set_option linter.unusedVariables false
set_option linter.unusedSimpArgs false
namespace Go.Abs
open Go.RowKit
def Zsk:TypeDesc->TK
 | .int k=>.int k
 | .bool=>.bool
 | .string=>.str
 | .slice e=>.slice e
 | .struct F=>.struct (F.toList.map λ f=>(f.offset,f.type))
 | .array n e=>.array n e
 | .pointer e=>.ptr e
 | .map k e=>.map k e
 | .func ..=>.func
 | _=>.other
def Zhi (i:TypeInfo) (z:Value) (u:TypeDesc):Bool :=
 z.cells.toList.all Value.oneCell'&&(z.cells.size == i.size)&&(if Zbc u then (match z with | .agg _=>true | _=>false) else z.oneCell')
def Zsl (P:Program) (t:TypeId):TypeDesc->Option (List SK)
 | .struct _=>if P.eqGuardType P.depth t then none else flatK P 20 t
 | _=>none
def Znb (P:Program) (t:TypeId):TD :=
 match P.underlying t with
 | none=>default
 | some u =>
  match P.info? t with
  | none=>⟨Zsk u,0,0,false,Zsl P t u,[]⟩
  | some i =>
   match i.zero with
   | none=>⟨Zsk u,0,0,false,Zsl P t u,[]⟩
   | some z=>if Zhi i z u then ⟨Zsk u,i.size,i.bytes,Zbc u,Zsl P t u,z.cells.toList.map Za1⟩ else ⟨Zsk u,0,0,false,Zsl P t u,[]⟩
theorem Zwx {P:Program} {t:TypeId} {u:TypeDesc} (h:P.underlying t=some u):KOk P t (Zsk u):=by
 cases u<;>first | exact h | exact ⟨_,h,rfl⟩ | trivial
theorem Zvp (P:Program) (t:TypeId):Zt3 P (Znb P) t:=by
 have hk:KOk P t (Znb P t).k:=by
  unfold Znb
  cases h:P.underlying t with
  | none=>exact trivial
  | some u =>
   simp only
   repeat' split
   all_goals exact Zwx h
 refine ⟨hk,λ h=>?_,λ ks h=>?_⟩
 ·have hx:∃u i z,P.underlying t=some u/\P.info? t=some i/\i.zero=some z/\Zhi i z u=true:=by
   unfold Znb at h
   cases hu:P.underlying t with
   | none=>rw [hu] at h;rcases h with h | h<;>simp [default] at h
   | some u =>
    rw [hu] at h
    simp only at h
    cases hi:P.info? t with
    | none=>rw [hi] at h;rcases h with h | h<;>simp at h
    | some i =>
     rw [hi] at h
     simp only at h
     cases hz:i.zero with
     | none=>rw [hz] at h;rcases h with h | h<;>simp at h
     | some z =>
      rw [hz] at h
      simp only at h
      by_cases hf:Zhi i z u=true
      ·exact ⟨u,i,z,rfl,rfl,hz,hf⟩
      ·rw [if_neg hf] at h
       rcases h with h | h<;>simp at h
  obtain ⟨u,i,z,hu,hi,hz,hf⟩:=hx
  have e:∃eq,Znb P t=⟨Zsk u,i.size,i.bytes,Zbc u,eq,z.cells.toList.map Za1⟩:=by
   unfold Znb
   rw [hu]
   simp only [hi]
   rw [hz]
   simp only [hf,if_true]
   exact ⟨_,rfl⟩
  obtain ⟨eq,e⟩:=e
  rw [e]
  simp only [Zhi,Zyi,beq_iff_eq] at hf
  obtain ⟨⟨h1,h2⟩,h3⟩:=hf
  refine ⟨i,z,u,hi,rfl,rfl,hz,rfl,λ v hv=>Zym.1 h1 v hv,h2,?_,hu,rfl⟩
  show (if Zbc u=true then _ else _)
  split at h3
  ·rename_i ha
   rw [if_pos ha]
   split at h3
   ·exact ⟨_,rfl⟩
   ·cases h3
  ·rename_i ha
   rw [if_neg ha]
   exact h3
 ·unfold Znb at h
  cases hu:P.underlying t with
  | none=>rw [hu] at h;simp [default] at h
  | some u =>
   rw [hu] at h
   simp only at h
   have he:Zsl P t u=some ks:=by
    repeat' split at h
    all_goals exact h
   unfold Zsl at he
   split at he
   ·rename_i F
    split at he
    ·cases he
    ·rename_i hg
     exact ⟨20,by omega,he,by simpa using hg,F,rfl⟩
   ·cases he
theorem Zqy (P:Program) (T:TypeId->TD) (t:TypeId) (h:T t=default):Zt3 P T t:=by
 refine ⟨by rw [h];exact trivial,λ h'=>?_,λ ks h'=>?_⟩
 ·rw [h] at h';rcases h' with h' | h'<;>simp [default] at h'
 ·rw [h] at h';simp [default] at h'
theorem Zvq {P:Program} {T T':TypeId->TD} {t:TypeId} (e:T t=T' t) (h:Zt3 P T' t):Zt3 P T t :=
 ⟨by rw [e];exact h.k,by rw [e];exact h.info,by rw [e];exact h.eq⟩
theorem Zsm {P:Program} {T:TypeId->TD} (clo:FuncId->Bool) (rows:Bool) (n:Nat) (h:(List.range n).map T=(List.range n).map (Znb P)) (hd:∀t,n<=t->T t=default) (hm:P.follows .mixedOrders=true):ZQ ⟨P,T,clo,rows,.none⟩:=by
 refine ⟨λ t=>?_,hm,λ r n k k1 ps vs F S w h=>by have:=Zjs h;simp [YS.none] at this⟩
 rcases Zy6 t n with ht | ht
 ·have e:=congrArg (λ l=>l[t]?) h
  simp only [Zyh,ZzN ht,Zy5,Zyu] at e
  exact Zvq e (Zvp P t)
 ·exact Zqy P T t (hd t ht)
structure Ops where
 iAdd:Int->Int->Int
 iSub:Int->Int->Int
 iMul:Int->Int->Int
 iDiv:Int->Int->Int
 iMod:Int->Int->Int
 iNeg:Int->Int
 iMin:Int->Int->Int
 iMax:Int->Int->Int
 iEq:Int->Int->Bool
 iLt:Int->Int->Bool
 iLe:Int->Int->Bool
 wOp:BinOp->IntKind->Int->Int->Int
 wShl:IntKind->Int->Int->Int
 wShr:Int->Int->Int
 wNot:Int->Int
 wrap:IntKind->Int->Int
 bNot:Bool->Bool
 bAnd:Bool->Bool->Bool
 bEq:Bool->Bool->Bool
 sEq:ByteArray->ByteArray->Bool
 sSize:ByteArray->Int
 sSub:ByteArray->Int->Int->ByteArray
 sByte:ByteArray->Int->Int
 lLen:List PV->Int
 lSub:List PV->Int->Int->List PV
 lApp:List PV->List PV->List PV
 lRep:Int->PV->List PV
 nLen:List PV->Nat
 inR:Int->Prop
 negOk:Int->Prop
 nz:Int->Prop
 within:Int->Int->Prop
 sl:Int->Int->Int->Prop
 room:Nat->Nat->Prop
 mks:Int->Int->Nat->Prop
 tkEq:Nat->Nat->Prop
 idx:List PV->Int->(List PV->Prop)->Prop
 call:FuncId->List PV->(PV->Prop)->Prop
 opn:FuncId->List PV->List SV->St->(SV->St->Prop)->Prop
 frzY:Nat->List SV->St->(SV->St->Prop)->Prop
 appR:List TypeId->List SV->St->(SV->St->Prop)->Prop
 nOff:Nat->Int->Nat->Nat
 deep:FuncId->List SV->St->(SV->St->Prop)->Prop
 iNat:Nat->Int
 nNat:Int->Nat
 rowZ:Int->List PV->List SV
 loop:Nat × Nat->Code->(St->(AX->St->Prop)->Prop)->St->(AX->St->Prop)->Prop
 rng:Nat × Nat->FuncId->List PV->Nat->(List PV->St->(AX->St->Prop)->Prop)->St->(AX->St->Prop)->Prop
 yld:Nat->List PV->St->(SV->St->Prop)->Prop
 rld:TypeId->SV->St->(SV->St->Prop)->Prop
 rst:TypeId->SV->SV->St->(SV->St->Prop)->Prop
 alc:TypeId->St->(SV->St->Prop)->Prop
 bxo:TypeId->SV->St->(SV->St->Prop)->Prop
 mapOk:Nat->IntKind->Int->Prop
 nS:Nat->Nat
 draw:List Oper->Prop
 cutOk:List Oper->Nat->Prop
 fits:List PV->Nat->Prop
 tkAt:List (Nat × TypeId)->Nat->TypeId->Nat->Prop
 tkPut:List (Nat × TypeId)->Nat->Nat × TypeId->List (Nat × TypeId)
 kOk:Bool->List SK->List (PV × PV)->PV->Prop
 look:List (PV × PV)->PV->PV->(PV->Bool->Prop)->Prop
 ePut:List (PV × PV)->PV->PV->List (PV × PV)
 eEnt:List (PV × PV)->PV->PV->List (PV × PV)
 eDel:List (PV × PV)->PV->List (PV × PV)
 eLen:List (PV × PV)->Int
 eHas:List (PV × PV)->PV->Prop
 eKeys:List (PV × PV)->List PV
 eZip:List PV->List PV->List (PV × PV)
 ent:List (PV × PV)->PV->(PV->Prop)->Prop
 nxt:List PV->List (PV × PV)->(Unit->Prop)->(PV->PV->Prop)->Prop
 ment:(Int->Prop)->Prop
 same:Int->Int->Prop
 lDrop:List PV->PV->List PV
 cDrop:Option PV->PV->Option PV
def ZwT (op:BinOp) (k:IntKind) (a b:Int):Int :=
 match op with
 | .and=>k.wrap ((BitVec.ofInt k.bits a &&& BitVec.ofInt k.bits b).toNat)
 | .or=>k.wrap ((BitVec.ofInt k.bits a ||| BitVec.ofInt k.bits b).toNat)
 | .add=>k.wrap (a+b)
 | .sub=>k.wrap (a - b)
 | _=>0
def Ze (E:Env):Ops where
 iAdd a b:=a+b
 iSub a b:=a - b
 iMul a b:=a*b
 iDiv a b:=a.tdiv b
 iMod a b:=a.tmod b
 iNeg a:=-a
 iMin a b:=min a b
 iMax a b:=max a b
 iEq a b:=decide (a=b)
 iLt a b:=decide (a<b)
 iLe a b:=decide (a<=b)
 wOp:=ZwT
 wShl k a b:=k.wrap (a*2 ^ b.toNat)
 wShr a b:=a.fdiv (2 ^ b.toNat)
 wNot n:=IntKind.u64.wrap (BitVec.ofInt 64 IntKind.u64.max ^^^ BitVec.ofInt 64 n).toNat
 wrap k n:=k.wrap n
 bNot b:=!b
 bAnd a b:=a&&b
 bEq a b:=decide (a=b)
 sEq a b:=decide (a=b)
 sSize s:=s.size
 sSub s l h:=s.extract l.toNat h.toNat
 sByte s n:=(s.data.toList.getD n.toNat 0).toNat
 lLen xs:=xs.length
 lSub xs l h:=(xs.take h.toNat).drop l.toNat
 lApp xs ys:=xs++ys
 lRep n p:=List.replicate n.toNat p
 nLen xs:=xs.length
 inR:=Zj
 negOk n:=-9223372036854775808<n/\n<=9223372036854775807
 nz b:=b≠0
 within n m:=0<=n/\n<m
 sl l h n:=0<=l/\l<=h/\h<=n
 room n b:=n*(b+1)<=140737488355328
 mks n c b:=0<=n/\n=c/\n*b<=140737488355328/\n<=140737488355328
 tkEq a b:=a=b
 idx xs n K:=(0<=n/\n<xs.length)/\K (xs.getD n.toNat .any).cells
 call f args K:=∃r,Zc E.P f args r/\K r
 opn f caps args st K:=Zt2 E f caps args st K
 frzY l args st K:=Zqd st args λ ps st'=>ZgX E l ps st' K
 appR:=Zcq E
 nOff off l m:=off+l.toNat*m
 deep:=Zqc E
 iNat n:=n
 nNat n:=n.toNat
 rowZ n z:=(List.replicate n.toNat z).flatten.map SV.val
 loop nb _ W st Q:=∃(I:Nat->St->Prop),(∃n0 st0,Wk nb st st0/\I n0 st0) /\
   ∀n s,I n s->W s λ e s'=>match e with | .normal=>∃n' s'',n'<n/\Wk nb s' s''/\I n' s'' | .exit i=>Q (.exit i) s' | .ret=>Q .ret s'
 rng nb f caps np W st Q:=∃xs an,ZkY E.P f caps xs an/\(∀x∈xs,x.length=np)/\∃(I:Nat->St->Prop) (s0:St),Wk nb st s0/\I 0 s0/\(∀k s,I k s->s.sl=s0.sl) /\
    (∀k k1 s x,ZmB an xs k x k1->I k s->W x s λ e s2=>match e with
     | .normal=>∃s3,Wk s.nbs (s2.withSl s0.sl) s3/\I k1 s3
     | .exit i=>Q (.exit i) (s2.withSl s0.sl)
     | .ret=>Q .ret (s2.withSl s0.sl)) /\
    (∀k s,Ziz an xs k->I k s->Q .normal s)
 yld l args st K:=ZgX E l args st K
 rld t x st K:=Res.go (YZ E t x.norm st) K
 rst t x v st K:=Res.go (Zai E t x.norm v st) K
 alc t st K:=Res.go (Zdd E t st) K
 bxo t v st K:=Res.go (Zjv E t v st) K
 mapOk n k a:=n<9223372036854775807/\ZmG k a
 nS n:=n+1
 draw ops:=ZjN E.rm ops=true
 cutOk ops c:=cutOk E.rm ops c=true
 fits cs n:=n<=cs.length
 tkAt tk k e n:=(tk.getD k (0,0)).2=e/\(tk.getD k (0,0)).1=n/\k<tk.length
 tkPut tk k x:=tk.set k x
 kOk:=Yu
 look es k z K:=K ((QG es k).getD z) (QG es k).isSome
 ePut:=Zdz
 eEnt:=ZkX
 eDel:=ZiZ
 eLen es:=es.length
 eHas es k:=ZeS es k=true
 eKeys es:=es.map (·.1)
 eZip:=List.zip
 ent es k K:=(QG es k).isSome=true/\K ((QG es k).getD .any)
 nxt left es D M:=(left=[]->D ())/\∀k v,k∈left->(k,v)∈es->M k v
 ment K:=∀n,K n
 same a b:=a=b
 lDrop l k:=l.filter λ y=>!keq k y
 cDrop u k:=match u with | some c=>if keq k c then none else some c | none=>none
def way (b:Bool) (X Y:Unit->Prop):Prop:=match b with | true=>X () | false=>Y ()
section
variable (A:Ops) (E:Env)
def Znc (c a b:SV) (st:St):Option Res :=
 match c with
 | .val (.bool t)=>match t with | true=>some ⟨True,a,st⟩ | false=>some ⟨True,b,st⟩
 | _=>none
def ZjQ:List PV->Nat->Option PV
 | [],_=>none
 | x::_,0=>some x
 | _::r,n+1=>ZjQ r n
def Zep:List PV->Nat->Nat->Option (List PV)
 | cs,0,n=>if n<=cs.length then some (cs.take n) else none
 | [],_+1,_=>none
 | _::r,o+1,n=>Zep r o n
def Zjm (t:TypeId) (x:SV) (st:St):Option Res :=
 match x with
 | .val (.ptr cs off) =>
  if (E.T t).agg then (match Zep cs off (E.T t).size with | some l=>some ⟨True,.val (.agg l),st⟩ | none=>none)
  else if (E.T t).size=1 then (match ZjQ cs off with | some p=>some ⟨True,.val p,st⟩ | none=>none) else none
 | x=>YZ E t x st
def Znd (t:TypeId) (len cap:SV) (st:St):Option Res :=
 match (E.T t).k,len,cap with
 | .slice e,.val (.int _ n),.val (.int _ c) =>
  if (E.T e).zero.length=(E.T e).size/\0<(E.T e).size then
   if E.rows then some ⟨A.mks n c (E.T e).bytes,.msl st.bx.length 0 (A.nNat n),st.newBx (A.rowZ n (E.T e).zero)⟩ else
   some ⟨A.mks n c (E.T e).bytes,.lit (E.T e).size (A.lRep n (PV.ofCells (E.T e) (E.T e).zero)),st⟩
  else none
 | _,_,_=>none
def Zg6 (o:Option SV) (d:Int):Option Int :=
 match o with
 | none=>some d
 | some (.val (.int _ n))=>some n
 | _=>none
def Zi4 (t:TypeId) (id off m len cap:Nat) (lo hi mx:Option SV) (st:St):Option Res :=
 match mx,(E.T t).k with
 | none,.slice e =>
  if m=(E.T e).size/\m≠0 then
   match lo,Zg6 hi (A.iNat len) with
   | none,some h=>some ⟨A.sl 0 h (A.iNat len),.row id off m (A.nNat h) cap,st⟩
   | some (.val (.int _ l)),some h=>some ⟨A.sl l h (A.iNat len)/\A.within l (A.iNat cap),.row id (A.nOff off l m) m (A.nNat (A.iSub h l)) (A.nNat (A.iSub (A.iNat cap) l)),st⟩
   | _,_=>none
  else none
 | _,_=>none
def Za4 (t:TypeId) (x i:SV) (st:St):Option Res :=
 match E.rows with
 | false=>Q5 E t x i st
 | true =>
  match Zdc i with
  | none=>none
  | some (_,n) =>
   match (E.T t).k,x with
   | .slice e,.msl id off len=>if (E.T e).size=0 then none else some ⟨A.within n (A.iNat len),.rbx id off (A.nNat n) (E.T e).size 0,st⟩
   | .slice e,.row id off _ len _=>if (E.T e).size=0 then none else some ⟨A.within n (A.iNat len),.rbx id off (A.nNat n) (E.T e).size 0,st⟩
   | .array cnt e,.box id off=>if (E.T e).size=0 then none else some ⟨A.within n (A.iNat cnt),.rbx id off (A.nNat n) (E.T e).size 0,st⟩
   | _,.msl _ _ _=>none
   | _,.row _ _ _ _ _=>none
   | _,.box _ _=>none
   | _,x=>Q5 E t x i st
def Zjn (m:SV) (st:St):Option (List (PV × PV)) :=
 match m with
 | .val (.map ks vs)=>some (A.eZip ks vs)
 | .mp id=>match st.ax.mp[id]? with | some (.ents es _)=>some es | _=>none
 | _=>none
def Zeq (t:TypeId) (m x v:SV) (st:St):Option Res :=
 match m with
 | .mp id =>
  match st.ax.mp[id]?,(E.T t).k with
  | some (.plain k e n),.map k' e' =>
   match (E.T k).k,(E.T e).k,x,v with
   | .int kk',.bool,.val (.int kk a),.val (.bool _)=>if k=k'/\e=e'/\kk=kk'/\Zd1 id st.ax.mp=true then some ⟨A.mapOk n kk a,.undef,{ st with ax:={ st.ax with mp:=st.ax.mp.set id (.plain k e (A.nS n)) } }⟩ else none
   | _,_,_,_=>none
  | some (.ents es mk),.map k _ =>
   match Zd0 E k,x,v.pv with
   | some ks,.val key,some p=>some ⟨A.kOk (Zan E k) ks es key/\(match Zd1 id st.ax.mp with | true=>True | false=>A.eHas es key),.undef,st.mps (st.ax.mp.set id (.ents (A.ePut es key p) mk))⟩
   | _,_,_=>none
  | _,_=>none
 | _=>none
def ZhP (t:TypeId) (m x:SV) (ok:Bool) (st:St) (K:SV->St->Prop):Prop :=
 match (E.T t).k,x with
 | .map k e,.val key =>
  match Zd0 E k,Zjn A m st,Zef (E.T e) with
  | some ks,some es,some z=>A.kOk (Zan E k) ks es key/\A.look es key z λ v b=>K (match ok with | true=>.val (.tup [v,.bool b]) | false=>.val v) st
  | _,_,_=>False
 | _,_=>False
def ZrI (id:Nat) (k:PV):ZaK->ZaK
 | .iter (some m) es left cur=>if m=id then .iter (some m) es (A.lDrop left k) (A.cDrop cur k) else .iter (some m) es left cur
 | c=>c
def ZhQ (t k':TypeId) (m x:SV) (st:St):Option Res :=
 match (E.T t).k,m,x with
 | .map k _,.mp id,.val key =>
  match Zd0 E k,st.ax.mp[id]? with
  | some ks,some (.ents es _)=>if k'=k then some ⟨A.kOk (Zan E k) ks es key,.val (.tup []),st.mps ((st.ax.mp.map (ZrI A id key)).set id (.ents (A.eDel es key) none))⟩ else none
  | _,_=>none
 | _,_,_=>none
def ZtL (t:TypeId) (m:SV) (st:St):Option Res :=
 match (E.T t).k,m with
 | .map _ _,.mp id =>
  match st.ax.mp[id]? with
  | some (.ents es _)=>some ⟨True,.it st.ax.mp.length,st.mps (st.ax.mp++[.iter (some id) [] (A.eKeys es) none])⟩
  | _=>none
 | .map _ _,.val (.map ks vs)=>some ⟨True,.it st.ax.mp.length,st.mps (st.ax.mp++[.iter none (A.eZip ks vs) ks none])⟩
 | _,_=>none
def ZjR (x:SV) (st:St) (K:SV->St->Prop):Prop :=
 match x with
 | .it id =>
  match st.ax.mp[id]? with
  | some (.iter src es _ (some k)) =>
   match Zeg st src es with
   | some es=>A.ent es k λ v=>K (.val (.tup [k,v])) st
   | none=>False
  | _=>False
 | _=>False
def Zlj (m s v:SV) (st:St):Option Res :=
 match m,s,v.pv with
 | .mp id,.val (.int .i64 n),some p =>
  match st.ax.mp[id]? with
  | some (.ents es (some (k,n')))=>if k.flat=true then some ⟨A.same n n',.undef,st.mps (st.ax.mp.set id (.ents (A.ePut es k p) none))⟩ else none
  | _=>none
 | _,_,_=>none
def Zvr (x:SV) (st:St) (K:SV->St->Prop):Prop :=
 match x with
 | .it id =>
  match st.ax.mp[id]? with
  | some (.iter src es left _) =>
   match Zeg st src es with
   | some es'=>A.nxt left es' (λ _=>K (.val (.tup [.bool false])) st) λ k v=>K (.val (.tup [.bool true,k,v])) (st.mps (st.ax.mp.set id (.iter src es (A.lDrop left k) (some k))))
   | none=>False
  | _=>False
 | _=>False
def Zfd (t:TypeId) (m x:SV) (st:St) (K:SV->St->Prop):Prop :=
 match (E.T t).k,m,x with
 | .map k e,.mp id,.val key =>
  match Zd0 E k,st.ax.mp[id]?,Zef (E.T e) with
  | some ks,some (.ents es _),some z=>A.kOk (Zan E k) ks es key/\(match Zd1 id st.ax.mp with | true=>True | false=>A.eHas es key) /\
    A.look es key z λ v _=>A.ment λ n=>K (.val (.tup [v,.int .i64 n])) (st.mps (st.ax.mp.set id (.ents (A.eEnt es key z) (some (key,n)))))
  | _,_,_=>False
 | _,_,_=>False
def Zwy:List PV->Bool
 | []=>true
 | _=>false
def ZjS (t:TypeId) (x:SV) (lo hi mx:Option SV) (st:St):Option Res :=
 match mx,(E.T t).k with
 | none,.slice e =>
  match x.elems with
  | some (m,xs) =>
   if m=(E.T e).size/\(E.T e).size≠0 then
    match Zg6 lo 0,Zg6 hi (A.lLen xs) with
    | some l,some h=>some ⟨A.sl l h (A.lLen xs),.val (.list m (A.lSub xs l h)),st⟩
    | _,_=>none
   else none
  | none=>none
 | none,.str =>
  match x with
  | .val (.str s) =>
   match Zg6 lo 0,Zg6 hi (A.sSize s) with
   | some l,some h=>some ⟨A.sl l h (A.sSize s),.val (.str (A.sSub s l h)),st⟩
   | _,_=>none
  | _=>none
 | _,_=>none
def Zfe (t:TypeId) (id off:Nat) (lo hi mx:Option SV) (st:St):Option Res :=
 match (E.T t).k,lo with
 | .array n e,none =>
  if (E.T e).size≠0/\n<=9223372036854775807 then
   match hi,mx with
   | some (.val (.int _ h)),some (.val (.int _ m))=>some ⟨A.sl 0 h m/\A.sl 0 m (A.iNat n),.msl id off (A.nNat h),st⟩
   | some (.val (.int _ h)),none=>some ⟨A.sl 0 h (A.iNat n),.msl id off (A.nNat h),st⟩
   | none,none=>some ⟨True,.msl id off n,st⟩
   | _,_=>none
  else none
 | _,_=>none
def ZtM (t:TypeId) (x i:SV) (st:St):Option Res :=
 match Zdc i,(E.T t).k,x with
 | some (_,n),.str,.val (.str s)=>some ⟨A.within n (A.sSize s),.val (.int .u8 (A.sByte s n)),st⟩
 | _,_,_=>none
def ZtN (op:UnOp) (x:SV) (st:St):Option Res :=
 match op,x with
 | .not,.val (.bool b)=>some ⟨True,.val (.bool (A.bNot b)),st⟩
 | .neg,.val (.int .i64 n)=>some ⟨A.negOk n,.val (.int .i64 (A.iNeg n)),st⟩
 | .xor,.val (.int .u64 n)=>some ⟨True,.val (.int .u64 (A.wNot n)),st⟩
 | _,_=>none
def Zqz (src dst:TypeId) (x:SV) (st:St):Option Res :=
 match (E.T src).k,(E.T dst).k,x with
 | .int k,.int k',.val (.int k'' n)=>if k=k'/\k''=k/\k=.i64 then some ⟨A.inR n,.val (.int k n),st⟩ else some ⟨True,.val (.int k' (A.wrap k' n)),st⟩
 | .str,.str,.val (.str s)=>some ⟨True,.val (.str s),st⟩
 | _,_,_=>none
def ZhR (op:BinOp) (a b:Int):Option (Prop × PV) :=
 match op with
 | .add=>some (A.inR (A.iAdd a b),.int .i64 (A.iAdd a b))
 | .sub=>some (A.inR (A.iSub a b),.int .i64 (A.iSub a b))
 | .mul=>some (A.inR (A.iMul a b),.int .i64 (A.iMul a b))
 | .quo=>some (A.nz b/\A.inR (A.iDiv a b),.int .i64 (A.iDiv a b))
 | .rem=>some (A.nz b,.int .i64 (A.iMod a b))
 | .eql=>some (True,.bool (A.iEq a b))
 | .neq=>some (True,.bool (A.bNot (A.iEq a b)))
 | .lss=>some (True,.bool (A.iLt a b))
 | .leq=>some (True,.bool (A.iLe a b))
 | .gtr=>some (True,.bool (A.iLt b a))
 | .geq=>some (True,.bool (A.iLe b a))
 | _=>none
def Zdk (op:BinOp) (k:IntKind) (a b:Int):Option (Prop × PV) :=
 match op with
 | .and=>some (True,.int k (A.wOp .and k a b))
 | .or=>some (True,.int k (A.wOp .or k a b))
 | .add=>some (True,.int k (A.wOp .add k a b))
 | .sub=>some (True,.int k (A.wOp .sub k a b))
 | .rem=>some (A.nz b,.int k (A.iMod a b))
 | .eql=>some (True,.bool (A.iEq a b))
 | .neq=>some (True,.bool (A.bNot (A.iEq a b)))
 | .lss=>some (True,.bool (A.iLt a b))
 | .leq=>some (True,.bool (A.iLe a b))
 | .gtr=>some (True,.bool (A.iLt b a))
 | .geq=>some (True,.bool (A.iLe b a))
 | _=>none
def ZwU:SK->PV->PV->Option Bool
 | .int,.int k a,.int k' b=>if k=k' then some (A.iEq a b) else none
 | .bool,.bool a,.bool b=>some (A.bEq a b)
 | .str,.str a,.str b=>some (A.sEq a b)
 | _,_,_=>none
def Zhj:List SK->List PV->List PV->Option Bool
 | [],[],[]=>some true
 | k::ks,x::xs,y::ys=>match ZwU A k x y,Zhj ks xs ys with | some a,some b=>some (A.bAnd a b) | _,_=>none
 | _,_,_=>none
def Zq0 (op:BinOp) (t:TypeId) (x y:SV) (st:St):Option Res :=
 match x,y with
 | .val (.int k a),.val (.int k' b) =>
  match op with
  | .shl=>some ⟨A.within b k.bits,.val (.int k (A.wShl k a b)),st⟩
  | .shr=>some ⟨A.within b k.bits,.val (.int k (A.wShr a b)),st⟩
  | op =>
   if k=k' then
    match (match E.clo 11000000 with | true=>Zdk A op k a b | false=>if k=.i64 then ZhR A op a b else Zdk A op k a b) with
    | some (s,p)=>some ⟨s,.val p,st⟩
    | none=>none
   else none
 | .val (.bool a),.val (.bool b) =>
  match (E.T t).k,op with
  | .bool,.eql=>some ⟨True,.val (.bool (A.bEq a b)),st⟩
  | .bool,.neq=>some ⟨True,.val (.bool (A.bNot (A.bEq a b))),st⟩
  | _,_=>none
 | .val (.str a),.val (.str b) =>
  match op with
  | .eql=>some ⟨True,.val (.bool (A.sEq a b)),st⟩
  | .neq=>some ⟨True,.val (.bool (A.bNot (A.sEq a b))),st⟩
  | _=>none
 | .val (.agg a),.val (.agg b) =>
  match (E.T t).eq with
  | none=>none
  | some ks =>
   match Zhj A ks a b,op with
   | some r,.eql=>some ⟨True,.val (.bool r),st⟩
   | some r,.neq=>some ⟨True,.val (.bool (A.bNot r)),st⟩
   | _,_=>none
 | _,_=>none
def Zq1 (t:TypeId) (x:SV) (st:St):Option Res :=
 match (E.T t).k,x with
 | .str,.val (.str s)=>some ⟨True,.val (.int .i64 (A.sSize s)),st⟩
 | .slice _,.msl _ _ n=>some ⟨True,.val (.int .i64 (A.iNat n)),st⟩
 | .slice _,.row _ _ _ n _=>some ⟨True,.val (.int .i64 (A.iNat n)),st⟩
 | .slice _,x=>match x.elems with | some (_,xs)=>some ⟨True,.val (.int .i64 (A.lLen xs)),st⟩ | none=>none
 | .array n _,_=>some ⟨True,.val (.int .i64 (A.iNat n)),st⟩
 | .map _ _,x=>match Zjn A x st with | some es=>some ⟨True,.val (.int .i64 (A.eLen es)),st⟩ | none=>none
 | _,_=>none
def ZhS (t:TypeId) (s y:SV) (st:St):Option Res :=
 match (E.T t).k,y.elems with
 | .slice e,some (m',ys) =>
  if m'=(E.T e).size/\0<(E.T e).size/\(E.T e).zero.length=(E.T e).size then
   match s.litz with
   | .lit m xs =>
    if m=(E.T e).size then
     some ⟨A.room (A.nLen (A.lApp xs ys)) (E.T e).bytes,.own st.tk.length (E.T e).size (A.lApp xs ys),{ st with tk:=st.tk++[(A.nLen (A.lApp xs ys),e)] }⟩
    else if m=0/\Zwy xs=true then
     some ⟨A.room (A.nLen ys) (E.T e).bytes,.own st.tk.length (E.T e).size ys,{ st with tk:=st.tk++[(A.nLen ys,e)] }⟩
    else none
   | .own k m xs =>
    match E.clo 8000000 with
    | true =>
     if m=(E.T e).size then
      some ⟨A.tkAt st.tk k e (A.nLen xs)/\A.room (A.nLen (A.lApp xs ys)) (E.T e).bytes,.own k (E.T e).size (A.lApp xs ys),{ st with tk:=A.tkPut st.tk k (A.nLen (A.lApp xs ys),e) }⟩
     else none
    | false =>
    if m=(E.T e).size/\((st.tk.getD k (0,0)).2=e)/\k<st.tk.length then
     some ⟨A.tkEq (st.tk.getD k (0,0)).1 (A.nLen xs)/\A.room (A.nLen (A.lApp xs ys)) (E.T e).bytes,.own k (E.T e).size (A.lApp xs ys),{ st with tk:=st.tk.set k (A.nLen (A.lApp xs ys),e) }⟩
    else none
   | _=>none
  else none
 | _,_=>none
def ZlT (mn:Bool) (xs:List SV) (st:St):Option Res :=
 match xs with
 | [.val (.int .i64 a),.val (.int .i64 b)]=>some ⟨True,.val (.int .i64 (if mn then A.iMin a b else A.iMax a b)),st⟩
 | _=>none
def Zg7 (b:Builtin) (ts:List TypeId) (xs:List SV) (st:St):Option Res :=
 match b,ts,xs with
 | .len,[t],[x]=>Zq1 A E t x st
 | .append,[t,t'],[s,y]=>if t=t' then ZhS A E t s y st else none
 | .min,_,xs=>ZlT A true xs st
 | .max,_,xs=>ZlT A false xs st
 | .delete,[t,k],[m,x]=>ZhQ A E t k m x st
 | .clear,[t],[x]=>ZgW E t x st
 | _,_,_=>none
def QS (o:Op) (st:St):Option Res :=
 match o with
 | .pick c a b=>Znc (Zp st c) (Zp st a) (Zp st b) st
 | .load t a=>Zjm E t (Zp st a) st
 | .binOp op t x y _=>Zq0 A E op t (Zp st x) (Zp st y) st
 | .unOp op _ x=>ZtN A op (Zp st x) st
 | .convert s d x=>Zqz A E s d (Zp st x) st
 | .makeSlice t l c=>Znd A E t (Zp st l) (Zp st c) st
 | .slice t x lo hi mx=>(match Zp st x with | .box id off=>Zfe A E t id off (lo.map (Zp st)) (hi.map (Zp st)) (mx.map (Zp st)) st | .row id off m len cap=>Zi4 A E t id off m len cap (lo.map (Zp st)) (hi.map (Zp st)) (mx.map (Zp st)) st | x=>ZjS A E t x (lo.map (Zp st)) (hi.map (Zp st)) (mx.map (Zp st)) st)
 | .index t x i=>ZtM A E t (Zp st x) (Zp st i) st
 | .call { callee:=.builtin b,args,argTypes }=>Zg7 A E b argTypes.toList (args.toList.map (Zp st)) st
 | .indexAddr t x i =>
  (match Zp st x with
  | .msl id off len=>Za4 A E t (.msl id off len) (Zp st i) st
  | .row id off m len cap=>Za4 A E t (.row id off m len cap) (Zp st i) st
  | .val (.ptr cs off)=>Za4 A E t (.val (.ptr cs off)) (Zp st i) st
  | .box id off=>Za4 A E t (.box id off) (Zp st i) st
  | _=>none)
 | .move x=>some ⟨True,Zp st x,st⟩
 | .assign x=>some ⟨True,Zp st x,st⟩
 | .alloc t=>Zdd E t st
 | .box t x=>Zjv E t (Zp st x) st
 | .build t parts=>ZfC E t (parts.toList.map λ p=>(p.1,Zp st p.2)) st
 | .buildSlice t n parts=>ZaS E t n (parts.toList.map λ p=>(p.1,Zp st p.2)) st
 | .store t a x=>Zai E t (Zp st a) (Zp st x) st
 | .nilCheck x=>(match Zp st x with | .val (.ptr cs o)=>some ⟨True,.val (.ptr cs o),st⟩ | .box id o=>some ⟨True,.box id o,st⟩ | .val (.fn f cs)=>some ⟨True,.val (.fn f cs),st⟩ | .clo f cs=>some ⟨True,.clo f cs,st⟩ | .rbx a b c d e=>some ⟨True,.rbx a b c d e,st⟩ | .val (.yld l)=>some ⟨True,.val (.yld l),st⟩ | _=>none)
 | .makeFunc fn first cap=>Zed E fn (first.toList.map (Zp st)) (cap.toList.map (Zp st)) st
 | .fieldAddr s x f=>Zbu E s (Zp st x) f st
 | .field t x f=>ZfD E t (Zp st x) f st
 | .extract x i=>Zc5 (Zp st x) i st
 | .makeMap t r=>ZfE E t r st
 | .mapUpdate t m x v=>Zeq A E t (Zp st m) (Zp st x) (Zp st v) st
 | .range t m=>ZtL A E t (Zp st m) st
 | .entryStore _ m s v=>Zlj A (Zp st m) (Zp st s) (Zp st v) st
 | _=>none
def Zo2 (t:TypeId) (x i:SV) (st:St) (K:SV->St->Prop):Prop :=
 match (E.T t).k,x.elems,Zdc i with
 | .slice e,some (m,xs),some (_,n)=>if m=(E.T e).size/\(E.T e).size≠0 then A.idx xs n λ cs=>K (.val (.ptr cs 0)) st else False
 | _,_,_=>False
def go' (r:Option Res) (K:SV->St->Prop):Prop :=
 match r with
 | some r=>r.side/\K r.v r.st
 | none=>False
def Zcg (dr:Bool) (o:Op) (st:St) (K:SV->St->Prop):Prop :=
 match o with
 | .call { callee:=.value x,args,.. } =>
  match Zp st x with
  | .val (.fn f caps) =>
   match ZmI E f (args.toList.map (Zp st)) with
   | some l=>A.call f (l++caps) λ r=>K (.val r) st
   | none=>match dr with | true=>False | false=>A.opn f caps (args.toList.map (Zp st)) st K
  | .clo f caps=>match dr with | true=>False | false=>A.deep f (args.toList.map (Zp st)++caps.map Cap.sv) st K
  | .val (.yld l) =>
   match Zam (args.toList.map (Zp st)) with
   | some ps=>match dr with | true=>False | false=>A.yld l ps st K
   | none=>match dr with | true=>False | false=>A.frzY l (args.toList.map (Zp st)) st K
  | _=>False
 | .call { callee:=.builtin .append,args,argTypes } =>
  match ZmH E argTypes.toList with
  | true=>match dr with | true=>False | false=>A.appR argTypes.toList (args.toList.map (Zp st)) st K
  | false=>go' (QS A E o st) K
 | .load t a =>
  match Zp st a with
  | .rbx id off i m k=>A.rld t (.rbx id off i m k) st K
  | .box id off=>match E.clo 10000000 with | true=>A.rld t (.box id off) st K | false=>go' (QS A E o st) K
  | _=>go' (QS A E o st) K
 | .store t a x =>
  match Zp st a with
  | .rbx id off i m k=>A.rst t (.rbx id off i m k) (Zp st x) st K
  | .box id off=>match E.clo 10000000 with | true=>A.rst t (.box id off) (Zp st x) st K | false=>go' (QS A E o st) K
  | _=>go' (QS A E o st) K
 | .alloc t=>match E.clo 10000000 with | true=>A.alc t st K | false=>go' (QS A E o st) K
 | .box t x=>match E.clo 10000000 with | true=>A.bxo t (Zp st x) st K | false=>go' (QS A E o st) K
 | .indexAddr t x i =>
  match Zp st x with
  | .val (.list m xs)=>Zo2 A E t (.val (.list m xs)) (Zp st i) st K
  | .lit m xs=>Zo2 A E t (.lit m xs) (Zp st i) st K
  | .own k m xs=>Zo2 A E t (.own k m xs) (Zp st i) st K
  | _=>go' (QS A E o st) K
 | .lookup t m x ok=>ZhP A E t (Zp st m) (Zp st x) ok st K
 | .entry x=>ZjR A (Zp st x) st K
 | .next x false=>match dr with | true=>False | false=>Zvr A (Zp st x) st K
 | .mapEntry t m x=>match dr with | true=>False | false=>Zfd A E t (Zp st m) (Zp st x) st K
 | .binOp op t x y u =>
  match ZnX op y with
  | some b=>match dr with | true=>False | false=>Zj1 E b t (Zp st x) st K
  | none=>go' (QS A E (.binOp op t x y u) st) K
 | o=>go' (QS A E o st) K
def QT (dr:Bool) (ops:List Oper):List Oper->St->(St->Prop)->Prop
 | [],st,K=>K st
 | o::rest,st,K =>
  match o.guard with
  | none=>Zcg A E dr o.op st λ v st'=>QT dr ops rest (st'.put o.dst v) K
  | some (j,want) =>
   match ZgY ops j with
   | none=>False
   | some t =>
    match st.sl.getD t .undef with
    | .undef=>QT dr ops rest (st.put o.dst .undef) K
    | .val (.bool b) =>
     match want with
     | true=>way b (λ _=>Zcg A E dr o.op (st.put (some t) (.val (.bool true))) λ v st'=>QT dr ops rest (st'.put o.dst v) K)
       (λ _=>QT dr ops rest ((st.put (some t) (.val (.bool false))).put o.dst .undef) K)
     | false=>way b (λ _=>QT dr ops rest ((st.put (some t) (.val (.bool true))).put o.dst .undef) K)
       (λ _=>Zcg A E dr o.op (st.put (some t) (.val (.bool false))) λ v st'=>QT dr ops rest (st'.put o.dst v) K)
    | _=>False
def Za5 (ops:Array Oper):Nat->Array Bool->St->(St->Prop)->Prop
 | 0,listed,st,K=>(match Region.ready .any ops listed with | []=>K st | _=>False)
 | fuel+1,listed,st,K=>(match Region.ready .any ops listed with
  | []=>K st
  | i::r=>ZmJ (i::r) λ i=>(match ops[i]? with
   | none=>False
   | some o=>QT A E false ops.toList [o] st λ st'=>Za5 ops fuel (listed.setIfInBounds i true) st' K))
def QD:Code->Nat × Nat->St->(AX->St->Prop)->Prop
 | .skip,_,st,Q=>Q .normal st
 | .region id ops draw,_,st,Q=>match Zbf E draw id ops.size with
  | .each=>Za5 A E ops ops.size (Array.replicate ops.size false) st (Q .normal)
  | .cut c=>A.cutOk ops.toList c/\QT A E true (ops.toList.take c) (ops.toList.take c) st λ s =>
   (match ops[c]? with
   | none=>False
   | some o=>QT A E false ops.toList [o] s λ s'=>Za5 A E ops (ops.size - (c+1)) (Zcf (c+1) ops.size) s' (Q .normal))
  | .text=>(match draw with | true=>A.draw ops.toList | false=>True)/\QT A E draw ops.toList ops.toList st (Q .normal)
 | .seq a b,nb,st,Q=>QD a nb st λ e st'=>match e with | .normal=>QD b nb st' Q | .exit i=>Q (.exit i) st' | .ret=>Q .ret st'
 | .cond c a b,nb,st,Q =>
  match Zp st c with
  | .val (.bool t)=>way t (λ _=>QD a nb st Q) (λ _=>QD b nb st Q)
  | _=>False
 | .block id body,nb,st,Q=>QD body nb st λ e st'=>match e with | .normal=>Q .normal st' | .exit i=>if i=id then Q .normal st' else Q (.exit i) st' | .ret=>Q .ret st'
 | .loop body,nb,st,Q=>A.loop nb body (λ s Q'=>QD body nb s Q') st Q
 | .rangeFunc g ps asg body,nb,st,Q =>
  match Zp st g with
  | .val (.fn f caps)=>A.rng nb f caps ps.toList.length (λ x s Q'=>QD asg s.nbs (s.params ps.toList x) λ e s1=>match e with | .normal=>QD body s1.nbs s1 Q' | _=>False) st Q
  | _=>False
 | .exit id,_,st,Q=>Q (.exit id) st
 | .ret,_,st,Q=>Q .ret st
 | .label _,_,st,Q=>Q .normal st
 | .scope b,nb,st,Q=>QD b nb st Q
 | _,_,_,_=>False
end
section
variable {E:Env} {Es:Env}
theorem Zi5:∀{cs:List PV} {o:Nat} {p:PV},ZjQ cs o=some p->o<cs.length/\cs.getD o .any=p
 | [],o,p,h=>by cases o<;>cases h
 | x::r,0,p,h=>by cases h;exact ⟨by simp,rfl⟩
 | x::r,o+1,p,h=>by
  obtain ⟨h1,h2⟩:=Zi5 (cs:=r) (o:=o) (by simpa [ZjQ] using h)
  exact ⟨by simpa using h1,by simpa using h2⟩
theorem Zhk:∀{cs:List PV} {o n:Nat} {l:List PV},Zep cs o n=some l->o+n<=cs.length/\(cs.drop o).take n=l
 | cs,0,n,l,h=>by
  cases cs with
  | nil =>
   simp only [Zep] at h
   split at h
   ·rename_i h1;cases h;exact ⟨by simpa using h1,rfl⟩
   ·cases h
  | cons x r =>
   simp only [Zep] at h
   split at h
   ·rename_i h1;cases h;exact ⟨by simpa using h1,rfl⟩
   ·cases h
 | [],o+1,n,l,h=>by simp [Zep] at h
 | x::r,o+1,n,l,h=>by
  obtain ⟨h1,h2⟩:=Zhk (cs:=r) (o:=o) (n:=n) (l:=l) (by simpa [Zep] using h)
  exact ⟨by simp only [ZyM];omega,by simpa using h2⟩
theorem Zsn {t:TypeId} {x:SV} {st:St} {K:SV->St->Prop} (h:go' (Zjm E t x st) K):Res.go (YZ E t x st) K:=by
 unfold Zjm at h
 split at h
 ·rename_i cs off
  simp only [YZ]
  split at h
  ·rename_i ha
   rw [if_pos ha]
   split at h
   ·rename_i l hl
    obtain ⟨h1,h2⟩:=Zhk hl
    exact ⟨h1,by have:=h.2;simpa [h2] using this⟩
   ·exact h.elim
  ·rename_i ha
   rw [if_neg ha]
   split at h
   ·rename_i h1
    rw [if_pos h1]
    split at h
    ·rename_i p hp
     obtain ⟨h1,h2⟩:=Zi5 hp
     exact ⟨h1,by have:=h.2;simpa only [h2] using this⟩
    ·exact h.elim
   ·exact h.elim
 ·exact h
theorem Zso {c a b:SV} {st:St} {K:SV->St->Prop} (h:go' (Znc c a b st) K):Res.go (Zgu c a b st) K:=by
 unfold Znc at h
 unfold Zgu
 split at h
 ·rename_i t
  cases t<;>exact h
 ·exact h.elim
theorem ZtO (o:Option SV) (d:Int):Zg6 o d=ZgU o d:=by
 unfold Zg6 ZgU
 rfl
theorem Zq2 {t:TypeId} {x:SV} {lo hi mx:Option SV} {st:St} {K:SV->St->Prop} (h:go' (ZjS (Ze Es) E t x lo hi mx st) K):Res.go (Zec E t x lo hi mx st) K:=by
 unfold ZjS at h
 unfold Zec
 simp only [ZtO] at h
 split at h
 ·rename_i e hk
  simp only [hk]
  split at h
  ·rename_i m xs hx
   simp only [hx]
   split at h
   ·rename_i hc
    rw [if_pos ⟨.inl hc.1,hc.2⟩]
    exact h
   ·exact h.elim
  ·exact h.elim
 ·rename_i hk
  simp only [hk]
  exact h
 ·exact h.elim
theorem Zlk {t:TypeId} {id off:Nat} {lo hi mx:Option SV} {st:St} {K:SV->St->Prop} (h:go' (Zfe (Ze Es) E t id off lo hi mx st) K):Res.go (Zbo E t id off lo hi mx st) K:=by
 unfold Zfe at h
 unfold Zbo
 split at h
 ·rename_i n e hk
  simp only [hk]
  split at h
  ·rename_i hc
   rw [if_pos hc]
   split at h
   ·obtain ⟨⟨⟨a1,a2,a3⟩,b1,b2,b3⟩,k⟩:=h
    exact ⟨⟨a2,a3,b3⟩,k⟩
   ·obtain ⟨⟨a1,a2,a3⟩,k⟩:=h
    exact ⟨⟨a2,a3⟩,k⟩
   ·exact h
   ·exact h.elim
  ·exact h.elim
 ·exact h.elim
theorem ZjT:∀(ks:List SK) (a b:List PV),Zhj (Ze Es) ks a b=Qm ks a b
 | [],a,b=>by cases a<;>cases b<;>rfl
 | k::ks,a,b=>by
  cases a<;>cases b
  ·rfl
  ·rfl
  ·rfl
  ·simp only [Zhj,Qm,ZjT ks]
   rfl
theorem Zq3 (op:BinOp) (a b:Int):ZhR (Ze Es) op a b=ZeR op a b:=by
 cases op<;>simp [ZhR,ZeR,Ze]
theorem Zsp (op:BinOp) (k:IntKind) (a b:Int):Zdk (Ze Es) op k a b=ZbO op k a b:=by
 cases op<;>simp [Zdk,ZbO,Ze,ZwT]
theorem Zwz (op:BinOp) (t:TypeId) (x y:SV) (st:St):Zq0 (Ze Es) E op t x y st=Zjx E op t x y st:=by
 unfold Zq0 Zjx
 simp only [Zq3,Zsp,ZjT]
 cases x with
 | val p =>
  cases y with
  | val q =>
   cases p with
   | int k a=>cases q with
    | int k' b=>cases op<;>first | rfl | (simp [Ze];done) | (simp [Ze];rfl)
    | _=>rfl
   | bool a=>cases q with
    | bool b=>cases h:(E.T t).k<;>first | rfl | (cases op<;>first | rfl | (simp [Ze];done))
    | _=>rfl
   | str a=>cases q with
    | str b=>cases op<;>first | rfl | (simp [Ze];done)
    | _=>rfl
   | agg a=>cases q with
    | agg b =>
     cases h:(E.T t).eq with
     | none=>rfl
     | some ks =>
      simp only
      cases h2:Qm ks a b with
      | none=>rfl
      | some r=>cases op<;>rfl
    | _=>rfl
   | _=>cases q<;>rfl
  | _=>cases p<;>rfl
 | _=>cases y<;>rfl
theorem Zo3 {t:TypeId} {s y:SV} {st:St} {K:SV->St->Prop} (h:go' (ZhS (Ze Es) E t s y st) K):Res.go (ZdD E t s y st) K:=by
 unfold ZhS at h
 unfold ZdD
 generalize s.litz=s at h ⊢
 split at h
 ·rename_i e m' ys hk hy
  simp only [hk,hy]
  split at h
  ·rename_i hc
   rw [if_pos ⟨.inl hc.1,hc.2⟩]
   split at h
   ·rename_i m xs
    split at h
    ·rename_i hm
     simp only
     rw [if_pos (.inl hm)]
     obtain ⟨h1,h2⟩:=h
     refine ⟨?_,h2⟩
     have h1:(xs++ys).length*((E.T e).bytes+1)<=140737488355328:=h1
     rw [Zyg] at h1
     exact h1
    ·split at h
     ·rename_i hm
      have hx:xs=[]:=by
       have:=hm.2
       cases xs with
       | nil=>rfl
       | cons a b=>cases this
      subst hx
      simp only
      rw [if_pos (by simp)]
      obtain ⟨h1,h2⟩:=h
      refine ⟨?_,h2⟩
      have h1:ys.length*((E.T e).bytes+1)<=140737488355328:=h1
      simpa using h1
     ·exact h.elim
   ·rename_i k m xs
    split at h
    ·split at h
     ·rename_i hm
      obtain ⟨⟨⟨h3,h0,h4⟩,h1⟩,h2⟩:=h
      have h1:(xs++ys).length*((E.T e).bytes+1)<=140737488355328:=h1
      rw [Zyg] at h1
      simp only
      rw [if_pos ⟨.inl hm,h3⟩]
      exact ⟨⟨h0,h4,h1⟩,h2⟩
     ·exact h.elim
    ·split at h
     ·rename_i hm
      simp only
      rw [if_pos ⟨.inl hm.1,hm.2.1⟩]
      obtain ⟨⟨h0,h1⟩,h2⟩:=h
      have h1:(xs++ys).length*((E.T e).bytes+1)<=140737488355328:=h1
      rw [Zyg] at h1
      exact ⟨⟨h0,hm.2.2,h1⟩,h2⟩
     ·exact h.elim
   ·exact h.elim
  ·exact h.elim
 ·exact h.elim
theorem ZlU (m:SV) (st:St):Zjn (Ze Es) m st=Zee m st:=by
 unfold Zjn Zee
 cases m with
 | val p=>cases p<;>rfl
 | _=>rfl
theorem Zw0 (t:TypeId) (x:SV) (st:St):Zq1 (Ze Es) E t x st=Zjz E t x st:=by
 unfold Zq1 Zjz
 simp only [ZlU]
 cases (E.T t).k<;>cases x<;>rfl
theorem Zo4 {t:TypeId} {m x:SV} {ok:Bool} {st:St} {K:SV->St->Prop} (h:ZhP (Ze Es) E t m x ok st K):Res.go (ZcC E t m x ok st) K:=by
 unfold ZhP at h
 rw [ZlU] at h
 unfold ZcC
 split at h
 ·rename_i k e key hk
  simp only [hk]
  split at h
  ·rename_i ks es z h1 h2 h3
   simp only [h1,h2,h3]
   obtain ⟨a,b⟩:=h
   refine ⟨a,?_⟩
   cases ok<;>exact b
  ·exact h.elim
 ·exact h.elim
theorem Zq4 {x:SV} {st:St} {K:SV->St->Prop} (h:ZjR (Ze Es) x st K):Res.go (Zeh x st) K:=by
 unfold ZjR at h
 unfold Zeh
 split at h
 ·split at h
  ·rename_i h1
   simp only [h1]
   split at h
   ·rename_i h2
    simp only [h2]
    exact h
   ·exact h.elim
  ·exact h.elim
 ·exact h.elim
theorem Zq5 (id:Nat) (k:PV):ZrI (Ze Es) id k=ZhK id k:=by
 funext c
 match c with
 | .iter (some m) es left cur=>rfl
 | .iter none es left cur=>rfl
 | .plain _ _ _=>rfl
 | .ents _ _=>rfl
 | .gone=>rfl
theorem Zsq (t k':TypeId) (m x:SV) (st:St):ZhQ (Ze Es) E t k' m x st=ZeT E t k' m x st:=by
 unfold ZhQ ZeT
 simp only [Zq5]
 rfl
theorem ZjU {t:TypeId} {m x v:SV} {st:St} {K:SV->St->Prop} (h:go' (Zeq (Ze Es) E t m x v st) K):Res.go (Zcc E t m x v st) K:=by
 unfold Zeq at h
 unfold Zcc
 split at h
 ·rename_i id
  split at h
  ·rename_i h1 h2
   simp only [h1,h2]
   exact h
  ·rename_i es um k e h1 h2
   simp only [h1,h2]
   split at h
   ·rename_i h3 h4
    simp only [h3,h4]
    obtain ⟨⟨a,b⟩,c⟩:=h
    refine ⟨⟨a,?_⟩,c⟩
    cases hn:Zd1 id st.ax.mp with
    | true=>exact .inl rfl
    | false=>rw [hn] at b;exact .inr b
   ·exact h.elim
  ·exact h.elim
 ·exact h.elim
theorem Zll {t:TypeId} {m x:SV} {st:St} {K:SV->St->Prop} (h:Zfd (Ze Es) E t m x st K):ZbP E t m x st K:=by
 unfold Zfd at h
 unfold ZbP
 split at h
 ·rename_i k e id key h0
  simp only [h0]
  split at h
  ·rename_i h1 h2 h3
   simp only [h1,h2,h3]
   obtain ⟨a,b,c⟩:=h
   refine ⟨a,?_,c⟩
   cases hn:Zd1 id st.ax.mp with
   | true=>exact .inl rfl
   | false=>rw [hn] at b;exact .inr b
  ·exact h.elim
 ·exact h.elim
theorem ZwV (op:UnOp) (x:SV) (st:St):ZtN (Ze Es) op x st=Zqb op x st:=by
 unfold ZtN Zqb
 cases x with
 | val p =>
  cases op<;>cases p<;>first | rfl | skip
  all_goals (rename_i k n;cases k<;>first | rfl | simp [Ze])
 | _=>cases op<;>rfl
theorem Zb7 {t:TypeId} {x i:SV} {st:St} {K:SV->St->Prop} (h:go' (Za4 (Ze Es) E t x i st) K):Res.go (Q5 E t x i st) K:=by
 unfold Za4 at h
 split at h
 ·exact h
 ·rename_i hr
  split at h
  ·exact h.elim
  ·rename_i kk n hi
   split at h
   ·rename_i e id off len hk
    unfold Q5
    simp only [hi,hk]
    split at h
    ·exact h.elim
    ·rename_i hz
     rw [if_neg hz]
     simp only [ZeQ,hr]
     exact h
   ·rename_i e id off m len cap hk
    unfold Q5
    simp only [hi,hk]
    split at h
    ·exact h.elim
    ·rename_i hz
     rw [if_neg hz]
     simp only [ZeQ,hr]
     exact h
   ·rename_i cnt e id off hk
    unfold Q5
    simp only [hi,hk]
    split at h
    ·exact h.elim
    ·rename_i hz
     rw [if_neg hz]
     simp only [ZeQ,hr]
     exact h
   ·exact h.elim
   ·exact h.elim
   ·exact h.elim
   ·exact h
theorem Zlm {t:TypeId} {id off m len cap:Nat} {lo hi mx:Option SV} {st:St} {K:SV->St->Prop} (h:go' (Zi4 (Ze Es) E t id off m len cap lo hi mx st) K):Res.go (ZbN E t id off m len cap lo hi mx st) K:=h
theorem ZaB {o:Op} {st:St} {K:SV->St->Prop} (h:go' (QS (Ze Es) E o st) K):Res.go (ZR E o st) K:=by
 cases o with
 | pick c a b=>exact Zso h
 | load t a =>
  simp only [QS,ZR] at h ⊢
  have:=Zsn h
  cases hq:Zp st a<;>rw [hq] at this<;>first | exact this | exact this.elim
 | store t a x =>
  simp only [QS,ZR] at h ⊢
  cases hq:Zp st a<;>rw [hq] at h<;>first | exact h | exact h.elim
 | nilCheck x =>
  simp only [QS,ZR] at h ⊢
  split at h<;>first | exact h | exact h.elim | (rename_i hq;simp only [hq];exact h)
 | mapUpdate t m x v=>exact ZjU h
 | lookup t m x ok=>exact h.elim
 | entry x=>exact h.elim
 | binOp op t x y z=>simp only [QS,Zwz] at h;exact h
 | unOp op t x=>simp only [QS,ZwV] at h;exact h
 | slice t x lo hi mx =>
  simp only [QS] at h
  simp only [ZR]
  split at h
  ·rename_i hx;simp only [hx];exact Zlk h
  ·rename_i hx;simp only [hx];exact Zlm h
  ·rename_i hne hne2
   split
   ·rename_i hx;exact absurd hx (hne _ _)
   ·rename_i hx;exact absurd hx (hne2 _ _ _ _ _)
   ·exact Zq2 h
 | indexAddr t x i =>
  simp only [QS] at h
  simp only [ZR]
  split at h
  ·rename_i hx;rw [hx];exact Zb7 h
  ·rename_i hx;rw [hx];exact Zb7 h
  ·rename_i hx;rw [hx];exact Zb7 h
  ·rename_i hx;rw [hx];exact Zb7 h
  ·exact h.elim
 | call c =>
  obtain ⟨callee,args,ts⟩:=c
  cases callee with
  | builtin b =>
   simp only [QS,ZR] at h ⊢
   unfold Zg7 at h
   unfold ZdF
   split at h
   ·rename_i e1 e2;rw [Zw0] at h;simp only [e1,e2];exact h
   ·rename_i e1 e2
    simp only [e1,e2]
    split at h
    ·rename_i he;rw [if_pos he];exact Zo3 h
    ·exact h.elim
   ·exact h
   ·exact h
   ·rename_i e1 e2;rw [Zsq] at h;simp only [e1,e2];exact h
   ·rename_i e1 e2;simp only [e1,e2];exact h
   ·exact h.elim
  | value x=>exact h
  | invoke r m=>exact h
 | _=>exact h
theorem ZhT {dr:Bool} {o:Op} {st:St} {K:SV->St->Prop} (h:Zcg (Ze E) E dr o st K):Zcy E dr o st K:=by
 have idx:∀{t:TypeId} {xo i:Operand} {s:SV},Zp st xo=s->(∀id off n,s≠.msl id off n)->(∀m xs,s.elems=some (m,xs)->s=s)->Zo2 (Ze E) E t s (Zp st i) st K->Res.go (Q5 E t s (Zp st i) st) K:=by
  intro t xo i s hs hm _ h
  unfold Zo2 at h
  split at h
  ·rename_i e m xs kk n hk hx hi
   split at h
   ·rename_i hc
    have e1:Q5 E t s (Zp st i) st=some ⟨0<=n/\n<xs.length,.val (.ptr (xs.getD n.toNat .any).cells 0),st⟩:=by
     unfold Q5
     simp only [hi,hk]
     rw [if_neg hc.2]
     cases s with
     | msl a b c=>exact absurd rfl (hm _ _ _)
     | row a b c d e=>cases hx
     | _=>simp only [hx];rw [if_pos hc.1]
    rw [e1]
    exact h
   ·exact h.elim
  ·exact h.elim
 unfold Zcg at h
 split at h
 ·simp only [Zcy]
  split at h
  ·rename_i h1
   simp only [h1]
   split at h
   ·rename_i h2;simp only [h2];exact h
   ·rename_i h2
    simp only [h2]
    cases dr with
    | true=>exact h.elim
    | false=>exact ⟨rfl,h⟩
  ·rename_i h1
   simp only [h1]
   cases dr with
   | true=>exact h.elim
   | false=>exact ⟨rfl,h⟩
  ·rename_i h1
   simp only [h1]
   split at h
   ·rename_i h2
    simp only [h2]
    cases dr with
    | true=>exact h.elim
    | false=>exact ⟨rfl,h⟩
   ·rename_i h2
    simp only [h2]
    cases dr with
    | true=>exact h.elim
    | false=>exact ⟨rfl,h⟩
  ·exact h.elim
 ·simp only [Zcy]
  split at h
  ·rename_i hr
   simp only [hr]
   cases dr with
   | true=>exact h.elim
   | false=>exact ⟨rfl,h⟩
  ·rename_i hr
   simp only [hr]
   exact ZaB h
 ·rename_i t a
  show Res.go (ZR E (.load t a) st) K
  split at h
  ·rename_i hx;simp only [ZR,hx];exact h
  ·rename_i hx
   split at h
   ·simp only [ZR,hx];exact h
   ·exact ZaB h
  ·exact ZaB h
 ·rename_i t a x
  show Res.go (ZR E (.store t a x) st) K
  split at h
  ·rename_i hx;simp only [ZR,hx];exact h
  ·rename_i hx
   split at h
   ·simp only [ZR,hx];exact h
   ·exact ZaB h
  ·exact ZaB h
 ·rename_i t
  show Res.go (ZR E (.alloc t) st) K
  split at h
  ·exact h
  ·exact ZaB h
 ·rename_i t x
  show Res.go (ZR E (.box t x) st) K
  split at h
  ·exact h
  ·exact ZaB h
 ·rename_i t x i
  show Res.go (ZR E (.indexAddr t x i) st) K
  split at h
  ·rename_i hx;simp only [ZR,hx];exact idx hx (by intros;simp) (by intros;rfl) h
  ·rename_i hx;simp only [ZR,hx];exact idx hx (by intros;simp) (by intros;rfl) h
  ·rename_i hx;simp only [ZR,hx];exact idx hx (by intros;simp) (by intros;rfl) h
  ·exact ZaB h
 ·exact Zo4 h
 ·exact Zq4 h
 ·cases dr with
  | true=>exact h.elim
  | false=>exact ⟨rfl,h⟩
 ·cases dr with
  | true=>exact h.elim
  | false=>exact ⟨rfl,Zll h⟩
 ·rename_i op t x y u
  simp only [Zcy]
  split at h
  ·rename_i b hb
   simp only [hb]
   cases dr with
   | true=>exact h.elim
   | false=>exact ⟨rfl,h⟩
  ·rename_i hb
   simp only [hb]
   exact ZaB h
 ·rename_i h1 h1' h2 h2' ha hb h2'' h4 h5 h6 h7 h8
  have h3:=ZaB h
  unfold Zcy
  split
  ·exact (h1 _ _ _ rfl).elim
  ·exact (h1' _ _ rfl).elim
  ·exact (h6 _ rfl).elim
  ·exact (h7 _ _ _ rfl).elim
  ·exact (h8 _ _ _ _ _ rfl).elim
  ·exact h3
theorem Res.go_mono {r:Option Res} {K K':SV->St->Prop} (hk:∀v s,K v s->K' v s) (h:Res.go r K):Res.go r K':=by
 unfold Res.go at *
 split at h
 ·exact ⟨h.1,hk _ _ h.2⟩
 ·exact h.elim
theorem Zo5 {ts:List TypeId} {xs:List SV} {st:St} {K K':SV->St->Prop} (hk:∀v s,K v s->K' v s) (h:Zcq E ts xs st K):Zcq E ts xs st K':=by
 unfold Zcq at *
 split at h
 ·split at h
  ·obtain ⟨a1,a2,a3,a4,a5,h⟩:=h
   refine ⟨a1,a2,a3,a4,a5,?_⟩
   split at h
   ·exact ⟨h.1,h.2.1,λ cap h1 h2=>hk _ _ (h.2.2 cap h1 h2)⟩
   ·obtain ⟨b1,b2,cells,b3,b4,b5,b6⟩:=h
    exact ⟨b1,b2,cells,b3,b4,λ h=>hk _ _ (b5 h),λ h cap' h1 h2=>hk _ _ (b6 h cap' h1 h2)⟩
   ·exact h.elim
  ·exact h.elim
 ·exact h.elim
theorem ZdK {dr:Bool} {o:Op} {st:St} {K K':SV->St->Prop} (hk:∀v s,K v s->K' v s) (h:Zcy E dr o st K):Zcy E dr o st K':=by
 unfold Zcy at *
 split at h
 ·split at h
  ·split at h
   ·obtain ⟨r,h1,h2⟩:=h;exact ⟨r,h1,hk _ _ h2⟩
   ·obtain ⟨h0,h⟩:=h
    refine ⟨h0,?_⟩
    rcases h with ⟨st',l',ps,hF,hp,r,h1,h2⟩ | ⟨hc,id,off,m,len,cap,cells,xs,r,a1,a2,a3,a4,a5,a6,a7⟩ | ⟨QR,h1,h2⟩
    ·exact .inl ⟨st',l',ps,hF,hp,r,h1,hk _ _ h2⟩
    ·exact .inr (.inl ⟨hc,id,off,m,len,cap,cells,xs,r,a1,a2,a3,a4,a5,a6,hk _ _ a7⟩)
    ·exact .inr (.inr ⟨QR,h1,λ a b c d hq=>hk _ _ (h2 a b c d hq)⟩)
  ·obtain ⟨h0,QR,h1,h2⟩:=h;exact ⟨h0,QR,h1,λ a b c d hq=>hk _ _ (h2 a b c d hq)⟩
  ·split at h
   ·obtain ⟨h0,h1,k1,h2,h3,h4⟩:=h;exact ⟨h0,h1,k1,h2,hk _ _ h3,hk _ _ h4⟩
   ·obtain ⟨h0,st',l',ps,hF,hp,h1,k1,h2,h3,h4⟩:=h;exact ⟨h0,st',l',ps,hF,hp,h1,k1,h2,hk _ _ h3,hk _ _ h4⟩
  ·exact h.elim
 ·split at h
  ·exact ⟨h.1,Zo5 hk h.2⟩
  ·exact Res.go_mono hk h
 ·refine ⟨h.1,?_⟩
  have h:=h.2
  unfold ZmF at *
  split at h
  ·split at h
   ·split at h
    ·exact ⟨λ e=>hk _ _ (h.1 e),λ k v a b=>hk _ _ (h.2 k v a b)⟩
    ·exact h.elim
   ·exact h.elim
  ·exact h.elim
 ·refine ⟨h.1,?_⟩
  have h:=h.2
  unfold ZbP at *
  split at h
  ·split at h
   ·exact ⟨h.1,h.2.1,λ n=>hk _ _ (h.2.2 n)⟩
   ·exact h.elim
  ·exact h.elim
 ·split at h
  ·refine ⟨h.1,?_⟩
   have h:=h.2
   unfold Zj1 at *
   split at h
   ·exact ⟨λ e=>hk _ _ (h.1 e),hk _ _ h.2⟩
   ·exact h.elim
  ·exact Res.go_mono hk h
 ·exact Res.go_mono hk h
theorem YL {dr:Bool} {ops:List Oper} {K K':St->Prop} (hk:∀s,K s->K' s):∀{l:List Oper} {st:St},Zbb E dr ops l st K->Zbb E dr ops l st K'
 | [],st,h=>hk _ h
 | o::rest,st,h=>by
  simp only [Zbb] at h ⊢
  split at h
  ·exact ZdK (λ v s h=>YL hk h) h
  ·split at h
   ·exact h.elim
   ·split at h
    ·exact YL hk h
    ·exact ⟨λ e=>ZdK (λ v s h=>YL hk h) (h.1 e),λ e=>YL hk (h.2 e)⟩
    ·exact h.elim
theorem Zg8 {ops:Array Oper} {K K':St->Prop} (hk:∀s,K s->K' s):∀{fuel:Nat} {listed:Array Bool} {st:St},ZeC E ops fuel listed st K->ZeC E ops fuel listed st K'
 | 0,listed,st,h=>by
  rw [ZeC] at h ⊢
  split at h
  ·rename_i h0;exact hk _ h
  ·exact h.elim
 | fuel+1,listed,st,h=>by
  rw [ZeC] at h ⊢
  split at h
  ·rename_i h0;exact hk _ h
  ·rename_i i r h0
   refine ZhL (λ i h=>?_) h
   split at h
   ·exact h.elim
   ·rename_i o ho
    exact YL (λ st' h=>Zg8 hk h) h
theorem Zo6:∀{c:Code} {nb:Nat × Nat} {st:St} {Q Q':AX->St->Prop},(∀e s,Q e s->Q' e s)->wpC E c nb st Q->wpC E c nb st Q':=by
 intro c
 induction c with
 | skip=>intro nb st Q Q' hk h;exact hk _ _ h
 | region id ops draw =>
  intro nb st Q Q' hk h
  simp only [wpC] at h ⊢
  split at h
  ·rename_i he
   try simp only [he]
   exact Zg8 (hk .normal) h
  ·rename_i c he
   try simp only [he]
   refine ⟨h.1,YL (λ s h=>?_) h.2⟩
   split at h
   ·exact h.elim
   ·exact YL (λ s' h=>Zg8 (hk .normal) h) h
  ·rename_i he
   try simp only [he]
   exact ⟨h.1,YL (hk .normal) h.2⟩
 | seq a b iha ihb =>
  intro nb st Q Q' hk h
  refine iha (λ e s h=>?_) h
  cases e with
  | normal=>exact ihb hk h
  | exit i=>exact hk _ _ h
  | ret=>exact hk _ _ h
 | cond c a b iha ihb =>
  intro nb st Q Q' hk h
  simp only [wpC] at h ⊢
  split at h
  ·exact ⟨λ e=>iha hk (h.1 e),λ e=>ihb hk (h.2 e)⟩
  ·exact h.elim
 | block id body ih =>
  intro nb st Q Q' hk h
  refine ih (λ e s h=>?_) h
  cases e with
  | normal=>exact hk _ _ h
  | exit i =>
   simp only at h ⊢
   split at h
   ·rename_i hi;rw [if_pos hi];exact hk _ _ h
   ·rename_i hi;rw [if_neg hi];exact hk _ _ h
  | ret=>exact hk _ _ h
 | loop body ih =>
  intro nb st Q Q' hk h
  obtain ⟨I,h0,hs⟩:=h
  refine ⟨I,h0,λ n s hI=>ih (λ e s h=>?_) (hs n s hI)⟩
  cases e with
  | normal=>exact h
  | exit i=>exact hk _ _ h
  | ret=>exact hk _ _ h
 | exit id=>intro nb st Q Q' hk h;exact hk _ _ h
 | ret=>intro nb st Q Q' hk h;exact hk _ _ h
 | label l=>intro nb st Q Q' hk h;exact hk _ _ h
 | rangeFunc f ps a b iha ihb =>
  intro nb st Q Q' hk h
  simp only [wpC] at h ⊢
  split at h
  ·obtain ⟨xs,an,h1,h2,I,s0,h3,h4,h5,h6,h7⟩:=h
   refine ⟨xs,an,h1,h2,I,s0,h3,h4,h5,λ k k1 s x hx hI=>iha (λ e s1 h=>?_) (h6 k k1 s x hx hI),λ k s hf hI=>hk _ _ (h7 k s hf hI)⟩
   cases e with
   | normal =>
    refine ihb (λ e s2 h=>?_) h
    cases e with
    | normal=>exact h
    | exit i=>exact hk _ _ h
    | ret=>exact hk _ _ h
   | exit i=>exact h
   | ret=>exact h
  ·exact h.elim
 | scope b ih=>intro nb st Q Q' hk h;exact ih hk h
 | goto l=>intro nb st Q Q' hk h;exact h.elim
 | refuse s=>intro nb st Q Q' hk h;exact h.elim
theorem Zne {b:Bool} {X Y:Unit->Prop}:way b X Y↔(b=true->X ())/\(b=false->Y ()):=by cases b<;>simp [way]
theorem Zab {dr:Bool} {ops:List Oper} {K:St->Prop}:∀{l:List Oper} {st:St},QT (Ze E) E dr ops l st K->Zbb E dr ops l st K
 | [],st,h=>h
 | o::rest,st,h=>by
  simp only [QT,Zbb] at h ⊢
  split at h
  ·rename_i hg;simp only [hg];exact ZdK (λ v s h=>Zab h) (ZhT h)
  ·rename_i hg
   simp only [hg]
   split at h
   ·exact h.elim
   ·rename_i ht
    simp only [ht]
    split at h
    ·rename_i hs;simp only [hs];exact Zab h
    ·rename_i hs
     simp only [hs]
     split at h
     ·rw [Zne] at h
      exact ⟨λ e=>ZdK (λ v s h=>Zab h) (ZhT (h.1 e)),λ e=>Zab (h.2 e)⟩
     ·rw [Zne] at h
      exact ⟨λ e=>ZdK (λ v s h=>Zab h) (ZhT (h.2 e)),λ e=>Zab (h.1 e)⟩
    ·exact h.elim
theorem Zg9 {ops:Array Oper}:∀{fuel:Nat} {listed:Array Bool} {st:St} {K:St->Prop},Za5 (Ze E) E ops fuel listed st K->ZeC E ops fuel listed st K
 | 0,listed,st,K,h=>h
 | fuel+1,listed,st,K,h=>by
  rw [Za5] at h
  rw [ZeC]
  split at h
  ·rename_i h0;simp only [h0];exact h
  ·rename_i i r h0
   simp only [h0]
   refine ZhL (λ i h=>?_) h
   split at h
   ·exact h.elim
   ·rename_i o ho
    simp only [ho]
    exact YL (λ st' h=>Zg9 h) (Zab h)
theorem ZdL:∀{c:Code} {nb:Nat × Nat} {st:St} {Q:AX->St->Prop},QD (Ze E) E c nb st Q->wpC E c nb st Q:=by
 intro c
 induction c with
 | skip=>intro nb st Q h;exact h
 | region id ops draw =>
  intro nb st Q h
  simp only [QD] at h
  simp only [wpC]
  split at h
  ·rename_i he
   simp only [he]
   exact Zg9 h
  ·rename_i c he
   simp only [he]
   refine ⟨h.1,YL (λ s h=>?_) (Zab h.2)⟩
   split at h
   ·exact h.elim
   ·rename_i o ho
    simp only [ho]
    exact YL (λ s' h=>Zg9 h) (Zab h)
  ·rename_i he
   simp only [he]
   refine ⟨?_,Zab h.2⟩
   have:=h.1
   cases draw with
   | false=>rfl
   | true=>exact this
 | seq a b iha ihb =>
  intro nb st Q h
  have h1:=iha (st:=st) (Q:=λ e st'=>match e with | .normal=>QD (Ze E) E b nb st' Q | .exit i=>Q (.exit i) st' | .ret=>Q .ret st') h
  show wpC E a nb st λ e st'=>match e with | .normal=>wpC E b nb st' Q | .exit i=>Q (.exit i) st' | .ret=>Q .ret st'
  refine Zo6 (λ e s h=>?_) h1
  cases e with
  | normal=>exact ihb h
  | exit i=>exact h
  | ret=>exact h
 | cond c a b iha ihb =>
  intro nb st Q h
  simp only [QD,wpC] at h ⊢
  split at h
  ·rename_i hv
   simp only [hv]
   rw [Zne] at h
   exact ⟨λ e=>iha (h.1 e),λ e=>ihb (h.2 e)⟩
  ·exact h.elim
 | block id body ih=>intro nb st Q h;exact ih h
 | loop body ih =>
  intro nb st Q h
  obtain ⟨I,h0,hs⟩:=h
  exact ⟨I,h0,λ n s hI=>ih (hs n s hI)⟩
 | exit id=>intro nb st Q h;exact h
 | ret=>intro nb st Q h;exact h
 | label l=>intro nb st Q h;exact h
 | rangeFunc f ps a b iha ihb =>
  intro nb st Q h
  simp only [QD,wpC] at h ⊢
  split at h
  ·rename_i hv
   simp only [hv]
   obtain ⟨xs,an,h1,h2,I,s0,h3,h4,h5,h6,h7⟩:=h
   refine ⟨xs,an,h1,by simpa using h2,I,s0,h3,h4,h5,λ k k1 s x hx hI=>?_,h7⟩
   have h8:=iha (h6 k k1 s x hx hI)
   refine Zo6 (λ e s1 h=>?_) h8
   cases e with
   | normal=>exact ihb h
   | exit i=>exact h
   | ret=>exact h
  ·exact h.elim
 | scope b ih=>intro nb st Q h;exact ih h
 | goto l=>intro nb st Q h;exact h.elim
 | refuse s=>intro nb st Q h;exact h.elim
theorem Zb {P:Program} {T:TypeId->TD} {clo:FuncId->Bool} {rows:Bool} (hE:ZQ ⟨P,T,clo,rows,.none⟩) {f:FuncId} {fn:Func} {c:Code} (hf:P.funcs[f]?=some fn) (hb:fn.body=some c) (he:ZaJ P f) {args:List PV} {p:PV}
  (h:∀A q P' Y,Qz args->A=Ze ⟨P,T,clo,rows,.none⟩->p=q->QD A ⟨P',T,clo,rows,Y⟩ c (0,0) ⟨args.map .val++List.replicate (fn.ntmps - args.length) .undef,[],[],⟨[],0⟩⟩ λ e st=>match e with | .exit _=>False | _=>Zgf ⟨P',T,clo,rows,Y⟩ fn.results.toList st q):Zc P f args p :=
 Zqx (E:=⟨P,T,clo,rows,.none⟩) hE rfl hf hb he λ hr=>ZdL (E:=⟨P,T,clo,rows,.none⟩) (h _ _ P .none hr rfl rfl)
theorem YH {P:Program} {T:TypeId->TD} {clo:FuncId->Bool} {rows:Bool} {Y:YS} (hE:ZQ ⟨P,T,clo,rows,Y⟩) {f:FuncId} {fn:Func} {c:Code} (hf:P.funcs[f]?=some fn) (hb:fn.body=some c) (he:ZaJ P f)
  {svs:List SV} {bx:List (Option (List SV))} {tk:List (Nat × TypeId)} {ax:Ax} {Q:SV->List (Option (List SV))->List (Nat × TypeId)->Ax->Prop}
  (hnt:(bx.length,ax.mp.length)=(0,0)->tk=[])
  (h:∀A P' Y' nb (R:St->Prop),A=Ze ⟨P,T,clo,rows,Y⟩->nb=(bx.length,ax.mp.length)->(∀st,Zww ⟨P',T,clo,rows,Y'⟩ nb fn.results.toList st Q->R st) ->
   QD A ⟨P',T,clo,rows,Y'⟩ c nb ⟨svs++List.replicate (fn.ntmps - svs.length) .undef,bx,tk,ax⟩ λ e st=>match e with | .exit _=>False | _=>R st):ZV ⟨P,T,clo,rows,Y⟩ f svs bx tk ax Q :=
 Zsj (E:=⟨P,T,clo,rows,Y⟩) hE hf hb he hnt (ZdL (E:=⟨P,T,clo,rows,Y⟩) (h _ P Y _ _ rfl rfl λ _ h=>h))
theorem ZaD.flags {P:Program} {T:TypeId->TD} {c1 c2:FuncId->Bool} {r1 r2:Bool} {Y:YS} {M:List Nat} {S:Addr->Prop} {w:World} {b:Nat} {c:ZaK} (h:ZaD ⟨P,T,c1,r1,Y⟩ M S w b c):ZaD ⟨P,T,c2,r2,Y⟩ M S w b c:=by
 match c,h with
 | .plain k e n,h=>exact h
 | .ents es um,h=>exact h
 | .iter (some m) es l u,h=>exact h
 | .iter none es l u,h=>exact h
 | .gone,_=>trivial
theorem ZV.flags {P:Program} {T:TypeId->TD} {clo clo':FuncId->Bool} {rows rows':Bool} {Y:YS} {f:FuncId} {svs:List SV} {bx:List (Option (List SV))} {tk:List (Nat × TypeId)} {ax:Ax} {Q:SV->List (Option (List SV))->List (Nat × TypeId)->Ax->Prop}
  (h:ZV ⟨P,T,clo,rows,Y⟩ f svs bx tk ax Q):ZV ⟨P,T,clo',rows',Y⟩ f svs bx tk ax Q:=by
 have hi:∀{c1 c2:FuncId->Bool} {r1 r2:Bool} {B:Nat} {S0:Addr->Prop} {bx:List (Option (List SV))} {tk:List (Nat × TypeId)} {ax:Ax} {G:Gh} {S:Addr->Prop} {w:World},Inv ⟨P,T,c1,r1,Y⟩ B S0 bx tk ax G S w->Inv ⟨P,T,c2,r2,Y⟩ B S0 bx tk ax G S w :=
  λ h=>⟨h.base,h.s0,h.slt,h.lbx,h.ltk,h.old,h.dist,h.box,h.tok,h.apart,h.lmp,h.dmp,h.mpo,λ i b c h1 h2=>(ZaD.flags (h.mpk i b c h1 h2)),h.flt,h.fbx,h.ftk,h.fmp,h.yl⟩
 refine ⟨h.1,λ B S0 w0 G S w vs a b c d cs=>?_⟩
 obtain ⟨e,w',fr,⟨v,r,bx',tk',ax',G',S',hq,h1,h2,h3⟩,h4⟩:=h.2 B S0 w0 G S w vs (hi a) b c d cs
 exact ⟨e,w',fr,⟨v,r,bx',tk',ax',G',S',hq,h1,hi h2,h3⟩,h4⟩
theorem Zch {P:Program} {T:TypeId->TD} {clo:FuncId->Bool} {rows:Bool} (hE:ZQ ⟨P,T,clo,rows,.none⟩) {f:FuncId} {fn:Func} {c:Code} (hf:P.funcs[f]?=some fn) (hb:fn.body=some c) (he:ZaJ P f) (hr:fn.results=#[]) {caps:List PV} {xs:List (List PV)}
  (h:∀A P' Y Y' l (R:Nat->Prop),Qz caps->Y.ys=xs->(l=Y.l/\Y.any=false)->A=Ze ⟨P,T,clo,rows,Y⟩->(∀k,(k=xs.length\/k=xs.length+1)->R k) ->
   QD A ⟨P',T,clo,rows,Y'⟩ c (0,0) ⟨(PV.yld l::caps).map .val++List.replicate (fn.ntmps - (caps.length+1)) .undef,[],[],⟨[],0⟩⟩ λ e st=>match e with | .exit _=>False | _=>R st.ax.yk):Zde P f caps xs :=
 Zna (an:=false) hE hf hb he hr λ Y hY hYa _ hR=>ZdL (E:=⟨P,T,clo,rows,Y⟩) (h _ P Y Y _ _ hR hY ⟨rfl,hYa⟩ rfl λ _ h=>h)
theorem Zsr {P:Program} {T:TypeId->TD} {clo:FuncId->Bool} {rows:Bool} (hE:ZQ ⟨P,T,clo,rows,.none⟩) {f:FuncId} {fn:Func} {c:Code} (hf:P.funcs[f]?=some fn) (hb:fn.body=some c) (he:ZaJ P f) (hr:fn.results=#[]) {caps:List PV} {xs:List (List PV)}
  (h:∀A P' Y Y' l (R:Nat->Prop),Qz caps->Y.ys=xs->ZQ ⟨P,T,clo,rows,Y⟩->(l=Y.l/\Y.any=false)->A=Ze ⟨P,T,clo,rows,Y⟩->(∀k,(k=xs.length\/k=xs.length+1)->R k) ->
   QD A ⟨P',T,clo,rows,Y'⟩ c (0,0) ⟨(PV.yld l::caps).map .val++List.replicate (fn.ntmps - (caps.length+1)) .undef,[],[],⟨[],0⟩⟩ λ e st=>match e with | .exit _=>False | _=>R st.ax.yk):Zde P f caps xs :=
 Zna (an:=false) hE hf hb he hr λ Y hY hYa hYok hR=>ZdL (E:=⟨P,T,clo,rows,Y⟩) (h _ P Y Y _ _ hR hY ⟨hE.td,hE.mixed,hYok⟩ ⟨rfl,hYa⟩ rfl λ _ h=>h)
theorem Zss {P:Program} {T:TypeId->TD} {clo:FuncId->Bool} {rows:Bool} (hE:ZQ ⟨P,T,clo,rows,.none⟩) {f:FuncId} {fn:Func} {c:Code} (hf:P.funcs[f]?=some fn) (hb:fn.body=some c) (he:ZaJ P f) (hr:fn.results=#[]) {caps:List PV} {xs:List (List PV)}
  (h:∀A P' Y Y' l (R:Nat->Prop),Qz caps->Y.ys=xs->(l=Y.l/\Y.any=true)->A=Ze ⟨P,T,clo,rows,Y⟩->(∀k,(k+1=2 ^ xs.length\/k=2 ^ xs.length)->R k) ->
   QD A ⟨P',T,clo,rows,Y'⟩ c (0,0) ⟨(PV.yld l::caps).map .val++List.replicate (fn.ntmps - (caps.length+1)) .undef,[],[],⟨[],0⟩⟩ λ e st=>match e with | .exit _=>False | _=>R st.ax.yk):ZkY P f caps xs true :=
 Zna (an:=true) hE hf hb he hr λ Y hY hYa _ hR=>ZdL (E:=⟨P,T,clo,rows,Y⟩) (h _ P Y Y _ _ hR hY ⟨rfl,hYa⟩ rfl λ _ h=>h)
end
def Zq6:Code->List Nat
 | .region _ ops _=>ops.toList.filterMap (·.dst)
 | .seq a b=>Zq6 a++Zq6 b
 | .cond _ a b=>Zq6 a++Zq6 b
 | .block _ b=>Zq6 b
 | .loop b=>Zq6 b
 | .rangeFunc _ _ _ _=>[]
 | _=>[]
def ZrJ (l:List Nat):Nat->List SV->List SV
 | _,[]=>[]
 | i,s::r=>(if l.contains i then .val .any else s)::ZrJ l (i+1) r
def ZrK (c:Code) (st:St):St:={ st with sl:=ZrJ (Zq6 c) 0 st.sl }
section
variable {A:Ops} {E:Env}
theorem Za (hA:A=Ze E) {f:FuncId} {args:List PV} {K:PV->Prop} {r:PV} (h:Zc E.P f args r) (hk:K r):A.call f args K:=by
 subst hA;exact ⟨r,h,hk⟩
theorem YC (hA:A=Ze E) {f:FuncId} {args args':List PV} {K:PV->Prop} {r:PV} (h:Zc E.P f args' r) (e:args=args') (hk:K r):A.call f args K:=by
 subst hA;subst e;exact ⟨r,h,hk⟩
theorem Qk (hA:A=Ze E) {f:FuncId} {args args':List PV} {K:PV->Prop} {b:Bool} (h:Zc E.P f args' (.bool b)) (e:args=args') (hk:∀r,r=b->K (.bool r)):A.call f args K:=by
 subst hA;subst e;exact ⟨_,h,hk _ rfl⟩
theorem Zhl (hA:A=Ze E) {f:FuncId} {args args':List PV} {K:PV->Prop} {k:IntKind} {n:Int} (h:Zc E.P f args' (.int k n)) (e:args=args') (hk:∀r,r=n->K (.int k r)):A.call f args K:=by
 subst hA;subst e;exact ⟨_,h,hk _ rfl⟩
theorem Zff (hA:A=Ze E) {f:FuncId} {svs:List SV} {st:St} {K:SV->St->Prop} {Q:SV->List (Option (List SV))->List (Nat × TypeId)->Ax->Prop} (h:ZV E f svs st.bx st.tk st.ax Q) (hk:∀r bx' tk' ax',Q r bx' tk' ax'->K r ⟨st.sl,bx',tk',ax'⟩) :
  A.deep f svs st K:=by
 subst hA;exact ⟨Q,h,hk⟩
theorem Qg (hA:A=Ze E) {f:FuncId} {caps:List PV} {svs:List SV} {st:St} {K:SV->St->Prop} {Q:SV->List (Option (List SV))->List (Nat × TypeId)->Ax->Prop} (h:ZV E f (svs++caps.map SV.val) st.bx st.tk st.ax Q) (hk:∀r bx' tk' ax',Q r bx' tk' ax'->K r ⟨st.sl,bx',tk',ax'⟩) :
  A.opn f caps svs st K:=by
 subst hA;exact .inr (.inr ⟨Q,h,hk⟩)
theorem Zer (hA:A=Ze E) {ts:List TypeId} {xs:List SV} {st:St} {K:SV->St->Prop} (h:Zcq E ts xs st K):A.appR ts xs st K:=by subst hA;exact h
theorem ZfI (hA:A=Ze E) {st st':St} {l l':List SV} {f:FuncId} {caps:List PV} {K:SV->St->Prop} {ps:List PV} {r:PV} (h:Frz st l st' l') (hp:Zam l'=some ps) (hf:Zc E.P f (ps++caps) r) (hk:K (.val r) st'):A.opn f caps l st K:=by
 subst hA;exact .inl ⟨st',l',ps,h,hp,r,hf,hk⟩
theorem Zvs (hA:A=Ze E) {α:Type} (enc:α->PV) (l:List α) {n:Int} {K:List PV->Prop} (h0:0<=n) (h1:n<l.length) (hk:∀x,l[n.toNat]?=some x->K (enc x).cells):A.idx (l.map enc) n K:=by
 subst hA
 have hn:n.toNat<l.length:=by omega
 refine ⟨⟨h0,by simpa using h1⟩,?_⟩
 have:=hk l[n.toNat] (Zya hn)
 simpa [Zyj,hn] using this
theorem Ya (hA:A=Ze E) {α:Type} {enc:α->PV} {l:List α} {xs:List PV} (hx:l.map enc=xs) {n:Int} {K:List PV->Prop} (h0:0<=n) (h1:n<l.length) (hk:∀x,l[n.toNat]?=some x->K (enc x).cells):A.idx xs n K:=by
 subst hx;exact Zvs hA enc l h0 h1 hk
theorem Zst (hA:A=Ze E) {Y:YS} (hY:Y=E.Y) {l:Nat} {ps:List PV} {st:St} {K:SV->St->Prop} (hl:l=Y.l/\Y.any=false) (hy:Y.ys[st.ax.yk]?=some ps) (h1:K (.val (.bool true)) (st.yks (st.ax.yk+1))) (h2:K (.val (.bool false)) (st.yks (Y.ys.length+1))) :
  A.yld l ps st K:=by
 subst hA hY
 refine ⟨hl.1,st.ax.yk+1,?_,h1,?_⟩
 ·rw [hl.2];exact ⟨hy,rfl⟩
 ·rw [hl.2];exact h2
theorem QE (hA:A=Ze E) {Y:YS} (hY:Y=E.Y) {l:Nat} {ps:List PV} {st:St} {K:SV->St->Prop} (hl:l=Y.l/\Y.any=false) (hy:Y.ys[st.ax.yk]?=some ps) (h1:K (.val (.bool true)) (st.yks (st.ax.yk+1))) (h2:∀n,n=Y.ys.length+1->K (.val (.bool false)) (st.yks n)) :
  A.yld l ps st K:=Zst hA hY hl hy h1 (h2 _ rfl)
theorem Zvt (hA:A=Ze E) {Y:YS} (hY:Y=E.Y) {l:Nat} {ps:List PV} {st:St} {K:SV->St->Prop} (hl:l=Y.l/\Y.any=true) (i:Nat) (hk:st.ax.yk<2 ^ Y.ys.length) (hy:Y.ys[i]?=some ps) (hb:st.ax.yk.testBit i=false)
  (h1:∀n,n=st.ax.yk ||| 2 ^ i->K (.val (.bool true)) (st.yks n)) (h2:∀n,n=2 ^ Y.ys.length->K (.val (.bool false)) (st.yks n)):A.yld l ps st K:=by
 subst hA hY
 refine ⟨hl.1,st.ax.yk ||| 2 ^ i,?_,h1 _ rfl,?_⟩
 ·rw [hl.2];exact ⟨hk,i,hy,hb,rfl⟩
 ·rw [hl.2];exact h2 _ rfl
theorem Zm (hA:A=Ze E) {ops:List Oper} (h:ZjN E.rm ops=true):A.draw ops:=by subst hA;exact h
theorem ZlV (hA:A=Ze E) {ops:List Oper} {c:Nat} (h:cutOk E.rm ops c=true):A.cutOk ops c:=by subst hA;exact h
theorem ZdM (hA:A=Ze E) {t:TypeId} {x:SV} {st:St} {K:SV->St->Prop} (h:Res.go (YZ E t x.norm st) K):A.rld t x st K:=by subst hA;exact h
theorem ZdN (hA:A=Ze E) {t:TypeId} {x v:SV} {st:St} {K:SV->St->Prop} (h:Res.go (Zai E t x.norm v st) K):A.rst t x v st K:=by subst hA;exact h
theorem Zsu (hA:A=Ze E) {t:TypeId} {st:St} {K:SV->St->Prop} (h:Res.go (Zdd E t st) K):A.alc t st K:=by subst hA;exact h
theorem Zsv (hA:A=Ze E) {t:TypeId} {v:SV} {st:St} {K:SV->St->Prop} (h:Res.go (Zjv E t v st) K):A.bxo t v st K:=by subst hA;exact h
theorem ZgA (hA:A=Ze E) {t:TypeId} {z:List PV} {st:St} {K:SV->St->Prop} (hz:(E.T t).zero=z) (hs:(E.T t).size=z.length) (h0:z.length≠0) (h:∀n B,n=st.bx.length->B=st.bx++[some (z.map Zju)]->K (.box n 0) { st with bx:=B }):A.alc t st K:=by
 refine Zsu hA ?_
 unfold Zdd
 rw [hz,hs,if_pos ⟨rfl,h0⟩]
 exact ⟨trivial,h _ _ rfl rfl⟩
theorem ZhU (hA:A=Ze E) {t:TypeId} {id off:Nat} {cs:List SV} {c:SV} {st:St} {K:SV->St->Prop} (hb:st.bx[id]?=some (some cs)) (ha:(E.T t).agg=false) (hs:(E.T t).size=1) (hc:cs[off]?=some c) (h:K c st):A.rld t (.box id off) st K:=by
 refine ZdM hA ?_
 show Res.go (YZ E t (.box id off) st) K
 unfold YZ
 simp only [Zyj,hb,Zy0,ha,hs,if_true,Zzf,if_false,hc]
 exact ⟨(ZxZ.1 hc).1,h⟩
theorem Zjo (hA:A=Ze E) {t:TypeId} {id off:Nat} {cs:List SV} {l:List PV} {st:St} {K:SV->St->Prop} (hb:st.bx[id]?=some (some cs)) (ha:(E.T t).agg=true) (hc:Zam ((cs.drop off).take (E.T t).size)=some l) (hl:off+(E.T t).size<=cs.length) (h:K (.val (.agg l)) st):A.rld t (.box id off) st K:=by
 refine ZdM hA ?_
 show Res.go (YZ E t (.box id off) st) K
 unfold YZ
 simp only [Zyj,hb,Zy0,ha,if_true,hc]
 exact ⟨hl,h⟩
theorem Zw1 (hA:A=Ze E) {t:TypeId} {id off:Nat} {cs:List SV} {v:SV} {st:St} {K:SV->St->Prop} (hb:st.bx[id]?=some (some cs)) (ha:(E.T t).agg=false) (hs:(E.T t).size=1) (h1:v.one=true) (hl:off<cs.length) (h:∀B,B=st.bx.set id (some (cs.set off v))->K .undef { st with bx:=B }):A.rst t (.box id off) v st K:=by
 refine ZdN hA ?_
 show Res.go (Zai E t (.box id off) v st) K
 unfold Zai
 simp only [Zyj,hb,Zy0,ha,hs,h1,Zzf,if_false,and_self,if_true]
 exact ⟨hl,h _ rfl⟩
theorem ZfJ (hA:A=Ze E) {t:TypeId} {id off:Nat} {cs:List SV} {l:List PV} {st:St} {K:SV->St->Prop} (hb:st.bx[id]?=some (some cs)) (ha:(E.T t).agg=true) (hs:(E.T t).size=l.length) (h1:l.all PV.one=true) (hl:off+l.length<=cs.length) (h:∀B,B=st.bx.set id (some (cs.take off++(l.map SV.val++cs.drop (off+l.length))))->K .undef { st with bx:=B }):A.rst t (.box id off) (.val (.agg l)) st K:=by
 refine ZdN hA ?_
 show Res.go (Zai E t (.box id off) _ st) K
 unfold Zai
 simp only [Zyj,hb,Zy0,ha,hs,h1,and_self,if_true]
 exact ⟨hl,h _ rfl⟩
def ZvZ (nb:Nat × Nat) {α:Type} (f:α->St) (inv:α->Prop) (μ:α->Nat) (n:Nat) (s':St):Prop :=
 ∃n' s'',n'<n/\Wk nb s' s''/\∃y,inv y/\μ y=n'/\s''=f y
theorem Zo7 {nb:Nat × Nat} {α:Type} {f:α->St} {inv:α->Prop} {μ:α->Nat} {n:Nat} {s':St} (y:α) (h1:Wk nb s' (f y)) (h2:inv y) (h3:μ y<n):ZvZ nb f inv μ n s' :=
 ⟨μ y,_,h3,h1,y,h2,rfl,rfl⟩
theorem Zq7 (hA:A=Ze E) {nb:Nat × Nat} {α:Type} (f:α->St) (inv:α->Prop) (μ:α->Nat) (x0:α) {body:Code} {W:St->(AX->St->Prop)->Prop} {st:St} {Q:AX->St->Prop}
  (h0:Wk nb st (f x0)) (hi:inv x0)
  (hs:∀x,inv x->W (f x) λ e s'=>match e with | .normal=>ZvZ nb f inv μ (μ x) s' | .exit i=>Q (.exit i) s' | .ret=>Q .ret s'):A.loop nb body W st Q:=by
 subst hA
 refine ⟨λ n s=>∃x,inv x/\μ x=n/\s=f x,⟨μ x0,_,h0,x0,hi,rfl,rfl⟩,?_⟩
 rintro n s ⟨x,hx,rfl,rfl⟩
 exact hs x hx
theorem Zi (hA:A=Ze E) {nb:Nat × Nat} {α:Type} (g:α->St->St) (inv:α->Prop) (μ:α->Nat) (x0:α) {body:Code} {W:St->(AX->St->Prop)->Prop} {st:St} {Q:AX->St->Prop}
  (h0:Wk nb st (g x0 (ZrK body st))) (hi:inv x0)
  (hs:∀(R:St->Prop) x,inv x->(∀y s',Wk nb s' (g y (ZrK body st))->inv y->μ y < μ x->R s')->W (g x (ZrK body st)) λ e s'=>match e with | .normal=>R s' | .exit i=>Q (.exit i) s' | .ret=>Q .ret s'):A.loop nb body W st Q :=
 Zq7 hA (λ y=>g y (ZrK body st)) inv μ x0 h0 hi λ x hx=>hs _ x hx λ y _ h1 h2 h3=>Zo7 y h1 h2 h3
theorem ZjV (hA:A=Ze E) {nb:Nat × Nat} {α:Type} {f:FuncId} {caps:List PV} {np:Nat} {xs:List (List PV)} {an:Bool} (hseq:ZkY E.P f caps xs an) (hnp:∀x∈xs,x.length=np) (g:α->St->St) (inv:Nat->α->Prop) (x0:α)
  {W:List PV->St->(AX->St->Prop)->Prop} {st:St} {Q:AX->St->Prop} (hsl:∀y,(g y st).sl=(g x0 st).sl) (h0:Wk nb st (g x0 st)) (hi:inv 0 x0)
  (hs:∀(R:St->Prop) k k1 y x,ZmB an xs k x k1->inv k y->(∀z s',Wk (g y st).nbs (s'.withSl (g x0 st).sl) (g z st)->inv k1 z->R s') ->
   W x (g y st) λ e s'=>match e with | .normal=>R s' | .exit i=>Q (.exit i) (s'.withSl (g x0 st).sl) | .ret=>Q .ret (s'.withSl (g x0 st).sl))
  (hd:∀k y,Ziz an xs k->inv k y->Q .normal (g y st)):A.rng nb f caps np W st Q:=by
 subst hA
 refine ⟨xs,an,hseq,hnp,λ k s=>∃y,inv k y/\s=g y st,_,h0,⟨x0,hi,rfl⟩,?_,?_,?_⟩
 ·rintro k s ⟨y,_,rfl⟩;exact hsl y
 ·rintro k k1 s x hx ⟨y,hy,rfl⟩
  exact hs (λ s'=>∃s3,Wk (g y st).nbs (s'.withSl (g x0 st).sl) s3/\∃z,inv k1 z/\s3=g z st) k k1 y x hx hy λ z s' h1 h2=>⟨_,h1,z,h2,rfl⟩
 ·rintro k s hk ⟨y,hy,rfl⟩
  exact hd k y hk hy
theorem YU (hA:A=Ze E) {nb:Nat × Nat} {α:Type} {f:FuncId} {caps:List PV} {np:Nat} {xs:List (List PV)} (hseq:Zde E.P f caps xs) (hnp:∀x∈xs,x.length=np) (g:α->St->St) (inv:Nat->α->Prop) (x0:α)
  {W:List PV->St->(AX->St->Prop)->Prop} {st:St} {Q:AX->St->Prop} (hsl:∀y,(g y st).sl=(g x0 st).sl) (h0:Wk nb st (g x0 st)) (hi:inv 0 x0)
  (hs:∀(R:St->Prop) k y x,xs[k]?=some x->inv k y->(∀z s',Wk (g y st).nbs (s'.withSl (g x0 st).sl) (g z st)->inv (k+1) z->R s') ->
   W x (g y st) λ e s'=>match e with | .normal=>R s' | .exit i=>Q (.exit i) (s'.withSl (g x0 st).sl) | .ret=>Q .ret (s'.withSl (g x0 st).sl))
  (hd:∀y,inv xs.length y->Q .normal (g y st)):A.rng nb f caps np W st Q :=
 ZjV hA hseq hnp g inv x0 hsl h0 hi (λ R k k1 y x hx hy hR=>by
  obtain ⟨h1,rfl⟩:=hx
  exact hs R k y x h1 hy hR) (λ k y hk hy=>hd y (by have hk:k=xs.length:=hk;rw [<-hk];exact hy))
theorem Yv (hA:A=Ze E) {es:List (PV × PV)} {k z v:PV} {b:Bool} {K:PV->Bool->Prop} (hv:(QG es k).getD z=v) (hb:(QG es k).isSome=b) (hk:K v b):A.look es k z K:=by subst hA hv hb;exact hk
theorem ZhV (hA:A=Ze E) {es:List (PV × PV)} {k v:PV} {K:PV->Prop} (hv:QG es k=some v) (hk:K v):A.ent es k K:=by subst hA;exact ⟨by rw [hv];rfl,by rw [hv];exact hk⟩
theorem ZhW (hA:A=Ze E) {left:List PV} {es:List (PV × PV)} {D:Unit->Prop} {M:PV->PV->Prop} (h0:left=[]->D ()) (h1:∀k v,k∈left->(k,v)∈es->M k v):A.nxt left es D M:=by subst hA;exact ⟨h0,h1⟩
theorem ZjW (hA:A=Ze E) {K:Int->Prop} (h:∀n,K n):A.ment K:=by subst hA;exact h
theorem Zq8 (hA:A=Ze E) {a b:Int} (h:a=b):A.same a b:=by subst hA;exact h
theorem Q1 (hA:A=Ze E) {ag:Bool} {ks:List SK} {es:List (PV × PV)} {k:PV} (h:Yu ag ks es k):A.kOk ag ks es k:=by subst hA;exact h
theorem Zk {nb:Nat × Nat} {sl sl':List SV} {bx:List (Option (List SV))} {tk:List (Nat × TypeId)} {ax:Ax} (h:leL sl sl':=by repeat (first | refine Zv ?_ | refine ZH ?_ | exact Z9)):Wk nb ⟨sl,bx,tk,ax⟩ ⟨sl',bx,tk,ax⟩:=Wk.forget sl sl' bx tk ax h
theorem Zt {nb:Nat × Nat} {sl sl':List SV} {bx bx':List (Option (List SV))} {tk:List (Nat × TypeId)} {mp mp':List ZaK} {yk:Nat} (h:leL sl sl':=by repeat (first | refine Zv ?_ | refine ZH ?_ | exact Z9)) (hnb:nb.1<=bx.length:=by simp) (hnm:mp'=[]\/(nb.2<=mp.length/\ZwR mp=true):=by simp)
  (h1:sl'.all (SV.within bx.length mp.length tk.length)=true:=by exact rfl) (h2:bx.all (λ o=>match o with | none=>true | some cs=>cs.all (SV.within bx.length mp.length tk.length))=true:=by exact rfl) :
  Wk nb ⟨sl,bx++bx',tk,⟨mp++mp',yk⟩⟩ ⟨sl',bx,tk,⟨mp,yk⟩⟩ :=
 Wk.trans _ _ _ (Wk.forget sl sl' _ tk _ h) (Wk.drop sl' bx bx' tk mp mp' yk hnb hnm h1 h2)
theorem ZaM {nb:Nat × Nat} {sl sl':List SV} {bx:List (Option (List SV))} {tk:List (Nat × TypeId)} {ax:Ax} (t m m':Nat) (xs:List PV) (e:TypeId) (h:sl[t]?=some (.lit m xs)) (hm:m=m'\/xs=[]) (hl:leL (sl.set t (.own tk.length m' xs)) sl') {tk':List (Nat × TypeId)} (htk:tk'=tk++[(xs.length,e)]) (hm0:m'≠0:=by decide) :
  Wk nb ⟨sl,bx,tk,ax⟩ ⟨sl',bx,tk',ax⟩:=by
 subst htk;exact Wk.trans _ _ _ (Wk.own sl bx tk ax t m m' xs e h hm hm0) (Wk.forget _ _ _ _ _ hl)
end
end Go.Abs
