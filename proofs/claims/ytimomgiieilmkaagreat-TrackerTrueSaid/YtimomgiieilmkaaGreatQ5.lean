/- Contracts of the functions: part 5. -/
import Derived.Test.YtimomgiieilmkaaGreatProg
import Derived.KernelRfl
import Derived.Sort.OwnSortedInts
import Derived.Test.YtimomgiieilmkaaGreatQ4
import Derived.Shelf.Abstract
set_option linter.all false
namespace Go.Abs
open Go.RowKit
def vx:TypeDesc->dl| .int k=>.int k| .bool=>.bool| .string=>.str| .slice e=>.slice e| .struct F=>.struct (F.toList.map λ f=>(f.offset,f.type)) | .array n e=>.array n e| .pointer e=>.ptr e| .map k e=>.map k e| .func ..=>.func|_=>.other
def za(i:TypeInfo)(z:Tq)(u:TypeDesc):Bool:=z.cells.toList.all Value.oneCell'&&(z.cells.size==i.size)&&(if jh u then(match z with| .agg _=>true|_=>false)else z.oneCell')
def vy(P:Program)(t:Tr):TypeDesc->Tt (Tp fm) | .struct _=>if P.eqGuardType P.depth t then none else iZ P 20 t| .array _ _=>if P.eqGuardType P.depth t then none else iZ P 20 t|_=>none
def ql(P:Program)(t:Tr):ep:=match P.underlying t with|none=>default|some u=>match P.info? t with|none=>⟨vx u,0,0,false,vy P t u,[]⟩ |some a=>match a.zero with|none=>⟨vx u,0,0,false,vy P t u,[]⟩ |some z=>if za a z u then⟨vx u,a.size,a.bytes,jh u,vy P t u,z.cells.toList.map li⟩else⟨vx u,0,0,false,vy P t u,[]⟩
def JL{P:Program} {t:Tr} {u:TypeDesc}(h:P.underlying t=some u):Ak P t (vx u):=by cases u<;>first|exact h|exact⟨_,h,rfl⟩ |trivial
def Sf(P:Program)(t:Tr):xH P (ql P) t:=by
 have ae:Ak P t (ql P t).k:=by unfold ql;cases h:P.underlying t with|none=>exact trivial|some u=>simp only;(repeat' split);all_goals exact JL h
 refine⟨ae,λ h=>?_,λ ks h=>?_⟩;·(have o:∃u a z,P.underlying t=some u/\P.info? t=some a/\a.zero=some z/\za a z u=true:=by unfold ql at h;cases hu:P.underlying t with|none=>rw[hu]at h;rcases h with h|h<;>simp[default]at h|some u=>rw[hu]at h;simp only at h;cases f:P.info? t with|none=>rw[f]at h;rcases h with h|h<;>simp at h|some a=>rw[f]at h;simp only at h;cases d:a.zero with|none=>rw[d]at h;rcases h with h|h<;>simp at h|some z=>rw[d]at h;simp only at h;by_cases c:za a z u=true;(·exact⟨u,a,z,rfl,rfl,d,c⟩);rw[if_neg c]at h;rcases h with h|h<;>simp at h);obtain⟨u,a,z,hu,f,d,c⟩:=o;(have e:∃eq,ql P t=⟨vx u,a.size,a.bytes,jh u,eq,z.cells.toList.map li⟩:=by unfold ql;rw[hu];simp only[f];rw[d];simp only[c,if_true];exact⟨_,rfl⟩);obtain⟨eq,e⟩:=e;rw[e];simp only[za,bP,beq_iff_eq]at c;obtain⟨⟨l,m⟩,g⟩:=c;refine⟨a,z,u,f,rfl,rfl,d,rfl,λ v n=>cu.1 l v n,m,?_,hu,rfl⟩;show(if jh u=true then _ else _);split at g;(next i=>rw[if_pos i];split at g;(·exact⟨_,rfl⟩);cases g);rename_i i;rw[if_neg i];exact g
 unfold ql at h;cases hu:P.underlying t with|none=>rw[hu]at h;simp[default]at h|some u=>rw[hu]at h;simp only at h;(have he:vy P t u=some ks:=by (repeat' split at h);all_goals exact h);unfold vy at he;split at he;(next F=>split at he;(·cases he);rename_i j;exact⟨20,ac,he,by simpa using j,_,rfl,rfl⟩);(·split at he;(·cases he);rename_i j;exact⟨20,ac,he,by simpa using j,_,rfl,rfl⟩);cases he
def O9(P:Program)(T:Tr->ep)(t:Tr)(h:T t=default):xH P T t:=by refine⟨by rw[h];exact trivial,λ a=>?_,λ ks a=>?_⟩;(·rw[h]at a;rcases a with a|a<;>simp[default]at a);rw[h]at a;simp[default]at a
def Sg{P:Program} {T a:Tr->ep} {t:Tr}(e:T t=a t)(h:xH P a t):xH P T t:=⟨by rw[e];exact h.k,by rw[e];exact h.info,by rw[e];exact h.eq⟩
def PT{P:Program} {T:Tr->ep}(a6:FuncId->Bool)(rows:Bool)(n:Nat)(h:(List.range n).map T=(List.range n).map (ql P))(c:∀t,n<=t->T t=default)(d:P.follows .mixedOrders=true):co ⟨P,T,a6,rows,.none⟩:=by refine⟨λ t=>?_,d,λ r n k g ps vs F S w h=>by have:=BQ h;simp[gI.none]at this⟩;rcases eM t n with a|a;(·have e:=congrArg (λ f=>f[t]?) h;simp only[bm,m9 a,du,cg]at e;exact Sg e (Sf P t));exact O9 P T t (c t a)
structure dF where
 ak:Int->Int->Int
 bL:Int->Int->Int
 eh:Int->Int->Int
 xY:Int->Int->Int
 hI:Int->Int->Int
 vJ:Int->Int
 tz:Int->Int->Int
 r7:Int->Int->Int
 cV:Int->Int->Bool
 ha:Int->Int->Bool
 hP:Int->Int->Bool
 lI:BinOp->IntKind->Int->Int->Int
 sc:IntKind->Int->Int->Int
 oE:Int->Int->Int
 JB:Int->Int
 wrap:IntKind->Int->Int
 fi:Bool->Bool
 fH:Bool->Bool->Bool
 qA:Bool->Bool->Bool
 m3:ByteArray->ByteArray->Bool
 I4:Addr->Addr->Bool
 pr:ByteArray->Int
 Ju:ByteArray->Int->Int->ByteArray
 vS:ByteArray->Int->Int
 aH:List af->Int
 kx:List af->Int->Int->List af
 bn:List af->List af->List af
 Jf:Int->af->List af
 bp:List af->Nat
 bS:Int->Prop
 C':Int->Prop
 nL:Int->Prop
 within:Int->Int->Prop
 sl:Int->Int->Int->Prop
 room:Nat->Nat->Prop
 x3:Int->Int->Nat->Prop
 j':Nat->Nat->Prop
 idx:List af->Int->(List af->Prop)->Prop
 call:FuncId->List af->(af->Prop)->Prop
 tJ:FuncId->List af->List ah->ai->(ah->ai->Prop)->Prop
 xU:List TypeId->List ah->ai->(ah->ai->Prop)->Prop
 C0:Nat->List ah->ai->(ah->ai->Prop)->Prop
 nG:List TypeId->List ah->ai->(ah->ai->Prop)->Prop
 jG:Nat->Int->Nat->Nat
 deep:FuncId->List ah->ai->(ah->ai->Prop)->Prop
 ck:Nat->Int
 cj:Int->Nat
 x9:Int->List af->List ah
 loop:Nat×Nat->Code->(ai->(fb->ai->Prop)->Prop)->ai->(fb->ai->Prop)->Prop
 tW:Nat×Nat->FuncId->List af->Nat->(List af->ai->(fb->ai->Prop)->Prop)->ai->(fb->ai->Prop)->Prop
 fJ:Nat->List af->ai->(ah->ai->Prop)->Prop
 Dh:Nat×Nat->FuncId->List af->(List af->Nat->ai->(fb->ai->Prop)->Prop)->ai->(fb->ai->Prop)->Prop
 C6:TypeId->Nat->Nat->ai->(ah->ai->Prop)->Prop
 C7:TypeId->Nat->Nat->Nat->ah->ai->(ah->ai->Prop)->Prop
 Ad:TypeId->ah->ah->Nat->ai->(ah->ai->Prop)->Prop
 Ae:TypeId->Nat->Nat->Nat->ai->(ah->ai->Prop)->Prop
 x4:ah->ah->Nat->Nat->Nat->ai->(ah->ai->Prop)->Prop
 r':TypeId->ah->ai->(ah->ai->Prop)->Prop
 qM:TypeId->ah->ah->ai->(ah->ai->Prop)->Prop
 z1:TypeId->ai->(ah->ai->Prop)->Prop
 xR:TypeId->ah->ai->(ah->ai->Prop)->Prop
 Ji:Nat->IntKind->Int->Prop
 C_:Nat->Nat
 draw:List Oper->Prop
 pm:List Oper->Nat->Prop
 fits:List af->Nat->Prop
 pt:List (Nat×TypeId)->Nat->TypeId->Nat->Prop
 gE:List (Nat×TypeId)->Nat->Nat×TypeId->List (Nat×TypeId)
 vK:Bool->List fm->List (af×af)->af->Prop
 look:List (af×af)->af->af->(af->Bool->Prop)->Prop
 iI:List (af×af)->af->af->List (af×af)
 z8:List (af×af)->af->af->List (af×af)
 I':List (af×af)->af->List (af×af)
 nI:List (af×af)->Int
 CW:List (af×af)->af->Prop
 Ja:List (af×af)->List af
 dA:List af->List af->List (af×af)
 CX:List (af×af)->af->(af->Prop)->Prop
 Db:List af->List (af×af)->(Unit->Prop)->(af->af->Prop)->Prop
 C9:(Int->Prop)->Prop
 same:Int->Int->Prop
 e2:List af->af->List af
 I5:Option af->af->Option af
def DP(op:BinOp)(k:IntKind)(a b:Int):Int:=match op with| .and=>k.wrap ((BitVec.ofInt k.bits a&&&BitVec.ofInt k.bits b).toNat) | .or=>k.wrap ((BitVec.ofInt k.bits a|||BitVec.ofInt k.bits b).toNat) | .add=>k.wrap (a+b) | .sub=>k.wrap (a-b) |_=>0
def ay(E:Env):dF where
 ak a b:=a+b
 bL a b:=a-b
 eh a b:=a*b
 xY a b:=a.tdiv b
 hI a b:=a.tmod b
 vJ a:=-a
 tz a b:=min a b
 r7 a b:=max a b
 cV a b:=decide (a=b)
 ha a b:=decide (a<b)
 hP a b:=decide (a<=b)
 lI:=DP
 sc k a b:=k.wrap (a*2^b.toNat)
 oE a b:=a.fdiv (2^b.toNat)
 JB n:=IntKind.u64.wrap (BitVec.ofInt 64 IntKind.u64.max^^^BitVec.ofInt 64 n).toNat
 wrap k n:=k.wrap n
 fi b:=!b
 fH a b:=a&&b
 qA a b:=decide (a=b)
 m3 a b:=decide (a=b)
 I4 a b:=decide (a=b)
 pr s:=s.size
 Ju s g h:=s.extract g.toNat h.toNat
 vS s n:=(s.data.toList.getD n.toNat 0).toNat
 aH xs:=xs.length
 kx xs g h:=(xs.take h.toNat).drop g.toNat
 bn xs S:=xs++S
 Jf n p:=List.replicate n.toNat p
 bp xs:=xs.length
 bS:=dx
 C' n:=-9223372036854775808<n/\n<=9223372036854775807
 nL b:=b≠0
 within n m:=0<=n/\n<m
 sl g h n:=0<=g/\g<=h/\h<=n
 room n b:=n*(b+1)<=140737488355328
 x3 n c b:=0<=n/\n=c/\n*b<=140737488355328/\n<=140737488355328
 j' a b:=a=b
 idx xs n K:=(0<=n/\n<xs.length)/\K (xs.getD n.toNat .any).cells
 call f args K:=∃r,fL E.P f args r/\K r
 tJ f o args st K:=II E f o args st K\/(o=[]/\zI E f args st K)
 xU:=o2 E
 C0 g args st K:=(Cw st args λ ps l=>xd E g ps l K)\/BR E g args st K
 nG:=p9 E
 jG off g m:=off+g.toNat*m
 deep:=Ig E
 ck n:=n
 cj n:=n.toNat
 x9 n z:=(List.replicate n.toNat z).flatten.map ah.val
 loop w _ W st Q:=∃(d:Nat->ai->Prop),(∃N L,aZ w st L/\d N L)/\ ∀n s,d n s->W s λ e G=>match e with| .normal=>∃I J,I<n/\aZ w G J/\d I J| .exit B=>Q (.exit B) G| .ret=>Q .ret G
 tW w f o O W st Q:=∃xs F,zY E.P f o xs F/\(∀x∈xs,x.length=O)/\∃(d:Nat->ai->Prop)(i:ai),aZ w st i/\d 0 i/\(∀k s,d k s->s.sl=i.sl)/\(∀k H s x,pg F xs k x H->d k s->W x s λ e s2=>match e with| .normal=>∃j,aZ s.fS (s2.iJ i.sl) j/\d H j| .exit B=>Q (.exit B) (s2.iJ i.sl) | .ret=>Q .ret (s2.iJ i.sl))/\(∀k s,rR F xs k->d k s->Q .normal s)
 fJ g args st K:=xd E g args st K
 Dh w f o W st Q:=∃xs:Tp am,rV E.P f o (xs.map λ x=>[.aa 1 x]) false true/\∃(d:Nat->ai->Prop)(i:ai),aZ w st i/\d 0 i/\(∀k s,d k s->s.sl=i.sl)/\(∀k s x cap,xs[k]?=some x->d k s->x.length<=cap->W x cap s λ e s2=>match e with| .normal=>∃j,aZ (s.ag.length+1,s.ao.mp.length) (s2.iJ i.sl) (j.mi x)/\d (k+1) j/\j.ag.length=s.ag.length/\j.ag.all (λ R=>match R with|none=>true|some cs=>cs.all (ah.within j.ag.length j.ao.mp.length j.tk.length))=true|_=>False)/\(∀s,d xs.length s->Q .normal s)
 C6 s b f st K:=xw st b λ id=>a'.go (pH E s (.box id 0) f st) K
 C7 t b n cap B st K:=xw st b λ id=>a'.go (jI E t (.row id 0 1 n cap) B st) K
 Ad t m x id st K:=xe st id λ b l=>a'.go (pI E t m x (.val (.loc b)) l) K
 Ae t n id len st K:=xe st id λ b l=>∀cap,a'.go (pK E t n [(0,.val (.c4 b len cap))] l) K
 x4 m s id len cap st K:=BS st id λ b l=>a'.go (q6 m s (.val (.c4 b len cap)) l) K
 r' t x st K:=a'.go (iW E t x.norm st) K
 qM t x v st K:=a'.go (lX E t x.norm v st) K
 z1 t st K:=a'.go (ry E t st) K
 xR t v st K:=a'.go (qd E t v st) K
 Ji n k a:=n<9223372036854775807/\zE k a
 C_ n:=n+1
 draw ops:=td E.jd ops=true
 pm ops c:=pm E.jd ops c=true
 fits cs n:=n<=cs.length
 pt C k e n:=(C.getD k (0,0)).2=e/\(C.getD k (0,0)).1=n/\k<C.length
 gE C k x:=C.set k x
 vK:=gk
 look es k z K:=K ((dK es k).getD z) (dK es k).isSome
 iI:=gp
 z8:=qu
 I':=ph
 nI es:=es.length
 CW es k:=gQ es k=true
 Ja es:=es.map (·.1)
 dA:=List.zip
 CX es k K:=(dK es k).isSome=true/\K ((dK es k).getD .any)
 Db left es D M:=(left=[]->D ())/\∀k v,k∈left->(k,v)∈es->M k v
 C9 K:=∀n,K n
 same a b:=a=b
 e2 g k:=g.filter λ y=>!cq k y
 I5 u k:=match u with|some c=>if cq k c then none else some c|none=>none
def eI(b:Bool)(X Y:Unit->Prop):Prop:=match b with|true=>X () |false=>Y ()
section
variable(A:dF)(E:Env)
def Ch(c a b:ah)(st:ai):Tt a':=match c with| .val (.bool t)=>(match t with|true=>some ⟨True,a,st⟩ |false=>some ⟨True,b,st⟩) |_=>none
def s7:am->Nat->Tt af| [],_=>none|x::_,0=>some x|_::r,n+1=>s7 r n
def pZ:am->Nat->Nat->Tt am|cs,0,n=>if n<=cs.length then some (cs.take n)else none| [],_+1,_=>none|_::r,a+1,n=>pZ r a n
def zl(t:Tr)(x:ah)(st:ai):Tt a':=match x with| .val (.ptr cs off)=>if(E.T t).agg then(match pZ cs off (E.T t).size with|some a=>some ⟨True,.val (.agg a),st⟩ |none=>none)else if(E.T t).size=1 then(match s7 cs off with|some p=>some ⟨True,.val p,st⟩ |none=>none)else none| .val (.bI _ cs)=>if(E.T t).agg then(match pZ cs 0 (E.T t).size with|some a=>some ⟨True,.val (.agg a),st⟩ |none=>none)else if(E.T t).size=1 then(match s7 cs 0 with|some p=>some ⟨True,.val p,st⟩ |none=>none)else none|x=>iW E t x st
def Mu(t:Tr)(len cap:ah)(st:ai):Tt a':=match(E.T t).k,len,cap with| .slice e,.val (.int _ n),.val (.int _ c)=>if(E.T e).zero.length=(E.T e).size/\0<(E.T e).size then if E.rows then some ⟨A.x3 n c (E.T e).bytes,.fa st.ag.length 0 (A.cj n),st.h2 (A.x9 n (E.T e).zero)⟩else some ⟨A.x3 n c (E.T e).bytes,.lit (E.T e).size (A.Jf n (af.m0 (E.T e) (E.T e).zero)),st⟩else none|_,_,_=>none
def s8(o:Tt ah)(d:Int):Tt Int:=match o with|none=>some d|some (.val (.int _ n))=>some n|_=>none
def EY(t:Tr)(id off m len cap:Nat)(lo c d:Tt ah)(st:ai):Tt a':=match d,(E.T t).k with|none,.slice e=>if m=(E.T e).size/\m≠0 then match lo,s8 c (A.ck len)with|none,some h=>some ⟨A.sl 0 h (match E.a6 14000000 with|true=>A.ck cap|false=>A.ck len),.row id off m (A.cj h) cap,st⟩ |some (.val (.int _ a)),some h=>some ⟨A.sl a h (A.ck len)/\A.within a (A.ck cap),.row id (A.jG off a m) m (A.cj (A.bL h a)) (A.cj (A.bL (A.ck cap) a)),st⟩ |_,_=>none else none|_,_=>none
def su(t:Tr)(x i:ah)(st:ai):Tt a':=match E.rows with|false=>jI E t x i st|true=>match rv i with|none=>none|some (_,n)=>match(E.T t).k,x with| .slice e,.fa id off len=>if(E.T e).size=0 then none else some ⟨A.within n (A.ck len),.gv id off (A.cj n) (E.T e).size 0,st⟩ | .slice e,.row id off _ len _=>if(E.T e).size=0 then none else some ⟨A.within n (A.ck len),.gv id off (A.cj n) (E.T e).size 0,st⟩ | .array a e,.box id off=>if(E.T e).size=0 then none else some ⟨A.within n (A.ck a),.gv id off (A.cj n) (E.T e).size 0,st⟩ |_,.fa _ _ _=>none|_,.row _ _ _ _ _=>none|_,.box _ _=>none|_,x=>jI E t x i st
def zm(m:ah)(st:ai):Tt ce:=match m with| .val (.map ks vs)=>some (A.dA ks vs) | .mp id=>(match st.ao.mp[id]? with|some (.cm es _)=>some es|_=>none)|_=>none
def AL(t:Tr)(m x v:ah)(st:ai):Tt a':=match m with| .mp id=>(match st.ao.mp[id]?,(E.T t).k with|some (.plain k e n),.map f d=>(match(E.T k).k,(E.T e).k,x,v with| .int g,.bool,.val (.int c a),.val (.bool _)=>if k=f/\e=d/\c=g/\oe id st.ao.mp=true then some ⟨A.Ji n c a,.undef,{st with ao:={st.ao with mp:=st.ao.mp.set id (.plain k e (A.C_ n))} }⟩else none|_,_,_,_=>none)|some (.cm es mk),.map k _=>(match iE E k,x,v.dn with|some ks,.val key,some p=>some ⟨A.vK (iX E k) ks es key/\(match oe id st.ao.mp with|true=>True|false=>A.CW es key),.undef,st.j8 (st.ao.mp.set id (.cm (A.iI es key p) mk))⟩ |_,_,_=>none)|_,_=>none)|_=>none
def Bt(t:Tr)(m x:ah)(ok:Bool)(st:ai)(K:ah->ai->Prop):Prop:=match(E.T t).k,x with| .map k e,.val key=>(match iE E k,zm A m st,p6 (E.T e)with|some ks,some es,some z=>A.vK (iX E k) ks es key/\A.look es key z λ v b=>K (match ok with|true=>.val (.bf [v,.bool b]) |false=>.val v) st|_,_,_=>False)|_,_=>False
def Ip(id:Nat)(k:af):dM->dM| .iter (some m) es left a=>if m=id then .iter (some m) es (A.e2 left k) (A.I5 a k)else .iter (some m) es left a|c=>c
def Bu(t a:Tr)(m x:ah)(st:ai):Tt a':=match(E.T t).k,m,x with| .map k _,.mp id,.val key=>(match iE E k,st.ao.mp[id]? with|some ks,some (.cm es _)=>if a=k then some ⟨A.vK (iX E k) ks es key,.val (.bf []),st.j8 ((st.ao.mp.map (Ip A id key)).set id (.cm (A.I' es key) none))⟩else none|_,_=>none)|_,_,_=>none
def RL(t:Tr)(m:ah)(st:ai):Tt a':=match(E.T t).k,m with| .map _ _,.mp id=>(match st.ao.mp[id]? with|some (.cm es _)=>some ⟨True,.it st.ao.mp.length,st.j8 (st.ao.mp++[.iter (some id) [] (A.Ja es) none])⟩ |_=>none)| .map _ _,.val (.map ks vs)=>some ⟨True,.it st.ao.mp.length,st.j8 (st.ao.mp++[.iter none (A.dA ks vs) ks none])⟩ |_,_=>none
def B_(x:ah)(st:ai)(K:ah->ai->Prop):Prop:=match x with| .it id=>(match st.ao.mp[id]? with|some (.iter src es _ (some k))=>(match p7 st src es with|some es=>A.CX es k λ v=>K (.val (.bf [k,v])) st|none=>False)|_=>False)|_=>False
def L0(m s v:ah)(st:ai):Tt a':=match m,s,v.dn with| .mp id,.val (.int .i64 n),some p=>(match st.ao.mp[id]? with|some (.cm es (some (k,a)))=>if k.flat=true then some ⟨A.same n a,.undef,st.j8 (st.ao.mp.set id (.cm (A.iI es k p) none))⟩else none|_=>none)|_,_,_=>none
def Sh(x:ah)(st:ai)(K:ah->ai->Prop):Prop:=match x with| .it id=>(match st.ao.mp[id]? with|some (.iter src es left _)=>(match p7 st src es with|some a=>A.Db left a (λ _=>K (.val (.bf [.bool false])) st) λ k v=>K (.val (.bf [.bool true,k,v])) (st.j8 (st.ao.mp.set id (.iter src es (A.e2 left k) (some k)))) |none=>False)|_=>False)|_=>False
def AW(t:Tr)(m x:ah)(st:ai)(K:ah->ai->Prop):Prop:=match(E.T t).k,m,x with| .map k e,.mp id,.val key=>(match iE E k,st.ao.mp[id]?,p6 (E.T e)with|some ks,some (.cm es _),some z=>A.vK (iX E k) ks es key/\(match oe id st.ao.mp with|true=>True|false=>A.CW es key)/\A.look es key z λ v _=>A.C9 λ n=>K (.val (.bf [v,.int .i64 n])) (st.j8 (st.ao.mp.set id (.cm (A.z8 es key z) (some (key,n))))) |_,_,_=>False)|_,_,_=>False
def JM:am->Bool| []=>true|_=>false
def B'(t:Tr)(x:ah)(lo c d:Tt ah)(st:ai):Tt a':=match d,(E.T t).k with|none,.slice e=>(match x.elems with|some (m,xs)=>if m=(E.T e).size/\(E.T e).size≠0 then match s8 lo 0,s8 c (A.aH xs)with|some a,some h=>some ⟨A.sl a h (A.aH xs),.val (.aa m (A.kx xs a h)),st⟩ |_,_=>none else none|none=>none)|none,.str=>(match x with| .val (.str s)=>(match s8 lo 0,s8 c (A.pr s)with|some a,some h=>some ⟨A.sl a h (A.pr s),.val (.str (A.Ju s a h)),st⟩ |_,_=>none)|_=>none)|_,_=>none
def AX(t:Tr)(id off:Nat)(lo a c:Tt ah)(st:ai):Tt a':=match(E.T t).k,lo with| .array n e,none=>if(E.T e).size≠0/\n<=9223372036854775807 then match a,c with|some (.val (.int _ h)),some (.val (.int _ m))=>some ⟨A.sl 0 h m/\A.sl 0 m (A.ck n),.fa id off (A.cj h),st⟩ |some (.val (.int _ h)),none=>some ⟨A.sl 0 h (A.ck n),.fa id off (A.cj h),st⟩ |none,none=>some ⟨True,.fa id off n,st⟩ |_,_=>none else none|_,_=>none
def RM(t:Tr)(x i:ah)(st:ai):Tt a':=match rv i,(E.T t).k,x with|some (_,n),.str,.val (.str s)=>some ⟨A.within n (A.pr s),.val (.int .u8 (A.vS s n)),st⟩ |_,_,_=>none
def CL(op:UnOp)(x:ah)(st:ai):Tt a':=match op,x with| .not,.val (.bool b)=>some ⟨True,.val (.bool (A.fi b)),st⟩ | .neg,.val (.int .i64 n)=>some ⟨A.C' n,.val (.int .i64 (A.vJ n)),st⟩ | .xor,.val (.int .u64 n)=>some ⟨True,.val (.int .u64 (A.JB n)),st⟩ |_,_=>none
def O_(src dst:Tr)(x:ah)(st:ai):Tt a':=match(E.T src).k,(E.T dst).k,x with| .int k,.int a,.val (.int c n)=>if k=a/\c=k/\k=.i64 then some ⟨A.bS n,.val (.int k n),st⟩else some ⟨True,.val (.int a (A.wrap a n)),st⟩ | .str,.str,.val (.str s)=>some ⟨True,.val (.str s),st⟩ |_,_,_=>none
def Bv(op:BinOp)(a b:Int):Tt (Prop×af):=match op with| .add=>some (A.bS (A.ak a b),.int .i64 (A.ak a b)) | .sub=>some (A.bS (A.bL a b),.int .i64 (A.bL a b)) | .mul=>some (A.bS (A.eh a b),.int .i64 (A.eh a b)) | .quo=>some (A.nL b/\A.bS (A.xY a b),.int .i64 (A.xY a b)) | .rem=>some (A.nL b,.int .i64 (A.hI a b)) | .eql=>some (True,.bool (A.cV a b)) | .neq=>some (True,.bool (A.fi (A.cV a b))) | .lss=>some (True,.bool (A.ha a b)) | .leq=>some (True,.bool (A.hP a b)) | .gtr=>some (True,.bool (A.ha b a)) | .geq=>some (True,.bool (A.hP b a)) |_=>none
def yB(op:BinOp)(k:IntKind)(a b:Int):Tt (Prop×af):=match op with| .and=>some (True,.int k (A.lI .and k a b)) | .or=>some (True,.int k (A.lI .or k a b)) | .add=>some (True,.int k (A.lI .add k a b)) | .sub=>some (True,.int k (A.lI .sub k a b)) | .rem=>some (A.nL b,.int k (A.hI a b)) | .eql=>some (True,.bool (A.cV a b)) | .neq=>some (True,.bool (A.fi (A.cV a b))) | .lss=>some (True,.bool (A.ha a b)) | .leq=>some (True,.bool (A.hP a b)) | .gtr=>some (True,.bool (A.ha b a)) | .geq=>some (True,.bool (A.hP b a)) |_=>none
def CM:fm->af->af->Tt Bool| .int,.int k a,.int c b=>if k=c then some (A.cV a b)else none| .bool,.bool a,.bool b=>some (A.qA a b) | .str,.str a,.str b=>some (A.m3 a b) | .ptr,.bI a _,.bI b _=>some (A.I4 a b) | .ptr,.ch,.ch=>some true| .ptr,.ch,.bI _ _=>some false| .ptr,.bI _ _,.ch=>some false| .ptr,.ch,.ptr _ _=>some false| .ptr,.ptr _ _,.ch=>some false| .ptr,.loc _,.ch=>some false| .ptr,.ch,.loc _=>some false|_,_,_=>none
def zb:Tp fm->am->am->Tt Bool| [],[],[]=>some true|k::ks,x::xs,y::c=>(match CM A k x y,zb ks xs c with|some a,some b=>some (A.fH a b) |_,_=>none)|_,_,_=>none
def o3(op:BinOp)(t:Tr)(x y:af)(st:ai):Tt a':=match(E.T t).k with| .ptr e=>(if(E.T e).size=0 then none else match CM A .ptr x y,op with|some r,.eql=>some ⟨True,.val (.bool r),st⟩ |some r,.neq=>some ⟨True,.val (.bool (A.fi r)),st⟩ |_,_=>none)|_=>none
def Cz(op:BinOp)(t:Tr)(x y:ah)(st:ai):Tt a':=match x,y with| .val (.int k a),.val (.int g b)=>(match op with| .shl=>some ⟨A.within b k.bits,.val (.int k (A.sc k a b)),st⟩ | .shr=>some ⟨A.within b k.bits,.val (.int k (A.oE a b)),st⟩ |op=>if k=g then match(match E.a6 11000000 with|true=>yB A op k a b|false=>if k=.i64 then Bv A op a b else yB A op k a b)with|some (s,p)=>some ⟨s,.val p,st⟩ |none=>none else none)| .val (.bool a),.val (.bool b)=>(match(E.T t).k,op with| .bool,.eql=>some ⟨True,.val (.bool (A.qA a b)),st⟩ | .bool,.neq=>some ⟨True,.val (.bool (A.fi (A.qA a b))),st⟩ |_,_=>none)| .val (.str a),.val (.str b)=>(match op with| .eql=>some ⟨True,.val (.bool (A.m3 a b)),st⟩ | .neq=>some ⟨True,.val (.bool (A.fi (A.m3 a b))),st⟩ |_=>none)| .val (.bI a c),.val (.bI b f)=>o3 A E op t (.bI a c) (.bI b f) st| .val (.bI a c),.val .ch=>o3 A E op t (.bI a c) .ch st| .val .ch,.val (.bI a c)=>o3 A E op t .ch (.bI a c) st| .val (.ptr a d),.val .ch=>o3 A E op t (.ptr a d) .ch st| .val .ch,.val (.ptr a d)=>o3 A E op t .ch (.ptr a d) st| .val .ch,.val .ch=>o3 A E op t .ch .ch st| .val (.loc b),.val .ch=>o3 A E op t (.loc b) .ch st| .val .ch,.val (.loc b)=>o3 A E op t .ch (.loc b) st| .val (.agg a),.val (.agg b)=>(match(E.T t).eq with|none=>none|some ks=>match zb A ks a b,op with|some r,.eql=>some ⟨True,.val (.bool r),st⟩ |some r,.neq=>some ⟨True,.val (.bool (A.fi r)),st⟩ |_,_=>none)|_,_=>none
def CA(t:Tr)(x:ah)(st:ai):Tt a':=match(E.T t).k,x with| .str,.val (.str s)=>some ⟨True,.val (.int .i64 (A.pr s)),st⟩ | .slice _,.fa _ _ n=>some ⟨True,.val (.int .i64 (A.ck n)),st⟩ | .slice _,.row _ _ _ n _=>some ⟨True,.val (.int .i64 (A.ck n)),st⟩ | .slice _,x=>(match x.elems with|some (_,xs)=>some ⟨True,.val (.int .i64 (A.aH xs)),st⟩ |none=>none)| .array n _,_=>some ⟨True,.val (.int .i64 (A.ck n)),st⟩ | .map _ _,x=>(match zm A x st with|some es=>some ⟨True,.val (.int .i64 (A.nI es)),st⟩ |none=>none)|_,_=>none
def Bw(t:Tr)(s y:ah)(st:ai):Tt a':=match(E.T t).k,y.elems with| .slice e,some (c,a)=>if c=(E.T e).size/\0<(E.T e).size/\(E.T e).zero.length=(E.T e).size then match s.ox with| .lit m xs=>if m=(E.T e).size then some ⟨A.room (A.bp (A.bn xs a)) (E.T e).bytes,.own st.tk.length (E.T e).size (A.bn xs a),{st with tk:=st.tk++[(A.bp (A.bn xs a),e)]}⟩else if m=0/\JM xs=true then some ⟨A.room (A.bp a) (E.T e).bytes,.own st.tk.length (E.T e).size a,{st with tk:=st.tk++[(A.bp a,e)]}⟩else none| .own k m xs=>(match E.a6 8000000 with|true=>if m=(E.T e).size then some ⟨A.pt st.tk k e (A.bp xs)/\A.room (A.bp (A.bn xs a)) (E.T e).bytes,.own k (E.T e).size (A.bn xs a),{st with tk:=A.gE st.tk k (A.bp (A.bn xs a),e)}⟩else none|false=>if m=(E.T e).size/\((st.tk.getD k (0,0)).2=e)/\k<st.tk.length then some ⟨A.j' (st.tk.getD k (0,0)).1 (A.bp xs)/\A.room (A.bp (A.bn xs a)) (E.T e).bytes,.own k (E.T e).size (A.bn xs a),{st with tk:=st.tk.set k (A.bp (A.bn xs a),e)}⟩else none)|_=>none else none|_,_=>none
def G4(c:Bool)(xs:aP)(st:ai):Tt a':=match xs with| [.val (.int .i64 a),.val (.int .i64 b)]=>some ⟨True,.val (.int .i64 (if c then A.tz a b else A.r7 a b)),st⟩ |_=>none
def F4(b:Builtin)(ts:Tp Tr)(xs:aP)(st:ai):Tt a':=match b,ts,xs with| .len,[t],[x]=>CA A E t x st| .append,[t,a],[s,y]=>if t=a then Bw A E t s y st else none| .min,_,xs=>G4 A true xs st| .max,_,xs=>G4 A false xs st| .delete,[t,k],[m,x]=>Bu A E t k m x.bare st| .clear,[t],[x]=>zw E t x st| .cap,[t],[.row _ _ _ _ cap]=>(match(E.T t).k with| .slice _=>some ⟨True,.val (.int .i64 (A.ck cap)),st⟩ |_=>none)|_,_,_=>none
def hL(o:Op)(st:ai):Tt a':=match o with| .pick c a b=>Ch (aL st c) (aL st a) (aL st b) st| .load t a=>zl E t (aL st a) st| .binOp op t x y _=>Cz A E op t (aL st x) (aL st y) st| .unOp op _ x=>CL A op (aL st x) st| .convert s d x=>O_ A E s d (aL st x) st| .makeSlice t j c=>Mu A E t (aL st j) (aL st c) st| .slice t x k i l=>(match aL st x with| .box id off=>AX A E t id off (k.map (aL st)) (i.map (aL st)) (l.map (aL st)) st| .row id off m len cap=>EY A E t id off m len cap (k.map (aL st)) (i.map (aL st)) (l.map (aL st)) st|x=>B' A E t x (k.map (aL st)) (i.map (aL st)) (l.map (aL st)) st) | .index t x g=>RM A E t (aL st x) (aL st g) st| .call {callee:=.builtin b,args,argTypes}=>F4 A E b argTypes.toList (args.toList.map (aL st)) st| .indexAddr t x g=>(match aL st x with| .fa id off len=>su A E t (.fa id off len) (aL st g) st| .row id off m len cap=>su A E t (.row id off m len cap) (aL st g) st| .val (.ptr cs off)=>su A E t (.val (.ptr cs off)) (aL st g) st| .box id off=>su A E t (.box id off) (aL st g) st|_=>none) | .move x=>some ⟨True,aL st x,st⟩ | .assign x=>some ⟨True,aL st x,st⟩ | .alloc t=>ry E t st| .box t x=>qd E t (aL st x) st| .build t parts=>u6 E t (parts.toList.map λ p=>(p.1,aL st p.2)) st| .buildSlice t n parts=>pK E t n (parts.toList.map λ p=>(p.1,aL st p.2)) st| .store t a x=>lX E t (aL st a) (aL st x) st| .nilCheck x=>(match aL st x with| .val (.ptr cs o)=>some ⟨True,.val (.ptr cs o),st⟩ | .box id o=>some ⟨True,.box id o,st⟩ | .val (.fn f cs)=>some ⟨True,.val (.fn f cs),st⟩ | .a6 f cs=>some ⟨True,.a6 f cs,st⟩ | .gv a b c d e=>some ⟨True,.gv a b c d e,st⟩ | .val (.fJ j)=>some ⟨True,.val (.fJ j),st⟩ | .val (.bI a cs)=>some ⟨True,.val (.bI a cs),st⟩ | .val (.loc b)=>some ⟨True,.val (.loc b),st⟩ |_=>none) | .makeFunc fn w cap=>yE E fn (w.toList.map (aL st)) (cap.toList.map (aL st)) st| .fieldAddr s x f=>pH E s (aL st x).vU f st| .field t x f=>u7 E t (aL st x) f st| .extract x g=>uJ (aL st x) g st| .makeMap t r=>yR E t r st| .mapUpdate t m x v=>AL A E t (aL st m) (aL st x).bare (aL st v) st| .range t m=>RL A E t (aL st m) st| .entryStore _ m s v=>L0 A (aL st m) (aL st s) (aL st v) st|_=>none
def xu(t:Tr)(x i:ah)(st:ai)(K:ah->ai->Prop):Prop:=match(E.T t).k,x.elems,rv i with| .slice e,some (m,xs),some (_,n)=>if m=(E.T e).size/\(E.T e).size≠0 then A.idx xs n λ cs=>K (.val (.ptr cs 0)) st else False|_,_,_=>False
def go'(r:Tt a')(K:ah->ai->Prop):Prop:=match r with|some r=>r.side/\K r.v r.st|none=>False
def lv(c:Bool)(o:Op)(st:ai)(K:ah->ai->Prop):Prop:=match o with| .call {callee:=.value x,args.. } =>(match aL st x with| .val (.fn f i)=>(match zH E f (args.toList.map (aL st))with|some g=>A.call f (g++i) λ r=>K (.val r) st|none=>match c with|true=>False|false=>A.tJ f i (args.toList.map (aL st)) st K)| .val (.k4 f j)=>(match c with|true=>False|false=>(match eu (args.toList.map (aL st))with|some g=>A.call f (j++g) λ r=>K (.val r) st|none=>False)) | .a6 f i=>(match c with|true=>False|false=>A.deep f (args.toList.map (aL st)++i.map js.Dk) st K)| .val (.fJ g)=>(match eu (args.toList.map (aL st))with|some ps=>(match c with|true=>False|false=>A.fJ g ps st K)|none=>match c with|true=>False|false=>A.C0 g (args.toList.map (aL st)) st K)|_=>False)| .call {callee:=.builtin .append,args,argTypes} =>(match zG E argTypes.toList with|true=>(match c with|true=>False|false=>A.nG argTypes.toList (args.toList.map (aL st)) st K)|false=>go' (hL A E o st) K)| .call {callee:=.builtin .copy,args,argTypes}=>(match c with|true=>False|false=>A.xU argTypes.toList (args.toList.map (aL st)) st K)| .load t a=>(match aL st a with| .gv id off d m k=>A.r' t (.gv id off d m k) st K| .box id off=>(match E.a6 10000000 with|true=>A.r' t (.box id off) st K|false=>go' (hL A E o st) K)|_=>go' (hL A E o st) K)| .store t a x=>(match aL st a with| .gv id off d m k=>A.qM t (.gv id off d m k) (aL st x) st K| .box id off=>(match E.a6 10000000 with|true=>A.qM t (.box id off) (aL st x) st K|false=>go' (hL A E o st) K)|_=>go' (hL A E o st) K)| .alloc t=>(match E.a6 10000000 with|true=>A.z1 t st K|false=>go' (hL A E o st) K)| .box t x=>(match E.a6 10000000 with|true=>A.xR t (aL st x) st K|false=>go' (hL A E o st) K)| .indexAddr t x d=>(match aL st x with| .val (.aa m xs)=>xu A E t (.val (.aa m xs)) (aL st d) st K| .lit m xs=>xu A E t (.lit m xs) (aL st d) st K| .own k m xs=>xu A E t (.own k m xs) (aL st d) st K| .val (.c4 b n cap)=>A.C7 t b n cap (aL st d) st K|_=>go' (hL A E o st) K)| .fieldAddr s x f=>(match aL st x with| .val (.loc b)=>A.C6 s b f st K|_=>go' (hL A E o st) K)| .mapUpdate t m x v=>(match aL st v with| .box id 0=>(match c with|true=>False|false=>A.Ad t (aL st m) (aL st x).bare id st K)|_=>go' (hL A E o st) K)| .buildSlice t n parts=>(match parts.toList.map λ p=>(p.1,aL st p.2)with| [(0,.fa id 0 len)]=>(match c with|true=>False|false=>A.Ae t n id len st K)|_=>go' (hL A E o st) K)| .entryStore t m s v=>(match aL st v with| .row id 0 _ len cap=>(match c with|true=>False|false=>A.x4 (aL st m) (aL st s) id len cap st K)|_=>go' (hL A E o st) K)| .lookup t m x ok=>Bt A E t (aL st m) (aL st x).bare ok st K| .entry x=>B_ A (aL st x) st K| .next x false=>(match c with|true=>False|false=>Sh A (aL st x) st K)| .mapEntry t m x=>(match c with|true=>False|false=>AW A E t (aL st m) (aL st x).bare st K)| .binOp op t x y u=>(match xv op y with|some b=>(match c with|true=>False|false=>xo E b t (aL st x) st K)|none=>go' (hL A E (.binOp op t x y u) st) K)|o=>go' (hL A E o st) K
def hy(c:Bool)(ops:Tp Oper):Tp Oper->ai->(ai->Prop)->Prop| [],st,K=>K st|a::rest,st,K=>match a.guard with|none=>lv A E c a.op st λ v d=>hy c ops rest (d.put a.dst v) K|some (f,want)=>match qg ops f with|none=>False|some t=>match st.sl.getD t .undef with| .undef=>hy c ops rest (st.put a.dst .undef) K| .val (.bool b)=>(match want with|true=>eI b (λ _=>lv A E c a.op (st.put (some t) (.val (.bool true))) λ v d=>hy c ops rest (d.put a.dst v) K) (λ _=>hy c ops rest ((st.put (some t) (.val (.bool false))).put a.dst .undef) K) |false=>eI b (λ _=>hy c ops rest ((st.put (some t) (.val (.bool true))).put a.dst .undef) K) (λ _=>lv A E c a.op (st.put (some t) (.val (.bool false))) λ v d=>hy c ops rest (d.put a.dst v) K)) |_=>False
def lp(ops:Tu Oper):Nat->Tu Bool->ai->(ai->Prop)->Prop|0,c,st,K=>(match Region.ready .any ops c with| []=>K st|_=>False) |d+1,c,st,K=>(match Region.ready .any ops c with| []=>K st|a::r=>rX (a::r) λ a=>(match ops[a]? with|none=>False|some f=>hy A E false ops.toList [f] st λ g=>lp ops d (c.setIfInBounds a true) g K))
def c8:Code->Nat×Nat->ai->(fb->ai->Prop)->Prop| .skip,_,st,Q=>Q .normal st| .region id ops draw,_,st,Q=>(match oU E draw id ops.size with| .each=>lp A E ops ops.size (Array.replicate ops.size false) st (Q .normal) | .cut c=>A.pm ops.toList c/\hy A E true (ops.toList.take c) (ops.toList.take c) st λ s=>(match ops[c]? with|none=>False|some n=>hy A E false ops.toList [n] s λ o=>lp A E ops (ops.size-(c+1)) (rn (c+1) ops.size) o (Q .normal)) | .text=>(match draw with|true=>A.draw ops.toList|false=>True)/\hy A E draw ops.toList ops.toList st (Q .normal)) | .seq a b,d,st,Q=>(c8 a d st λ e i=>match e with| .normal=>c8 b d i Q| .exit k=>Q (.exit k) i| .ret=>Q .ret i)| .cond c a b,d,st,Q=>(match aL st c with| .val (.bool t)=>eI t (λ _=>c8 a d st Q) (λ _=>c8 b d st Q) |_=>False)| .block id body,d,st,Q=>(c8 body d st λ e i=>match e with| .normal=>Q .normal i| .exit k=>if k=id then Q .normal i else Q (.exit k) i| .ret=>Q .ret i)| .loop body,d,st,Q=>A.loop d body (λ s j=>c8 body d s j) st Q| .rangeFunc g ps l body,d,st,Q=>(match aL st g with| .val (.fn f m)=>(match E.a6 (13000000+f)with|true=>(match ps.toList with| [p]=>A.Dh d f m (λ x cap s j=>c8 l (s.jb p x cap).fS (s.jb p x cap) λ e s1=>match e with| .normal=>c8 body s1.fS s1 j|_=>False) st Q|_=>False)|false=>A.tW d f m ps.toList.length (λ x s j=>c8 l s.fS (s.params ps.toList x) λ e s1=>match e with| .normal=>c8 body s1.fS s1 j|_=>False) st Q)|_=>False)| .exit id,_,st,Q=>Q (.exit id) st| .ret,_,st,Q=>Q .ret st| .label _,_,st,Q=>Q .normal st| .scope b,d,st,Q=>c8 b d st Q|_,_,_,_=>False
end
section
variable{E:Env} {gH:Env}
def EZ:∀{cs:am} {o:Nat} {p:af},s7 cs o=some p->o<cs.length/\cs.getD o .any=p| [],o,p,h=>by cases o<;>cases h|x::r,0,p,h=>by cases h;exact⟨al,rfl⟩ |x::r,o+1,p,h=>by obtain⟨a,c⟩:=EZ (cs:=r) (o:=o) (by simpa[s7]using h);exact⟨by simpa using a,by simpa using c⟩
def EP:∀{cs:am} {o n:Nat} {l:am},pZ cs o n=some l->o+n<=cs.length/\(cs.drop o).take n=l|cs,0,n,l,h=>(by cases cs with|nil=>simp only[pZ]at h;split at h;(next a=>cases h;exact⟨by simpa using a,rfl⟩);cases h|cons x r=>simp only[pZ]at h;split at h;(next a=>cases h;exact⟨by simpa using a,rfl⟩);cases h)| [],o+1,n,l,h=>by simp[pZ]at h|x::r,o+1,n,l,h=>by obtain⟨a,c⟩:=EP (cs:=r) (o:=o) (n:=n) (l:=l) (by simpa[pZ]using h);exact⟨by simp only[fY];omega,by simpa using c⟩
theorem HA{t:Tr} {cs:am} {off:Nat} {st:ai} {K:ah->ai->Prop}(h:go' (if(E.T t).agg then(match pZ cs off (E.T t).size with|some f=>some ⟨True,.val (.agg f),st⟩ |none=>none)else if(E.T t).size=1 then(match s7 cs off with|some p=>some ⟨True,.val p,st⟩ |none=>none)else none) K):a'.go (iW E t (.val (.ptr cs off)) st) K:=by
 simp only[iW];split at h;next d=>rw[if_pos d];split at h;(next f g=>obtain⟨a,c⟩:=EP g;exact⟨a,by have:=h.2;simpa[c]using this⟩);exact h.elim
 rename_i d;rw[if_neg d];split at h;next a=>rw[if_pos a];split at h;(next p i=>obtain⟨a,c⟩:=EZ i;exact⟨a,by have:=h.2;simpa only[c]using this⟩);exact h.elim
 exact h.elim
def PU{t:Tr} {x:ah} {st:ai} {K:ah->ai->Prop}(h:go' (zl E t x st) K):a'.go (iW E t x.norm st) K:=by
 unfold zl at h;split at h;·exact HA h
 ·exact HA h
 rename_i c a;cases x with|val p=>(cases p<;>first|exact h|exact(a _ _ rfl).elim)|gv=>exact h.elim|_=>exact h
def PV{c a b:ah} {st:ai} {K:ah->ai->Prop}(h:go' (Ch c a b st) K):a'.go (sV c a b st) K:=by unfold Ch at h;unfold sV;split at h;(next t=>cases t<;>exact h);exact h.elim
def RN(o:Tt ah)(d:Int):s8 o d=qe o d:=by unfold s8 qe;rfl
def O'{t:Tr} {x:ah} {lo c d:Tt ah} {st:ai} {K:ah->ai->Prop}(h:go' (B' (ay gH) E t x lo c d st) K):a'.go (sL E t x lo c d st) K:=by
 unfold B' at h;unfold sL;simp only[RN]at h;split at h;next e ae=>simp only[ae];split at h;(next m xs f=>simp only[f];split at h;(next a=>rw[if_pos ⟨.inl a.1,a.2⟩];exact h);exact h.elim);exact h.elim
 next ae=>simp only[ae];exact h
 exact h.elim
def L1{t:Tr} {id off:Nat} {lo a c:Tt ah} {st:ai} {K:ah->ai->Prop}(h:go' (AX (ay gH) E t id off lo a c st) K):a'.go (sx E t id off lo a c st) K:=by unfold AX at h;unfold sx;split at h;(next n e ae=>simp only[ae];split at h;(next g=>rw[if_pos g];split at h;(·obtain⟨⟨⟨d,a2,a3⟩,i,j,f⟩,k⟩:=h;exact⟨⟨a2,a3,f⟩,k⟩);(·obtain⟨⟨d,a2,a3⟩,k⟩:=h;exact⟨⟨a2,a3⟩,k⟩);(·exact h);exact h.elim);exact h.elim);exact h.elim
def Iq(k:fm)(a b:af):CM (ay gH) k a b=ic k a b:=by cases k<;>cases a<;>cases b<;>rfl
def Kw(op:BinOp)(t:Tr)(x y:af)(st:ai):o3 (ay gH) E op t x y st=l2 E op t x y st:=by unfold o3 l2;simp only[Iq];rfl
theorem F5:∀(ks:Tp fm)(a b:am),zb (ay gH) ks a b=eP ks a b| [],a,b=>by cases a<;>cases b<;>rfl|k::ks,a,b=>by cases a<;>cases b;(·rfl);(·rfl);(·rfl);simp only[zb,eP,F5 ks,Iq];rfl
def Pa(op:BinOp)(a b:Int):Bv (ay gH) op a b=wZ op a b:=by cases op<;>simp[Bv,wZ,ay]
def PW(op:BinOp)(k:IntKind)(a b:Int):yB (ay gH) op k a b=uF op k a b:=by cases op<;>simp[yB,uF,ay,DP]
def Kx(op:BinOp)(t:Tr)(x y:ah)(st:ai):Cz (ay gH) E op t x y st=ta E op t x y st:=by unfold Cz ta;simp only[Pa,PW,F5,Kw];cases x with|val p=>(cases y with|val q=>(cases p with|int k a=>(cases q with|int d b=>(cases op<;>first|rfl| (simp[ay];done) | (simp[ay];rfl)) |_=>rfl)|bool a=>(cases q with|bool b=>(cases h:(E.T t).k<;>first|rfl| (cases op<;>first|rfl| (simp[ay];done))) |_=>rfl)|str a=>(cases q with|str b=>(cases op<;>first|rfl| (simp[ay];done)) |_=>rfl)|agg a=>(cases q with|agg b=>(cases h:(E.T t).eq with|none=>rfl|some ks=>simp only;cases c:eP ks a b with|none=>rfl|some r=>cases op<;>rfl)|_=>rfl)|_=>cases q<;>rfl)|_=>cases p<;>rfl)|_=>cases y<;>rfl
def M4{t:Tr} {s y:ah} {st:ai} {K:ah->ai->Prop}(h:go' (Bw (ay gH) E t s y st) K):a'.go (u4 E t s y st) K:=by unfold Bw at h;unfold u4;generalize s.ox=s at h⊢;split at h;(next e w g ae p=>simp only[ae,p];split at h;(next j=>rw[if_pos ⟨.inl j.1,j.2⟩];split at h;(next m xs=>split at h;(next d=>simp only;rw[if_pos (.inl d)];obtain⟨c,f⟩:=h;refine⟨?_,f⟩;have c:(xs++g).length*((E.T e).bytes+1)<=140737488355328:=c;rw[bO]at c;exact c);split at h;(next d=>(have o:xs=[]:=by have:=d.2;cases xs with|nil=>rfl|cons a b=>cases this);subst o;simp only;rw[if_pos al];obtain⟨c,f⟩:=h;refine⟨?_,f⟩;have c:g.length*((E.T e).bytes+1)<=140737488355328:=c;simpa using c);exact h.elim);(next k m xs=>split at h;(·split at h;(next d=>obtain⟨⟨⟨l,i,n⟩,c⟩,f⟩:=h;have c:(xs++g).length*((E.T e).bytes+1)<=140737488355328:=c;rw[bO]at c;simp only;rw[if_pos ⟨.inl d,l⟩];exact⟨⟨i,n,c⟩,f⟩);exact h.elim);split at h;(next d=>simp only;rw[if_pos ⟨.inl d.1,d.2.1⟩];obtain⟨⟨i,c⟩,f⟩:=h;have c:(xs++g).length*((E.T e).bytes+1)<=140737488355328:=c;rw[bO]at c;exact⟨⟨i,d.2.2,c⟩,f⟩);exact h.elim);exact h.elim);exact h.elim);exact h.elim
def G5(m:ah)(st:ai):zm (ay gH) m st=p5 m st:=by unfold zm p5;cases m with|val p=>cases p<;>rfl|_=>rfl
def Ky(t:Tr)(x:ah)(st:ai):CA (ay gH) E t x st=tb E t x st:=by unfold CA tb;simp only[G5];cases(E.T t).k<;>cases x<;>rfl
def M5{t:Tr} {m x:ah} {ok:Bool} {st:ai} {K:ah->ai->Prop}(h:Bt (ay gH) E t m x ok st K):a'.go (sK E t m x ok st) K:=by unfold Bt at h;rw[G5]at h;unfold sK;split at h;(next k e key ae=>simp only[ae];split at h;(next ks es z c d f=>simp only[c,d,f];obtain⟨a,b⟩:=h;refine⟨a,?_⟩;cases ok<;>exact b);exact h.elim);exact h.elim
def Pb{x:ah} {st:ai} {K:ah->ai->Prop}(h:B_ (ay gH) x st K):a'.go (sM x st) K:=by unfold B_ at h;unfold sM;split at h;(·split at h;(next a=>simp only[a];split at h;(next c=>simp only[c];exact h);exact h.elim);exact h.elim);exact h.elim
def Pc(id:Nat)(k:af):Ip (ay gH) id k=ve id k:=by funext c;match c with| .iter (some m) es left a=>rfl| .iter none es left a=>rfl| .plain _ _ _=>rfl| .cm _ _=>rfl| .gone=>rfl
def PX(t a:Tr)(m x:ah)(st:ai):Bu (ay gH) E t a m x st=w2 E t a m x st:=by unfold Bu w2;simp only[Pc];rfl
def LQ{t:Tr} {m x v:ah} {st:ai} {K:ah->ai->Prop}(h:go' (AL (ay gH) E t m x v st) K):a'.go (pI E t m x v st) K:=by unfold AL at h;unfold pI;split at h;(next id=>split at h;(next d f=>simp only[d,f];exact h);(next es l k e d f=>simp only[d,f];split at h;(next g i=>simp only[g,i];obtain⟨⟨a,b⟩,c⟩:=h;refine⟨⟨a,?_⟩,c⟩;cases j:oe id st.ao.mp with|true=>exact .inl rfl|false=>rw[j]at b;exact .inr b);exact h.elim);exact h.elim);exact h.elim
def L2{t:Tr} {m x:ah} {st:ai} {K:ah->ai->Prop}(h:AW (ay gH) E t m x st K):uG E t m x st K:=by unfold AW at h;unfold uG;split at h;(next k e id key d=>simp only[d];split at h;(next f g i=>simp only[f,g,i];obtain⟨a,b,c⟩:=h;refine⟨a,?_,c⟩;cases j:oe id st.ao.mp with|true=>exact .inl rfl|false=>rw[j]at b;exact .inr b);exact h.elim);exact h.elim
def Kc(op:UnOp)(x:ah)(st:ai):CL (ay gH) op x st=tf op x st:=by unfold CL tf;cases x with|val p=>(cases op<;>cases p<;>first|rfl|skip);all_goals(rename_i k n;cases k<;>first|rfl|simp[ay]) |_=>cases op<;>rfl
def yw{t:Tr} {x i:ah} {st:ai} {K:ah->ai->Prop}(h:go' (su (ay gH) E t x i st) K):a'.go (jI E t x i st) K:=by
 unfold su at h;split at h;·exact h
 rename_i d;split at h;·exact h.elim
 rename_i g n c;split at h;next e id off len ae=>unfold jI;simp only[c,ae];split at h;(·exact h.elim);rename_i a;rw[if_neg a];simp only[rC,d];exact h
 next e id off m len cap ae=>unfold jI;simp only[c,ae];split at h;(·exact h.elim);rename_i a;rw[if_neg a];simp only[rC,d];exact h
 next f e id off ae=>unfold jI;simp only[c,ae];split at h;(·exact h.elim);rename_i a;rw[if_neg a];simp only[rC,d];exact h
 ·exact h.elim
 ·exact h.elim
 ·exact h.elim
 exact h
def L3{t:Tr} {id off m len cap:Nat} {lo a c:Tt ah} {st:ai} {K:ah->ai->Prop}(h:go' (EY (ay gH) E t id off m len cap lo a c st) K):a'.go (uE E t id off m len cap lo a c st) K:=h
def lL{o:Op} {st:ai} {K:ah->ai->Prop}(h:go' (hL (ay gH) E o st) K):a'.go (dr E o st) K:=by cases o with|pick c a b=>exact PV h|load t a=>simp only[hL,dr]at h⊢;exact PU h|store t a x=>(simp only[hL,dr]at h⊢;cases i:aL st a<;>rw[i]at h<;>first|exact h|exact h.elim)|nilCheck x=>(simp only[hL,dr]at h⊢;split at h<;>first|exact h|exact h.elim| (rename_i i;simp only[i];exact h)) |mapUpdate t m x v=>exact LQ h|lookup t m x ok=>exact h.elim|entry x=>exact h.elim|binOp op t x y z=>simp only[hL,Kx]at h;exact h|unOp op t x=>simp only[hL,Kc]at h;exact h|slice t x p l s=>simp only[hL]at h;simp only[dr];split at h;(next d=>simp only[d];exact L1 h);(next d=>simp only[d];exact L3 h);rename_i j k;split;(next d=>exact absurd d (j _ _));(next d=>exact absurd d (k _ _ _ _ _));exact O' h|indexAddr t x n=>simp only[hL]at h;simp only[dr];split at h;(next d=>rw[d];exact yw h);(next d=>rw[d];exact yw h);(next d=>rw[d];exact yw h);(next d=>rw[d];exact yw h);exact h.elim|call c=>(obtain⟨callee,args,ts⟩:=c;cases callee with|builtin b=>simp only[hL,dr]at h⊢;unfold F4 at h;unfold wP;split at h;(next f g=>rw[Ky]at h;simp only[f,g];exact h);(next f g=>simp only[f,g];split at h;(next he=>rw[if_pos he];exact M4 h);exact h.elim);(·exact h);(·exact h);(next f g=>rw[PX]at h;simp only[f,g];exact h);(next f g=>simp only[f,g];exact h);(next f g=>simp only[f,g];exact h);exact h.elim|value x=>exact h|invoke r m=>exact h)|_=>exact h
def yx{a:Bool} {t:Tr} {x i:Operand} {st:ai} {K:ah->ai->Prop}(d:∀b n c,aL st x≠.val (.c4 b n c)):eN E a (.indexAddr t x i) st K=a'.go (dr E (.indexAddr t x i) st) K:=by simp only[eN]
def LR{a:Bool} {t:Tr} {x:Operand} {f:Nat} {st:ai} {K:ah->ai->Prop}(c:∀b,aL st x≠.val (.loc b)):eN E a (.fieldAddr t x f) st K=a'.go (dr E (.fieldAddr t x f) st) K:=by simp only[eN]
def LS{a:Bool} {t:Tr} {m x v:Operand} {st:ai} {K:ah->ai->Prop}(c:∀id,aL st v≠.box id 0):eN E a (.mapUpdate t m x v) st K=a'.go (dr E (.mapUpdate t m x v) st) K:=by simp only[eN]
def LA{c:Bool} {t:Tr} {n:Nat} {parts:Tu (Nat×Operand)} {st:ai} {K:ah->ai->Prop}(d:∀id a,(parts.toList.map λ p=>(p.1,aL st p.2))≠[(0,.fa id 0 a)]):eN E c (.buildSlice t n parts) st K=a'.go (dr E (.buildSlice t n parts) st) K:=by simp only[eN]
def LB{c:Bool} {t:Tr} {m s v:Operand} {st:ai} {K:ah->ai->Prop}(f:∀id d a b,aL st v≠.row id 0 d a b):eN E c (.entryStore t m s v) st K=a'.go (dr E (.entryStore t m s v) st) K:=by simp only[eN]
def Bx{i:Bool} {o:Op} {st:ai} {K:ah->ai->Prop}(h:lv (ay E) E i o st K):eN E i o st K:=by
 have z:∀{t:Tr} {C l:Operand} {s:ah},aL st C=s->(∀id off n,s≠.fa id off n)->(∀m xs,s.elems=some (m,xs)->s=s)->xu (ay E) E t s (aL st l) st K->a'.go (jI E t s (aL st l) st) K:=by intro t C l s ab S _ h;unfold xu at h;split at h;(next e m xs aj n ae g Q=>split at h;(next B=>(have D:jI E t s (aL st l) st=some ⟨0<=n/\n<xs.length,.val (.ptr (xs.getD n.toNat .any).cells 0),st⟩:=by unfold jI;simp only[Q,ae];rw[if_neg B.2];cases s with|fa a b c=>exact absurd rfl (S _ _ _) |row a b c d e=>cases g|_=>simp only[g];rw[if_pos B.1]);rw[D];exact h);exact h.elim);exact h.elim
 unfold lv at h;split at h;·simp only[eN];split at h;(next j=>simp only[j];split at h;(next k=>simp only[k];exact h);rename_i k;simp only[k];cases i with|true=>exact h.elim|false=>exact⟨rfl,h⟩);(next j=>simp only[j];cases i with|true=>exact h.elim|false=>refine⟨rfl,?_⟩;simp only at h;split at h;(next k=>simp only[k];exact h);exact h.elim);(next j=>simp only[j];cases i with|true=>exact h.elim|false=>exact⟨rfl,h⟩);(next j=>simp only[j];split at h;(next k=>simp only[k];cases i with|true=>exact h.elim|false=>exact⟨rfl,h⟩);rename_i k;simp only[k];cases i with|true=>exact h.elim|false=>exact⟨rfl,h⟩);exact h.elim
 ·simp only[eN];split at h;(next w=>simp only[w];cases i with|true=>exact h.elim|false=>exact⟨rfl,h⟩);rename_i w;simp only[w];exact lL h
 ·simp only[eN];cases i with|true=>exact h.elim|false=>exact⟨rfl,h⟩
 next t a=>show a'.go (dr E (.load t a) st) K;split at h;(next g=>simp only[dr,g];exact h);(next g=>split at h;(·simp only[dr,g];exact h);exact lL h);exact lL h
 next t a x=>show a'.go (dr E (.store t a x) st) K;split at h;(next g=>simp only[dr,g];exact h);(next g=>split at h;(·simp only[dr,g];exact h);exact lL h);exact lL h
 next t=>show a'.go (dr E (.alloc t) st) K;split at h;(·exact h);exact lL h
 next t x=>show a'.go (dr E (.box t x) st) K;split at h;(·exact h);exact lL h
 next t x l=>split at h;(next g=>rw[yx (by rw[g];intros;simp)];simp only[dr,g];exact z g (by intros;simp) (by intros;rfl) h);(next g=>rw[yx (by rw[g];intros;simp)];simp only[dr,g];exact z g (by intros;simp) (by intros;rfl) h);(next g=>rw[yx (by rw[g];intros;simp)];simp only[dr,g];exact z g (by intros;simp) (by intros;rfl) h);(next g=>simp only[eN,g];exact h);rename_i ad af ag U;rw[yx U];exact lL h
 next s x f=>split at h;(next g=>simp only[eN,g];exact h);rename_i g;rw[LR g];exact lL h
 next t m x v=>split at h;(next g=>simp only[eN,g];cases i with|true=>exact h.elim|false=>exact⟨rfl,h⟩);rename_i g;rw[LS g];exact lL h
 next t n parts=>split at h;(next g=>simp only[eN,g];cases i with|true=>exact h.elim|false=>exact⟨rfl,h⟩);rename_i g;rw[LA g];exact lL h
 next t m s v=>split at h;(next g=>simp only[eN,g];cases i with|true=>exact h.elim|false=>exact⟨rfl,h⟩);rename_i g;rw[LB g];exact lL h
 ·exact M5 h
 ·exact Pb h
 ·cases i with|true=>exact h.elim|false=>exact⟨rfl,h⟩
 ·cases i with|true=>exact h.elim|false=>exact⟨rfl,L2 h⟩
 next op t x y u=>simp only[eN];split at h;(next b p=>simp only[p];cases i with|true=>exact h.elim|false=>exact⟨rfl,h⟩);rename_i p;simp only[p];exact lL h
 rename_i j F M Z ac V W R O T L N aa X H I J;have G:=lL h;unfold eN;split;·exact(j _ _ _ rfl).elim
 ·exact(F _ _ rfl).elim
 ·exact(M _ _ rfl).elim
 ·exact(H _ rfl).elim
 ·exact(I _ _ _ rfl).elim
 ·exact(J _ _ _ _ _ rfl).elim
 ·exact(O _ _ _ rfl).elim
 ·exact(R _ _ _ rfl).elim
 ·exact(T _ _ _ _ rfl).elim
 ·exact(L _ _ _ rfl).elim
 ·exact(N _ _ _ _ rfl).elim
 exact G
def a'.me{r:Tt a'} {K a:ah->ai->Prop}(ae:∀v s,K v s->a v s)(h:a'.go r K):a'.go r a:=by unfold a'.go at*;split at h;(·exact⟨h.1,ae _ _ h.2⟩);exact h.elim
def E0{ts:Tp Tr} {xs:aP} {st:ai} {K d:ah->ai->Prop}(ae:∀v s,K v s->d v s)(h:jS E ts xs st K):jS E ts xs st d:=by unfold jS at*;split at h;(·split at h;(·obtain⟨f,a2,a3,a4,a5,h⟩:=h;refine⟨f,a2,a3,a4,a5,?_⟩;split at h;(·exact⟨h.1,h.2.1,λ cap a c=>ae _ _ (h.2.2 cap a c)⟩);(·obtain⟨g,i,cells,j,k,l,m⟩:=h;exact⟨g,i,cells,j,k,λ h=>ae _ _ (l h),λ h n a c=>ae _ _ (m h n a c)⟩);exact h.elim);exact h.elim);exact h.elim
def M6{ts:Tp Tr} {xs:aP} {st:ai} {K a:ah->ai->Prop}(ae:∀v s,K v s->a v s)(h:p9 E ts xs st K):p9 E ts xs st a:=by
 unfold p9 at*;split at h;·obtain⟨l,id,j,k,m,h⟩:=h;exact⟨l,id,j,k,m,E0 ae h⟩
 ·unfold vf at*;split at h;(·split at h;(·obtain⟨c,a2,a3,a4,a5,d,cells,f,g,a9⟩:=h;exact⟨c,a2,a3,a4,a5,d,cells,f,g,λ i n o=>ae _ _ (a9 i n o)⟩);exact h.elim);exact h.elim
 exact E0 ae h
def M7{ts:Tp Tr} {xs:aP} {st:ai} {K f:ah->ai->Prop}(ae:∀v s,K v s->f v s)(h:o2 E ts xs st K):o2 E ts xs st f:=by unfold o2 at*;split at h;(·split at h;(·obtain⟨g,a2,cells,a3,a4,h⟩:=h;refine⟨g,a2,cells,a3,a4,?_⟩;rcases h with⟨l,n,m,j,k,a,c,d,i⟩ | ⟨o,a,c,d⟩;(·exact .inl ⟨l,n,m,j,k,a,c,d,ae _ _ i⟩);exact .inr ⟨o,a,c,ae _ _ d⟩);exact h.elim);exact h.elim
def wF{Q:Bool} {o:Op} {st:ai} {K O:ah->ai->Prop}(ae:∀v s,K v s->O v s)(h:eN E Q o st K):eN E Q o st O:=by
 unfold eN at*;split at h;·split at h;(·split at h;(·obtain⟨r,f,g⟩:=h;exact⟨r,f,ae _ _ g⟩);obtain⟨i,h⟩:=h;refine⟨i,?_⟩;rcases h with(⟨F,N,ps,x,L,r,f,g⟩ | ⟨J,id,off,m,len,cap,cells,xs,r,w,a2,a3,a4,a5,H,I⟩ | ⟨G,f,g⟩) | ⟨J,fn,t,rt,e,w,a2,a3,a4,a5,H,I,y,id,off,m,len,cap,Z,ab,cells,R,S,T,U,V,W,X⟩;(·exact .inl (.inl ⟨F,N,ps,x,L,r,f,ae _ _ g⟩));(·exact .inl (.inr (.inl ⟨J,id,off,m,len,cap,cells,xs,r,w,a2,a3,a4,a5,H,ae _ _ I⟩)));(·exact .inl (.inr (.inr ⟨G,f,λ a b c d M=>ae _ _ (g a b c d M)⟩)));exact .inr ⟨J,fn,t,rt,e,w,a2,a3,a4,a5,H,I,y,id,off,m,len,cap,Z,ab,cells,R,S,T,U,V,W,ae _ _ X⟩);(·obtain⟨i,h⟩:=h;refine⟨i,?_⟩;split at h;(·obtain⟨r,f,g⟩:=h;exact⟨r,f,ae _ _ g⟩);exact h.elim);(·obtain⟨i,F,aa,x,G,f,g⟩:=h;exact⟨i,F,aa,x,G,f,λ a b c d M=>ae _ _ (g a b c d M)⟩);(·split at h;(·obtain⟨i,f,B,D,g,j,l⟩:=h;exact⟨i,f,B,D,g,ae _ _ j,ae _ _ l⟩);obtain⟨i,h⟩:=h;refine⟨i,?_⟩;rcases h with⟨F,N,ps,x,L,f,B,D,g,j,l⟩ | ⟨f,B,id,cap,xs,D,w,a2,a3,g,j,l⟩;(·exact .inl ⟨F,N,ps,x,L,f,B,D,g,ae _ _ j,ae _ _ l⟩);exact .inr ⟨f,B,id,cap,xs,D,w,a2,a3,g,ae _ _ j,ae _ _ l⟩);exact h.elim
 ·split at h;(·exact⟨h.1,M6 ae h.2⟩);exact a'.me ae h
 ·exact⟨h.1,M7 ae h.2⟩
 ·refine⟨h.1,?_⟩;have h:=h.2;unfold zD at*;split at h;(·split at h;(·split at h;(·exact⟨λ e=>ae _ _ (h.1 e),λ k v a b=>ae _ _ (h.2 k v a b)⟩);exact h.elim);exact h.elim);exact h.elim
 ·refine⟨h.1,?_⟩;have h:=h.2;unfold uG at*;split at h;(·split at h;(·exact⟨h.1,h.2.1,λ n=>ae _ _ (h.2.2 n)⟩);exact h.elim);exact h.elim
 ·split at h;(·refine⟨h.1,?_⟩;have h:=h.2;unfold xo at*;split at h;(·exact⟨λ e=>ae _ _ (h.1 e),ae _ _ h.2⟩);exact h.elim);exact a'.me ae h
 ·split at h;(·obtain⟨p,id,f,g,j⟩:=h;exact⟨p,id,f,g,a'.me ae j⟩);exact a'.me ae h
 ·split at h;(·obtain⟨p,id,f,g,j⟩:=h;exact⟨p,id,f,g,a'.me ae j⟩);exact a'.me ae h
 ·split at h;(·obtain⟨i,C,p,f,g,j,l⟩:=h;exact⟨i,C,p,f,g,j,λ b z=>a'.me ae (l b z)⟩);exact a'.me ae h
 ·split at h;(·obtain⟨i,C,p,f,g,j,l⟩:=h;exact⟨i,C,p,f,g,j,λ b z cap=>a'.me ae (l b z cap)⟩);exact a'.me ae h
 ·split at h;(·obtain⟨i,h⟩:=h;refine⟨i,?_⟩;rcases h with⟨C,p,f,g,j,l⟩ | ⟨p,b,f,g,l⟩;(·exact .inl ⟨C,p,f,g,j,λ b z=>a'.me ae (l b z)⟩);exact .inr ⟨p,b,f,g,a'.me ae l⟩);exact a'.me ae h
 exact a'.me ae h
theorem nV{c:Bool} {ops:Tp Oper} {K a:ai->Prop}(ae:∀s,K s->a s):∀{l:Tp Oper} {st:ai},iC E c ops l st K->iC E c ops l st a| [],st,h=>ae _ h|d::rest,st,h=>by simp only[iC]at h⊢;split at h;(·exact wF (λ v s h=>nV ae h) h);split at h;(·exact h.elim);split at h;(·exact nV ae h);(·exact⟨λ e=>wF (λ v s h=>nV ae h) (h.1 e),λ e=>nV ae (h.2 e)⟩);exact h.elim
theorem Bd{ops:Tu Oper} {K d:ai->Prop}(ae:∀s,K s->d s):∀{c:Nat} {a:Tu Bool} {st:ai},nu E ops c a st K->nu E ops c a st d|0,a,st,h=>by rw[nu]at h⊢;split at h;(next f=>exact ae _ h);exact h.elim|c+1,a,st,h=>by rw[nu]at h⊢;split at h;(next f=>exact ae _ h);rename_i g r f;refine Bq (λ g h=>?_) h;split at h;(·exact h.elim);rename_i j i;exact nV (λ k h=>Bd ae h) h
def Ca:∀{c:Code} {nb:Nat×Nat} {st:ai} {Q d:fb->ai->Prop},(∀e s,Q e s->d e s)->gG E c nb st Q->gG E c nb st d:=by intro c;induction c with|skip=>intro nb st Q d ae h;exact ae _ _ h|region id ops draw=>intro nb st Q d ae h;simp only[gG]at h⊢;split at h;(next he=>(try simp only[he]);exact Bd (ae .normal) h);(next c he=>(try simp only[he]);refine⟨h.1,nV (λ s h=>?_) h.2⟩;split at h;(·exact h.elim);exact nV (λ R h=>Bd (ae .normal) h) h);rename_i he;(try simp only[he]);exact⟨h.1,nV (ae .normal) h.2⟩ |seq a b i j=>(intro nb st Q d ae h;refine i (λ e s h=>?_) h;cases e with|normal=>exact j ae h|exit m=>exact ae _ _ h|ret=>exact ae _ _ h)|cond c a b i j=>intro nb st Q d ae h;simp only[gG]at h⊢;split at h;(·exact⟨λ e=>i ae (h.1 e),λ e=>j ae (h.2 e)⟩);exact h.elim|block id body o=>(intro nb st Q d ae h;refine o (λ e s h=>?_) h;cases e with|normal=>exact ae _ _ h|exit m=>simp only at h⊢;split at h;(next F=>rw[if_pos F];exact ae _ _ h);rename_i F;rw[if_neg F];exact ae _ _ h|ret=>exact ae _ _ h)|loop body o=>(intro nb st Q d ae h;obtain⟨l,J,M⟩:=h;refine⟨l,J,λ n s g=>o (λ e s h=>?_) (M n s g)⟩;cases e with|normal=>exact h|exit m=>exact ae _ _ h|ret=>exact ae _ _ h)|exit id=>intro nb st Q d ae h;exact ae _ _ h|ret=>intro nb st Q d ae h;exact ae _ _ h|label O=>intro nb st Q d ae h;exact ae _ _ h|rangeFunc f ps a b i j=>intro nb st Q d ae h;simp only[gG]at h⊢;split at h;(·split at h;(·obtain⟨xs,p,t,w,l,H,y,z,B,C,D⟩:=h;refine⟨xs,p,t,w,l,H,y,z,B,λ k s x cap G g K=>i (λ e s1 h=>?_) (C k s x cap G g K),λ s g=>ae _ _ (D s g)⟩;cases e with|normal=>refine j (λ e s2 h=>?_) h;exact h|exit m=>exact h|ret=>exact h);obtain⟨xs,I,t,w,l,H,y,z,B,C,D⟩:=h;refine⟨xs,I,t,w,l,H,y,z,B,λ k N s x G g=>i (λ e s1 h=>?_) (C k N s x G g),λ k s L g=>ae _ _ (D k s L g)⟩;cases e with|normal=>(refine j (λ e s2 h=>?_) h;cases e with|normal=>exact h|exit m=>exact ae _ _ h|ret=>exact ae _ _ h)|exit m=>exact h|ret=>exact h);exact h.elim|scope b o=>intro nb st Q d ae h;exact o ae h|goto O=>intro nb st Q d ae h;exact h.elim|refuse s=>intro nb st Q d ae h;exact h.elim
def Ci{b:Bool} {X Y:Unit->Prop}:eI b X Y↔(b=true->X ())/\(b=false->Y ()):=by cases b<;>simp[eI]
theorem oP{d:Bool} {ops:Tp Oper} {K:ai->Prop}:∀{l:Tp Oper} {st:ai},hy (ay E) E d ops l st K->iC E d ops l st K| [],st,h=>h|g::rest,st,h=>by simp only[hy,iC]at h⊢;split at h;(next a=>simp only[a];exact wF (λ v s h=>oP h) (Bx h));rename_i a;simp only[a];split at h;(·exact h.elim);rename_i f;simp only[f];split at h;(next c=>simp only[c];exact oP h);(next c=>simp only[c];split at h;(·rw[Ci]at h;exact⟨λ e=>wF (λ v s h=>oP h) (Bx (h.1 e)),λ e=>oP (h.2 e)⟩);rw[Ci]at h;exact⟨λ e=>wF (λ v s h=>oP h) (Bx (h.2 e)),λ e=>oP (h.1 e)⟩);exact h.elim
theorem Be{ops:Tu Oper}:∀{c:Nat} {a:Tu Bool} {st:ai} {K:ai->Prop},lp (ay E) E ops c a st K->nu E ops c a st K|0,a,st,K,h=>h|c+1,a,st,K,h=>by rw[lp]at h;rw[nu];split at h;(next d=>simp only[d];exact h);rename_i g r d;simp only[d];refine Bq (λ g h=>?_) h;split at h;(·exact h.elim);rename_i i f;simp only[f];exact nV (λ j h=>Be h) (oP h)
def uT:∀{c:Code} {nb:Nat×Nat} {st:ai} {Q:fb->ai->Prop},c8 (ay E) E c nb st Q->gG E c nb st Q:=by intro c;induction c with|skip=>intro nb st Q h;exact h|region id ops draw=>(intro nb st Q h;simp only[c8]at h;simp only[gG];split at h;(next he=>simp only[he];exact Be h);(next c he=>simp only[he];refine⟨h.1,nV (λ s h=>?_) (oP h.2)⟩;split at h;(·exact h.elim);rename_i U N;simp only[N];exact nV (λ V h=>Be h) (oP h));rename_i he;simp only[he];refine⟨?_,oP h.2⟩;have:=h.1;cases draw with|false=>rfl|true=>exact this)|seq a b i j=>(intro nb st Q h;have m:=i (st:=st) (Q:=λ e d=>match e with| .normal=>c8 (ay E) E b nb d Q| .exit g=>Q (.exit g) d| .ret=>Q .ret d) h;show gG E a nb st λ e d=>match e with| .normal=>gG E b nb d Q| .exit g=>Q (.exit g) d| .ret=>Q .ret d;refine Ca (λ e s h=>?_) m;cases e with|normal=>exact j h|exit g=>exact h|ret=>exact h)|cond c a b i j=>intro nb st Q h;simp only[c8,gG]at h⊢;split at h;(next G=>simp only[G];rw[Ci]at h;exact⟨λ e=>i (h.1 e),λ e=>j (h.2 e)⟩);exact h.elim|block id body t=>intro nb st Q h;exact t h|loop body t=>intro nb st Q h;obtain⟨l,K,R⟩:=h;exact⟨l,K,λ n s o=>t (R n s o)⟩ |exit id=>intro nb st Q h;exact h|ret=>intro nb st Q h;exact h|label T=>intro nb st Q h;exact h|rangeFunc f ps a b i j=>intro nb st Q h;simp only[c8,gG]at h⊢;split at h;(next G=>simp only[G];split at h;(next F=>simp only[F];split at h;(next p O=>obtain⟨xs,m,l,I,w,y,z,B,C⟩:=h;refine⟨xs,p,m,Array.toList_inj.1 O,l,I,w,y,z,λ k s x cap H o M=>?_,C⟩;have D:=i (B k s x cap H o M);refine Ca (λ e s1 h=>?_) D;cases e with|normal=>exact j h|exit g=>exact h|ret=>exact h);exact h.elim);rename_i F;simp only[F];obtain⟨xs,J,m,L,l,I,w,y,z,B,C⟩:=h;refine⟨xs,J,m,by simpa using L,l,I,w,y,z,λ k S s x H o=>?_,C⟩;have D:=i (B k S s x H o);refine Ca (λ e s1 h=>?_) D;cases e with|normal=>exact j h|exit g=>exact h|ret=>exact h);exact h.elim|scope b t=>intro nb st Q h;exact t h|goto T=>intro nb st Q h;exact h.elim|refuse s=>intro nb st Q h;exact h.elim
def wy{P:Program} {T:Tr->ep} {a6:FuncId->Bool} {rows:Bool}(d:co ⟨P,T,a6,rows,.none⟩){f:FuncId} {fn:Func} {c:Code}(i:P.funcs[f]?=some fn)(g:fn.body=some c)(he:kh P f){args:am} {p:af}(h:∀A q a Y,cS args->A=ay ⟨P,T,a6,rows,.none⟩->p=q->c8 A ⟨a,T,a6,rows,Y⟩ c (0,0) ⟨args.map .val++List.replicate (fn.ntmps-args.length) .undef,[],[],⟨[],0⟩⟩ λ e st=>match e with| .exit _=>False|_=>ol ⟨a,T,a6,rows,Y⟩ fn.results.toList st q):fL P f args p:=O8 (E:=⟨P,T,a6,rows,.none⟩) d rfl i g he λ j=>uT (E:=⟨P,T,a6,rows,.none⟩) (h _ _ P .none j rfl rfl)
def jM{P:Program} {T:Tr->ep} {a6:FuncId->Bool} {rows:Bool} {Y:gI}(i:co ⟨P,T,a6,rows,Y⟩){f:FuncId} {fn:Func} {c:Code}(k:P.funcs[f]?=some fn)(j:fn.body=some c)(he:kh P f){cG:aP} {ag:br} {tk:bo} {ao:dE} {Q:ah->br->bo->dE->Prop}(l:(ag.length,ao.mp.length)=(0,0)->tk=[])(h:∀A d g a(R:ai->Prop),A=ay ⟨P,T,a6,rows,Y⟩->a=(ag.length,ao.mp.length)->(∀st,Am ⟨d,T,a6,rows,g⟩ a fn.results.toList st Q->R st)->c8 A ⟨d,T,a6,rows,g⟩ c a ⟨cG++List.replicate (fn.ntmps-cG.length) .undef,ag,tk,ao⟩ λ e st=>match e with| .exit _=>False|_=>R st):cF ⟨P,T,a6,rows,Y⟩ f cG ag tk ao Q:=PS (E:=⟨P,T,a6,rows,Y⟩) i k j he l (uT (E:=⟨P,T,a6,rows,Y⟩) (h _ P Y _ _ rfl rfl λ _ h=>h))
def gW.flags{P:Program} {T:Tr->ep} {a d:FuncId->Bool} {g i:Bool} {Y:gI} {M:Tp Nat} {S:bA} {w:Ts} {b:Nat} {c:dM}(h:gW ⟨P,T,a,g,Y⟩ M S w b c):gW ⟨P,T,d,i,Y⟩ M S w b c:=by match c,h with| .plain k e n,h=>exact h| .cm es j,h=>exact h| .iter (some m) es f u,h=>exact h| .iter none es f u,h=>exact h| .gone,_=>trivial
def cF.flags{P:Program} {T:Tr->ep} {a6 I9:FuncId->Bool} {rows Jt:Bool} {Y:gI} {f:FuncId} {cG:aP} {ag:br} {tk:bo} {ao:dE} {Q:ah->br->bo->dE->Prop}(h:cF ⟨P,T,a6,rows,Y⟩ f cG ag tk ao Q):cF ⟨P,T,I9,Jt,Y⟩ f cG ag tk ao Q:=by have j:∀{o p:FuncId->Bool} {C D:Bool} {B:Nat} {ax:bA} {ag:br} {tk:bo} {ao:dE} {G:bR} {S:bA} {w:Ts},Inv ⟨P,T,o,C,Y⟩ B ax ag tk ao G S w->Inv ⟨P,T,p,D,Y⟩ B ax ag tk ao G S w:=λ h=>⟨h.base,h.hR,h.slt,h.e',h.gS,h.dJ,h.gq,h.box,h.tok,h.apart,h.fw,h.hi,h.eW,λ z b c g i=>(gW.flags (h.fj z b c g i)),h.gr,h.gC,h.hr,h.hj,h.f_,h.hH⟩;refine⟨h.1,λ B ax w0 G S w vs a b c d cs=>?_⟩;obtain⟨e,F,s,⟨v,r,n,E,m,k,l,y,g,i,t⟩,x⟩:=h.2 B ax w0 G S w vs (j a) b c d cs;exact⟨e,F,s,⟨v,r,n,E,m,k,l,y,g,j i,t⟩,x⟩
def uU{P:Program} {T:Tr->ep} {a6:FuncId->Bool} {rows:Bool}(i:co ⟨P,T,a6,rows,.none⟩){f:FuncId} {fn:Func} {c:Code}(s:P.funcs[f]?=some fn)(p:fn.body=some c)(he:kh P f)(t:fn.results=#[]){caps:am} {xs:Tp am}(h:∀A d Y g a(R:Nat->Prop),cS caps->Y.cQ=xs->(a=Y.l/\Y.any=false/\Y.lE=false)->A=ay ⟨P,T,a6,rows,Y⟩->(∀k,(k=xs.length\/k=xs.length+1)->R k)->c8 A ⟨d,T,a6,rows,g⟩ c (0,0) ⟨(af.fJ a::caps).map .val++List.replicate (fn.ntmps-(caps.length+1)) .undef,[],[],⟨[],0⟩⟩ λ e st=>match e with| .exit _=>False|_=>R st.ao.yk):l3 P f caps xs:=Cg (fg:=false) (ln:=false) i s p he t λ Y m n o _ j=>uT (E:=⟨P,T,a6,rows,Y⟩) (h _ P Y Y _ _ j m ⟨rfl,n,o⟩ rfl λ _ h=>h)
def Si{P:Program} {T:Tr->ep} {a6:FuncId->Bool} {rows:Bool}(i:co ⟨P,T,a6,rows,.none⟩){f:FuncId} {fn:Func} {c:Code}(s:P.funcs[f]?=some fn)(p:fn.body=some c)(he:kh P f)(t:fn.results=#[]){caps:am} {xs:Tp am}(h:∀A d Y g a(R:Nat->Prop),cS caps->Y.cQ=xs->(a=Y.l/\Y.any=false/\Y.lE=true)->A=ay ⟨P,T,a6,rows,Y⟩->(∀k,(k=xs.length\/k=xs.length+1)->R k)->c8 A ⟨d,T,a6,rows,g⟩ c (0,0) ⟨(af.fJ a::caps).map .val++List.replicate (fn.ntmps-(caps.length+1)) .undef,[],[],⟨[],0⟩⟩ λ e st=>match e with| .exit _=>False|_=>R st.ao.yk):rV P f caps xs false true:=Cg (fg:=false) (ln:=true) i s p he t λ Y m n o _ j=>uT (E:=⟨P,T,a6,rows,Y⟩) (h _ P Y Y _ _ j m ⟨rfl,n,o⟩ rfl λ _ h=>h)
def PY{P:Program} {T:Tr->ep} {a6:FuncId->Bool} {rows:Bool}(a:co ⟨P,T,a6,rows,.none⟩){f:FuncId} {fn:Func} {c:Code}(t:P.funcs[f]?=some fn)(s:fn.body=some c)(he:kh P f)(w:fn.results=#[]){caps:am} {xs:Tp am}(h:∀A g Y i d(R:Nat->Prop),cS caps->Y.cQ=xs->co ⟨P,T,a6,rows,Y⟩->(d=Y.l/\Y.any=false/\Y.lE=false)->A=ay ⟨P,T,a6,rows,Y⟩->(∀k,(k=xs.length\/k=xs.length+1)->R k)->c8 A ⟨g,T,a6,rows,i⟩ c (0,0) ⟨(af.fJ d::caps).map .val++List.replicate (fn.ntmps-(caps.length+1)) .undef,[],[],⟨[],0⟩⟩ λ e st=>match e with| .exit _=>False|_=>R st.ao.yk):l3 P f caps xs:=Cg (fg:=false) (ln:=false) a t s he w λ Y m n o p j=>uT (E:=⟨P,T,a6,rows,Y⟩) (h _ P Y Y _ _ j m ⟨a.dp,a.mixed,p⟩ ⟨rfl,n,o⟩ rfl λ _ h=>h)
end
def tj:Code->Tp Nat| .region _ ops _=>ops.toList.filterMap (·.dst) | .seq a b=>tj a++tj b| .cond _ a b=>tj a++tj b| .block _ b=>tj b| .loop b=>tj b| .rangeFunc _ _ _ _=>[] |_=>[]
def Ir(l:Tp Nat):Nat->aP->aP|_,[]=>[] |a,s::r=>(if l.contains a then .val .any else s)::Ir l (a+1) r
def o9(c:Code)(st:ai):ai:={st with sl:=Ir (tj c) 0 st.sl}
section
variable{A:dF} {E:Env}
def cZ(a:A=ay E){f:FuncId} {args:am} {K:af->Prop} {r:af}(h:fL E.P f args r)(ae:K r):A.call f args K:=by subst a;exact⟨r,h,ae⟩
def lN(a:A=ay E){f:FuncId} {args args':am} {K:af->Prop} {r:af}(h:fL E.P f args' r)(e:args=args')(ae:K r):A.call f args K:=by subst a;subst e;exact⟨r,h,ae⟩
def dU(a:A=ay E){f:FuncId} {args args':am} {K:af->Prop} {b:Bool}(h:fL E.P f args' (.bool b))(e:args=args')(ae:∀r,r=b->K (.bool r)):A.call f args K:=by subst a;subst e;exact⟨_,h,ae _ rfl⟩
def vw(a:A=ay E){f:FuncId} {args args':am} {K:af->Prop} {k:IntKind} {n:Int}(h:fL E.P f args' (.int k n))(e:args=args')(ae:∀r,r=n->K (.int k r)):A.call f args K:=by subst a;subst e;exact⟨_,h,ae _ rfl⟩
def Pd(a:A=ay E){f:FuncId} {id off m len cap:Nat} {st:ai} {K:ah->ai->Prop} {cells:aP} {xs:am} {r:af}(h:yK E.P f m xs r)(c:st.ag.getD id none=some cells)(i:(cells.drop off).take (len*m)=(xs.flatMap af.cells).map ah.val)(d:xs.length=len)(g:∀x∈xs,x.cells.length=m)(ae:K (.val r) st):A.tJ f [] [.row id off m len cap] st K:=by subst a;exact .inl<| .inr (.inl ⟨rfl,id,off,m,len,cap,cells,xs,r,rfl,c,i,d,g,h,ae⟩)
def uz(g:A=ay E){f:FuncId} {cG:aP} {st:ai} {K:ah->ai->Prop} {Q:ah->br->bo->dE->Prop}(h:cF E f cG st.ag st.tk st.ao Q)(ae:∀r c d a,Q r c d a->K r ⟨st.sl,c,d,a⟩):A.deep f cG st K:=by subst g;exact⟨st,cG,.refl _ _,Q,h,ae⟩
def Ny(j:A=ay E){f:FuncId} {cG c:aP} {st a:ai} {K:ah->ai->Prop} {Q:ah->br->bo->dE->Prop}(k:bJ st cG a c)(h:cF E f c a.ag a.tk a.ao Q)(ae:∀r g i d,Q r g i d->K r ⟨a.sl,g,i,d⟩):A.deep f cG st K:=by subst j;exact⟨a,c,k,Q,h,ae⟩
def ij(g:A=ay E){f:FuncId} {caps:am} {cG:aP} {st:ai} {K:ah->ai->Prop} {Q:ah->br->bo->dE->Prop}(h:cF E f (cG++caps.map ah.val) st.ag st.tk st.ao Q)(ae:∀r c d a,Q r c d a->K r ⟨st.sl,c,d,a⟩):A.tJ f caps cG st K:=by subst g;exact .inl<| .inr (.inr ⟨Q,h,ae⟩)
def Pe(a:A=ay E){f:FuncId} {cG:aP} {st:ai} {K:ah->ai->Prop}(h:zI E f cG st K):A.tJ f [] cG st K:=by subst a;exact .inr ⟨rfl,h⟩
def G6(a:A=ay E){ts:Tp Tr} {xs:aP} {st:ai} {K:ah->ai->Prop}(h:o2 E ts xs st K):A.xU ts xs st K:=by subst a;exact h
def Pf(a:A=ay E){ts:Tp Tr} {id off m len cap:Nat} {k:Int} {st:ai} {K:ah->ai->Prop}(h:vf E ts id off m len cap k st K):A.nG ts [.row id off m len cap,.val (.int .i64 k)] st K:=by subst a;exact h
def PZ{ts:Tp Tr} {xs:aP} {st:ai} {K:ah->ai->Prop}(h:jS E ts xs st K):p9 E ts xs st K:=by
 unfold p9;split;next b n cap y=>exfalso;rcases ts with _| ⟨t,_| ⟨c,_|_⟩⟩;(·exact h);(·exact h);(·simp only[jS]at h;split at h;(·exact False.elim h.2.2.2.2.2);exact h);exact h
 next id off m len cap k=>exfalso;rcases ts with _| ⟨t,_| ⟨c,_|_⟩⟩;(·exact h);(·exact h);(·simp only[jS]at h;split at h;(next a=>simp[ah.elems]at a);exact h);exact h
 exact h
def wz(a:A=ay E){ts:Tp Tr} {xs:aP} {st:ai} {K:ah->ai->Prop}(h:jS E ts xs st K):A.nG ts xs st K:=by subst a;exact PZ h
def Pg(d:A=ay E){ts:Tp Tr} {b n cap:Nat} {y:ah} {st:ai} {K:ah->ai->Prop}(m:Nat)(nm:f')(id:Nat)(a:st.sl.getD 0 .undef=.cX nm)(c:(id,b)∈nm)(h:jS E ts [.row id 0 m n cap,y] st K):A.nG ts [.val (.c4 b n cap),y] st K:=by subst d;exact⟨nm,id,a,c,m,h⟩
def F6(a:A=ay E){m s:ah} {id len cap:Nat} {st:ai} {K:ah->ai->Prop}(h:BS st id λ b c=>a'.go (q6 m s (.val (.c4 b len cap)) c) K):A.x4 m s id len cap st K:=by subst a;exact h
def uM(c:A=ay E){st a:ai} {l l':aP} {f:FuncId} {caps:am} {K:ah->ai->Prop} {ps:am} {r:af}(h:bJ st l a l')(g:eu l'=some ps)(d:fL E.P f (ps++caps) r)(ae:K (.val r) a):A.tJ f caps l st K:=by subst c;exact .inl (.inl ⟨a,l',ps,h,g,r,d,ae⟩)
def Sj(f:A=ay E){α:Type}(enc:α->af)(l:Tp α){n:Int} {K:am->Prop}(c:0<=n)(d:n<l.length)(ae:∀x,l[n.toNat]?=some x->K (enc x).cells):A.idx (l.map enc) n K:=by subst f;have a:n.toNat<l.length:=ac;refine⟨⟨c,by simpa using d⟩,?_⟩;have:=ae l[n.toNat] (aQ a);simpa[cl,a]using this
def gj(d:A=ay E){α:Type} {enc:α->af} {l:Tp α} {xs:am}(f:l.map enc=xs){n:Int} {K:am->Prop}(a:0<=n)(c:n<l.length)(ae:∀x,l[n.toNat]?=some x->K (enc x).cells):A.idx xs n K:=by subst f;exact Sj d enc l a c ae
def P0(f:A=ay E){Y:gI}(g:Y=E.Y){l:Nat} {ps:am} {st:ai} {K:ah->ai->Prop}(a:l=Y.l/\Y.any=false/\Y.lE=false)(i:Y.cQ[st.ao.yk]?=some ps)(c:K (.val (.bool true)) (st.m4 (st.ao.yk+1)))(d:K (.val (.bool false)) (st.m4 (Y.cQ.length+1))):A.fJ l ps st K:=by subst f g;refine⟨a.1,a.2.2,st.ao.yk+1,?_,c,?_⟩;(·rw[a.2.1];exact⟨i,rfl⟩);rw[a.2.1];exact d
def Ph(f:A=ay E){Y:gI}(g:Y=E.Y){l:Nat} {cG:aP} {st:ai} {K:ah->ai->Prop}(a:l=Y.l/\Y.any=false/\Y.lE=true){id cap:Nat} {xs:am}(hv:cG=[.row id 0 1 xs.length cap]\/cG=[.fa id 0 xs.length])(i:st.ag[id]?=some (some (xs.map .val)))(j:∀x∈xs,x.vM=true)(k:Y.cQ[st.ao.yk]?=some [.aa 1 xs])(c:K (.val (.bool true)) (st.m4 (st.ao.yk+1)))(d:∀n,n=Y.cQ.length+1->K (.val (.bool false)) (st.m4 n)):A.C0 l cG st K:=by subst f g;refine .inr ⟨a.1,a.2.2,id,cap,xs,st.ao.yk+1,hv,i,j,?_,c,?_⟩;(·rw[a.2.1];exact⟨k,rfl⟩);rw[a.2.1];exact d _ rfl
def sv(d:A=ay E){s:Tr} {b f:Nat} {st:ai} {K:ah->ai->Prop}(nm:f')(id:Nat)(a:st.sl.getD 0 .undef=.cX nm)(c:(id,b)∈nm)(ae:a'.go (pH E s (.box id 0) f st) K):A.C6 s b f st K:=by subst d;exact⟨nm,id,a,c,ae⟩
def Oq(d:A=ay E){t:Tr} {b n cap:Nat} {i:ah} {st:ai} {K:ah->ai->Prop}(nm:f')(id:Nat)(a:st.sl.getD 0 .undef=.cX nm)(c:(id,b)∈nm)(ae:a'.go (jI E t (.row id 0 1 n cap) i st) K):A.C7 t b n cap i st K:=by subst d;exact⟨nm,id,a,c,ae⟩
def Ot(f:A=ay E){t:Tr} {m x:ah} {id:Nat} {st:ai} {K:ah->ai->Prop}(h:Nat)(nm:f')(a:st.sl[h]?=some (.cX nm))(c:id<st.ag.length)(d:∀p∈nm,p.1≠id)(ae:∀b,(∀p∈nm,p.2≠b)->a'.go (pI E t m x (.val (.loc b)) {st with sl:=st.sl.set h (.cX (nm++[(id,b)]))}) K):A.Ad t m x id st K:=by subst f;exact⟨h,nm,a,c,d,ae⟩
def Ou(f:A=ay E){t:Tr} {n id len:Nat} {st:ai} {K:ah->ai->Prop}(h:Nat)(nm:f')(a:st.sl[h]?=some (.cX nm))(c:id<st.ag.length)(d:∀p∈nm,p.1≠id)(ae:∀b,(∀p∈nm,p.2≠b)->∀cap,a'.go (pK E t n [(0,.val (.c4 b len cap))] {st with sl:=st.sl.set h (.cX (nm++[(id,b)]))}) K):A.Ae t n id len st K:=by subst f;exact⟨h,nm,a,c,d,ae⟩
def oQ(d:A=ay E){Y:gI}(f:Y=E.Y){l:Nat} {ps:am} {st:ai} {K:ah->ai->Prop}(g:l=Y.l/\Y.any=false/\Y.lE=false)(i:Y.cQ[st.ao.yk]?=some ps)(a:K (.val (.bool true)) (st.m4 (st.ao.yk+1)))(c:∀n,n=Y.cQ.length+1->K (.val (.bool false)) (st.m4 n)):A.fJ l ps st K:=P0 d f g i a (c _ rfl)
def cK(a:A=ay E){ops:Tp Oper}(h:td E.jd ops=true):A.draw ops:=by subst a;exact h
def uN(a:A=ay E){ops:Tp Oper} {c:Nat}(h:pm E.jd ops c=true):A.pm ops c:=by subst a;exact h
def By(a:A=ay E){t:Tr} {x:ah} {st:ai} {K:ah->ai->Prop}(h:a'.go (iW E t x.norm st) K):A.r' t x st K:=by subst a;exact h
def yV(a:A=ay E){t:Tr} {x v:ah} {st:ai} {K:ah->ai->Prop}(h:a'.go (lX E t x.norm v st) K):A.qM t x v st K:=by subst a;exact h
def P1(a:A=ay E){t:Tr} {st:ai} {K:ah->ai->Prop}(h:a'.go (ry E t st) K):A.z1 t st K:=by subst a;exact h
def G7(a:A=ay E){t:Tr} {v:ah} {st:ai} {K:ah->ai->Prop}(h:a'.go (qd E t v st) K):A.xR t v st K:=by subst a;exact h
def hz(c:A=ay E){t:Tr} {z:am} {st:ai} {K:ah->ai->Prop}(f:(E.T t).zero=z)(d:(E.T t).size=z.length)(a:z.length≠0)(h:∀n B,n=st.ag.length->B=st.ag++[some (z.map p4)]->K (.box n 0) {st with ag:=B}):A.z1 t st K:=by refine P1 c ?_;unfold ry;rw[f,d,if_pos ⟨rfl,a⟩];exact⟨trivial,h _ _ rfl rfl⟩
def cU(d:A=ay E){t:Tr} {id off:Nat} {cs:aP} {c:ah} {st:ai} {K:ah->ai->Prop}(g:st.ag[id]?=some (some cs))(f:(E.T t).agg=false)(i:(E.T t).size=1)(a:cs[off]?=some c)(h:K c st):A.r' t (.box id off) st K:=by refine By d ?_;show a'.go (iW E t (.box id off) st) K;unfold iW;simp only[cl,g,e4,f,i,if_true,la,if_false,a];exact⟨(aD.1 a).1,h⟩
def fR(a:A=ay E){t:Tr} {id off:Nat} {cs:aP} {l:am} {st:ai} {K:ah->ai->Prop}(d:st.ag[id]?=some (some cs))(c:(E.T t).agg=true)(f:eu ((cs.drop off).take (E.T t).size)=some l)(g:off+(E.T t).size<=cs.length)(h:K (.val (.agg l)) st):A.r' t (.box id off) st K:=by refine By a ?_;show a'.go (iW E t (.box id off) st) K;unfold iW;simp only[cl,d,e4,c,if_true,f];exact⟨g,h⟩
def fU(c:A=ay E){t:Tr} {id off:Nat} {cs:aP} {v:ah} {st:ai} {K:ah->ai->Prop}(f:st.ag[id]?=some (some cs))(d:(E.T t).agg=false)(i:(E.T t).size=1)(a:v.one=true)(g:off<cs.length)(h:∀B,B=st.ag.set id (some (cs.set off v))->K .undef {st with ag:=B}):A.qM t (.box id off) v st K:=by refine yV c ?_;show a'.go (lX E t (.box id off) v st) K;unfold lX;simp only[cl,f,e4,d,i,a,la,if_false,and_self,if_true];exact⟨g,h _ rfl⟩
def h6(c:A=ay E){t:Tr} {id off:Nat} {cs:aP} {l:am} {st:ai} {K:ah->ai->Prop}(f:st.ag[id]?=some (some cs))(d:(E.T t).agg=true)(i:(E.T t).size=l.length)(a:l.all af.one=true)(g:off+l.length<=cs.length)(h:∀B,B=st.ag.set id (some (cs.take off++(l.map ah.val++cs.drop (off+l.length))))->K .undef {st with ag:=B}):A.qM t (.box id off) (.val (.agg l)) st K:=by refine yV c ?_;show a'.go (lX E t (.box id off) _ st) K;unfold lX;simp only[cl,f,e4,d,i,a,and_self,if_true];exact⟨g,h _ rfl⟩
def Dt(nb:Nat×Nat){α:Type}(f:α->ai)(inv:α->Prop)(g:α->Nat)(n:Nat)(d:ai):Prop:= ∃a c,a<n/\aZ nb d c/\∃y,inv y/\g y=a/\c=f y
def Nz{nb:Nat×Nat} {α:Type} {f:α->ai} {inv:α->Prop} {a:α->Nat} {n:Nat} {c:ai}(y:α)(d:aZ nb c (f y))(g:inv y)(i:a y<n):Dt nb f inv a n c:=⟨a y,_,i,d,y,g,rfl,rfl⟩
def Ov(i:A=ay E){nb:Nat×Nat} {α:Type}(f:α->ai)(inv:α->Prop)(c:α->Nat)(a:α){body:Code} {W:ai->(fb->ai->Prop)->Prop} {st:ai} {Q:fb->ai->Prop}(g:aZ nb st (f a))(j:inv a)(k:∀x,inv x->W (f x) λ e d=>match e with| .normal=>Dt nb f inv c (c x) d| .exit m=>Q (.exit m) d| .ret=>Q .ret d):A.loop nb body W st Q:=by subst i;refine⟨λ n s=>∃x,inv x/\c x=n/\s=f x,⟨c a,_,g,a,j,rfl,rfl⟩,?_⟩;rintro n s⟨x,l,rfl,rfl⟩;exact k x l
def b6(l:A=ay E){nb:Nat×Nat} {α:Type}(g:α->ai->ai)(inv:α->Prop)(d:α->Nat)(c:α){body:Code} {W:ai->(fb->ai->Prop)->Prop} {st:ai} {Q:fb->ai->Prop}(f:aZ nb st (g c (o9 body st)))(m:inv c)(n:∀(R:ai->Prop)x,inv x->(∀y a,aZ nb a (g y (o9 body st))->inv y->d y<d x->R a)->W (g x (o9 body st)) λ e a=>match e with| .normal=>R a| .exit p=>Q (.exit p) a| .ret=>Q .ret a):A.loop nb body W st Q:=Ov l (λ y=>g y (o9 body st)) inv d c f m λ x o=>n _ x o λ y _ i j k=>Nz y i j k
def Ow(p:A=ay E){nb:Nat×Nat} {α:Type} {f:FuncId} {caps:am} {j:Nat} {xs:Tp am} {fg:Bool}(D:zY E.P f caps xs fg)(B:∀x∈xs,x.length=j)(g:α->ai->ai)(inv:Nat->α->Prop)(c:α){W:am->ai->(fb->ai->Prop)->Prop} {st:ai} {Q:fb->ai->Prop}(F:∀y,(g y st).sl=(g c st).sl)(m:aZ nb st (g c st))(w:inv 0 c)(C:∀(R:ai->Prop)k d y x,pg fg xs k x d->inv k y->(∀z a,aZ (g y st).fS (a.iJ (g c st).sl) (g z st)->inv d z->R a)->W x (g y st) λ e a=>match e with| .normal=>R a| .exit H=>Q (.exit H) (a.iJ (g c st).sl) | .ret=>Q .ret (a.iJ (g c st).sl))(t:∀k y,rR fg xs k->inv k y->Q .normal (g y st)):A.tW nb f caps j W st Q:=by
 subst p;refine⟨xs,fg,D,B,λ k s=>∃y,inv k y/\s=g y st,_,m,⟨c,w,rfl⟩,?_,?_,?_⟩;·rintro k s⟨y,_,rfl⟩;exact F y
 ·rintro k d s x G⟨y,i,rfl⟩;exact C (λ a=>∃l,aZ (g y st).fS (a.iJ (g c st).sl) l/\∃z,inv d z/\l=g z st) k d y x G i λ z a n o=>⟨_,n,z,o,rfl⟩
 rintro k s ae⟨y,i,rfl⟩;exact t k y ae i
def F7(p:A=ay E){nb:Nat×Nat} {α:Type} {f:FuncId} {caps:am} {xs:Tp am}(F:rV E.P f caps (xs.map λ x=>[.aa 1 x]) false true)(g:α->ai->ai)(inv:Nat->α->Prop)(d:α){W:am->Nat->ai->(fb->ai->Prop)->Prop} {st:ai} {Q:fb->ai->Prop}(G:∀y,(g y st).sl=(g d st).sl)(m:aZ nb st (g d st))(B:inv 0 d)(l:∀y,(g y st).ag.length=(g d st).ag.length)(C:∀y,(g y st).ag.all (λ j=>match j with|none=>true|some cs=>cs.all (ah.within (g y st).ag.length (g y st).ao.mp.length (g y st).tk.length))=true)(D:∀(R:ai->Prop)k y x cap,xs[k]?=some x->inv k y->x.length<=cap->(∀z a,aZ ((g y st).ag.length+1,(g y st).ao.mp.length) (a.iJ (g d st).sl) ((g z st).mi x)->inv (k+1) z->R a)->W x cap (g y st) λ e a=>match e with| .normal=>R a|_=>False)(w:∀y,inv xs.length y->Q .normal (g y st)):A.Dh nb f caps W st Q:=by
 subst p;refine⟨xs,F,λ k s=>∃y,inv k y/\s=g y st,_,m,⟨d,B,rfl⟩,?_,?_,?_⟩;·rintro k s⟨y,_,rfl⟩;exact G y
 ·rintro k s x cap H⟨y,i,rfl⟩t;exact D (λ a=>∃c,aZ ((g y st).ag.length+1,(g y st).ao.mp.length) (a.iJ (g d st).sl) (c.mi x)/\(∃z,inv (k+1) z/\c=g z st)/\c.ag.length=(g y st).ag.length/\c.ag.all (λ j=>match j with|none=>true|some cs=>cs.all (ah.within c.ag.length c.ao.mp.length c.tk.length))=true) k y x cap H i t λ z a n o=>⟨_,n,⟨z,o,rfl⟩,by rw[l z,l y],C z⟩
 rintro s⟨y,i,rfl⟩;exact w y i
def pO(m:A=ay E){nb:Nat×Nat} {α:Type} {f:FuncId} {caps:am} {i:Nat} {xs:Tp am}(w:l3 E.P f caps xs)(s:∀x∈xs,x.length=i)(g:α->ai->ai)(inv:Nat->α->Prop)(a:α){W:am->ai->(fb->ai->Prop)->Prop} {st:ai} {Q:fb->ai->Prop}(B:∀y,(g y st).sl=(g a st).sl)(j:aZ nb st (g a st))(p:inv 0 a)(t:∀(R:ai->Prop)k y x,xs[k]?=some x->inv k y->(∀z c,aZ (g y st).fS (c.iJ (g a st).sl) (g z st)->inv (k+1) z->R c)->W x (g y st) λ e c=>match e with| .normal=>R c| .exit D=>Q (.exit D) (c.iJ (g a st).sl) | .ret=>Q .ret (c.iJ (g a st).sl))(o:∀y,inv xs.length y->Q .normal (g y st)):A.tW nb f caps i W st Q:=Ow m w s g inv a B j p (λ R k F y x C d n=>by obtain⟨l,rfl⟩:=C;exact t R k y x l d n) (λ k y ae d=>o y (by have ae:k=xs.length:=ae;rw[<-ae];exact d))
def mw(a:A=ay E){es:ce} {k z v:af} {b:Bool} {K:af->Bool->Prop}(hv:(dK es k).getD z=v)(c:(dK es k).isSome=b)(ae:K v b):A.look es k z K:=by subst a hv c;exact ae
def sy(a:A=ay E){es:ce} {k v:af} {K:af->Prop}(hv:dK es k=some v)(ae:K v):A.CX es k K:=by subst a;exact⟨by rw[hv];rfl,by rw[hv];exact ae⟩
def rh(d:A=ay E){left:am} {es:ce} {D:Unit->Prop} {M:af->af->Prop}(a:left=[]->D ())(c:∀k v,k∈left->(k,v)∈es->M k v):A.Db left es D M:=by subst d;exact⟨a,c⟩
def F8(a:A=ay E){K:Int->Prop}(h:∀n,K n):A.C9 K:=by subst a;exact h
def jN(c:A=ay E){a:Bool} {ks:Tp fm} {es:ce} {k:af}(h:gk a ks es k):A.vK a ks es k:=by subst c;exact h
def cT{nb:Nat×Nat} {sl hc:aP} {ag:br} {tk:bo} {ao:dE}(h:gu sl hc:=by repeat(first|refine dW ?_|refine eQ ?_|exact eA)):aZ nb ⟨sl,ag,tk,ao⟩ ⟨hc,ag,tk,ao⟩:=aZ.forget sl hc ag tk ao h
def ba{P:Prop}(h:P:=by(conv=>cbv);exact cT):P:=h
def cb{nb:Nat×Nat} {sl hc:aP} {ag bE:br} {tk:bo} {mp bQ:Tp dM} {yk:Nat}(h:gu sl hc:=by repeat(first|refine dW ?_|refine eQ ?_|exact eA))(d:nb.1<=ag.length:=by simp)(f:bQ=[]\/(nb.2<=mp.length/\Al mp=true):=by simp)(a:hc.all (ah.within ag.length mp.length tk.length)=true:=by exact rfl)(c:ag.all (λ g=>match g with|none=>true|some cs=>cs.all (ah.within ag.length mp.length tk.length))=true:=by exact rfl):aZ nb ⟨sl,ag++bE,tk,⟨mp++bQ,yk⟩⟩ ⟨hc,ag,tk,⟨mp,yk⟩⟩:=aZ.trans _ _ _ (aZ.forget sl hc _ tk _ h) (aZ.drop hc ag bE tk mp bQ yk d f a c)
def P2{sl hc:aP} {ag bE:br} {tk dX:bo} {ao:dE}(h:gu sl hc)(c:hc.all (ah.within ag.length ao.mp.length tk.length)=true)(d:ag.all (λ a=>match a with|none=>true|some cs=>cs.all (ah.within ag.length ao.mp.length tk.length))=true)(f:hc.all (ah.within ag.length ao.mp.length (tk++dX).length)=true)(g:ag.all (λ a=>match a with|none=>true|some cs=>cs.all (ah.within ag.length ao.mp.length (tk++dX).length))=true):aZ (0,0) ⟨sl,ag++bE,tk++dX,ao⟩ ⟨hc,ag,tk,ao⟩:=aZ.trans _ _ _ (aZ.forget sl hc _ _ ao h) (aZ.trans _ ⟨hc,ag,tk++dX,ao⟩ _ (by have:=aZ.drop (nb:=(0,0)) hc ag bE (tk++dX) ao.mp [] ao.yk (ho _) (.inl rfl) f g;rw[gA]at this;exact this) (aZ.z7 hc ag tk dX ao rfl c d))
def vi{nb:Nat×Nat} {sl hc:aP} {ag:br} {tk:bo} {ao:dE}(t m a:Nat)(xs:am)(e:Tr)(h:sl[t]?=some (.lit m xs))(d:m=a\/xs=[])(c:gu (sl.set t (.own tk.length a xs)) hc){dX:bo}(g:dX=tk++[(xs.length,e)])(f:a≠0:=by decide):aZ nb ⟨sl,ag,tk,ao⟩ ⟨hc,ag,dX,ao⟩:=by subst g;exact aZ.trans _ _ _ (aZ.own sl ag tk ao t m a xs e h d f) (aZ.forget _ _ _ _ _ c)
end
end Go.Abs
namespace Go.Abs
def aJ{A:dF} {E:Env}(d:A=ay E){f:FuncId} {args:Tp af} {K:af->Prop} {r:af}(h:fL E.P f args r){Q P:Prop}(q:Q)(a:A.call f args K->P:=by intro h;(conv=>cbv);exact h)(c:Q->K r:=by intro h;(conv=>cbv);exact h):P:=a (cZ d h (c q))
def cp{Q P:Prop}(q:Q)(e:Q->P:=by intro h;(conv=>cbv);exact h):P:=e q
open Go.Proofs Go.RowKit
def ef:ep:=⟨.func,1,8,false,none,[.any]⟩
def hW:ep:=⟨.other,0,0,false,none,[]⟩
def xB:ep:=⟨.int .u64,1,8,false,none,[.int .u64 0]⟩
def CN:ep:=⟨.int .i64,1,8,false,none,[ab 0]⟩
def CO:ep:=⟨.struct [(0,3),(1,3)],2,16,true,some [.int,.int],[ab 0,ab 0]⟩
def Du:ep:=⟨.int .u8,1,1,false,none,[.int .u8 0]⟩
def Dv:ep:=⟨.int .i32,1,4,false,none,[.int .i32 0]⟩
def Kd(t:Nat):ep:=(if t<13 then(if t<5 then(if t<2 then(if t<1 then hW else ef)else(if t<4 then CN else⟨.bool,1,1,false,none,[.bool false]⟩))else(if t<9 then(if t<7 then Du else⟨.struct [(0,2),(1,3),(2,4),(3,6)],4,24,true,some [.int,.int,.bool,.int],[ab 0,ab 0,.bool false,.int .u8 0]⟩)else(if t<12 then⟨.str,1,16,false,none,[.str ByteArray.empty]⟩else xB)))else(if t<18 then(if t<16 then(if t<15 then⟨.struct [(0,9),(1,12)],2,24,true,none,[.str ByteArray.empty,.int .u64 0]⟩else⟨.ptr 368,1,8,false,none,[.ch]⟩)else(if t<17 then⟨.ptr 371,1,8,false,none,[.ch]⟩else⟨.ptr 379,1,8,false,none,[.ch]⟩))else(if t<21 then(if t<20 then⟨.struct [(0,17)],1,8,true,none,[.ch]⟩else⟨.other,1,16,false,none,[.any]⟩)else(if t<22 then Dv else⟨.slice 159,1,24,false,none,[.aa 0 []]⟩))))
def Ke(t:Nat):ep:=(if t<32 then(if t<27 then(if t<25 then(if t<24 then⟨.slice 161,1,24,false,none,[.aa 0 []]⟩else⟨.slice 122,1,24,false,none,[.aa 0 []]⟩)else(if t<26 then⟨.slice 38,1,24,false,none,[.aa 0 []]⟩else⟨.slice 129,1,24,false,none,[.aa 0 []]⟩))else(if t<30 then(if t<29 then⟨.struct [(0,3),(1,22),(2,23),(3,24),(4,25),(5,26)],6,128,true,none,[ab 0,.aa 0 [],.aa 0 [],.aa 0 [],.aa 0 [],.aa 0 []]⟩else⟨.slice 66,1,24,false,none,[.aa 0 []]⟩)else(if t<31 then⟨.slice 35,1,24,false,none,[.aa 0 []]⟩else⟨.slice 72,1,24,false,none,[.aa 0 []]⟩)))else(if t<39 then(if t<36 then(if t<34 then⟨.struct [(0,29),(1,30),(2,31)],3,72,true,none,[.aa 0 [],.aa 0 [],.aa 0 []]⟩else⟨.struct [(0,3),(1,3),(2,3),(3,3),(4,9),(5,3)],6,56,true,some [.int,.int,.int,.int,.str,.int],[ab 0,ab 0,ab 0,ab 0,.str ByteArray.empty,ab 0]⟩)else(if t<38 then ef else⟨.slice 3,1,24,false,none,[.aa 0 []]⟩))else(if t<43 then(if t<41 then CO else⟨.struct [(0,3),(1,3),(2,3),(3,9),(4,38),(5,40),(7,4)],8,88,true,none,[ab 0,ab 0,ab 0,.str ByteArray.empty,.aa 0 [],ab 0,ab 0,.bool false]⟩)else(if t<45 then⟨.struct [(0,3),(1,3),(2,3),(3,4)],4,32,true,some [.int,.int,.int,.bool],[ab 0,ab 0,ab 0,.bool false]⟩else CN))))
def Kf(t:Nat):ep:=(if t<57 then(if t<51 then(if t<49 then(if t<47 then hW else ef)else(if t<50 then⟨.slice 33,1,24,false,none,[.aa 0 []]⟩else⟨.slice 74,1,24,false,none,[.aa 0 []]⟩))else(if t<53 then(if t<52 then hW else ef)else(if t<54 then hW else ef)))else(if t<62 then(if t<59 then(if t<58 then⟨.slice 131,1,24,false,none,[.aa 0 []]⟩else⟨.int .i8,1,1,false,none,[.int .i8 0]⟩)else(if t<60 then⟨.array 2 58,2,2,true,some [.int,.int],[.int .i8 0,.int .i8 0]⟩else ef))else(if t<64 then(if t<63 then⟨.map 3 74,1,8,false,none,[.map [] []]⟩else hW)else(if t<65 then ef else⟨.struct [(0,38),(1,3),(2,3)],3,40,true,none,[.aa 0 [],ab 0,ab 0]⟩))))
def Kg(t:Nat):ep:=(if t<78 then(if t<73 then(if t<70 then(if t<68 then⟨.array 2 3,2,16,true,some [.int,.int],[ab 0,ab 0]⟩else ef)else(if t<71 then⟨.slice 4,1,24,false,none,[.aa 0 []]⟩else⟨.struct [(0,42),(8,44),(12,50),(13,70)],14,168,true,none,[ab 0,ab 0,ab 0,.str ByteArray.empty,.aa 0 [],ab 0,ab 0,.bool false,ab 0,ab 0,ab 0,.bool false,.aa 0 [],.aa 0 []]⟩))else(if t<76 then(if t<75 then⟨.struct [(0,3),(1,38)],2,32,true,none,[ab 0,.aa 0 []]⟩else ef)else(if t<77 then⟨.slice 80,1,24,false,none,[.aa 0 []]⟩else hW)))else(if t<83 then(if t<81 then(if t<79 then ef else⟨.struct [(0,4),(1,3),(2,40)],4,32,true,some [.bool,.int,.int,.int],[.bool false,ab 0,ab 0,ab 0]⟩)else(if t<82 then ef else hW))else(if t<91 then(if t<90 then ef else⟨.slice 97,1,24,false,none,[.aa 0 []]⟩)else(if t<92 then hW else ef))))
def Kh(t:Nat):ep:=(if t<121 then(if t<102 then(if t<96 then(if t<94 then hW else ef)else(if t<98 then CO else ef))else(if t<105 then(if t<104 then⟨.struct [(0,33),(3,28)],9,200,true,none,[.aa 0 [],.aa 0 [],.aa 0 [],ab 0,.aa 0 [],.aa 0 [],.aa 0 [],.aa 0 [],.aa 0 []]⟩else hW)else(if t<120 then ef else⟨.slice 126,1,24,false,none,[.aa 0 []]⟩)))else(if t<127 then(if t<124 then(if t<123 then⟨.struct [(0,3),(1,3),(2,120)],3,40,true,none,[ab 0,ab 0,.aa 0 []]⟩else ef)else(if t<125 then⟨.slice 40,1,24,false,none,[.aa 0 []]⟩else⟨.struct [(0,3),(1,3),(2,3),(3,124)],4,48,true,none,[ab 0,ab 0,ab 0,.aa 0 []]⟩))else(if t<130 then(if t<128 then⟨.slice 124,1,24,false,none,[.aa 0 []]⟩else⟨.struct [(0,3),(1,3),(2,3),(3,3),(4,3),(5,127)],6,64,true,none,[ab 0,ab 0,ab 0,ab 0,ab 0,.aa 0 []]⟩)else(if t<132 then⟨.struct [(0,42),(8,44),(12,5)],13,128,true,none,[ab 0,ab 0,ab 0,.str ByteArray.empty,.aa 0 [],ab 0,ab 0,.bool false,ab 0,ab 0,ab 0,.bool false,.int .u8 0]⟩else ef))))
def Ki(t:Nat):ep:=(if t<148 then(if t<143 then(if t<139 then(if t<135 then⟨.struct [(0,3),(1,3),(2,3)],3,24,true,some [.int,.int,.int],[ab 0,ab 0,ab 0]⟩else ef)else(if t<140 then⟨.slice 36,1,24,false,none,[.aa 0 []]⟩else ef))else(if t<146 then(if t<145 then⟨.struct [(0,3),(1,97),(3,90)],4,48,true,none,[ab 0,ab 0,ab 0,.aa 0 []]⟩else hW)else(if t<147 then ef else hW)))else(if t<157 then(if t<153 then(if t<152 then ef else⟨.map 154 124,1,8,false,none,[.map [] []]⟩)else(if t<155 then⟨.struct [(0,4),(1,3)],2,16,true,some [.bool,.int],[.bool false,ab 0]⟩else ef))else(if t<160 then(if t<158 then⟨.slice 9,1,24,false,none,[.aa 0 []]⟩else⟨.struct [(0,9),(1,157),(2,38),(3,3),(4,3)],5,80,true,none,[.str ByteArray.empty,.aa 0 [],.aa 0 [],ab 0,ab 0]⟩)else(if t<162 then⟨.struct [(0,9),(1,157),(2,38)],3,64,true,none,[.str ByteArray.empty,.aa 0 [],.aa 0 []]⟩else ef))))
def Kj(t:Nat):ep:=(if t<186 then(if t<173 then(if t<166 then(if t<165 then hW else ef)else(if t<168 then CO else ef))else(if t<175 then(if t<174 then⟨.slice 70,1,24,false,none,[.aa 0 []]⟩else hW)else(if t<185 then ef else xB)))else(if t<203 then(if t<188 then(if t<187 then ef else⟨.slice 134,1,24,false,none,[.aa 0 []]⟩)else(if t<202 then ef else⟨.slice 381,1,24,false,none,[.aa 0 []]⟩))else(if t<205 then(if t<204 then⟨.slice 383,1,24,false,none,[.aa 0 []]⟩else⟨.slice 385,1,24,false,none,[.aa 0 []]⟩)else(if t<206 then⟨.slice 388,1,24,false,none,[.aa 0 []]⟩else⟨.slice 390,1,24,false,none,[.aa 0 []]⟩))))
def Kk(t:Nat):ep:=(if t<243 then(if t<230 then(if t<210 then(if t<208 then⟨.slice 392,1,24,false,none,[.aa 0 []]⟩else⟨.struct [(0,202),(1,22),(2,23),(3,203),(4,204),(5,205),(6,206),(7,207)],8,192,true,none,[.aa 0 [],.aa 0 [],.aa 0 [],.aa 0 [],.aa 0 [],.aa 0 [],.aa 0 [],.aa 0 []]⟩)else(if t<229 then ef else hW))else(if t<240 then(if t<239 then ef else⟨.slice 310,1,24,false,none,[.aa 0 []]⟩)else(if t<241 then⟨.map 9 247,1,8,false,none,[.map [] []]⟩else⟨.array 4 3,4,32,true,some [.int,.int,.int,.int],[ab 0,ab 0,ab 0,ab 0]⟩)))else(if t<248 then(if t<246 then(if t<245 then⟨.struct [(0,239),(1,240),(2,242),(6,242),(10,25)],11,120,true,none,[.aa 0 [],.map [] [],ab 0,ab 0,ab 0,ab 0,ab 0,ab 0,ab 0,ab 0,.aa 0 []]⟩else hW)else(if t<247 then ef else⟨.ptr 258,1,8,false,none,[.ch]⟩))else(if t<250 then(if t<249 then ef else⟨.map 247 250,1,8,false,none,[.map [] []]⟩)else(if t<251 then⟨.map 242 4,1,8,false,none,[.map [] []]⟩else ef))))
def Kl(t:Nat):ep:=(if t<278 then(if t<267 then(if t<260 then(if t<259 then⟨.struct [(0,38),(1,30)],2,48,true,none,[.aa 0 [],.aa 0 []]⟩else hW)else(if t<266 then ef else hW))else(if t<271 then(if t<270 then ef else CN)else(if t<272 then hW else ef)))else(if t<285 then(if t<280 then(if t<279 then⟨.int .u32,1,4,false,none,[.int .u32 0]⟩else ef)else(if t<281 then xB else ef))else(if t<288 then(if t<287 then⟨.struct [(0,129)],6,64,true,none,[ab 0,ab 0,ab 0,ab 0,ab 0,.aa 0 []]⟩else⟨.slice 332,1,24,false,none,[.aa 0 []]⟩)else(if t<289 then hW else ef))))
def Km(t:Nat):ep:=(if t<318 then(if t<306 then(if t<295 then(if t<294 then⟨.slice 44,1,24,false,none,[.aa 0 []]⟩else hW)else(if t<305 then ef else hW))else(if t<311 then(if t<310 then ef else⟨.slice 76,1,24,false,none,[.aa 0 []]⟩)else(if t<312 then hW else ef)))else(if t<328 then(if t<322 then(if t<319 then xB else ef)else(if t<323 then⟨.ptr 3,1,8,false,none,[.ch]⟩else ef))else(if t<330 then(if t<329 then⟨.slice 331,1,24,false,none,[.aa 0 []]⟩else hW)else(if t<331 then ef else xB))))
def Kz(t:Nat):ep:=(if t<361 then(if t<346 then(if t<344 then(if t<333 then⟨.map 331 4,1,8,false,none,[.map [] []]⟩else ef)else(if t<345 then⟨.ptr 347,1,8,false,none,[.ch]⟩else ef))else(if t<359 then(if t<348 then⟨.array 1440 4,1440,1440,true,none,List.replicate 1440 (.bool false)⟩else ef)else(if t<360 then⟨.ptr 318,1,8,false,none,[.ch]⟩else hW)))else(if t<372 then(if t<369 then(if t<367 then ef else⟨.struct [(0,17),(1,17),(2,17),(3,9)],4,40,true,none,[.ch,.ch,.ch,.str ByteArray.empty]⟩)else(if t<370 then⟨.array 0 16,0,0,true,none,[]⟩else⟨.struct [(0,369)],0,0,true,none,[]⟩))else(if t<375 then(if t<374 then Du else ef)else(if t<376 then⟨.ptr 5,1,8,false,none,[.ch]⟩else Dv))))
def KA(t:Nat):ep:=(if t<387 then(if t<382 then(if t<380 then⟨.struct [(0,12),(1,12),(2,278),(3,372),(4,5),(5,5),(6,373),(7,374),(8,375),(9,376),(10,377)],11,48,true,none,[.int .u64 0,.int .u64 0,.int .u32 0,.int .u8 0,.int .u8 0,.int .u8 0,.int .u8 0,.any,.ch,.int .i32 0,.int .i32 0]⟩else⟨.struct [(0,9),(1,124)],2,40,true,none,[.str ByteArray.empty,.aa 0 []]⟩)else(if t<384 then⟨.struct [(0,9),(1,9),(2,3),(3,3),(4,124)],5,72,true,none,[.str ByteArray.empty,.str ByteArray.empty,ab 0,ab 0,.aa 0 []]⟩else(if t<386 then⟨.struct [(0,9),(1,9),(2,9),(3,3),(4,3),(5,157),(6,38)],7,112,true,none,[.str ByteArray.empty,.str ByteArray.empty,.str ByteArray.empty,ab 0,ab 0,.aa 0 [],.aa 0 []]⟩else⟨.slice 395,1,24,false,none,[.aa 0 []]⟩)))else(if t<391 then(if t<389 then⟨.struct [(0,9),(1,386)],2,40,true,none,[.str ByteArray.empty,.aa 0 []]⟩else⟨.struct [(0,9),(1,3),(2,3),(3,3)],4,40,true,some [.str,.int,.int,.int],[.str ByteArray.empty,ab 0,ab 0,ab 0]⟩)else(if t<393 then⟨.struct [(0,3),(1,9),(2,9),(3,3),(4,3),(5,3),(6,40)],8,80,true,some [.int,.str,.str,.int,.int,.int,.int,.int],[ab 0,.str ByteArray.empty,.str ByteArray.empty,ab 0,ab 0,ab 0,ab 0,ab 0]⟩else(if t<394 then⟨.other,1,8,false,none,[.ch]⟩else⟨.struct [(0,9),(1,3)],2,24,true,some [.str,.int],[.str ByteArray.empty,ab 0]⟩))))
def cW(t:Nat):ep:=if t<396 then(if t<164 then(if t<67 then(if t<23 then Kd t else(if t<46 then Ke t else Kf t))else(if t<93 then Kg t else(if t<133 then Kh t else Ki t)))else(if t<293 then(if t<207 then Kj t else(if t<257 then Kk t else Kl t))else(if t<332 then Km t else(if t<378 then Kz t else KA t))))else⟨.other,0,0,false,none,[]⟩
def RO:(List.range 396).map cW=(List.range 396).map (ql Tryz.prog):=bb
def gd{a6:FuncId->Bool} {rows:Bool}:co ⟨Tryz.prog,cW,a6,rows,gI.none⟩:=PT a6 rows 396 RO (λ t h=>by unfold cW;rw[if_neg ac];rfl) bb
def cL{f:FuncId} {fn:Func} {c:Code}(d:Tryz.prog.funcs[f]?=some fn)(a:fn.body=some c:=by exact rfl)(g:(fn.name=="runtime.NumGoroutine")=false:=by kernel_rfl):kh Tryz.prog f:=enters_of d g a
def aY{f:FuncId} {fn:Func} {c:Code} {args:Tp af} {p:af}(g:Tryz.prog.funcs[f]?=some fn)(h:∀A q a Y,cS args->A=ay ⟨Tryz.prog,cW,λ _=>false,false,.none⟩->p=q->c8 A ⟨a,cW,λ _=>false,false,Y⟩ c (0,0) ⟨args.map .val++List.replicate (fn.ntmps-args.length) .undef,[],[],⟨[],0⟩⟩ λ e st=>match e with| .exit _=>False|_=>ol ⟨a,cW,λ _=>false,false,Y⟩ fn.results.toList st q)(d:fn.body=some c:=by exact rfl)(i:(fn.name=="runtime.NumGoroutine")=false:=by kernel_rfl):fL Tryz.prog f args p:=wy gd g d (enters_of g i d) h
def kZ{a6:FuncId->Bool} {rows:Bool} {f:FuncId} {fn:Func} {c:Code} {args:Tp af} {p:af}(g:Tryz.prog.funcs[f]?=some fn)(h:∀A q a Y,cS args->A=ay ⟨Tryz.prog,cW,a6,rows,.none⟩->p=q->c8 A ⟨a,cW,a6,rows,Y⟩ c (0,0) ⟨args.map .val++List.replicate (fn.ntmps-args.length) .undef,[],[],⟨[],0⟩⟩ λ e st=>match e with| .exit _=>False|_=>ol ⟨a,cW,a6,rows,Y⟩ fn.results.toList st q)(d:fn.body=some c:=by exact rfl)(i:(fn.name=="runtime.NumGoroutine")=false:=by kernel_rfl):fL Tryz.prog f args p:=wy gd g d (enters_of g i d) h
abbrev aB:=fL Tryz.prog
structure cI where
 b4:Int
 b5:Int deriving DecidableEq
structure gl where
 Name:ByteArray
 Names:List ByteArray
 aU:List Int
 qO:Int
 ub:Int
structure lq where
 Name:ByteArray
 Names:List ByteArray
 bN:List Int
structure dT where
 ud:Int
 fB:Int
 Length:Int
 df:List cI
structure Way where
 b4:Int
 b5:Int
 cY:List dT
structure eE where
 hK:Int
 h4:Int
 m5:Int
 Weight:Int
 gw:Int
 ed:List (List cI)
structure aE where
 aU:Int
 bN:List gl
 c5:List lq
 aM:List Way
 cf:List (List Int)
 bU:List eE
structure an where
 b0:Int
 h3:Int
 Class:Int
 Call:ByteArray
 aM:List Int
 cD:cI
 Cancel:Bool
structure bW where
 fy:Int
 Way:Int
 eO:Int
 Cancel:Bool deriving DecidableEq
structure dz where
 cr:Int
 cB:Int deriving DecidableEq
structure bH where
 iv:Bool
 Index:Int
 df:cI deriving DecidableEq
structure aw where
 aU:List Int
 c6:Int
 h5:Int
structure aA where
 aw:Int
 aX:Int
 Minute:Int
 iK:Int
 Call:ByteArray
 fB:Int
structure be where
 Way:Int
 bK:List Int
def b'(n:Int):af:=ab n
def av(l:aI):am:=l.map b'
def IN(s:Tw):af:=.str s
def oX(l:Tp Tw):am:=l.map IN
def jx(s:cI):af:=.agg [ab s.b4,ab s.b5]
def cP(l:Tp cI):am:=l.map jx
def uV(l:Tp cI):af:=.aa 2 (cP l)
def fF(l:Tp (Tp cI)):am:=l.map uV
def n2(l:aI):af:=.aa 1 (av l)
def bY(l:Tp aI):am:=l.map n2
def k_(s:gl):af:=.agg [.str s.Name,.aa 1 (oX s.Names),.aa 1 (av s.aU),ab s.qO,ab s.ub]
def cA(l:Tp gl):am:=l.map k_
def ri(s:lq):af:=.agg [.str s.Name,.aa 1 (oX s.Names),.aa 1 (av s.bN)]
def c3(l:Tp lq):am:=l.map ri
def iY(s:dT):af:=.agg [ab s.ud,ab s.fB,ab s.Length,.aa 2 (cP s.df)]
def hg(l:Tp dT):am:=l.map iY
def lr(s:Way):af:=.agg [ab s.b4,ab s.b5,.aa 4 (hg s.cY)]
def cv(l:Tp Way):am:=l.map lr
def fN(s:eE):af:=.agg [ab s.hK,ab s.h4,ab s.m5,ab s.Weight,ab s.gw,.aa 1 (fF s.ed)]
def cz(l:Tp eE):am:=l.map fN
def bD(t:aE):af:=.agg [ab t.aU,.aa 5 (cA t.bN),.aa 3 (c3 t.c5),.aa 3 (cv t.aM),.aa 1 (bY t.cf),.aa 6 (cz t.bU)]
def fG(f:an):af:=.agg [ab f.b0,ab f.h3,ab f.Class,.str f.Call,.aa 1 (av f.aM),ab f.cD.b4,ab f.cD.b5,.bool f.Cancel]
def fc(o:bW):af:=.agg [ab o.fy,ab o.Way,ab o.eO,.bool o.Cancel]
def nl(l:Tp bW):am:=l.map fc
def kJ(b:dz):af:=.agg [ab b.cr,ab b.cB]
def ew(l:Tp dz):am:=l.map kJ
def n3(s:bH):af:=.agg [.bool s.iv,ab s.Index,ab s.df.b4,ab s.df.b5]
def er(l:Tp bH):am:=l.map n3
def iw(s:aw):af:=.agg [.aa 1 (av s.aU),ab s.c6,ab s.h5]
def b2(l:Tp aw):am:=l.map iw
def ey(r:aA):af:=.agg [ab r.aw,ab r.aX,ab r.Minute,ab r.iK,.str r.Call,ab r.fB]
def bd(l:Tp aA):am:=l.map ey
def dw(p:be):af:=.agg [ab p.Way,.aa 1 (av p.bK)]
def cn(l:Tp be):am:=l.map dw
section
variable{A:dF} {E:Env}
def dZ(d:A=ay E){l:aI} {xs:am}(f:xs=av l){n:Int} {K:am->Prop}(a:0<=n)(c:n<l.length)(ae:∀x,l[n.toNat]?=some x->K [ab x]):A.idx xs n K:=gj d (l:=l) (enc:=b') f.symm a c λ x h=>ae x h
def sH(d:A=ay E){l:Tp cI} {xs:am}(f:xs=cP l){n:Int} {K:am->Prop}(a:0<=n)(c:n<l.length)(ae:∀x,l[n.toNat]?=some x->K [ab x.b4,ab x.b5]):A.idx xs n K:=gj d (l:=l) (enc:=jx) f.symm a c λ x h=>ae x h
def yW(d:A=ay E){l:Tp (Tp cI)} {xs:am}(f:xs=fF l){n:Int} {K:am->Prop}(a:0<=n)(c:n<l.length)(ae:∀x v,l[n.toNat]?=some x->v=cP x->K [.aa 2 v]):A.idx xs n K:=gj d (l:=l) (enc:=uV) f.symm a c λ x h=>ae x _ h rfl
def zc(d:A=ay E){l:Tp aI} {xs:am}(f:xs=bY l){n:Int} {K:am->Prop}(a:0<=n)(c:n<l.length)(ae:∀x v,l[n.toNat]?=some x->v=av x->K [.aa 1 v]):A.idx xs n K:=gj d (l:=l) (enc:=n2) f.symm a c λ x h=>ae x _ h rfl
def q9(d:A=ay E){l:Tp gl} {xs:am}(f:xs=cA l){n:Int} {K:am->Prop}(a:0<=n)(c:n<l.length)(ae:∀x v1 v2,l[n.toNat]?=some x->v1=oX x.Names->v2=av x.aU->K [.str x.Name,.aa 1 v1,.aa 1 v2,ab x.qO,ab x.ub]):A.idx xs n K:=gj d (l:=l) (enc:=k_) f.symm a c λ x h=>ae x _ _ h rfl rfl
def F9(d:A=ay E){l:Tp lq} {xs:am}(f:xs=c3 l){n:Int} {K:am->Prop}(a:0<=n)(c:n<l.length)(ae:∀x v1 v2,l[n.toNat]?=some x->v1=oX x.Names->v2=av x.bN->K [.str x.Name,.aa 1 v1,.aa 1 v2]):A.idx xs n K:=gj d (l:=l) (enc:=ri) f.symm a c λ x h=>ae x _ _ h rfl rfl
def u9(d:A=ay E){l:Tp dT} {xs:am}(f:xs=hg l){n:Int} {K:am->Prop}(a:0<=n)(c:n<l.length)(ae:∀x v,l[n.toNat]?=some x->v=cP x.df->K [ab x.ud,ab x.fB,ab x.Length,.aa 2 v]):A.idx xs n K:=gj d (l:=l) (enc:=iY) f.symm a c λ x h=>ae x _ h rfl
def jO(d:A=ay E){l:Tp Way} {xs:am}(f:xs=cv l){n:Int} {K:am->Prop}(a:0<=n)(c:n<l.length)(ae:∀x v,l[n.toNat]?=some x->v=hg x.cY->K [ab x.b4,ab x.b5,.aa 4 v]):A.idx xs n K:=gj d (l:=l) (enc:=lr) f.symm a c λ x h=>ae x _ h rfl
def lf(d:A=ay E){l:Tp eE} {xs:am}(f:xs=cz l){n:Int} {K:am->Prop}(a:0<=n)(c:n<l.length)(ae:∀x v,l[n.toNat]?=some x->v=fF x.ed->K [ab x.hK,ab x.h4,ab x.m5,ab x.Weight,ab x.gw,.aa 1 v]):A.idx xs n K:=gj d (l:=l) (enc:=fN) f.symm a c λ x h=>ae x _ h rfl
def Sk(d:A=ay E){l:Tp bW} {xs:am}(f:xs=nl l){n:Int} {K:am->Prop}(a:0<=n)(c:n<l.length)(ae:∀x,l[n.toNat]?=some x->K [ab x.fy,ab x.Way,ab x.eO,.bool x.Cancel]):A.idx xs n K:=gj d (l:=l) (enc:=fc) f.symm a c λ x h=>ae x h
def sz(d:A=ay E){l:Tp dz} {xs:am}(f:xs=ew l){n:Int} {K:am->Prop}(a:0<=n)(c:n<l.length)(ae:∀x,l[n.toNat]?=some x->K [ab x.cr,ab x.cB]):A.idx xs n K:=gj d (l:=l) (enc:=kJ) f.symm a c λ x h=>ae x h
def zd(d:A=ay E){l:Tp bH} {xs:am}(f:xs=er l){n:Int} {K:am->Prop}(a:0<=n)(c:n<l.length)(ae:∀x,l[n.toNat]?=some x->K [.bool x.iv,ab x.Index,ab x.df.b4,ab x.df.b5]):A.idx xs n K:=gj d (l:=l) (enc:=n3) f.symm a c λ x h=>ae x h
def mu(d:A=ay E){l:Tp aw} {xs:am}(f:xs=b2 l){n:Int} {K:am->Prop}(a:0<=n)(c:n<l.length)(ae:∀x v,l[n.toNat]?=some x->v=av x.aU->K [.aa 1 v,ab x.c6,ab x.h5]):A.idx xs n K:=gj d (l:=l) (enc:=iw) f.symm a c λ x h=>ae x _ h rfl
def kA(d:A=ay E){l:Tp aA} {xs:am}(f:xs=bd l){n:Int} {K:am->Prop}(a:0<=n)(c:n<l.length)(ae:∀x,l[n.toNat]?=some x->K [ab x.aw,ab x.aX,ab x.Minute,ab x.iK,.str x.Call,ab x.fB]):A.idx xs n K:=gj d (l:=l) (enc:=ey) f.symm a c λ x h=>ae x h
def mE(d:A=ay E){l:Tp be} {xs:am}(f:xs=cn l){n:Int} {K:am->Prop}(a:0<=n)(c:n<l.length)(ae:∀x v,l[n.toNat]?=some x->v=av x.bK->K [ab x.Way,.aa 1 v]):A.idx xs n K:=gj d (l:=l) (enc:=dw) f.symm a c λ x h=>ae x _ h rfl
def ev{α:Type}(p:α->Bool)(l:Tp α):Int:=match l.findIdx? p with|some a=>a|none=>-1
def yX{α:Type} {p:α->Bool} {l:Tp α} {i:Int} {x:α}(c:0<=i)(f:l[i.toNat]?=some x)(d:p x=true)(h:∀y∈l.take i.toNat,p y=false):ev p l=i:=by (have e:l.findIdx? p=some i.toNat:=by rw[List.findIdx?_eq_some_iff_getElem];have a:=(aD.1 f);have k:=a.1;refine⟨a.1,by rw[a.2];exact d,λ g j=>?_⟩;rw[h _ (List.mem_take_iff_getElem.2 ⟨g,ac,rfl⟩)];simp);unfold ev;rw[e];simp only[Int.toNat_of_nonneg c]
def Bf{α:Type} {p:α->Bool} {l:Tp α}(h:∀y∈l,p y=false):ev p l=-1:=by (have e:l.findIdx? p=none:=by rw[List.findIdx?_eq_none_iff];exact h);unfold ev;rw[e]
def sA{α:Type}(p:α->Bool)(l:Tp α):decide (0<=ev p l)=l.any p:=by unfold ev;cases h:l.findIdx? p with|none=>rw[List.findIdx?_eq_none_iff]at h;(have:l.any p=false:=by rw[iz];intro x d;simp[h x d]);rw[this];rfl|some f=>have:=List.findIdx?_eq_some_iff_getElem.1 h;obtain⟨a,c,_⟩:=this;have:l.any p=true:=c1.2 ⟨l[f],iA a,c⟩;rw[this];simp
def e5{α:Type} {l:Tp α} {i:Int} {x:α}(c:0<=i)(a:l[i.toNat]?=some x):l.take (i+1).toNat=l.take i.toNat++[x]:=by rw[show(i+1).toNat=i.toNat+1 by omega,fX,a];rfl
end
def kb(p:be){ts:am}(h:ts=av p.bK):dw p=.agg [ab p.Way,.aa 1 ts]:=by rw[h];rfl
def Tf(t:aE):∃d cs f a ks c,d=cA t.bN/\cs=c3 t.c5/\f=cv t.aM/\a=bY t.cf/\ks=cz t.bU/\c=t.aU/\bD t=.agg [.int .i64 c,.aa 5 d,.aa 3 cs,.aa 3 f,.aa 1 a,.aa 6 ks]:=⟨_,_,_,_,_,_,rfl,rfl,rfl,rfl,rfl,rfl,rfl⟩
def dR(t:aE){ss cs ws ms ks:am}(a:ss=cA t.bN)(c:cs=c3 t.c5)(d:ws=cv t.aM)(f:ms=bY t.cf)(g:ks=cz t.bU):bD t=.agg [ab t.aU,.aa 5 ss,.aa 3 cs,.aa 3 ws,.aa 1 ms,.aa 6 ks]:=by rw[a,c,d,f,g];rfl
open Go.Proofs Go.RowKit Go.Sort
section
variable{E:Env} {B:Nat} {ax:Tv->Prop} {G:bR} {S:Tv->Prop} {w:Ts}
def Inv.SZ{ag:br} {tk:bo} {ao:dE}(d:Inv E B ax ag tk ao G S w){id b:Nat} {t:Tr} {arr fh:Tu Tq} {cs cs':aP} {w':Ts}(p:G.ag[id]?=some b)(W:ag[id]?=some (some cs))(ap:w.heap[b]?=some (.cells arr t (0,0)))(C:w.grownBy w' (some b))(X:w.drawn<=w'.drawn)(aq:w'.heap[b]?=some (.cells fh t (0,0)))(ar:fh.size=cs'.length)(Z:∀(j:Nat)(c:ah)(v:Tq),cs'[j]?=some c->fh[j]?=some v->aF tk G S w c v/\v.oneCell'=true):Inv E B ax (ag.set id (some cs')) tk ao G S w'/\Ext tk G S w tk G S w'/\∀w0,Below B w0 w->Below B w0 w':=by
 have V:∀a,S a->a.block≠b:=(d.box id b cs W p).2;have s:=C.size;have z:∀k,k<w.heap.size->k≠b->w'.heap[k]?=w.heap[k]?:=λ k ae I=>C.block k ae (λ e=>I (bC e));have x:Ext tk G S w tk G S w':=⟨λ _ _ h=>h,λ _ J le l i=>⟨J,le,l,i,.inl ⟨rfl,rfl⟩⟩,λ _ h=>h,λ a y=>di.qK (z _ (d.slt a y) (V a y)),λ _ _ h=>h,⟨C.os,C.tape,C.output,s,λ k ae=>absurd ae (oI _),X⟩,λ f F am=>z f F (λ e=>am (.inl ⟨id,by rw[e];exact p⟩)),λ _ _ h=>h,λ _ h=>.inl h⟩;have ak:=(d.dJ id b p).1;have U:∀f,f<w.heap.size->hq w w' f:=λ f F=>by by_cases e:f=b;(·intro av au h;rw[e,ap]at h;cases h;cases au);exact hq.of_eq (z f F e)
 have hid:id<ag.length:=(aD.1 W).1;refine⟨⟨eg d.base s,d.hR,λ a y=>gN (d.slt a y) s,by simp[d.e'],d.gS,λ o f h=>⟨(d.dJ o f h).1,gN (d.dJ o f h).2 s⟩,d.gq,?_,?_,d.apart,d.fw,d.hi,λ o f h=>⟨(d.eW o f h).1,gN (d.eW o f h).2 s⟩,λ o f c l i=>(d.fj o f c l i).mono (U f (d.eW o f i).2) (λ m Q h=>⟨h,U Q (d.eW m Q h).2⟩) (λ _ h=>h) x.cell (λ _ h=>.inl h),λ f h=>gN (d.gr f h) s,d.gC,d.hr,d.hj,⟨E.Y.ok _ _ _ _ _ _ d.f_.1 ⟨x.calm,λ f h=>z f (d.gr f h) (λ e=>d.gC id f (by rw[e];exact p) h),λ _ h=>h,x.cell,λ _ h=>.inl h,λ a y=>gN (d.slt a y) s⟩,d.f_.2⟩,d.hH⟩,x,λ w0 h=>h.grown C X d.base (λ k e=>by cases e;exact ak)⟩;·intro K f ai l i;simp only[gV]at l;split at l;(next he=>subst he;simp only[cg]at l;subst l;rw[p]at i;cases i;exact⟨⟨t,fh,aq,ar,λ j c v D a2=>⟨aF.mono x (Z j c v D a2).1,(Z j c v D a2).2⟩⟩,V⟩);rename_i I;have al:f≠b:=λ e=>I (d.gq id K b p (by rw[<-e];exact i));obtain⟨⟨O,aa,L,M,H⟩,N⟩:=d.box K f ai l i;exact⟨⟨O,aa,by rw[z f (d.dJ K f i).2 al];exact L,M,λ j c v D a2=>⟨aF.mono x (H j c v D a2).1,(H j c v D a2).2⟩⟩,N⟩
 intro O n e J l i;obtain⟨a,cap,L,M,H,N⟩:=d.tok O n e J l i;refine⟨a,cap,L,M,H,λ F=>?_⟩;obtain⟨g,aj,ab,ac,R,ad,af,T⟩:=N F;have an:g≠b:=λ e=>T id (by rw[e];exact p);exact⟨g,aj,ab,ac,by rw[z g (gg.1 R).1 an];exact R,ad,af,T⟩
def AY{f:FuncId}(he:kh E.P f){ag:br} {tk:bo} {ao:dE} {id n cap:Nat} {g:aI} {rest:aP}(H:ag[id]?=some (some ((av g).map ah.val++rest)))(C:ah)(K:Nat->Tq)(ad:∀tk G S w b,G.ag[id]?=some b->aF tk G S w C (K b))(D:aI->Prop)(h:∀(w:Ts)(b:Nat),Holds (Value.int .i64) w b 0 g.toArray->b<w.heap.size->n<=cap->cap<=maxLen->Calls E.P f #[.slice (some ⟨b,0,none⟩) n cap] w λ e L=>e=.returned (K b)/\∃k os d,d.length=g.length/\D d/\L=grow (putRow (Value.int .i64) (Sort.ahead w k) b 0 d.toArray) os):cF E f [.row id 0 1 n cap] ag tk ao λ r N am M=>r=C/\(∃d,d.length=g.length/\D d/\N=ag.set id (some ((av d).map ah.val++rest)))/\am=tk/\M=ao:=by refine⟨he,λ B ax w0 G S w vs p hw Z ai=>?_⟩;match vs,Z with| [v],_=>obtain⟨b,m,rfl,U,ab⟩:=ai 0 _ v rfl rfl;obtain⟨⟨t,arr,y,z,I⟩,an⟩:=p.box id b _ H m;(have af:∀a,a<g.length->arr[a]?=some (.int .i64 (g.getD a 0)):=λ a i=>by (have l:((av g).map ah.val++rest)[a]?=some (.val (.int .i64 (g.getD a 0))):=by rw[bu (by simpa[av]using i)];simp[av,b',i]);(have J:a<arr.size:=by rw[z];simp[av];omega);obtain⟨j,_⟩:=I a _ arr[a] l (by simp[J]);rw[eC J];generalize arr[a]=u at j;have o:aq S w (.int .i64 (g.getD a 0)) u:=j;cases o;rfl);(have ae:arr.toList.take g.length=g.map (Value.int .i64):=by apply gz;intro a;by_cases i:a<g.length;(·rw[yt i,fq,af a i];simp[i]);rw[List.getElem?_take_eq_none ac,eL c0]);have aa:b<w.heap.size:=(p.dJ id b m).2;refine(h w b (holds_of_blockI y ae) aa U ab).mono ?_;rintro e L⟨rfl,k,os,d,s,R,rfl⟩;have V:w.grownBy (grow (putRow (Value.int .i64) (Sort.ahead w k) b 0 d.toArray) os) (some b):=grownBy_sortedI d.toArray;have W:=heap_sortedI (n:=k) (os:=os) d.toArray y;(have T:∀(a:Nat)(c:ah)(v:Tq),((av d).map ah.val++rest)[a]?=some c->(putCells (Value.int .i64) 0 d.toArray arr)[a]?=some v->aF tk G S w c v/\v.oneCell'=true:=by intro a c v l j;by_cases i:a<d.length;(·rw[bu (by simpa[av]using i)]at l;(have X:a<arr.size:=by rw[z];simp[av];omega);simp[av,b',i]at l;simp[putCells,i,X]at j;subst l;subst j;exact⟨aq.int _ _,rfl⟩);rw[b1 (by simpa[av]using i)]at l;(have o:((av g).map ah.val++rest)[a]?=some c:=by rw[b1 (by simp[av];omega)];simpa[av,s]using l);(have O:arr[a]?=some v:=by simp only[putCells,Array.getElem?_mapIdx]at j;rw[ke]at j;obtain⟨x,Q,F⟩:=j;rw[if_neg c0]at F;rw[Q,F]);exact I a c v o O);obtain⟨aj,ak,al⟩:=p.SZ m H y V (by simp[grow,putRow,mapBlock,Sort.ahead]) W (by simp[putCells,z,av,s]) T;exact⟨_,C,_,tk,ao,G,S,⟨rfl,⟨d,s,R,rfl⟩,rfl,rfl⟩,rfl,aj,al _ hw,ak,ad _ _ _ _ _ m⟩
end
def cF.frame{E:Env} {f:FuncId} {cG:aP} {ag:br} {tk:bo} {ao:dE} {Q:ah->br->bo->dE->Prop}(h:cF E f cG ag tk ao Q)(ex:br)(hex:∀R∈ex,∃cs,R=some cs/\∀c∈cs,∃p,c=.val p)(hQ:∀r N U ab,Q r N U ab->N.length=ag.length)(bc:cG.all (ah.within ag.length ao.mp.length tk.length)=true)(aU:ag.all (λ R=>match R with|none=>true|some cs=>cs.all (ah.within ag.length ao.mp.length tk.length))=true)(aZ:∀c∈ao.mp,c≠.gone):cF E f cG (ag++ex) tk ao λ r N U ab=>∃cd,N=cd++ex/\Q r cd U ab:=by
 refine⟨h.1,λ B ax w0 G S w vs o aV a8 bg=>?_⟩;have aX:=o.e';rw[bO]at aX;have a_:G.mp.take ao.mp.length=G.mp:=eD (q5 o.fw);have hw:∀(s:ah)(v:Tq),s.within ag.length ao.mp.length tk.length=true->aF tk G S w s v->aF tk ⟨G.ag.take ag.length,G.tk,G.mp,G.dd⟩ S w s v:=λ s v i l=>by have:=aF.Aj i l;rw[a_]at this;exact this
 have K:∀(d b:Nat),(G.ag.take ag.length)[d]?=some b->G.ag[d]?=some b/\d<ag.length:=λ d b h=>by rw[c9]at h;split at h;(·exact⟨h,‹_›⟩);cases h
 have aS:Inv E B ax ag tk ao ⟨G.ag.take ag.length,G.tk,G.mp,G.dd⟩ S w:=by refine⟨o.base,o.hR,o.slt,by simp only[dQ];omega,o.gS,λ d b i=>o.dJ d b (K d b i).1,λ d j b i l=>o.gq d j b (K d b i).1 (K j b l).1,λ id b cs i l=>?_,λ t n e v i l=>?_,o.apart,o.fw,o.hi,o.eW,o.fj,o.gr,λ d b i=>o.gC d b (K d b i).1,o.hr,o.hj,o.f_,λ d j b i=>o.hH d j b (K d b i).1⟩;(·obtain⟨y,T⟩:=K id b l;obtain⟨⟨aa,arr,H,a2,a3⟩,a4⟩:=o.box id b cs (by rw[bu T];exact i) y;refine⟨⟨aa,arr,H,a2,λ j c v L M=>⟨hw c v ?_ (a3 j c v L M).1,(a3 j c v L M).2⟩⟩,a4⟩;have av:=cu.1 aU (some cs) (aT i);exact cu.1 av c (aT L));obtain⟨a,cap,H,a2,a3,a4⟩:=o.tok t n e v i l;refine⟨a,cap,H,a2,a3,λ W=>?_⟩;obtain⟨g,ad,ai,ak,al,am,an,ap⟩:=a4 W;exact⟨g,ad,ai,ak,al,am,an,λ d h=>ap d (K d g h).1⟩
 refine(h.2 B ax w0 _ S w vs aS aV a8 λ d s v i l=>hw s v (cu.1 bc s (aT i)) (bg d s v i l)).mono ?_;rintro e aC⟨v,r,N,U,ab,F,aj,aA,he,z,aW,X,ba⟩;have aI:F.ag.length=ag.length:=z.e'.trans (hQ _ _ _ _ aA);have V:∀(j b:Nat),G.ag[ag.length+j]?=some b->b<w.heap.size/\¬cR ⟨G.ag.take ag.length,G.tk,G.mp,G.dd⟩ b:=λ j b J=>by refine⟨(o.dJ _ b J).2,?_⟩;(have a7:ag.length+j<(ag++ex).length:=by rw[bO];have:=(aD.1 J).1;omega);obtain⟨R,az⟩:∃R,(ag++ex)[ag.length+j]?=some R:=⟨_,aQ a7⟩;(have a':ex[j]?=some R:=by rw[b1 ac]at az;simpa using az);obtain⟨cs,rfl,_⟩:=hex R (aT a');obtain⟨⟨aa,arr,H,_,_⟩,_⟩:=o.box _ b cs az J;rintro(⟨d,x⟩ | ⟨t,n,cap,aJ,W⟩ | ⟨d,x⟩ |I);(·obtain⟨i,l⟩:=K d b x;have:=o.gq _ _ b i J;omega);(·have be:G.tk[t]?=some (.slice (some ⟨b,0,none⟩) n cap):=aJ;(have bf:t<tk.length:=by have:=(aD.1 be).1;have:=o.gS;omega);obtain⟨a,bp,aB,bC,bD,bl⟩:=o.tok t _ _ _ (aQ bf) aJ;injection aB with aB bj bk;subst bj bk;obtain⟨g2,bs,Z,bx,bz,bA,bB,bi⟩:=bl W;rw[<-aB]at Z;injection Z with Z;injection Z with Z;subst Z;exact bi _ J);(·have a1:G.mp[d]?=some b:=x;(have aw:d<ao.mp.length:=by have:=(aD.1 a1).1;have:=o.fw;omega);obtain⟨c,af⟩:∃c,ao.mp[d]?=some c:=⟨_,aQ aw⟩;have ae:=o.fj d b c af x;have aY:=aZ c (aT af);match c,ae with| .plain k e n,ae=>obtain⟨⟨D,es,clock,C,_⟩,_⟩:=ae;rw[H]at C;cases C| .cm es mk,ae=>obtain⟨⟨aE,clock,b7,C,_⟩,_⟩:=ae;rw[H]at C;cases C| .iter (some m) es left ad,ae=>obtain⟨⟨aL,_,aE,clock,bm,seen,last,_,C,_⟩,_⟩:=ae;rw[H]at C;cases C| .iter none es left ad,ae=>obtain⟨⟨C,_⟩ | ⟨aL,_,_,aE,clock,bm,seen,last,_,C,_⟩,_⟩:=ae;(·rw[H]at C;cases C);rw[H]at C;cases C| .gone,_=>exact aY rfl);exact o.gC _ b J I
 have O:∀(d b:Nat),(F.ag++G.ag.drop ag.length)[d]?=some b->(F.ag[d]?=some b/\d<ag.length)\/(∃j,d=ag.length+j/\G.ag[ag.length+j]?=some b):=λ d b x=>by rcases eM d ag.length with i|i;(·rw[bu ac]at x;exact .inl ⟨x,i⟩);rw[b1 ac,fs,aI]at x;exact .inr ⟨d-ag.length,ac,x⟩
 have ar:∀(d b:Nat),F.ag[d]?=some b->G.ag[d]?=some b:=λ d b x=>by (have aw:d<ag.length:=by have:=(aD.1 x).1;omega);obtain⟨c,af⟩:∃c,G.ag[d]?=some c:=⟨_,aQ ac⟩;have:=X.ag d c (by rw[c9,if_pos aw];exact af);rw[x]at this;rw[af];exact this.symm
 have ay:∀(j b:Nat),G.ag[ag.length+j]?=some b->¬cR F b:=λ j b J I=>(V j b J).2 (X.gD b (V j b J).1 I);have aG:lz U F aj aC U ⟨F.ag++G.ag.drop ag.length,F.tk,F.mp,F.dd⟩ aj aC:=⟨λ d b x=>by show(F.ag++G.ag.drop ag.length)[d]?=_;rw[bu (aD.1 x).1];exact x,λ t bh le i l=>⟨bh,le,i,l,.inl ⟨rfl,rfl⟩⟩,λ _ h=>h,λ _ _=>di.refl _ _,λ _ _ h=>h⟩;have bd:∀(j b:Nat),G.ag[ag.length+j]?=some b->aC.heap[b]?=w.heap[b]?:=λ j b J=>X.same b (V j b J).1 (V j b J).2;refine⟨v,r,N++ex,U,ab,⟨F.ag++G.ag.drop ag.length,F.tk,F.mp,F.dd⟩,aj,⟨N,rfl,aA⟩,he,?_,aW,?_,aF.k5 aG ba⟩;·have bv:=hQ _ _ _ _ aA;refine⟨z.base,z.hR,z.slt,?_,z.gS,λ d b i=>?_,λ d j b i l=>?_,λ id b cs i l=>?_,λ t n aM bn i l=>?_,z.apart,z.fw,z.hi,z.eW,z.fj,z.gr,λ d b i=>?_,z.hr,z.hj,z.f_,λ d j b i C=>(O d b i).elim (λ h=>z.hH d j b h.1 C) λ⟨k,_,h⟩=>ay k b h (.inr (.inr (.inl ⟨j,C⟩)))⟩;(·simp only[bO,ju];omega);(·rcases O d b i with⟨l,_⟩ | ⟨j,rfl,l⟩;(·exact z.dJ d b l);exact⟨(o.dJ _ b l).1,gN (o.dJ _ b l).2 X.calm.size⟩);(·rcases O d b i with⟨y,aR⟩ | ⟨k,rfl,y⟩<;>rcases O j b l with⟨T,bt⟩ | ⟨bw,rfl,T⟩;(·exact z.gq d j b y T);(·exact o.gq _ _ b (ar d b y) T);(·exact o.gq _ _ b y (ar j b T));exact o.gq _ _ b y T);(·rcases O id b l with⟨y,aR⟩ | ⟨j,rfl,y⟩;(·rw[bu ac]at i;obtain⟨⟨aa,arr,H,a2,a3⟩,a4⟩:=z.box id b cs i y;exact⟨⟨aa,arr,H,a2,λ j c v L M=>⟨aF.k5 aG (a3 j c v L M).1,(a3 j c v L M).2⟩⟩,a4⟩);rw[b1 ac,show ag.length+j-N.length=j by omega]at i;obtain⟨⟨aa,arr,H,a2,a3⟩,a4⟩:=o.box _ b cs (by rw[b1 ac,show ag.length+j-ag.length=j by omega];exact i) y;obtain⟨bq,aO,av⟩:=hex _ (aT i);cases aO;refine⟨⟨aa,arr,(bd j b y).trans H,a2,λ aK c v L M=>⟨?_,(a3 aK c v L M).2⟩⟩,λ a au aH=>?_⟩;(·obtain⟨p,rfl⟩:=av c (aT L);exact aq.mono X.sub X.cell (a3 aK _ v L M).1);rcases X.new a au with h|h|h;(·exact a4 a h aH);(·rw[aH]at h;exact(V j b y).2 h);have:=(V j b y).1;omega);(·obtain⟨a,cap,H,a2,a3,a4⟩:=z.tok t n aM bn i l;refine⟨a,cap,H,a2,a3,λ W=>?_⟩;obtain⟨g,ad,ai,ak,al,am,an,ap⟩:=a4 W;refine⟨g,ad,ai,ak,al,am,an,λ d h=>?_⟩;rcases O d g h with⟨y,_⟩ | ⟨j,rfl,y⟩;(·exact ap d y);refine ay j g y (.inr (.inl ⟨t,n,cap,?_,W⟩));rw[l,H,ai]);rcases O d b i with⟨l,_⟩ | ⟨j,rfl,l⟩;(·exact z.gC d b l);exact λ I=>ay j b l (.inr (.inr (.inr I)))
 refine⟨λ d b i=>?_,X.tk,X.sub,X.cell,X.mp,X.calm,λ b i l=>X.same b i (λ I=>l ?_),λ b i I=>?_,λ a au=>?_⟩;·show(F.ag++G.ag.drop ag.length)[d]?=some b;rcases eM d ag.length with l|l;(·rw[bu ac];exact X.ag d b (by rw[c9,if_pos l];exact i));rw[b1 ac,fs,aI,Nat.add_sub_cancel' l];exact i
 ·rcases I with⟨d,x⟩ |I;(·exact .inl ⟨d,(K d b x).1⟩);exact .inr I
 ·rcases I with⟨d,x⟩ |I;(·rcases O d b x with⟨l,_⟩ | ⟨j,rfl,l⟩;(·exact .inl ⟨d,ar d b l⟩);exact .inl ⟨_,l⟩);rcases X.gD b i (.inr I)with⟨d,x⟩ |y;(·exact .inl ⟨d,(K d b x).1⟩);exact .inr y
 rcases X.new a au with i|i|i;·exact .inl i
 ·rcases i with⟨d,x⟩ |i;(·exact .inr (.inl (.inl ⟨d,(K d _ x).1⟩)));exact .inr (.inl (.inr i))
 exact .inr (.inr i)
def cF.mq{E:Env} {f:FuncId} {cG yb:aP} {ag xQ:br} {tk t':bo} {ao xO:dE} {Q:ah->br->bo->dE->Prop}(F:(ag.length,ao.mp.length)=(0,0)->tk=[])(hw:aZ (ag.length,ao.mp.length) ⟨cG,ag,tk,ao⟩ ⟨yb,xQ,t',xO⟩)(h:cF E f yb xQ t' xO Q):cF E f cG ag tk ao Q:=by refine⟨h.1,λ B ax w0 G S w vs g x D J=>?_⟩;have l:Rel E B ax w0 ⟨cG,ag,tk,ao⟩ G S w vs.toArray:=⟨g,x,by simp[D],λ i s v c d=>J i s v c (by simpa using d)⟩;obtain⟨j,m,a,o,_⟩:=l.mq (q5 g.e') ⟨q5 g.fw,F⟩ hw (Ext.refl tk G S w);have z:=h.2 B ax w0 j m w vs a.inv a.below (by simpa using a.len) (λ i s v c d=>a.sl i s v c (by simpa using d));refine z.mono ?_;rintro e M⟨v,r,t,L,p,k,n,H,he,C,y,K,I⟩;exact⟨v,r,t,L,p,k,n,H,he,C,y,o.trans K,I⟩
def vz(L:Nat->Bool)(d vs:aP):Tp Oper->Nat->aP->aP| [],_,a=>a|f::r,c,a=>vz L d vs r (c+1) (match f.dst with|some t=>a.set t (cond (L c) (vs.getD c .undef) (d.getD t .undef)) |none=>a)
def k0(st:ai)(ops:Tu Oper)(vs:aP)(a:(Nat->Bool)->br)(L:Nat->Bool):ai:=⟨vz L st.sl vs ops.toList 0 st.sl,a L,st.tk,st.ao⟩
def cN(L:Nat->Bool)(i:Nat):Nat->Bool:=λ a=>match decide (a=i)with|true=>true|false=>L a
theorem yM{L L':Nat->Bool} {c vs:aP}:∀{l:Tp Oper} {i:Nat} {sl:aP},(∀a,i<=a->a<i+l.length->L a=L' a)->vz L c vs l i sl=vz L' c vs l i sl| [],_,_,_=>rfl|g::r,i,sl,h=>by unfold vz;rw[h i (a8 _) al];exact yM λ a d f=>h a ac (by simp only[fY];omega)
def P3{A:dF} {E:Env} {ops:Tu Oper} {eJ:(Nat->Bool)->ai} {K:ai->Prop}(O:∀(i:Nat)(o:Oper),ops[i]?=some o->∀e∈o.after,Region.binds .any e=true->e.on<i)(J:∀L H,(∀i,i<ops.size->L i=H i)->eJ L=eJ H)(X:∀(L:Nat->Bool)(i:Nat)(o:Oper),ops[i]?=some o->(∀e∈o.after,Region.binds .any e=true->L e.on=true)->∀G:ai->Prop,G (eJ (cN L i))->hy A E false ops.toList [o] (eJ L) G)(R:K (eJ λ _=>true)):∀(l:Nat)(c:Tu Bool),c.size=ops.size->c.toList.count false<=l->lp A E ops l c (eJ λ i=>c.getD i true) K:=by
 have M:∀(c:Tu Bool),c.size=ops.size->(∀i,i<ops.size->c.getD i true=true)->K (eJ λ i=>c.getD i true):=λ c m y=>by rw[J _ (λ _=>true) y];exact R
 have U:∀(c:Tu Bool),c.size=ops.size->Region.ready .any ops c=[]->∀i,i<ops.size->c.getD i true=true:=λ c ah h i=>by induction i using Nat.strongRecOn with|ind i F=>intro B;cases W:c.getD i true with|true=>rfl|false=>have s:i∈Region.ready .any ops c:=mem_ready.2 ⟨W,ops[i],eC B,λ e he g=>by have p:=O i ops[i] (eC B) e he g;have j:=F e.on p ac;simp only[fu,eC (show e.on<c.size by omega),e4]at j⊢;exact j⟩;rw[h]at s;cases s
 intro l;induction l with|zero=>(intro c m y;(have p:∀i,i<ops.size->c.getD i true=true:=λ i B=>by have T:false∉c.toList:=List.count_eq_zero.1 ac;have S:i<c.size:=ac;simp only[fu,eC S,e4];cases g:c[i];(·exact absurd (by rw[<-g];simp) T);rfl);unfold lp;cases w:Region.ready .any ops c with|nil=>exact M c m p|cons i r=>(have s:i∈Region.ready .any ops c:=by rw[w];simp);obtain⟨j,o,n,_⟩:=mem_ready.1 s;have z:=p i (gg.1 n).1;rw[z]at j;cases j)|succ l F=>intro c m y;unfold lp;cases w:Region.ready .any ops c with|nil=>exact M c m (U c m w) |cons i r=>(have V:∀d∈i::r,(match ops[d]? with|none=>False|some o=>hy A E false ops.toList [o] (eJ λ i=>c.getD i true) λ ab=>lp A E ops l (c.setIfInBounds d true) ab K):=λ d C=>by obtain⟨j,o,n,z⟩:=mem_ready.1 (by rw[w];exact C);rw[n];have ag:d<ops.size:=(gg.1 n).1;refine X _ d o n (λ e he g=>?_) _ ?_;(·have I:=z e he g;have ad:=O d o n e he g;simp only[fu,eC (show e.on<c.size by omega),e4]at I⊢;exact I);(have Z:eJ (cN (λ i=>c.getD i true) d)=eJ λ i=>(c.setIfInBounds d true).getD i true:=J _ _ λ k ae=>by unfold cN;simp only[fu,si];by_cases D:k=d;(·subst D;simp[show k<c.size by omega]);simp[D,Ne.symm D]);rw[Z];refine F _ (by simp[m]) ?_;(have af:(c.setIfInBounds d true).toList.count false+1<=c.toList.count false:=by (have N:d<c.toList.length:=by rw[kC];omega);(have g:c.toList[d]=false:=by simp only[fu,eC (show d<c.size by omega),e4]at j;simpa using j);rw[v6,List.count_set N,g];have:0<c.toList.count false:=v7.2 (by rw[<-g];exact iA N);show c.toList.count false-1+0+1<=_;omega);omega);(have Q:∀(x:Tp Nat)(f:Nat->Prop),(∀d∈x,f d)->rX x f:=by intro x f h;induction x with|nil=>trivial|cons a t aa=>cases t with|nil=>exact h a al|cons b u=>exact⟨h a al,aa λ d C=>h d (dt _ C)⟩);exact Q _ _ V
def xK(ops:Tu Oper):Bool:=(List.range ops.size).all λ a=>match ops[a]? with|none=>true|some c=>c.after.toList.all λ e=>!Region.binds .any e||decide (e.on<a)
def Bz{ops:Tu Oper}(h:xK ops=true):∀(i:Nat)(o:Oper),ops[i]?=some o->∀e∈o.after,Region.binds .any e=true->e.on<i:=λ i o d e he f=>by unfold xK at h;have a:=cu.1 h i (h_.2 (gg.1 d).1);rw[d]at a;have c:=cu.1 a e (by simpa using he);rw[f]at c;simpa using c
def Ox{A:dF} {E:Env} {id:Nat} {ops:Tu Oper} {nb:Nat×Nat} {st:ai} {Q:fb->ai->Prop}(s:oU E true id ops.size=.each)(vs:aP)(a:(Nat->Bool)->br)(g:k0 st ops vs a (λ _=>false)=st)(k:∀L c,(∀i,i<ops.size->L i=c i)->a L=a c)(p:xK ops=true)(t:∀(L:Nat->Bool)(i:Nat)(o:Oper),ops[i]?=some o->(∀e∈o.after,Region.binds .any e=true->L e.on=true)->∀d:ai->Prop,d (k0 st ops vs a (cN L i))->hy A E false ops.toList [o] (k0 st ops vs a L) d)(l:Q .normal (k0 st ops vs a λ _=>true)):c8 A E (.region id ops true) nb st Q:=by
 have n:=Bz p;unfold c8;rw[s];have f:∀L c,(∀i,i<ops.size->L i=c i)->k0 st ops vs a L=k0 st ops vs a c:=λ L c h=>by unfold k0;rw[k L c h,yM (L:=L) (L':=c) λ w _ j=>h w (by simpa using j)]
 have h:=P3 (A:=A) (E:=E) (K:=Q .normal) n f t l ops.size (Array.replicate ops.size false) al (by simp[List.count_replicate]);have e:k0 st ops vs a (λ i=>(Array.replicate ops.size false).getD i true)=st:=by refine(f _ (λ _=>false) λ i m=>?_).trans g;simp[fu,m]
 rw[e]at h;exact h
def F_{A:dF} {E:Env} {ops:Tu Oper} {eJ:(Nat->Bool)->ai} {K:ai->Prop}(H:∀(i:Nat)(o:Oper),ops[i]?=some o->∀e∈o.after,Region.binds .any e=true->e.on<i)(O:∀L M,(∀i,i<ops.size->L i=M i)->eJ L=eJ M)(ab:∀(L:Nat->Bool)(i:Nat)(o:Oper),ops[i]?=some o->L i=false->(∀(j:Nat)(o':Oper),ops[j]?=some o'->L j=true->∀e∈o'.after,Region.binds .any e=true->L e.on=true)->(∀e∈o.after,Region.binds .any e=true->L e.on=true)->∀J:ai->Prop,J (eJ (cN L i))->hy A E false ops.toList [o] (eJ L) J)(U:K (eJ λ _=>true)):∀(m:Nat)(c:Tu Bool),c.size=ops.size->c.toList.count false<=m->(∀(j:Nat)(o':Oper),ops[j]?=some o'->c.getD j true=true->∀e∈o'.after,Region.binds .any e=true->c.getD e.on true=true)->lp A E ops m c (eJ λ i=>c.getD i true) K:=by
 have Q:∀(c:Tu Bool),c.size=ops.size->(∀i,i<ops.size->c.getD i true=true)->K (eJ λ i=>c.getD i true):=λ c n D=>by rw[O _ (λ _=>true) D];exact U
 have X:∀(c:Tu Bool),c.size=ops.size->Region.ready .any ops c=[]->∀i,i<ops.size->c.getD i true=true:=λ c ao h i=>by induction i using Nat.strongRecOn with|ind i I=>intro F;cases aa:c.getD i true with|true=>rfl|false=>have z:i∈Region.ready .any ops c:=mem_ready.2 ⟨aa,ops[i],eC F,λ e he d=>by have x:=H i ops[i] (eC F) e he d;have g:=I e.on x ac;simp only[fu,eC (show e.on<c.size by omega),e4]at g⊢;exact g⟩;rw[h]at z;cases z
 intro m;induction m with|zero=>(intro c n D _;(have x:∀i,i<ops.size->c.getD i true=true:=λ i F=>by have W:false∉c.toList:=List.count_eq_zero.1 ac;have V:i<c.size:=ac;simp only[fu,eC V,e4];cases d:c[i];(·exact absurd (by rw[<-d];simp) W);rfl);unfold lp;cases B:Region.ready .any ops c with|nil=>exact Q c n x|cons i r=>(have z:i∈Region.ready .any ops c:=by rw[B];simp);obtain⟨g,o,l,_⟩:=mem_ready.1 z;have y:=x i (gg.1 l).1;rw[y]at g;cases g)|succ m I=>intro c n D N;unfold lp;cases B:Region.ready .any ops c with|nil=>exact Q c n (X c n B) |cons i r=>(have Z:∀j∈i::r,(match ops[j]? with|none=>False|some o=>hy A E false ops.toList [o] (eJ λ i=>c.getD i true) λ ag=>lp A E ops m (c.setIfInBounds j true) ag K):=λ j G=>by obtain⟨g,o,l,y⟩:=mem_ready.1 (by rw[B];exact G);rw[l];have am:j<ops.size:=(gg.1 l).1;refine ab _ j o l g N (λ e he d=>?_) _ ?_;(·have s:=y e he d;have ah:=H j o l e he d;simp only[fu,eC (show e.on<c.size by omega),e4]at s⊢;exact s);(have ad:eJ (cN (λ i=>c.getD i true) j)=eJ λ i=>(c.setIfInBounds j true).getD i true:=O _ _ λ k ae=>by unfold cN;simp only[fu,si];by_cases p:k=j;(·subst p;simp[show k<c.size by omega]);simp[p,Ne.symm p]);rw[ad];refine I _ (by simp[n]) ?_ ?_;rotate_left;(·intro k o' w ae e he d;have an:k<ops.size:=(gg.1 w).1;have ak:=H k o' w e he d;(have key:c.getD e.on true=true:=by by_cases p:k=j;(·subst p;rw[l]at w;cases w;have s:=y e he d;simp only[fu,eC (show e.on<c.size by omega),e4]at s⊢;exact s);refine N k o' w ?_ e he d;simp only[fu,si]at ae⊢;simpa[Ne.symm p]using ae);simp only[fu,si]at key⊢;by_cases R:j=e.on;(·simp[R,show e.on<c.size by omega]);simpa[R]using key);(have aj:(c.setIfInBounds j true).toList.count false+1<=c.toList.count false:=by (have S:j<c.toList.length:=by rw[kC];omega);(have d:c.toList[j]=false:=by simp only[fu,eC (show j<c.size by omega),e4]at g;simpa using g);rw[v6,List.count_set S,d];have:0<c.toList.count false:=v7.2 (by rw[<-d];exact iA S);show c.toList.count false-1+0+1<=_;omega);omega);(have T:∀(C:Tp Nat)(f:Nat->Prop),(∀j∈C,f j)->rX C f:=by intro C f h;induction C with|nil=>trivial|cons a t af=>cases t with|nil=>exact h a al|cons b u=>exact⟨h a al,af λ j G=>h j (dt _ G)⟩);exact T _ _ Z
def AZ{A:dF} {E:Env} {id:Nat} {ops:Tu Oper} {nb:Nat×Nat} {st:ai} {Q:fb->ai->Prop}(w:oU E true id ops.size=.each)(vs:aP)(a:(Nat->Bool)->br)(g:k0 st ops vs a (λ _=>false)=st)(l:∀L c,(∀i,i<ops.size->L i=c i)->a L=a c)(t:xK ops=true)(y:∀(L:Nat->Bool)(i:Nat)(o:Oper),ops[i]?=some o->L i=false->(∀(j:Nat)(o':Oper),ops[j]?=some o'->L j=true->∀e∈o'.after,Region.binds .any e=true->L e.on=true)->(∀e∈o.after,Region.binds .any e=true->L e.on=true)->∀d:ai->Prop,d (k0 st ops vs a (cN L i))->hy A E false ops.toList [o] (k0 st ops vs a L) d)(m:Q .normal (k0 st ops vs a λ _=>true)):c8 A E (.region id ops true) nb st Q:=by
 have s:=Bz t;unfold c8;rw[w];have f:∀L c,(∀i,i<ops.size->L i=c i)->k0 st ops vs a L=k0 st ops vs a c:=λ L c h=>by unfold k0;rw[l L c h,yM (L:=L) (L':=c) λ j _ k=>h j (by simpa using k)]
 have h:=F_ (A:=A) (E:=E) (K:=Q .normal) s f y m ops.size (Array.replicate ops.size false) al (by simp[List.count_replicate]) (λ j o' x p=>by have:=(gg.1 x).1;simp[fu,this]at p);have e:k0 st ops vs a (λ i=>(Array.replicate ops.size false).getD i true)=st:=by refine(f _ (λ _=>false) λ i n=>?_).trans g;simp[fu,n]
 rw[e]at h;exact h
def Oy{A:dF} {E:Env} {id b:Nat} {ops:Tu Oper} {c d:Code} {nb:Nat×Nat} {st:ai} {Q f:fb->ai->Prop}(hQ:∀s,Q .normal s=c8 A E (.seq (.block b (.seq (.region id ops true) c)) d) nb s f)(h:c8 A E (.region id ops true) nb st λ e a=>match e with| .normal=>(c8 A E c nb a λ e a=>match e with| .normal=>c8 A E d nb a f| .exit g=>if g=b then c8 A E d nb a f else f (.exit g) a| .ret=>f .ret a)| .exit g=>if g=b then c8 A E d nb a f else f (.exit g) a| .ret=>f .ret a):c8 A E .skip nb st Q:=by unfold c8;rw[hQ];unfold c8;unfold c8;unfold c8;exact h
end Go.Abs
