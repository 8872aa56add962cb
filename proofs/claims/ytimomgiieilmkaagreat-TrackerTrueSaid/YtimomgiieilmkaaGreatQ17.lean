/- Contracts of the functions: part 17. -/
import Derived.Test.YtimomgiieilmkaaGreatQ12
import Derived.Test.YtimomgiieilmkaaGreatQ13
import Derived.Test.YtimomgiieilmkaaGreatQ15
set_option linter.all false
set_option maxRecDepth 20000
set_option maxHeartbeats 4000000
namespace Go.Abs
open Go.Proofs Go.RowKit
def l9(a:List (List Bool))(i:Nat)(l:List aS):List aS:=l.mapIdx λ n x=>if n<i then{x with cC:=a.getD n []}else x
def gf(l:List aS)(a:List (List Bool)):List aS:=l.mapIdx λ n x=>{x with cC:=a.getD n []}
def Re(a:List (List Bool))(l:List aS):l9 a 0 l=l:=by apply gz;intro n;unfold l9;rw[pD];cases l[n]? with|none=>rfl|some x=>simp
def Ss(a:List (List Bool))(l:List aS):l9 a l.length l=gf l a:=by apply gz;intro n;unfold l9 gf;rw[pD,pD];cases h:l[n]? with|none=>rfl|some x=>have:=(aD.1 h).1;simp[this]
def Ie(a:List (List Bool))(i:Nat)(l:List aS):(l9 a i l).length=l.length:=by unfold l9;exact List.length_mapIdx
def Qp{a:List (List Bool)} {i:Nat} {l:List aS} {x:aS}(h:l[i]?=some x):l9 a (i+1) l=(l9 a i l).set i {x with cC:=a.getD i []}:=by apply gz;intro n;rw[gV,Ie];unfold l9;rw[pD,pD];by_cases e:i=n;(·subst e;have:=(aD.1 h).1;rw[if_pos rfl,if_pos this,h];simp);rw[if_neg e];cases l[n]? with|none=>rfl|some y=>have:n<i+1↔n<i:=ac;simp only[du,this]
def St{a:List (List Bool)} {i:Nat} {l:List aS} {x:aS}(h:l[i]?=some x):(l9 a i l)[i]?=some x:=by unfold l9;rw[pD,h];simp
def J7{T:List aS} {i:Nat} {x:aS}(h:T[i]?=some x)(b:List Bool)(z:aP):(eK (bV T)++z).set (i*14+13) (.val (.aa 1 (eU b)))=eK (bV (T.set i {x with cC:=b}))++z:=by
 have j:=(aD.1 h).1;have e:T=T.take i++(x::T.drop (i+1)):=by rw[<-(aD.1 h).2,List.getElem_cons_drop,hB]
 have g:T.set i {x with cC:=b}=T.take i++({x with cC:=b}::T.drop (i+1)):=by rw[List.set_eq_take_append_cons_drop,if_pos j]
 have d:(eK (bV (T.take i))).length=i*14:=by rw[vl (m:=14) (λ y k=>by obtain⟨r,_,rfl⟩:=a_.1 k;rfl)];simp[bV];omega
 rw[g];conv=>lhs;rw[e]
 have f:∀(a:List aS)(y:aS)(c:List aS),bV (a++y::c)=bV a++([lV y]++bV c):=λ a y c=>by simp[bV]
 rw[f,f,ob,ob,ob,ob];generalize eK (bV (T.take i))=a at d;generalize eK (bV (T.drop (i+1)))=c;rw[dV,jg _ _ ac,d,show i*14+13-i*14=13 by omega,dV,dV,dV];rfl
def KN{A:dF} {E:Env}(a:A=ay E){t:TypeId}(d:(E.T t).agg=false)(i:(E.T t).size=1){id n off:Nat} {cs:aP} {v:ah}(hv:v.one=true){st:ai} {K:ah->ai->Prop}(f:st.ag[id]?=some (some cs))(g:n*14+off<cs.length)(c:∀B,B=st.ag.set id (some (cs.set (n*14+off) v))->K .undef {st with ag:=B}):A.qM t (.gv id 0 n 14 off) v st K:=by refine yV a ?_;show a'.go (lX E t (.box id (0+n*14+off)) v st) K;unfold lX;simp only[cl,f,e4,d,i,hn,hv,and_self,if_true,la,if_false];exact⟨g,c _ rfl⟩
def to:af:=.agg (List.replicate 14 .any)
theorem H1:∀k:Nat,List.replicate (k*14) (ah.val .any)=eK (List.replicate k to) |0=>rfl|k+1=>by rw[m8,show to::List.replicate k to=[to]++List.replicate k to from rfl,ob,<-H1 k,mz,ld,<-yr];rfl
def Kt:FuncId->Bool:=λ n=>n==5000000+67
def H2(t:aE)(ss:List aw)(rl:List aA)(l:List aS){bl rs ls ss' cs ws ms ks:am} {bq:Int}(bj:bl=b2 ss)(bi:rs=bd rl)(E:ls=bV l)(bm:bD t=.agg [ab bq,.aa 5 ss',.aa 3 cs,.aa 3 ws,.aa 1 ms,.aa 6 ks]):aB 39 [.agg [.aa 3 bl,.aa 6 rs,.aa 14 ls,ab bq,.aa 5 ss',.aa 3 cs,.aa 3 ws,.aa 1 ms,.aa 6 ks]] (.bf [if fK t ss rl l=0 then .agg [.aa 3 bl,.aa 6 rs,.aa 14 (bV (gf l (fo t ss rl l)))]else .agg [.aa 0 [],.aa 0 [],.aa 0 []],ab (fK t ss rl l)]):=by
 refine wo (a6:=Kt) (rows:=true) gd Tryz.func39 rfl (cL Tryz.func39) (λ A q P Z bu bE c i S=>?_);have f:=Eb t ss rl l bj bi E;rw[bm]at f;unfold va at f;have ay:(fo t ss rl l).length=l.length:=by simp[fo]
 have W:fK t ss rl l=0->l.length<=1000000:=λ h=>by (have Q:mN t ss rl l=0:=by unfold fK at h;split at h;(·exact h);rename_i w;exact il.1 w);have w:=sD (BG Q).1;omega
 generalize fK t ss rl l=aO at f i W;generalize fo t ss rl l=j at f i ay;have bB:ls.length=l.length:=by rw[E];simp[bV]
 conv=>cbv
 by_cases he:aO=0;·rw[if_pos he]at f i;unfold u' at f;obtain⟨ae,X⟩:=aC (j.map λ r=>af.aa 1 (eU r));rw[<-X]at f;refine aJ c f ?_;split;(next g=>exact absurd he (b3 c g));by_cases I:l=[];(·(have bo:ls=[]:=by rw[E,I];rfl);subst bo;(have bh:bV (gf l j)=[]:=by rw[I];rfl);rw[bh,he]at i;(conv=>cbv);refine ij c (caps:=[]) (cF.flags (Gg [] aN rfl _ (qU _ _))) (λ br aM bs aL h=>?_);obtain⟨K,H,ad,U⟩:=h;subst K H ad U;(have a':A.aH []=0:=by subst c;rfl);refine cp (b6 c (λ(a:Int)s=>s.put (some 35) (au a)) (λ a=>a=0) (λ _=>0) 0 ?_ ?_ ?_);(·exact ba);(·rfl);rintro aK a rfl T;refine dD (λ g=>?_) λ _=>?_;(·cases((show False by have:=a7 c rfl a' g;omega)));refine cp (S _ _ (aZ.refl _) ⟨_,bJ.refl _ _,?_⟩);(conv=>cbv);exact i);refine cp (ij c (caps:=[]) (cF.flags (Py l I (W he) E _ (qU _ _))) (λ br aM bs aL h=>?_));obtain⟨cap,k,K,H,bA,ad,U⟩:=h;obtain⟨an,ap,L,D⟩:=b_ (eK ls++List.replicate k (.val .any)) l.length;rw[<-ap]at H;rw[<-D]at K;subst K H ad U;have aq:A.ck L=(L:Int):=pc c _;(have be:j.length=L:=by rw[D];exact ay);(have bx:L<=1000000:=by rw[D];exact W he);obtain⟨Y,G⟩:=aC (bV (gf l j));rw[<-G]at i;(have bC:ae.length=L:=by rw[X,cE,be]);obtain⟨bt,bw⟩:=aC an;refine cp (b6 c (λ(z:Int×aP×Bool)s=>{s with sl:=((((((List.replicate 51 (ah.val .any)).set 1 (.box 0 0)).set 2 (.box 1 0)).set 4 (.val (.aa 1 ae))).set 34 (au (A.ck L))).set 35 (.val (ab z.1))),ag:=[some [.val (.aa 3 bl),.val (.aa 6 rs),(match z.2.2 with|true=>.val (.aa 14 Y) |false=>.row 2 0 14 L cap),au bq,.val (.aa 5 ss'),.val (.aa 3 cs),.val (.aa 3 ws),.val (.aa 1 ms),.val (.aa 6 ks)],some [.lit 0 [],.lit 0 [],.lit 0 []],(match z.2.2 with|true=>none|false=>some z.2.1)]}) (λ z=>0<=z.1/\z.1<=L/\z.2.1=eK (bV (l9 j z.1.toNat l))++List.replicate k (.val .any)/\z.2.2=decide (z.1=(L:Int))) (λ z=>(L-z.1).toNat) (0,an,false) ?_ ?_ ?_);(·(conv=>cbv);exact cT);(·refine⟨bk _,ac,?_,?_⟩;(·rw[ap,E];show _=eK (bV (l9 j 0 l))++_;rw[Re]);symm;refine bT (λ h=>I (hp ?_));simp only at h;omega);rintro aK⟨a,B,aR⟩⟨O,Q,w,R⟩T;simp only at O Q w R;cases aR with|false=>(have av:a<L:=by have:=of_decide_eq_false R.symm;omega);refine hf (λ g=>?_) λ _=>?_;(·cases((show False by have:=bc c rfl aq g;omega)));obtain⟨x,aF⟩:∃x,l[a.toNat]?=some x:=⟨_,aQ ac⟩;have d:A.ak a 1=a+1:=bv c _ _;have aY:A.bS (A.ak a 1):=a1 c d aW;(conv=>cbv);refine⟨cK c bb,?_⟩;refine gj c (l:=j) (enc:=λ r=>af.aa 1 (eU r)) X.symm (n:=a) O ac (λ r bg=>?_);obtain⟨aG,az⟩:=aC (eU r);rw[<-az];have ar:A.cj a=a.toNat:=r0 c _;(have aU:a.toNat*14+13<B.length:=by rw[w,bO,vl (m:=14) (λ y bp=>by obtain⟨r,_,rfl⟩:=a_.1 bp;rfl)];simp only[bV,cE,Ie];omega);(conv=>cbv);refine⟨?_,KN c (n:=A.cj a) rfl rfl rfl rfl (by rw[ar];exact aU) (λ aI C=>?_)⟩;(·subst c;show 0<=a/\a<(L:Int);exact⟨O,av⟩);rw[ar]at C;(have J:B.set (a.toNat*14+13) (.val (.aa 1 aG))=eK (bV (l9 j (A.ak a 1).toNat l))++List.replicate k (.val .any):=by rw[w,az,show r=j.getD a.toNat []by rw[cl,bg];rfl,d,show(a+1).toNat=a.toNat+1 by omega,Qp aF];exact J7 (St aF) _ _);obtain⟨o,aT⟩:=aC (B.set (a.toNat*14+13) (.val (.aa 1 aG)));rw[<-aT]at C J;(conv=>cbv);refine⟨aY,?_⟩;have C:aI=[some [.val (.aa 3 bl),.val (.aa 6 rs),.row 2 0 14 L cap,au bq,.val (.aa 5 ss'),.val (.aa 3 cs),.val (.aa 3 ws),.val (.aa 1 ms),.val (.aa 6 ks)],some [.lit 0 [],.lit 0 [],.lit 0 []],some o]:=C;subst C;by_cases V:a+1=L;(·refine T (A.ak a 1,o,true) _ ?_ ⟨by rw[d];omega,by rw[d];omega,J,(bz (by rw[d];exact V)).symm⟩ (by rw[d];omega);obtain⟨M,a8⟩:∃M,k=M*14:=⟨k/14,ac⟩;(have aX:Y.length=L:=by rw[G,D];unfold bV gf;rw[cE,List.length_mapIdx]);(have ao:o=eK (Y++List.replicate M to):=by rw[ob,<-H1,<-a8,J,d,V,da,D,Ss,G]);obtain⟨p,F⟩:=aC (Y++List.replicate M to);(have aV:L<=p.length:=by rw[F,bO];omega);(have bn:qf 2 14 p (.row 2 0 14 L cap)=.val (.aa 14 Y):=by show ly 2 14 p (.row 2 0 14 L cap)=_;unfold ly;simp only;rw[if_pos ⟨trivial,trivial,trivial,aV⟩,F,nd aX]);rw[<-F]at ao;obtain⟨i2,ax⟩:=aC (A.ak a 1);rw[<-ax];refine aZ.trans _ ⟨((((((List.replicate 51 (ah.val .any)).set 1 (.box 0 0)).set 2 (.box 1 0)).set 4 (.val (.aa 1 ae))).set 34 (au (A.ck L))).set 35 (au i2)),[some [.val (.aa 3 bl),.val (.aa 6 rs),.row 2 0 14 L cap,au bq,.val (.aa 5 ss'),.val (.aa 3 cs),.val (.aa 3 ws),.val (.aa 1 ms),.val (.aa 6 ks)],some [.lit 0 [],.lit 0 [],.lit 0 []],some o],[],⟨[],0⟩⟩ _ ?_ (.r5 _ _ (.Di 2 14 o p _ _ _ _ rfl ao ?_ ?_));(·rw[ax];(conv=>cbv);exact cT);(·intro x aD;rw[F]at aD;rcases dH.1 aD with h|h;(·rw[G]at h;obtain⟨r,_,rfl⟩:=a_.1 h;rfl);rw[(oM.1 h).2];rfl);(have e:∀aj al N,ai.x' ⟨aj,[some [.val (.aa 3 bl),.val (.aa 6 rs),.row 2 0 14 L cap,au bq,.val (.aa 5 ss'),.val (.aa 3 cs),.val (.aa 3 ws),.val (.aa 1 ms),.val (.aa 6 ks)],some [.lit 0 [],.lit 0 [],.lit 0 []],some o],al,N⟩ 2 14 p=⟨aj.map (ly 2 14 p),[some [.val (.aa 3 bl),.val (.aa 6 rs),.val (.aa 14 Y),au bq,.val (.aa 5 ss'),.val (.aa 3 cs),.val (.aa 3 ws),.val (.aa 1 ms),.val (.aa 6 ks)],some [.lit 0 [],.lit 0 [],.lit 0 []],none],al,N⟩:=λ aj al N=>by unfold ai.x';simp only[List.set,eS,List.map_nil,Option.map,bn];rfl);rw[e];exact bJ.refl _ _);refine T (A.ak a 1,o,false) _ ?_ ⟨by rw[d];omega,by rw[d];omega,J,(bT (by rw[d];exact V)).symm⟩ (by rw[d];omega);(conv=>cbv);exact cT|true=>have av:a=L:=fD R.symm;(conv=>cbv);split;(next g=>cases((show False by have:=a7 c rfl aq g;omega)));refine cp (S _ _ (aZ.refl _) ⟨_,bJ.refl _ _,?_⟩);(conv=>cbv);rw[<-i,he]
 rw[if_neg he]at f i;refine aJ c f ?_;split;rotate_left;next g=>exact absurd (db c g) he
 refine cp (S _ _ (aZ.refl _) ⟨_,bJ.refl _ _,?_⟩);(conv=>cbv);exact i
def Su(x:aS)(n:Int):aB 92 [lV x,.ptr [ab n] 0] (.bool (decide (x.an.b0=n))):=by
 refine aY Tryz.func92 (λ A q P Y j f g=>?_);obtain⟨⟨f1,f2,f3,f4,f5,⟨f6,f7⟩,f8⟩,⟨k,l,m,o⟩,ps,i⟩:=x;obtain⟨v1,a⟩:∃v,v=av f5:=⟨_,rfl⟩;obtain⟨v2,c⟩:∃v,v=cn ps:=⟨_,rfl⟩;obtain⟨v3,d⟩:∃v,v=eU i:=⟨_,rfl⟩;unfold lV;simp only;rw[<-a,<-c,<-d];conv=>cbv
 rw[<-g];have h:A.cV f1 n=decide (f1=n):=by subst f;rfl
 exact congrArg af.bool h
def zv(l:List aS)(n:Int){bl rs ls ss' cs ws ms ks:am} {bq:Int}(f:ls=bV l):aB 48 [.agg [.aa 3 bl,.aa 6 rs,.aa 14 ls,ab bq,.aa 5 ss',.aa 3 cs,.aa 3 ws,.aa 1 ms,.aa 6 ks],ab n] (ab (ev (λ x=>decide (x.an.b0=n)) l)):=by refine aY Tryz.func48 (λ A q P Y g d c=>?_);have a:=D_ (λ x=>decide (x.an.b0=n)) l (caps:=[.ptr [ab n] 0]) f (λ x _=>Su x n);generalize ev (λ x:aS=>decide (x.an.b0=n)) l=i at a c;refine aJ d a ?_;exact c
def Na(s:aw){bl rs ls ss' cs ws ms ks:am} {bq:Int} :aB 123 [iw s,.ptr [.aa 3 bl,.aa 6 rs,.aa 14 ls,ab bq,.aa 5 ss',.aa 3 cs,.aa 3 ws,.aa 1 ms,.aa 6 ks] 0] (.bool (!hE bq s)):=by refine aY Tryz.func123 (λ A q P Y j a d=>?_);have h:=Ea bq s;have he:zC bq s=if hE bq s then 0 else 220:=rfl;rw[he]at h;generalize hE bq s=b at h d;obtain⟨vs,k,i⟩:=s;unfold iw at h⊢;simp only at h⊢;obtain⟨xs,g⟩:=aC (av vs);rw[<-g]at h⊢;obtain⟨e,c⟩:=aC (if b=true then 0 else 220:Int);rw[<-c]at h;refine aJ a h ?_;rw[<-d];(have f:A.fi (A.cV e 0)=!b:=by subst a;rw[c];cases b<;>rfl);exact congrArg af.bool f
def FD(f1 f2 f3 f6 f7 a c d:Int)(f4:ByteArray)(f8 f:Bool)(v1 v2 v3:am):aB 50 [.agg [ab f1,ab f2,ab f3,.str f4,.aa 1 v1,ab f6,ab f7,.bool f8,ab a,ab c,ab d,.bool f,.aa 2 v2,.aa 1 v3]] (.fn 94 [.ptr [ab f1,ab f2,ab f3,.str f4,.aa 1 v1,ab f6,ab f7,.bool f8,ab a,ab c,ab d,.bool f,.aa 2 v2,.aa 1 v3] 0]):=by refine aY Tryz.func50 (λ A q P Y j i g=>?_);exact cp g
open Go.Lib
def fe(l:List aS)(n:Int):Int:=ev (λ x=>decide (x.an.b0=n)) l
def nA(bq:Int)(ss:List aw):Bool:=decide (ss.length<=4)&&!(ss.any λ s=>!hE bq s)
def xM(q r:aA):Bool:=!(decide (r.aw<q.aw) || (decide (q.aw=r.aw)&&decide (r.aX<=q.aX)))
def n0(many:Int):Option aA->List aA->Bool|_,[]=>true|p,r::a=>(dj many r&&(match p with|none=>true|some q=>xM q r))&&n0 many (some r) a
def kk(many:Int)(l:List aA):Bool:=n0 many none l&&decide (l.length<=1024)
def sJ(t:aE)(x:aS):Bool:=!x.Option.Cancel&&(decide (lh t x.an x.Option=0)&&(decide (cJ t x.an x.Option=0)&&decide (bM t x.an x.Option=x.bt)))
def hS(t:aE)(L:List aS):Int->List aS->Bool|_,[]=>true|a,x::r=>(decide (fe L x.an.b0=a)&&sJ t x)&&hS t L (a+1) r
def jy(t:aE)(L:List aS):Bool:=decide (L.length<=12)&&hS t L 0 L
def wW(t:aE)(ss:List aw)(rl:List aA)(l:List aS):Bool:=decide (fK t ss rl l=0)&&decide (fo t ss rl l=l.map (·.cC))
def Ap(t:aE)(k:bx):Bool:=nA t.aU k.bw&&(kk k.bw.length k.bg&&(jy t k.aG&&wW t k.bw k.bg k.aG))
def j5(t:aE)(k:bx):Int:=if ea t=true then(if Ap t k=true then 0 else 250)else 140
def gX:bx:=⟨[],[],[]⟩
def l_(t:aE)(k:bx):Int:=fK t k.bw k.bg k.aG
def jC(t:aE)(k:bx):bx:=⟨k.bw,k.bg,gf k.aG (fo t k.bw k.bg k.aG)⟩
def kV(k:bx)(r:aA):bx:=⟨k.bw,dh k.bg r,k.aG⟩
def ez(t:aE)(k:bx)(r:aA):Int:=if j5 t k≠0 then j5 t k else if jU k.bw.length r≠0 then jU k.bw.length r else if fv k.bg r≠0 then fv k.bg r else l_ t (kV k r)
def dk(t:aE)(k:bx)(r:aA):bx:=if ez t k r=0 then jC t (kV k r)else gX
def ii(t:aE)(k:bx)(f:an)(o:bW):bx:=⟨k.bw,k.bg,k.aG++[⟨f,o,bM t f o,[]⟩]⟩
def eY(t:aE)(k:bx)(f:an)(o:bW):Int:=if j5 t k≠0 then j5 t k else if hA t f≠0 then hA t f else if o.Cancel=true\/0<=fe k.aG f.b0 then 250 else if k.aG.length=12 then 2 else if lh t f o≠0 then lh t f o else if cJ t f o≠0 then cJ t f o else l_ t (ii t k f o)
def cw(t:aE)(k:bx)(f:an)(o:bW):bx:=if eY t k f o=0 then jC t (ii t k f o)else gX
def e8(x:aS):List be:=((x.bt.zip x.cC).filter (·.2)).map (·.1)
def k1(t:aE)(m:Int)(p:be):aI:=((eb t p).filter λ s=>!s.iv&&(decide (s.df.b4<=m)&&decide (m<s.df.b5))).map (·.Index)
def kM(t:aE)(x:aS)(m:Int):aI:=(e8 x).flatMap (k1 t m)
def qh(l:aI):aI:=l.mergeSort λ x y=>decide (x<=y)
def gM(t:aE)(x:aS)(m:Int):aI:=compactUpTo (qh (kM t x m)).toArray (qh (kM t x m)).length
def H3{q r:aA}:xM q r=true↔dN q.aw q.aX r.aw r.aX<0:=by have:=kz q.aw q.aX r.aw r.aX;simp only[xM,iT,qP,m7,we];omega
def EB(many:Int):∀(l:List aA)(p:Option aA),n0 many p l=true↔(∀x∈l,dj many x=true)/\hM l/\∀q,p=some q->∀x∈l,dN q.aw q.aX x.aw x.aX<0| [],p=>by simp[n0,hM] |r::l,p=>by unfold n0;rw[bP,bP,EB many l (some r)];constructor;(·rintro⟨⟨d,c⟩,f,k,i⟩;refine⟨λ x a=>?_,mx.2 ⟨λ x a=>i r rfl x a,k⟩,λ q g x a=>?_⟩;(·rcases cM.1 a with rfl|a;(·exact d);exact f x a);subst g;have j:=H3.1 c;rcases cM.1 a with rfl|a;(·exact j);exact nW j (nR (i r rfl x a)));rintro⟨d,c,f⟩;have c:=mx.1 c;refine⟨⟨d r ec,?_⟩,λ x a=>d x (dt _ a),c.2,λ q g x a=>?_⟩;(·cases p with|none=>rfl|some q=>exact H3.2 (f q rfl r ec));cases g;exact c.1 x a
def kd{many:Int} {l:List aA}:kk many l=true↔(∀x∈l,dj many x=true)/\hM l/\l.length<=1024:=by unfold kk;rw[bP,EB,decide_eq_true_iff];exact⟨λ⟨⟨a,c,_⟩,d⟩=>⟨a,c,d⟩,λ⟨a,c,d⟩=>⟨⟨a,c,λ q f=>by cases f⟩,d⟩⟩
def wX{a b:Int} {r:aA}(h:dj a r=true)(c:a<=b)(d:b<=4):dj b r=true:=by have:=oT.1 h;refine oT.2 ⟨ac,ac,this.2.2.1,ac,this.2.2.2.2⟩
def FE:∀(l:List aA)(p:Option aA),(∀x∈l,dj 4 x=true)->hM l->(∀q,p=some q->∀x∈l,dN q.aw q.aX x.aw x.aX<0)->nk p l=true| [],_,_,_,_=>rfl|r::l,p,d,a,f=>by have a:=mx.1 a;unfold nk;rw[FE l (some r) (λ x c=>d x (dt _ c)) a.2 (λ q g x c=>by cases g;exact a.1 x c),d r ec];cases p with|none=>rfl|some q=>simp[bz (f q rfl r ec)]
def NN{many:Int} {l:List aA}(h:kk many l=true)(f:many<=4):ko l=true:=by obtain⟨a,c,d⟩:=kd.1 h;unfold ko;rw[FE l none (λ x i=>wX (a x i) f ac) c (λ q g=>by cases g),bz d];rfl
def wv{l:List aA}(n:hM l)(r:aA):(∀(k:Nat)(x:aA),k<fA l r.aw r.aX->l[k]?=some x->dN x.aw x.aX r.aw r.aX<0)/\(∀(k:Nat)(x:aA),fA l r.aw r.aX<=k->l[k]?=some x->0<=dN x.aw x.aX r.aw r.aX):=by induction l with|nil=>exact⟨λ k x _ h=>by simp at h,λ k x _ h=>by simp at h⟩ |cons a l f=>have j:=mx.1 n;have f:=f j.2;by_cases d:dN a.aw a.aX r.aw r.aX<0;(·(have e:fA (a::l) r.aw r.aX=fA l r.aw r.aX+1:=by unfold fA;rw[List.countP_cons_of_pos (by exact bz d)]);rw[e];refine⟨λ k x ae c=>?_,λ k x ae c=>?_⟩;(·cases k with|zero=>cases c;exact d|succ k=>exact f.1 k x ac (by simpa using c));cases k with|zero=>omega|succ k=>exact f.2 k x ac (by simpa using c));(have i:∀x∈l,0<=dN x.aw x.aX r.aw r.aX:=λ x c=>by have m:=j.1 x c;rcases Int.lt_or_le (dN x.aw x.aX r.aw r.aX) 0 with g|g;(·exact absurd (nW m (nR g)) d);exact g);(have e:fA (a::l) r.aw r.aX=0:=by unfold fA;rw[List.countP_eq_zero];intro x c;rcases cM.1 c with rfl|c;(·simpa using d);have:=i x c;simp;omega);rw[e];refine⟨λ k x ae=>absurd ae ac,λ k x _ c=>?_⟩;cases k with|zero=>cases c;omega|succ k=>exact i x (aT (by simpa using c))
def mJ{a b c d:Int}:dN a b c d=0↔a=c/\b=d:=by have:=kz a b c d;omega
def u3{l:List aA}(f:hM l)(r:aA):fZ l r.aw r.aX=true↔∃x∈l,x.aw=r.aw/\x.aX=r.aX:=by
 obtain⟨n,o⟩:=wv f r;unfold fZ;constructor;·intro h;split at h;(next x c=>exact⟨x,aT c,mJ.1 (fD h)⟩);cases h
 rintro⟨x,c,j,m⟩;obtain⟨k,ae⟩:=e9 c;have i:dN x.aw x.aX r.aw r.aX=0:=mJ.2 ⟨j,m⟩;have d:fA l r.aw r.aX<=k:=by rcases eM k (fA l r.aw r.aX)with h|h;(·have:=n k x h ae;omega);exact h
 have a:fA l r.aw r.aX<l.length:=Nat.lt_of_le_of_lt d (aD.1 ae).1;rw[aQ a];refine bz ?_;have g:=o _ _ (a8 _) (aQ a);rcases eM (fA l r.aw r.aX) k with h|h;·have:=pJ f (aQ a) ae h;have:=nW this (Int.le_of_eq i);omega
 have e:fA l r.aw r.aX=k:=Nat.le_antisymm d h;have p:l[fA l r.aw r.aX]?=some x:=by rw[e];exact ae
 rw[bC ((aQ a).symm.trans p)];exact i
def Qq{l:List aA} {r:aA}(m:ko l=true)(o:dj 4 r=true)(j:r∈l):fv l r=0/\dh l r=l:=by have i:=(AQ m).1;have n:fZ l r.aw r.aX=true:=(u3 i r).2 ⟨r,j,rfl,rfl⟩;refine⟨?_,by rw[dh,if_pos n]⟩;have c:=n;unfold fZ at c;unfold fv;rw[if_neg (by rw[m];simp),if_neg (by rw[o];simp)];split;(next x a=>rw[a]at c;have f:=fD c;rw[if_pos f];have k:=mJ.1 f;(have:x=r:=by obtain⟨p,d⟩:=e9 j;rcases kE p (fA l r.aw r.aX)with g|g|g;(·have:=pJ i d a g;rw[mJ.2 ⟨k.1.symm,k.2.symm⟩]at this;omega);(·rw[g]at d;exact bC (a.symm.trans d));have:=pJ i a d g;rw[f]at this;omega);rw[if_pos (nU.2 this)]);rename_i a;rw[a]at c;cases c
def ra{st:List (List (List bH))} {calls:List ByteArray} {rl:List aA} {aV:az} {a:List aI}:ns st calls rl aV a=true↔∃c∈a,∃p∈dB (fC st),gy st calls rl aV p c=true:=by unfold ns;simp only[c1]
def pY{t:aE} {ss:List aw} {rl:List aA} {l:List aS}:mN t ss rl l=0↔mb t l=0/\ss.length<=4/\rl.length<=1024/\(∀s∈ss,hE t.aU s=true)/\∀r∈rl,dj ss.length r=true:=by
 refine⟨BG,λ⟨c,g,i,d,f⟩=>?_⟩;unfold mN mR;rw[if_neg (by rw[c];simp),if_neg];rintro(h|h|h|h);·omega
 ·omega
 ·obtain⟨s,a,h⟩:=c1.1 h;rw[d s a]at h;cases h
 obtain⟨s,a,h⟩:=c1.1 h;rw[f s a]at h;cases h
def k'{t:aE} {ss:List aw} {rl:List aA} {l:List aS}:fK t ss rl l=0↔mN t ss rl l=0/\rP t l=false/\ns (dP t l) (c_ l) rl (h0 ss) (dI ss)=true:=by unfold fK;constructor;(·intro h;split at h;(·exact absurd h (by assumption));rename_i a;split at h;(·cases h);rename_i c;split at h;(next d=>exact⟨il.1 a,by simpa using c,d⟩);cases h);rintro⟨a,c,d⟩;rw[if_neg (by rw[a];simp),if_neg (by rw[c];simp),if_pos d]
def eo(x:aS):aS:=⟨x.an,x.Option,x.bt,[]⟩
def q8(l:List aS):c_ (l.map eo)=c_ l:=by unfold c_;rw[dv];rfl
def rb(t:aE)(l:List aS):dP t (l.map eo)=dP t l:=by unfold dP;rw[dv];rfl
def PM(t:aE)(l:List aS):mb t (l.map eo)=mb t l:=by unfold mb;rw[cE,lS];rfl
def yz(t:aE)(ss:List aw)(rl:List aA)(l:List aS):fK t ss rl (l.map eo)=fK t ss rl l:=by unfold fK mN rP;rw[PM,q8,rb]
def FF(t:aE)(ss:List aw)(rl:List aA)(l:List aS):fo t ss rl (l.map eo)=fo t ss rl l:=by unfold fo;rw[q8,rb,cE];refine gm λ n _=>?_;rw[bm,Option.map_map];rfl
def AU(l:List aS)(n:Int):fe (l.map eo) n=fe l n:=by unfold fe ev;rw[List.findIdx?_map];rfl
theorem D5(t:aE)(L L':List aS)(h:∀n,fe L' n=fe L n):∀(l:List aS)(i:Int),hS t L' i (l.map eo)=hS t L i l| [],_=>rfl|x::l,i=>by rw[eS,hS,hS,D5 t L L' h l,h];rfl
def EC(t:aE)(l:List aS):jy t (l.map eo)=jy t l:=by unfold jy;rw[cE,D5 t l (l.map eo) (AU l)]
def pM(l:List aS)(a:List (List Bool)):(gf l a).map eo=l.map eo:=by unfold gf;apply gz;intro n;rw[bm,pD,bm];cases l[n]?<;>rfl
def rc(l:List aS)(a:List (List Bool)):(gf l a).length=l.length:=by unfold gf;exact List.length_mapIdx
def uD{l:List aS} {a:List (List Bool)} {n:Nat} {x:aS}(h:l[n]?=some x):(gf l a)[n]?=some ⟨x.an,x.Option,x.bt,a.getD n []⟩:=by unfold gf;rw[pD,h];rfl
def NO{l:List aS} {a:List (List Bool)}(h:a.length=l.length):(gf l a).map (·.cC)=a:=by apply gz;intro n;rw[bm];cases c:l[n]? with|none=>have d:=q0.1 c;rw[eL (by rw[rc];exact d),eL ac];rfl|some x=>have d:=(aD.1 c).1;rw[uD c];show some (a.getD n [])=_;rw[cl,aQ ac];rfl
def Qr(t:aE)(ss:List aw)(rl:List aA)(l:List aS):(fo t ss rl l).length=l.length:=by simp[fo]
def n1{t:aE} {ss:List aw} {rl:List aA} {l:List aS} {i:Nat} {x:aS}(a:l[i]?=some x):(fo t ss rl l)[i]?=some ((List.range x.bt.length).map λ k=>hO (dP t l) (c_ l) rl (h0 ss) (dI ss) i k):=by unfold fo;rw[bm,m9 (aD.1 a).1];simp only[du,a,e4]
def NP(t:aE)(ss:List aw)(rl:List aA)(l:List aS)(a:List (List Bool)):fK t ss rl (gf l a)=fK t ss rl l/\fo t ss rl (gf l a)=fo t ss rl l/\jy t (gf l a)=jy t l/\c_ (gf l a)=c_ l/\dP t (gf l a)=dP t l/\∀n,fe (gf l a) n=fe l n:=by
 have e:=pM l a;refine⟨?_,?_,?_,?_,?_,λ n=>?_⟩;·rw[<-yz,e,yz]
 ·rw[<-FF,e,FF]
 ·rw[<-EC,e,EC]
 ·rw[<-q8,e,q8]
 ·rw[<-rb,e,rb]
 rw[<-AU,e,AU]
structure dg(t:aE)(k:bx):Prop where
 nF:ea t=true
 mn:nA t.aU k.bw=true
 mg:kk k.bw.length k.bg=true
 pn:jy t k.aG=true
 err:fK t k.bw k.bg k.aG=0
 cur:fo t k.bw k.bg k.aG=k.aG.map (·.cC)
def iR{t:aE} {k:bx}:j5 t k=0↔dg t k:=by unfold j5 Ap wW;constructor;(·intro h;split at h;(·split at h;(next c a=>simp only[bP,bX]at a;exact⟨c,a.1,a.2.1,a.2.2.1,a.2.2.2.1,a.2.2.2.2⟩);cases h);cases h);intro h;rw[if_pos h.nF,if_pos];simp only[bP,bX];exact⟨h.mn,h.mg,h.pn,h.err,h.cur⟩
def dg.new{t:aE} {k:bx}(l:ea t=true)(g:nA t.aU k.bw=true)(i:kk k.bw.length k.bg=true)(j:jy t k.aG=true)(f:l_ t k=0):dg t (jC t k):=by obtain⟨a,c,d,_⟩:=NP t k.bw k.bg k.aG (fo t k.bw k.bg k.aG);refine⟨l,g,i,d.trans j,a.trans f,c.trans ?_⟩;exact(NO (Qr _ _ _ _)).symm
def sw{bq:Int} {ss:List aw}(h:nA bq ss=true):ss.length<=4:=by unfold nA at h;rw[bP,bX]at h;exact h.1
def dg.z6{t:aE} {k:bx}(h:dg t k):ko k.bg=true:=NN h.mg (by have:=sw h.mn;omega)
def xi{t:aE} {k:bx} {r:aA}(a:dg t k)(c:dj k.bw.length r=true)(d:fv k.bg r=0):ez t k r=l_ t (kV k r):=by unfold ez;rw[if_neg (by rw[iR.2 a];simp),if_neg (by unfold jU;rw[if_pos c];simp),if_neg (by rw[d];simp)]
def Qs{t:aE} {k:bx}(h:dg t k):jC t k=k:=by obtain⟨g,f,d⟩:=k;have c:=h.cur;simp only at c;unfold jC;simp only;congr 1;apply gz;intro n;cases a:d[n]? with|none=>rw[eL (by rw[rc];exact q0.1 a)] |some x=>rw[uD a,c,cl,bm,a];rfl
def BM{t:aE} {k:bx} {r:aA}(h:dg t k)(d:dj k.bw.length r=true)(i:r∈k.bg):ez t k r=0/\dk t k r=k:=by
 have j:=sw h.mn;obtain⟨f,g⟩:=Qq h.z6 (wX d ac ac) i;have a:kV k r=k:=by unfold kV;rw[g]
 have c:ez t k r=0:=by rw[xi h d f,a];exact h.err
 refine⟨c,?_⟩;unfold dk;rw[if_pos c,a,Qs h]
def Ed{d:Array Int} {v:Int}:∀(m:Nat),v∈compactUpTo d m↔∃a,a<m/\d[a]! =v|0=>by simp[compactUpTo] |m+1=>by rw[compactUpTo_succ,dH,Ed m];constructor;(·rintro(⟨a,c,e⟩ |h);(·exact⟨a,ac,e⟩);split at h;(·rw[dG]at h;exact⟨m,ac,h.symm⟩);cases h);rintro⟨a,c,e⟩;by_cases h:a<m;(·exact .inl ⟨a,h,e⟩);have f:a=m:=ac;subst f;by_cases ae:keeps d a=true;(·right;rw[if_pos ae,dG];exact e.symm);left;unfold keeps at ae;rw[decide_eq_true_iff]at ae;have g:a≠0:=λ h=>ae (.inl h);exact⟨a-1,ac,by rw[<-il.1 λ h=>ae (.inr h)];exact e⟩
def A9{t:aE} {x:aS} {m v:Int}:v∈gM t x m↔v∈kM t x m:=by
 unfold gM;rw[Ed];have f:v∈qh (kM t x m)↔v∈kM t x m:=by unfold qh;exact(List.mergeSort_perm _ _).mem_iff
 rw[<-f];generalize qh (kM t x m)=d;constructor;·rintro⟨c,a,e⟩;rw[<-e,getElem!_pos d.toArray c (by simpa using a)];simp
 intro h;obtain⟨c,a,e⟩:=pC.1 h;refine⟨c,a,?_⟩;rw[getElem!_pos d.toArray c (by simpa using a)];simpa using e
def Gm{t:aE} {x:aS} {m v:Int}:v∈kM t x m↔∃p∈e8 x,∃s∈eb t p,s.iv=false/\s.df.b4<=m/\m<s.df.b5/\s.Index=v:=by unfold kM k1;simp only[uj,a_,eR,bP,iT,bX];constructor;(·rintro⟨p,i,s,⟨a,c,d,f⟩,g⟩;exact⟨p,i,s,a,c,d,f,g⟩);rintro⟨p,i,s,a,c,d,f,g⟩;exact⟨p,i,s,⟨a,c,d,f⟩,g⟩
def wC{x:aS} {p:be}:p∈e8 x↔∃a:Nat,x.bt[a]?=some p/\x.cC[a]?=some true:=by unfold e8;simp only[a_,eR];constructor;(·rintro⟨⟨q,b⟩,⟨d,c⟩,rfl⟩;simp only at c;subst c;obtain⟨a,f⟩:=e9 d;rw[qY]at f;exact⟨a,f⟩);rintro⟨a,d,c⟩;exact⟨(p,true),⟨aT (qY.2 ⟨d,c⟩),rfl⟩,rfl⟩
def LH{α:Type} {p:α->Bool} {l:List α} {i:Nat} {z:α}(h:l[i]?=some z)(c:p z=true):(l.filter p)[((l.take i).filter p).length]?=some z:=by
 have e:l=l.take i++z::l.drop (i+1):=by rw[<-(aD.1 h).2,List.getElem_cons_drop,hB]
 have a:l.filter p=(l.take i).filter p++z::(l.drop (i+1)).filter p:=by (conv=>lhs;rw[e]);rw[qR,List.filter_cons_of_pos c]
 rw[a,b1 (a8 _),iU];rfl
def Lu{α:Type} {p:α->Bool} {l:List α} {i:Nat} {z:α}(h:l[i]?=some z):((l.take (i+1)).filter p).length=((l.take i).filter p).length+(if p z=true then 1 else 0):=by rw[fX,h,qR,bO];congr 1;by_cases a:p z=true<;>simp[a]
def vD(c:List be)(a:List Bool):List be:=((c.zip a).filter (·.2)).map (·.1)
def tp(c:List be)(a:List Bool)(i:Nat):Nat:=(((c.zip a).take i).filter (·.2)).length
def Gn(f1 f2 f3 f6 f7 af ah ai:Int)(f4:ByteArray)(f8 aj:Bool)(v1 v2 v3:am)(d:List be)(f:List Bool)(N:v2=cn d)(O:v3=eU f)(ar:d.length<=1000000):l3 Tryz.prog 94 [.ptr [ab f1,ab f2,ab f3,.str f4,.aa 1 v1,ab f6,ab f7,.bool f8,ab af,ab ah,ab ai,.bool aj,.aa 2 v2,.aa 1 v3] 0] ((vD d f).map λ p=>[dw p]):=by
 refine uU (a6:=λ n=>false) (rows:=false) gd Tryz.func94 rfl (cL Tryz.func94) rfl (λ A P Y aq y al av Q ad c j=>?_);have L:v2.length=d.length:=by rw[N];simp[cn]
 have U:v3.length=f.length:=by rw[O];simp[eU]
 have C:Y.cQ.length=(vD d f).length:=by rw[Q];simp
 rw[cE]at j;have W:(vD d f).length=tp d f (min d.length f.length):=by unfold vD tp;rw[cE,eD (by rw[mC];omega)]
 have S:∀(a:Nat)(p:be),d[a]?=some p->f[a]?=some true->Y.cQ[tp d f a]?=some [dw p]:=λ a p l o=>by have:=LH (p:=λ z:be×Bool=>z.2) (z:=(p,true)) (qY.2 ⟨l,o⟩) rfl;rw[Q,bm];unfold vD tp;rw[bm,this];rfl
 have R:∀(a:Nat)(p:be)(b:Bool),d[a]?=some p->f[a]?=some b->tp d f (a+1)=tp d f a+(if b=true then 1 else 0):=λ a p b l o=>Lu (p:=λ z:be×Bool=>z.2) (z:=(p,b)) (qY.2 ⟨l,o⟩);rw[W]at j C;obtain⟨n,M⟩:=aC (min d.length f.length);rw[<-M]at j C;have D:A.tz (A.aH v2) (A.aH v3)=(n:Int):=by rw[ap c L,ap c U,M];subst c;simp only[ay];omega
 have F:A.kx v2 0 (A.tz (A.aH v2) (A.aH v3))=cn (d.take n):=by rw[D,N];subst c;simp[ay,cn,List.map_take]
 have G:A.aH (A.kx v2 0 (A.tz (A.aH v2) (A.aH v3)))=(n:Int):=by rw[F];exact ap c (by simp[cn];omega)
 have au:n<=1000000:=ac;conv=>cbv
 refine⟨?_,?_⟩;·(have:A.sl 0 (A.tz (A.aH v2) (A.aH v3)) (A.aH v2):=by rw[D,ap c L];subst c;simp only[ay];omega);exact this
 refine b6 c (λ(z:Int×Nat)s=>{s.put (some 16) (.val (ab z.1))with ao:=⟨s.ao.mp,z.2⟩}) (λ z=>0<=z.1/\z.1<=n/\z.2=tp d f z.1.toNat) (λ z=>(n-z.1).toNat) (0,0) ?_ ?_ ?_;·exact ba
 ·exact⟨bk _,ac,rfl⟩
 rintro an⟨a,k⟩⟨x,T,ae⟩E;simp only at x T ae;refine oF (λ i=>?_) λ i=>?_;·(have J:a=n:=by have:=bc c rfl G i;omega);exact j _ (.inl (by show k=_;rw[ae,J,da]))
 have J:a<n:=a7 c rfl G i;have g:A.ak a 1=a+1:=bv c _ _;have K:A.bS (A.ak a 1):=a1 c g aW;refine mE c F x (by rw[dQ];omega) (λ p ts B Z=>?_);rw[yt ac]at B;conv=>cbv
 refine w8 c O x ac (λ b H=>?_);have X:(A.ak a 1).toNat=a.toNat+1:=by rw[g];omega
 have w:=R _ _ _ B H;rw[<-X]at w;cases b with|true=>have I:=S _ _ B H;rw[<-ae,kb p Z]at I;refine cp (oQ c rfl ad I ?_ (λ m V=>?_));(·refine dD (λ i=>?_) λ _=>?_;(·cases((show False by have t:true=false:=e1 c i;cases t)));refine⟨K,E (A.ak a 1,k+1) _ ?_ ⟨by rw[g];omega,by rw[g];omega,by rw[w,ae];rfl⟩ (by rw[g];omega)⟩;(conv=>cbv);exact cb (ag:=[]) (bE:=[_]) (mp:=[]) (bQ:=[]));refine hf (λ i=>?_) λ _=>?_;(·cases((show False by have t:false=true:=eV c i;cases t)));exact j _ (.inr (by rw[V,C])) |false=>(conv=>cbv);refine⟨K,E (A.ak a 1,k) _ ?_ ⟨by rw[g];omega,by rw[g];omega,by rw[w,ae];rfl⟩ (by rw[g];omega)⟩;(conv=>cbv);exact cb (ag:=[]) (bE:=[_]) (mp:=[]) (bQ:=[])
def rA(l:List be):af:=if l=[]then .aa 0 []else .aa 2 (cn l)
def PN{f:FuncId} {caps:am}(l:List be)(H:l.length<=1000000)(C:l3 Tryz.prog f caps (l.map λ c=>[dw c])):aB 93 [.aa 0 [],.fn f caps] (rA l):=by
 refine aY Tryz.func93 (λ A q P Y I d w=>?_);refine cp (pO d C (λ x j=>?_) (λ(y:ah×bo)s=>{s with ag:=s.ag.set 0 (some [y.1]),tk:=y.2}) (λ k y=>(k=0/\y=(.val (.aa 0 []),[]))\/(k≠0/\y=(.own 0 2 (cn (l.take k)),[((cn (l.take k)).length,74)]))) (.val (.aa 0 []),[]) (λ _=>rfl) ?_ ?_ ?_ ?_);·obtain⟨J,_,rfl⟩:=a_.1 j;rfl
 ·exact ba
 ·exact .inl ⟨rfl,rfl⟩
 ·intro E k y x j m t;rw[bm,ke]at j;obtain⟨⟨a,ts⟩,p,rfl⟩:=j;obtain⟨b,n⟩:=aC (av ts);rw[kb ⟨a,ts⟩ n];(have z:dw ⟨a,ts⟩=.agg [ab a,.aa 1 b]:=by rw[n];rfl);have G:k<l.length:=(aD.1 p).1;rcases m with⟨rfl,rfl⟩ | ⟨ae,rfl⟩;(·(have o:A.room (A.bp [.agg [ab a,.aa 1 b]]) 32:=by subst d;show 1*(32+1)<=140737488355328;omega);(conv=>cbv);refine⟨o,t (.own 0 2 [.agg [ab a,.aa 1 b]],[(A.bp [.agg [ab a,.aa 1 b]],74)]) _ ?_ (.inr ⟨ac,?_⟩)⟩;(·(conv=>cbv);exact cb (ag:=[_]) (bE:=[_]) (mp:=[]) (bQ:=[]) (by repeat(first|refine dW ?_|refine eQ ?_|exact eA)) (a8 _) (.inl rfl) rfl rfl);rw[fX,p];subst d n;rfl);obtain⟨L,g⟩:=aC (cn (l.take k));(have F:L.length<=1000000:=by rw[g];simp[cn];omega);(have B:L.length=A.bp L:=by subst d;rfl);(have D:A.j' (A.bp L) (A.bp L):=by subst d;rfl);(have o:A.room (A.bp (A.bn L [.agg [ab a,.aa 1 b]])) 32:=by subst d;show(L++[_]).length*(32+1)<=140737488355328;rw[bO,e0];omega);rw[<-g,B];(conv=>cbv);refine⟨⟨D,o⟩,t (.own 0 2 (A.bn L [.agg [ab a,.aa 1 b]]),[(A.bp (A.bn L [.agg [ab a,.aa 1 b]]),74)]) _ ?_ (.inr ⟨ac,?_⟩)⟩;(·(conv=>cbv);exact cb (ag:=[_]) (bE:=[_]) (mp:=[]) (bQ:=[]) (by repeat(first|refine dW ?_|refine eQ ?_|exact eA)) (a8 _) (.inl rfl) rfl rfl);(have e:A.bn L [.agg [ab a,.aa 1 b]]=cn (l.take (k+1)):=by rw[g,fX,p];subst d;show cn _++_=_;simp[cn];exact z.symm);rw[e];subst d;rfl
 intro y m;rw[cE]at m;rcases m with⟨i,rfl⟩ | ⟨i,rfl⟩;·(conv=>cbv);rw[<-w,rA,if_pos (hp i)]
 rw[gO];obtain⟨L,g⟩:=aC (cn l);rw[<-g];conv=>cbv
 rw[<-w,rA,if_neg (by intro h;rw[h]at i;exact i rfl),g]
def Sv{f:FuncId} {caps:am}(l:List be)(g:l.length<=1000000)(i:l3 Tryz.prog f caps (l.map λ c=>[dw c])):aB 49 [.fn f caps] (rA l):=by refine aY Tryz.func49 (λ A q P Y j d a=>?_);have h:=PN l g i;generalize rA l=r at h a;refine aJ d h ?_;rw[<-a]
def s3(bl:am):aB 29 [.aa 3 bl] (.agg [.aa 3 bl,.aa 0 [],.aa 0 []]):=by refine aY Tryz.func29 (λ A q P Y d c a=>?_);exact cp a
end Go.Abs
