/- Contracts of the functions: part 13. -/
import Derived.Test.YtimomgiieilmkaaGreatQ10
set_option linter.all false
set_option maxRecDepth 20000
set_option maxHeartbeats 4000000
namespace Go.Abs
open Go.Proofs Go.RowKit
def zP:FuncId->Bool:=λ n=>n==2000000+30
def Pu(l:List aA)(y:l.length<=1000000){xs:am}(p:xs=bd l)(pre:br)(n:pre≠[]):cF ⟨Tryz.prog,cW,zP,true,.none⟩ 82 [.val (.aa 6 xs)] pre [] ⟨[],0⟩ (λ r j s i=>r=.own 0 6 xs/\j=pre/\s=[(l.length,35)]/\i=⟨[],0⟩):=by
 refine jM (a6:=zP) (rows:=true) gd Tryz.func82 rfl (cL Tryz.func82) (λ h=>absurd (hp (congrArg Prod.fst h)) n) (λ A t x C w a B c=>?_);have g:xs.length=l.length:=by rw[p];simp[bd]
 conv=>cbv
 refine⟨λ h=>?_,?_⟩;·(conv=>cbv);subst h;have k:l.length=0:=g.symm;refine c _ ⟨_,.own 0 6 [],aZ.own _ pre [] ⟨[],0⟩ 2 0 6 [] 35 rfl (.inr rfl),.inr (.inl ⟨2,rfl,rfl⟩),rfl,rfl,?_,rfl⟩;rw[k];rfl
 conv=>cbv
 have d:A.bn [] xs=xs:=by subst a;rfl
 have m:A.bp xs=l.length:=by rw[<-g];subst a;rfl
 have f:A.bp (A.bn [] xs)=l.length:=by rw[d,m]
 have o:A.room (A.bp (A.bn [] xs)) 56:=by rw[f];subst a;show l.length*(56+1)<=140737488355328;omega
 exact⟨o,c _ ⟨_,.own 0 6 (A.bn [] xs),aZ.refl _,.inr (.inl ⟨2,rfl,rfl⟩),congrArg (ah.own 0 6) d,rfl,congrArg (λ z=>[(z,35)]) f,rfl⟩⟩
def Pv(l:List aA)(r:aA)(I:l.length<=1000000){xs:am}(m:xs=bd l){n:Int}(J:n=l.length)(pre:br)(x:pre≠[]):cF ⟨Tryz.prog,cW,zP,true,.none⟩ 81 [.own 0 6 xs,au n,.lit 6 [ey r]] pre [(l.length,35)] ⟨[],0⟩ (λ D s E p=>D=.own 0 6 (bd (l++[r]))/\s=pre/\E=[(l.length+1,35)]/\p=⟨[],0⟩):=by
 refine jM (a6:=zP) (rows:=true) gd Tryz.func81 rfl (cL Tryz.func81) (λ h=>absurd (hp (congrArg Prod.fst h)) x) (λ A F H M G a K i=>?_);have o:xs.length=l.length:=by rw[m];simp[bd]
 obtain⟨L,d⟩:=aC l.length;rw[<-d]at i⊢;obtain⟨c,g⟩:=aC ([ey r]);rw[<-g];have C:A.aH c=1:=by rw[g];subst a;rfl
 have w:A.aH xs=(l.length:Int):=ap a o;conv=>cbv
 refine⟨?_,?_⟩;·subst a;show 0<=n/\n<=(xs.length:Int)/\(xs.length:Int)<=xs.length;omega
 split;next f=>cases((show False by have t:((1:Int))=0:=jp a C rfl f;omega))
 refine hf (λ f=>?_) λ _=>?_;·cases((show False by have t:=iF a rfl w f;omega))
 have j:A.bn xs c=bd (l++[r]):=by rw[m,g];subst a;show bd l++_=_;simp[bd]
 have k:A.bp (A.bn xs c)=L+1:=by rw[j,d];subst a;show(bd (l++[r])).length=_;simp[bd]
 have y:A.room (A.bp (A.bn xs c)) 56:=by rw[k,d];subst a;show(l.length+1)*(56+1)<=140737488355328;omega
 have B:L=A.bp xs:=by rw[d,<-o];subst a;rfl
 conv=>cbv
 refine⟨⟨?_,y⟩,i _ ⟨_,.own 0 6 (A.bn xs c),aZ.refl _,.inr (.inl ⟨6,rfl,rfl⟩),congrArg (ah.own 0 6) j,rfl,congrArg (λ z=>[(z,35)]) k,rfl⟩⟩;subst a;exact B
def eK(xs:am):aP:=(xs.flatMap af.cells).map ah.val
def ob(a b:am):eK (a++b)=eK a++eK b:=by simp[eK]
def vl{m:Nat}:∀{xs:am},(∀x∈xs,x.cells.length=m)->(eK xs).length=xs.length*m| [],_=>(q4 m).symm|x::xs,h=>by have:=vl (xs:=xs) λ y c=>h y (dt _ c);have a:=h x ec;unfold eK at this⊢;rw[jt,gh,bO,this,cE,a,fY,mz,ld]
def zQ:FuncId->Bool:=λ n=>n==14000000||n==1000011||n==3001108||n==1000015||n==3001508
def IL{A:dF} {E:Env}(c:A=ay E){ts e:TypeId}(ae:(E.T ts).k=.slice e){d:Nat}(o:(E.T e).size=d)(j:0<d)(s:(E.T e).zero.length=d)(i:(E.T e).bytes+1<=10000000){xs:am}(p:xs≠[])(l:xs.length<=1000000){m:Nat}(w:∀x∈xs,x.cells.length=d){st:ai} {K:ah->ai->Prop}(f:∀cap k id n B,xs.length*d+k=cap*d->id=st.ag.length->n=xs.length->B=st.ag++[some (eK xs++List.replicate k (.val .any))]->K (.row id 0 d n cap) {st with ag:=B}):A.nG [ts,ts] [.lit m [],.val (.aa d xs)] st K:=by refine wz c ?_;unfold jS;have g:xs.length*((E.T e).bytes+1)<=140737488355328:=eg (py l i) aN;simp only[ae,ah.elems,o];refine⟨trivial,trivial,p,j,s,?_⟩;refine⟨.inr rfl,by simpa using g,λ cap a t=>?_⟩;have:=f cap ((cap-xs.length)*d) _ _ _ (by simp at a;rw[Nat.sub_mul];exact Nat.add_sub_cancel' (iV d a)) rfl rfl rfl;simp only[ai.h2,so,oJ,hn];exact this
def Pw(l:List aA)(s:l≠[])(C:l.length<=1000000){xs:am}(c:xs=bd l)(pre:br)(E:pre≠[]):cF ⟨Tryz.prog,cW,zQ,true,.none⟩ 82 [.val (.aa 6 xs)] pre [] ⟨[],0⟩ (λ r g t f=>∃cap k,r=.row pre.length 0 6 l.length cap/\g=pre++[some (eK xs++List.replicate k (.val .any))]/\l.length*6+k=cap*6/\t=[]/\f=⟨[],0⟩):=by
 refine jM (a6:=zQ) (rows:=true) gd Tryz.func82 rfl (cL Tryz.func82) (by intro h;rfl) (λ A w z F y i D m=>?_);have a:xs.length=l.length:=by rw[c];simp[bd]
 have d:xs≠[]:=λ h=>s (hp (by rw[<-a,h];rfl));conv=>cbv
 refine⟨λ h=>?_,?_⟩;·cases(show False from d h)
 conv=>cbv
 refine IL i (e:=35) rfl rfl aN rfl aN d ac (λ x h=>?_) (λ cap k id n B o hid p j=>?_);·rw[c]at h;obtain⟨r,_,rfl⟩:=a_.1 h;rfl
 conv=>cbv
 exact m _ ⟨_,.row id 0 6 n cap,aZ.refl _,.inr (.inl ⟨2,rfl,rfl⟩),cap,k,by rw[hid,p,a],j,by rw[<-a];exact o,rfl,rfl⟩
section
variable{A:dF} {E:Env}
def JY(l:A=ay E){ts t2 e:TypeId}(ae:(E.T ts).k=.slice e){D:IntKind}(w:(E.T t2).k=.int D){d:Nat}(z:(E.T e).size=d)(t:0<d)(C:(E.T e).zero.length=d)(p:(E.T e).bytes+1<=10000000){id len cap:Nat} {k:Int} {q:Nat}(y:k=q)(G:0<q)(x:len+q<=1000000)(s:cap<len+q){a b:aP} {st:ai}(o:st.ag[id]?=some (some (a++b)))(f:a.length=len*d){K:ah->ai->Prop}(m:∀c g n i B,len+q<=c->n=len+q->g=st.ag.length->len*d+i=c*d->B=st.ag++[some (a++List.replicate i (.val .any))]->K (.row g 0 d n c) {st with ag:=B}):A.nG [ts,t2] [.row id 0 d len cap,au k] st K:=by refine Pf l ?_;subst y;unfold vf;simp only[ae,w,z,da];refine⟨trivial,t,C,ac,eg (py x p) aN,s,a++b,by rw[cl,o];rfl,by rw[bO,f];omega,λ c j F=>?_⟩;have:=m c _ _ ((c-len)*d) _ j rfl rfl (by rw[Nat.sub_mul];exact Nat.add_sub_cancel' (iV d ac)) rfl;rw[q1,nd f];exact this
def DT(m:A=ay E){ts t2 e:TypeId}(ae:(E.T ts).k=.slice e){d:Nat}(y:(E.T e).size=d)(t:0<d){id off len cap:Nat} {f:am}(z:f≠[])(C:(eK f).length=f.length*d)(w:f.length<=len){a b c:aP} {st:ai}(p:st.ag[id]?=some (some (a++b++c)))(g:a.length=off)(s:b.length=f.length*d)(x:off+len*d<=(a++b++c).length){K:ah->ai->Prop}(o:∀n B,B=st.ag.set id (some (a++eK f++c))->K (au n) {st with ag:=B}):A.xU [ts,t2] [.row id off d len cap,.lit d f] st K:=by
 refine G6 m ?_;unfold o2;simp only[ae,y];refine⟨trivial,t,a++b++c,by rw[cl,p];rfl,x,.inr ⟨f,rfl,z,?_⟩⟩;rw[pw w];have i:((f.flatMap af.cells).take (f.length*d)).map ah.val=eK f:=by rw[List.map_take];exact eD (by rw[show(List.map ah.val (f.flatMap af.cells)).length=_ from C];exact a8 _)
 have j:(a++b++c).take off=a:=by rw[dV];exact nd g
 have l:(a++b++c).drop (off+f.length*d)=c:=List.drop_left' (by rw[bO,g,s]);rw[i,j,l];exact o _ _ (by rw[dV])
def DU(w:A=ay E){ts t2 e:TypeId}(ae:(E.T ts).k=.slice e){d:Nat}(L:(E.T e).size=d)(G:0<d){id off len cap l i j m q:Nat}(J:min j len=q){a b c g f c':aP} {st:ai}(z:st.ag[id]?=some (some (a++b++c)))(o:a.length=off)(D:b.length=q*d)(H:off+len*d<=(a++b++c).length)(C:st.ag[l]?=some (some (g++f++c')))(y:g.length=i)(F:f.length=q*d)(I:i+j*d<=(g++f++c').length){K:ah->ai->Prop}(x:∀n B,B=st.ag.set id (some (a++f++c))->K (au n) {st with ag:=B}):A.xU [ts,t2] [.row id off d len cap,.row l i d j m] st K:=by
 refine G6 w ?_;unfold o2;simp only[ae,L];refine⟨trivial,G,a++b++c,by rw[cl,z];rfl,H,.inl ⟨l,i,j,m,g++f++c',rfl,by rw[cl,C];rfl,I,?_⟩⟩;rw[J];have p:((g++f++c').drop i).take (q*d)=f:=by rw[dV,List.drop_left' y,nd F]
 have s:(a++b++c).take off=a:=by rw[dV];exact nd o
 have t:(a++b++c).drop (off+q*d)=c:=List.drop_left' (by rw[bO,o,D]);rw[p,s,t];exact x _ _ (by rw[dV])
end
def ig(l:List aA)(i:Nat)(r:aA):List aA:=l.take i++r::l.drop i
def Px(l:List aA)(r:aA)(bK:l.length<=100000){xs:am}(aS:xs=bd l){i:Int}(bI:0<=i)(bp:i<l.length)(pre:br)(aO:pre≠[]){cap k id:Nat}(bo:l.length*6+k=cap*6)(hid:id=pre.length):cF ⟨Tryz.prog,cW,zQ,true,.none⟩ 81 [.row id 0 6 l.length cap,au i,.lit 6 [ey r]] (pre++[some (eK xs++List.replicate k (.val .any))]) [] ⟨[],0⟩ (λ bz aV bA aU=>∃C s aT aB,pre≠[]/\(∃t,aB=pre++t)/\bz=.row C 0 6 (l.length+1) s/\C=aB.length/\aV=aB++[some (eK (bd (ig l i.toNat r))++List.replicate aT (.val .any))]/\(l.length+1)*6+aT=s*6/\bA=[]/\aU=⟨[],0⟩):=by
 refine jM (a6:=zQ) (rows:=true) gd Tryz.func81 rfl (cL Tryz.func81) (by intro h;rfl) (λ A bC bE bR bD f aM ad=>?_);have bN:xs.length=l.length:=by rw[aS];simp[bd]
 obtain⟨L,bl⟩:=aC l.length;rw[<-bl]at ad bo bp⊢;obtain⟨B,N⟩:=aC (pre++[some (eK xs++List.replicate k (.val .any))]);rw[<-N]at⊢;have O:B[id]?=some (some (eK xs++List.replicate k (.val .any))):=by rw[N,hid,b1 (a8 _),iU];rfl
 obtain⟨g,R⟩:=aC ([ey r]);rw[<-R];have aw:A.aH g=1:=by rw[R];subst f;rfl
 have aq:A.ck L=(L:Int):=pc f _;have I:A.ak (A.ck L) (A.aH g)=L+1:=by rw[aw,aq];exact bv f _ _
 have aF:A.ck cap=(cap:Int):=pc f _;conv=>cbv
 refine⟨?_,?_⟩;·subst f;show(0<=i/\i<=(L:Int)/\(L:Int)<=L)/\0<=i/\i<(cap:Int);omega
 split;next F=>cases((show False by have w:((1:Int))=0:=jp f aw rfl F;omega))
 refine dD (λ F=>?_) λ _=>?_;·cases((show False by have w:=jp f rfl aq F;omega))
 obtain⟨c,o⟩:∃c:Nat,i=c:=⟨i.toNat,ac⟩;rw[o,da]at ad;have bH:c<L:=ac;have bM:A.bL (A.ck L) i=((L-c:Nat):Int):=by rw[aq,gZ f];omega
 have aR:A.bL (A.ak (A.ck L) (A.aH g)) i=((L+1-c:Nat):Int):=by rw[I,gZ f];omega
 have E:A.ak i (A.aH g)=((c+1:Nat):Int):=by rw[aw,bv f];omega
 have H:∀n:Nat,A.cj (n:Int)=n:=λ n=>by rw[r0 f];exact da n
 have ab:∀n:Nat,A.jG 0 (n:Int) 6=n*6:=λ n=>by subst f;show 0+(n:Int).toNat*6=_;rw[da];omega
 have ax:g≠[]:=by rw[R];exact qU _ _
 have Q:g.length=1:=by rw[R];rfl
 have aI:∀x:List aA,∀p∈bd x,p.cells.length=6:=λ x p ai=>by obtain⟨r,_,rfl⟩:=a_.1 ai;rfl
 have ae:(eK g).length=g.length*6:=vl λ p ai=>by rw[R]at ai;rw[dG.1 ai];rfl
 obtain⟨j,af,m,ag⟩:=b_ (eK (bd (l.take c))) (eK (bd (l.drop c)));have y:j.length=c*6:=by rw[af,vl (aI _)];simp[bd];omega
 have K:m.length=(L-c)*6:=by rw[ag,vl (aI _)];simp[bd];omega
 have aJ:eK xs=j++m:=by rw[aS,af,ag,<-ob,<-hB c l];congr 1;simp[bd]
 have aP:j++eK g++m=eK (bd (ig l c r)):=by rw[af,ag,R,<-ob,<-ob];congr 1;simp[bd,ig]
 rw[aJ]at O N;clear aJ af ag;conv=>cbv
 refine⟨a1 f I aW,?_⟩;split;next F=>have bn:(cap:Int)<L+1:=a7 f aF I F;(conv=>cbv);refine⟨?_,a1 f I aW,a1 f aR aW,?_⟩;(·subst f;show 0<=(0:Int)/\(0:Int)<=i/\i<=(cap:Int);omega);refine JY f (e:=35) rfl rfl rfl aN rfl aN (q:=L+1-c) aR ac (by show A.cj i+_<=_;rw[o,H];omega) (by show _<A.cj i+_;rw[o,H];omega) (a:=j) (b:=m++List.replicate k (.val .any)) (by rw[<-dV];exact O) (by show _=A.cj i*6;rw[o,H];exact y) (λ s C n S Z aG aL bq aK aE=>?_);(have aG:c+(L+1-c)<=s:=by have w:A.cj i+(L+1-c)<=s:=aG;rw[o,H]at w;exact w);(have aL:n=c+(L+1-c):=by have w:n=A.cj i+(L+1-c):=aL;rw[o,H]at w;exact w);(have aK:c*6+S=s*6:=by have w:A.cj i*6+S=s*6:=aK;rw[o,H]at w;exact w);have ar:n=L+1:=ac;(have bm:A.cj i=c:=by rw[o];exact H c);(have D:A.jG 0 i 6=c*6:=by rw[o];exact ab c);(have V:A.jG 0 (A.ak i (A.aH g)) 6=(c+1)*6:=by rw[E];exact ab _);(have M:A.cj (A.bL (A.ck n) i)=L+1-c:=by rw[pc f,gZ f,ar,o,r0 f];omega);(have X:A.cj (A.bL (A.ck n) (A.ak i (A.aH g)))=L-c:=by rw[pc f,gZ f,ar,E,r0 f];omega);(have aQ:A.cj (A.bL (A.ck L) i)=L-c:=by rw[pc f,gZ f,o,r0 f];omega);(have aj:A.sl i (A.ck n) (A.ck n)/\A.within i (A.ck s):=by subst f;show(0<=i/\i<=(n:Int)/\(n:Int)<=n)/\0<=i/\i<(s:Int);omega);(have al:A.sl (A.ak i (A.aH g)) (A.ck n) (A.ck n)/\A.within (A.ak i (A.aH g)) (A.ck s):=by rw[E];subst f;show(0<=((c+1:Nat):Int)/\((c+1:Nat):Int)<=(n:Int)/\(n:Int)<=n)/\0<=((c+1:Nat):Int)/\((c+1:Nat):Int)<(s:Int);omega);(have bx:A.sl i (A.ck L) (A.ck L)/\A.within i (A.ck cap):=by subst f;show(0<=i/\i<=(L:Int)/\(L:Int)<=L)/\0<=i/\i<(cap:Int);omega);(have bG:B.length=id+1:=by rw[N,hid];simp);obtain⟨G,bs⟩:∃G,S=6+(L-c)*6+G:=⟨S-(6+(L-c)*6),ac⟩;obtain⟨bB,bF⟩:=aC (B++[some (j++eK g++List.replicate ((L-c)*6+G) (.val .any))]);have W:C=B.length:=bq;(have ba:Z[C]?=some (some (j++List.replicate 6 (.val .any)++List.replicate ((L-c)*6+G) (.val .any))):=by rw[show Z=B++[some (j++List.replicate S (.val .any))]from aE,W,b1 (a8 _),iU,bs,dV,yr,pE];rfl);(conv=>cbv);refine⟨aj,?_⟩;refine DT f (e:=35) (d:=6) rfl rfl aN ax ae (by rw[Q];show 1<=A.cj (A.bL (A.ck n) i);rw[M];omega) ba (by show _=A.jG 0 i 6;rw[D];exact y) (by rw[Q];simp) (by show A.jG 0 i 6+A.cj (A.bL (A.ck n) i)*6<=_;rw[D,M];rw[bO,bO,lQ,lQ,y];omega) (λ bQ T bh=>?_);(have an:T=B++[some (j++eK g++List.replicate ((L-c)*6+G) (.val .any))]:=by rw[show T=Z.set C _ from bh,show Z=B++[some (j++List.replicate S (.val .any))]from aE,W,jg _ _ (a8 _),iU];rfl);(have be:T[C]?=some (some (j++eK g++List.replicate ((L-c)*6) (.val .any)++List.replicate G (.val .any))):=by rw[an,W,b1 (a8 _),iU,dV (j++eK g),yr];rfl);(have bf:T[id]?=some (some (j++m++List.replicate k (.val .any))):=by rw[an,bu ac];exact O);(conv=>cbv);refine⟨by subst f;rfl,a1 f E aW,al,bx,?_⟩;refine DU f (e:=35) (d:=6) (q:=L-c) rfl rfl aN (by show min (A.cj (A.bL (A.ck L) i)) (A.cj (A.bL (A.ck n) (A.ak i (A.aH g))))=_;rw[X,aQ];exact Nat.min_self _) be (by show _=A.jG 0 (A.ak i (A.aH g)) 6;rw[V,bO,y,ae,Q];omega) (by rw[lQ]) (by show A.jG 0 (A.ak i (A.aH g)) 6+A.cj (A.bL (A.ck n) (A.ak i (A.aH g)))*6<=_;rw[V,X];simp only[bO,lQ,y,ae,Q];omega) bf (by show _=A.jG 0 i 6;rw[D];exact y) K (by show A.jG 0 i 6+A.cj (A.bL (A.ck L) i)*6<=_;rw[D,aQ];simp only[bO,lQ,y,K];omega) (λ n5 J ao=>?_);(have aa:J=B++[some (eK (bd (ig l c r))++List.replicate G (.val .any))]:=by rw[show J=T.set C (some (j++eK g++m++List.replicate G (.val .any)))from ao,an,W,jg _ _ (a8 _),iU,aP];rfl);(conv=>cbv);exact ad _ ⟨_,.row C 0 6 n s,aZ.refl _,.inr (.inl ⟨6,rfl,rfl⟩),C,s,G,B,aO,⟨_,N⟩,by rw[ar],W,aa,ac,rfl,rfl⟩
 rename_i F;have bn:(L:Int)+1<=cap:=bc f aF I F;have bJ:6<=k:=ac;have U:A.cj (A.ak (A.ck L) (A.aH g))=L+1:=by rw[I,r0 f];omega
 have bm:A.cj i=c:=by rw[o];exact H c
 have D:A.jG 0 i 6=c*6:=by rw[o];exact ab c
 have V:A.jG 0 (A.ak i (A.aH g)) 6=(c+1)*6:=by rw[E];exact ab _
 have M:A.cj (A.bL (A.ck (A.cj (A.ak (A.ck L) (A.aH g)))) i)=L+1-c:=by rw[U,pc f,gZ f,o,r0 f];omega
 have X:A.cj (A.bL (A.ck (A.cj (A.ak (A.ck L) (A.aH g)))) (A.ak i (A.aH g)))=L-c:=by rw[U,pc f,gZ f,E,r0 f];omega
 have aj:A.sl i (A.ck (A.cj (A.ak (A.ck L) (A.aH g)))) (A.ck (A.cj (A.ak (A.ck L) (A.aH g))))/\A.within i (A.ck cap):=by rw[U];subst f;show(0<=i/\i<=((L+1:Nat):Int)/\((L+1:Nat):Int)<=((L+1:Nat):Int))/\0<=i/\i<(cap:Int);omega
 have al:A.sl (A.ak i (A.aH g)) (A.ck (A.cj (A.ak (A.ck L) (A.aH g)))) (A.ck (A.cj (A.ak (A.ck L) (A.aH g))))/\A.within (A.ak i (A.aH g)) (A.ck cap):=by rw[U,E];subst f;show(0<=((c+1:Nat):Int)/\((c+1:Nat):Int)<=((L+1:Nat):Int)/\((L+1:Nat):Int)<=((L+1:Nat):Int))/\0<=((c+1:Nat):Int)/\((c+1:Nat):Int)<(cap:Int);omega
 have bw:A.sl 0 (A.ak (A.ck L) (A.aH g)) (A.ck cap):=by rw[I];subst f;show 0<=(0:Int)/\(0:Int)<=(L:Int)+1/\(L:Int)+1<=(cap:Int);omega
 obtain⟨z,ay⟩:=aC ((m++List.replicate k (ah.val .any)));have bP:z.length=(L-c)*6+k:=by rw[ay,bO,lQ,K]
 have az:(z.take 6).length=6:=by rw[dQ];omega
 have av:j++m++List.replicate k (ah.val .any)=(j++z.take 6)++(z.drop 6).take ((L-c)*6)++List.replicate (k-6) (ah.val .any):=by (have aY:(z.drop 6).drop ((L-c)*6)=List.replicate (k-6) (ah.val .any):=by rw[sp,ay,ld,<-sp,List.drop_left' K,List.drop_replicate]);(have a':z.take 6++((z.drop 6).take ((L-c)*6)++(z.drop 6).drop ((L-c)*6))=z:=by rw[hB,hB]);rw[<-aY,dV j m,<-ay,dV (j++z.take 6),dV j (z.take 6),a']
 have bk:B[id]?=some (some ((j++z.take 6)++(z.drop 6).take ((L-c)*6)++List.replicate (k-6) (ah.val .any))):=by rw[<-av];exact O
 have bt:((z.drop 6).take ((L-c)*6)).length=(L-c)*6:=by rw[dQ,ju];omega
 have ap:(j++m++List.replicate k (ah.val .any)).length=c*6+(L-c)*6+k:=by rw[bO,bO,lQ,y,K]
 have aM:B=pre++[some ((j++z.take 6)++(z.drop 6).take ((L-c)*6)++List.replicate (k-6) (ah.val .any))]:=by rw[<-av];exact N
 conv=>cbv
 refine⟨a1 f I aW,bw,a1 f E aW,al,?_⟩;refine Pe f ⟨_,30,_,35,Tryz.func147,rfl,rfl,rfl,rfl,rfl,aN,_,id,_,6,_,_,6,g,_,rfl,rfl,ax,aN,by rw[cl,O];rfl,?_,?_⟩;·intro aX;have:=congrArg List.length aX;rw[ap]at this;simp only[oJ]at this;omega
 refine hf (λ F=>?_) λ _=>?_;·cases((show False by have w:false=true:=eV f F;cases w))
 conv=>cbv
 refine⟨uN f bb,a1 f E aW,al,aj,?_⟩;refine DU f (e:=35) (d:=6) (q:=L-c) rfl rfl aN (by show min (A.cj (A.bL (A.ck (A.cj (A.ak (A.ck L) (A.aH g)))) i)) (A.cj (A.bL (A.ck (A.cj (A.ak (A.ck L) (A.aH g)))) (A.ak i (A.aH g))))=_;rw[M,X];omega) bk (by show _=A.jG 0 (A.ak i (A.aH g)) 6;rw[V,bO,y,az];omega) bt (by show A.jG 0 (A.ak i (A.aH g)) 6+A.cj (A.bL (A.ck (A.cj (A.ak (A.ck L) (A.aH g)))) (A.ak i (A.aH g)))*6<=_;rw[V,X,<-av,ap];omega) O (by show _=A.jG 0 i 6;rw[D];exact y) K (by show A.jG 0 i 6+A.cj (A.bL (A.ck (A.cj (A.ak (A.ck L) (A.aH g)))) i)*6<=_;rw[D,M,ap];omega) (λ n5 J ao=>?_);have aa:J=pre++[some (j++z.take 6++(m++List.replicate (k-6) (ah.val .any)))]:=by rw[<-dV,show J=B.set id (some (j++z.take 6++m++List.replicate (k-6) (ah.val .any)))from ao,aM,hid,jg _ _ (a8 _),iU];rfl
 have bg:J[id]?=some (some (j++z.take 6++(m++List.replicate (k-6) (ah.val .any)))):=by rw[aa,hid,b1 (a8 _),iU];rfl
 conv=>cbv
 refine⟨aj,?_⟩;refine DT f (e:=35) (d:=6) rfl rfl aN ax ae (by rw[Q];show 1<=A.cj (A.bL (A.ck (A.cj (A.ak (A.ck L) (A.aH g)))) i);rw[M];omega) bg (by show _=A.jG 0 i 6;rw[D];exact y) (by rw[Q];exact az) (by show A.jG 0 i 6+A.cj (A.bL (A.ck (A.cj (A.ak (A.ck L) (A.aH g)))) i)*6<=_;rw[D,M];simp only[bO,lQ,y,K,az];omega) (λ n6 aD bi=>?_);have bj:aD=pre++[some (eK (bd (ig l c r))++List.replicate (k-6) (.val .any))]:=by rw[show aD=J.set id (some (j++eK g++(m++List.replicate (k-6) (ah.val .any))))from bi,aa,hid,jg _ _ (a8 _),iU,<-aP,dV (j++eK g)];rfl
 conv=>cbv
 exact ad _ ⟨_,.row id 0 6 (A.cj (A.ak (A.ck L) (A.aH g))) cap,aZ.refl _,.inr (.inl ⟨6,rfl,rfl⟩),id,cap,k-6,pre,aO,⟨[],(gA _).symm⟩,by rw[U],hid,bj,ac,rfl,rfl⟩
def CI:FuncId->Bool:=λ n=>n==2000000+31
def Gg(l:List aS)(y:l.length<=1000000){xs:am}(p:xs=bV l)(pre:br)(n:pre≠[]):cF ⟨Tryz.prog,cW,CI,true,.none⟩ 67 [.val (.aa 14 xs)] pre [] ⟨[],0⟩ (λ r j s i=>r=.own 0 14 xs/\j=pre/\s=[(l.length,72)]/\i=⟨[],0⟩):=by
 refine jM (a6:=CI) (rows:=true) gd Tryz.func67 rfl (cL Tryz.func67) (λ h=>absurd (hp (congrArg Prod.fst h)) n) (λ A t x C w a B c=>?_);have g:xs.length=l.length:=by rw[p];simp[bV]
 conv=>cbv
 refine⟨λ h=>?_,?_⟩;·(conv=>cbv);subst h;have k:l.length=0:=g.symm;refine c _ ⟨_,.own 0 14 [],aZ.own _ pre [] ⟨[],0⟩ 2 0 14 [] 72 rfl (.inr rfl),.inr (.inl ⟨2,rfl,rfl⟩),rfl,rfl,?_,rfl⟩;rw[k];rfl
 conv=>cbv
 have d:A.bn [] xs=xs:=by subst a;rfl
 have m:A.bp xs=l.length:=by rw[<-g];subst a;rfl
 have f:A.bp (A.bn [] xs)=l.length:=by rw[d,m]
 have o:A.room (A.bp (A.bn [] xs)) 168:=by rw[f];subst a;show l.length*(168+1)<=140737488355328;omega
 exact⟨o,c _ ⟨_,.own 0 14 (A.bn [] xs),aZ.refl _,.inr (.inl ⟨2,rfl,rfl⟩),congrArg (ah.own 0 14) d,rfl,congrArg (λ z=>[(z,72)]) f,rfl⟩⟩
def Dz:FuncId->Bool:=λ _=>false
def Py(l:List aS)(s:l≠[])(C:l.length<=1000000){xs:am}(c:xs=bV l)(pre:br)(E:pre≠[]):cF ⟨Tryz.prog,cW,Dz,true,.none⟩ 67 [.val (.aa 14 xs)] pre [] ⟨[],0⟩ (λ r g t f=>∃cap k,r=.row pre.length 0 14 l.length cap/\g=pre++[some (eK xs++List.replicate k (.val .any))]/\l.length*14+k=cap*14/\t=[]/\f=⟨[],0⟩):=by
 refine jM (a6:=Dz) (rows:=true) gd Tryz.func67 rfl (cL Tryz.func67) (by intro h;rfl) (λ A w z F y i D m=>?_);have a:xs.length=l.length:=by rw[c];simp[bV]
 have d:xs≠[]:=λ h=>s (hp (by rw[<-a,h];rfl));conv=>cbv
 refine⟨λ h=>?_,?_⟩;·cases(show False from d h)
 conv=>cbv
 refine IL i (e:=72) rfl rfl aN rfl aN d ac (λ x h=>?_) (λ cap k id n B o hid p j=>?_);·rw[c]at h;obtain⟨r,_,rfl⟩:=a_.1 h;rfl
 conv=>cbv
 exact m _ ⟨_,.row id 0 14 n cap,aZ.refl _,.inr (.inl ⟨2,rfl,rfl⟩),cap,k,by rw[hid,p,a],j,by rw[<-a];exact o,rfl,rfl⟩
def kz(a b c d:Int):(dN a b c d<0/\(a<c\/(a=c/\b<d)))\/(dN a b c d=0/\a=c/\b=d)\/(0<dN a b c d/\(c<a\/(a=c/\d<b))):=by
 unfold dN k6 k6 oo;by_cases f:a<c;·left;simp[f]
 by_cases i:c<a;·right;right;simp[f,i]
 obtain rfl:a=c:=ac;by_cases g:b<d;·left;simp[g,k6]
 by_cases j:d<b;·right;right;simp[g,j,k6]
 right;left;simp[k6];omega
def fA(l:List aA)(a b:Int):Nat:=l.countP λ x=>decide (dN x.aw x.aX a b<0)
def hM(l:List aA):Prop:=l.Pairwise λ x y=>dN x.aw x.aX y.aw y.aX<0
def pJ{l:List aA}(h:hM l){i j:Nat} {x y:aA}(d:l[i]?=some x)(g:l[j]?=some y)(f:i<j):dN x.aw x.aX y.aw y.aX<0:=by obtain⟨a,rfl⟩:=aD.1 d;obtain⟨c,rfl⟩:=aD.1 g;exact ug.1 h i j a c f
def nW{a b c d e f:Int}(g:dN a b c d<0)(i:dN c d e f<=0):dN a b e f<0:=by have j:=kz a b c d;have k:=kz c d e f;have l:=kz a b e f;omega
def N7{a b c d e f:Int}(g:0<=dN a b e f)(i:dN a b c d<0):0<dN c d e f:=by have j:=kz a b c d;have k:=kz c d e f;have l:=kz a b e f;omega
def Ec:∀(l:List aA)(p:Option aA),nk p l=true->hM l/\∀q,p=some q->∀x∈l,dN q.aw q.aX x.aw x.aX<0| [],p,_=>⟨.nil,λ _ _ _ h=>nomatch h⟩ |r::l,p,h=>by unfold nk at h;rw[bP,iT,qP]at h;obtain⟨⟨_,a⟩,f⟩:=h;obtain⟨j,d⟩:=Ec l (some r) f;refine⟨mx.2 ⟨λ y i=>d r rfl y i,j⟩,λ q g x c=>?_⟩;subst g;simp only[Bool.not_eq_false',bX]at a;rcases cM.1 c with rfl|c;(·exact a);exact nW a (nR (d r rfl x c))
def AQ{l:List aA}(h:ko l=true):hM l/\l.length<=1024:=by unfold ko at h;rw[bP,bX]at h;exact⟨(Ec l none h.1).1,h.2⟩
def Q3{l:List aA} {a b:Int} {i:Nat}(m:i<=l.length)(g:∀(k:Nat)(x:aA),k<i->l[k]?=some x->dN x.aw x.aX a b<0)(j:∀(k:Nat)(x:aA),i<=k->l[k]?=some x->0<=dN x.aw x.aX a b):fA l a b=i:=by
 unfold fA;have e:l=l.take i++l.drop i:=(hB i l).symm;have d:(l.take i).countP (λ x=>decide (dN x.aw x.aX a b<0))=i:=by rw[List.countP_eq_length.2,dQ,pw m];intro x c;obtain⟨k,ae⟩:=lP.1 c;rw[c9]at ae;split at ae;(·exact bz (g k x (by assumption) ae));cases ae
 have f:(l.drop i).countP (λ x=>decide (dN x.aw x.aX a b<0))=0:=by rw[List.countP_eq_zero];intro x c;obtain⟨k,ae⟩:=lP.1 c;rw[fs]at ae;have:=j (i+k) x ac ae;simp;omega
 conv=>lhs;rw[e]
 rw[List.countP_append,d,f,lR]
def wK(l:List aA)(a b:Int):fA l a b<=l.length:=List.countP_le_length
def fZ(l:List aA)(a b:Int):Bool:=match l[fA l a b]? with|some x=>decide (dN x.aw x.aX a b=0) |none=>false
def Pz(l:List aA)(a b:Int)(U:hM l){xs:am}(J:xs=bd l)(ao:l.length<=1000000):aB 77 [.aa 6 xs,pX a b,.fn 79 []] (.bf [ab (fA l a b),.bool (fZ l a b)]):=by
 refine aY Tryz.func77 (λ A q P Y aq c t=>?_);have K:xs.length=l.length:=by rw[J];simp[bd]
 have G:A.aH xs=(l.length:Int):=ap c K;have C:=λ r:aA=>MI r a b;unfold pX at C⊢;refine cp (b6 c (λ(z:Int×Int)s=>(s.put (some 9) (.val (ab z.1))).put (some 10) (.val (ab z.2))) (λ z=>0<=z.1/\z.1<=z.2/\z.2<=l.length/\(∀(k:Nat)(x:aA),(k:Int)<z.1->l[k]?=some x->dN x.aw x.aX a b<0)/\(∀(k:Nat)(x:aA),z.2<=k->l[k]?=some x->0<=dN x.aw x.aX a b)) (λ z=>(z.2-z.1).toNat) (0,A.aH xs) ?_ ?_ ?_);·exact ba
 ·refine⟨bk _,by rw[G];omega,by rw[G];exact bk _,λ k x ae=>by omega,λ k x ae ad=>?_⟩;have:=(aD.1 ad).1;rw[G]at ae;omega
 rintro aj⟨d,f⟩⟨M,X,N,H,F⟩B;simp only at M X N H F;conv=>cbv
 split;next i=>have S:d<f:=eG c i;have O:A.ak d f=d+f:=bv c _ _;(have Z:A.wrap .u64 (A.ak d f)=d+f:=by rw[O];subst c;obtain⟨k,ae⟩:∃k:Nat,d+f=k:=⟨(d+f).toNat,ac⟩;rw[ae];exact ze (Nat.lt_of_le_of_lt (show k<=2000000 by omega) aN));obtain⟨h,o⟩:=aC (A.wrap .i64 (A.oE (A.wrap .u64 (A.ak d f)) 1));(have an:h=(d+f)/2:=by rw[o,Z];subst c;show IntKind.i64.wrap ((d+f).fdiv (2^(1:Int).toNat))=_;rw[show((2:Int)^(1:Int).toNat)=2 from rfl,Int.fdiv_eq_ediv_of_nonneg _ ac];exact lj aW);obtain⟨x,p⟩:∃x,l[h.toNat]?=some x:=⟨_,aQ (show h.toNat<l.length by omega)⟩;have j:=C x;(have R:dN x.aw x.aX a b<0->∀(k:Nat)(y:aA),(k:Int)<h+1->l[k]?=some y->dN y.aw y.aX a b<0:=λ i k y ae g=>by by_cases e:k=h.toNat;(·rw[e,p]at g;obtain rfl:=bC g;exact i);exact nW (pJ U g p ac) (nR i));(have Q:0<=dN x.aw x.aX a b->∀(k:Nat)(y:aA),h<=(k:Int)->l[k]?=some y->0<=dN y.aw y.aX a b:=λ i k y ae g=>by by_cases e:k=h.toNat;(·rw[e,p]at g;obtain rfl:=bC g;exact i);exact nR (N7 i (pJ U p g ac)));generalize dN x.aw x.aX a b=al at j R Q;(conv=>cbv);refine⟨a1 c O aW,(cp ?_)⟩;refine⟨by subst c;exact⟨aN,aN⟩,?_⟩;refine⟨cK c bb,(cp ?_)⟩;refine kA c J (n:=A.wrap .i64 (A.oE (A.wrap .u64 (A.ak d f)) 1)) (by rw[<-o];omega) (by rw[<-o];omega) (λ y g=>?_);rw[<-o]at g;rw[p]at g;obtain rfl:=bC g;obtain⟨s1,s2,af,ag,ah,ai⟩:=x;unfold ey at j;simp only at j;(conv=>cbv);refine cZ c j (cp ?_);(have w:A.ak (A.wrap .i64 (A.oE (A.wrap .u64 (A.ak d f)) 1)) 1=h+1:=by rw[<-o];exact bv c _ _);split;(next E=>have L:=eG c E;(conv=>cbv);refine⟨a1 c w aW,B (A.ak (A.wrap .i64 (A.oE (A.wrap .u64 (A.ak d f)) 1)) 1,f) _ ba ?_ ?_⟩;(·rw[w];exact⟨ac,ac,N,R L,F⟩);rw[w];omega);rename_i E;have L:=ej c E;(conv=>cbv);refine B (d,A.wrap .i64 (A.oE (A.wrap .u64 (A.ak d f)) 1)) _ ba ?_ ?_;(·rw[<-o];exact⟨M,ac,ac,H,Q L⟩);rw[<-o];omega
 rename_i i;have S:d=f:=by have:=ej c i;omega
 subst S;clear B;obtain⟨n,rfl⟩:∃n:Nat,d=n:=⟨d.toNat,ac⟩;have T:fA l a b=n:=Q3 ac (λ k x ae=>H k x ac) (λ k x ae=>F k x ac);have m:fZ l a b=match l[n]? with|some x=>decide (dN x.aw x.aX a b=0) |none=>false:=by unfold fZ;rw[T]
 rw[T]at t;generalize fZ l a b=W at t m;conv=>cbv
 refine⟨cK c bb,(cp ?_)⟩;split;next D=>have I:n<l.length:=Int.ofNat_lt.1 (a7 c rfl (ap c K) D);refine cp (kA c J (Int.natCast_nonneg n) (Int.ofNat_lt.2 I) (λ y g=>?_));have j:=C y;rw[show l[n]?=some y from g]at m;simp only at m;generalize dN y.aw y.aX a b=V at j m;obtain⟨s1,s2,af,ag,ah,ai⟩:=y;unfold ey at j;simp only at j;(conv=>cbv);refine cZ c j (cp ?_);(have:A.cV V 0=W:=by rw[m];subst c;rfl);rw[<-t,<-this];rfl
 rename_i D;have I:l.length<=n:=Int.ofNat_le.1 (bc c rfl (ap c K) D);rw[eL I]at m;simp only at m;subst m;conv=>cbv
 exact t
def ww{α:Type} {a b:List α} {i:Int}(c:0<=i)(h:a.take i.toNat=b.take i.toNat){x:α}(d:a[i.toNat]?=some x)(f:b[i.toNat]?=some x):a.take (i+1).toNat=b.take (i+1).toNat:=by rw[e5 c d,e5 c f,h]
def Q4(a b:aI){xa fT:am}(w:xa=av a)(z:fT=av b):aB 126 [.aa 1 xa,.aa 1 fT] (.bool (decide (a=b))):=by
 refine aY Tryz.func126 (λ A q P Y F c n=>?_);have I:=(F.mem (p:=.aa 1 xa) al).len;have g:xa.length=a.length:=by rw[w];simp[av]
 have B:fT.length=b.length:=by rw[z];simp[av]
 refine aR (λ j=>?_) λ j=>?_;·have t:=iG c (ap c g) (ap c B) j;rw[<-n,bT (λ e=>t (by rw[e]))]
 have t:=j1 c (ap c g) (ap c B) j;refine ff c 13 (a.length) (λ d=>a.take d.toNat=b.take d.toNat) 0 ⟨bk _,ac,rfl⟩ ?_;rintro G d⟨m,H,o⟩E _ _;refine aR (λ k=>?_) λ k=>?_;·have C:=a7 c rfl (ap c g) k;have f:A.ak d 1=d+1:=bv c _ _;refine⟨cK c bb,(cp ?_)⟩;refine dZ c w m C (λ x s=>cp ?_);refine dZ c z m ac (λ y D=>?_);refine aR (λ l=>?_) λ l=>?_;(·have i:=b3 c l;rw[<-n,bT (λ e=>i (by rw[e,D]at s;exact(bC s).symm))]);have i:=db c l;refine⟨a1 c f aW,E (A.ak d 1) _ ?_ ⟨by rw[f];omega,by rw[f];omega,by rw[f];exact ww m o s (by rw[i];exact D)⟩ (by rw[f];omega)⟩;exact ba
 have C:d=a.length:=by have:=bc c rfl (ap c g) k;omega
 rw[eD ac,eD ac]at o;rw[<-n,bz o]
def PA(a b:List Bool){xa fT:am}(z:xa=eU a)(B:fT=eU b):aB 128 [.aa 1 xa,.aa 1 fT] (.bool (decide (a=b))):=by
 refine aY Tryz.func128 (λ A q P Y G c o=>?_);have J:=(G.mem (p:=.aa 1 xa) al).len;have g:xa.length=a.length:=by rw[z];simp[eU]
 have C:fT.length=b.length:=by rw[B];simp[eU]
 refine aR (λ k=>?_) λ k=>?_;·have w:=iG c (ap c g) (ap c C) k;rw[<-o,bT (λ e=>w (by rw[e]))]
 have w:=j1 c (ap c g) (ap c C) k;refine ff c 13 (a.length) (λ d=>a.take d.toNat=b.take d.toNat) 0 ⟨bk _,ac,rfl⟩ ?_;rintro H d⟨n,I,s⟩F _ _;refine aR (λ l=>?_) λ l=>?_;·have D:=a7 c rfl (ap c g) l;have f:A.ak d 1=d+1:=bv c _ _;refine⟨cK c bb,(cp ?_)⟩;refine w8 c z n D (λ x t=>cp ?_);refine w8 c B n ac (λ y E=>?_);refine aR (λ m=>?_) λ m=>?_;(·(have i:x≠y:=by have j:=e1 c m;subst c;intro e;subst e;cases x<;>cases j);rw[<-o,bT (λ e=>i (by rw[e,E]at t;exact(bC t).symm))]);(have i:x=y:=by have j:=eV c m;subst c;cases x<;>cases y<;>first|rfl|cases j);refine⟨a1 c f aW,F (A.ak d 1) _ ?_ ⟨by rw[f];omega,by rw[f];omega,by rw[f];exact ww n s t (by rw[i];exact E)⟩ (by rw[f];omega)⟩;exact ba
 have D:d=a.length:=by have:=bc c rfl (ap c g) l;omega
 rw[eD ac,eD ac]at s;rw[<-o,bz s]
def gP{α:Type}(p:α->α->Bool):List α->List α->Bool| [],[]=>true|x::r,y::s=>p x y&&gP p r s|_,_=>false
def wQ{α:Type} {p:α->α->Bool}:∀{a b:List α},a.length≠b.length->gP p a b=false| [],[],h=>absurd rfl h| [],_::_,_=>rfl|_::_,[],_=>rfl|x::r,y::s,h=>by unfold gP;rw[wQ (a:=r) (b:=s) (λ e=>h (by simp[e])),Bool.and_false]
def y7{α:Type} {p:α->α->Bool} {a b:List α} {i:Nat} {x y:α}(f:a[i]?=some x)(g:b[i]?=some y):gP p (a.drop i) (b.drop i)=(p x y&&gP p (a.drop (i+1)) (b.drop (i+1))):=by have c:=aD.1 f;have d:=aD.1 g;rw[hV c.1,c.2,hV d.1,d.2];rfl
def Mn{g:FuncId} {caps:am}(p:be->be->Bool)(a b:List be){xa fT:am}(s:xa=cn a)(t:fT=cn b)(H:∀x∈a,∀y∈b,aB g (dw x::dw y::caps) (.bool (p x y))):aB 127 [.aa 2 xa,.aa 2 fT,.fn g caps] (.bool (gP p a b)):=by
 refine aY Tryz.func127 (λ A q P Y J c o=>?_);have O:=(J.mem (p:=.aa 2 xa) al).len;have k:xa.length=a.length:=by rw[s];simp[cn]
 have w:fT.length=b.length:=by rw[t];simp[cn]
 refine aR (λ f=>?_) λ f=>?_;·have F:=iG c (ap c k) (ap c w) f;rw[<-o,wQ ac]
 have F:=j1 c (ap c k) (ap c w) f;refine ff c 17 (a.length) (λ d=>gP p a b=gP p (a.drop d.toNat) (b.drop d.toNat)) 0 ⟨bk _,ac,rfl⟩ ?_;rintro M d⟨B,N,l⟩G _ _;refine aR (λ m=>?_) λ m=>?_;·have z:=a7 c rfl (ap c k) m;have j:A.ak d 1=d+1:=bv c _ _;refine mE c s B z (λ x v1 C K=>cp ?_);refine mE c t B ac (λ y v2 D L=>?_);have i:=H x (aT C) y (aT D);have n:=y7 (p:=p) C D;have I:(d+1).toNat=d.toNat+1:=ac;generalize p x y=E at i n;unfold dw at i;rw[<-K,<-L]at i;obtain⟨Q,R⟩:=x;obtain⟨S,T⟩:=y;simp only at i;(conv=>cbv);refine lN c i al ?_;cases E with|true=>refine bB (λ f=>cx c f) ?_;refine⟨a1 c j aW,G (A.ak d 1) _ (by(conv=>cbv);exact cb (ag:=[]) (bE:=[_,_]) (mp:=[]) (bQ:=[])) ⟨by rw[j];omega,by rw[j];omega,?_⟩ (by rw[j];omega)⟩;rw[l,n,j,I];rfl|false=>refine de (λ f=>dm c f) ?_;rw[<-o,l,n];rfl
 have z:d=a.length:=by have:=bc c rfl (ap c k) m;omega
 rw[lO ac,lO ac]at l;rw[<-o,l];rfl
def PB(a b:List Bool){xa fT:am}(z:xa=eU a)(B:fT=eU b):aB 47 [.aa 1 xa,.aa 1 fT] (.bool (decide (a=b))):=by
 refine aY Tryz.func47 (λ A q P Y G c o=>?_);have J:=(G.mem (p:=.aa 1 xa) al).len;have g:xa.length=a.length:=by rw[z];simp[eU]
 have C:fT.length=b.length:=by rw[B];simp[eU]
 refine aR (λ k=>?_) λ k=>?_;·have w:=iG c (ap c g) (ap c C) k;rw[<-o,bT (λ e=>w (by rw[e]))]
 have w:=j1 c (ap c g) (ap c C) k;refine ff c 5 (a.length) (λ d=>a.take d.toNat=b.take d.toNat) 0 ⟨bk _,ac,rfl⟩ ?_;rintro H d⟨n,I,s⟩F _ _;refine aR (λ l=>?_) λ l=>?_;·have D:=a7 c rfl (ap c g) l;have f:A.ak d 1=d+1:=bv c _ _;refine⟨cK c bb,(cp ?_)⟩;refine w8 c z n D (λ x t=>cp ?_);refine w8 c B n ac (λ y E=>?_);refine aR (λ m=>?_) λ m=>?_;(·(have i:x≠y:=by have j:=e1 c m;subst c;intro e;subst e;cases x<;>cases j);rw[<-o,bT (λ e=>i (by rw[e,E]at t;exact(bC t).symm))]);(have i:x=y:=by have j:=eV c m;subst c;cases x<;>cases y<;>first|rfl|cases j);refine⟨a1 c f aW,F (A.ak d 1) _ ?_ ⟨by rw[f];omega,by rw[f];omega,by rw[f];exact ww n s t (by rw[i];exact E)⟩ (by rw[f];omega)⟩;exact ba
 have D:d=a.length:=by have:=bc c rfl (ap c g) l;omega
 rw[eD ac,eD ac]at s;rw[<-o,bz s]
def jn(x y:aA):Bool:=decide (x.aw=y.aw)&&(decide (x.aX=y.aX)&&(decide (x.Minute=y.Minute)&&(decide (x.iK=y.iK)&&(decide (x.Call=y.Call)&&decide (x.fB=y.fB)))))
def nU{x y:aA}:jn x y=true↔x=y:=by obtain⟨a,a2,a3,a4,a5,c⟩:=x;obtain⟨d,f,g,i,j,k⟩:=y;simp[jn]
theorem wR{α:Type} {p:α->α->Bool}(c:∀x y,p x y=true↔x=y):∀{a b:List α},gP p a b=true↔a=b| [],[]=>by simp[gP] | [],_::_=>by simp[gP] |_::_,[]=>by simp[gP] |x::r,y::s=>by simp[gP,c,wR c]
def ML(a b:List aA){xa fT:am}(t:xa=bd a)(w:fT=bd b):aB 45 [.aa 6 xa,.aa 6 fT] (.bool (gP jn a b)):=by
 refine aY Tryz.func45 (λ A q P Y H c n=>?_);have M:=(H.mem (p:=.aa 6 xa) al).len;have g:xa.length=a.length:=by rw[t];simp[bd]
 have z:fT.length=b.length:=by rw[w];simp[bd]
 refine aR (λ k=>?_) λ k=>?_;·have D:=iG c (ap c g) (ap c z) k;rw[<-n,wQ ac]
 have D:=j1 c (ap c g) (ap c z) k;refine ff c 5 (a.length) (λ d=>gP jn a b=gP jn (a.drop d.toNat) (b.drop d.toNat)) 0 ⟨bk _,ac,rfl⟩ ?_;rintro K d⟨C,L,o⟩E _ _;refine aR (λ l=>?_) λ l=>?_;·have B:=a7 c rfl (ap c g) l;have f:A.ak d 1=d+1:=bv c _ _;refine⟨cK c bb,(cp ?_)⟩;refine kA c t C B (λ x I=>cp ?_);refine kA c w C ac (λ y J=>?_);have F:=y7 (p:=jn) I J;have G:(d+1).toNat=d.toNat+1:=ac;(have s:∀e:Bool,e=jn x y->gP jn a b=(e&&gP jn (a.drop (d+1).toNat) (b.drop (d+1).toNat)):=λ e he=>by rw[o,F,he,G]);refine aR (λ m=>?_) λ m=>?_;(·have i:=e1 c m;have j:=(s (A.fH (A.cV x.aw y.aw) (A.fH (A.cV x.aX y.aX) (A.fH (A.cV x.Minute y.Minute) (A.fH (A.cV x.iK y.iK) (A.fH (A.m3 x.Call y.Call) (A.fH (A.cV x.fB y.fB) true)))))) (by subst c;simp[ay,jn])).trans (congrArg (λ e=>e&&gP jn (a.drop (d+1).toNat) (b.drop (d+1).toNat)) i);rw[<-n,j];rfl);have i:=eV c m;have j:=(s (A.fH (A.cV x.aw y.aw) (A.fH (A.cV x.aX y.aX) (A.fH (A.cV x.Minute y.Minute) (A.fH (A.cV x.iK y.iK) (A.fH (A.m3 x.Call y.Call) (A.fH (A.cV x.fB y.fB) true)))))) (by subst c;simp[ay,jn])).trans (congrArg (λ e=>e&&gP jn (a.drop (d+1).toNat) (b.drop (d+1).toNat)) i);refine⟨a1 c f aW,E (A.ak d 1) _ ?_ ⟨by rw[f];omega,by rw[f];omega,by rw[f,j];rfl⟩ (by rw[f];omega)⟩;exact ba
 have B:d=a.length:=by have:=bc c rfl (ap c g) l;omega
 rw[lO ac,lO ac]at o;rw[<-n,o];rfl
def fv(l:List aA)(r:aA):Int:=if ko l=false then 220 else if dj 4 r=false then 220 else match l[fA l r.aw r.aX]? with|some x=>if dN x.aw x.aX r.aw r.aX=0 then(if jn x r=true then 0 else 220)else if l.length=1024 then 2 else 0|none=>if l.length=1024 then 2 else 0
def dh(l:List aA)(r:aA):List aA:=if fZ l r.aw r.aX=true then l else ig l (fA l r.aw r.aX) r
def zR(l:List aA)(r:aA):af:=if fv l r=0 then .aa 6 (bd (dh l r))else .aa 0 []
def tn:af:=.agg [.any,.any,.any,.any,.any,.any]
theorem IB:∀k:Nat,List.replicate (k*6) (ah.val .any)=eK (List.replicate k tn) |0=>rfl|k+1=>by rw[m8,show tn::List.replicate k tn=[tn]++List.replicate k tn from rfl,ob,<-IB k,mz,ld,<-yr];rfl
def DA:FuncId->Bool:=λ n=>n==5000000+82||n==5000000+81||n==1000013
def N8(l:List aA)(r:aA){xs:am}(s:xs=bd l):aB 38 [.aa 6 xs,ey r] (.bf [zR l r,ab (fv l r)]):=by refine wo (a6:=DA) (rows:=true) gd Tryz.func38 rfl (cL Tryz.func38) (λ A q P Z be bi c C J=>?_);(have ba:xs.length=l.length:=by rw[s];simp[bd]);have az:A.aH xs=(l.length:Int):=ap c ba;have ak:=Ls l s;have j:=uy 4 r aN aN;have o:=yy r;have aj:=λ an aW=>Pz l r.aw r.aX an s aW;have a7:jU 4 r=if dj 4 r then 0 else 220:=rfl;rw[a7]at j;have aE:=λ h=>AQ (l:=l) h;obtain⟨aI,a,bj,d⟩:=b_ (fv l r) (zR l r);rw[<-a,<-d]at C;unfold zR at d;rw[<-a]at d;unfold fv at a;generalize ko l=aG at ak aE a;generalize dj 4 r=ok at j a;obtain⟨av,B⟩:=aC (if ok=true then 0 else 220:Int);rw[<-B]at j;obtain⟨s1,s2,E,F,G,H⟩:=r;unfold ey at j o;simp only at j o aj;refine aJ c ak ?_;cases aG with|false=>refine hf (λ f=>?_) λ _=>?_;(·cases((show False by have S:false=true:=eV c f;cases S)));rw[if_pos rfl]at a;rw[a,if_neg aN]at d;refine cp (J _ _ (aZ.refl _) ⟨_,bJ.refl _ _,?_⟩);(conv=>cbv);rw[<-C,d,a] |true=>obtain⟨an,bg⟩:=aE rfl;rw[if_neg aN]at a;refine hs (λ f=>?_) λ _=>?_;(·cases((show False by have S:true=false:=e1 c f;cases S)));refine aJ c j ?_;cases ok with|false=>rw[if_pos rfl]at a;have B:av=220:=B;rw[a,if_neg aN]at d;split;(·refine cp (J _ _ (aZ.refl _) ⟨_,bJ.refl _ _,?_⟩);(conv=>cbv);rw[<-C,d,a,B]);rename_i f;exact absurd (db c f) (by rw[B];decide) |true=>rw[if_neg aN]at a;have B:av=0:=B;split;(next f=>exact absurd B (b3 c f));have ad:=aj an ac;unfold pX at o ad;clear aj ak j;obtain⟨p,N⟩:=aC (fA l s1 s2);(have a1:p<=l.length:=by rw[N];exact wK _ _ _);obtain⟨aK,g,ao,U⟩:=b_ (fZ l s1 s2) (p:Int);rw[<-N,<-g,<-U]at ad;simp only at a;rw[<-N]at a;unfold fZ at g;rw[<-N]at g;refine aJ c o ?_;refine aJ c ad ?_;refine⟨cK c bb,?_⟩;cases aK with|true=>(obtain⟨x,ae⟩:∃x,l[p]?=some x:=by cases h:l[p]? with|none=>rw[h]at g;cases g|some x=>exact⟨x,rfl⟩);have bh:p<l.length:=(aD.1 ae).1;rw[ae]at g a;simp only at g a;have aS:=fD g.symm;rw[if_pos aS]at a;(conv=>cbv);refine kA c s (n:=ao) ac ac (λ y aF=>?_);rw[U,da,ae]at aF;obtain rfl:=bC aF;(have X:∀b,b=A.fH (A.cV x.aw s1) (A.fH (A.cV x.aX s2) (A.fH (A.cV x.Minute E) (A.fH (A.cV x.iK F) (A.fH (A.m3 x.Call G) (A.fH (A.cV x.fB H) true)))))->b=jn x ⟨s1,s2,E,F,G,H⟩:=λ b h=>by subst c;rw[h];simp[ay,jn]);have X:=X _ rfl;refine aR (λ f=>?_) λ f=>?_;(·rw[if_pos (X.symm.trans f)]at a;rw[a,if_pos rfl,dh,if_pos (by unfold fZ;simp only;rw[<-N,ae];exact g.symm),<-s]at d;refine J _ _ (aZ.refl _) ⟨_,bJ.refl _ _,?_⟩;(conv=>cbv);rw[<-C,d,a]);rw[if_neg (λ h=>by have S:false=true:=f.symm.trans (X.trans h);cases S)]at a;rw[a,if_neg aN]at d;refine J _ _ (aZ.refl _) ⟨_,bJ.refl _ _,?_⟩;(conv=>cbv);rw[<-C,d,a] |false=>(have a:aI=if l.length=1024 then 2 else 0:=by rw[a];cases h:l[p]? with|none=>rfl|some x=>rw[h]at g;simp only;rw[if_neg (of_decide_eq_false g.symm)]);refine ca (λ f=>?_) λ f=>?_;(·have aL:(l.length:Int)=1024:=jp c az rfl f;rw[if_pos ac]at a;rw[a,if_neg aN]at d;refine J _ _ (aZ.refl _) ⟨_,bJ.refl _ _,?_⟩;(conv=>cbv);rw[<-C,d,a]);have aL:(l.length:Int)≠1024:=iF c az rfl f;rw[if_neg ac]at a;rw[a,if_pos rfl,dh,if_neg (by unfold fZ;simp only;rw[<-N,<-g];decide),<-N]at d;clear g ad o;rcases sg a1 with o|o;(·(have aY:l≠[]:=λ h=>by rw[h]at o;exact absurd o al);obtain⟨L,W,Y,K⟩:=b_ l.length (bd (ig l p ⟨s1,s2,E,F,G,H⟩));(have aQ:Y.length=L+1:=by rw[K,W];simp[bd,ig];omega);(have aO:∀x∈Y,x.cells.length=6:=λ x h=>by rw[K]at h;obtain⟨r,_,rfl⟩:=a_.1 h;rfl);rw[<-K]at d;have T:=λ pre O=>Pw l aY ac s pre O;have m:=λ pre O cap k j=>Px l ⟨s1,s2,E,F,G,H⟩ ac s (i:=ao) ac ac pre O (cap:=cap) (k:=k) (id:=pre.length) j rfl;rw[<-W]at T m;rw[U,da,<-K]at m;rw[<-U]at m;(have aU:∀t z I D(V:br),z=V.length->t=V++[some (eK Y++List.replicate D (.val .any))]->(L+1)*6+D=I*6->ol ⟨P,cW,DA,true,Z⟩ Tryz.f38.results.toList ⟨((List.replicate 47 (ah.val .any)).set 4 (.row z 0 6 (L+1) I)).set 5 (au 0),t,[],⟨[],0⟩⟩ q:=by intro t z I D V hid w ax;obtain⟨af,aV⟩:∃af,D=af*6:=⟨D/6,ac⟩;(have a':ly z 6 (Y++List.replicate af tn) (.row z 0 6 (L+1) I)=.val (.aa 6 Y):=by unfold ly;simp only;rw[if_pos ⟨trivial,trivial,trivial,by rw[bO];omega⟩,nd aQ]);refine⟨_,bJ.row z 6 (eK Y++List.replicate D (.val .any)) (Y++List.replicate af tn) _ _ _ _ ?_ ?_ (λ x s=>?_) (bJ.refl _ _),?_⟩;(·show t.getD z none=_;rw[w,hid,cl,b1 (a8 _),iU];rfl);(·rw[aV,IB,<-ob];rfl);(·rcases dH.1 s with h|h;(·exact aO x h);rw[(oM.1 h).2];rfl);simp only[List.replicate,List.set,ai.oD,eS,List.map_nil,a'];(conv=>cbv);rw[<-C,d,a]);(conv=>cbv);(repeat' apply ng);(all_goals refine ij c (caps:=[]) (cF.flags (T _ (qU _ _))) (λ aq t ar ag h=>?_));(all_goals obtain⟨cap,k,Q,w,j,R,M⟩:=h;have m:=m [some [au s1,au s2,au E,au F,.val (.str G),au H]] (qU _ _) cap k j;obtain⟨bc,aM⟩:=aC (eK xs++List.replicate k (.val .any));rw[<-aM]at w m;subst Q w R M);(all_goals conv=>cbv);(all_goals repeat' apply ng);(all_goals refine ij c (caps:=[]) (cF.flags m) (λ aq t ar ag h=>?_));(all_goals obtain⟨z,I,D,V,_,_,Q,hid,w,ax,R,M⟩:=h;have aT:=aU t z I D V hid w ax;subst Q R M);(all_goals conv=>cbv);(all_goals repeat' apply ng);all_goals refine J _ ⟨((List.replicate 47 (ah.val .any)).set 4 (.row z 0 6 (L+1) I)).set 5 (au 0),t,[],⟨[],0⟩⟩ ?_ aT;(conv=>cbv);exact cT);obtain⟨L,W,Y,K⟩:=b_ l.length (bd (l++[⟨s1,s2,E,F,G,H⟩]));(have aP:bd (ig l p ⟨s1,s2,E,F,G,H⟩)=Y:=by rw[K,o];unfold ig;rw[gO,qV]);rw[aP]at d;have T:=λ pre O=>Pu l ac s pre O;have m:=λ pre O=>Pv l ⟨s1,s2,E,F,G,H⟩ ac s (n:=ao) (by rw[U,o]) pre O;rw[<-W]at T m;rw[<-K]at m;(conv=>cbv);(repeat' apply ng);(all_goals refine ij c (caps:=[]) (cF.flags (T _ (qU _ _))) (λ aq t ar ag h=>?_));(all_goals(obtain⟨Q,w,R,M⟩:=h;subst Q w R M));(all_goals conv=>cbv);(all_goals repeat' apply ng);(all_goals refine ij c (caps:=[]) (cF.flags (m _ (qU _ _))) (λ aq t ar ag h=>?_));(all_goals(obtain⟨Q,w,R,M⟩:=h;subst Q w R M));(all_goals conv=>cbv);(all_goals repeat' apply ng);all_goals refine J _ _ (aZ.refl _) ⟨_,bJ.refl _ _,?_⟩;(conv=>cbv);rw[<-C,d,a]
end Go.Abs
