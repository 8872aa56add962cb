/- Contracts of the functions: part 6. -/
import Derived.Shelf.Abstract
import Derived.Test.YtimomgiieilmkaaGreatQ5
set_option linter.all false
set_option maxHeartbeats 4000000
namespace Go.Abs
open Go.RowKit Go.Proofs
def dW{s:ah} {l l':aP}(h:gu l l'):gu (s::l) (s::l'):=⟨(w6 [s]).1,h⟩
def eQ{s:ah} {l l':aP}(h:gu l l'):gu (s::l) (ah.val .any::l'):=⟨trivial,h⟩
def eA:gu [] []:=trivial
def mL{A:dF} {E:Env}(g:A=ay E){α:Type} {p:α->Bool} {l:List α} {xs:am} {q:af}(m:ab (ev p l)=q)(C:xs.length<=9223372036854775807)(k:xs.length=l.length){nb:Nat×Nat} {body:Code} {W:ai->(fb->ai->Prop)->Prop} {st:ai} {Q:fb->ai->Prop}(t:∀(R:ai->Prop)a,0<=a->(A.ha a (A.aH xs)=true->a<l.length)->(∀x,l[a.toNat]?=some x->p x=true->ab a=q)->(∀x,l[a.toNat]?=some x->p x=false->∀d,aZ nb d ((o9 body st).put (some 8) (au (A.ak a 1)))->A.bS (A.ak a 1)/\R d)->(A.ha a (A.aH xs)=false->ab (-1)=q)->W ((o9 body st).put (some 8) (au a)) λ e d=>match e with| .normal=>R d| .exit a=>Q (.exit a) d| .ret=>Q .ret d)(n:aZ nb st ((o9 body st).put (some 8) (au 0)):=by(conv=>cbv);exact cT):A.loop nb body W st Q:=by
 refine b6 g (λ(a:Int)s=>s.put (some 8) (au a)) (λ a=>0<=a/\a<=l.length/\∀x∈l.take a.toNat,p x=false) (λ a=>(l.length-a).toNat) 0 n ⟨bk _,ac,al⟩ (λ R a f o=>?_);have e:A.ak a 1=a+1:=by subst g;rfl
 refine t R a f.1 (λ h=>?_) (λ x i j=>by rw[<-m,yX f.1 i j f.2.2]) (λ x i j d h=>?_) (λ h=>?_);·subst g;rw[<-k];simpa[ay]using h
 ·have w:=e5 f.1 i;have B:=(aD.1 i).1;refine⟨by subst g;show dx (a+1);unfold dx;omega,o _ d h ?_ ?_⟩;(·rw[e];refine⟨ac,ac,λ y c=>?_⟩;rw[w,dH]at c;rcases c with c|c;(·exact f.2.2 y c);rw[dG.1 c];exact j);rw[e];omega
 have z:¬a<l.length:=by subst g;rw[<-k];simpa[ay]using h
 rw[<-m,Bf];intro y c;refine f.2.2 y ?_;rw[eD ac];exact c
def mX{f g:FuncId} {fn:Func} {α:Type} {p:α->Bool} {l:List α} {args:am}(c:aB g args (ab (ev p l)))(a:Tryz.prog.funcs[f]?=some fn)(w:∀(r:Int)(b:Bool),decide (0<=r)=b->Tryz.prog.funcs[f]?=some fn->aB g args (ab r)->aB f args (.bool b):=by intro r b e a c;refine wy (a6:=λ _=>false) (rows:=false) gd a rfl (enters_of a bb rfl) (λ A q P Y j d i=>cp ?_);refine cZ d c (cp ?_);rw[<-i,<-e];subst d;rfl):aB f args (.bool (l.any p)):=w _ _ (sA p l) a c
def vH{f g:FuncId} {fn:Func} {α:Type} {p:α->Bool} {l:List α} {a0 args:am}(c:aB g a0 (.bool (l.any λ x=>!p x)))(a:Tryz.prog.funcs[f]?=some fn)(w:∀(r b:Bool),(!r)=b->Tryz.prog.funcs[f]?=some fn->aB g a0 (.bool r)->aB f args (.bool b):=by intro r b e a c;refine wy (a6:=λ _=>false) (rows:=false) gd a rfl (enters_of a bb rfl) (λ A q P Y j d i=>cp ?_);refine cZ d c (cp ?_);rw[<-i,<-e];subst d;rfl):aB f args (.bool (l.all p)):=w _ _ (by simp[List.any_eq_not_all_not]) a c
def I3{f g:FuncId} {fn:Func} {e:af} {b:Bool} {caps:am}(c:aB g (e::caps) (.bool b))(a:Tryz.prog.funcs[f]?=some fn)(w:∀(e:af)(b:Bool),Tryz.prog.funcs[f]?=some fn->aB g (e::caps) (.bool b)->aB f [e,.ptr [.fn g caps] 0] (.bool (!b)):=by intro e b a c;refine wy (a6:=λ _=>false) (rows:=false) gd a rfl (enters_of a bb rfl) (λ A q P Y j d i=>cp ?_);refine cZ d c (cp ?_);rw[<-i];subst d;rfl):aB f [e,.ptr [.fn g caps] 0] (.bool (!b)):=w _ _ a c
def L4{g:FuncId} {caps xs:am}(p:Int->Bool)(l:aI)(i:xs=av l)(s:∀x∈l,aB g (b' x::caps) (.bool (p x))):aB 205 [.aa 1 xs,.fn g caps] (ab (ev p l)):=by
 refine aY Tryz.func205 (λ A q P Y w d t=>?_);conv=>cbv
 refine mL d t (w.mem (p:=.aa 1 xs) al).len (by rw[i];simp[av]) (λ y z j k m n o=>?_);refine aR (λ a=>?_) λ a=>?_;·refine dZ d i j (k a) (λ x f=>cp ?_);refine lN d (s x (aT f)) (by simp[b']) ?_;refine aR (λ c=>?_) λ c=>?_;(·exact m x f c);exact n x f c _ ba
 exact o a
def Ay{g:FuncId} {caps xs:am}(p:Int->Bool)(l:aI)(c:xs=av l)(a:∀x∈l,aB g (b' x::caps) (.bool (p x))):aB 133 [.aa 1 xs,.fn g caps] (.bool (l.any p)):=mX (L4 p l c a) Tryz.func133
def RP{g:FuncId} {caps:am}(p:Int->Bool)(x:Int)(a:aB g (b' x::caps) (.bool (p x))):aB 185 [b' x,.ptr [.fn g caps] 0] (.bool (!p x)):=I3 a Tryz.func185
def JN{g:FuncId} {caps xs:am}(p:Int->Bool)(l:aI)(d:xs=av l)(a:∀x∈l,aB g (b' x::caps) (.bool (p x))):aB 105 [.aa 1 xs,.fn g caps] (.bool (l.all p)):=vH (Ay (λ x=>!p x) l d λ x c=>RP p x (a x c)) Tryz.func105
def LU{g:FuncId} {caps xs:am}(p:cI->Bool)(l:List cI)(i:xs=cP l)(s:∀x∈l,aB g (jx x::caps) (.bool (p x))):aB 241 [.aa 2 xs,.fn g caps] (ab (ev p l)):=by
 refine aY Tryz.func241 (λ A q P Y w d t=>?_);conv=>cbv
 refine mL d t (w.mem (p:=.aa 2 xs) al).len (by rw[i];simp[cP]) (λ y z j k m n o=>?_);refine aR (λ a=>?_) λ a=>?_;·refine sH d i j (k a) (λ x f=>cp ?_);refine lN d (s x (aT f)) (by simp[jx]) ?_;refine aR (λ c=>?_) λ c=>?_;(·exact m x f c);exact n x f c _ ba
 exact o a
def D1{g:FuncId} {caps xs:am}(p:cI->Bool)(l:List cI)(c:xs=cP l)(a:∀x∈l,aB g (jx x::caps) (.bool (p x))):aB 186 [.aa 2 xs,.fn g caps] (.bool (l.any p)):=mX (LU p l c a) Tryz.func186
def Ln{g:FuncId} {caps xs:am}(p:aI->Bool)(l:List aI)(i:xs=bY l)(s:∀x∈l,aB g (n2 x::caps) (.bool (p x))):aB 248 [.aa 1 xs,.fn g caps] (ab (ev p l)):=by
 refine aY Tryz.func248 (λ A q P Y w d t=>?_);conv=>cbv
 refine mL d t (w.mem (p:=.aa 1 xs) al).len (by rw[i];simp[bY]) (λ z B j k m n o=>?_);refine aR (λ a=>?_) λ a=>?_;·refine zc d i j (k a) (λ x v0 f y=>cp ?_);refine lN d (s x (aT f)) (by simp[n2,y]) ?_;refine aR (λ c=>?_) λ c=>?_;(·exact m x f c);exact n x f c _ ba
 exact o a
def Lc{g:FuncId} {caps xs:am}(p:aI->Bool)(l:List aI)(c:xs=bY l)(a:∀x∈l,aB g (n2 x::caps) (.bool (p x))):aB 194 [.aa 1 xs,.fn g caps] (.bool (l.any p)):=mX (Ln p l c a) Tryz.func194
def Mv{g:FuncId} {caps:am}(p:aI->Bool)(x:aI)(a:aB g (n2 x::caps) (.bool (p x))):aB 195 [n2 x,.ptr [.fn g caps] 0] (.bool (!p x)):=I3 a Tryz.func195
def NA{g:FuncId} {caps xs:am}(p:aI->Bool)(l:List aI)(d:xs=bY l)(a:∀x∈l,aB g (n2 x::caps) (.bool (p x))):aB 117 [.aa 1 xs,.fn g caps] (.bool (l.all p)):=vH (Lc (λ x=>!p x) l d λ x c=>Mv p x (a x c)) Tryz.func117
def Lf{g:FuncId} {caps xs:am}(p:(List cI)->Bool)(l:List (List cI))(i:xs=fF l)(s:∀x∈l,aB g (uV x::caps) (.bool (p x))):aB 282 [.aa 1 xs,.fn g caps] (ab (ev p l)):=by
 refine aY Tryz.func282 (λ A q P Y w d t=>?_);conv=>cbv
 refine mL d t (w.mem (p:=.aa 1 xs) al).len (by rw[i];simp[fF]) (λ z B j k m n o=>?_);refine aR (λ a=>?_) λ a=>?_;·refine yW d i j (k a) (λ x v0 f y=>cp ?_);refine lN d (s x (aT f)) (by simp[uV,y]) ?_;refine aR (λ c=>?_) λ c=>?_;(·exact m x f c);exact n x f c _ ba
 exact o a
def Lb{g:FuncId} {caps xs:am}(p:(List cI)->Bool)(l:List (List cI))(c:xs=fF l)(a:∀x∈l,aB g (uV x::caps) (.bool (p x))):aB 244 [.aa 1 xs,.fn g caps] (.bool (l.any p)):=mX (Lf p l c a) Tryz.func244
def Lk{g:FuncId} {caps xs:am}(p:gl->Bool)(l:List gl)(i:xs=cA l)(s:∀x∈l,aB g (k_ x::caps) (.bool (p x))):aB 247 [.aa 5 xs,.fn g caps] (ab (ev p l)):=by
 refine aY Tryz.func247 (λ A q P Y w d t=>?_);conv=>cbv
 refine mL d t (w.mem (p:=.aa 5 xs) al).len (by rw[i];simp[cA]) (λ B C j k m n o=>?_);refine aR (λ a=>?_) λ a=>?_;·refine q9 d i j (k a) (λ x v0 v1 f y z=>cp ?_);refine lN d (s x (aT f)) (by simp[k_,y,z]) ?_;refine aR (λ c=>?_) λ c=>?_;(·exact m x f c);exact n x f c _ ba
 exact o a
def Ld{g:FuncId} {caps xs:am}(p:gl->Bool)(l:List gl)(c:xs=cA l)(a:∀x∈l,aB g (k_ x::caps) (.bool (p x))):aB 192 [.aa 5 xs,.fn g caps] (.bool (l.any p)):=mX (Lk p l c a) Tryz.func192
def NB{g:FuncId} {caps:am}(p:gl->Bool)(x:gl)(a:aB g (k_ x::caps) (.bool (p x))):aB 193 [k_ x,.ptr [.fn g caps] 0] (.bool (!p x)):=by refine aY Tryz.func193 (λ A q P Y f c d=>?_);rw[show k_ x=.agg [.str x.Name,.aa 1 (oX x.Names),.aa 1 (av x.aU),ab x.qO,ab x.ub]from rfl]at a⊢;generalize oX x.Names=i at a⊢;generalize av x.aU=j at a⊢;(conv=>cbv);refine cZ c a (cp ?_);rw[<-d];subst c;rfl
def Oz{g:FuncId} {caps xs:am}(p:gl->Bool)(l:List gl)(d:xs=cA l)(a:∀x∈l,aB g (k_ x::caps) (.bool (p x))):aB 116 [.aa 5 xs,.fn g caps] (.bool (l.all p)):=vH (Ld (λ x=>!p x) l d λ x c=>NB p x (a x c)) Tryz.func116
def L5{g:FuncId} {caps xs:am}(p:dT->Bool)(l:List dT)(i:xs=hg l)(s:∀x∈l,aB g (iY x::caps) (.bool (p x))):aB 242 [.aa 4 xs,.fn g caps] (ab (ev p l)):=by
 refine aY Tryz.func242 (λ A q P Y w d t=>?_);conv=>cbv
 refine mL d t (w.mem (p:=.aa 4 xs) al).len (by rw[i];simp[hg]) (λ z B j k m n o=>?_);refine aR (λ a=>?_) λ a=>?_;·refine u9 d i j (k a) (λ x v0 f y=>cp ?_);refine lN d (s x (aT f)) (by simp[iY,y]) ?_;refine aR (λ c=>?_) λ c=>?_;(·exact m x f c);exact n x f c _ ba
 exact o a
def D4{g:FuncId} {caps xs:am}(p:dT->Bool)(l:List dT)(c:xs=hg l)(a:∀x∈l,aB g (iY x::caps) (.bool (p x))):aB 188 [.aa 4 xs,.fn g caps] (.bool (l.any p)):=mX (L5 p l c a) Tryz.func188
def RQ{g:FuncId} {caps:am}(p:dT->Bool)(x:dT)(a:aB g (iY x::caps) (.bool (p x))):aB 189 [iY x,.ptr [.fn g caps] 0] (.bool (!p x)):=by refine aY Tryz.func189 (λ A q P Y f c d=>?_);rw[show iY x=.agg [ab x.ud,ab x.fB,ab x.Length,.aa 2 (cP x.df)]from rfl]at a⊢;generalize cP x.df=i at a⊢;(conv=>cbv);refine cZ c a (cp ?_);rw[<-d];subst c;rfl
def JO{g:FuncId} {caps xs:am}(p:dT->Bool)(l:List dT)(d:xs=hg l)(a:∀x∈l,aB g (iY x::caps) (.bool (p x))):aB 111 [.aa 4 xs,.fn g caps] (.bool (l.all p)):=vH (D4 (λ x=>!p x) l d λ x c=>RQ p x (a x c)) Tryz.func111
def L6{g:FuncId} {caps xs:am}(p:Way->Bool)(l:List Way)(i:xs=cv l)(s:∀x∈l,aB g (lr x::caps) (.bool (p x))):aB 249 [.aa 3 xs,.fn g caps] (ab (ev p l)):=by
 refine aY Tryz.func249 (λ A q P Y w d t=>?_);conv=>cbv
 refine mL d t (w.mem (p:=.aa 3 xs) al).len (by rw[i];simp[cv]) (λ z B j k m n o=>?_);refine aR (λ a=>?_) λ a=>?_;·refine jO d i j (k a) (λ x v0 f y=>cp ?_);refine lN d (s x (aT f)) (by simp[lr,y]) ?_;refine aR (λ c=>?_) λ c=>?_;(·exact m x f c);exact n x f c _ ba
 exact o a
def Ll{g:FuncId} {caps xs:am}(p:Way->Bool)(l:List Way)(c:xs=cv l)(a:∀x∈l,aB g (lr x::caps) (.bool (p x))):aB 196 [.aa 3 xs,.fn g caps] (.bool (l.any p)):=mX (L6 p l c a) Tryz.func196
def RR{g:FuncId} {caps:am}(p:Way->Bool)(x:Way)(a:aB g (lr x::caps) (.bool (p x))):aB 197 [lr x,.ptr [.fn g caps] 0] (.bool (!p x)):=by refine aY Tryz.func197 (λ A q P Y f c d=>?_);rw[show lr x=.agg [ab x.b4,ab x.b5,.aa 4 (hg x.cY)]from rfl]at a⊢;generalize hg x.cY=i at a⊢;(conv=>cbv);refine cZ c a (cp ?_);rw[<-d];subst c;rfl
def JP{g:FuncId} {caps xs:am}(p:Way->Bool)(l:List Way)(d:xs=cv l)(a:∀x∈l,aB g (lr x::caps) (.bool (p x))):aB 118 [.aa 3 xs,.fn g caps] (.bool (l.all p)):=vH (Ll (λ x=>!p x) l d λ x c=>RR p x (a x c)) Tryz.func118
def LV{g:FuncId} {caps xs:am}(p:eE->Bool)(l:List eE)(i:xs=cz l)(s:∀x∈l,aB g (fN x::caps) (.bool (p x))):aB 250 [.aa 6 xs,.fn g caps] (ab (ev p l)):=by
 refine aY Tryz.func250 (λ A q P Y w d t=>?_);conv=>cbv
 refine mL d t (w.mem (p:=.aa 6 xs) al).len (by rw[i];simp[cz]) (λ z B j k m n o=>?_);refine aR (λ a=>?_) λ a=>?_;·refine lf d i j (k a) (λ x v0 f y=>cp ?_);refine lN d (s x (aT f)) (by simp[fN,y]) ?_;refine aR (λ c=>?_) λ c=>?_;(·exact m x f c);exact n x f c _ ba
 exact o a
def Lo{g:FuncId} {caps xs:am}(p:eE->Bool)(l:List eE)(c:xs=cz l)(a:∀x∈l,aB g (fN x::caps) (.bool (p x))):aB 198 [.aa 6 xs,.fn g caps] (.bool (l.any p)):=mX (LV p l c a) Tryz.func198
def P4{g:FuncId} {caps:am}(p:eE->Bool)(x:eE)(a:aB g (fN x::caps) (.bool (p x))):aB 199 [fN x,.ptr [.fn g caps] 0] (.bool (!p x)):=by refine aY Tryz.func199 (λ A q P Y f c d=>?_);rw[show fN x=.agg [ab x.hK,ab x.h4,ab x.m5,ab x.Weight,ab x.gw,.aa 1 (fF x.ed)]from rfl]at a⊢;generalize fF x.ed=i at a⊢;(conv=>cbv);refine cZ c a (cp ?_);rw[<-d];subst c;rfl
def RS{g:FuncId} {caps xs:am}(p:eE->Bool)(l:List eE)(d:xs=cz l)(a:∀x∈l,aB g (fN x::caps) (.bool (p x))):aB 119 [.aa 6 xs,.fn g caps] (.bool (l.all p)):=vH (Lo (λ x=>!p x) l d λ x c=>P4 p x (a x c)) Tryz.func119
def Lp{g:FuncId} {caps xs:am}(p:aw->Bool)(l:List aw)(i:xs=b2 l)(s:∀x∈l,aB g (iw x::caps) (.bool (p x))):aB 201 [.aa 3 xs,.fn g caps] (ab (ev p l)):=by
 refine aY Tryz.func201 (λ A q P Y w d t=>?_);conv=>cbv
 refine mL d t (w.mem (p:=.aa 3 xs) al).len (by rw[i];simp[b2]) (λ z B j k m n o=>?_);refine aR (λ a=>?_) λ a=>?_;·refine mu d i j (k a) (λ x v0 f y=>cp ?_);refine lN d (s x (aT f)) (by simp[iw,y]) ?_;refine aR (λ c=>?_) λ c=>?_;(·exact m x f c);exact n x f c _ ba
 exact o a
def As{g:FuncId} {caps xs:am}(p:aw->Bool)(l:List aw)(c:xs=b2 l)(a:∀x∈l,aB g (iw x::caps) (.bool (p x))):aB 122 [.aa 3 xs,.fn g caps] (.bool (l.any p)):=mX (Lp p l c a) Tryz.func122
def Lm{g:FuncId} {caps xs:am}(p:aA->Bool)(l:List aA)(i:xs=bd l)(s:∀x∈l,aB g (ey x::caps) (.bool (p x))):aB 270 [.aa 6 xs,.fn g caps] (ab (ev p l)):=by
 refine aY Tryz.func270 (λ A q P Y w d t=>?_);conv=>cbv
 refine mL d t (w.mem (p:=.aa 6 xs) al).len (by rw[i];simp[bd]) (λ y z j k m n o=>?_);refine aR (λ a=>?_) λ a=>?_;·refine kA d i j (k a) (λ x f=>cp ?_);refine lN d (s x (aT f)) (by simp[ey]) ?_;refine aR (λ c=>?_) λ c=>?_;(·exact m x f c);exact n x f c _ ba
 exact o a
def Le{g:FuncId} {caps xs:am}(p:aA->Bool)(l:List aA)(c:xs=bd l)(a:∀x∈l,aB g (ey x::caps) (.bool (p x))):aB 222 [.aa 6 xs,.fn g caps] (.bool (l.any p)):=mX (Lm p l c a) Tryz.func222
end Go.Abs
namespace Go.Abs
def ei(n lo a:Int):Bool:=decide (lo<=n)&&decide (n<=a)
def nn(s:cI):Bool:=decide (s.b4<0) ||decide (s.b5<=s.b4) ||decide (1440<s.b5)
def jP(l:List cI):Bool:=!l.any nn
def iN:aI->Bool|a::b::c::r=>!(decide (a<b) ||decide (c<a))&&iN r|_=>true
def ji(k:eE):Bool:=iN [k.hK,1,64,k.h4,k.hK,64,k.m5,1,8,k.Weight,1,8,k.gw,0,60,(k.ed.length:Int),0,16]&&decide (k.gw.tmod 10=0)&&!k.ed.any (λ a=>!jP a)
def mF(x:Nat)(l:aI):Nat:=l.foldl (λ x v=>x|||2^v.toNat) x
def mM(n:Nat):Nat->aI->Bool|_,[]=>true|x,v::r=>decide (0<=v)&&decide (v<n)&&decide (x&&&2^v.toNat=0)&&mM n (x|||2^v.toNat) r
def jL(n:Nat)(s:gl):Bool:=mM n 0 s.aU&&decide (mF 0 s.aU≠0)
def o4(l:List Nat):Nat->aI->Bool|_,[]=>true|x,s::r=>decide (0<=s)&&decide (s<l.length)&&decide (x&&&l.getD s.toNat 0=0)&&o4 l (x|||l.getD s.toNat 0) r
def o5(l:List Nat)(x:Nat)(c:aI):Nat:=c.foldl (λ x s=>x|||l.getD s.toNat 0) x
def ga(l:List gl):List Nat:=l.map λ s=>mF 0 s.aU
def ni(n:Nat)(l:List Nat)(c:lq):Bool:=o4 l 0 c.bN&&decide (o5 l 0 c.bN=2^n-1)
def hX(n:Nat)(ss:List gl)(cs:List lq):Bool:=decide (1<=n)&&decide (n<=64)&&decide (ss.length<=64)&&decide (1<=cs.length)&&decide (cs.length<=32)&&ss.all (jL n)&&cs.all (ni n (ga ss))
def sI(s:gl):Bool:=ei s.qO 0 64&&ei s.ub 0 s.qO
def rM(l:aI):Bool:=ei l.length 1 16&&l.all λ n=>ei n 0 64
def nx(bq:Int)(x:dT):Bool:=ei x.ud 0 127&&ei x.fB 0 (bq-1)&&ei x.Length 1 4096&&decide (0<x.df.length)&&jP x.df
def l4(bq nm:Int)(w:Way):Bool:=ei w.b4 0 (nm-1)&&ei w.b5 0 (nm-1)&&ei w.cY.length 1 8&&w.cY.all (nx bq)
def ea(t:aE):Bool:=ei t.aU 1 64&&hX t.aU.toNat t.bN t.c5&&t.bN.all sI&&decide (t.cf.length<=16)&&t.cf.all rM&&decide (t.aM.length<=64)&&t.aM.all (l4 t.aU t.cf.length)&&decide (t.bU.length<=8)&&t.bU.all λ k=>ji k&&decide (k.ed.length=t.cf.length)
def ky:Int->aI->Bool|_,[]=>true|p,t::r=>decide (0<=t)&&decide (t<=65535)&&decide (p<t)&&ky t r
def jj(ws:List Way)(p:be):Bool:=match(if 0<=p.Way then ws[p.Way.toNat]? else none)with|none=>false|some w=>decide (p.bK.length=w.cY.length+1)&&ky (-1) p.bK
def ih:List dT->aI->List bH|x::r,a::b::ts=>⟨false,x.fB,⟨a,b⟩⟩::ih r (b::ts) |_,_=>[]
def p0(w:Way)(ts:aI):List bH:=⟨true,w.b4,⟨ts.headD 0,ts.headD 0+1⟩⟩::ih w.cY ts++[⟨true,w.b5,⟨ts.getLastD 0,ts.getLastD 0+1⟩⟩]
def w7{t:aE}(h:ea t=true){w:Way}(hw:w∈t.aM):w.cY.length<=8/\1<=w.cY.length:=by unfold ea at h;simp only[bP,cu]at h;have:=h.1.1.2 w hw;simp only[l4,ei,bP,bX]at this;omega
open Go.RowKit
def Cx(n:Nat):af:=.int .u64 (n:Int)
def oY(l:List Nat):am:=l.map Cx
section
variable{A:dF} {E:Env}
def ze{n:Nat}(h:n<2^64):IntKind.u64.wrap (n:Int)=(n:Int):=by unfold IntKind.wrap;simp[IntKind.bits,IntKind.signed];omega
def JQ{v:Int}(a:0<=v)(c:v<64):(ay E).sc .u64 1 v=((2^v.toNat:Nat):Int):=by show IntKind.u64.wrap (1*2^v.toNat)=_;rw[Int.one_mul,show((2:Int)^v.toNat)=((2^v.toNat:Nat):Int)by simp];exact ze (Nat.pow_lt_pow_right ac ac)
def KB{x y:Nat}(a:x<2^64):(BitVec.ofInt 64 (x:Int)&&&BitVec.ofInt 64 (y:Int)).toNat=x&&&y:=by rw[BitVec.ofInt_natCast,BitVec.ofInt_natCast,BitVec.toNat_and,BitVec.toNat_ofNat,BitVec.toNat_ofNat,sm a];apply Nat.eq_of_testBit_eq;intro c;rw[um,um,Nat.testBit_mod_two_pow];by_cases d:c<64;(·simp[d]);have:x.testBit c=false:=Nat.testBit_lt_two_pow (gN a (Nat.pow_le_pow_right ac ac));simp[this]
theorem Kn{x y:Nat}(a:x<2^64)(c:y<2^64):(BitVec.ofInt 64 (x:Int) |||BitVec.ofInt 64 (y:Int)).toNat=x|||y:=by rw[BitVec.ofInt_natCast,BitVec.ofInt_natCast,BitVec.toNat_or,BitVec.toNat_ofNat,BitVec.toNat_ofNat,sm a,sm c]
def Is{x y:Nat}(a:x<2^64):(ay E).lI .and .u64 x y=((x&&&y:Nat):Int):=by show IntKind.u64.wrap (((BitVec.ofInt 64 (x:Int)&&&BitVec.ofInt 64 (y:Int)).toNat:Nat):Int)=_;rw[KB a];exact ze (Nat.lt_of_le_of_lt Nat.and_le_left a)
def IP{x y:Nat}(a:x<2^64)(c:y<2^64):(ay E).lI .or .u64 x y=((x|||y:Nat):Int):=by show IntKind.u64.wrap (((BitVec.ofInt 64 (x:Int) |||BitVec.ofInt 64 (y:Int)).toNat:Nat):Int)=_;rw[Kn a c];exact ze (v_ a c)
def HS{v:Int}(a:v<64):2^v.toNat<2^64:=Nat.pow_lt_pow_right ac ac
def Cj(d:A=ay E){l:List Nat} {xs:am}(f:xs=oY l){n:Int} {K:am->Prop}(a:0<=n)(c:n<l.length)(ae:∀x,l[n.toNat]?=some x->K [.int .u64 (x:Int)]):A.idx xs n K:=gj d (l:=l) (enc:=Cx) f.symm a c λ x h=>ae x h
def JR{n:Nat}(a:1<=n)(c:n<=64):(ay E).oE 18446744073709551615 (64-(n:Int))=((2^n-1:Nat):Int):=by show(18446744073709551615:Int).fdiv (2^(64-(n:Int)).toNat)=_;have e:(64-(n:Int)).toNat=64-n:=ac;rw[e];(have:∀m:Fin 65,1<=m.val->(18446744073709551615:Int).fdiv (2^(64-m.val))=((2^m.val-1:Nat):Int):=by decide+kernel);exact this ⟨n,ac⟩ a
def OA{ss:List gl} {n:Nat}(g:n<=64)(h:ss.all (jL n)=true):∀x∈ga ss,x<2^64:=by (have key:∀(vs:aI)(x:Nat),x<2^64->mM n x vs=true->mF x vs<2^64:=by intro vs;induction vs with|nil=>intro x a _;exact a|cons v r f=>intro x a c;simp only[mM,bP,bX]at c;exact f _ (v_ a (HS ac)) c.2);intro x a;simp only[ga,a_]at a;obtain⟨s,d,rfl⟩:=a;have:=cu.1 h s d;simp only[jL,bP]at this;exact key _ 0 ac this.1
end
section
variable{A:dF} {E:Env}
def cx(a:A=ay E)(h:A.fi true=true):False:=by subst a;cases h
def dm(a:A=ay E)(h:A.fi false=false):False:=by subst a;cases h
def e1(a:A=ay E){b:Bool}(h:A.fi b=true):b=false:=by subst a;simpa[ay]using h
def eV(a:A=ay E){b:Bool}(h:A.fi b=false):b=true:=by subst a;simpa[ay]using h
def eG(c:A=ay E){a b:Int}(h:A.ha a b=true):a<b:=by subst c;simpa[ay]using h
def ej(c:A=ay E){a b:Int}(h:A.ha a b=false):b<=a:=by subst c;simp[ay]at h;omega
def fI(c:A=ay E){a b:Int}(h:A.hP a b=true):a<=b:=by subst c;simpa[ay]using h
def ft(c:A=ay E){a b:Int}(h:A.hP a b=false):b<a:=by subst c;simp[ay]at h;omega
def mc(c:A=ay E){a b:Int}(h:A.cV a b=true):a=b:=by subst c;simpa[ay]using h
def k2(c:A=ay E){a b:Int}(h:A.cV a b=false):a≠b:=by subst c;simpa[ay]using h
def b3(c:A=ay E){a b:Int}(h:A.fi (A.cV a b)=true):a≠b:=k2 c (e1 c h)
def db(c:A=ay E){a b:Int}(h:A.fi (A.cV a b)=false):a=b:=mc c (eV c h)
def a7(f:A=ay E){a b c d:Int}(g:a=c)(i:b=d)(h:A.ha a b=true):c<d:=by subst g i;exact eG f h
def bc(f:A=ay E){a b c d:Int}(g:a=c)(i:b=d)(h:A.ha a b=false):d<=c:=by subst g i;exact ej f h
def qm(f:A=ay E){a b c d:Int}(g:a=c)(i:b=d)(h:A.hP a b=true):c<=d:=by subst g i;exact fI f h
def qn(f:A=ay E){a b c d:Int}(g:a=c)(i:b=d)(h:A.hP a b=false):d<c:=by subst g i;exact ft f h
def jp(f:A=ay E){a b c d:Int}(g:a=c)(i:b=d)(h:A.cV a b=true):c=d:=by subst g i;exact mc f h
def iF(f:A=ay E){a b c d:Int}(g:a=c)(i:b=d)(h:A.cV a b=false):c≠d:=by subst g i;exact k2 f h
def iG(f:A=ay E){a b c d:Int}(g:a=c)(i:b=d)(h:A.fi (A.cV a b)=true):c≠d:=by subst g i;exact b3 f h
def j1(f:A=ay E){a b c d:Int}(g:a=c)(i:b=d)(h:A.fi (A.cV a b)=false):c=d:=by subst g i;exact db f h
def KX(c:A=ay E)(a b:Int):A.cV a b=decide (a=b):=by subst c;rfl
def bv(c:A=ay E)(a b:Int):A.ak a b=a+b:=by subst c;rfl
def gZ(c:A=ay E)(a b:Int):A.bL a b=a-b:=by subst c;rfl
def kS(c:A=ay E)(a b:Int):A.eh a b=a*b:=by subst c;rfl
def yi(c:A=ay E)(a b:Int):A.hI a b=a.tmod b:=by subst c;rfl
def KY(c:A=ay E)(a b:Int):A.xY a b=a.tdiv b:=by subst c;rfl
def ap(a:A=ay E){xs:am} {n:Nat}(h:xs.length=n):A.aH xs=(n:Int):=by subst a;subst h;rfl
def pc(a:A=ay E)(n:Nat):A.ck n=(n:Int):=by subst a;rfl
def r0(a:A=ay E)(n:Int):A.cj n=n.toNat:=by subst a;rfl
def a1(c:A=ay E){a b:Int}(e:a=b)(h:dx b):A.bS a:=by subst c;subst e;exact h
def zO(f:A=ay E){a b c:Int}(e:b=c)(d:0<=a)(h:a<c):A.within a b:=by subst f;subst e;exact⟨d,h⟩
def ff(d:A=ay E){nb:Nat×Nat}(k:Nat)(N:Int)(inv:Int->Prop)(z:Int){body:Code} {W:ai->(fb->ai->Prop)->Prop} {st:ai} {Q:fb->ai->Prop}(f:z<=z/\z<=N/\inv z)(l:∀(R:ai->Prop)a,z<=a/\a<=N/\inv a->(∀y c,aZ nb c ((o9 body st).put (some k) (au y))->z<=y/\y<=N/\inv y->(N-y).toNat<(N-a).toNat->R c)->A.ak a 1=a+1->(a<N->A.bS (A.ak a 1)/\(N-A.ak a 1).toNat<(N-a).toNat/\(inv (a+1)->z<=A.ak a 1/\A.ak a 1<=N/\inv (A.ak a 1)))->W ((o9 body st).put (some k) (au a)) λ e c=>match e with| .normal=>R c| .exit a=>Q (.exit a) c| .ret=>Q .ret c)(i:dx N:=by unfold dx;omega)(n:dx z:=by unfold dx;omega)(g:aZ nb st ((o9 body st).put (some k) (au z)):=by(conv=>cbv);exact cT):A.loop nb body W st Q:=b6 d (λ a s=>s.put (some k) (au a)) (λ a=>z<=a/\a<=N/\inv a) (λ a=>(N-a).toNat) z g f λ R a f j=>l R a f j (bv d _ _) λ h=>by have e:=bv d a 1;unfold dx at i n;refine⟨a1 d e aW,by rw[e];omega,λ m=>?_⟩;rw[e];exact⟨ac,ac,m⟩
end
def iQ{α:Type} {p:α->Prop} {l l':List α} {y:α}(e:l'=l++[y])(h:∀x∈l,p x)(d:p y):∀x∈l',p x:=by subst e;intro x c;rcases dH.1 c with a|a;(·exact h x a);rw[dG.1 a];exact d
def lg{α:Type} {p:α->Prop} {l:List α} {i:Int}(a:i=(l.length:Int))(h:∀x∈l.take i.toNat,p x):∀x∈l,p x:=by rw[eD ac]at h;exact h
def Dw{α:Type} {p:α->Bool} {l:List α}(h:∀x∈l,p x=false):l.any p=false:=by rw[iz];intro x a;simp[h x a]
def Ko{α:Type} {p:α->Bool} {l:List α}(h:∀x∈l,p x=true):l.all p=true:=by rw[cu];exact h
def Te(s:ah):mZ s s:=(w6 [s]).1
def np{t m:Nat} {xs:am} {l l':aP}(h:gu l l'):gu (.own t m xs::l) (ah.val (.aa m xs)::l'):=⟨.inr (.inl rfl),h⟩
def sO{m:Nat} {xs:am} {l l':aP}(h:gu l l'):gu (.lit m xs::l) (ah.val (.aa m xs)::l'):=⟨.inr (.inl rfl),h⟩
inductive gT:af->af->Prop|refl(p:af):gT p p|nil(m pq:Nat)(tu:pq=0->m=0:=by first|decide| (intro h;cases h) |exact λ h=>h):gT (.aa m []) (.aa pq []) |aa(m:Nat)(xs cQ:List af)(mf:xs.length=cQ.length)(h:∀(i:Nat)(x y:af),xs[i]?=some x->cQ[i]?=some y->gT x y):gT (.aa m xs) (.aa m cQ) |agg(xs cQ:List af)(mf:xs.length=cQ.length)(h:∀(i:Nat)(x y:af),xs[i]?=some x->cQ[i]?=some y->gT x y):gT (.agg xs) (.agg cQ) |bf(xs cQ:List af)(mf:xs.length=cQ.length)(h:∀(i:Nat)(x y:af),xs[i]?=some x->cQ[i]?=some y->gT x y):gT (.bf xs) (.bf cQ) |map(ks vs C5 Dn:List af)(mf:C5.length=Dn.length)(Jd:(ks.zip vs).Perm (C5.zip Dn)):gT (.map ks vs) (.map C5 Dn)
def wG{α c:Type} {xs:List α} {a:List c}(d:xs.length=a.length){i:Nat} {y:c}(h:a[i]?=some y):∃x,xs[i]?=some x:=⟨xs[i]'(by rw[d];exact(aD.1 h).1),aQ _⟩
def gT.cells{p q:af}(h:gT p q):p.cells.length=q.cells.length/\∀(j:Nat)(c d:af),p.cells[j]?=some c->q.cells[j]?=some d->gT c d:=by cases h with|refl p=>exact⟨rfl,λ j c d a f=>by rw[a]at f;cases f;exact .refl _⟩ |agg xs i g h=>exact⟨g,h⟩ |nil m o k=>(refine⟨rfl,λ j c d a f=>?_⟩;cases j with|zero=>simp[af.cells]at a f;subst a f;exact .nil m o k|succ j=>simp[af.cells]at a)|aa m xs i g h=>(refine⟨rfl,λ j c d a f=>?_⟩;cases j with|zero=>simp[af.cells]at a f;subst a f;exact .aa m xs i g h|succ j=>simp[af.cells]at a)|bf xs i g h=>(refine⟨rfl,λ j c d a f=>?_⟩;cases j with|zero=>simp[af.cells]at a f;subst a f;exact .bf xs i g h|succ j=>simp[af.cells]at a)|map ks vs n s g l=>refine⟨rfl,λ j c d a f=>?_⟩;cases j with|zero=>simp[af.cells]at a f;subst a f;exact .map ks vs n s g l|succ j=>simp[af.cells]at a
def aq.le{S:bA} {w:World} {p:af} {v:Value}(h:aq S w p v):∀{q:af},gT p q->aq S w q v:=by induction h with|any v=>intro q i;cases i;exact .any v|int k n=>intro q i;cases i;exact .int k n|bool b=>intro q i;cases i;exact .bool b|str s=>intro q i;cases i;exact .str s|bI a cs g z F l K _=>intro q i;cases i;exact .bI a cs g z F l K|ch=>intro q i;cases i;exact .ch|loc b=>intro q i;cases i;exact .loc b|c4 b n cap z F=>intro q i;cases i;exact .c4 b n cap z F|k4 f ab vs o h _=>intro q i;cases i;exact .k4 f ab vs o h|agg cs vs o h E=>(intro q i;cases i with|refl=>exact .agg cs vs o h|agg xs J B G=>refine .agg J vs ac λ j c v l I=>?_;obtain⟨x,t⟩:=wG B l;exact E j x v t I (G j x c t l)) |bf cs vs o h E=>(intro q i;cases i with|refl=>exact .bf cs vs o h|bf xs J B G=>refine .bf J vs ac λ j c v l I=>?_;obtain⟨x,t⟩:=wG B l;exact E j x v t I (G j x c t l)) |aa m xs a L cap g U ag O X l K Q E=>(intro q i;cases i with|refl=>exact .aa m xs a L cap g U ag O X l K Q|nil m am ad=>exact aq.ow am a cap O (λ e=>Q (ad e)) |aa m xs J B G=>rw[B];(have W:∀(j:Nat)(y:af)(C:Nat)(d:af),J[j]?=some y->y.cells[C]?=some d->∃x c,xs[j]?=some x/\x.cells[C]?=some c/\gT c d:=λ j y C d D H=>by obtain⟨x,t⟩:=wG B D;obtain⟨aj,ak⟩:=(G j x y t D).cells;obtain⟨c,l⟩:=wG aj H;exact⟨x,c,t,l,ak C c d l H⟩);refine .aa m J a L cap g (λ ah=>U (λ e=>ah ?_)) ac O (λ j y D=>?_) (λ j y C d D H=>?_) (λ j y C d D H=>?_) Q;(·subst e;exact hp B.symm);(·obtain⟨x,t⟩:=wG B D;rw[<-(G j x y t D).cells.1];exact X j x t);(·obtain⟨x,c,z,F,_⟩:=W j y C d D H;exact l j x C c z F);obtain⟨x,c,z,F,ae⟩:=W j y C d D H;exact E j x C c z F ae)|ptr cs off L g l K E=>intro q i;cases i;exact .ptr cs off L g l K|fn f Z vs o h E=>intro q i;cases i;exact .fn f Z vs o h|fJ al=>intro q i;cases i;exact .fJ al|ref v h=>intro q i;cases i;exact .ref v h|qI=>(intro q i;cases i with|refl=>exact .qI|map ks vs R N o M=>have z:=M.length_eq;simp[mC]at z;cases R with|nil=>(cases N with|nil=>exact .qI|cons _ _=>cases o)|cons _ _=>cases N with|nil=>cases o|cons _ _=>simp at z)|map ks vs es b arr clock M o T V he I E=>intro q i;cases i with|refl=>exact .map ks vs es b arr clock M o T V he I|map ks vs R N B ai=>exact .map R N es b arr clock (M.trans ai) B T V he I
inductive d_:List af->List af->Prop|nil:d_ [] [] |cons{x y:af} {xs cQ:List af}(h:gT x y)(Tn:d_ xs cQ):d_ (x::xs) (y::cQ)
theorem d_.refl:∀(l:am),d_ l l| []=>.nil|x::r=>.cons (.refl x) (d_.refl r)
theorem bh.le{S:bA} {w:World}:∀{ps a:am} {vs:List Value},d_ ps a->bh S w ps vs->bh S w a vs|_,_,vs,.nil,h=>h|_,_,[],.cons _ _,h=>by have:=h.1;simp at this|_,_,v::vs,.cons f g,h=>bh.cons (aq.le (h.2 0 _ v rfl rfl) f) (bh.le g ⟨by have:=h.1;simpa using this,λ i p u c d=>h.2 (i+1) p u (by simpa using c) (by simpa using d)⟩)
def fL.le{P:Program} {f:FuncId} {args args':am} {p p':af}(h:fL P f args' p)(c:d_ args args')(g:gT p p'):fL P f args p':=by refine⟨h.1,λ S w vs a j=>(h.2 S w vs a (j.le c)).mono ?_⟩;rintro e k⟨v,he,d,i⟩;exact⟨v,he,d,i.le g⟩
def vA:Nat->af->af->Bool|0,_,_=>false|n+1,.aa m xs,.aa d c=>(xs.isEmpty&&c.isEmpty&&(decide (d≠0) ||decide (m=0))) || (decide (m=d)&&decide (xs.length=c.length)&&(xs.zip c).all λ p=>vA n p.1 p.2) |n+1,.agg xs,.agg c=>decide (xs.length=c.length)&&(xs.zip c).all λ p=>vA n p.1 p.2|n+1,.bf xs,.bf c=>decide (xs.length=c.length)&&(xs.zip c).all λ p=>vA n p.1 p.2|_+1,.int k a,.int f b=>decide (k=f)&&decide (a=b) |_+1,.bool a,.bool b=>decide (a=b) |_+1,.str a,.str b=>decide (a=b) |_+1,_,_=>false
def u_:∀(n:Nat)(p q:af),vA n p q=true->gT p q:=by intro n;induction n with|zero=>intro p q h;cases h|succ n s=>intro p q h;(have f:∀{xs a:am},((xs.zip a).all λ p=>vA n p.1 p.2)=true->∀(d:Nat)(x y:af),xs[d]?=some x->a[d]?=some y->gT x y:=by intro xs a h d x y l o;refine s x y (cu.1 h (x,y) (aT (i:=d) ?_));rw[qY];exact⟨l,o⟩);unfold vA at h;split at h;(·cases h);(next g m xs t a he=>cases he;rw[lT]at h;rcases h with h|h;(·simp only[bP,List.isEmpty_iff,lT,bX]at h;obtain⟨⟨rfl,rfl⟩,c⟩:=h;exact .nil _ _ (λ e=>by rcases c with c|c;exact absurd e c;exact c));simp only[bP,bX]at h;obtain⟨⟨rfl,j⟩,k⟩:=h;exact .aa _ _ _ j (f k));(next g xs a he=>cases he;simp only[bP,bX]at h;exact .agg _ _ h.1 (f h.2));(next g xs a he=>cases he;simp only[bP,bX]at h;exact .bf _ _ h.1 (f h.2));(·simp only[bP,bX]at h;obtain⟨rfl,rfl⟩:=h;exact .refl _);(·simp only[bX]at h;subst h;exact .refl _);(·simp only[bX]at h;subst h;exact .refl _);cases h
def gJ(lo a:Int):aI:=(List.range (a-lo+1).toNat).map λ(c:Nat)=>lo+(c:Int)
def F'{lo a x:Int}:x∈gJ lo a↔lo<=x/\x<=a:=by unfold gJ;simp only[a_,h_];constructor;(·rintro⟨f,h,rfl⟩;omega);rintro⟨c,d⟩;exact⟨(x-lo).toNat,ac,ac⟩
def yN(lo a:Int):(gJ lo a).length=(a-lo+1).toNat:=by simp[gJ]
def Ga{lo a:Int} {i:Nat}(h:lo+i<=a):(gJ lo a)[i]?=some (lo+i):=by unfold gJ;rw[bm,m9 ac];rfl
def E1{lo a x:Int}(c:lo<=x)(d:x<=a):(gJ lo a).take (x+1-lo).toNat=(gJ lo a).take (x-lo).toNat++[x]:=by rw[show(x+1-lo).toNat=(x-lo).toNat+1 by omega,fX,Ga ac];simp;omega
def Gb(lo a d:Int):gJ (lo+d) (a+d)=(gJ lo a).map (·+d):=by unfold gJ;rw[dv,show a+d-(lo+d)+1=a-lo+1 by omega];refine gm λ c _=>?_;simp only[iS];omega
def j2:Int->List dz->List aI|_,[]=>[[]] |last,b::r=>(gJ (last+b.cr) (last+b.cB)).flatMap λ t=>(j2 t r).map (t::·)
def ki:Int->List dz->aI->Prop|_,[],ts=>ts=[] |_,_::_,[]=>False|last,b::r,t::ts=>(last+b.cr<=t/\t<=last+b.cB)/\ki t r ts
theorem uW:∀{bs:List dz} {last:Int} {ts:aI},ts∈j2 last bs↔ki last bs ts| [],last,ts=>by simp[j2,ki] |b::r,last,ts=>by simp only[j2,uj,a_,F'];cases ts with|nil=>simp[ki] |cons t ts=>simp only[ki,List.cons.injEq];constructor;(·rintro⟨d,h,f,a,rfl,rfl⟩;exact⟨h,uW.1 a⟩);rintro⟨c,a⟩;exact⟨t,c,ts,uW.2 a,rfl,rfl⟩
def oa(b:dz):Nat:=(b.cB-b.cr+1).toNat
def eZ:List dz->Nat| []=>1|b::r=>oa b*eZ r
theorem Cb:∀(bs:List dz)(last:Int),(j2 last bs).length=eZ bs| [],_=>rfl|b::r,last=>by simp only[j2,ur,cE,eZ];rw[show(λ t=>(j2 t r).length)=λ _=>eZ r from funext λ t=>Cb r t];rw[List.map_const',yq,yN];congr 1;unfold oa;congr 1;omega
def G8:∀{bs:List dz},(∀b∈bs,b.cr<=b.cB)->0<eZ bs| [],_=>by simp[eZ] |b::r,h=>by have d:=h b al;exact Nat.mul_pos (by unfold oa;omega) (G8 λ c a=>h c (by simp[a]))
theorem AM:∀(a b:List dz),eZ (a++b)=eZ a*eZ b| [],b=>by simp[eZ] |x::a,b=>by rw[nc,eZ,AM a b,eZ,Nat.mul_assoc]
def Bg:∀{bs:List dz} {last:Int} {ts:aI},ki last bs ts↔ts.length=bs.length/\∀(k:Nat)(b:dz)(t p:Int),bs[k]?=some b->ts[k]?=some t->(last::ts)[k]?=some p->p+b.cr<=t/\t<=p+b.cB| [],last,ts=>by simp only[ki,oJ,yp];exact⟨λ h=>⟨h,λ k b t p a=>by simp at a⟩,λ h=>h.1⟩ |c::r,last,[]=>by simp[ki] |c::r,last,t0::ts=>by simp only[ki];rw[Bg (bs:=r)];constructor;(·rintro⟨a,i,j⟩;refine⟨by simp[i],λ k b t p d g f=>?_⟩;cases k with|zero=>simp at d g f;subst d g f;exact a|succ k=>exact j k b t p (by simpa using d) (by simpa using g) (by simpa using f));rintro⟨a,i⟩;refine⟨i 0 c t0 last rfl rfl rfl,by simpa using a,λ k b t p d g f=>i (k+1) b t p (by simpa using d) (by simpa using g) (by simpa using f)⟩
open Go.Proofs Go.RowKit
def o6(n lo a:Int):aB 103 [ab n,ab lo,ab a] (.bool (ei n lo a)):=by refine aY Tryz.func103 (λ A q P Y f c d=>?_);(conv=>cbv);split<;>(rename_i h;conv=>cbv)<;>(subst c;subst d;simp_all[ay,ei];try omega)
def Mw(s:cI):aB 187 [jx s] (.bool (nn s)):=by
 refine aY Tryz.func187 (λ A q P Y g c d=>?_);obtain⟨a,b⟩:=s;conv=>cbv
 split<;>(rename_i h;conv=>cbv);·subst c;subst d;simp_all[ay,nn]
 split<;>(rename_i f;conv=>cbv)<;>(subst c;subst d;simp_all[ay,nn];try omega)
def E2{xs:am}(l:List cI)(f:xs=cP l):aB 108 [.aa 2 xs] (ab (if jP l then 0 else 50)):=by refine aY Tryz.func108 (λ A q P Y a c d=>?_);refine cp (cZ c (D1 nn l f λ x _=>Mw x) ?_);obtain⟨r,a⟩:=aC (l.any nn);rw[<-a];(conv=>cbv);split<;>(conv=>cbv)<;>(rw[<-d];simp[jP,<-a])
def Mx(l:aI)(i:Nat)(h:i+2<l.length):iN (l.drop i)=(!(decide (l[i]<l[i+1]) ||decide (l[i+2]<l[i]))&&iN (l.drop (i+3))):=by rw[hV ac,hV ac,hV ac,iN]
def L7(l:aI)(h:l.length<=2):iN l=true:=by match l,h with| [],_=>rfl| [_],_=>rfl| [_,_],_=>rfl
def AN{xs:am}(l:aI)(f:xs=av l)(U:l.length<=1000):aB 243 [.aa 1 xs] (.bool (iN l)):=by
 refine aY Tryz.func243 (λ A q P Y V c t=>?_);have B:xs.length=l.length:=by rw[f];simp[av]
 refine cp (b6 c (λ(a:Int)s=>s.put (some 3) (au a)) (λ a=>0<=a/\a<=l.length+3/\iN l=iN (l.drop a.toNat)) (λ a=>(l.length+3-a).toNat) 0 ?_ ?_ ?_);·(conv=>cbv);exact cT k8
 ·exact⟨bk _,ac,al⟩
 intro T a d J;have E:dx (a+2):=aW;have Q:dx (a+1):=aW;have R:dx (a+3):=aW;conv=>cbv
 refine⟨by subst c;exact E,?_⟩;split;next m=>(have I:a+2<l.length:=by subst c;rw[<-B];simpa[ay]using m);have M:a.toNat+2<l.length:=ac;have hw:=Mx l a.toNat M;have F:(a+1).toNat=a.toNat+1:=ac;have G:(a+2).toNat=a.toNat+2:=ac;have H:(a+3).toNat=a.toNat+3:=ac;(conv=>cbv);refine⟨cK c bb,?_⟩;refine dZ c f d.1 ac (λ x D=>cp ?_);refine⟨by subst c;exact Q,?_⟩;refine dZ c f (n:=A.ak a 1) (by subst c;show 0<=a+1;omega) (by subst c;show a+1<l.length;omega) (λ y N=>?_);have j:l[a.toNat]=x:=(aD.1 D).2;(have k:l[a.toNat+1]=y:=by subst c;have:l[(a+1).toNat]?=some y:=N;rw[F]at this;exact(aD.1 this).2);(conv=>cbv);(have fin:∀b:Bool,iN l=(b&&iN (l.drop (a.toNat+3)))->b=true->(0<=a+3/\a+3<=l.length+3/\iN l=iN (l.drop (a+3).toNat))/\(l.length+3-(a+3)).toNat<(l.length+3-a).toNat:=by intro b K L;subst L;exact⟨⟨ac,ac,by rw[H,K];simp⟩,ac⟩);split;(next o=>(conv=>cbv);rw[<-t,d.2.2,hw,j,k];(have g:x<y:=by subst c;simpa[ay]using o);simp[g]);rename_i o;(have g:¬x<y:=by subst c;simpa[ay]using o);refine cp (dZ c f d.1 ac (λ S C=>?_));(obtain rfl:x=S:=by rw[D]at C;exact bC C);(conv=>cbv);refine⟨by subst c;exact E,?_⟩;refine dZ c f (n:=A.ak a 2) (by subst c;show 0<=a+2;omega) (by subst c;show a+2<l.length;omega) (λ z O=>?_);(have w:l[a.toNat+2]=z:=by subst c;have:l[(a+2).toNat]?=some z:=O;rw[G]at this;exact(aD.1 this).2);refine aR (λ p=>?_) λ p=>?_;(·rw[<-t,d.2.2,hw,j,k,w];(have i:z<x:=by subst c;simpa[ay]using p);simp[i]);(have i:¬z<x:=by subst c;simpa[ay]using p);refine⟨by subst c;exact R,J (A.ak a 3) _ (by(conv=>cbv);exact cT k8) ?_ ?_⟩;(·subst c;exact(fin _ (d.2.2.trans hw) (by rw[j,k,w];simp[g,i])).1);subst c;exact(fin _ (d.2.2.trans hw) (by rw[j,k,w];simp[g,i])).2
 rename_i m;have I:¬a+2<l.length:=by subst c;rw[<-B];simpa[ay]using m
 conv=>cbv
 rw[<-t,d.2.2,L7];simp;omega
def NC{xs:am}(l:List cI)(f:xs=cP l):aB 245 [.aa 2 xs] (.bool (!jP l)):=by refine aY Tryz.func245 (λ A q P Y c a d=>?_);(conv=>cbv);refine vw a (E2 l f) rfl (λ r c=>cp ?_);subst a;subst d;subst c;cases jP l<;>simp[ay]
def OB(k:eE)(ae:k.ed.length<=9223372036854775807):aB 190 [fN k] (.bool (ji k)):=by
 refine aY Tryz.func190 (λ A q P Y p f g=>?_);obtain⟨a,b,c,d,e,i⟩:=k;simp only[fN,ji]at g⊢;obtain⟨cs,o⟩:=aC (fF i);have s:cs.length=i.length:=by rw[o];simp[fF]
 rw[<-o];refine cp (dU f (AN [a,1,64,b,a,64,c,1,8,d,1,8,e,0,60,A.aH cs,0,16] rfl al) rfl (λ r p=>?_));have t:r=iN [a,1,64,b,a,64,c,1,8,d,1,8,e,0,60,(i.length:Int),0,16]:=by rw[p];subst f;simp[ay,s]
 rw[<-t]at g;refine aR (λ l=>?_) λ l=>?_;·(have j:r=false:=by subst f;simpa[ay]using l);rw[<-g,j];rfl
 have j:r=true:=by subst f;simpa[ay]using l
 refine⟨by subst f;simp[ay],?_⟩;split;next m=>(have n:¬e.tmod 10=0:=by subst f;simpa[ay]using m);(conv=>cbv);rw[<-g,j];simp[n]
 rename_i m;have n:e.tmod 10=0:=by subst f;simpa[ay]using m
 conv=>cbv
 refine dU f (Lb (λ y=>!jP y) i o λ x _=>NC x rfl) rfl (λ z w=>cp ?_);rw[<-g,j,<-w];subst f;simp[ay,n]
def E3(k:eE)(ae:k.ed.length<=9223372036854775807):aB 113 [fN k] (ab (if ji k then 0 else 120)):=by
 refine aY Tryz.func113 (λ A q P Y i f g=>?_);have a:=OB k ae;simp only[fN]at a⊢;generalize ji k=j at a g;generalize fF k.ed=cs at a⊢;refine cp (dU f a rfl (λ r i=>?_));refine aR (λ c=>?_) λ c=>?_;·(have d:r=false:=by subst f;simpa[ay]using c);rw[<-g,<-i,d];rfl
 have d:r=true:=by subst f;simpa[ay]using c
 rw[<-g,<-i,d];rfl
def OC(s:gl):aB 102 [k_ s] (.bool (sI s)):=by
 refine aY Tryz.func102 (λ A q P Y d f c=>?_);obtain⟨j,i,vs,a,b⟩:=s;simp only[k_,sI]at c⊢;generalize oX i=l;generalize av vs=m;conv=>cbv
 refine dU f (o6 a 0 64) rfl (λ r d=>cp ?_);split;·(conv=>cbv);refine dU f (o6 b 0 a) rfl (λ k g=>cp ?_);rw[<-c,<-d,<-g];rfl
 conv=>cbv
 rw[<-c,<-d];rfl
def P5(n:Int):aB 106 [b' n] (.bool (ei n 0 64)):=by refine aY Tryz.func106 (λ A q P Y a c d=>?_);(conv=>cbv);refine dU c (o6 n 0 64) rfl (λ r a=>cp ?_);rw[<-d,a]
def RT{xs:am}(l:aI)(f:xs=av l):aB 104 [.aa 1 xs] (.bool (rM l)):=by
 refine aY Tryz.func104 (λ A q P Y d c a=>?_);have g:xs.length=l.length:=by rw[f];simp[av]
 unfold rM at a;refine cp (dU c (o6 (A.aH xs) 1 16) rfl (λ r d=>?_));have i:r=ei l.length 1 16:=by rw[d];subst c;simp[ay,g]
 rw[<-i]at a;conv=>cbv
 split;·(conv=>cbv);refine dU c (JN (λ n=>ei n 0 64) l f λ x _=>P5 x) rfl (λ k j=>cp ?_);rw[<-a,<-j];rfl
 conv=>cbv
 rw[<-a];rfl
def JS(bq:Int)(E:1<=bq/\bq<=64)(l n o p s:af)(x:dT):aB 107 [iY x,.ptr [ab bq,l,n,o,p,s] 0] (.bool (nx bq x)):=by
 refine aY Tryz.func107 (λ A q P Y F d f=>?_);obtain⟨a,b,c,m⟩:=x;simp only[iY,nx]at f⊢;obtain⟨C,j⟩:=aC (cP m);have k:C.length=m.length:=by rw[j];simp[cP]
 rw[<-j];refine cp (dU d (o6 a 0 127) rfl (λ G t=>?_));rw[<-t]at f;conv=>cbv
 split;·(conv=>cbv);refine⟨by subst d;show dx (bq-1);unfold dx;omega,?_⟩;refine dU d (o6 b 0 (A.bL bq 1)) rfl (λ D w=>?_);(have y:D=ei b 0 (bq-1):=by rw[w];subst d;rfl);rw[<-y]at f;(conv=>cbv);split;(·refine cp (dU d (o6 c 1 4096) rfl (λ H z=>?_));rw[<-z]at f;(conv=>cbv);split;(·refine aR (λ g=>?_) λ g=>?_;(·(have i:0<m.length:=by subst d;rw[<-k];simpa[ay]using g);refine vw d (E2 m j) rfl (λ I B=>cp ?_);rw[<-f];subst d;subst B;cases jP m<;>simp[ay,i]);(have i:¬0<m.length:=by subst d;rw[<-k];simpa[ay]using g);rw[<-f];simp[i]);(conv=>cbv);rw[<-f];simp);(conv=>cbv);rw[<-f];simp
 conv=>cbv
 rw[<-f];simp
def E4(ms:am)(l:ms.length<=1000)(n:Int)(d f g i j:af):aB 109 [ab n,.ptr [d,f,g,i,.aa 1 ms,j] 0] (.bool (ei n 0 (ms.length-1))):=by refine aY Tryz.func109 (λ A q P Y c a k=>?_);(conv=>cbv);refine⟨by subst a;show dx (ms.length-1);unfold dx;omega,?_⟩;refine dU a (o6 n 0 (A.bL (A.aH ms) 1)) rfl (λ r c=>cp ?_);rw[<-k,c];subst a;rfl
def JT(bq:Int)(p:1<=bq/\bq<=64)(ms:am)(m:ms.length<=1000)(d f g i:af)(w:Way):aB 110 [lr w,.ptr [.fn 109 [.ptr [ab bq,d,f,g,.aa 1 ms,i] 0]] 0,.ptr [.fn 107 [.ptr [ab bq,d,f,g,.aa 1 ms,i] 0]] 0] (.bool (l4 bq ms.length w)):=by
 refine aY Tryz.func110 (λ A q P Y D j c=>?_);obtain⟨a,b,k⟩:=w;simp only[lr,l4]at c⊢;obtain⟨n,l⟩:=aC (hg k);have o:n.length=k.length:=by rw[l];simp[hg]
 rw[<-l];refine cp (dU j (E4 ms m a _ d f g i) rfl (λ E s=>?_));rw[<-s]at c;conv=>cbv
 split;·refine cp (dU j (E4 ms m b _ d f g i) rfl (λ F t=>?_));rw[<-t]at c;(conv=>cbv);split;(·refine cp (dU j (o6 (A.aH n) 1 8) rfl (λ C y=>?_));(have z:C=ei k.length 1 8:=by rw[y];subst j;simp[ay,o]);rw[<-z]at c;(conv=>cbv);split;(·(conv=>cbv);refine dU j (JO (nx bq) k l λ x _=>JS bq p d f g (.aa 1 ms) i x) rfl (λ G B=>cp ?_);rw[<-c,B];rfl);(conv=>cbv);rw[<-c];simp);(conv=>cbv);rw[<-c];simp
 conv=>cbv
 rw[<-c];simp
def RU(ms:am)(t:ms.length<=1000)(l m n o p:af)(k:eE)(ae:k.ed.length<=9223372036854775807):aB 112 [fN k,.ptr [l,m,n,o,.aa 1 ms,p] 0] (.bool (ji k&&decide (k.ed.length=ms.length))):=by
 refine aY Tryz.func112 (λ A q P Y i a g=>?_);have c:=E3 k ae;have j:(fF k.ed).length=k.ed.length:=by simp[fF]
 simp only[fN]at c⊢;generalize ji k=d at c g;generalize fF k.ed=cs at c j⊢;refine cp (vw a c rfl (λ r i=>?_));refine aR (λ s=>?_) λ s=>?_;·(have f:d=true:=by subst a;subst i;cases d<;>simp_all[ay]);rw[<-g,f,<-j];subst a;simp[ay];omega
 have f:d=false:=by subst a;subst i;cases d<;>simp_all[ay]
 rw[<-g,f];rfl
def My{n x:Nat} {v:Int} {r:aI}:mM n x (v::r)=(decide (0<=v)&&decide (v<n)&&decide (x&&&2^v.toNat=0)&&mM n (x|||2^v.toNat) r):=rfl
def L8{x:Nat} {v:Int} {r:aI}:mF x (v::r)=mF (x|||2^v.toNat) r:=rfl
def FK{α:Type} {l:List α} {i:Int} {x:α}(d:0<=i)(c:l[i.toNat]?=some x):l.drop i.toNat=x::l.drop (i+1).toNat:=by obtain⟨h,a⟩:=aD.1 c;rw[show(i+1).toNat=i.toNat+1 by omega,hV h,a]
def G9{α:Type} {l:List α} {i:Int}(h:¬i<l.length):l.take i.toNat=l:=eD ac
def G_{α:Type} {l:List α} {i:Int}(h:¬i<l.length):l.drop i.toNat=[]:=uh ac
def s9(a:Nat)(vs ss cs:am):af:=.agg [.aa a vs,.aa 5 ss,.aa 3 cs,.aa 0 [],.aa 0 [],.aa 0 [],.aa 0 [],.aa 0 []]
def Mz{vs ss cs:am}(aA:Nat)(n:Nat)(hv:vs.length=n)(aJ:n<=64)(l:List gl)(aH:l.length<=64)(M:ss=cA l):aB 246 [s9 aA vs ss cs] (if l.all (jL n)then .bf [.aa 1 (oY (ga l)),.bool true]else .bf [.aa 0 [],.bool false]):=by
 refine aY Tryz.func246 (λ A q P Y aw a p=>?_);have W:ss.length=l.length:=by rw[M];simp[cA]
 have aj:∀s∈l,s.aU.length<=9223372036854775807:=λ s ax=>by have k:=cS.cell (show cS [.agg _]from aw) (c:=.aa 5 ss) al;have m:=k.elem (x:=k_ s) (by rw[M];exact fW ax) (c:=.aa 1 (av s.aU)) (by simp[k_,af.cells]);have:=m.len;simpa[av]using this
 refine cp (b6 a (λ(y:Int×am)s=>{s.put (some 12) (.val (ab y.1))with sl:=(s.put (some 12) (.val (ab y.1))).sl.set 2 (.own 0 1 y.2),tk:=[(A.bp y.2,331)]}) (λ y=>0<=y.1/\y.1<=l.length/\y.2=oY (ga (l.take y.1.toNat))/\(l.take y.1.toNat).all (jL n)=true) (λ y=>(l.length-y.1).toNat) (0,[]) ?_ ?_ ?_);·(conv=>cbv);exact vi 2 0 1 [] _ rfl (.inr rfl) k8 (by subst a;rfl)
 ·exact⟨bk _,al,by simp[ga,oY],al⟩
 intro aF y ao ah;obtain⟨d,xs⟩:=y;obtain⟨J,ap,t,w⟩:=ao;simp only at J ap t w;refine aR (λ k=>?_) λ k=>?_;·(have D:d<l.length:=by subst a;rw[<-W];simpa[ay]using k);refine q9 a M J D (λ s aM aD N aK Z=>?_);(have ad:aD.length=s.aU.length:=by rw[Z];simp[av]);have X:=e5 J N;have aL:=aj s (aT N);(have T:jL n s=false->l.all (jL n)=false:=λ I=>by rw[na];exact⟨s,aT N,by simp[I]⟩);refine cp (b6 a (λ(y:Int×Nat)s=>((s.put (some 19) (.val (ab y.1))).put (some 6) (.val (.int .u64 (y.2:Int)))).put (some 2) (.own 0 1 xs)) (λ y=>0<=y.1/\y.1<=s.aU.length/\y.2<2^64/\mM n 0 s.aU=mM n y.2 (s.aU.drop y.1.toNat)/\mF 0 s.aU=mF y.2 (s.aU.drop y.1.toNat)) (λ y=>(s.aU.length-y.1).toNat) (0,0) ?_ ?_ ?_);(·(conv=>cbv);exact cT k8);(·exact⟨bk _,al,al,al,al⟩);intro aG y aq ai;obtain⟨f,x⟩:=y;obtain⟨K,ar,C,i,j⟩:=aq;simp only at K ar C i j;refine ca (λ m=>?_) λ m=>?_;(·(have E:f<s.aU.length:=by subst a;rw[<-ad];simpa[ay]using m);refine dZ a Z K E (λ v az=>?_);have U:=FK K az;rw[U,My]at i;rw[U,L8]at j;(have bad:∀b:Bool,(decide (0<=v)&&decide (v<n)&&decide (x&&&2^v.toNat=0))=b->b=false->(if l.all (jL n)then af.bf [.aa 1 (oY (ga l)),.bool true]else .bf [.aa 0 [],.bool false])=.bf [.aa 0 [],.bool false]:=by intro b I an;subst an;rw[T (by unfold jL;rw[i,I];rfl)];rfl);refine ca (λ g=>?_) λ g=>?_;(·(have o:v<0:=by subst a;simpa[ay]using g);rw[<-p];exact((bad _ rfl c0)).symm);(have o:¬v<0:=by subst a;simpa[ay]using g);refine aR (λ F=>?_) λ F=>?_;(·(have S:¬v<n:=by subst a;rw[<-hv];simpa[ay]using F);rw[<-p];exact((bad _ rfl c0)).symm);(have S:v<n:=by subst a;rw[<-hv];simpa[ay]using F);have z:0<=v:=ac;have B:v<64:=ac;have V:=HS B;refine⟨by subst a;exact⟨z,B⟩,?_⟩;(have O:A.sc .u64 1 v=((2^v.toNat:Nat):Int):=by subst a;exact JQ z B);(have Q:A.lI .and .u64 (x:Int) (A.sc .u64 1 v)=((x&&&2^v.toNat:Nat):Int):=by rw[O];subst a;exact Is C);(have R:A.lI .or .u64 (x:Int) (A.sc .u64 1 v)=((x|||2^v.toNat:Nat):Int):=by rw[O];subst a;exact IP C V);split;(next G=>(have H:¬(x&&&2^v.toNat=0):=by have:A.fi (A.cV (A.lI .and .u64 (x:Int) (A.sc .u64 1 v)) 0)=true:=G;rw[Q]at this;subst a;simpa[ay]using this);(conv=>cbv);rw[<-p];exact((bad _ rfl (by simp[H]))).symm);rename_i G;(have H:x&&&2^v.toNat=0:=by have:A.fi (A.cV (A.lI .and .u64 (x:Int) (A.sc .u64 1 v)) 0)=false:=G;rw[Q]at this;subst a;simpa[ay]using this);(conv=>cbv);refine⟨by subst a;exact⟨z,B⟩,by subst a;show dx (f+1);unfold dx;omega,?_⟩;obtain⟨aE,ae⟩:=aC (x|||2^v.toNat);rw[<-ae]at R i j;refine ai (A.ak f 1,aE) _ (by(conv=>cbv);exact cT (by simp[gu,mZ];exact R)) ?_ ?_;(·subst a;refine⟨by show 0<=f+1;omega,by show f+1<=_;omega,by rw[ae];exact v_ C V,?_,j⟩;rw[i];simp[z,S,H];rfl);subst a;show(s.aU.length-(f+1)).toNat<(s.aU.length-f).toNat;omega);(have E:¬f<s.aU.length:=by subst a;rw[<-ad];simpa[ay]using m);rw[G_ E]at i j;have au:mM n 0 s.aU=true:=i;have L:mF 0 s.aU=x:=j;refine aR (λ g=>?_) λ g=>?_;(·(have o:x=0:=by subst a;simpa[ay]using g);rw[<-p,T (by unfold jL;rw[L,o];simp)];rfl);(have o:¬x=0:=by subst a;simpa[ay]using g);(have aI:xs.length=d.toNat:=by rw[t];simp[oY,ga];omega);refine⟨⟨by subst a;rfl,by subst a;show(xs++[_]).length*_<=_;simp;omega⟩,by subst a;show dx (d+1);unfold dx;omega,?_⟩;refine ah (A.ak d 1,A.bn xs [.int .u64 (x:Int)]) _ (by(conv=>cbv);exact cb (ag:=[_]) (bE:=[_]) (mp:=[]) (bQ:=[]) k8 al al rfl rfl) ?_ ?_;(·subst a;show 0<=d+1/\d+1<=l.length/\xs++[.int .u64 (x:Int)]=oY (ga (l.take (d+1).toNat))/\(l.take (d+1).toNat).all (jL n)=true;refine⟨ac,ac,?_,?_⟩;(·rw[X,t];simp[oY,ga,Cx,L]);rw[X,oK,w];simp[jL,au,L,o]);subst a;show(l.length-(d+1)).toNat<(l.length-d).toNat;omega
 have D:¬d<l.length:=by subst a;rw[<-W];simpa[ay]using k
 rw[G9 D]at t w;rw[<-p,w,t];rfl
def ND{l:List Nat} {x:Nat} {s:Int} {r:aI}:o4 l x (s::r)=(decide (0<=s)&&decide (s<l.length)&&decide (x&&&l.getD s.toNat 0=0)&&o4 l (x|||l.getD s.toNat 0) r):=rfl
def NE{l:List Nat} {x:Nat} {s:Int} {r:aI}:o5 l x (s::r)=o5 l (x|||l.getD s.toNat 0) r:=rfl
def Lq{vs ss cs:am}(aM:Nat)(n:Nat)(hv:vs.length=n)(l:List gl)(aG:ss=cA l)(c:List lq)(aj:cs=c3 c):aB 191 [s9 aM vs ss cs] (if hX n l c then .bf [.aa 1 (List.replicate c.length .ref),.bool true]else .bf [.aa 0 [],.bool false]):=by
 refine aY Tryz.func191 (λ A q P Y a' a aE=>?_);have bq:ss.length=l.length:=by rw[aG];simp[cA]
 have az:cs.length=c.length:=by rw[aj];simp[c3]
 have aQ:∀s∈c,s.bN.length<=9223372036854775807:=λ s ba=>by have w:=cS.cell (show cS [.agg _]from a') (c:=.aa 3 cs) al;have B:=w.elem (x:=ri s) (by rw[aj];exact fW ba) (c:=.aa 1 (av s.bN)) (by simp[ri,af.cells]);have:=B.len;simpa[av]using this
 have bad:∀b,hX n l c=b->b=false->af.bf [.aa 0 [],.bool false]=q:=by intro b ai aS;subst aS;rw[<-aE,ai];rfl
 refine ca (λ w=>?_) λ w=>?_;·(have Q:n<1:=by subst a;have t:=w;simp[ay]at t;omega);exact bad _ rfl (by unfold hX;simp;omega)
 have Q:1<=n:=by subst a;have t:=w;simp[ay]at t;omega
 refine ca (λ B=>?_) λ B=>?_;·(have C:64<n:=by subst a;have t:=B;simp[ay]at t;omega);exact bad _ rfl (by unfold hX;simp;omega)
 have C:n<=64:=by subst a;have t:=B;simp[ay]at t;omega
 refine ca (λ T=>?_) λ T=>?_;·(have U:64<l.length:=by subst a;have t:=T;simp[ay]at t;omega);exact bad _ rfl (by unfold hX;simp;omega)
 have U:l.length<=64:=by subst a;have t:=T;simp[ay]at t;omega
 refine ca (λ V=>?_) λ V=>?_;·(have aw:c.length<1:=by subst a;have t:=V;simp[ay]at t;omega);exact bad _ rfl (by unfold hX;simp;omega)
 have aw:1<=c.length:=by subst a;have t:=V;simp[ay]at t;omega
 refine aR (λ W=>?_) λ W=>?_;·(have ax:32<c.length:=by subst a;have t:=W;simp[ay]at t;omega);exact bad _ rfl (by unfold hX;simp;omega)
 have ax:c.length<=32:=by subst a;have t:=W;simp[ay]at t;omega
 have H:=Mz (cs:=cs) aM n hv C l U aG;by_cases D:l.all (jL n)=true;rotate_left;·rw[if_neg D]at H;refine cZ a H (cp ?_);split;(·exact cp (bad _ rfl (by unfold hX;simp[uw.2 D])));rename_i o;exact absurd o (by subst a;simp[ay])
 rw[if_pos D]at H;obtain⟨bg,G⟩:=aC (oY (ga l));rw[<-G]at H;have aF:bg.length=l.length:=by rw[G];simp[oY,ga]
 have a8:=OA C D;have F:(ga l).length=l.length:=by simp[ga]
 refine cZ a H (cp ?_);split;next o=>exact absurd o (by subst a;simp[ay])
 conv=>cbv
 have au:A.oE 18446744073709551615 (A.bL 64 (A.aH vs))=((2^n-1:Nat):Int):=by subst a;rw[<-JR (E:=⟨Tryz.prog,cW,λ _=>false,false,gI.none⟩) Q C,<-hv];rfl
 refine⟨by subst a;show dx (64-(vs.length:Int));unfold dx;omega,by subst a;show 0<=64-(vs.length:Int)/\64-(vs.length:Int)<64;omega,?_⟩;refine b6 a (λ(y:Int×am)s=>{((s.put (some 55) (.val (ab y.1))).put (some 2) (.own 0 1 y.2))with tk:=[(A.bp y.2,332)]}) (λ y=>0<=y.1/\y.1<=c.length/\y.2=List.replicate y.1.toNat .ref/\(c.take y.1.toNat).all (ni n (ga l))=true) (λ y=>(c.length-y.1).toNat) (0,[]) ?_ ?_ ?_;·(conv=>cbv);exact vi 2 0 1 [] _ rfl (.inr rfl) k8 (by subst a;rfl)
 ·exact⟨bk _,al,al,al⟩
 intro bj y aV aO;obtain⟨d,J⟩:=y;obtain⟨an,aW,N,L⟩:=aV;simp only at an aW N L;refine aR (λ X=>?_) λ X=>?_;·(have Z:d<c.length:=by subst a;rw[<-az];simpa[ay]using X);refine F9 a aj an Z (λ s bs bh o br aI=>?_);(have aJ:bh.length=s.bN.length:=by rw[aI];simp[av]);have bc:=e5 an o;have bo:=aQ s (aT o);have K:ni n (ga l) s=false->af.bf [.aa 0 [],.bool false]=q:=λ ai=>bad _ rfl (by (have:c.all (ni n (ga l))=false:=by rw[na];exact⟨s,aT o,by simp[ai]⟩);unfold hX;simp[this]);refine cp (b6 a (λ(y:Int×Nat×Nat)s=>{(((s.put (some 63) (.val (ab y.1))).put (some 8) (.val (.int .u64 (y.2.1:Int)))).put (some 2) (.own 0 1 J))with ao:={mp:=[.plain 331 4 y.2.2],yk:=0} }) (λ y=>0<=y.1/\y.1<=s.bN.length/\y.2.1<2^64/\(y.2.2:Int)<=y.1/\o4 (ga l) 0 s.bN=o4 (ga l) y.2.1 (s.bN.drop y.1.toNat)/\o5 (ga l) 0 s.bN=o5 (ga l) y.2.1 (s.bN.drop y.1.toNat)) (λ y=>(s.bN.length-y.1).toNat) (0,0,0) ?_ ?_ ?_);(·(conv=>cbv);exact cT k8);(·exact⟨bk _,al,al,al,al,al⟩);intro bl y aZ aP;obtain⟨i,x,m⟩:=y;obtain⟨ap,a1,M,a_,f,k⟩:=aZ;simp only at ap a1 M a_ f k;refine ca (λ ad=>?_) λ ad=>?_;(·(have ae:i<s.bN.length:=by subst a;rw[<-aJ];simpa[ay]using ad);refine dZ a aI ap ae (λ v bd=>?_);have aA:=FK ap bd;rw[aA,ND]at f;rw[aA,NE]at k;refine ca (λ j=>?_) λ j=>?_;(·(have g:v<0:=by subst a;simpa[ay]using j);exact K (by unfold ni;rw[f];simp[show¬(0<=v)by omega]));(have g:0<=v:=by subst a;have:=j;simp[ay]at this;omega);refine aR (λ ah=>?_) λ ah=>?_;(·(have p:¬v<l.length:=by subst a;rw[<-aF];simpa[ay]using ah);exact K (by unfold ni;rw[f,F];simp[p]));(have p:v<l.length:=by subst a;rw[<-aF];simpa[ay]using ah);refine Cj a G g (by rw[F];exact p) (λ z O=>?_);have aL:z<2^64:=a8 z (aT O);(have be:(ga l).getD v.toNat 0=z:=by rw[cl,O];rfl);rw[be]at f k;(have aq:A.lI .and .u64 (x:Int) (z:Int)=((x&&&z:Nat):Int):=by subst a;exact Is M);(have ar:A.lI .or .u64 (x:Int) (z:Int)=((x|||z:Nat):Int):=by subst a;exact IP M aL);refine aR (λ R=>?_) λ R=>?_;(·(have S:¬(x&&&z=0):=by have:A.fi (A.cV (A.lI .and .u64 (x:Int) (z:Int)) 0)=true:=R;rw[aq]at this;subst a;simpa[ay]using this);exact K (by unfold ni;rw[f];simp[S]));(have S:x&&&z=0:=by have:A.fi (A.cV (A.lI .and .u64 (x:Int) (z:Int)) 0)=false:=R;rw[aq]at this;subst a;simpa[ay]using this);refine Cj a G g (by rw[F];exact p) (λ z2 I=>?_);(obtain rfl:z=z2:=by rw[O]at I;exact bC I);(conv=>cbv);refine Cj a G g (by rw[F];exact p) (λ z2 I=>?_);(obtain rfl:z=z2:=by rw[O]at I;exact bC I);(conv=>cbv);refine⟨by subst a;show m<9223372036854775807/\zE .u64 (z:Int);refine⟨ac,?_⟩;simp[zE,IntKind.min,IntKind.max,IntKind.bits,IntKind.signed];omega,by subst a;show dx (i+1);unfold dx;omega,?_⟩;obtain⟨bi,aK⟩:=aC (x|||z);rw[<-aK]at ar f k;refine aP (A.ak i 1,bi,A.C_ m) _ (by(conv=>cbv);exact cT (by simp[gu,mZ];exact ar)) ?_ ?_;(·subst a;refine⟨by show 0<=i+1;omega,by show i+1<=_;omega,by rw[aK];exact v_ M aL,by show((m+1:Nat):Int)<=i+1;omega,?_,k⟩;rw[f,F];simp[g,p,S];rfl);subst a;show(s.bN.length-(i+1)).toNat<(s.bN.length-i).toNat;omega);(have ae:¬i<s.bN.length:=by subst a;rw[<-aJ];simpa[ay]using ad);rw[G_ ae]at f k;have a7:o4 (ga l) 0 s.bN=true:=f;have aD:o5 (ga l) 0 s.bN=x:=k;refine aR (λ j=>?_) λ j=>?_;(·(have g:¬(x=2^n-1):=by have t:A.fi (A.cV (x:Int) (A.oE 18446744073709551615 (A.bL 64 (A.aH vs))))=true:=j;rw[au]at t;subst a;intro e;rw[e]at t;simp[ay]at t);exact K (by unfold ni;rw[aD];simp[g]));(have g:x=2^n-1:=by have t:A.fi (A.cV (x:Int) (A.oE 18446744073709551615 (A.bL 64 (A.aH vs))))=false:=j;rw[au]at t;subst a;exact Int.ofNat.inj (by simpa[ay]using t));(have bm:J.length=d.toNat:=by rw[N];simp);refine⟨⟨by subst a;rfl,by subst a;show(J++[_]).length*_<=_;simp;omega⟩,by subst a;show dx (d+1);unfold dx;omega,?_⟩;refine aO (A.ak d 1,A.bn J [.ref]) _ (by(conv=>cbv);exact cb (ag:=[_]) (bE:=[_]) (mp:=[]) (bQ:=[_]) k8 al (.inr ⟨al,rfl⟩) rfl rfl) ?_ ?_;(·subst a;show 0<=d+1/\d+1<=c.length/\J++[.ref]=List.replicate (d+1).toNat .ref/\(c.take (d+1).toNat).all (ni n (ga l))=true;refine⟨ac,ac,?_,?_⟩;(·rw[N,show(d+1).toNat=d.toNat+1 by omega,List.replicate_succ']);rw[bc,oK,L];simp[ni,a7,aD,g]);subst a;show(c.length-(d+1)).toNat<(c.length-d).toNat;omega
 have Z:¬d<c.length:=by subst a;rw[<-az];simpa[ay]using X
 rw[G9 Z]at L;have aX:d.toNat=c.length:=ac;have aU:hX n l c=true:=by unfold hX;simp[Q,C,U,aw,ax,D,L]
 rw[<-aE,aU,N,aX];rfl
def L9{vs ss cs:am}(i:Nat)(n:Nat)(hv:vs.length=n)(l:List gl)(k:ss=cA l)(c:List lq)(j:cs=c3 c):aB 114 [s9 i vs ss cs] (ab (if hX n l c then 0 else 100)):=by refine aY Tryz.func114 (λ A q P Y m a d=>?_);have h:=Lq i n hv l k c j;cases g:hX n l c with|true=>rw[g]at h d;generalize List.replicate c.length af.ref=o at h;(conv=>cbv);refine cZ a h (cp ?_);split;(next f=>exact absurd f (by subst a;simp[ay]));(conv=>cbv);rw[<-d];rfl|false=>rw[g]at h d;(conv=>cbv);refine cZ a h (cp ?_);split;(·(conv=>cbv);rw[<-d];rfl);rename_i f;exact absurd f (by subst a;simp[ay])
def wA:af:=.agg [.str ByteArray.empty,.aa 0 []]
def NF(bq:Int)(d:1<=bq)(f:bq<=64)(ss cs ws ms ks:am):aB 115 [.agg [ab bq,.aa 5 ss,.aa 3 cs,.aa 3 ws,.aa 1 ms,.aa 6 ks]] (s9 2 (List.replicate bq.toNat wA) ss cs):=by refine aY Tryz.func115 (λ A q P Y g a c=>?_);(conv=>cbv);refine⟨cK a bb,?_⟩;refine⟨by subst a;show(0<=bq/\bq=bq/\bq*_<=_/\bq<=_);omega,?_⟩;rw[<-c];subst a;rfl
def yY(t:aE):aB 58 [bD t] (ab (if ea t then 0 else 140)):=by
 refine aY Tryz.func58 (λ A q P Y X a V=>?_);have Q:∀k∈t.bU,k.ed.length<=9223372036854775807:=λ k ae=>by have i:=cS.cell (show cS [.agg _]from X) (c:=.aa 6 (cz t.bU)) al;have j:=i.elem (x:=fN k) (fW ae) (c:=.aa 1 (fF k.ed)) (by simp[fN,af.cells]);have:=j.len;simpa[fF]using this
 have bad:∀b,ea t=b->b=false->af.int .i64 140=q:=by intro b ak am;subst am;rw[<-V,ak];rfl
 obtain⟨d,S,f,W,M,K⟩:=t;simp only[bD]at X⊢;simp only at Q;obtain⟨O,L,cs,R,p,N,g,G⟩:=dq (cA S) (c3 f) (cv W) (bY M);obtain⟨ks,F⟩:=aC (cz K);have aq:p.length=W.length:=by rw[N];simp[cv]
 have U:g.length=M.length:=by rw[G];simp[bY]
 have ap:ks.length=K.length:=by rw[F];simp[cz]
 rw[<-L,<-R,<-N,<-G,<-F];refine cp (dU a (o6 d 1 64) rfl (λ ad l=>?_));refine aR (λ h=>?_) λ h=>?_;·(have i:ad=false:=by subst a;simpa[ay]using h);exact bad _ rfl (by unfold ea;rw[<-l,i];rfl)
 have i:ad=true:=by subst a;simpa[ay]using h
 rw[i]at l;have H:1<=d/\d<=64:=by simpa[ei]using l.symm
 refine cZ a (NF d H.1 H.2 O cs p g ks) ?_;obtain⟨vs,Z⟩:=aC (List.replicate d.toNat wA);rw[<-Z];conv=>cbv
 refine vw a (L9 2 d.toNat (by rw[Z];simp) S L f R) rfl (λ ar m=>?_);refine aR (λ h=>?_) λ h=>?_;·(have j:hX d.toNat S f=false:=by subst a;cases E:hX d.toNat S f with|false=>rfl|true=>rw[E]at m;subst m;simp[ay]at h);exact bad _ rfl (by unfold ea;simp[j])
 have j:hX d.toNat S f=true:=by subst a;cases E:hX d.toNat S f with|true=>rfl|false=>rw[E]at m;subst m;simp[ay]at h
 refine dU a (Oz sI S L λ x _=>OC x) rfl (λ ag I=>?_);refine ca (λ h=>?_) λ h=>?_;·(have s:ag=false:=by subst a;simpa[ay]using h);exact bad _ rfl (by unfold ea;simp[<-I,s])
 have s:ag=true:=by subst a;simpa[ay]using h
 rw[s]at I;refine aR (λ h=>?_) λ h=>?_;·(have w:¬M.length<=16:=by subst a;have t:=h;simp[ay]at t;omega);exact bad _ rfl (by unfold ea;simp[w])
 have w:M.length<=16:=by subst a;have t:=h;simp[ay]at t;omega
 have T:g.length<=1000:=ac;refine dU a (NA rM M G λ x _=>RT x rfl) rfl (λ ah J=>?_);refine ca (λ h=>?_) λ h=>?_;·(have y:ah=false:=by subst a;simpa[ay]using h);exact bad _ rfl (by unfold ea;simp[<-J,y])
 have y:ah=true:=by subst a;simpa[ay]using h
 rw[y]at J;refine aR (λ h=>?_) λ h=>?_;·(have z:¬W.length<=64:=by subst a;have t:=h;simp[ay]at t;omega);exact bad _ rfl (by unfold ea;simp[z])
 have z:W.length<=64:=by subst a;have t:=h;simp[ay]at t;omega
 refine dU a (JP (l4 d g.length) W N λ x _=>JT d H g T (.aa 5 O) (.aa 3 cs) (.aa 3 p) (.aa 6 ks) x) rfl (λ ai n=>?_);rw[U]at n;refine ca (λ h=>?_) λ h=>?_;·(have B:ai=false:=by subst a;simpa[ay]using h);exact bad _ rfl (by unfold ea;simp[<-n,B])
 have B:ai=true:=by subst a;simpa[ay]using h
 rw[B]at n;refine aR (λ h=>?_) λ h=>?_;·(have C:¬K.length<=8:=by subst a;have t:=h;simp[ay]at t;omega);exact bad _ rfl (by unfold ea;simp[C])
 have C:K.length<=8:=by subst a;have t:=h;simp[ay]at t;omega
 refine dU a (RS (λ k=>ji k&&decide (k.ed.length=g.length)) K F λ x ao=>RU g T _ (.aa 5 O) (.aa 3 cs) (.aa 3 p) (.aa 6 ks) x (Q x ao)) rfl (λ aj o=>?_);rw[U]at o;refine aR (λ h=>?_) λ h=>?_;·(have D:aj=false:=by subst a;simpa[ay]using h);exact bad _ rfl (by unfold ea;simp only[<-o,D];simp)
 have D:aj=true:=by subst a;simpa[ay]using h
 rw[D]at o;have an:ea ⟨d,S,f,W,M,K⟩=true:=by unfold ea;simp only[<-l,j,<-I,<-J,<-n,<-o];simp[w,z,C]
 rw[<-V,an];rfl
def MA(n lo a:Int):aB 272 [ab n,ab lo,ab a] (.bool (ei n lo a)):=by refine aY Tryz.func272 (λ A q P Y f c d=>?_);(conv=>cbv);split<;>(rename_i h;conv=>cbv)<;>(subst c;subst d;simp_all[ay,ei];try omega)
def uX(x:aw):Bool:=!ei x.c6 0 3
def L_(x:aw):aB 271 [iw x] (.bool (uX x)):=by refine aY Tryz.func271 (λ A q P Y f d g=>?_);obtain⟨a,b,c⟩:=x;rw[show iw ⟨a,b,c⟩=.agg [.aa 1 (av a),ab b,ab c]from rfl];generalize av a=u;(conv=>cbv);refine dU d (MA b 0 3) rfl (λ r f=>cp ?_);rw[<-g,f];subst d;rfl
def LL(l:aI)(i:Nat)(h:i<l.length)(p:Int):ky p (l.drop i)=(decide (0<=l[i])&&decide (l[i]<=65535)&&decide (p<l[i])&&ky l[i] (l.drop (i+1))):=by rw[hV h,ky]
def qj(l:aI)(i:Int):Int:=if i=0 then-1 else l.getD (i-1).toNat 0
def G'(t:aE)(S:ea t=true)(p:be):aB 59 [bD t,dw p] (ab (if jj t.aM p then 0 else 160)):=by
 refine aY Tryz.func59 (λ A q P Y aj d o=>?_);have bad:∀b,jj t.aM p=b->b=false->af.int .i64 160=q:=by intro b U V;subst V;rw[<-o,U];rfl
 have ad:p.bK.length<=9223372036854775807:=by have i:=cS.cell (show cS [.agg _]from aj.mem (p:=dw p) al) (c:=.aa 1 (av p.bK)) al;simpa[av]using i.len
 obtain⟨aK,am,cs,W,ax,H,aI,ae⟩:=dq (cA t.bN) (c3 t.c5) (cv t.aM) (bY t.cf);obtain⟨ks,Z,ts,j⟩:=b_ (cz t.bU) (av p.bK);have aG:ax.length=t.aM.length:=by rw[H];simp[cv]
 have N:ts.length=p.bK.length:=by rw[j];simp[av]
 rw[dR t am W H ae Z,kb p j];obtain⟨eI,T⟩:=p;simp only at bad j N ad o⊢;obtain⟨aJ,ah⟩:=aC t.aU;rw[<-ah];conv=>cbv
 refine⟨cK d bb,?_⟩;split;next h=>(have i:eI<0:=by subst d;simpa[ay]using h);(conv=>cbv);exact bad _ rfl (by unfold jj;simp only;rw[if_neg ac])
 rename_i h;have i:0<=eI:=by subst d;have t:=h;simp[ay]at t;omega
 refine aR (λ h=>?_) λ h=>?_;·(have I:t.aM.length<=eI:=by subst d;have t:=h;simp[ay]at t;omega);exact bad _ rfl (by unfold jj;simp only;rw[if_pos i,eL ac])
 have I:eI<t.aM.length:=by subst d;have t:=h;simp[ay]at t;omega
 refine jO d H i I (λ w v hw an=>?_);have O:v.length=w.cY.length:=by rw[an];simp[hg]
 have m:jj t.aM ⟨eI,T⟩=(decide (T.length=w.cY.length+1)&&ky (-1) T):=by unfold jj;simp only;rw[if_pos i,hw]
 obtain⟨aL,aO,l⟩:=w;have ap:=w7 S (aT hw);simp only at O m ap;have ao:A.aH v=l.length:=by subst d;show(v.length:Int)=_;rw[O]
 have z:A.aH ts=T.length:=by subst d;show(ts.length:Int)=_;rw[N]
 have K:A.ak (A.aH v) 1=l.length+1:=by rw[ao];subst d;rfl
 conv=>cbv
 refine⟨by subst d;show dx (v.length+1);unfold dx;omega,?_⟩;split;next h=>(have F:¬T.length=l.length+1:=by have f:A.fi (A.cV (A.aH ts) (A.ak (A.aH v) 1))=true:=h;rw[z,K]at f;subst d;simp[ay]at f;omega);(conv=>cbv);exact bad _ rfl (by rw[m];simp[F])
 rename_i h;have F:T.length=l.length+1:=by have f:A.fi (A.cV (A.aH ts) (A.ak (A.aH v) 1))=false:=h;rw[z,K]at f;subst d;simp[ay]at f;omega
 rw[show(decide (T.length=l.length+1)&&ky (-1) T)=ky (-1) T by simp[F]]at m;rw[m]at o bad;refine cp (b6 d (λ(a:Int)s=>s.put (some 36) (au a)) (λ a=>0<=a/\a<=T.length/\ky (-1) T=ky (qj T a) (T.drop a.toNat)) (λ a=>(T.length-a).toNat) 0 ?_ ?_ ?_);·(conv=>cbv);exact cT k8
 ·exact⟨bk _,ac,by simp[qj]⟩
 rintro az a⟨X,aA,g⟩J;refine aR (λ G=>?_) λ G=>?_;·(have L:a<T.length:=by have f:A.ha a (A.aH ts)=true:=G;rw[z]at f;subst d;simpa[ay]using f);have ag:a.toNat<T.length:=ac;rw[LL T a.toNat ag]at g;refine dZ d j X L (λ x Q=>?_);have aq:T[a.toNat]=x:=(aD.1 Q).2;rw[aq]at g;(have step:0<=x->x<=65535->qj T a<x->(0<=A.ak a 1/\A.ak a 1<=T.length/\ky (-1) T=ky (qj T (A.ak a 1)) (T.drop (A.ak a 1).toNat))/\(T.length-A.ak a 1).toNat<(T.length-a).toNat:=by intro R a2 a3;(have e:A.ak a 1=a+1:=by subst d;rfl);rw[e];refine⟨⟨ac,ac,?_⟩,ac⟩;rw[g,show(a+1).toNat=a.toNat+1 by omega];simp only[R,a2,a3,decide_true,eT];congr 1;unfold qj;rw[if_neg ac,show(a+1-1)=a by omega,cl,Q];rfl);(have M:A.bS (A.ak a 1):=by subst d;show dx (a+1);unfold dx;omega);refine ca (λ B=>?_) λ B=>?_;(·(have d1:x<0:=by subst d;simpa[ay]using B);exact bad _ rfl (by rw[g];simp;omega));(have d1:0<=x:=by subst d;have t:=B;simp[ay]at t;omega);refine ca (λ C=>?_) λ C=>?_;(·(have d2:65535<x:=by subst d;simpa[ay]using C);exact bad _ rfl (by rw[g];simp;omega));(have d2:x<=65535:=by subst d;have t:=C;simp[ay]at t;omega);refine aR (λ D=>?_) λ D=>?_;(·(have d3:0<a:=by subst d;simpa[ay]using D);refine⟨by subst d;show dx (a-1);unfold dx;omega,?_⟩;refine dZ d j (n:=A.bL a 1) (by subst d;show 0<=a-1;omega) (by subst d;show a-1<T.length;omega) (λ y ar=>?_);(have ai:qj T a=y:=by (have aw:T[(a-1).toNat]?=some y:=by subst d;exact ar);unfold qj;rw[if_neg ac,cl,aw];rfl);refine aR (λ E=>?_) λ E=>?_;(·(have d4:x<=y:=by subst d;simpa[ay]using E);exact bad _ rfl (by rw[g,ai];simp;omega));(have d4:y<x:=by subst d;have t:=E;simp[ay]at t;omega);have k:=step d1 d2 ac;exact⟨M,J (A.ak a 1) _ (by(conv=>cbv);exact cT k8) k.1 k.2⟩);(have d3:a=0:=by subst d;have t:=D;simp[ay]at t;omega);(have aF:qj T a=-1:=by unfold qj;rw[if_pos d3]);have k:=step d1 d2 ac;exact⟨M,J (A.ak a 1) _ (by(conv=>cbv);exact cT k8) k.1 k.2⟩
 have L:¬a<T.length:=by have f:A.ha a (A.aH ts)=false:=G;rw[z]at f;subst d;simp[ay]at f;omega
 rw[<-o,g,uh ac];rfl
def hU:List dT->aI->List am|x::r,a::b::ts=>[iY x,jx ⟨a,b⟩]::hU r (b::ts) |_,_=>[]
theorem E5:∀(ls:List dT)(ts:aI)(k:Nat)(x:dT)(a b:Int),ls[k]?=some x->ts[k]?=some a->ts[k+1]?=some b->(hU ls ts)[k]?=some [iY x,jx ⟨a,b⟩] | [],_,k,x,a,b,h,_,_=>by simp at h|_::_,[],k,x,a,b,_,h,_=>by simp at h|_::_,[_],k,x,a,b,_,_,h=>by simp at h|y::r,u::v::ts,0,x,a,b,c,d,f=>by simp at c d f;subst c d f;rfl|y::r,u::v::ts,k+1,x,a,b,c,d,f=>by simp only[hU,pz]at c d f⊢;exact E5 r (v::ts) k x a b c d f
theorem wn:∀(ls:List dT)(ts:aI),ts.length=ls.length+1->(hU ls ts).length=ls.length| [],_,_=>by simp[hU] |_::_,[],h=>by simp at h|_::_,[_],h=>by simp at h|y::r,u::v::ts,h=>by simp only[hU,fY];rw[wn r (v::ts) (by simpa using h)]
def Ha(t:aE)(p:be)(w:Way)(H:0<=p.Way)(hw:t.aM[p.Way.toNat]?=some w)(C:p.bK.length=w.cY.length+1)(U:w.cY.length<=8){ss cs ws ms ks ts:am}(an:ws=cv t.aM)(D:ts=av p.bK):l3 Tryz.prog 200 [.ptr [ab t.aU,.aa 5 ss,.aa 3 cs,.aa 3 ws,.aa 1 ms,.aa 6 ks] 0,.ptr [ab p.Way,.aa 1 ts] 0] (hU w.cY p.bK):=by
 refine uU (a6:=λ n=>n==1000003||n==3000314) (rows:=false) gd Tryz.func200 rfl (cL Tryz.func200) rfl (λ A P Y az y ax aA G aq c j=>?_);have X:A.fi true=false:=by subst c;rfl
 have V:A.fi false=true:=by subst c;rfl
 have ah:=(aD.1 hw).1;obtain⟨aB,aj⟩:=aC t.aU;rw[<-aj];obtain⟨eI,T⟩:=p;obtain⟨aF,aG,d⟩:=w;simp only at H hw C U D G j ah⊢;rw[wn d T C]at j;have ar:Y.cQ.length=d.length:=by rw[G];exact wn d T C
 refine cp (jO c an H ac (λ w v F E=>?_));rw[hw]at F;simp only[cg]at F;subst F;simp only at E;have M:A.aH v=d.length:=by subst c;show(v.length:Int)=_;rw[E];simp[hg]
 refine cp (b6 c (λ(k:Nat)s=>{s.put (some 14) (au k)with ao:=⟨s.ao.mp,k⟩}) (λ k=>k<=d.length) (λ k=>d.length-k) 0 ?_ ?_ ?_);·(conv=>cbv);exact cT k8
 ·exact ho _
 intro S k ae W;obtain⟨f,i⟩:=aC ((k:Int));rw[<-i];refine aR (λ o=>?_) λ o=>?_;·(have K:k<d.length:=by have g:A.ha f (A.aH v)=true:=o;rw[M,i]at g;subst c;simpa[ay]using g);refine u9 c E ac ac (λ x u N hu=>?_);(have ap:d[k]?=some x:=by rw[i,da]at N;exact N);(have B:A.ak f 1=((k+1:Nat):Int):=by subst c;show f+1=_;omega);(have L:A.bS (A.ak f 1):=by rw[B];subst c;show dx _;unfold dx;omega);have Z:∀l,aZ (0,0) l _->S l:=λ l hw=>W (k+1) l hw ac ac;obtain⟨O,Q,R,aw⟩:=x;(conv=>cbv);refine⟨uN c bb,?_⟩;refine dZ c D ac ac (λ a I=>cp ?_);refine⟨L,?_⟩;refine dZ c D (n:=A.ak f 1) ac ac (λ b J=>?_);(have ad:Y.cQ[k]?=some [iY ⟨O,Q,R,aw⟩,jx ⟨a,b⟩]:=by rw[G];refine E5 d T k _ a b ap ?_ ?_;(·rw[i,da]at I;exact I);rw[B,da]at J;exact J);(have af:Y.cQ[k]?=some [.agg [ab O,ab Q,ab R,.aa 2 u],.agg [ab a,ab b]]:=by rw[ad,hu];rfl);refine cp (oQ c rfl aq af ?_ (λ n ai=>?_));(·refine hs (λ m=>?_) λ _=>?_;(·have z:False:=absurd (show A.fi true=true from m) (by rw[X];simp);cases z);(conv=>cbv);refine⟨L,Z _ ?_⟩;rw[<-B];(conv=>cbv);exact cb (ag:=[]) (bE:=[_]) (mp:=[]) (bQ:=[]) k8 al al rfl rfl);(conv=>cbv);split;(·(conv=>cbv);exact j _ (.inr (by rw[ai,ar])));rename_i m;have z:False:=absurd (show A.fi false=false from m) (by rw[V];simp);cases z
 have K:k=d.length:=by have g:A.ha f (A.aH v)=false:=o;rw[M,i]at g;subst c;simp[ay]at g;omega
 exact j _ (.inl K)
theorem AO:∀(ls:List dT)(ts:aI)(k:Nat)(x:am),(hU ls ts)[k]?=some x->∃(c:dT)(a b:Int),x=[iY c,jx ⟨a,b⟩]/\(ih ls ts)[k]?=some ⟨false,c.fB,⟨a,b⟩⟩ | [],_,k,x,h=>by simp[hU]at h|_::_,[],k,x,h=>by simp[hU]at h|_::_,[_],k,x,h=>by simp[hU]at h|y::r,u::v::ts,0,x,h=>by simp[hU]at h;exact⟨y,u,v,h.symm,rfl⟩ |y::r,u::v::ts,k+1,x,h=>by simp only[hU,ih,pz]at h⊢;exact AO r (v::ts) k x h
theorem EQ:∀(ls:List dT)(ts:aI),(ih ls ts).length=(hU ls ts).length| [],_=>by simp[hU,ih] |_::_,[]=>by simp[hU,ih] |_::_,[_]=>by simp[hU,ih] |y::r,u::v::ts=>by simp only[hU,ih,fY];rw[EQ r (v::ts)]
def HT(bq eI:Int)(ss cs ws ms ks ts:am):aB 121 [.agg [ab bq,.aa 5 ss,.aa 3 cs,.aa 3 ws,.aa 1 ms,.aa 6 ks],.agg [ab eI,.aa 1 ts]] (.fn 200 [.ptr [ab bq,.aa 5 ss,.aa 3 cs,.aa 3 ws,.aa 1 ms,.aa 6 ks] 0,.ptr [ab eI,.aa 1 ts] 0]):=by refine aY Tryz.func121 (λ A q P Y d c a=>?_);(conv=>cbv);rw[<-a]
def FL(a m:Int)(d:dx (m+1)):aB 120 [ab a,ab m] (.agg [.bool true,ab a,ab m,ab (m+1)]):=by refine aY Tryz.func120 (λ A q P Y g c f=>?_);(conv=>cbv);refine⟨by subst c;exact d,?_⟩;rw[<-f];subst c;rfl
def Hb(t:aE)(p:be)(w:Way)(D:0<=p.Way)(hw:t.aM[p.Way.toNat]?=some w)(F:p.bK.length=w.cY.length+1)(O:w.cY.length<=8)(E:∀m∈p.bK,dx (m+1)):aB 60 [bD t,dw p] (.aa 4 (er (p0 w p.bK))):=by
 refine aY Tryz.func60 (λ A q P Y aP c S=>?_);have au:=(aD.1 hw).1;obtain⟨af,ay,cs,ak,aK,J,ad,aw⟩:=dq (cA t.bN) (c3 t.c5) (cv t.aM) (bY t.cf);obtain⟨ks,ap,ts,g⟩:=b_ (cz t.bU) (av p.bK);have W:ts.length=p.bK.length:=by rw[g];simp[av]
 have G:=Ha t p w D hw F O (ss:=af) (cs:=cs) (ms:=ad) (ks:=ks) J g;rw[dR t ay ak J aw ap,kb p g];obtain⟨eI,T⟩:=p;obtain⟨l,B,d⟩:=w;simp only at D hw F O E g au S W G⊢;obtain⟨aI,ax⟩:=aC t.aU;rw[<-ax]at G⊢;have aq:A.aH ts=T.length:=by subst c;show(ts.length:Int)=_;rw[W]
 refine cp (jO c J D ac (λ w v I aA=>?_));rw[hw]at I;simp only[cg]at I;subst I;simp only at aA;conv=>cbv
 refine⟨cK c bb,?_⟩;refine dZ c g (n:=0) ac ac (λ a i=>?_);have aj:a∈T:=aT i;refine cp (cZ c (FL l a (E a aj)) ?_);obtain⟨C,Q⟩:=aC (a+1);rw[<-Q];conv=>cbv
 refine⟨by subst c;show(0+1)*(32+1)<=140737488355328;omega,?_⟩;refine aJ c (HT aI eI af cs aK ad ks ts) ?_;have ar:=wn d T F;have aQ:=EQ d T;refine pO c G (λ x o=>?_) (λ(L:am)s=>{s with ag:=s.ag.set 2 (some [.own 0 4 L]),tk:=[(A.bp L,80)]}) (λ k L=>L=er (⟨true,l,⟨a,C⟩⟩::(ih d T).take k)) [.agg [.bool true,ab l,ab a,ab C]] (λ _=>rfl) ?_ ?_ ?_ ?_;·obtain⟨k,ae⟩:=e9 o;obtain⟨y,u,v,rfl,_⟩:=AO d T k x ae;rfl
 ·(conv=>cbv);exact aZ.refl _
 ·rfl
 ·intro aL k L x o f ai;have aO:k<(hU d T).length:=(aD.1 o).1;obtain⟨y,u,v,rfl,az⟩:=AO d T k x o;(have ah:L.length<=9:=by rw[f];simp[er];omega);(have R:A.bn L [.agg [.bool false,ab y.fB,ab u,ab v]]=er (⟨true,l,⟨a,C⟩⟩::(ih d T).take (k+1)):=by subst c f;rw[fX,az];show er _++_=_;simp[er,n3]);(have H:A.j' (A.bp L) (A.bp L):=by subst c;rfl);(have j:A.room (A.bp (A.bn L [.agg [.bool false,ab y.fB,ab u,ab v]])) 32:=by subst c;show(L++[_]).length*(32+1)<=140737488355328;rw[bO,e0];omega);obtain⟨X,M,Z,N⟩:=y;rw[show iY ⟨X,M,Z,N⟩=.agg [ab X,ab M,ab Z,.aa 2 (cP N)]from rfl];generalize cP N=aR;simp only at R j;(conv=>cbv);refine⟨⟨H,j⟩,ai (A.bn L [.agg [.bool false,ab M,ab u,ab v]]) _ (cp ?_) R⟩;exact cb (ag:=[_,_,_,_]) (bE:=[_,_]) (mp:=[]) (bQ:=[]) k8 al al rfl rfl
 intro L f;rw[ar,eD ac]at f;have ah:L.length<=9:=by rw[f];simp[er];omega
 have V:A.bL (A.aH ts) 1=d.length:=by rw[aq];subst c;show(T.length:Int)-1=_;omega
 conv=>cbv
 refine⟨cK c bb,by(show A.bS (A.bL (A.aH ts) 1));rw[V];subst c;show dx _;unfold dx;omega,?_⟩;refine dZ c g (n:=A.bL (A.aH ts) 1) ac ac (λ z K=>?_);rw[V,da]at K;have aG:z∈T:=aT K;have j:A.room (A.bp (A.bn L [.agg [.bool true,ab B,ab z,ab (z+1)]])) 32:=by subst c;show(L++[_]).length*(32+1)<=140737488355328;rw[bO,e0];omega
 have U:A.bn L [.agg [.bool true,ab B,ab z,ab (z+1)]]=er (p0 ⟨l,B,d⟩ T):=by (have ao:T.headD 0=a:=by rw[Int.toNat_zero]at i;cases T with|nil=>simp at i|cons x r=>simp at i;exact i);(have an:T.getLastD 0=z:=by rw[ue,uf,show T.length-1=d.length by omega,K];rfl);unfold p0;rw[ao,an,<-Q];subst c f;show er _++_=_;simp[er,n3]
 have H:A.j' (A.bp L) (A.bp L):=by subst c;rfl
 refine cp (cZ c (FL B z (E z aG)) ?_);obtain⟨aS,aF⟩:=aC (z+1);rw[<-aF]at j U⊢;conv=>cbv
 refine⟨⟨H,j⟩,?_⟩;rw[<-S,<-U]
def eb(t:aE)(p:be):List bH:=match(if 0<=p.Way then t.aM[p.Way.toNat]? else none)with|none=>[] |some w=>p0 w p.bK
def hT(t:aE)(p:be):Int:=if ea t then(if jj t.aM p then 0 else 160)else 140
def s_(t:aE)(p:be):af:=if hT t p=0 then .aa 4 (er (eb t p))else .aa 0 []
theorem Eu:∀(l:aI)(p:Int),ky p l=true->∀m∈l,0<=m/\m<=65535| [],_,_,m,a=>by cases a|x::r,p,h,m,a=>by simp only[ky,bP,bX]at h;rcases cM.1 a with rfl|a;(·omega);exact Eu r x h.2 m a
def Bh{t:aE} {p:be}(h:jj t.aM p=true):∃w,0<=p.Way/\t.aM[p.Way.toNat]?=some w/\p.bK.length=w.cY.length+1/\(∀m∈p.bK,0<=m/\m<=65535)/\eb t p=p0 w p.bK:=by
 unfold jj at h;split at h;·cases h
 rename_i w hw;split at hw;next a=>simp only[bP,bX]at h;exact⟨w,a,hw,h.1,Eu _ _ h.2,by unfold eb;rw[if_pos a,hw]⟩
 cases hw
def yZ(t:aE)(p:be):aB 25 [bD t,dw p] (.bf [s_ t p,ab (hT t p)]):=by
 refine aY Tryz.func25 (λ A q P Y M d i=>?_);have j:=yY t;have a:ea t=true->aB 59 [bD t,dw p] (ab (if jj t.aM p then 0 else 160)):=λ h=>G' t h p;have c:ea t=true->jj t.aM p=true->aB 60 [bD t,dw p] (.aa 4 (er (eb t p))):=λ y h=>by obtain⟨w,l,a2,a3,a4,a5⟩:=Bh h;rw[a5];exact Hb t p w l a2 a3 (w7 y (aT a2)).1 (λ m C=>by have:=a4 m C;unfold dx;omega)
 have s:hT t p=if ea t then(if jj t.aM p then 0 else 160)else 140:=rfl;have x:s_ t p=if hT t p=0 then .aa 4 (er (eb t p))else .aa 0 []:=rfl;rw[x,s]at i;generalize er (eb t p)=L at c i;generalize ea t=n at j a c i;generalize jj t.aM p=o at a c i;obtain⟨Q,H,cs,z,R,K,N,D⟩:=dq (cA t.bN) (c3 t.c5) (cv t.aM) (bY t.cf);obtain⟨ks,B,ts,I⟩:=b_ (cz t.bU) (av p.bK);rw[dR t H z K D B]at j a c⊢;rw[kb p I]at a c⊢;have E:A.fi (A.cV 140 0)=true:=by subst d;rfl
 have F:A.fi (A.cV 160 0)=true:=by subst d;rfl
 have k:A.fi (A.cV 0 0)=false:=by subst d;rfl
 obtain⟨O,G,eI,J⟩:=b_ t.aU p.Way;rw[<-G]at j a c⊢;rw[<-J]at a c⊢;conv=>cbv
 cases n with|false=>refine cZ d j (cp ?_);split;(·(conv=>cbv);rw[<-i];rfl);rename_i f;have g:False:=absurd (show A.fi (A.cV 140 0)=false from f) (by rw[E];simp);cases g|true=>refine cZ d j ?_;refine dD (λ f=>?_) λ _=>?_;(·have g:False:=absurd (show A.fi (A.cV 0 0)=true from f) (by rw[k];simp);cases g);cases o with|false=>refine aJ d (a rfl) ?_;split;(·(conv=>cbv);rw[<-i];rfl);rename_i f;have g:False:=absurd (show A.fi (A.cV 160 0)=false from f) (by rw[F];simp);cases g|true=>refine aJ d (a rfl) ?_;split;(next f=>have g:False:=absurd (show A.fi (A.cV 0 0)=true from f) (by rw[k];simp);cases g);refine aJ d (c rfl rfl) ?_;rw[<-i];rfl
def jH(t:aE)(l:List be):List bH:=l.flatMap (eb t)
def E6:∀(ls:List dT)(ts:aI),(ih ls ts).length<=ls.length| [],_=>by simp[ih] |_::_,[]=>by simp[ih] |_::_,[_]=>by simp[ih] |y::r,u::v::ts=>by simp only[ih,fY];have:=E6 r (v::ts);omega
def Bi{t:aE} {p:be}(h:hT t p=0):(eb t p).length<=10:=by unfold hT at h;split at h;(next a=>split at h;(next c=>obtain⟨w,d,a2,a3,a4,a5⟩:=Bh c;rw[a5];have:=(w7 a (aT a2)).1;have:=E6 w.cY p.bK;simp[p0];omega);cases h);cases h
def mG{A:dF} {E:Env}(d:A=ay E){t:TypeId} {id off i m k:Nat} {st:ai} {K:ah->ai->Prop} {C:aP} {c:ah}(g:st.ag.getD id none=some C)(f:(E.T t).agg=false)(j:(E.T t).size=1)(a:C[off+i*m+k]?=some c)(ae:K c st):A.r' t (.gv id off i m k) st K:=by refine By d ?_;simp only[ah.norm,iW,g,f,j,la,if_false,if_true];refine⟨(aD.1 a).1,?_⟩;simp only[cl,a,e4];exact ae
def uY{A:dF} {E:Env}(c:A=ay E){t:TypeId} {id off i m k:Nat} {st:ai} {K:ah->ai->Prop} {C vV:aP} {v:ah}(f:st.ag.getD id none=some C)(d:(E.T t).agg=false)(j:(E.T t).size=1)(hv:v.one=true)(g:off+i*m+k<C.length)(a:vV=C.set (off+i*m+k) v)(ae:K .undef (st.j_ id (some vV))):A.qM t (.gv id off i m k) v st K:=by refine yV c ?_;simp only[ah.norm,lX,f,d,j,hv,la,if_false,and_self,if_true];subst a;exact⟨g,ae⟩
end Go.Abs
