/- Contracts of the functions: part 9. -/
import Derived.Shelf.Small.Strs
import Derived.Shelf.Slices.Clone
import Derived.Test.YtimomgiieilmkaaGreatQ8
set_option linter.all false
set_option maxRecDepth 4000
set_option maxHeartbeats 4000000
namespace Go.Abs
open Go.Proofs Go.RowKit
def pe(gs:List (ByteArray×List Int))(c:ByteArray)(i:Int):List (ByteArray×List Int):=if gs.any (λ g=>decide (g.1=c))then gs.map λ g=>if g.1=c then(g.1,g.2++[i])else g else gs++[(c,[i])]
def hY:List ByteArray->List (ByteArray×List Int)->Int->List (ByteArray×List Int) | [],gs,_=>gs|c::r,gs,a=>hY r (pe gs c a) (a+1)
theorem FU(c:ByteArray):∀(l:List ByteArray)(gs:List (ByteArray×List Int))(i:Int),hY (l++[c]) gs i=pe (hY l gs i) c (i+l.length) | [],gs,i=>by simp[hY] |a::l,gs,i=>by rw[nc,hY,FU c l,hY];congr 1;simp only[fY];omega
def hb(calls:List ByteArray)(c:ByteArray):Bool:=calls.any λ d=>decide (d=c)
def p2{calls:List ByteArray} {c:ByteArray}:hb calls c=true↔c∈calls:=by unfold hb;rw[c1];exact⟨λ⟨d,a,f⟩=>fD f▸a,λ h=>⟨c,h,bz rfl⟩⟩
def sB{calls:List ByteArray} {c:ByteArray}:hb calls c=false↔c∉calls:=by rw[<-p2];simp
def hh(calls:List ByteArray)(c:ByteArray):List Int:=((List.range calls.length).filter λ a=>decide (calls[a]?=some c)).map Int.ofNat
def wI(calls:List ByteArray)(c d:ByteArray):hh (calls++[c]) d=hh calls d++(if c=d then[(calls.length:Int)]else[]):=by
 unfold hh;rw[bO,e0,List.range_succ,qR,gh];congr 1;·congr 1;refine pu λ f a=>?_;rw[bu (h_.1 a)]
 by_cases h:c=d;·subst h;simp
 simp[h]
def lW{calls:List ByteArray} {c:ByteArray} {i:Int}:i∈hh calls c↔0<=i/\calls[i.toNat]?=some c:=by unfold hh;rw[a_];constructor;(·rintro⟨n,d,rfl⟩;have:=(eR.1 d).2;exact⟨Int.natCast_nonneg n,by simpa using this⟩);rintro⟨f,a⟩;refine⟨i.toNat,eR.2 ⟨h_.2 (aD.1 a).1,by simpa using a⟩,?_⟩;show((i.toNat:Nat):Int)=i;omega
def ON(calls:List ByteArray)(c:ByteArray):(hh calls c).Nodup:=by unfold hh;refine lb.2 ((List.Pairwise.filter _ List.nodup_range).imp λ{a b}h e=>h ?_);have:(a:Int)=(b:Int):=e;omega
structure mQ(calls:List ByteArray)(gs:List (ByteArray×List Int)):Prop where
 oz:(gs.map (·.1)).Nodup
 idx:∀g∈gs,g.2=hh calls g.1
 all:∀c,c∈calls↔c∈gs.map (·.1)
def mQ.add{calls:List ByteArray} {gs:List (ByteArray×List Int)}(h:mQ calls gs)(c:ByteArray):mQ (calls++[c]) (pe gs c calls.length):=by
 unfold pe;split;next i=>obtain⟨g0,x,s⟩:=c1.1 i;(have o:(gs.map λ g=>if g.1=c then(g.1,g.2++[(calls.length:Int)])else g).map (·.1)=gs.map (·.1):=by rw[dv];refine gm λ g _=>?_;simp only[Function.comp];split<;>rfl);refine⟨by rw[o];exact h.oz,λ g f=>?_,λ d=>?_⟩;(·obtain⟨l,n,rfl⟩:=a_.1 f;split;(next e=>simp only;rw[wI,h.idx l n,if_pos e.symm]);rename_i e;rw[wI,if_neg (λ p=>e p.symm),gA];exact h.idx l n);rw[o,dH,dG,h.all d];refine⟨λ t=>t.elim id λ e=>?_,.inl⟩;rw[e,<-fD s];exact fW x
 rename_i i;have k:c∉gs.map (·.1):=λ j=>by obtain⟨g,f,e⟩:=a_.1 j;exact i (c1.2 ⟨g,f,bz e⟩)
 have B:c∉calls:=λ j=>k ((h.all c).1 j);have z:hh calls c=[]:=vY.2 λ C y=>B (aT (lW.1 y).2);refine⟨?_,λ g f=>?_,λ d=>?_⟩;·rw[gh,h8];exact⟨h.oz,al,λ a w b m e=>by simp at m;subst m;exact k (e▸w)⟩
 ·rw[wI];rcases dH.1 f with f|f;(·rw[if_neg (λ e:c=g.1=>k (a_.2 ⟨g,f,e.symm⟩)),gA];exact h.idx g f);rw[dG.1 f];simp[z]
 rw[dH,gh,dH,h.all d];simp
theorem Fc:∀(l pre:List ByteArray)(gs:List (ByteArray×List Int)),mQ pre gs->mQ (pre++l) (hY l gs pre.length) | [],pre,gs,h=>by rw[gA];exact h|c::l,pre,gs,h=>by have:=Fc l (pre++[c]) _ (h.add c);rw[dV,bO]at this;exact this
def IK(calls:List ByteArray):mQ calls (hY calls [] 0):=by have:=Fc calls [] [] ⟨al,al,al⟩;exact this
def j4(P:aA->Bool):List aA->az->az| [],v=>v|r::a,v=>j4 P a (if P r then v else v.set r.aw.toNat (v.get r.aw.toNat+1))
theorem Bo(st:List (List (List bH)))(T a sh:List Int):∀(l:List aA)(v:az),dO st T a sh l v=j4 (qb st T a sh) l v| [],_=>rfl|_::l,_=>Bo st T a sh l _
def ll(P:aA->Bool)(k:Nat)(r:aA):Bool:=!P r&&decide (r.aw.toNat=k)
def nj{P:aA->Bool} {k:Nat}(ae:k<4):∀(l:List aA)(v:az),(∀r∈l,r.aw<4)->(j4 P l v).get k=v.get k+((l.filter (ll P k)).length:Int) | [],v,_=>by simp[j4] |r::l,v,h=>by have c:=h r ec;rw[j4,nj ae l _ λ r a=>h r (dt _ a),sn];unfold ll;cases P r with|true=>simp|false=>simp only[la,if_false,Bool.not_false,eT,bX];rw[A0 v ae ac];by_cases e:r.aw.toNat=k;(·rw[if_pos e.symm,if_pos e,e,fY];omega);rw[if_neg (λ h=>e h.symm),if_neg e]
def gU(p:List Int)(i:Int):Int:=(p[i.toNat]?).getD 0
def jz(st:List (List (List bH)))(calls:List ByteArray)(p sh:List Int)(r:aA):Bool:=(hh calls r.Call).any λ a=>ny st sh r a (gU p a)
def rY(st:List (List (List bH)))(calls:List ByteArray)(p sh:List Int)(rl:List aA):az:=j4 (jz st calls p sh) rl az.zero
def gB(calls:List ByteArray)(rl:List aA):az:=j4 (λ r=>hb calls r.Call) rl az.zero
def c2(rl:List aA)(c:ByteArray):List aA:=rl.filter λ r=>decide (r.Call=c)
def jD(l:List az):az:=l.foldr az.add az.zero
def az.add_zero(v:az):v.add az.zero=v:=az.ext' λ k ae=>by rw[az.add_get];rcases om ae with rfl|rfl|rfl|rfl<;>exact oN _
def pV{k:Nat}(ae:k<4):az.zero.get k=0:=by rcases om ae with rfl|rfl|rfl|rfl<;>rfl
def AE{α:Type}(f g:α->Bool):∀(l:List α),(∀x∈l,f x=true->g x=false)->(l.filter λ x=>f x||g x).length=(l.filter f).length+(l.filter g).length| [],_=>rfl|a::l,h=>by have k:=AE f g l λ x j=>h x (dt _ j);have d:=h a ec;simp only[sn];cases i:f a<;>cases c:g a;(·simpa using k);(·simp only[my,if_true,fY,la,if_false];omega);(·simp only[Bool.true_or,if_true,fY,la,if_false];omega);rw[d i]at c;cases c
def Qa{st:List (List (List bH))} {calls:List ByteArray} {p sh:List Int} {r:aA}:qb st (hh calls r.Call) ((hh calls r.Call).map (gU p)) sh r=jz st calls p sh r:=by unfold qb jz;generalize hh calls r.Call=T;induction T with|nil=>rfl|cons a T c=>simp only[eS,List.zip_cons_cons,kF];rw[c]
def Ri{st:List (List (List bH))} {calls:List ByteArray} {p sh:List Int} {rl:List aA} {k:Nat}(ae:k<4)(d:∀r∈rl,r.aw<4){g:ByteArray×List Int}(a:g.2=hh calls g.1):(dO st g.2 (g.2.map (gU p)) sh (c2 rl g.1) az.zero).get k=((rl.filter λ r=>decide (r.Call=g.1)&&ll (jz st calls p sh) k r).length:Int):=by unfold c2;rw[Bo,nj ae _ _ λ r c=>d r (eR.1 c).1,pV ae];rw[List.filter_filter,Int.zero_add];congr 2;refine pu λ r _=>?_;by_cases e:r.Call=g.1;(·unfold ll;rw[a,<-e,Qa,bz rfl];simp[Bool.and_comm]);rw[bT e];simp
def HH{st:List (List (List bH))} {calls:List ByteArray} {p sh:List Int} {rl:List aA} {k:Nat}(ae:k<4)(d:∀r∈rl,r.aw<4):∀{gs:List (ByteArray×List Int)},(gs.map (·.1)).Nodup->(∀g∈gs,g.2=hh calls g.1)->(jD (gs.map λ g=>dO st g.2 (g.2.map (gU p)) sh (c2 rl g.1) az.zero)).get k=((rl.filter λ r=>hb (gs.map (·.1)) r.Call&&ll (jz st calls p sh) k r).length:Int) | [],_,_=>by rw[sd.2 λ r _=>by simp[hb]];exact pV ae|g::gs,a,c=>by rw[eS,lc]at a;have j:=HH (p:=p) (sh:=sh) (st:=st) ae d a.2 λ g h=>c g (dt _ h);have i:=Ri (st:=st) (p:=p) (sh:=sh) ae d (c g ec);rw[show jD ((g::gs).map λ g=>dO st g.2 (g.2.map (gU p)) sh (c2 rl g.1) az.zero)=az.add (dO st g.2 (g.2.map (gU p)) sh (c2 rl g.1) az.zero) (jD (gs.map λ g=>dO st g.2 (g.2.map (gU p)) sh (c2 rl g.1) az.zero))from rfl,az.add_get,j,i];have:=AE (λ r=>decide (r.Call=g.1)&&ll (jz st calls p sh) k r) (λ r=>hb (gs.map (·.1)) r.Call&&ll (jz st calls p sh) k r) rl (λ r _ h=>by rw[bP,bX]at h;rw[sB.2 (λ f=>a.1 (h.1▸f))];rfl);rw[<-Int.natCast_add,<-this];congr 2;refine pu λ r _=>?_;rw[<-Bool.and_or_distrib_right];congr 1;unfold hb;rw[eS,kF];congr 1;by_cases e:r.Call=g.1;(·simp[e]);simp[e,show¬g.1=r.Call from λ h=>e h.symm]
def y3{st:List (List (List bH))} {calls:List ByteArray} {p sh:List Int} {rl:List aA} {gs:List (ByteArray×List Int)}(a:mQ calls gs)(f:∀r∈rl,r.aw<4):rY st calls p sh rl=(gB calls rl).add (jD (gs.map λ g=>dO st g.2 (g.2.map (gU p)) sh (c2 rl g.1) az.zero)):=by refine az.ext' λ k ae=>?_;rw[az.add_get,HH ae f a.oz a.idx];unfold rY gB;rw[nj ae _ _ f,nj ae _ _ f,pV ae,Int.zero_add,Int.zero_add,<-Int.natCast_add];rw[<-AE _ _ rl (λ r _ h=>by unfold ll at h;simp only[bP,iT]at h;rw[sB.2 (λ i=>sB.1 h.1 ((a.all _).2 i))];rfl)];congr 2;refine pu λ r _=>?_;by_cases e:r.Call∈calls;(·have c:=(a.all _).1 e;rw[p2.2 c];unfold ll;simp[p2.2 e]);have c:r.Call∉gs.map (·.1):=λ h=>e ((a.all _).2 h);have d:hh calls r.Call=[]:=vY.2 λ j d=>e (aT (lW.1 d).2);rw[sB.2 c];unfold ll jz;simp[sB.2 e,d]
theorem B3{lost:az} {α:Type}(V:α->List az)(f:α->az):∀{gs:List α},(∀g∈gs,f g∈V g)->qk lost (gs.map V) (lost.add (jD (gs.map f))) | [],_=>(az.add_zero lost:_) |g::gs,h=>⟨_,f g,B3 V f λ x a=>h x (dt _ a),h g ec,az.ext' λ k _=>by show(lost.add ((f g).add (jD (gs.map f)))).get k=_;simp only[az.add_get];omega⟩
def Bp{lost:az}(V:ByteArray×List Int->List az)(W:ByteArray×List Int->List Int->az)(d:ByteArray×List Int->List Int->Prop):∀{gs:List (ByteArray×List Int)} {w:az},(gs.map (·.1)).Nodup->(∀g∈gs,∀v∈V g,∃q,d g q/\v=W g q)->qk lost (gs.map V) w-> ∃q:ByteArray->List Int,(∀g∈gs,d g (q g.1))/\w=lost.add (jD (gs.map λ g=>W g (q g.1))) | [],w,_,_,h=>⟨λ _=>[],al,(h:w=lost).trans (az.add_zero lost).symm⟩ |g::gs,w,f,j,⟨u,b,n,o,p⟩=>by rw[eS,lc]at f;obtain⟨q,t,hu⟩:=Bp V W d f.2 (λ g h=>j g (dt _ h)) n;obtain⟨i,y,s⟩:=j g ec b o;have l:∀x∈gs,x.1≠g.1:=λ x a e=>f.1 (e▸fW a);refine⟨λ c=>if c=g.1 then i else q c,λ x a=>?_,?_⟩;(·rcases cM.1 a with rfl|a;(·simpa using y);simp only[if_neg (l x a)];exact t x a);rw[p,hu,s];(have m:(gs.map λ x=>W x (if x.1=g.1 then i else q x.1))=gs.map λ x=>W x (q x.1):=gm λ x a=>by rw[if_neg (l x a)]);rw[eS,m];simp only[if_true];refine az.ext' λ k _=>?_;show _=(lost.add ((W g i).add (jD _))).get k;simp only[az.add_get];omega
def mT(calls:List ByteArray)(q:ByteArray->List Int):List Int:=(List.range calls.length).map λ a=>((((hh calls (calls.getD a ByteArray.empty)).zip (q (calls.getD a ByteArray.empty))).find? λ x=>decide (x.1=(a:Int))).map (·.2)).getD 0
def Rj{q:List Int}:∀{T:List Int},T.Nodup->q.length=T.length->(T.map λ g=>(((T.zip q).find? λ x=>decide (x.1=g)).map (·.2)).getD 0)=q:=by
 intro T d c;refine List.ext_getElem (by simp[c]) λ n a i=>?_;rw[List.getElem_map];have j:n<T.length:=by simpa using a
 have f:n<(T.zip q).length:=by rw[mC];omega
 have:(T.zip q).find? (λ x=>decide (x.1=T[n]))=some (T[n],q[n]):=by rw[List.find?_eq_some_iff_getElem];refine⟨al,n,f,al,λ l k=>?_⟩;simp only[uk,iT,m7];exact λ e=>absurd ((List.getElem_inj d).1 e) ac
 rw[this];rfl
def y4{calls:List ByteArray} {q:ByteArray->List Int} {c:ByteArray}(i:(q c).length=(hh calls c).length):(hh calls c).map (gU (mT calls q))=q c:=by refine(gm λ d f=>?_).trans (Rj (ON calls c) i);obtain⟨j,a⟩:=lW.1 f;have g:=(aD.1 a).1;unfold gU mT;rw[bm,m9 g,du,e4,cl,a,e4];congr 3;funext x;rw[show((d.toNat:Nat):Int)=d by omega]
def fC(st:List (List (List bH))):List Nat:=st.map List.length
def Rk{p:List Int} {i:Nat} {x:Int}(h:p[i]?=some x):gU p i=x:=by unfold gU;rw[da,h];rfl
def B4{st:List (List (List bH))} {calls:List ByteArray}(s:st.length=calls.length){p:List Int}(t:p∈dB (fC st))(c:ByteArray):(hh calls c).map (gU p)∈dB (fQ st (hh calls c)):=by obtain⟨l,m⟩:=ik.1 t;refine ik.2 ⟨by simp[fQ],λ k n x a f=>?_⟩;unfold fQ at a;rw[bm]at a f;cases g:(hh calls c)[k]? with|none=>rw[g]at a;cases a|some d=>rw[g]at a f;obtain⟨w,o⟩:=lW.1 (aT g);(have i:d.toNat<st.length:=by rw[s];exact(aD.1 o).1);(have j:d.toNat<p.length:=by rw[l];simpa[fC]using i);simp only[du,cg]at a f;subst a f;(have e:gU p d=p[d.toNat]:=by unfold gU;rw[aQ j];rfl);refine m d.toNat _ _ ?_ (by rw[e];exact aQ j);unfold fC;rw[bm,aQ i];rfl
def HI{st:List (List (List bH))} {calls:List ByteArray}(s:st.length=calls.length){q:ByteArray->List Int}(w:∀c∈calls,q c∈dB (fQ st (hh calls c))):mT calls q∈dB (fC st):=by
 refine ik.2 ⟨by simp[mT,fC,s],λ k n x a l=>?_⟩;have ae:k<calls.length:=by have:=(aD.1 l).1;simpa[mT]using this
 obtain⟨c,d⟩:∃c,calls[k]?=some c:=⟨_,aQ ae⟩;have i:=ik.1 (w c (aT d));have t:(q c).length=(hh calls c).length:=by rw[i.1];simp[fQ]
 have o:=y4 (q:=q) t;have p:(k:Int)∈hh calls c:=lW.2 ⟨Int.natCast_nonneg k,by simpa using d⟩;obtain⟨m,f,g⟩:=pC.1 p;have z:(q c)[m]?=some x:=by rw[<-o,bm,aQ f,g,du,Rk l]
 refine i.2 m n x ?_ z;unfold fQ;rw[bm,aQ f,g];unfold fC at a;rw[bm]at a;rw[du,da];cases j:st[k]? with|none=>rw[j]at a;cases a|some y=>rw[j]at a;simpa using a
def sC{st:List (List (List bH))} {T sh:List Int} {rs:List aA} {aV v:az}(ps:List (List Int)):v∈km st T sh rs aV ps↔∃p∈ps,v=dO st T p sh rs az.zero/\v.le aV=true:=by unfold km;(have key:∀(ps:List (List Int))(d:List az),v∈ps.foldl (λ f p=>if(dO st T p sh rs az.zero).le aV then j3 f (dO st T p sh rs az.zero)else f) d↔v∈d\/∃p∈ps,v=dO st T p sh rs az.zero/\v.le aV=true:=by intro ps;induction ps with|nil=>simp|cons p ps g=>intro d;rw[mB,g];by_cases c:(dO st T p sh rs az.zero).le aV=true;(·rw[if_pos c,B1];constructor;(·rintro((h|h) | ⟨x,a,h⟩);(·exact .inl h);(·exact .inr ⟨p,ec,h,h▸c⟩);exact .inr ⟨x,dt _ a,h⟩);rintro(h| ⟨x,a,h⟩);(·exact .inl (.inl h));rcases cM.1 a with rfl|a;(·exact .inl (.inr h.1));exact .inr ⟨x,a,h⟩);rw[if_neg c];constructor;(·rintro(h| ⟨x,a,h⟩);(·exact .inl h);exact .inr ⟨x,dt _ a,h⟩);rintro(h| ⟨x,a,h⟩);(·exact .inl h);rcases cM.1 a with rfl|a;(·exact absurd (h.1▸h.2) c);exact .inr ⟨x,a,h⟩);rw[key];simp
def nq(st:List (List (List bH)))(sh:List Int)(rl:List aA)(aV:az)(g:ByteArray×List Int):List az:=km st g.2 sh (c2 rl g.1) aV (dB (fQ st g.2))
def y5{st:List (List (List bH))} {T p sh:List Int} {rs:List aA}(a:∀r∈rs,r.aw<4):∀k,k<4->0<=(dO st T p sh rs az.zero).get k:=λ k ae=>by rw[Bo,nj ae _ _ a,pV ae];omega
def Ck:∀{l:List az} {k:Nat},k<4->(∀v∈l,0<=v.get k)->0<=(jD l).get k/\∀v∈l,v.get k<=(jD l).get k| [],k,ae,_=>⟨by show 0<=az.zero.get k;rw[pV ae];omega,al⟩ |a::l,k,ae,h=>by have d:=Ck ae λ v c=>h v (dt _ c);have f:=h a ec;have e:(jD (a::l)).get k=a.get k+(jD l).get k:=az.add_get _ _ _;refine⟨ac,λ v c=>?_⟩;rcases cM.1 c with rfl|c;(·omega);have:=d.2 v c;omega
def zh{calls:List ByteArray} {rl:List aA}(a:∀r∈rl,r.aw<4):∀k,k<4->0<=(gB calls rl).get k:=λ k ae=>by unfold gB;rw[nj ae _ _ a,pV ae];omega
def gy(st:List (List (List bH)))(calls:List ByteArray)(rl:List aA)(aV:az)(p sh:List Int):Bool:=(rY st calls p sh rl).le aV
def Qb{st:List (List (List bH))} {calls:List ByteArray} {rl:List aA} {aV:az} {gs:List (ByteArray×List Int)}(a:mQ calls gs)(s:st.length=calls.length)(f:∀r∈rl,r.aw<4)(sh:List Int):jB (gB calls rl) aV (gs.map (nq st sh rl aV))≠[]↔∃p∈dB (fC st),gy st calls rl aV p sh=true:=by
 have o:=wj (gB calls rl) aV (gs.map (nq st sh rl aV)) (λ L y v i k ae=>by obtain⟨g,_,rfl⟩:=a_.1 y;obtain⟨p,_,rfl,_⟩:=(sC _).1 i;exact y5 (λ r n=>f r (eR.1 n).1) k ae);constructor;·intro h;obtain⟨w,hw⟩:=List.exists_mem_of_ne_nil _ h;obtain⟨D,E⟩:=(o.2 w).1 hw;obtain⟨q,C,F⟩:=Bp (nq st sh rl aV) (λ g q=>dO st g.2 q sh (c2 rl g.1) az.zero) (λ g q=>q∈dB (fQ st g.2)) a.oz (λ g _ v i=>by obtain⟨p,m,j,_⟩:=(sC _).1 i;exact⟨p,m,j⟩) D;(have t:∀c∈calls,q c∈dB (fQ st (hh calls c)):=λ c z=>by obtain⟨g,d,rfl⟩:=a_.1 ((a.all c).1 z);rw[<-a.idx g d];exact C g d);refine⟨mT calls q,HI s t,?_⟩;unfold gy;rw[y3 a f];refine(congrArg (λ x=>az.le x aV) ?_).trans E;rw[F];congr 2;refine gm λ g d=>?_;rw[a.idx g d,y4];have:=(ik.1 (t g.1 ((a.all _).2 (fW d)))).1;rw[this];simp[fQ]
 rintro⟨p,m,hw⟩B;unfold gy at hw;rw[y3 a f]at hw;have:=(o.2 _).2 ⟨B3 (nq st sh rl aV) (λ g=>dO st g.2 (g.2.map (gU p)) sh (c2 rl g.1) az.zero) (λ g d=>(sC _).2 ⟨_,?_,rfl,?_⟩),hw⟩;·rw[B]at this;cases this
 ·rw[a.idx g d];exact B4 s m g.1
 refine az.le_iff.2 λ k ae=>?_;have j:=az.le_iff.1 hw k ae;rw[az.add_get]at j;have G:=(Ck (l:=gs.map λ g=>dO st g.2 (g.2.map (gU p)) sh (c2 rl g.1) az.zero) ae (λ v i=>by obtain⟨x,_,rfl⟩:=a_.1 i;exact y5 (λ r n=>f r (eR.1 n).1) k ae)).2 _ (fW d);have H:=zh (calls:=calls) f k ae;omega
def Rl{st:List (List (List bH))} {calls:List ByteArray} {rl:List aA} {aV:az} {gs:List (ByteArray×List Int)}(l:mQ calls gs)(I:st.length=calls.length)(E:∀r∈rl,r.aw<4)(sh:List Int){g:ByteArray×List Int}(C:g∈gs){n k:Int} :(∃q∈dB (fQ st g.2),(∃m:Nat,g.2[m]?=some n/\q[m]?=some k)/\∃w∈jB (gB calls rl) aV ((gs.filter λ x=>!decide (x.1=g.1)).map (nq st sh rl aV)),((dO st g.2 q sh (c2 rl g.1) az.zero).add w).le aV=true)↔n∈g.2/\∃p∈dB (fC st),p[n.toNat]?=some k/\gy st calls rl aV p sh=true:=by
 have S:∀(g:ByteArray×List Int)(p:List Int)k,k<4->0<=(dO st g.2 p sh (c2 rl g.1) az.zero).get k:=λ g p k ae=>y5 (λ r al=>E r (eR.1 al).1) k ae;have K:=wj (gB calls rl) aV ((gs.filter λ x=>!decide (x.1=g.1)).map (nq st sh rl aV)) (λ L ac v y k ae=>by obtain⟨g,_,rfl⟩:=a_.1 ac;obtain⟨p,_,rfl,_⟩:=(sC _).1 y;exact S _ _ k ae);have i:mQ calls (g::gs.filter λ x=>!decide (x.1=g.1)):=by (have ah:g.1∉(gs.filter λ x=>!decide (x.1=g.1)).map (·.1):=λ h=>by obtain⟨x,a,e⟩:=a_.1 h;have:=(eR.1 a).2;simp[e]at this);refine⟨?_,λ x a=>?_,λ c=>?_⟩;(·rw[eS,lc];exact⟨ah,(l.oz.sublist (List.Sublist.map _ List.filter_sublist))⟩);(·rcases cM.1 a with rfl|a;(·exact l.idx _ C);exact l.idx _ (eR.1 a).1);rw[l.all c,eS,cM];constructor;(·intro h;obtain⟨x,a,rfl⟩:=a_.1 h;by_cases e:x.1=g.1;(·exact .inl e);exact .inr (fW (eR.2 ⟨a,by simpa using e⟩)));rintro(rfl|h);(·exact fW C);obtain⟨x,a,rfl⟩:=a_.1 h;exact fW (eR.1 a).1
 have o:=l.idx g C;constructor;·rintro⟨X,ak,⟨m,N,ag⟩,w,hw,s⟩;have t:=aT N;refine⟨t,?_⟩;obtain⟨an,ar⟩:=(K.2 w).1 hw;have R:=i.oz;rw[eS,lc]at R;obtain⟨q,aj,ao⟩:=Bp (nq st sh rl aV) (λ g q=>dO st g.2 q sh (c2 rl g.1) az.zero) (λ g q=>q∈dB (fQ st g.2)) R.2 (λ g _ v y=>by obtain⟨p,D,j,_⟩:=(sC _).1 y;exact⟨p,D,j⟩) an;obtain⟨d,U⟩:=aC (λ c=>if c=g.1 then X else q c:ByteArray->List Int);(have V:d g.1=X:=by rw[U];simp);(have W:∀x∈gs.filter (λ x=>!decide (x.1=g.1)),d x.1=q x.1:=λ x a=>by have:=(eR.1 a).2;rw[U];simp only[iT,m7]at this;exact if_neg this);(have T:∀c∈calls,d c∈dB (fQ st (hh calls c)):=λ c F=>by have:=(i.all c).1 F;rw[eS,cM]at this;rcases this with rfl|h;(·rw[V,<-o];exact ak);obtain⟨x,a,rfl⟩:=a_.1 h;rw[W x a,<-i.idx x (dt _ a)];exact aj x a);(have Q:∀c∈calls,(d c).length=(hh calls c).length:=λ c F=>by rw[(ik.1 (T c F)).1];simp[fQ]);have af:=(l.all g.1).2 (fW C);have H:=y4 (q:=d) (Q g.1 af);rw[V,<-o]at H;refine⟨mT calls d,HI I T,?_,?_⟩;(·obtain⟨aa,j⟩:=lW.1 (o▸t);(have z:gU (mT calls d) n=k:=by (have:(g.2.map (gU (mT calls d)))[m]?=some k:=by rw[H];exact ag);rw[bm,N]at this;simpa using this);(have J:n.toNat<(mT calls d).length:=by rw[show(mT calls d).length=calls.length by simp[mT]];exact(aD.1 j).1);unfold gU at z;rw[aQ J]at z⊢;simpa using z);unfold gy;rw[y3 i E];refine(congrArg (λ x=>az.le x aV) ?_).trans s;rw[ao];(have Z:(gs.filter λ x=>!decide (x.1=g.1)).map (λ g=>dO st g.2 (g.2.map (gU (mT calls d))) sh (c2 rl g.1) az.zero)=(gs.filter λ x=>!decide (x.1=g.1)).map λ g=>dO st g.2 (q g.1) sh (c2 rl g.1) az.zero:=gm λ x a=>by have aq:=i.idx x (dt _ a);have ap:=(i.all x.1).2 (fW (dt _ a));have:=y4 (q:=d) (Q x.1 ap);rw[<-aq,W x a]at this;rw[this]);rw[eS,Z,H];refine az.ext' λ k _=>?_;show(az.add _ (az.add _ (jD _))).get k=_;simp only[az.add_get];omega
 rintro⟨t,p,D,ai,hw⟩;obtain⟨aa,j⟩:=lW.1 (o▸t);obtain⟨m,M,O⟩:=pC.1 t;refine⟨g.2.map (gU p),o▸B4 I D g.1,⟨m,by rw[aQ M,O],?_⟩,?_⟩;·rw[bm,aQ M,O,du];unfold gU;rw[ai];rfl
 unfold gy at hw;rw[y3 i E,eS]at hw;obtain⟨f,B⟩:=aC (λ g=>dO st g.2 (g.2.map (gU p)) sh (c2 rl g.1) az.zero:ByteArray×List Int->az);have G:∀g k,k<4->0<=(f g).get k:=λ g k ae=>by rw[B];exact S g _ k ae
 rw[<-B]at hw;have ad:dO st g.2 (g.2.map (gU p)) sh (c2 rl g.1) az.zero=f g:=by rw[B]
 rw[ad]at hw⊢;have s:∀k,k<4->(gB calls rl).get k+((f g).get k+(jD ((gs.filter λ x=>!decide (x.1=g.1)).map f)).get k)<=aV.get k:=λ k ae=>by have:=az.le_iff.1 hw k ae;rw[az.add_get,show jD (f g::(gs.filter λ x=>!decide (x.1=g.1)).map f)=(f g).add (jD ((gs.filter λ x=>!decide (x.1=g.1)).map f))from rfl,az.add_get]at this;exact this
 have am:∀k,k<4->0<=(jD ((gs.filter λ x=>!decide (x.1=g.1)).map f)).get k/\∀v∈(gs.filter λ x=>!decide (x.1=g.1)).map f,v.get k<=(jD ((gs.filter λ x=>!decide (x.1=g.1)).map f)).get k:=λ k ae=>Ck ae λ v y=>by obtain⟨x,_,rfl⟩:=a_.1 y;exact G x k ae
 refine⟨(gB calls rl).add (jD ((gs.filter λ x=>!decide (x.1=g.1)).map f)),(K.2 _).2 ⟨B3 _ f (λ x a=>(sC _).2 ⟨x.2.map (gU p),?_,by rw[B],?_⟩),?_⟩,?_⟩;·rw[i.idx x (dt _ a)];exact B4 I D x.1
 ·refine az.le_iff.2 λ k ae=>?_;have j:=s k ae;have z:=(am k ae).2 _ (fW a);have J:=zh (calls:=calls) E k ae;have ab:=G g k ae;omega
 ·refine az.le_iff.2 λ k ae=>?_;have j:=s k ae;have ab:=G g k ae;rw[az.add_get];omega
 refine az.le_iff.2 λ k ae=>?_;have j:=s k ae;rw[az.add_get,az.add_get];omega
def hZ(lo a n:Int):Bool:=decide (n<lo) ||decide (a<n)
def OO(lo c n:Int):aB 202 [ab n,.ptr [ab lo] 0,.ptr [ab c] 0] (.bool (hZ lo c n)):=by refine aY Tryz.func202 (λ A q P Y f a d=>?_);refine aR (λ h=>?_) λ h=>?_;(·rw[<-d,hZ,bz (eG a h)];rfl);rw[<-d,hZ,bT (by have:=ej a h;omega)];show af.bool (A.ha c n)=_;subst a;rfl
def Gu(lo a:Int)(l:aI){xs:am}(g:xs=av l):aB 129 [ab lo,ab a,.aa 1 xs] (.bool (!l.any (hZ lo a))):=by refine aY Tryz.func129 (λ A q P Y i c f=>?_);have d:=Ay (hZ lo a) l g (λ x _=>OO lo a x);generalize l.any (hZ lo a)=b at d f;(conv=>cbv);refine cZ c d (cp ?_);rw[<-f];subst c;rfl
def fO(f:an){ws:am}(h:ws=av f.aM):fG f=.agg [ab f.b0,ab f.h3,ab f.Class,.str f.Call,.aa 1 ws,ab f.cD.b4,ab f.cD.b5,.bool f.Cancel]:=by rw[h];rfl
def Nm(bq:Int)(ss cs ws ms ks:am)(f1 f2 f3 f6 f7:Int)(f4:ByteArray)(f5:am)(f8:Bool):aB 252 [.agg [ab bq,.aa 5 ss,.aa 3 cs,.aa 3 ws,.aa 1 ms,.aa 6 ks],.agg [ab f1,ab f2,ab f3,.str f4,.aa 1 f5,ab f6,ab f7,.bool f8]] (.fn 283 [.ptr [ab bq,.aa 5 ss,.aa 3 cs,.aa 3 ws,.aa 1 ms,.aa 6 ks] 0,.ptr [ab f1,ab f2,ab f3,.str f4,.aa 1 f5,ab f6,ab f7,.bool f8] 0]):=by refine aY Tryz.func252 (λ A q P Y d c a=>?_);(conv=>cbv);rw[<-a]
def xx(n k:Nat):bW:=⟨(10*(k/(3*n)):Nat),((k %(3*n))/3:Nat),(5*(k %3):Nat),false⟩
def kn(L:Int)(n:Nat)(c:Bool):List bW:=(List.range ((L/10+1).toNat*(3*n))).map (xx n)++(if c then[⟨0,0,0,true⟩]else[])
def HJ{n j w m:Nat}(hw:w<n)(i:m<3):xx n (j*(3*n)+(3*w+m))=⟨((10*j:Nat):Int),(w:Int),((5*m:Nat):Int),false⟩:=by
 unfold xx;have g:0<3*n:=ac;have a:3*w+m<3*n:=ac;have c:(j*(3*n)+(3*w+m))/(3*n)=j:=by rw[ld,Nat.add_mul_div_right _ _ g,Nat.div_eq_of_lt a,hn]
 have d:(j*(3*n)+(3*w+m))%(3*n)=3*w+m:=by rw[ld,Nat.add_mul_mod_self_right,sm a]
 have f:(j*(3*n)+(3*w+m))%3=m:=by rw[Nat.mul_left_comm];generalize j*n=X;omega
 rw[c,d,f,show(3*w+m)/3=w by omega]
def Qc{L:Int} {n j w m:Nat} {c:Bool}(k:(10*j:Nat)<=L)(hw:w<n)(g:m<3):((kn L n c).map λ i=>[fc i])[j*(3*n)+(3*w+m)]?=some [.agg [ab ((10*j:Nat):Int),ab (w:Int),ab ((5*m:Nat):Int),.bool false]]:=by have f:j<(L/10+1).toNat:=ac;(have a:j*(3*n)+(3*w+m)<(L/10+1).toNat*(3*n):=by have d:(j+1)*(3*n)<=(L/10+1).toNat*(3*n):=iV _ f;rw[kG,Nat.one_mul]at d;omega);unfold kn;rw[gh,bu (by simpa using a),bm,bm,m9 a];simp only[du,HJ hw g];rfl
def Gv(L:Int)(n:Nat)(c:Bool):(kn L n c).length=(L/10+1).toNat*(3*n)+(if c then 1 else 0):=by unfold kn;rw[bO,cE,v'];cases c<;>rfl
def OP{L:Int} {n:Nat}:((kn L n true).map λ a=>[fc a])[(L/10+1).toNat*(3*n)]?=some [.agg [ab 0,ab 0,ab 0,.bool true]]:=by unfold kn;rw[gh,b1 al];simp[fc]
def ME(K:List eE)(f:an)(k:eE)(H:0<=f.Class)(ae:K[f.Class.toNat]?=some k)(T:0<=k.gw)(U:k.gw<=60)(N:f.aM.length<=1000)(bq:Int)(ss cs ws ms ks G:am)(ar:ks=cz K)(Q:G=av f.aM):l3 Tryz.prog 283 [.ptr [ab bq,.aa 5 ss,.aa 3 cs,.aa 3 ws,.aa 1 ms,.aa 6 ks] 0,.ptr [ab f.b0,ab f.h3,ab f.Class,.str f.Call,.aa 1 G,ab f.cD.b4,ab f.cD.b5,.bool f.Cancel] 0] ((kn k.gw f.aM.length f.Cancel).map λ ay=>[fc ay]):=by
 refine uU (a6:=λ _=>false) (rows:=false) gd Tryz.func283 rfl (cL Tryz.func283) rfl (λ A P Y aF y az aI o R a V=>?_);have p:=λ q(h:q=Y.cQ.length\/q=Y.cQ.length+1)=>V q (by rw[o]at h;exact h);have t:G.length=f.aM.length:=by rw[Q];simp[av]
 have ad:=(aD.1 ae).1;obtain⟨f1,f2,f3,f4,f5,⟨f6,f7⟩,f8⟩:=f;simp only at H ae N Q t o ad⊢;obtain⟨n,au⟩:=aC f5.length;rw[<-au]at N t o;obtain⟨L,x⟩:=aC k.gw;rw[<-x]at T U o;have S:Y.cQ.length=(L/10+1).toNat*(3*n)+(if f8 then 1 else 0):=by rw[o,cE,Gv]
 refine cp (b6 a (λ(z:Int×Nat)s=>{s.put (some 4) (.val (ab z.1))with ao:=⟨s.ao.mp,z.2⟩}) (λ z=>∃j:Nat,z.1=(10*j:Nat)/\(10*j:Nat)<=L+10/\z.2=j*(3*n)) (λ z=>(L+10-z.1).toNat) (0,0) ?_ ?_ ?_);·exact ba
 ·exact⟨0,rfl,ac,al⟩
 rintro aA⟨d,c⟩⟨j,I,aG,i⟩W;simp only at I i;refine cp (lf a ar H ac (λ aL v aq aJ=>?_));obtain rfl:=bC (ae.symm.trans aq);obtain⟨aO,aP,aQ,aS,aT,aU⟩:=k;simp only at x;subst x;refine aR (λ g=>?_) λ g=>?_;·have af:=fI a g;have B:A.ak d 10=d+10:=bv a _ _;have aj:((10*j:Nat):Int)<=L:=ac;refine b6 a (λ(z:Int×Nat)s=>{s.put (some 21) (.val (ab z.1))with ao:=⟨s.ao.mp,z.2⟩}) (λ z=>∃w:Nat,z.1=(w:Int)/\w<=n/\z.2=j*(3*n)+3*w) (λ z=>(n-z.1).toNat) (0,c) ?_ ?_ ?_;(·exact ba);(·exact⟨0,rfl,ac,by show c=_;omega⟩);rintro aB⟨l,c⟩⟨w,O,aK,i⟩X;simp only at O i;refine aR (λ g=>?_) λ g=>?_;(·(have hw:w<n:=by have:=a7 a rfl (ap a t) g;omega);have E:A.ak l 1=l+1:=bv a _ _;have aw:A.bS (A.ak l 1):=a1 a E aW;refine b6 a (λ(z:Int×Nat)s=>{s.put (some 6) (.val (ab z.1))with ao:=⟨s.ao.mp,z.2⟩}) (λ z=>∃m:Nat,z.1=((5*m:Nat):Int)/\m<=3/\z.2=j*(3*n)+(3*w+m)) (λ z=>(15-z.1).toNat) (0,c) ?_ ?_ ?_;(·exact ba);(·exact⟨0,rfl,ac,by show c=_;omega⟩);rintro aE⟨h,c⟩⟨m,J,aH,i⟩Z;simp only at J i;refine aR (λ g=>?_) λ g=>?_;(·(have M:m<3:=by have:=fI a g;omega);have C:A.ak h 5=h+5:=bv a _ _;have ah:A.bS (A.ak h 5):=a1 a C aW;(have F:Y.cQ[c]?=some [.agg [ab d,ab l,ab h,.bool false]]:=by rw[o,i,I,O,J];exact Qc aj hw M);refine oQ a rfl R F ?_ (λ ax D=>?_);(·refine bB (λ g=>cx a g) ?_;refine⟨ah,Z (A.ak h 5,c+1) _ ?_ ?_ ?_⟩;(·exact ba);(·exact⟨m+1,by show A.ak h 5=_;rw[C];omega,ac,by show c+1=_;omega⟩);show(15-A.ak h 5).toNat<(15-h).toNat;rw[C];omega);(conv=>cbv);split;(·(conv=>cbv);exact p _ (.inr D));rename_i g;have ag:False:=dm a g;cases ag);(have M:m=3:=by have:=ft a g;omega);refine⟨aw,X (A.ak l 1,c) _ ?_ ?_ ?_⟩;(·exact ba);(·exact⟨w+1,by show A.ak l 1=_;rw[E];omega,ac,by show c=_;omega⟩);show((n:Int)-A.ak l 1).toNat<((n:Int)-l).toNat;rw[E];omega);(have hw:w=n:=by have:=bc a rfl (ap a t) g;omega);refine⟨a1 a B aW,W (A.ak d 10,c) _ ?_ ?_ ?_⟩;(·exact ba);(·refine⟨j+1,by show A.ak d 10=_;rw[B];omega,ac,?_⟩;show c=_;rw[i,hw,kG,Nat.one_mul]);show(L+10-A.ak d 10).toNat<(L+10-d).toNat;rw[B];omega
 have af:=ft a g;have ai:j=(L/10+1).toNat:=ac;rw[ai]at i;cases f8 with|false=>(conv=>cbv);exact p _ (.inl (by show c=_;rw[S,i];simp)) |true=>(have F:Y.cQ[c]?=some [.agg [ab 0,ab 0,ab 0,.bool true]]:=by rw[o,i];exact OP);refine cp (oQ a rfl R F ?_ (λ ax D=>?_));(·(conv=>cbv);exact p _ (.inl (by show c+1=_;rw[S,i];simp)));(conv=>cbv);exact p _ (.inr D)
end Go.Abs
namespace Go.Abs
def xZ(L:Int)(n:Nat)(c:Bool)(o:bW):Prop:=(o.Cancel=true/\c=true/\o=⟨0,0,0,true⟩)\/(o.Cancel=false/\0<=o.fy/\o.fy.tmod 10=0/\o.fy<=L/\0<=o.Way/\o.Way<n/\0<=o.eO/\o.eO.tmod 5=0/\o.eO<=10)
def Gw{L:Int} {n:Nat} {c:Bool}(o:bW):o∈kn L n c↔xZ L n c o:=by
 unfold kn;rw[dH];constructor;·rintro(h|h);(·obtain⟨k,ae,rfl⟩:=a_.1 h;have m:=h_.1 ae;(have B:0<n:=by rcases kD n with a|a;(·subst a;simp at m);exact a);have l:0<3*n:=ac;have d:k/(3*n)<(L/10+1).toNat:=(Nat.div_lt_iff_lt_mul l).2 m;have f:k %(3*n)<3*n:=oO _ l;have g:k %3<3:=oO _ ac;refine .inr ⟨rfl,?_⟩;simp only[xx];refine⟨ac,?_,ac,ac,ac,ac,?_,ac⟩;(·rw[qX ac];omega);rw[qX ac];omega);cases c with|false=>simp at h|true=>simp at h;subst h;exact .inl ⟨rfl,rfl,rfl⟩
 rintro(⟨_,rfl,rfl⟩ | ⟨a,d,f,g,s,t,i,j,w⟩);·exact .inr al
 obtain⟨p,y,z,C⟩:=o;simp only at a d f g s t i j w;subst a;rw[qX d]at f;rw[qX i]at j;refine .inl (a_.2 ⟨(p.toNat/10)*(3*n)+(3*y.toNat+z.toNat/5),h_.2 ?_,?_⟩);·have x:(p.toNat/10+1)*(3*n)<=(L/10+1).toNat*(3*n):=iV _ ac;rw[kG,Nat.one_mul]at x;omega
 rw[HJ ac ac];simp only[bW.mk.injEq,and_true];omega
open Go.Proofs Go.RowKit
def Qd(v:bW)(l:List bW){xs:am}(n:xs=nl l):aB 253 [.aa 4 xs,fc v] (ab (ev (λ x=>decide (v=x)) l)):=by
 refine aY Tryz.func253 (λ A q P Y G a m=>?_);have L:=(G.mem (p:=.aa 4 xs) al).len;have k:xs.length=l.length:=by rw[n];simp[nl]
 obtain⟨v1,v2,v3,v4⟩:=v;conv=>cbv
 refine ff a 8 ((l.length:Int)) (λ c=>∀x∈l.take c.toNat,decide ((⟨v1,v2,v3,v4⟩:bW)=x)=false) 0 ⟨bk _,ac,al⟩ ?_;rintro I c⟨i,J,j⟩z E F;refine aR (λ g=>?_) λ g=>?_;·have d:c<(l.length:Int):=a7 a rfl (ap a k) g;have K:=E;obtain⟨D,B,C⟩:=F d;refine⟨cK a bb,?_⟩;refine Sk a n i d (λ x o=>?_);have H:=e5 i o;obtain⟨s,t,w,y⟩:=x;refine aR (λ h=>?_) λ h=>?_;(·(have f:decide ((⟨v1,v2,v3,v4⟩:bW)=⟨s,t,w,y⟩)=true:=by subst a;simpa[ay]using h);rw[<-m,yX i o f j]);(have f:decide ((⟨v1,v2,v3,v4⟩:bW)=⟨s,t,w,y⟩)=false:=by subst a;simpa[ay]using h);exact⟨D,z (A.ak c 1) _ ba (C (iQ H j f)) B⟩
 have d:c=(l.length:Int):=by have:=bc a rfl (ap a k) g;omega
 rw[<-m,Bf (lg d j)]
def MF(v:bW)(l:List bW){xs:am}(g:xs=nl l):aB 207 [.aa 4 xs,fc v] (.bool (decide (v∈l))):=by
 refine aY Tryz.func207 (λ A q P Y i c a=>?_);have d:=Qd v l g;have f:l.any (λ x=>decide (v=x))=decide (v∈l):=by rw[fE];simp
 rw[<-f,<-sA]at a;generalize ev (λ x=>decide (v=x)) l=r at d a;obtain⟨v1,v2,v3,v4⟩:=v;conv=>cbv
 refine cZ c d (cp ?_);rw[<-a];subst c;rfl
def rZ(f:an):Bool:=decide (f.aM.length<=8)&&decide (f.Call.size<=100)
def Gx(f:an):aB 34 [fG f] (.bool (rZ f)):=by
 refine aY Tryz.func34 (λ A q P Y m a c=>?_);have d:rZ f=(decide (f.aM.length<=8)&&decide (f.Call.size<=100)):=rfl;obtain⟨f1,f2,f3,f4,f5,⟨f6,f7⟩,f8⟩:=f;obtain⟨j,g⟩:=aC (av f5);have i:j.length=f5.length:=by rw[g];simp[av]
 rw[fO _ g];simp only at d⊢;rw[d]at c;have l:A.pr f4=(f4.size:Int):=by subst a;rfl
 refine aR (λ h=>?_) λ h=>?_;·have k:=qm a (ap a i) rfl h;rw[<-c,bz ac];(have e:A.hP (A.pr f4) 100=decide (f4.size<=100):=by rw[l];subst a;simp[ay];omega);show af.bool (A.hP (A.pr f4) 100)=_;rw[e];rfl
 have k:=qn a (ap a i) rfl h;rw[<-c,bT ac];rfl
def Gy(n:Int):aB 218 [ab n] (.bool false):=by refine aY Tryz.func218 (λ A q P Y d a c=>?_);(conv=>cbv);rw[<-c];subst a;simp[ay]
def oo(a b:Int):Int:=if a<b then-1 else if b<a then 1 else 0
def Fe(a b:Int):aB 146 [ab a,ab b] (ab (oo a b)):=by
 refine aY Tryz.func146 (λ A q P Y j c d=>?_);have i:oo a b=if a<b then-1 else if b<a then 1 else 0:=rfl;rw[i]at d;refine aJ c (Gy a) ?_;refine aJ c (Gy b) ?_;split;next h=>(conv=>cbv);rw[<-d,if_pos (eG c h)]
 rename_i f;refine aR (λ h=>?_) λ g=>?_;·rw[<-d,if_neg (by have:=ej c f;omega),if_pos (eG c h)]
 rw[<-d,if_neg (by have:=ej c f;omega),if_neg (by have:=ej c g;omega)]
def k6:aI->Int| []=>0|x::r=>if x≠0 then x else k6 r
theorem A3:∀(a b:aI),(∀x∈a,x=0)->k6 (a++b)=k6 b| [],b,_=>rfl|x::r,b,h=>by rw[nc,k6,if_neg (by simp[h x al])];exact A3 r b λ y c=>h y (by simp[c])
def KE(l:aI){xs:am}(n:xs=av l):aB 145 [.aa 1 xs] (ab (k6 l)):=by
 refine aY Tryz.func145 (λ A q P Y D a m=>?_);have k:xs.length=l.length:=by rw[n];simp[av]
 have I:l.length<=9223372036854775807:=by have:=(D.mem (p:=.aa 1 xs) al).len;omega
 conv=>cbv
 refine ff a 8 ((l.length:Int)) (λ c=>∀x∈l.take c.toNat,x=0) 0 ⟨bk _,ac,al⟩ ?_;rintro F c⟨j,G,g⟩t B C;refine aR (λ f=>?_) λ f=>?_;·have d:c<(l.length:Int):=a7 a rfl (ap a k) f;have H:=B;obtain⟨z,w,y⟩:=C d;refine dZ a n j d (λ x o=>?_);have E:=e5 j o;have J:c.toNat<l.length:=ac;(have e:k6 l=k6 (x::l.drop (c.toNat+1)):=by have i:=aD.1 o;rw[<-i.2,List.getElem_cons_drop i.1];(conv=>lhs;rw[<-hB c.toNat l]);exact A3 _ _ g);refine aR (λ h=>?_) λ h=>?_;(·rw[<-m,e,k6,if_pos (b3 a h)]);exact⟨z,t (A.ak c 1) _ ba (y (iQ E g (db a h))) w⟩
 have d:c=(l.length:Int):=by have:=bc a rfl (ap a k) f;omega
 have s:k6 l=0:=by have:=A3 l [] (lg d g);rw[gA]at this;exact this
 rw[<-m,s]
open Go.Proofs Go.RowKit Go.Shelf
def KF:Ren:=⟨λ x=>if x=137 then 184 else if x=217 then 240 else 281,λ x=>if x=3 then 3 else if x=5 then 5 else 9,id⟩
theorem KG:Lays.n137 Tryz.prog KF where
 mixed:=bb
 f137:=bb
 f217:=bb
 f266:=bb
 t3:=Tryz.underlying3
 a3:=Tryz.isAgg3
 z3:=Tryz.sizeOf3
 v3:=Tryz.zeroValue3
 t5:=Tryz.underlying5
 a5:=Tryz.isAgg5
 z5:=Tryz.sizeOf5
 v5:=Tryz.zeroValue5
 t9:=Tryz.underlying9
 a9:=Tryz.isAgg9
 z9:=Tryz.sizeOf9
 v9:=Tryz.zeroValue9
def Me(s:ByteArray)(c:Int):aB 184 [.str s,.int .u8 c] (ab (Lib.indexByte s.data.toList c.toNat.toUInt8)):=by refine⟨enters_of Tryz.func184 bb rfl,λ S w vs i a=>?_⟩;obtain⟨g,a⟩:=a;match vs,g with| [v0,v1],_=>have d:=a 0 _ v0 rfl rfl;have f:=a 1 _ v1 rfl rfl;cases d;cases f;have h:Calls Tryz.prog 184 #[.string s,.int .u8 c] w _:=Any.strings_IndexByte KG s c w;refine h.mono ?_;rintro e j⟨rfl,rfl⟩;exact⟨_,rfl,Below.refl _ _,.int _ _⟩
def xy:ByteArray:=⟨#[123,125,40,41,59,44,61,35,47,60,33,45,46]⟩
def im(c:Int):Int:=if(97<=c/\c<=122)\/(65<=c/\c<=90)then 2 else if 48<=c/\c<=57 then 3 else if c=95 then 5 else if c=32\/c=9\/c=10\/c=13 then 1 else if 0<=Lib.indexByte xy.data.toList c.toNat.toUInt8 then 4 else 0
def Qe(c:Int):aB 101 [.int .u8 c] (ab (im c)):=by
 refine aY Tryz.func101 (λ A q P Y j a g=>?_);have f:=Me xy c;have i:im c=if(97<=c/\c<=122)\/(65<=c/\c<=90)then 2 else if 48<=c/\c<=57 then 3 else if c=95 then 5 else if c=32\/c=9\/c=10\/c=13 then 1 else if 0<=Lib.indexByte xy.data.toList c.toNat.toUInt8 then 4 else 0:=rfl;rw[i]at g;clear i;generalize Lib.indexByte xy.data.toList c.toNat.toUInt8=k at f g;rw[show xy=⟨#[123,125,40,41,59,44,61,35,47,60,33,45,46]⟩from rfl]at f;conv=>cbv
 repeat' first| (split<;>rename_i d<;>(first|replace d:=fI a d|replace d:=ft a d|replace d:=mc a d|replace d:=k2 a d)<;>(conv=>cbv)) | (refine cZ a f (cp ?_))
 all_goals rw[<-g];congr 1;(repeat' split)<;>omega
def jl(s:ByteArray)(i:Nat):Int:=((s.data.toList.getD i 0).toNat:Int)
def m1(c:Int):Bool:=decide (c=2) ||decide (c=3) ||decide (c=5)
def io(s:ByteArray):Bool:=!decide (s.size=0)&&decide ((s.size:Int)<=32)&&decide (im (jl s 0)=2)&&(List.range s.size).all λ a=>m1 (im (jl s a))
section
variable{A:dF} {E:Env}
def K1(c:A=ay E){a b:ByteArray}(h:A.m3 a b=true):a=b:=by subst c;simpa[ay]using h
def K2(c:A=ay E){a b:ByteArray}(h:A.m3 a b=false):a≠b:=by subst c;simpa[ay]using h
def mo(a:A=ay E)(s:ByteArray):A.pr s=(s.size:Int):=by subst a;rfl
def CV(a:A=ay E)(s:ByteArray)(n:Int):A.vS s n=jl s n.toNat:=by subst a;rfl
end
def KH{s:ByteArray}(h:s.size=0):s=⟨#[]⟩:=by obtain⟨d⟩:=s;have a:d.size=0:=h;rw[Array.size_eq_zero_iff.1 a]
def HK{A:dF} {E:Env}(a:A=ay E)(s:ByteArray)(n:Int):aB 101 [.int .u8 (A.vS s n)] (ab (im (jl s n.toNat))):=by rw[CV a];exact Qe _
def HL{s:ByteArray} {i:Nat}(a:i<s.size)(h:m1 (im (jl s i))=false):io s=false:=by (have:((List.range s.size).all λ i=>m1 (im (jl s i)))=false:=by rw[na];exact⟨i,h_.2 a,by rw[h];decide⟩);rw[io,this,Bool.and_false]
def B5(s:ByteArray):aB 57 [.str s] (.bool (io s)):=by
 refine aY Tryz.func57 (λ A q P Y Q a j=>?_);refine ca (λ h=>?_) λ g=>?_;·rw[<-j,io,K1 a h];rfl
 have E:s.size≠0:=λ e=>K2 a g (KH e);refine aR (λ h=>?_) λ F=>?_;·have B:=a7 a rfl (mo a s) h;rw[<-j,io,bT (p:=(s.size:Int)<=32) ac];simp
 have G:(s.size:Int)<=32:=bc a rfl (mo a s) F;refine⟨zO a (mo a s) ac ac,(cp ?_)⟩;refine vw a (HK a s 0) rfl (λ c f=>?_);refine aR (λ h=>?_) λ H=>?_;·have B:im (jl s 0)≠2:=λ e=>b3 a h (f.trans e);rw[<-j,io,bT (p:=im (jl s 0)=2) B];simp
 have I:im (jl s 0)=2:=f.symm.trans (db a H);clear f;refine ff a 20 ((s.size:Int)) (λ d=>∀k,k<d.toNat->m1 (im (jl s k))=true) 0 ⟨bk _,ac,al⟩ ?_;rintro M d⟨J,N,D⟩t K L;refine aR (λ f=>?_) λ f=>?_;·have w:d<(s.size:Int):=a7 a rfl (mo a s) f;have O:=K;obtain⟨z,x,y⟩:=L w;refine⟨zO a (mo a s) J w,(cp ?_)⟩;refine vw a (HK a s d) rfl (λ b C=>cp ?_);(have o:(b=2\/b=3\/b=5)->∀k,k<(d+1).toNat->m1 (im (jl s k))=true:=λ h k ae=>by rcases sg (wa (show k<d.toNat+1 by omega))with g|g;(·exact D k g);rw[g,<-C,m1];rcases h with h|h|h<;>rw[h]<;>rfl);split;(next l=>refine dD (λ m=>?_) λ m=>?_;(·refine aR (λ n=>?_) λ n=>?_;(·rw[<-j,HL (i:=d.toNat) ac (by rw[<-C,m1,bT (b3 a l),bT (b3 a m),bT (b3 a n)];rfl)]);exact⟨z,t (A.ak d 1) _ ba (y (o (.inr (.inr (db a n))))) x⟩);exact⟨z,t (A.ak d 1) _ ba (y (o (.inr (.inl (db a m))))) x⟩);rename_i l;(conv=>cbv);exact⟨z,t (A.ak d 1) _ ba (y (o (.inl (db a l)))) x⟩
 have w:d=(s.size:Int):=by have:=bc a rfl (mo a s) f;omega
 rw[<-j,io,bT E,bz G,bz I];have:((List.range s.size).all λ d=>m1 (im (jl s d)))=true:=by rw[cu];intro k ae;exact D k (by have:=h_.1 ae;omega)
 rw[this];rfl
def p3(c:Int):Bool:=decide (97<=c/\c<=122) ||decide (65<=c/\c<=90)
def Zip(c:Int):Bool:=decide (48<=c/\c<=57)
def xz(c:Int):Bool:=p3 c||Zip c||decide (c=95)
def Nn(c:Int):p3 c=decide (im c=2):=by
 unfold p3 im;rw[fE];simp only[lT,bX];constructor;·intro h;rw[if_pos h]
 intro h;by_cases a:(97<=c/\c<=122)\/(65<=c/\c<=90);·exact a
 rw[if_neg a]at h;repeat' split at h
 all_goals cases h
def Qf(c:Int):xz c=m1 (im c):=by
 unfold xz p3 Zip m1 im;rw[fE];simp only[lT,bX];by_cases a:(97<=c/\c<=122)\/(65<=c/\c<=90);·rw[if_pos a];simp[a]
 rw[if_neg a];by_cases d:48<=c/\c<=57;·rw[if_pos d];simp[d]
 rw[if_neg d];by_cases f:c=95;·rw[if_pos f];simp[f]
 rw[if_neg f];simp only[a,d,f,or_self,false_iff];repeat' split
 all_goals simp
def yl{A:dF} {E:Env}(c:A=ay E)(a b:Int):A.hP a b=decide (a<=b):=by subst c;rfl
def ET(c:Int):aB 170 [.int .u8 c] (.bool (p3 c)):=by
 refine aY Tryz.func170 (λ A q P Y m a l=>?_);have fin:∀b:Bool,(b=true↔(97<=c/\c<=122)\/(65<=c/\c<=90))->af.bool b=q:=λ b h=>by rw[<-l];congr 1;rw[fE,h];simp[p3]
 refine hs (λ f=>?_) λ f=>?_;·have j:=fI a f;refine ca (λ g=>?_) λ g=>?_;(·have k:=fI a g;exact fin _ ⟨λ _=>by omega,λ _=>rfl⟩);have k:=ft a g;refine aR (λ d=>?_) λ d=>?_;(·refine fin (A.hP c 90) ?_;rw[yl a,decide_eq_true_iff];omega);have i:=ft a d;exact fin _ ⟨λ h=>Bool.noConfusion h,λ h=>by omega⟩
 have j:=ft a f;refine aR (λ d=>?_) λ d=>?_;·have i:=fI a d;refine fin (A.hP c 90) ?_;rw[yl a,decide_eq_true_iff];omega
 have i:=ft a d;exact fin _ ⟨λ h=>Bool.noConfusion h,λ h=>by omega⟩
def MG(c:Int):aB 234 [.int .u8 c] (.bool (Zip c)):=by
 refine aY Tryz.func234 (λ A q P Y i d g=>?_);have fin:∀b:Bool,(b=true↔(48<=c/\c<=57))->af.bool b=q:=λ b h=>by rw[<-g];congr 1;rw[fE,h];simp[Zip]
 refine aR (λ a=>?_) λ a=>?_;·have f:=fI d a;refine fin (A.hP c 57) ?_;rw[yl d,decide_eq_true_iff];omega
 have f:=ft d a;exact fin _ ⟨λ h=>Bool.noConfusion h,λ h=>by omega⟩
def OQ(c:Int):aB 171 [.int .u8 c] (.bool (xz c)):=by refine aY Tryz.func171 (λ A q P Y l d a=>?_);have f:=ET c;have g:=MG c;have k:xz c=(p3 c||Zip c||decide (c=95)):=rfl;rw[k]at a;generalize p3 c=i at f a;generalize Zip c=j at g a;refine aJ d f ?_;cases i with|true=>exact cp a|false=>refine aJ d g ?_;cases j with|true=>exact cp a|false=>refine cp (Eq.trans ?_ a);show af.bool (A.cV c 95)=_;rw[KX d];rfl
def No{A:dF} {E:Env}(a:A=ay E)(s:ByteArray)(n:Int):aB 170 [.int .u8 (A.vS s n)] (.bool (p3 (jl s n.toNat))):=by rw[CV a];exact ET _
def Np{A:dF} {E:Env}(a:A=ay E)(s:ByteArray)(n:Int):aB 171 [.int .u8 (A.vS s n)] (.bool (xz (jl s n.toNat))):=by rw[CV a];exact OQ _
def OR(s:ByteArray):aB 88 [.str s] (.bool (io s)):=by
 refine aY Tryz.func88 (λ A q P Y N a j=>?_);refine ca (λ h=>?_) λ g=>?_;·have m:=a7 a (mo a s) rfl h;rw[<-j,io,bz (p:=s.size=0) ac];rfl
 have K:=bc a (mo a s) rfl g;refine aR (λ h=>?_) λ t=>?_;·have m:=a7 a rfl (mo a s) h;rw[<-j,io,bT (p:=(s.size:Int)<=32) ac];simp
 have w:(s.size:Int)<=32:=bc a rfl (mo a s) t;refine⟨zO a (mo a s) ac ac,(cp ?_)⟩;refine dU a (No a s 0) rfl (λ c f=>cp ?_);rw[Nn]at f;split;next h=>have m:im (jl s 0)≠2:=of_decide_eq_false (f.symm.trans (e1 a h));(conv=>cbv);rw[<-j,io,bT (p:=im (jl s 0)=2) m];simp
 rename_i x;have y:im (jl s 0)=2:=fD (f.symm.trans (eV a x));clear f;conv=>cbv
 refine ff a 3 ((s.size:Int)) (λ d=>∀k,k<d.toNat->m1 (im (jl s k))=true) 0 ⟨bk _,ac,al⟩ ?_;rintro J d⟨C,L,o⟩z G H;refine aR (λ f=>?_) λ f=>?_;·have n:d<(s.size:Int):=a7 a rfl (mo a s) f;have M:=G;obtain⟨F,D,E⟩:=H n;refine⟨zO a (mo a s) C n,(cp ?_)⟩;refine dU a (Np a s d) rfl (λ b l=>cp ?_);rw[Qf]at l;split;(next h=>(conv=>cbv);rw[<-j,HL (i:=d.toNat) ac (by rw[<-l];exact e1 a h)]);rename_i h;have B:=eV a h;rw[B]at l;(have I:∀k,k<(d+1).toNat->m1 (im (jl s k))=true:=λ k ae=>by rcases sg (wa (show k<d.toNat+1 by omega))with g|g;(·exact o k g);rw[g];exact l.symm);(conv=>cbv);exact⟨F,z (A.ak d 1) _ ba (E I) D⟩
 have n:d=(s.size:Int):=by have:=bc a rfl (mo a s) f;omega
 rw[<-j,io,bT (p:=s.size=0) ac,bz w,bz y];have:((List.range s.size).all λ d=>m1 (im (jl s d)))=true:=by rw[cu];intro k ae;exact o k (by have:=h_.1 ae;omega)
 rw[this];rfl
def nD(x:lw):Bool:=decide (x.n<x.least) ||decide (x.most<x.n)
def LD(x:lw):aB 100 [uZ x] (.bool (nD x)):=by refine aY Tryz.func100 (λ A q P Y g d c=>?_);obtain⟨n,a,b⟩:=x;unfold nD at c;simp only at c;refine aR (λ h=>?_) λ h=>?_;(·have f:=eG d h;rw[<-c,bz f];rfl);have f:=ej d h;rw[<-c,bT (show¬n<a by omega)];show af.bool (A.ha b n)=_;subst d;rfl
def Ee(l:List lw){xs:am}(f:xs=wH l):aB 56 [.aa 3 xs] (.bool (!l.any nD)):=by refine aY Tryz.func56 (λ A q P Y g a d=>?_);have c:=Lh nD l (caps:=[]) f (λ x _=>LD x);generalize l.any nD=b at c d;refine aJ a c ?_;rw[<-d];subst a;rfl
def dj(many:Int)(r:aA):Bool:= !([⟨many,0,4⟩,⟨r.aw,0,many-1⟩,⟨r.aX,1,1048576⟩,⟨r.Minute,0,1439⟩,⟨r.iK,0,1439⟩,⟨r.fB,0,63⟩]:List lw).any nD&&io r.Call
def jU(many:Int)(r:aA):Int:=if dj many r then 0 else 220
def oT{many:Int} {r:aA}:dj many r=true↔0<=many/\many<=4/\0<=r.aw/\r.aw<many/\1<=r.aX/\r.aX<=1048576/\0<=r.Minute/\r.Minute<=1439/\0<=r.iK/\r.iK<=1439/\0<=r.fB/\r.fB<=63/\io r.Call=true:=by unfold dj nD;simp only[kF,pG,nQ,bP,iT,qP,m7];constructor;(·rintro⟨⟨⟨c,i⟩,⟨j,k⟩,⟨l,m⟩,⟨n,o⟩,⟨p,d⟩,f,g⟩,a⟩;exact⟨ac,ac,ac,ac,ac,ac,ac,ac,ac,ac,ac,ac,a⟩);rintro⟨c,i,j,k,l,m,n,o,p,d,f,g,a⟩;exact⟨⟨⟨ac,ac⟩,⟨ac,ac⟩,⟨ac,ac⟩,⟨ac,ac⟩,⟨ac,ac⟩,ac,ac⟩,a⟩
def uy(many:Int)(r:aA)(j:0<=many)(k:many<=9000000000000000000):aB 22 [ab many,ey r] (ab (jU many r)):=by
 refine aY Tryz.func22 (λ A q P Y l a d=>?_);have g:A.bL many 1=many-1:=gZ a _ _;have hw:=Ee [⟨many,0,4⟩,⟨r.aw,0,A.bL many 1⟩,⟨r.aX,1,1048576⟩,⟨r.Minute,0,1439⟩,⟨r.iK,0,1439⟩,⟨r.fB,0,63⟩] rfl;have f:=B5 r.Call;have ae:jU many r=if((!([⟨many,0,4⟩,⟨r.aw,0,A.bL many 1⟩,⟨r.aX,1,1048576⟩,⟨r.Minute,0,1439⟩,⟨r.iK,0,1439⟩,⟨r.fB,0,63⟩]:List lw).any nD)&&io r.Call)=true then 0 else 220:=by rw[g];rfl
 rw[ae]at d;generalize(([⟨many,0,4⟩,⟨r.aw,0,A.bL many 1⟩,⟨r.aX,1,1048576⟩,⟨r.Minute,0,1439⟩,⟨r.iK,0,1439⟩,⟨r.fB,0,63⟩]:List lw).any nD)=b at hw d;generalize io r.Call=i at f d;obtain⟨s1,s2,m,n,o,p⟩:=r;simp only at f;conv=>cbv
 refine⟨a1 a g aW,?_⟩;refine aJ a hw ?_;cases b with|true=>refine de (λ c=>dm a c) ?_;exact cp d|false=>refine bB (λ c=>cx a c) ?_;refine aJ a f ?_;cases i with|true=>refine bB (λ c=>cx a c) ?_;exact cp d|false=>refine de (λ c=>dm a c) ?_;exact cp d
def pX(a b:Int):af:=.agg [ab a,ab b]
def yy(r:aA):aB 78 [ey r] (pX r.aw r.aX):=by refine aY Tryz.func78 (λ A q P Y d c a=>?_);obtain⟨s1,s2,f,g,i,j⟩:=r;(conv=>cbv);rw[<-a];rfl
def dN(a b c d:Int):Int:=k6 [oo a c,oo b d]
def D'(a b c d:Int):aB 80 [pX a b,pX c d] (ab (dN a b c d)):=by refine aY Tryz.func80 (λ A q P Y l f i=>?_);have j:=Fe a c;have k:=Fe b d;have g:=KE [oo a c,oo b d] rfl;unfold dN at i;generalize k6 [oo a c,oo b d]=m at g i;generalize oo a c=x at j g;generalize oo b d=y at k g;(conv=>cbv);refine⟨cK f bb,?_⟩;refine aJ f j ?_;refine aJ f k ?_;refine aJ f g ?_;rw[<-i]
def Rm:Ren:=⟨λ _=>141,λ x=>if x=3 then 3 else if x=4 then 4 else 38,id⟩
theorem B6:Lays2.n15 Tryz.prog Rm where
 mixed:=bb
 f15:=bb
 t3:=Tryz.underlying3
 a3:=Tryz.isAgg3
 z3:=Tryz.sizeOf3
 v3:=Tryz.zeroValue3
 t4:=Tryz.underlying4
 a4:=Tryz.isAgg4
 z4:=Tryz.sizeOf4
 v4:=Tryz.zeroValue4
 t22:=Tryz.underlying38
 a22:=Tryz.isAgg38
 z22:=Tryz.sizeOf38
 v22:=Tryz.zeroValue38
 i3:=bb
def Gz(l:aI):(av l).flatMap af.cells=av l:=by induction l with|nil=>rfl|cons x r a=>simp only[av,eS,jt]at a⊢;rw[a];rfl
def HM{S:bA} {w w':World} {t:TypeId} {v:Value} {l:aI}(h:w'.ownsRow w.heap.size t 1 v l.length (l.map (Value.int .i64))):aq (qq S w w') w' (.aa 1 (av l)) v:=by
 rcases h.2 with⟨rfl,p⟩ | ⟨g,cap,o,rfl,s,n,G,E,H,F⟩;·have:l=[]:=hp p;subst this;exact aq.ow 1 none 0 aN
 have D:g<w'.heap.size:=(gg.1 n).1;have z:∀(a:Nat)(x:Int),l[a]?=some x->w'.cell? ⟨g,0+a,none⟩=some (.int .i64 x):=λ a x d=>by have B:a<l.length:=(aD.1 d).1;(have m:(o.toList.take (l.length*1))[a]?=(l.map (Value.int .i64))[a]?:=by rw[F]);rw[c9,if_pos ac,fq,bm,d]at m;simp only[World.cell?,n,hn];simpa using m
 have C:(av l).length=l.length:=by simp[av]
 rw[<-C];refine aq.aa 1 (av l) (some ⟨g,0,none⟩) ⟨g,0,none⟩ cap (λ a _=>.int .i64 (l.getD a 0)) (λ _=>rfl) ac E (λ a x d=>?_) (λ a x f c d j=>?_) (λ a x f c d j=>?_) (λ h=>absurd h aN);all_goals rw[av,bm]at d;cases i:l[a]? with|none=>rw[i]at d;cases d|some y=>?_;rw[i]at d;simp only[du,cg]at d;subst d
 ·rfl
 ·(have k:f=0:=by cases f with|zero=>rfl|succ f=>simp[b',af.cells]at j);subst k;have B:a<l.length:=(aD.1 i).1;rw[Addr.add_lit];refine⟨.inr ⟨s,D⟩,?_,rfl⟩;have:=z a y i;simp only[cl,i,e4,kH,lR];exact this
 have k:f=0:=by cases f with|zero=>rfl|succ f=>simp[b',af.cells]at j
 subst k;simp[b',af.cells]at j;subst j;simp only[cl,i,e4];exact .int _ _
def Lt{P:Program} {ops:Array Oper} {rest:List Oper} {o:Oper} {a:Act} {Q:Exit->Act->World->Prop} {w:World}(I:o.guard=none)(s x:Operand)(t:TypeId)(N:o.op=.call {callee:=.builtin .append,args:=#[s,x],argTypes:=#[t,t]})(B:Nat)(e:TypeId)(i:TypeInfo)(z:Value)(bytes:Nat)(p:P.underlying t=some (.slice e))(n:P.info? e=some i)(V:i.zero=some z)(T:i.size=1)(F:i.bytes=bytes)(W:z.cells.size=1)(g:Nat)(S:a.eval s=.slice (some ⟨g,0,none⟩) 0 0)(O:w.ownsRow B e 1 (.slice (some ⟨g,0,none⟩) 0 0) 0 [])(ad:Addr)(m c:Nat)(news:List Value)(U:a.eval x=.slice (some ad) m c)(j:news.length=m)(M:∀y u,news[y]?=some u->w.cell? (ad.add y)=some u)(G:m*bytes<=140737488355328)(X:m<=140737488355328)(l:B<=w.heap.size)(h:∀f d,d.ownsRow B e 1 f m news->Below B w d->wpList P ops Q rest (a.put o.dst f) d):wpList P ops Q (o::rest) a w:=by (have R:∃f d,(Builtin.append_ #[t,t] o.type #[.slice (some ⟨g,0,none⟩) 0 0,.slice (some ad) m c]).run P w=.ok f d/\d.ownsRow B e 1 f m news/\Below B w d:=by by_cases J:m=0;(·subst J;have L:news=[]:=hp j;subst L;refine⟨.slice (some ⟨g,0,none⟩) 0 0,w,?_,O,Below.refl _ _⟩;simp[Builtin.append_,run_underlying p,sizeOf,typeInfo,n,Builtin.lenOf,Builtin.firstCells,loadCells,loadCellsFrom,storeCells]);have k:=run_append_grow (P:=P) w t o.type e i z p n V ⟨g,0,none⟩ 0 0 [] al al ad m c news (by rw[T,j,kH]) M ac ac (by rw[F];exact growslice_fits ac (by simpa using G));have Z:=grownCap_ge w (0+m) 0 e;have H:grownCap w (0+m) 0 e<=maxLen:=grownCap_le_maxLen w (0+m) 0 e (by simp only[maxLen];omega);refine⟨_,_,k,⟨by rw[j,kH],.inr ⟨w.heap.size,_,_,by rw[hn],l,heap_alloc_new w.drew _,ac,H,?_,?_⟩⟩,((Below.refl B w).drew).alloc l _⟩;(·simp only[Array.size_append,List.size_toArray,size_zeroCells,W,j,kH,oJ];omega);simp only[Array.toList_append,dV,kH,so];rw[<-j];exact List.take_left);obtain⟨f,d,k,C,D⟩:=R;refine wpList_plain I λ K E=>?_;unfold Oper.wp execOp;simp only[N,resolve,invoke,builtin,Sem.run_bind,Sem.run_pure,Result.andThen_ok,List.map_toArray,eS,List.map_nil,S,U,k];exact E _ _ (h f d C D)
def FV{P:Program} {i:Ren}(L:Lays2.n15 P i)(ad:Addr)(n c:Nat)(g:aI)(w:World)(B:g.length=n)(F:n*8<=140737488355328)(o:∀d,d<g.length->w.cell? (ad.add d)=some (.int .i64 (g.getD d 0))):Calls P (i.f 15) #[.slice (some ad) n c] w λ e s=>∃j,e=.returned j/\s.ownsRow w.heap.size (i.t 3) 1 j n (g.map (Value.int .i64))/\Below w.heap.size w s:=by
 have mixed:=L.mixed;have t3:=L.t3;have a3:=L.a3;have z3:=L.z3;have v3:=L.v3;have t4:=L.t4;have a4:=L.a4;have z4:=L.z4;have v4:=L.v4;have t22:=L.t22;have a22:=L.a22;have z22:=L.z22;have v22:=L.v22;obtain⟨i0,y,C,D,E⟩:=info_parts L.i3;have G:∀(w:World)(a:Option Addr)(n c m k:Nat),(binOp .eql (i.t 22) (.slice a n c) (.slice none m k)).run P w=.ok (.bool a.isNone) w:=λ w a n c m k=>Lib.run_eql_slice_nil w _ _ a n c m k L.t22;have H:∀w,Sem.run P (underlying (i.t 22)) w=.ok (TypeDesc.slice (i.t 3)) w:=run_underlying t22;have A:Aside (∀d,d<g.length->w.cell? (ad.add d)=some (.int .i64 (g.getD d 0))):=o;clear o;go_enter L.f15,Body2.n15_ntmps i;go_wp2_with(at_builtin;refine Lt rfl _ _ (i.t 22) rfl w.heap.size (i.t 3) i0 (.int .i64 0) 8 t22 y C D E rfl w.heap.size rfl (World.ownsRow_made w #[] 0 (a8 _) (ho _) rfl) ad n c (g.map (Value.int .i64)) rfl ?SU ?SV ?SW ?SX ?SY ?_);case SU=>simp[B]
 case SV=>intro d u l;(have p:d<g.length:=by have:=(aD.1 l).1;simpa using this);refine Lib.cell?_alloc_some _ ?_;rw[A.out d p];(have e:(g.map (Value.int .i64))[d]?=some (Value.int .i64 (g.getD d 0)):=by simp[List.getD,aQ p]);rw[e]at l;exact l
 case SW=>omega
 case SX=>omega
 case SY=>simp
 intro j I z x;go_wp2;go_ret;exact⟨j,rfl,z,((Below.refl _ w).alloc (a8 _) _).trans x⟩
def Nq(l:aI)(z:l.length<=1000000):yK Tryz.prog 141 1 (av l) (.aa 1 (av l)):=by
 refine⟨enters_of Tryz.func141 bb rfl,λ S w a cap i y s n f o B=>?_⟩;rw[Gz]at f;have p:(av l).length=l.length:=by simp[av]
 rw[p]at s o⊢;have t:∀c,c<l.length->i[c]?=some (.int .i64 (l.getD c 0)):=λ c d=>by have g:c<i.length:=ac;(have j:(av l)[c]?=some (.int .i64 l[c]):=by simp[av,b',d]);have:=f.2 c _ _ j (aQ g);rw[aQ g,aq.nK this];simp[cl,d]
 refine(FV B6 a l.length cap l w rfl ac (λ c d=>(n c _ (t c d)).1)).mono ?_;rintro e C⟨x,rfl,k,m⟩;exact⟨x,rfl,m,HM k⟩
def Ff(S:bA)(w:World)(l:aI)(J:l.length<=1000000)(m:Nat)(v:Value)(hv:aq S w (.aa m (av l)) v):Calls Tryz.prog 141 #[v] w λ e j=>∃i,e=.returned i/\j.ownsRow w.heap.size 3 1 i l.length (l.map (Value.int .i64))/\Below w.heap.size w j:=by
 obtain⟨a,G,cap,g,rfl,n,H,I,x,y,z⟩:=aq.mm hv;have C:(av l).length=l.length:=by simp[av]
 by_cases p:a=none;·subst p;(have d:l=[]:=by by_cases d:l=[];(·exact d);have:=n (by simp[av,d]);cases this);subst d;refine(Go.Proofs.Any.slices_Clone_int_nil B6 0 cap w).mono ?_;rintro e j⟨rfl,rfl⟩;exact⟨_,rfl,⟨rfl,.inl ⟨rfl,rfl⟩⟩,Below.refl _ _⟩
 obtain⟨t,rfl⟩:=Option.ne_none_iff_exists'.1 p;rw[C];refine(FV B6 t l.length cap l w rfl ac (λ c o=>?_)).mono ?_;·have s:0<l.length:=ac;have B:=n (by simp[av];intro e;subst e;simp at s);cases B;(have D:m=1:=by have:=x 0 (ab l[0]) (by simp[av,b',s]);simpa[af.cells]using this.symm);subst D;(have k:(av l)[c]?=some (ab l[c]):=by simp[av,b',o]);have f:=(y c _ 0 (ab l[c]) k rfl).2.1;have E:=aq.nK (z c _ 0 (ab l[c]) k rfl);rw[E,kH,lR]at f;rw[f];simp[cl,o]
 rintro e j⟨i,rfl,f,F⟩;exact⟨i,rfl,f,F⟩
def GA{a6:FuncId->Bool} {rows:Bool} {Y:gI}(l:aI)(ap:l.length<=1000000)(m:Nat)(ag:br)(tk:bo)(ao:dE):cF ⟨Tryz.prog,cW,a6,rows,Y⟩ 141 [.val (.aa m (av l))] ag tk ao (λ r ad aK ab=>r=.own tk.length 1 (av l)/\ad=ag/\aK=tk++[(l.length,3)]/\ab=ao):=by refine⟨enters_of Tryz.func141 bb rfl,λ B ax w0 G S w vs k al aw V=>?_⟩;match vs,aw with| [v],_=>have aC:aq S w (.aa m (av l)) v:=V 0 _ v rfl rfl;refine(Ff S w l ap m v aC).mono ?_;rintro e C⟨aW,rfl,aE,W⟩;(have T:(av l).length=l.length:=by simp[av]);have aA:(cW 3).size=1:=rfl;have L:Rel ⟨Tryz.prog,cW,a6,rows,Y⟩ B ax w0 ⟨[.val (.aa m (av l))],ag,tk,ao⟩ G S w #[v]:=⟨k,al,rfl,λ f s u d j=>V f s u d (by simpa using j)⟩;rcases aE.2 with⟨rfl,ah⟩ | ⟨g,cap,M,rfl,ak,I,ay,U,az,aB⟩;(·have ar:l=[]:=hp ah;subst ar;obtain⟨D,E⟩:=L.k7 (S':=S) (λ _ h=>h) (λ _ h=>.inl h) W;have H:vB ⟨Tryz.prog,cW,a6,rows,Y⟩ B G S C tk.length 0 3 (.slice none 0 0):=⟨⟨none,0,rfl,a8 _,aN,λ h=>absurd h (q3 _)⟩,λ _ _ _ _ _ _ d=>by(injection d with d;cases d),λ _ _ _ d=>by(injection d with d;cases d)⟩;obtain⟨t,F,d,j⟩:=D.vT E H (λ _ _ _ d=>by(injection d with d;cases d));refine⟨_,_,_,_,_,_,_,⟨rfl,rfl,rfl,rfl⟩,rfl,t.inv,t.below,F,?_⟩;exact⟨aq.ow 1 none 0 aN,_,_,d,j,a8 _,λ _=>rfl⟩);have aR:g<C.heap.size:=(gg.1 I).1;obtain⟨D,E⟩:=L.k7 (S':=λ a=>S a\/(a.block=g/\a.off<l.length)) (λ _ h=>.inl h) (λ a h=>by rcases h with h|h;(·exact .inl h);exact .inr ⟨ac,ac⟩) W;have hold:∀(f b:Nat),G.ag[f]?=some b->b<w.heap.size:=λ f b h=>(k.dJ f b h).2;(have H:vB ⟨Tryz.prog,cW,a6,rows,Y⟩ B G (λ a=>S a\/(a.block=g/\a.off<l.length)) C tk.length l.length 3 (.slice (some ⟨g,0,none⟩) l.length cap):=by refine⟨⟨_,cap,rfl,ay,U,λ _=>⟨g,M,rfl,eg k.base ak,I,by rw[az];rfl,λ a aj aP=>?_,λ f h=>?_⟩⟩,λ O X ae Z aS aL d j Q R ai=>?_,λ O X ae d j Q=>?_⟩;(·show a.off<l.length*(cW 3).size;rw[aA,kH];rcases aj with h|h;(·have:=k.slt a h;omega);exact h.2);(·have:=hold f g h;omega);(·injection d with d _ _;injection d with d;injection d with d;subst d;(have au:Z<tk.length:=by have:=(aD.1 R).1;have:=k.gS;omega);obtain⟨a,aM,K,aU,aV,aJ⟩:=k.tok Z _ _ _ (aQ au) R;injection K with K aG aH;subst aG aH;obtain⟨g2,aO,p,aT,aF,_⟩:=aJ ai;rw[<-K]at p;injection p with p;injection p with p;subst p;have:=(gg.1 aF).1;omega);injection d with d _ _;injection d with d;injection d with d;subst d;have:=k.gr _ Q;omega);obtain⟨t,F,d,j⟩:=D.vT E H (λ O X c h _=>by injection h with h _ _;injection h with h;injection h with h;omega);refine⟨_,_,_,_,_,_,_,⟨rfl,rfl,rfl,rfl⟩,rfl,t.inv,t.below,F,?_⟩;refine⟨?_,_,_,d,j,by rw[T];exact a8 _,λ _=>rfl⟩;(have am:∀(f:Nat)(x:Int),l[f]?=some x->C.cell? ⟨g,0+f,none⟩=some (.int .i64 x):=λ f x i=>by have an:f<l.length:=(aD.1 i).1;(have N:(M.toList.take (l.length*1))[f]?=(l.map (Value.int .i64))[f]?:=by rw[aB]);rw[c9,if_pos ac,fq,bm,i]at N;simp only[World.cell?,I,hn];simpa using N);rw[<-T];refine aq.aa 1 (av l) (some ⟨g,0,none⟩) ⟨g,0,none⟩ cap (λ f _=>.int .i64 (l.getD f 0)) (λ _=>rfl) ac U (λ f x i=>?_) (λ f x n c i z=>?_) (λ f x n c i z=>?_) (λ h=>absurd h aN);(all_goals rw[av,bm]at i;cases o:l[f]? with|none=>rw[o]at i;cases i|some y=>?_;rw[o]at i;simp only[du,cg]at i;subst i);(·rfl);(·(have J:n=0:=by cases n with|zero=>rfl|succ n=>simp[b',af.cells]at z);subst J;have an:f<l.length:=(aD.1 o).1;rw[Addr.add_lit];refine⟨.inr ⟨rfl,by show 0+(f*1+0)<_;omega⟩,?_,rfl⟩;have:=am f y o;simp only[cl,o,e4,kH,lR];exact this);(have J:n=0:=by cases n with|zero=>rfl|succ n=>simp[b',af.cells]at z);subst J;simp[b',af.cells]at z;subst z;simp only[cl,o,e4];exact .int _ _
def kj(m:Int):aI:=(List.range (2*m+1).toNat).map λ(a:Nat)=>(a:Int)-m
def dI:List aw->List aI| []=>[[]] |x::r=>(kj x.c6).flatMap λ n=>(dI r).map (n::·)
theorem AS:∀(l:List aw),(∀s∈l,0<=s.c6/\s.c6<=3)->(dI l).length<=7 ^ l.length/\0<(dI l).length
 | [],_=>by simp [dI]
 | x::r,h=>by
  obtain ⟨d,f⟩:=AS r λ s j=>h s (dt _ j)
  have n:=h x ec
  have i:(dI (x::r)).length=(2*x.c6+1).toNat*(dI r).length:=by
   simp only [dI,ur,cE,kj,dv]
   generalize (dI r).length=k
   generalize (2*x.c6+1).toNat=m
   induction m with
   | zero=>simp
   | succ m a=>rw [List.range_succ,gh,List.sum_append];simp [iS] at a ⊢;rw [a,mz]
  rw [i,fY,Nat.pow_succ]
  have g:(2*x.c6+1).toNat<=7:=ac
  have c:0<(2*x.c6+1).toNat:=ac
  exact ⟨by calc _<=7*7 ^ r.length:=py g d
        _=_:=sj _ _,Nat.mul_pos c f⟩
def kP(n:Nat)(g:Option Nat)(rest i:br):Prop:=(∀(d:Nat)(c:Option aP),rest[d]?=some c->g≠some d->i[d]?=some c)/\ ∀(f:Nat)(cells:aP),g=some f->rest[f]?=some (some cells)->∃a,i[f]?=some (some a)/\a.length=cells.length/\a.take n=cells.take n
def kP.refl(n:Nat)(a:Option Nat)(rest:br):kP n a rest rest:=⟨λ _ _ h _=>h,λ c cells _ h=>⟨cells,h,rfl,rfl⟩⟩
def kP.trans{n:Nat} {f:Option Nat} {a b c:br}(h:kP n f a b)(k:kP n f b c):kP n f a c:=by refine⟨λ g x w d=>k.1 g x (h.1 g x w d) d,λ i cells d t=>?_⟩;obtain⟨p,j,a2,a3⟩:=h.2 i cells d t;obtain⟨s,l,m,o⟩:=k.2 i p d j;exact⟨s,l,m.trans a2,o.trans a3⟩
def th(b:aI)(rest:br)(c:Option Nat)(arg:ah):Prop:=(b=[]/\c=none/\arg=.lit 0 [])\/∃a cap cells,c=some a/\arg=.row (3+a) 0 1 b.length cap/\rest[a]?=some (some cells)/\cap<=cells.length/\b.length<=cap/\cap<=maxLen/\cells.take b.length=(av b).map ah.val
def th.kept{b:aI} {rest f:br} {a:Option Nat} {arg:ah}(h:th b rest a arg)(k:kP b.length a rest f):th b f a arg:=by rcases h with h| ⟨d,cap,cells,c,i,j,s,l,m,n⟩;(·exact .inl h);obtain⟨g,o,t,p⟩:=k.2 d cells c j;exact .inr ⟨d,cap,g,c,i,o,ac,l,m,p.trans n⟩
def kw(ss a:am):br:=[some [.val (.aa 3 ss)],some [.own 0 1 a],some [.a6 273 [.box 0 0,.box 1 0,.box 2 0]]]
def Qg:aB 141 [.aa 0 []] (.aa 1 []):=by refine⟨enters_of Tryz.func141 bb rfl,λ S w vs i a=>?_⟩;obtain⟨c,a⟩:=a;match vs,c with| [v],_=>refine(Ff S w [] al 0 v (a 0 _ v rfl rfl)).mono ?_;rintro e j⟨g,rfl,d,f⟩;exact⟨g,rfl,f,HM (l:=[]) d⟩
def Dy(ss:am)(ao:dE)(b:aI)(f:Option Nat)(rest:br)(a:List aI)(r:ah)(bE:br)(dX:bo)(d:dE):Prop:=r=.val (.bf [])/\∃c,bE=kw ss (bY a)++c/\dX=[(a.length,38)]/\d=ao/\kP b.length f rest c
def xI(n:Nat):Bool:=n==273||n==1000001||n==1000006||n==2000000+25
def A4(m:Int):(kj m).length=(2*m+1).toNat:=by simp[kj]
def Nr(m i:Int)(a:-m<=i)(c:i<=m):(kj m).take (i+1+m).toNat=(kj m).take (i+m).toNat++[i]:=by rw[show(i+1+m).toNat=(i+m).toNat+1 by omega,fX];(have:(kj m)[(i+m).toNat]?=some i:=by simp only[kj,bm];rw[m9 ac];simp;omega);rw[this];rfl
def GB{α:Type}(l:List α)(x:α)(r:List α)(n:Nat)(h:n=l.length+1):(l++x::r).take n=l++[x]:=by subst h;rw[List.append_cons];exact nd al
def K3{E:Env}(z:E.T=cW){A:dF}(M:A=ay E){b:aI} {G:Option Nat} {arg:ah} {rs:br} {j7:br}(o:j7.length=3)(N:th b rs G arg)(aa:b.length<=4)(i:Int)(sl:aP)(tk:bo)(ao:dE)(K:ah->ai->Prop)(B:∀(w:ah)(H:Option Nat)(t:br),th (b++[i]) t H w->(∀n,kP (b++[i]).length H t n->kP b.length G rs n)->K w ⟨sl,j7++t,tk,ao⟩):A.nG [38,38] [arg,.lit 1 [.int .i64 i]] ⟨sl,j7++rs,tk,ao⟩ K:=by
 have ae:(E.T 38).k=.slice 3:=by rw[z];rfl
 have O:E.T 3=cW 3:=by rw[z]
 refine wz M ?_;unfold jS;simp only[ae,ah.elems,O];refine⟨trivial,rfl,al,aN,rfl,?_⟩;have C:∀(cap:Nat)(m:aP),b.length+1<=cap->cap<=maxLen->cap=b.length+1+m.length->K (.row (j7++rs).length 0 1 (b.length+1) cap) ⟨sl,j7++(rs++[some ((av b).map ah.val++(.val (.int .i64 i)::m))]),tk,ao⟩:=by intro cap m g j ab;refine B _ (some rs.length) _ (.inr ⟨rs.length,cap,(av b).map ah.val++(.val (.int .i64 i)::m),rfl,?_,al,by simp[av];omega,c0,j,?_⟩) ?_;(·simp[o]);(·rw[GB _ _ _ _ (by simp[av])];simp[av,b']);intro n ae;refine⟨λ k c l d=>?_,λ a cells d f=>?_⟩;(·have s:k<rs.length:=(aD.1 l).1;exact ae.1 k c (by rw[bu s];exact l) c0);have s:a<rs.length:=(aD.1 f).1;exact⟨cells,ae.1 a _ (by rw[bu s];exact f) c0,rfl,rfl⟩
 rcases N with⟨rfl,rfl,rfl⟩ | ⟨a,cap,cells,rfl,rfl,p,X,Z,L,y⟩;·refine⟨.inr rfl,by show(0+1)*(8+1)<=140737488355328;omega,λ cap g j=>?_⟩;have:=C cap (List.replicate (cap-1) (.val .any)) (by simpa using g) j (by simp at g⊢;omega);have J:(cW 3).size=1:=rfl;rw[J];simp only[ai.h2,oJ,so,hn,e0,kH,dV,jt,ul,gA]at this⊢;exact this
 refine⟨rfl,by simp only[e0];show(b.length+1)*(8+1)<=_;omega,cells,?_,ac,λ D=>?_,λ R x g j=>?_⟩;·show(j7++rs).getD (3+a) none=some cells;rw[cl,b1 ac];simp[o,p]
 ·simp only[e0]at D;(have e:(ai.mk sl (j7++rs) tk ao).j_ (3+a) (some (cells.take (0+b.length*1)++(([af.int IntKind.i64 i].flatMap af.cells).map ah.val++cells.drop (0+b.length*1+[af.int IntKind.i64 i].length*1))))=⟨sl,j7++rs.set a (some (cells.take b.length++(.val (.int .i64 i)::cells.drop (b.length+1)))),tk,ao⟩:=by simp only[ai.j_,ai.mk.injEq,true_and,and_true];rw[jg _ _ ac];simp[o,af.cells]);rw[e];have F:a<rs.length:=(aD.1 p).1;have Q:(cells.take b.length++(ah.val (.int .i64 i)::cells.drop (b.length+1))).length=cells.length:=c0;refine B _ (some a) _ (.inr ⟨a,cap,_,rfl,al,by rw[fV F],ac,by simpa using D,L,?_⟩) ?_;(·rw[y,GB _ _ _ _ (by simp[av])];simp[av,b']);intro n ae;refine⟨λ k c l d=>ae.1 k c (by rw[fr (by simpa using d)];exact l) d,λ ad W d f=>?_⟩;simp only[cg]at d;subst d;rw[p]at f;simp only[cg]at f;subst f;obtain⟨I,S,U,V⟩:=ae.2 a _ rfl (fV F);refine⟨I,S,U.trans Q,?_⟩;have:=congrArg (List.take b.length) V;rw[List.take_take,List.take_take]at this;simp only[bO,e0,show min b.length (b.length+1)=b.length by omega]at this;rw[this,List.take_append_of_le_length c0,List.take_take,Nat.min_self]
 simp only[e0]at R g⊢;have:=C x (List.replicate (x-(b.length+1)) (.val .any)) g j c0;simp only[ai.h2,kH,q1,dV,jt,ul,gA]at this⊢;rw[y];exact this
def Ns(ss:List aw){xs:am}(l:xs=b2 ss)(a':ss.length<=4)(ba:∀s∈ss,0<=s.c6/\s.c6<=3)(ao:dE):∀(d:Nat)(b:aI),b.length+d=ss.length->∀(f:List aI)(rest:br)(w:Option Nat)(arg:ah),f.length+(dI (ss.drop b.length)).length<=1000000->th b rest w arg->cF ⟨Tryz.prog,cW,xI,true,.none⟩ 273 [arg,.box 0 0,.box 1 0,.box 2 0] (kw xs (bY f)++rest) [(f.length,38)] ao (Dy xs ao b w rest (f++(dI (ss.drop b.length)).map (b++·))):=by intro d;induction d with|zero=>intro b aU f rest w arg U V;refine jM (a6:=xI) (rows:=true) gd Tryz.func273 rfl (cL Tryz.func273) (by intro h;simp[kw]at h) (λ A bh bi bM aJ g aB O=>?_);(have a1:xs.length=ss.length:=by rw[l];simp[b2]);have Q:ss.drop b.length=[]:=uh ac;(have bc:f++(dI (ss.drop b.length)).map (b++·)=f++[b]:=by rw[Q];simp[dI]);rw[bc]at O;rw[Q]at U;(have bQ:f.length+1<=1000000:=by simpa[dI]using U);obtain⟨L,F⟩:=aC (bY f);(have al:L.length=f.length:=by rw[F];simp[bY]);rw[<-F]at aB⊢;obtain⟨J,N⟩:=aC f.length;rw[<-N]at al⊢;obtain⟨M,an⟩:=aC (av b);(have S:A.j' J (A.bp L):=by subst g;exact al.symm);(have T:A.room (A.bp (A.bn L [.aa 1 M])) 24:=by subst g;show(L++[af.aa 1 M]).length*(24+1)<=140737488355328;rw[bO,e0];omega);(have fin:∀I,aJ ⟨I,kw xs (A.bn L [.aa 1 M])++rest,[(A.bp (A.bn L [.aa 1 M]),38)],ao⟩:=λ I=>by refine O _ ⟨_,_,aZ.refl _,.inl ⟨.bf [],rfl,trivial,rfl⟩,rfl,rest,?_,?_,rfl,kP.refl _ _ _⟩;(·subst g F an;show kw xs (bY f++[af.aa 1 (av b)])++rest=_;simp[bY,n2]);subst g;show[((L++[af.aa 1 M]).length,_)]=_;rw[bO,al,N];simp);clear bc;rcases V with⟨rfl,rfl,rfl⟩ | ⟨aF,cap,cells,rfl,rfl,aK,bm,bo,bq,aL⟩;(·(have bs:M=[]:=by rw[an];rfl);subst bs;(conv=>cbv);split;(·(conv=>cbv);repeat' first|exact S|exact T|exact fin _|apply ng| (refine cZ g Qg (cp ?_)));rename_i o;exfalso;subst g;have R:decide ((([]:am).length:Int)=xs.length)=false:=o;simp at R aU;rw[l]at R;simp[b2]at R;omega);obtain⟨n,j,id,hid⟩:=b_ b.length (3+aF);rw[<-j,<-hid];(have bH:∀(I:aP)(K:ah->ai->Prop),K (.val (.aa 1 M)) ⟨I,kw xs L++rest,[(J,38)],ao⟩->A.tJ 141 [] [.row id 0 1 n cap] ⟨I,kw xs L++rest,[(J,38)],ao⟩ K:=λ I K ae=>by rw[an]at ae;refine Pd g (Nq b ac) (cells:=cells) ?_ ?_ ?_ ?_ ae;(·show(kw xs L++rest).getD id none=some cells;rw[hid,cl,b1 (by simp[kw])];simp[kw,aK]);(·rw[Gz,q1,kH,j];exact aL);(·rw[j];simp[av]);intro x l;simp only[av,a_]at l;obtain⟨y,_,rfl⟩:=l;rfl);(conv=>cbv);split;(·(conv=>cbv);repeat' first|exact S|exact T|exact fin _|apply ng| (refine bH _ _ (cp ?_)));rename_i o;exfalso;subst g;have R:decide ((n:Int)=xs.length)=false:=o;simp at R;omega|succ d bL=>intro b aU f rest w arg U V;refine jM (a6:=xI) (rows:=true) gd Tryz.func273 rfl (cL Tryz.func273) (by intro h;simp[kw]at h) (λ A bh bi bM aJ g aB O=>?_);(have a1:xs.length=ss.length:=by rw[l];simp[b2]);have X:b.length<ss.length:=ac;obtain⟨x,Z⟩:=aC (ss[b.length]);(have Q:ss.drop b.length=x::ss.drop (b.length+1):=by rw[Z];exact hV X);obtain⟨r,aD⟩:=aC (ss.drop (b.length+1));have bJ:=ba x (by rw[Z];exact iA X);rw[<-aD]at Q;rw[Q]at O U;have bU:∀s∈r,0<=s.c6/\s.c6<=3:=λ s a'=>ba s (pB (by rw[<-aD];exact a'));(have bR:(dI (x::r)).length=(2*x.c6+1).toNat*(dI r).length:=by simp only[dI,ur,cE];rw[List.map_const',yq,A4]);(have a8:∀(c:Int)(a:List aI),a=f++((kj x.c6).take (c+x.c6).toNat).flatMap (λ v=>(dI r).map (λ t=>b++(v::t)))->-x.c6<=c->c<=x.c6->a++(dI r).map ((b++[c])++·)=f++((kj x.c6).take (c+1+x.c6).toNat).flatMap (λ v=>(dI r).map (λ t=>b++(v::t)))/\a.length+(dI r).length<=1000000:=by intro c a G S T;(have e:a++(dI r).map ((b++[c])++·)=f++((kj x.c6).take (c+1+x.c6).toNat).flatMap (λ v=>(dI r).map (λ t=>b++(v::t))):=by rw[Nr _ _ S T,m_,G,dV];simp);refine⟨e,?_⟩;have W:=congrArg List.length e;rw[bO,cE,bO,ur]at W;simp only[cE]at W;rw[List.map_const',yq,dQ,A4]at W;rw[W];have:min (c+1+x.c6).toNat (2*x.c6+1).toNat*(dI r).length<=(2*x.c6+1).toNat*(dI r).length:=iV _ (Nat.min_le_right _ _);omega);(have ax:f++(dI (x::r)).map (b++·)=f++((kj x.c6).take (x.c6+1+x.c6).toNat).flatMap (λ v=>(dI r).map (λ t=>b++(v::t))):=by rw[eD (by rw[A4];omega)];simp[dI,List.map_flatMap,iS]);obtain⟨L,F,J,N⟩:=b_ (bY f) f.length;rw[<-F]at aB⊢;rw[<-N];have bT:∀n,n=b.length->∃y,ss[n]?=some y/\y=x:=λ n j=>⟨_,by rw[j];exact aQ X,Z.symm⟩;(have aW:∀(c:Int),c=(b.length:Int)->A.cV c (A.aH xs)=false:=λ c bB=>by subst g bB;show decide ((b.length:Int)=xs.length)=false;rw[a1];simp;omega);obtain⟨m,a7⟩:=aC x.c6;rw[<-a7]at a8 ax bJ;have bx:b.length<=4:=ac;have aT:=V;(have aX:∀(k:Int)(y:aw),k=(b.length:Int)->ss[k.toNat]?=some y->y.c6=m:=by intro k y ae p;subst ae;rw[da,aQ X]at p;rw[a7,Z];simp only[cg]at p;rw[p]);rcases V with⟨bw,bF,rfl⟩ | ⟨aF,cap,cells,bF,rfl,aK,bm,bo,bq,aL⟩;(case' inl=>(have ae:A.aH []=(b.length:Int):=by subst g bw;rfl);refine dD (λ o=>?_) λ _=>?_;(·have az:False:=absurd (show A.cV (A.aH []) (A.aH xs)=true from o) (by rw[aW _ ae];simp);cases az);refine mu g l (by show 0<=A.aH [];omega) (by show A.aH []<_;omega) (λ y v p bK=>?_);have aE:=aX _ y ae p);(case' inr=>obtain⟨n,j,id,hid⟩:=b_ b.length (3+aF);(have ae:A.ck n=(b.length:Int):=by subst g j;rfl);rw[<-j,<-hid]at aT⊢;refine dD (λ o=>?_) λ _=>?_;(·have az:False:=absurd (show A.cV (A.ck n) (A.aH xs)=true from o) (by rw[aW _ ae];simp);cases az);refine mu g l (by show 0<=A.ck n;omega) (by show A.ck n<_;omega) (λ y v p bK=>?_);have aE:=aX _ y ae p);all_goals obtain⟨bV,i,bW⟩:=y;simp only at aE;subst aE;(conv=>cbv);refine⟨by subst g;show-9223372036854775808<i/\i<=9223372036854775807;omega,?_⟩;refine b6 g (λ(z:Int×am×Nat×br)s=>⟨(s.put (some 6) (.val (ab z.1))).sl,kw xs z.2.1++z.2.2.2,[(z.2.2.1,38)],s.ao⟩) (λ z=>-i<=z.1/\z.1<=i+1/\kP b.length w rest z.2.2.2/\∃a,z.2.1=bY a/\z.2.2.1=a.length/\a=f++((kj i).take (z.1+i).toNat).flatMap (λ v=>(dI r).map (λ t=>b++(v::t)))) (λ z=>(i+1-z.1).toNat) (A.vJ i,L,J,rest) ?_ ?_ ?_;(·(conv=>cbv);exact cT k8);(·(have:A.vJ i=-i:=by subst g;rfl);refine⟨by rw[this];exact bk _,by rw[this];omega,kP.refl _ _ _,f,F,N,?_⟩;show f=f++((kj i).take (A.vJ i+i).toNat).flatMap _;rw[this,show(-i+i).toNat=0 by omega];simp);rintro bP⟨c,aG,bg,be⟩⟨aY,bC,ae,a,aj,ap,G⟩bt;simp only at aY bC ae aj ap G;refine aR (λ ar=>?_) λ ar=>?_;(·(have au:c<=i:=by subst g;simpa[ay]using ar);obtain⟨bu,bz⟩:=a8 c a G aY au;obtain⟨a2,aS⟩:=aC (a++(dI r).map ((b++[c])++·));obtain⟨ad,aM,ag,aO⟩:=b_ (bY a2) a2.length;(have bA:∀(D:ah)(H:Option Nat)(B:br),th (b++[c]) B H D->cF ⟨Tryz.prog,cW,xI,true,.none⟩ 273 [D,.box 0 0,.box 1 0,.box 2 0] (kw xs aG++B) [(bg,38)] ao (λ r bl bN bj=>r=.val (.bf [])/\∃bd,bl=kw xs ad++bd/\bN=[(ag,38)]/\bj=ao/\kP (b++[c]).length H B bd):=by intro D H B aq;(have aV:ss.drop (b++[c]).length=r:=by rw[aD];simp);have:=bL (b++[c]) c0 a B H D (by rw[aV];exact bz) aq;rw[aV,<-aS,<-aj,<-ap]at this;unfold Dy at this;rw[<-aM,<-aO]at this;exact this);(have bD:A.bS (A.ak c 1):=by subst g;show dx (c+1);unfold dx;omega);(have bE:∀C,kP b.length w be C->-i<=A.ak c 1/\A.ak c 1<=i+1/\kP b.length w rest C/\∃a,ad=bY a/\ag=a.length/\a=f++((kj i).take (A.ak c 1+i).toNat).flatMap (λ v=>(dI r).map (λ t=>b++(v::t))):=by intro C aA;(have e:A.ak c 1=c+1:=by subst g;rfl);rw[e];exact⟨ac,ac,ae.trans aA,a2,aM,aO,by rw[aS,bu]⟩);(have bI:(i+1-A.ak c 1).toNat<(i+1-c).toNat:=by (have e:A.ak c 1=c+1:=by subst g;rfl);rw[e];omega);have bv:=aT.kept ae;repeat' first|exact bD| (refine K3 (E:=⟨Tryz.prog,cW,xI,true,.none⟩) rfl g (j7:=kw xs aG) rfl bv bx c _ _ _ _ (λ D H B aq bG=>cp ?_)) | (refine uz g (bA D H B aq) ?_;rintro _ _ _ _⟨rfl,C,rfl,rfl,rfl,aA⟩;conv=>cbv) |exact bt (A.ak c 1,ad,ag,C) _ (by(conv=>cbv);exact cT k8) (bE C (bG C aA)) bI|apply ng);(have au:c=i+1:=by (have:¬c<=i:=by subst g;simpa[ay]using ar);omega);subst au;refine O _ ⟨_,_,aZ.refl _,.inl ⟨.bf [],rfl,trivial,rfl⟩,rfl,be,?_,?_,rfl,ae⟩;(·rw[ax,<-G,<-aj];rfl);rw[ax,<-G,<-ap]
def u1(l:List aw):Bool:=decide (l.length<=4)&&!l.any uX
def MH(l:List aw){xs:am}(y:xs=b2 l):aB 224 [.aa 3 xs] (if u1 l then .bf [.aa 1 (bY (dI l)),ab 0]else .bf [.aa 0 [],ab 230]):=by
 refine kZ (a6:=λ n=>n==273) (rows:=false) Tryz.func224 (λ A q P Y t i g=>?_);have Z:xs.length=l.length:=by rw[y];simp[b2]
 have H:=As uX l y (λ x _=>L_ x);obtain⟨bad,I,L,F⟩:=b_ (l.any uX) (bY (dI l));have p:u1 l=true->∀f,cF ⟨Tryz.prog,cW,λ n=>n==273,false,.none⟩ 273 [.lit 0 [],.box 0 0,.box 1 0,.box 2 0] [some [.val (.aa 3 xs)],some [.lit 0 []],some [.a6 273 [.box 0 0,.box 1 0,.box 2 0]]] [] f (λ r m z k=>r=.val (.bf [])/\∃rest C,m=kw xs L++rest/\z=[(C,38)]/\k=f):=by intro j f;simp only[u1,bP,bX,iT,iz,uX,ei]at j;(have J:∀s∈l,0<=s.c6/\s.c6<=3:=λ s T=>by have:=j.2 s T;simpa using this);have X:=AS l J;have W:7^l.length<=7^4:=Nat.pow_le_pow_right ac j.1;have h:=Ns l y j.1 J f l.length [] al [] [] none (.lit 0 []) c0 (.inl ⟨rfl,rfl,rfl⟩);have D:=cF.flags (I9:=λ n=>n==273) (Jt:=false) h;refine cF.mq (yb:=[.lit 0 [],.box 0 0,.box 1 0,.box 2 0]) (xQ:=kw xs (bY [])++[]) (t':=[((([]:List aI).length),38)]) (xO:=f) (by intro h;simp at h) ?_ ?_;(·exact aZ.r_ _ _ [] f 1 0 0 1 [.lit 0 []] [] 38 rfl rfl (.inr rfl));refine⟨D.1,λ B ax w0 G S w vs a b c d=>(D.2 B ax w0 G S w vs a b c d).mono ?_⟩;rintro e ad⟨v,r,m,z,k,K,M,⟨N,V,O,Q,R,_⟩,he⟩;refine⟨v,r,m,z,k,K,M,⟨N,V,_,?_,Q,R⟩,he⟩;rw[O,F];simp
 rw[<-F]at g;have U:u1 l=(decide (l.length<=4)&&!bad):=by rw[I];rfl
 rw[<-I]at H;rw[U]at g p;refine aR (λ o=>?_) λ o=>?_;·rw[<-g,if_neg];(have:4<l.length:=by subst i;simp[ay]at o;omega);simp;intro h;omega
 refine dU i H rfl (λ r t=>cp ?_);have E:l.length<=4:=by subst i;simp[ay]at o;omega
 split;·(conv=>cbv);rw[<-g,if_neg];rw[<-t];simp
 conv=>cbv
 rw[<-t]at p g;refine uz i (p (by simp[E]) _) ?_;rintro _ _ _ _⟨rfl,rest,C,rfl,rfl,rfl⟩;conv=>cbv
 rw[<-g,if_pos (by simp[E])]
structure hk where
 call:ByteArray
 ids:List Int
 id:Nat
 b:Nat
 k:Nat
def nJ(G:List hk):ce:=G.map λ x=>(.str x.call,.loc x.b)
def tH(G:List hk):f':=G.map λ x=>(x.id,x.b)
structure nE(G:List hk)(ks:List Nat)(ds:List (Option (List ah)))(dl:List (Nat×TypeId)):Prop where
 ag:∀x∈G,ds[x.id]?=some (some [.own x.k 1 (av x.ids),.val (.aa 0 [])])
 tk:∀x∈G,dl[x.k]?=some (x.ids.length,3)
 ids:(G.map (·.id)).Nodup
 bs:(G.map (·.b)).Nodup
 tA:(ks++G.map (·.k)).Nodup
 calls:(G.map (·.call)).Nodup
 lo:∀x∈G,3<=x.id
 Aa:∀k∈ks,k<dl.length
def zs(a b:ByteArray):cq (.str a) (.str b)=decide (a=b):=by simp[cq,j0]
def BD{G:List hk} {c:ByteArray}:(dK (nJ G) (.str c)=none/\∀x∈G,x.call≠c)\/∃x∈G,x.call=c/\dK (nJ G) (.str c)=some (.loc x.b):=by induction G with|nil=>exact .inl ⟨rfl,al⟩ |cons y G g=>unfold dK nJ at g⊢;rw[eS,jv,zs];by_cases e:c=y.call;(·rw[bz e];exact .inr ⟨y,ec,e.symm,rfl⟩);rw[bT e];rcases g with⟨a,d⟩ | ⟨x,a,d,i⟩;(·refine .inl ⟨a,λ x f=>?_⟩;rcases cM.1 f with rfl|f;(·exact λ h=>e h.symm);exact d x f);exact .inr ⟨x,dt _ a,d,i⟩
def uH(G:List hk)(c:ByteArray):gk false [.str] (nJ G) (.str c):=by refine⟨⟨rfl,rfl⟩,rfl,λ p a=>?_⟩;obtain⟨x,_,rfl⟩:=a_.1 a;refine⟨rfl,?_⟩;rw[zs];simp[af.cells,eP,ic]
theorem nh{α k:Type} {f:α->k}:∀{l:List α},(l.map f).Nodup->∀{x y:α},x∈l->y∈l->f x=f y->x=y| [],_,_,_,h,_,_=>by cases h|a::l,g,x,y,i,j,e=>by rw[eS,lc]at g;rcases cM.1 i with c|c<;>rcases cM.1 j with d|d;(·rw[c,d]);(·refine absurd ?_ g.1;rw[<-c,e];exact fW d);(·refine absurd ?_ g.1;rw[<-d,<-e];exact fW c);exact nh g.2 c d e
def vn(G:List hk)(c:ByteArray)(i:Int):List hk:=G.map λ y=>if y.call=c then{y with ids:=y.ids++[i]}else y
def uO{d:Type}(f:hk->d)(a:∀(y:hk)(l:aI),f {y with ids:=l}=f y)(G:List hk)(c:ByteArray)(i:Int):(vn G c i).map f=G.map f:=by unfold vn;rw[dv];refine gm λ y _=>?_;simp only[Function.comp];split;(·exact a _ _);rfl
def nE.dJ{G:List hk} {ks:List Nat} {ds fk:br} {dl l:bo}(h:nE G ks ds dl){x:hk}(d:x∈G){i:Int}(m:fk[x.id]?=some (some [.own x.k 1 (av (x.ids++[i])),.val (.aa 0 [])]))(n:∀f,f≠x.id->f<ds.length->fk[f]?=ds[f]?)(j:l=dl.set x.k ((x.ids++[i]).length,3)):nE (vn G x.call i) ks fk l:=by
 have ae:(G.map (·.k)).Nodup:=(h8.1 h.tA).2.1;refine⟨λ y c=>?_,λ y c=>?_,?_,?_,?_,?_,λ y c=>?_,λ k ae=>?_⟩;·obtain⟨z,a,rfl⟩:=a_.1 c;by_cases e:z.call=x.call;(·have:=nh h.calls a d e;subst this;rw[if_pos rfl];exact m);rw[if_neg e,n z.id (λ g=>e (by rw[nh h.ids a d g])) (aD.1 (h.ag z a)).1];exact h.ag z a
 ·obtain⟨z,a,rfl⟩:=a_.1 c;by_cases e:z.call=x.call;(·have:=nh h.calls a d e;subst this;rw[if_pos rfl,j];exact fV (aD.1 (h.tk z a)).1);rw[if_neg e,j,fr (λ g=>e (by rw[nh ae a d g.symm]))];exact h.tk z a
 ·rw[uO _ (λ _ _=>rfl)];exact h.ids
 ·rw[uO _ (λ _ _=>rfl)];exact h.bs
 ·rw[uO _ (λ _ _=>rfl)];exact h.tA
 ·rw[uO _ (λ _ _=>rfl)];exact h.calls
 ·obtain⟨z,a,rfl⟩:=a_.1 c;have:=h.lo z a;split<;>exact this
 rw[j,kf];exact h.Aa k ae
def nE.new{G:List hk} {ks:List Nat} {ds fk:br} {dl:bo}(h:nE G ks ds dl){c:ByteArray}(B:∀x∈G,x.call≠c){b n:Nat}(l:∀p∈tH G,p.2≠b){i:Int}(D:n=ds.length+1)(C:2<ds.length)(w:fk[n]?=some (some [.own dl.length 1 (av [i]),.val (.aa 0 [])]))(z:∀m,m<ds.length->fk[m]?=ds[m]?):nE (G++[⟨c,[i],n,b,dl.length⟩]) ks fk (dl++[(1,3)]):=by
 have t:∀x∈G,x.k<dl.length:=λ x g=>(aD.1 (h.tk x g)).1;have s:∀x∈G,x.id<ds.length:=λ x g=>(aD.1 (h.ag x g)).1;refine⟨λ y d=>?_,λ y d=>?_,?_,?_,?_,?_,λ y d=>?_,λ k ae=>?_⟩;·rcases dH.1 d with d|d;(·rw[z _ (s y d)];exact h.ag y d);rw[dG.1 d];exact w
 ·rcases dH.1 d with d|d;(·rw[bu (t y d)];exact h.tk y d);rw[dG.1 d];simp
 ·rw[gh,h8];exact⟨h.ids,al,λ a f b l e=>by obtain⟨x,g,rfl⟩:=a_.1 f;have:=s x g;simp at l;omega⟩
 ·rw[gh,h8];exact⟨h.bs,al,λ a f o j e=>by obtain⟨x,g,rfl⟩:=a_.1 f;simp at j;exact l (x.id,x.b) (a_.2 ⟨x,g,rfl⟩) (by rw[e,j])⟩
 ·rw[gh,<-dV,h8];exact⟨h.tA,al,λ a f o j e=>by (have:a<dl.length:=by rcases dH.1 f with f|f;(·exact h.Aa a f);obtain⟨x,g,rfl⟩:=a_.1 f;exact t x g);simp at j;omega⟩
 ·rw[gh,h8];exact⟨h.calls,al,λ a f o j e=>by obtain⟨x,g,rfl⟩:=a_.1 f;simp at j;exact B x g (by rw[e,j])⟩
 ·rcases dH.1 d with d|d;(·exact h.lo y d);rw[dG.1 d];show 3<=n;omega
 have:=h.Aa k ae;rw[bO];omega
def nE.mono{G:List hk} {ks d:List Nat} {ds fk:br} {dl c:bo}(h:nE G ks ds dl)(f:∀x∈G,fk[x.id]?=ds[x.id]?)(g:∀x∈G,c[x.k]?=dl[x.k]?)(ae:(d++G.map (·.k)).Nodup)(i:∀k∈d,k<c.length):nE G d fk c:=⟨λ x a=>(f x a).trans (h.ag x a),λ x a=>(g x a).trans (h.tk x a),h.ids,h.bs,ae,h.calls,h.lo,i⟩
def Qh{G:List hk} {x:hk}(a:x∈G)(i:Int):(vn G x.call i).map (λ x=>(x.call,x.ids))=pe (G.map λ x=>(x.call,x.ids)) x.call i:=by unfold pe vn;rw[if_pos (by rw[lS,c1];exact⟨x,a,al⟩),dv,dv];refine gm λ y _=>?_;simp only[Function.comp];split<;>rfl
def Rn{G:List hk} {c:ByteArray}(a:∀x∈G,x.call≠c)(i:Int)(n b k:Nat):(G++[(⟨c,[i],n,b,k⟩:hk)]).map (λ x=>(x.call,x.ids))=pe (G.map λ x=>(x.call,x.ids)) c i:=by unfold pe;rw[if_neg (by rw[lS,c1];rintro⟨x,d,h⟩;exact a x d (by simpa using h))];rw[gh];rfl
def JU{A:dF} {E:Env}(m:A=ay E){t c g:TypeId} {a id:Nat} {key:af} {ks:List fm} {es:ce} {mk:Option (af×Int)} {st:ai} {K:ah->ai->Prop}(h:Nat)(nm:f')(i:st.sl[h]?=some (.cX nm))(j:id<st.ag.length)(l:∀p∈nm,p.1≠id)(n:(E.T t).k=.map c g)(s:iE E c=some ks)(w:st.ao.mp[a]?=some (.cm es mk))(y:gk (iX E c) ks es key)(x:oe a st.ao.mp=true)(ae:∀b f d,(∀p∈nm,p.2≠b)->f=nm++[(id,b)]->d=gp es key (.loc b)->K .undef (ai.j8 {st with sl:=st.sl.set h (.cX f)} (st.ao.mp.set a (.cm d mk)))):A.Ad t (.mp a) (.val key) id st K:=by refine Ot m h nm i j l λ b o=>?_;unfold pI;simp only[w,n,s,ah.dn];exact⟨⟨y,.inl x⟩,ae b _ _ o rfl rfl⟩
def Ix{A:dF} {E:Env}(c:A=ay E){t:TypeId} {v:ah} {st:ai} {K:ah->ai->Prop}(d:(E.T t).agg=false)(f:(E.T t).size=1)(a:v.one=true)(h:∀n B,n=st.ag.length->B=st.ag++[some [v]]->K (.box n 0) {st with ag:=B}):A.xR t v st K:=by refine G7 c ?_;unfold qd;simp only[d,f,a,la,if_false,if_true,and_self];exact⟨trivial,h _ _ rfl rfl⟩
def wq(rl:List aA)(r:aA)(c:ByteArray):c2 (rl++[r]) c=c2 rl c++(if r.Call=c then[r]else[]):=by unfold c2;rw[qR];by_cases h:r.Call=c<;>simp[h]
structure oq(G:List hk)(vQ:List aA)(rk:Nat->Nat)(ds:List (Option (List ah)))(dl:List (Nat×TypeId)):Prop where
 ag:∀x∈G,∃R,ds[x.id]?=some (some [.own x.k 1 (av x.ids),R])/\((c2 vQ x.call=[]/\R=.val (.aa 0 []))\/(c2 vQ x.call≠[]/\R=.own (rk x.id) 6 (bd (c2 vQ x.call))/\dl[rk x.id]?=some ((c2 vQ x.call).length,35)))
 inj:∀x∈G,∀y∈G,c2 vQ x.call≠[]->c2 vQ y.call≠[]->rk x.id=rk y.id->x.id=y.id
def oq.lost{G:List hk} {c:List aA} {rk:Nat->Nat} {ds fk:br} {dl:bo}(h:oq G c rk ds dl){r:aA}(i:∀x∈G,x.call≠r.Call)(g:∀x∈G,fk[x.id]?=ds[x.id]?):oq G (c++[r]) rk fk dl:=by
 have e:∀x∈G,c2 (c++[r]) x.call=c2 c x.call:=λ x a=>by rw[wq,if_neg (λ f=>i x a f.symm),gA]
 refine⟨λ x a=>?_,λ x a y d=>?_⟩;·rw[e x a,g x a];exact h.ag x a
 rw[e x a,e y d];exact h.inj x a y d
def oq.first{G:List hk} {i:List aA} {rk:Nat->Nat} {ds fk:br} {dl:bo}(h:oq G i rk ds dl)(E:(G.map (·.call)).Nodup){x:hk}(s:x∈G){r:aA}(o:r.Call=x.call)(he:c2 i x.call=[])(B:fk[x.id]?=some (some [.own x.k 1 (av x.ids),.own dl.length 6 [ey r]]))(C:∀y∈G,y.id≠x.id->fk[y.id]?=ds[y.id]?)(D:(G.map (·.id)).Nodup):oq G (i++[r]) (λ t=>if t=x.id then dl.length else rk t) fk (dl++[(1,35)]):=by
 have e:∀y∈G,y.id≠x.id->c2 (i++[r]) y.call=c2 i y.call:=λ y a d=>by rw[wq,if_neg (λ w=>d (by rw[nh E a s (w.symm.trans o)])),gA]
 have ex:c2 (i++[r]) x.call=[r]:=by rw[wq,he,if_pos o];rfl
 have p:∀y∈G,c2 i y.call≠[]->rk y.id<dl.length:=λ y a d=>by obtain⟨m,_,c⟩:=h.ag y a;rcases c with⟨g,_⟩ | ⟨_,_,j⟩;(·exact absurd g d);exact(aD.1 j).1
 refine⟨λ y a=>?_,λ y a z l=>?_⟩;·by_cases d:y.id=x.id;(·obtain rfl:=nh D a s d;rw[ex];exact⟨_,B,.inr ⟨al,by simp[bd],al⟩⟩);rw[e y a d,C y a d];obtain⟨m,f,c⟩:=h.ag y a;refine⟨m,f,c.imp id λ⟨g,j,n⟩=>⟨g,?_,?_⟩⟩;(·simp only[if_neg d];exact j);simp only[if_neg d];rw[bu (aD.1 n).1];exact n
 show(_->_->(if y.id=x.id then _ else _)=(if z.id=x.id then _ else _)->_);by_cases f:y.id=x.id<;>by_cases c:z.id=x.id;·intros;rw[f,c]
 ·rw[if_pos f,if_neg c,e z l c];intro _ g j;have:=p z l g;omega
 ·rw[if_neg f,if_pos c,e y a f];intro g _ j;have:=p y a g;omega
 rw[if_neg f,if_neg c,e y a f,e z l c];exact h.inj y a z l
def oq.more{G:List hk} {c:List aA} {rk:Nat->Nat} {ds fk:br} {dl:bo}(h:oq G c rk ds dl)(E:(G.map (·.call)).Nodup){x:hk}(m:x∈G){r:aA}(s:r.Call=x.call)(he:c2 c x.call≠[])(B:fk[x.id]?=some (some [.own x.k 1 (av x.ids),.own (rk x.id) 6 (bd (c2 c x.call++[r]))]))(C:∀y∈G,y.id≠x.id->fk[y.id]?=ds[y.id]?)(o:(G.map (·.id)).Nodup):oq G (c++[r]) rk fk (dl.set (rk x.id) ((c2 c x.call).length+1,35)):=by
 have e:∀y∈G,y.id≠x.id->c2 (c++[r]) y.call=c2 c y.call:=λ y a l=>by rw[wq,if_neg (λ w=>l (by rw[nh E a m (w.symm.trans s)])),gA]
 have ex:c2 (c++[r]) x.call=c2 c x.call++[r]:=by rw[wq,if_pos s]
 have D:rk x.id<dl.length:=by obtain⟨p,_,d⟩:=h.ag x m;rcases d with⟨f,_⟩ | ⟨_,_,g⟩;(·exact absurd f he);exact(aD.1 g).1
 refine⟨λ y a=>?_,λ y a z n=>?_⟩;·by_cases l:y.id=x.id;(·obtain rfl:=nh o a m l;rw[ex];exact⟨_,B,.inr ⟨al,rfl,by rw[fV D];simp⟩⟩);rw[e y a l,C y a l];obtain⟨p,i,d⟩:=h.ag y a;refine⟨p,i,d.imp id λ⟨f,g,j⟩=>⟨f,g,?_⟩⟩;rw[fr (λ t=>l (h.inj y a x m f he t.symm))];exact j
 intro i d f;by_cases g:y.id=x.id<;>by_cases j:z.id=x.id;·rw[g,j]
 ·rw[e z n j]at d;exact h.inj y a z n (by rw[nh o a m g];exact he) d f
 ·rw[e y a g]at i;exact h.inj y a z n i (by rw[nh o n m j];exact he) f
 rw[e y a g]at i;rw[e z n j]at d;exact h.inj y a z n i d f
def FW(calls:List ByteArray)(rl:List aA)(r:aA):gB calls (rl++[r])=if hb calls r.Call=true then gB calls rl else(gB calls rl).set r.aw.toNat ((gB calls rl).get r.aw.toNat+1):=by unfold gB;(have key:∀(c:List aA)(v:az),j4 (λ r=>hb calls r.Call) (c++[r]) v=if hb calls r.Call=true then j4 (λ r=>hb calls r.Call) c v else(j4 (λ r=>hb calls r.Call) c v).set r.aw.toNat ((j4 (λ r=>hb calls r.Call) c v).get r.aw.toNat+1):=by intro c;induction c with|nil=>intro v;cases h:hb calls r.Call<;>simp[j4,h] |cons a c d=>intro v;exact d _);exact key _ _
def Ro{calls:List ByteArray} {rl:List aA} {n:Nat}(d:∀r∈rl,r.aw<n)(f:n<=4)(k:Nat)(ae:k<4):0<=(gB calls rl).get k/\(gB calls rl).get k<=rl.length:=by (have a:∀r∈rl,r.aw<4:=λ r c=>by have:=d r c;omega);unfold gB;rw[nj ae _ _ a,pV ae];have:(rl.filter (ll (λ r=>hb calls r.Call) k)).length<=rl.length:=kB _ _;omega
def h0(ss:List aw):az:=⟨((ss[0]?).map (·.h5)).getD 0,((ss[1]?).map (·.h5)).getD 0,((ss[2]?).map (·.h5)).getD 0,((ss[3]?).map (·.h5)).getD 0⟩
def zi(ss:List aw){k:Nat}(ae:k<4):(h0 ss).get k=((ss[k]?).map (·.h5)).getD 0:=by rcases om ae with rfl|rfl|rfl|rfl<;>rfl
def QT(ss:List aw)(s:aw)(h:ss.length<4):h0 (ss++[s])=(h0 ss).set ss.length s.h5:=by
 refine az.ext' λ k ae=>?_;rw[A0 _ ae h,zi _ ae,zi _ ae];by_cases e:k=ss.length;·subst e;simp
 rw[if_neg e];by_cases a:k<ss.length;·rw[bu a]
 rw[b1 ac,eL c0,eL ac]
def nO:ah->ah| .val (.aa 0 [])=>.val (.aa 6 []) | .lit 0 []=>.val (.aa 1 []) |s=>s
def JV(s:ah):mZ s (nO s):=by
 unfold nO;split;·exact .inr (.inr ⟨rfl,0,rfl,λ h=>by cases h⟩)
 ·exact .inr (.inr ⟨rfl,0,rfl,λ h=>by cases h⟩)
 have:∀s:ah,gu [s] [s]:=λ s=>w6 _;exact(this s).1
theorem Iy:∀(l:aP),gu l (l.map nO) | []=>trivial|s::l=>⟨JV s,Iy l⟩
theorem Cl:∀(l:br),vL l (l.map (Option.map (List.map nO))) | []=>trivial|none::l=>Cl l|some c::l=>⟨Iy c,Cl l⟩
def Iz{ds:br} {j:Nat} {cs:aP}(h:ds[j]?=some (some cs)):(ds.map (Option.map (List.map nO)))[j]?=some (some (cs.map nO)):=by rw[bm,h];rfl
def rE(gs:List (ByteArray×aI))(a:List Addr)(rl:List aA):am:=(gs.zip a).map λ p=>hD p.2 (av p.1.2) (bd (c2 rl p.1.1))
def zB:af:=.agg [.aa 0 [],.map [] [],ab 0,ab 0,ab 0,ab 0,ab 0,ab 0,ab 0,ab 0,.aa 0 []]
def dP(t:aE)(l:List aS):List (List (List bH)):=l.map λ x=>x.bt.map (eb t)
def c_(l:List aS):List ByteArray:=l.map λ x=>x.an.Call
def mR(a:Int)(c d:Bool)(g f:Nat):Int:=if a≠0 then a else if 4<g\/1024<f\/c=true\/d=true then 240 else 0
def An(t:aE)(ss:List aw)(rl:List aA)(l:List aS)(e:Int)(p:af):Prop:=(e≠0->p=.bf [zB,ab e])/\(e=0->∃a:List Addr,a.Nodup/\a.length=(hY (c_ l) [] 0).length/\p=.bf [jf (kc (dP t l)) ((hY (c_ l) [] 0).map λ g=>.str g.1) (rE (hY (c_ l) [] 0) a rl) (gB (c_ l) rl) (h0 ss) (bY (dI ss)),ab 0])
def GC{E:Env} {a b:Tmp} {ty:TypeId} {st:ai} {n:Nat} {cs:aP} {l:am} {p q:af}(k:st.sl.getD a .undef=.box n 0)(g:st.ag[n]?=some (some cs))(f:(E.T ty).agg=true)(i:eu ((cs.drop 0).take (E.T ty).size)=some l)(o:0+(E.T ty).size<=cs.length)(m:(st.sl.getD b .undef).dn=some q)(j:p=.bf [.agg l,q]):mS E [.cell a ty,.tmp b] st p:=by
 subst j;unfold mS;have c:i' E st [.tmp b]=some (True,[q]):=by simp only[i',m]
 have d:i' E st [.cell a ty,.tmp b]=some ((0+(E.T ty).size<=cs.length)/\True,[.agg l,q]):=by rw[i',c,k];simp only[iW,cl,g,e4,f,if_true,i,ah.dn]
 rw[d];exact⟨⟨o,trivial⟩,rfl⟩
def Cm{s:ah} {l l':aP}(h:gu l l'):gu (s::l) (.cX []::l'):=by refine⟨?_,h⟩;cases s<;>first|exact trivial|exact .inr trivial| (unfold mZ;simp)
def JW{nb:Nat×Nat} {G:List hk} {rl:List aA} {rk:Nat->Nat} {ds:br} {dl:bo} {H:f'} {es:ce} {S:ah} {uc:am} {R:aP} {sl:aP} {yk:Nat}(T:oq G rl rk ds dl)(hid:(G.map (·.id)).Nodup)(M:(G.map (·.b)).Nodup)(N:∀x∈G,3<=x.id)(V:H=tH G)(aw:es=nJ G)(ao:ds[2]?=some (some (S::.mp 0::R)))(W:∀c∈R,(nO c).fix 3)(Z:∀c∈R,∀ks vs,jY 0 ks vs (nO c)=nO c)(ac:(S=.lit 0 []/\uc=[])\/∃k,S=.own k 1 uc)(an:∀x∈uc,∀b ps,x.b9 b ps=x)(Q:sl[0]?=some (.cX H))(az:∀s∈sl,s.fix 3)(aB:∀s∈sl,∀ks vs,jY 0 ks vs s=s): ∃(t:br)(z:List Addr)(d:ah),z.Nodup/\z.length=G.length/\t.length=ds.length/\d.dn=some (.aa 1 uc)/\t[2]?=some (some (d::.val (.map (G.map λ x=>.str x.call) (rE (G.map λ x=>(x.call,x.ids)) z rl))::R.map nO))/\aZ nb ⟨sl,ds,dl,⟨[.cm es none],yk⟩⟩ ⟨sl,t,dl,⟨[.gone],yk⟩⟩:=by
 obtain⟨l,m⟩:=aC (λ x=>[.aa 1 (av x.ids),.aa 6 (bd (c2 rl x.call))]:hk->am);obtain⟨L,i⟩:=aC (G.map λ x=>(x.id,x.b,l x):List (Nat×Nat×am));have J:L.map (·.1)=G.map (·.id):=by rw[i,dv];rfl
 have U:L.map (·.2.1)=G.map (·.b):=by rw[i,dv];rfl
 have hint:∀(g:aI),∀x∈av g,∀b ps,x.b9 b ps=x:=λ g=>oZ b' g λ _ _ _=>rfl;have ay:∀(g:List aA),∀x∈bd g,∀b ps,x.b9 b ps=x:=λ g=>oZ ey g λ _ _ _=>rfl;obtain⟨w,aq,au,o⟩:=BY (n:=3) (h:=0) (tk:=dl) (yk:=yk) (ar:=[]) Q az al L (ds.map (Option.map (List.map nO))) [.cm es none] (λ x f=>by obtain⟨y,j,rfl⟩:=a_.1 (i▸f);rw[V];exact a_.2 ⟨y,j,rfl⟩) (by rw[J];exact hid) (λ x f=>by obtain⟨y,j,rfl⟩:=a_.1 (i▸f);exact N y j) (λ x f=>by obtain⟨y,j,rfl⟩:=a_.1 (i▸f);obtain⟨aE,ab,X⟩:=T.ag y j;refine⟨_,Iz ab,?_⟩;rcases X with⟨I,rfl⟩ | ⟨I,rfl,_⟩;(·refine⟨by rw[m];simp only[I];rfl,λ c a=>?_⟩;rcases cM.1 a with rfl|a;(·exact zn (hint _));rw[dG.1 a];exact oV al);refine⟨by rw[m];rfl,λ c a=>?_⟩;rcases cM.1 a with rfl|a;(·exact zn (hint _));rw[dG.1 a];exact zn (ay _));rw[BA]at o;have ax:(es.map λ e=>(e.1,L.foldl (λ p x=>p.b9 x.2.1 x.2.2) e.2))=(G.map λ x=>af.str x.call).zip (G.map λ x=>.bI ⟨x.b,0,none⟩ (l x)):=by rw[aw,nJ,dv,lU];refine gm λ x f=>?_;simp only[Function.comp];rw[HV (id:=x.id) (ps:=l x) (by rw[U];exact M) (by rw[i];exact a_.2 ⟨x,f,rfl⟩),m];rfl
 have O:(G.map λ x=>af.bI ⟨x.b,0,none⟩ (l x))=rE (G.map λ x=>(x.call,x.ids)) (G.map λ x=>(⟨x.b,0,none⟩:Addr)) rl:=by unfold rE hD;rw[lU,dv,m];rfl
 rw[ax,O]at o;obtain⟨ks,D,vs,F⟩:=b_ (G.map λ x=>af.str x.call) (rE (G.map λ x=>(x.call,x.ids)) (G.map λ x=>(⟨x.b,0,none⟩:Addr)) rl);have aD:ks.length=vs.length:=by rw[D,F,<-O];simp
 rw[<-D,<-F]at o;rw[<-D];have ak:∃d,nO S=d/\d.dn=some (.aa 1 uc)/\d.fix 3/\jY 0 ks vs d=d:=by rcases ac with⟨rfl,rfl⟩ | ⟨k,rfl⟩;(·exact⟨_,rfl,rfl,oV al,rfl⟩);exact⟨_,rfl,rfl,zn an,rfl⟩
 obtain⟨d,K,ad,ae,aj⟩:=ak;have ap:=au 2 _ (λ h=>by rw[J]at h;obtain⟨x,f,e⟩:=a_.1 h;have:=N x f;omega) (Iz ao) (λ c a=>by rcases cM.1 a with rfl|a;(·rw[K];exact ae);rcases cM.1 a with rfl|a;(·exact⟨λ _ _ _=>rfl,λ _ _=>rfl⟩);obtain⟨B,C,rfl⟩:=a_.1 a;exact W B C);refine⟨w.map (Option.map (List.map (jY 0 ks vs))),G.map λ x=>⟨x.b,0,none⟩,d,?_,al,by rw[cE,aq,cE],ad,?_,?_⟩;·refine lb.2 ((lb.1 M).imp λ h e=>h ?_);exact congrArg Addr.block e
 ·rw[bm,ap];simp only[du,eS,K,aj];rw[n4 λ c a=>by obtain⟨B,C,rfl⟩:=a_.1 a;exact Z B C ks vs,<-F];rfl
 refine aZ.trans _ _ _ (aZ.z' sl ds _ dl ⟨[.cm es none],yk⟩ (Cl ds)) (aZ.trans _ _ _ (aZ.r5 _ _ o) (aZ.r5 _ _ (bJ.Jh 0 _ none ks vs _ _ _ _ rfl (List.Perm.refl _) aD ?_)));have E:ai.x_ ⟨sl,w,dl,⟨[dM.cm (ks.zip vs) none],yk⟩⟩ 0 ks vs=⟨sl,w.map (Option.map (List.map (jY 0 ks vs))),dl,⟨[.gone],yk⟩⟩:=by unfold ai.x_;simp only;rw[n4 λ s E=>aB s E ks vs];rfl
 rw[E];exact .refl _ _
end Go.Abs
