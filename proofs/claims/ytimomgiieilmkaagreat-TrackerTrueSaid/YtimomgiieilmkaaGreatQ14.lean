/- Contracts of the functions: part 14. -/
import Derived.Shelf.SortM.Plain
import Derived.Shelf.Slices.CompactI
import Derived.Test.YtimomgiieilmkaaGreatQ9
set_option linter.all false
set_option maxHeartbeats 4000000
namespace Go.Abs
open Go.RowKit Go.Proofs Go.Shelf Go.Sort Go.Lib
def JZ:Ren:=⟨λ x=>if x=5 then 52 else if x=7 then 95 else if x=8 then 96 else if x=10 then 172 else if x=11 then 173 else if x=12 then 174 else if x=13 then 175 else if x=14 then 176 else if x=15 then 177 else if x=16 then 178 else if x=17 then 179 else if x=18 then 180 else if x=19 then 181 else if x=20 then 182 else if x=30 then 235 else if x=31 then 236 else if x=32 then 237 else if x=33 then 238 else if x=34 then 239 else if x=35 then 218 else 280,λ x=>if x=0 then 0 else if x=3 then 3 else if x=4 then 4 else if x=5 then 5 else if x=9 then 9 else if x=22 then 38 else if x=23 then 38 else if x=25 then 3 else if x=32 then 185 else if x=35 then 270 else if x=36 then 271 else if x=41 then 164 else if x=44 then 278 else if x=46 then 280 else if x=53 then 318 else if x=57 then 322 else if x=63 then 359 else 360,id⟩
theorem IC:SlLaysM.n5 Tryz.prog JZ where
 mixed:=bb
 f5:=⟨"slices.Sort[[]int,int]",rfl,bb⟩
 f7:=⟨"slices.pdqsortOrdered[int]",rfl,bb⟩
 f8:=bb
 f10:=⟨"slices.insertionSortOrdered[int]",rfl,bb⟩
 f11:=⟨"slices.heapSortOrdered[int]",rfl,bb⟩
 f12:=⟨"slices.breakPatternsOrdered[int]",rfl,bb⟩
 f13:=⟨"slices.choosePivotOrdered[int]",rfl,bb⟩
 f14:=⟨"slices.reverseRangeOrdered[int]",rfl,bb⟩
 f15:=⟨"slices.partialInsertionSortOrdered[int]",rfl,bb⟩
 f16:=⟨"cmp.Less[int]",rfl,bb⟩
 f17:=⟨"slices.partitionEqualOrdered[int]",rfl,bb⟩
 f18:=⟨"slices.partitionOrdered[int]",rfl,bb⟩
 f19:=bb
 f20:=bb
 f30:=⟨"slices.siftDownOrdered[int]",rfl,bb⟩
 f31:=bb
 f32:=bb
 f33:=⟨"slices.medianAdjacentOrdered[int]",rfl,bb⟩
 f34:=⟨"slices.medianOrdered[int]",rfl,bb⟩
 f35:=⟨"cmp.isNaN[int]",rfl,bb⟩
 f40:=⟨"slices.order2Ordered[int]",rfl,bb⟩
 t0:=Tryz.underlying0
 a0:=Tryz.isAgg0
 z0:=Tryz.sizeOf0
 v0:=Tryz.zeroValue0
 t3:=Tryz.underlying3
 a3:=Tryz.isAgg3
 z3:=Tryz.sizeOf3
 v3:=Tryz.zeroValue3
 t4:=Tryz.underlying4
 a4:=Tryz.isAgg4
 z4:=Tryz.sizeOf4
 v4:=Tryz.zeroValue4
 t5:=Tryz.underlying5
 a5:=Tryz.isAgg5
 z5:=Tryz.sizeOf5
 v5:=Tryz.zeroValue5
 t9:=Tryz.underlying9
 a9:=Tryz.isAgg9
 z9:=Tryz.sizeOf9
 v9:=Tryz.zeroValue9
 t22:=Tryz.underlying38
 a22:=Tryz.isAgg38
 z22:=Tryz.sizeOf38
 v22:=Tryz.zeroValue38
 t23:=Tryz.underlying38
 a23:=Tryz.isAgg38
 z23:=Tryz.sizeOf38
 v23:=Tryz.zeroValue38
 t25:=Tryz.underlying3
 a25:=Tryz.isAgg3
 z25:=Tryz.sizeOf3
 v25:=Tryz.zeroValue3
 t32:=Tryz.underlying185
 a32:=Tryz.isAgg185
 z32:=Tryz.sizeOf185
 v32:=Tryz.zeroValue185
 t35:=Tryz.underlying270
 a35:=Tryz.isAgg270
 z35:=Tryz.sizeOf270
 v35:=Tryz.zeroValue270
 t36:=Tryz.underlying271
 a36:=Tryz.isAgg271
 z36:=Tryz.sizeOf271
 v36:=Tryz.zeroValue271
 t41:=Tryz.underlying164
 a41:=Tryz.isAgg164
 z41:=Tryz.sizeOf164
 v41:=Tryz.zeroValue164
 t44:=Tryz.underlying278
 a44:=Tryz.isAgg278
 z44:=Tryz.sizeOf278
 v44:=Tryz.zeroValue278
 t46:=Tryz.underlying280
 a46:=Tryz.isAgg280
 z46:=Tryz.sizeOf280
 v46:=Tryz.zeroValue280
 t53:=Tryz.underlying318
 a53:=Tryz.isAgg318
 z53:=Tryz.sizeOf318
 v53:=Tryz.zeroValue318
 t57:=Tryz.underlying322
 a57:=Tryz.isAgg322
 z57:=Tryz.sizeOf322
 v57:=Tryz.zeroValue322
 t63:=Tryz.underlying359
 a63:=Tryz.isAgg359
 z63:=Tryz.sizeOf359
 v63:=Tryz.zeroValue359
 t64:=Tryz.underlying360
 a64:=Tryz.isAgg360
 z64:=Tryz.sizeOf360
 v64:=Tryz.zeroValue360
def PC:Ren:=⟨λ _=>53,λ x=>if x=0 then 0 else if x=3 then 3 else if x=4 then 4 else 38,id⟩
theorem A6:Lays2.n20 Tryz.prog PC where
 mixed:=bb
 f20:=bb
 t0:=Tryz.underlying0
 a0:=Tryz.isAgg0
 z0:=Tryz.sizeOf0
 v0:=Tryz.zeroValue0
 t3:=Tryz.underlying3
 a3:=Tryz.isAgg3
 z3:=Tryz.sizeOf3
 v3:=Tryz.zeroValue3
 t4:=Tryz.underlying4
 a4:=Tryz.isAgg4
 z4:=Tryz.sizeOf4
 v4:=Tryz.zeroValue4
 t22:=Tryz.underlying38
 a22:=Tryz.isAgg38
 z22:=Tryz.sizeOf38
 v22:=Tryz.zeroValue38
 i3:=bb
def Ef{α:Type} [Inhabited α] [DecidableEq α](d:Array α)(m:Nat):(compactUpTo d m).length<=m:=by unfold compactUpTo;rw[cE];exact eg (kB _ _) al
def Fi{rows:Bool} {a6:FuncId->Bool} {Y:gI} {ag:br} {tk:bo} {ao:dE} {id n cap:Nat} {a:aI} {rest:aP}(j:ag[id]?=some (some ((av a).map ah.val++rest)))(l:n=a.length)(m:a.length<4611686018427387904):cF ⟨Tryz.prog,cW,a6,rows,Y⟩ 52 [.row id 0 1 n cap] ag tk ao λ r g o f=>r=.val (.bf [])/\(∃d,d.length=a.length/\d=a.mergeSort (λ x y=>decide (x<=y))/\g=ag.set id (some ((av d).map ah.val++rest)))/\o=tk/\f=ao:=by subst l;refine AY (E:=⟨Tryz.prog,cW,a6,rows,Y⟩) (cL Tryz.func52) j (.val (.bf [])) (λ _=>.tuple #[]) (λ tk G S w b c=>aq.bf [] [] rfl al) (λ d=>d=a.mergeSort λ x y=>decide (x<=y)) λ w b i c p s=>?_;have h:=AnyM.slices_Sort_int IC b 0 cap a w i c m;refine Calls.mono (show Calls Tryz.prog 52 _ w _ from h) ?_;rintro e t⟨rfl,k,os,rfl⟩;exact⟨rfl,k,os,_,al,rfl,rfl⟩
def Mo{rows:Bool} {a6:FuncId->Bool} {Y:gI} {ag:br} {tk:bo} {ao:dE} {id n cap:Nat} {a:aI} {rest:aP}(m:ag[id]?=some (some ((av a).map ah.val++rest)))(o:n=a.length)(t:a.length<4611686018427387904)(f:n<=cap)(g:cap<=maxLen):cF ⟨Tryz.prog,cW,a6,rows,Y⟩ 53 [.row id 0 1 n cap] ag tk ao λ r j p i=>r=.row id 0 1 (compactUpTo a.toArray a.length).length cap/\(∃d,d.length=a.length/\True/\j=ag.set id (some ((av d).map ah.val++rest)))/\p=tk/\i=ao:=by subst o;have s:(compactUpTo a.toArray a.length).length<=a.length:=Ef _ _;refine AY (E:=⟨Tryz.prog,cW,a6,rows,Y⟩) (cL Tryz.func53) m (.row id 0 1 (compactUpTo a.toArray a.length).length cap) (λ b=>.slice (some ⟨b,0,none⟩) (compactUpTo a.toArray a.length).length cap) (λ tk G S w b c=>⟨b,c,rfl,ac,g⟩) (λ d=>True) λ w b l c f g=>?_;have h:=Any.slices_Compact_int_arr A6 b 0 cap a.toArray w l c0 (by simpa using f);refine Calls.mono (show Calls Tryz.prog 53 _ w _ from h) ?_;rintro e x⟨rfl,k,rfl⟩;refine⟨al,k,#[],compactUpTo a.toArray a.length++List.replicate (a.length-(compactUpTo a.toArray a.length).length) 0,c0,trivial,?_⟩;simp[grow];rfl
end Go.Abs
namespace Go.Abs
open Go.RowKit Go.Proofs
def Mh(xs:am):aB 132 [.aa 1 xs] (.fn 204 [.ptr [.aa 1 xs] 0]):=by refine aY Tryz.func132 (λ A q P Y d c a=>?_);(conv=>cbv);rw[<-a]
def PD(l:aI){xs:am}(m:xs=av l)(K:l.length<=1000000):l3 Tryz.prog 204 [.ptr [.aa 1 xs] 0] (l.map λ x=>[ab x]):=by
 refine uU (a6:=λ _=>false) (rows:=false) gd Tryz.func204 rfl (cL Tryz.func204) rfl (λ A P Y I y G L i D a n=>?_);have j:=λ q(h:q=Y.cQ.length\/q=Y.cQ.length+1)=>n q (by rw[i]at h;exact h);have k:xs.length=l.length:=by rw[m];simp[av]
 have F:Y.cQ.length=l.length:=by rw[i];simp
 refine cp (b6 a (λ(z:Int×Nat)s=>{s.put (some 7) (.val (ab z.1))with ao:=⟨s.ao.mp,z.2⟩}) (λ z=>z.1=(z.2:Int)/\z.2<=l.length) (λ z=>(l.length-z.1).toNat) (0,0) ?_ ?_ ?_);·exact ba
 ·exact⟨rfl,ac⟩
 rintro H⟨c,f⟩⟨t,ae⟩o;simp only at t ae;refine aR (λ d=>?_) λ d=>?_;·have w:c<l.length:=a7 a rfl (ap a k) d;have g:A.ak c 1=c+1:=bv a _ _;refine dZ a m ac w (λ x C=>?_);(have E:Y.cQ[f]?=some [ab x]:=by rw[i,bm,show f=c.toNat by omega,C];rfl);refine cp (oQ a rfl D E ?_ (λ M B=>?_));(·refine bB (λ d=>cx a d) ?_;refine⟨a1 a g aW,o (A.ak c 1,f+1) _ ?_ ?_ ?_⟩;(·exact ba);(·exact⟨by show A.ak c 1=_;rw[g];omega,ac⟩);show(l.length-A.ak c 1).toNat<(l.length-c).toNat;rw[g];omega);(conv=>cbv);split;(·(conv=>cbv);exact j _ (.inr B));rename_i d;have p:False:=dm a d;cases p
 have J:(l.length:Int)<=c:=bc a rfl (ap a k) d;exact j _ (.inl (by show f=_;rw[F];omega))
def vE(b:aI)(rs:br)(j cap:Nat):Prop:= ∃cells,rs[j]?=some (some cells)/\cap<=cells.length/\b.length<=cap/\cap<=maxLen/\cells.take b.length=(av b).map ah.val
def vF(c:Nat)(b:aI)(rs:br)(arg:ah):Prop:=(b=[]/\arg=.lit 0 [])\/∃a cap,arg=.row (c+a) 0 1 b.length cap/\vE b rs a cap
def IM{α:Type}(l:List α)(x:α)(r:List α)(n:Nat)(h:n=l.length+1):(l++x::r).take n=l++[x]:=by subst h;rw[List.append_cons];exact nd al
def K5{E:Env}(o:E.T=cW){A:dF}(z:A=ay E){b:aI} {arg:ah} {rs:br} {j7:br} {d:Nat}(g:j7.length=d)(B:vF d b rs arg)(I:b.length<=1000000)(i:Int)(sl:aP)(tk:bo)(ao:dE)(K:ah->ai->Prop)(p:∀(j cap:Nat)(w:br),vE (b++[i]) w j cap->K (.row (d+j) 0 1 (b.length+1) cap) ⟨sl,j7++w,tk,ao⟩):A.nG [38,38] [arg,.lit 1 [ab i]] ⟨sl,j7++rs,tk,ao⟩ K:=by
 have ae:(E.T 38).k=.slice 3:=by rw[o];rfl
 have C:E.T 3=cW 3:=by rw[o]
 refine wz z ?_;unfold jS;simp only[ae,ah.elems,C];refine⟨trivial,rfl,al,aN,rfl,?_⟩;have s:∀(cap:Nat)(f:aP),b.length+1<=cap->cap<=maxLen->cap=b.length+1+f.length->K (.row (j7++rs).length 0 1 (b.length+1) cap) ⟨sl,j7++(rs++[some ((av b).map ah.val++(au i::f))]),tk,ao⟩:=by intro cap f a c J;rw[bO,g];refine p _ cap _ ⟨(av b).map ah.val++(au i::f),al,by simp[av];omega,c0,c,?_⟩;rw[IM _ _ _ _ (by simp[av])];simp[av,b']
 rcases B with⟨rfl,rfl⟩ | ⟨j,cap,rfl,cells,m,G,H,y,n⟩;·refine⟨.inr rfl,by show(0+1)*(8+1)<=140737488355328;omega,λ cap a c=>?_⟩;have:=s cap (List.replicate (cap-1) (.val .any)) (by simpa using a) c (by simp at a⊢;omega);have x:(cW 3).size=1:=rfl;rw[x];simp only[ai.h2,oJ,so,hn,e0,kH,dV,jt,ul,gA]at this⊢;exact this
 refine⟨rfl,by simp only[e0];show(b.length+1)*(8+1)<=_;omega,cells,?_,ac,λ t=>?_,λ F l a c=>?_⟩;·show(j7++rs).getD (d+j) none=some cells;rw[cl,b1 ac];simp[g,m]
 ·simp only[e0]at t;(have e:(ai.mk sl (j7++rs) tk ao).j_ (d+j) (some (cells.take (0+b.length*1)++(([af.int IntKind.i64 i].flatMap af.cells).map ah.val++cells.drop (0+b.length*1+[af.int IntKind.i64 i].length*1))))=⟨sl,j7++rs.set j (some (cells.take b.length++(au i::cells.drop (b.length+1)))),tk,ao⟩:=by simp only[ai.j_,ai.mk.injEq,true_and,and_true];rw[jg _ _ ac];simp[g,af.cells]);rw[e];have D:j<rs.length:=(aD.1 m).1;refine p j cap _ ⟨_,fV D,c0,by simpa using t,y,?_⟩;rw[n,IM _ _ _ _ (by simp[av])];simp[av,b']
 simp only[e0]at F a⊢;have:=s l (List.replicate (l-(b.length+1)) (.val .any)) a c c0;simp only[ai.h2,kH,q1,dV,jt,ul,gA]at this⊢;rw[n];exact this
def qo(n:Nat):Bool:=n==5000000+131||n==5000000+203||n==5000000+251
def Q5(i j m o:Option aP)(tk:bo)(ao:dE)(l:aI){xs:am}(I:xs=av l)(W:l.length<=1000000):cF ⟨Tryz.prog,cW,qo,true,.none⟩ 251 [.lit 0 [],.val (.fn 204 [.ptr [.aa 1 xs] 0])] [i,j,m,o] tk ao (λ r S ac R=>∃g,S=[i,j,m,o]++g/\ac=tk/\R=ao/\vF 4 l g r):=by
 refine jM (a6:=qo) (rows:=true) gd Tryz.func251 rfl (cL Tryz.func251) (by intro h;simp at h) (λ A ad aj an af J ak L=>cp ?_);refine pO J (PD l I W) (λ x I=>?_) (λ(y:ah×br)s=>{s with ag:=[i,j,m,o,some [y.1]]++y.2}) (λ k y=>vF 5 (l.take k) y.2 y.1) (.lit 0 [],[]) ?_ ?_ ?_ ?_ ?_;·obtain⟨y,_,rfl⟩:=a_.1 I;rfl
 ·exact λ y=>rfl
 ·exact aZ.refl _
 ·exact .inl ⟨rfl,rfl⟩
 ·rintro ai k⟨arg,g⟩x ae f M;rw[bm,ke]at ae;obtain⟨z,Z,rfl⟩:=ae;(have X:l.take (k+1)=l.take k++[z]:=by rw[fX,Z];rfl);have V:(l.take k).length<=1000000:=c0;simp only at f;(have next:∀(a cap:Nat)(c:br),vE (l.take k++[z]) c a cap->vF 5 (l.take (k+1)) c (.row (5+a) 0 1 ((l.take k).length+1) cap):=λ a cap c h=>by rw[X];exact .inr ⟨a,cap,al,h⟩);have N:=λ(T:br)(U:T.length=5)ab K=>K5 (E:=⟨Tryz.prog,cW,qo,true,.none⟩) rfl J U f V z ab tk ao K;(have fin:∀(a cap id n:Nat)(c:br),vE (l.take k++[z]) c a cap->id=5+a->n=(l.take k).length+1->vF 5 (l.take (k+1)) c (.row id 0 1 n cap):=λ a cap id n c h G H=>by rw[G,H];exact next a cap c h);rcases id f with⟨O,rfl⟩ | ⟨a,cap,t,Q⟩;(·refine cp (N [i,j,m,o,some [.lit 0 []]] rfl _ _ (λ B p c F=>?_));have d:=λ id n=>fin B p id n c F;generalize 5+B=w at d⊢;generalize(l.take k).length+1=C at d⊢;(conv=>cbv);exact M (.row w 0 1 C p,c) _ ba (d w C rfl rfl));obtain⟨id,hid,n,D⟩:=b_ (5+a) ((l.take k).length);rw[<-hid,<-D]at t;subst t;refine cp (N [i,j,m,o,some [.row id 0 1 n cap]] rfl _ _ (λ B p c F=>?_));have d:=λ id n=>fin B p id n c F;generalize 5+B=w at d⊢;generalize(l.take k).length+1=C at d⊢;(conv=>cbv);exact M (.row w 0 1 C p,c) _ ba (d w C rfl rfl)
 rintro⟨arg,g⟩f;rw[eD al]at f;simp only at f;rcases f with⟨O,rfl⟩ | ⟨a,cap,t,Q⟩;·(conv=>cbv);exact L _ ⟨_,.lit 0 [],aZ.refl _,.inr (.inl ⟨4,rfl,rfl⟩),_::g,rfl,rfl,rfl,.inl ⟨O,rfl⟩⟩
 obtain⟨id,hid,n,D⟩:=b_ (5+a) l.length;rw[<-hid,<-D]at t;subst t;refine cp (L _ ⟨_,.row id 0 1 n cap,aZ.refl _,.inr (.inl ⟨4,rfl,rfl⟩),_::g,rfl,rfl,rfl,.inr ⟨a+1,cap,?_,?_⟩⟩);·rw[hid,D,show 5+a=4+(a+1)by omega]
 obtain⟨cells,G,H⟩:=Q;exact⟨cells,G,H⟩
def J0(d f g i:Option aP)(tk:bo)(ao:dE)(l:aI){xs:am}(z:xs=av l)(x:l.length<=1000000):cF ⟨Tryz.prog,cW,qo,true,.none⟩ 203 [.val (.fn 204 [.ptr [.aa 1 xs] 0])] [d,f,g,i] tk ao (λ r k s j=>∃a,k=[d,f,g,i]++a/\s=tk/\j=ao/\vF 4 l a r):=by refine jM (a6:=qo) (rows:=true) gd Tryz.func203 rfl (cL Tryz.func203) (by intro h;simp at h) (λ A B D F C t E m=>cp ?_);refine ij t (Q5 d f g i tk ao l z x) (λ r k s j h=>?_);obtain⟨a,rfl,rfl,rfl,c⟩:=h;rcases c with⟨w,rfl⟩ | ⟨p,cap,c,y⟩;(·(conv=>cbv);exact m _ ⟨_,.lit 0 [],aZ.refl _,.inr (.inl ⟨2,rfl,rfl⟩),a,rfl,rfl,rfl,.inl ⟨w,rfl⟩⟩);obtain⟨id,hid,n,o⟩:=b_ (4+p) l.length;rw[<-hid,<-o]at c;subst c;refine cp (m _ ⟨_,.row id 0 1 n cap,aZ.refl _,.inr (.inl ⟨2,rfl,rfl⟩),a,rfl,rfl,rfl,.inr ⟨p,cap,?_,y⟩⟩);rw[hid,o]
def KI(f g i j:Option aP)(tk:bo)(ao:dE)(l:aI){xs:am}(R:xs=av l)(M:l.length<=1000000)(B:0<l.length):cF ⟨Tryz.prog,cW,qo,true,.none⟩ 131 [.val (.fn 204 [.ptr [.aa 1 xs] 0])] [f,g,i,j] tk ao (λ r o s m=>∃c,o=[f,g,i,j]++c/\s=tk/\m=ao/\∃a cap,r=.row (4+a) 0 1 l.length cap/\vE (l.mergeSort λ x y=>decide (x<=y)) c a cap):=by
 refine jM (a6:=qo) (rows:=true) gd Tryz.func131 rfl (cL Tryz.func131) (by intro h;simp at h) (λ A T V ab U w Z G=>cp ?_);refine ij w (J0 f g i j tk ao l R M) (λ r o s m h=>?_);obtain⟨c,rfl,rfl,rfl,k⟩:=h;rcases k with⟨H,rfl⟩ | ⟨a,cap,k,N⟩;·rw[H]at B;cases B
 obtain⟨id,hid,n,p⟩:=b_ (4+a) l.length;rw[<-hid,<-p]at k;subst k;obtain⟨cells,t,X,D,E,F⟩:=N;have J:cells=(av l).map ah.val++cells.drop l.length:=by rw[<-F,hB]
 have I:([f,g,i,j]++c)[id]?=some (some ((av l).map ah.val++cells.drop l.length)):=by rw[<-J,hid,b1 al];simpa using t
 have O:=Fi (rows:=true) (a6:=qo) (Y:=.none) (tk:=s) (ao:=m) (cap:=cap) I p ac;refine cp (ij w O (λ r o ad W h=>?_));obtain⟨rfl,⟨d,z,K,rfl⟩,rfl,rfl⟩:=h;have Q:([f,g,i,j]++c).set id (some ((av d).map ah.val++cells.drop l.length))=[f,g,i,j]++c.set a (some ((av d).map ah.val++cells.drop l.length)):=by rw[hid,jg _ _ al];simp
 rw[Q];obtain⟨S,C⟩:=aC (c.set a (some ((av d).map ah.val++cells.drop l.length)));rw[<-C];conv=>cbv
 refine G _ ⟨_,.row id 0 1 n cap,aZ.refl _,.inr (.inl ⟨2,rfl,rfl⟩),S,rfl,rfl,rfl,a,cap,by rw[hid,p],?_⟩;have L:a<c.length:=(aD.1 t).1;rw[<-K,C];refine⟨_,fV L,?_,by rw[z];exact D,E,?_⟩;·simp[av,z];omega
 rw[nd (by simp[av])]
open Go.Lib
def lM(W:List Way)(w0:Way)(n:Int):Bool:=match W[n.toNat]? with|some w=>!decide (w.b4=w0.b4) || !decide (w.b5=w0.b5) |none=>true
def Q6(W:List Way)(w0:Way)(n bq:Int)(ss cs ws ms ks t:am)(m:ws=cv W)(i:0<=n)(j:n<W.length):aB 130 [ab n,.ptr [ab bq,.aa 5 ss,.aa 3 cs,.aa 3 ws,.aa 1 ms,.aa 6 ks] 0,.ptr [ab w0.b4,ab w0.b5,.aa 4 t] 0] (.bool (lM W w0 n)):=by
 refine aY Tryz.func130 (λ A q P Y x a f=>?_);obtain⟨c,g,o⟩:=w0;have k:∀w,W[n.toNat]?=some w->lM W ⟨c,g,o⟩ n=(!decide (w.b4=c) || !decide (w.b5=g)):=λ w h=>by simp only[lM,h]
 generalize lM W ⟨c,g,o⟩ n=b at f k;conv=>cbv
 refine⟨cK a bb,?_⟩;refine jO a m i j (λ w v hw y=>?_);obtain⟨p,D,E⟩:=w;have l:=k _ hw;refine aR (λ h=>?_) λ h=>?_;·have d:p≠c:=b3 a h;rw[<-f,l,bT d];rfl
 have d:p=c:=db a h;refine jO a m i j (λ z C s B=>?_);obtain rfl:=bC ((hw).symm.trans s);conv=>cbv
 rw[<-f,l,bz d];subst a;rfl
def vo(l:aI):Bool:=decide ((compactUpTo (l.mergeSort λ x y=>decide (x<=y)).toArray (l.mergeSort λ x y=>decide (x<=y)).length).length=l.length)
def oh(t:aE)(f:an):Way:=(t.aM[(f.aM.headD 0).toNat]?).getD ⟨0,0,[]⟩
def kI(t:aE)(f:an):Bool:= !hZ 0 4095 f.b0&&!hZ 0 7 f.h3&&!hZ 0 (t.bU.length-1) f.Class&&io f.Call&&!hZ 1 4 f.aM.length&&!f.aM.any (hZ 0 (t.aM.length-1))&& !(decide (f.cD.b4<0) ||decide (f.cD.b5<=f.cD.b4) ||decide (1440<f.cD.b5) ||decide (16<f.cD.b5-f.cD.b4))&& !f.aM.any (lM t.aM (oh t f))&&vo f.aM
def hA(t:aE)(f:an):Int:=if ea t then if kI t f then 0 else 150 else 140
def zu(lo a n:Int):aB 129 [ab lo,ab a,.aa 1 [ab n]] (.bool (!hZ lo a n)):=by have h:=Gu lo a [n] (xs:=[ab n]) rfl;simpa using h
def ym(n:Nat):Bool:=qo n||n==1000009
def Q7{A:dF} {E:Env} {id:Nat} {ops:Array Oper} {c:Code} {nb:Nat×Nat} {st:ai} {Q a:fb->ai->Prop}(d:ai)(hQ:∀s,Q .normal s=c8 A E (.seq (.region id ops true) c) nb s a)(g:oU E true id ops.size=.each)(i:∀K:ai->Prop,K d->lp A E ops ops.size (Array.replicate ops.size false) st K)(f:c8 A E c nb d a):c8 A E .skip nb st Q:=by unfold c8;rw[hQ];unfold c8;unfold c8;rw[g];exact i _ f
def H'(t:aE)(f:an):aB 65 [bD t,fG f] (ab (hA t f)):=by
 refine kZ (a6:=ym) (rows:=true) Tryz.func65 (λ A q P Y aP g T=>?_);have Q:=yY t;obtain⟨aA,ad⟩:=aC (hA t f);have bW:t.aM.length<=9223372036854775807:=by have E:=cS.cell (show cS [.agg _]from aP.mem (p:=bD t) al) (c:=.aa 3 (cv t.aM)) al;have:=E.len;simpa[cv]using this
 have bV:t.bU.length<=9223372036854775807:=by have E:=cS.cell (show cS [.agg _]from aP.mem (p:=bD t) al) (c:=.aa 6 (cz t.bU)) al;have:=E.len;simpa[cz]using this
 rw[<-ad]at T;obtain⟨ba,bE,cs,bm,X,ai,a8,bp⟩:=dq (cA t.bN) (c3 t.c5) (cv t.aM) (bY t.cf);obtain⟨ks,aL,a_,br⟩:=b_ (cz t.bU) t.aU;have bG:bD t=.agg [ab a_,.aa 5 ba,.aa 3 cs,.aa 3 X,.aa 1 a8,.aa 6 ks]:=by rw[dR t bE bm ai bp aL,br]
 rw[bG]at Q⊢;have bo:ks.length=t.bU.length:=by rw[aL];simp[cz]
 have bH:X.length=t.aM.length:=by rw[ai];simp[cv]
 obtain⟨f1,f2,f3,f4,f5,⟨f6,f7⟩,f8⟩:=f;obtain⟨ak,M⟩:=aC (av f5);have N:ak.length=f5.length:=by rw[M];simp[av]
 rw[fO _ M];simp only;cases R:ea t with|false=>rw[R]at Q;(have L:aA=140:=by rw[ad,hA,R];rfl);(conv=>cbv);refine cZ g Q (cp ?_);split;(·(conv=>cbv);refine⟨_,bJ.refl _ _,(cp ?_)⟩;exact(by rw[<-T,L]));rename_i h;have j:(140:Int)=0:=db g h;cases j|true=>rw[R]at Q;(have L:aA=if kI t ⟨f1,f2,f3,f4,f5,⟨f6,f7⟩,f8⟩then 0 else 150:=by rw[ad,hA,R];rfl);clear ad R;obtain⟨aD,i⟩:=aC (kI t ⟨f1,f2,f3,f4,f5,⟨f6,f7⟩,f8⟩);rw[<-i]at L;simp only[kI]at i;(have bad:aD=false->af.int .i64 150=q:=λ h=>by rw[<-T,L,h];rfl);(have bi:aD=true->af.int .i64 0=q:=λ h=>by rw[<-T,L,h];rfl);clear L T;(have Z:A.bL (A.aH ks) 1=(t.bU.length:Int)-1:=by rw[gZ g,ap g bo]);(have O:A.bL (A.aH X) 1=(t.aM.length:Int)-1:=by rw[gZ g,ap g bH]);have bd:=zu 0 (t.bU.length-1) f3;have bf:=Gu 0 (t.aM.length-1) f5 M;have be:=zu 1 4 f5.length;rw[<-Z]at bd;rw[<-O]at bf;rw[<-ap g N]at be;refine cp (cZ g Q ?_);refine bB (λ h=>b3 g h rfl) ?_;refine dU g (zu 0 4095 f1) rfl (λ bZ aq=>?_);refine aR (λ h=>?_) λ h=>?_;(·have j:=e1 g h;refine⟨_,bJ.refl _ _,?_⟩;exact cp (bad (by rw[i,<-aq,j];simp)));have bt:=eV g h;rw[bt]at aq;rw[<-aq]at i;clear h;refine dU g (zu 0 7 f2) rfl (λ b0 ar=>?_);refine aR (λ h=>?_) λ h=>?_;(·have j:=e1 g h;refine⟨_,bJ.refl _ _,?_⟩;exact cp (bad (by rw[i,<-ar,j];simp)));have bu:=eV g h;rw[bu]at ar;rw[<-ar]at i;clear h;refine⟨a1 g Z aW,?_⟩;refine dU g (bd) rfl (λ b2 au=>?_);refine aR (λ h=>?_) λ h=>?_;(·have j:=e1 g h;refine⟨_,bJ.refl _ _,?_⟩;exact cp (bad (by rw[i,<-Z,<-au,j];simp)));have bv:=eV g h;rw[bv]at au;rw[<-Z,<-au]at i;clear h;refine dU g (B5 f4) rfl (λ b4 aw=>?_);refine aR (λ h=>?_) λ h=>?_;(·have j:=e1 g h;refine⟨_,bJ.refl _ _,?_⟩;exact cp (bad (by rw[i,<-aw,j];simp)));have bw:=eV g h;rw[bw]at aw;rw[<-aw]at i;clear h;refine dU g be rfl (λ b5 U=>?_);refine aR (λ h=>?_) λ h=>?_;(·have j:=e1 g h;refine⟨_,bJ.refl _ _,?_⟩;exact cp (bad (by rw[i,<-ap g N,<-U,j];simp)));have bx:=eV g h;rw[bx]at U;rw[<-ap g N,<-U]at i;(have bq:1<=f5.length/\f5.length<=4:=by rw[ap g N]at U;have:=U.symm;simp[hZ]at this;omega);clear h;refine⟨a1 g O aW,?_⟩;refine dU g bf rfl (λ b6 ag=>?_);refine ca (λ h=>?_) λ h=>?_;(·have j:=e1 g h;refine⟨_,bJ.refl _ _,?_⟩;exact cp (bad (by rw[i,<-O,<-ag,j];simp)));have bA:=eV g h;rw[bA]at ag;rw[<-O,<-ag]at i;clear h;refine ca (λ h=>?_) λ h=>?_;(·have j:=eG g h;refine⟨_,bJ.refl _ _,?_⟩;exact cp (bad (by rw[i,bz j];simp)));have bR:=ej g h;rw[bT (p:=f6<0) ac]at i;clear h;refine ca (λ h=>?_) λ h=>?_;(·have j:=fI g h;refine⟨_,bJ.refl _ _,?_⟩;exact cp (bad (by rw[i,bz j];simp)));have E:=ft g h;rw[bT (p:=f7<=f6) ac]at i;clear h;refine aR (λ h=>?_) λ h=>?_;(·have j:=eG g h;refine⟨_,bJ.refl _ _,?_⟩;exact cp (bad (by rw[i,bz j];simp)));have aF:=ej g h;rw[bT (p:=1440<f7) ac]at i;clear h;have aj:A.bL f7 f6=f7-f6:=gZ g _ _;refine⟨a1 g aj aW,?_⟩;refine ca (λ h=>?_) λ h=>?_;(·have j:=a7 g rfl aj h;refine⟨_,bJ.refl _ _,?_⟩;exact cp (bad (by rw[i,bz j];simp)));have bS:=bc g rfl aj h;rw[bT (p:=16<f7-f6) ac]at i;clear h;(have am:∀n∈f5,0<=n/\n<t.aM.length:=λ n F=>by (have E:(f5.any (hZ 0 (A.bL (A.aH X) 1)))=false:=by simpa using ag.symm);rw[O,iz]at E;have:=E n F;simp[hZ]at this;omega);obtain⟨x,ay⟩:∃x,f5[0]?=some x:=⟨f5[0]'ac,aQ ac⟩;have aZ:=am x (aT ay);obtain⟨w0,aY⟩:∃w0,t.aM[x.toNat]?=some w0:=⟨t.aM[x.toNat]'ac,aQ ac⟩;(have bn:oh t ⟨f1,f2,f3,f4,f5,⟨f6,f7⟩,f8⟩=w0:=by (have:f5.headD 0=x:=by cases f5 with|nil=>simp at bq|cons a r=>simpa using ay);simp only[oh,this,aY];rfl);rw[bn]at i;obtain⟨bI,aO⟩:=aC (hg w0.cY);have aG:=Ay (lM t.aM w0) f5 M (λ n F=>Q6 t.aM w0 n a_ ba cs X a8 ks bI ai (am n F).1 (am n F).2);obtain⟨b9,b',cb⟩:=w0;simp only at aG aO;apply Q7 (hQ:=λ _=>rfl);(case g=>rfl);(case i=>intro K bj;(conv=>cbv);repeat' first|exact bj|apply ng| (refine dZ g M (bk 0) ac (λ z V=>?_);obtain rfl:=bC (ay.symm.trans V);clear V;conv=>cbv) | (refine jO g ai aZ.1 aZ.2 (λ z v V aX=>?_);obtain rfl:=bC (aY.symm.trans V);obtain rfl:=aO.trans aX.symm;clear V aX;conv=>cbv));have bF:∀l m o s,cF ⟨Tryz.prog,cW,ym,true,.none⟩ 131 [.val (.fn 204 [.ptr [.aa 1 ak] 0])] [l,m,o,s] [] ⟨[],0⟩ (λ r D I C=>∃H,D=[l,m,o,s]++H/\I=[]/\C=⟨[],0⟩/\∃W cap,r=.row (4+W) 0 1 f5.length cap/\vE (f5.mergeSort λ x y=>decide (x<=y)) H W cap):=λ l m o s=>cF.flags (KI l m o s [] ⟨[],0⟩ f5 M ac ac);refine aJ g (Mh ak) ?_;refine ij g (bF _ _ _ _) (λ r D I C h=>?_);obtain⟨H,rfl,rfl,rfl,W,cap,rfl,cells,g1,g2,g3,g4,g5⟩:=h;obtain⟨id,hid,n,F,J,az⟩:=gi (4+W) f5.length (f5.mergeSort λ x y=>decide (x<=y));rw[<-hid,<-F];rw[<-az]at g3 g5;(have bX:J.length=f5.length:=by rw[az,List.length_mergeSort]);obtain⟨k,ae⟩:=aC ((compactUpTo J.toArray J.length).length);(have bs:vo f5=decide (k=n):=by rw[vo,<-az,<-ae,F]);(have aK:cells=(av J).map ah.val++cells.drop J.length:=by rw[<-g5,hB]);(have aI:∀l m o s,([l,m,o,s]++H)[id]?=some (some ((av J).map ah.val++cells.drop J.length)):=λ l m o s=>by rw[<-aK,hid,b1 al];simpa using g1);(have aV:∀l m o s y,([l,m,o,s]++H).set id y=[l,m,o,s]++H.set W y:=λ l m o s y=>by rw[hid,jg _ _ al];simp);(have bl:∀l m o s,cF ⟨Tryz.prog,cW,ym,true,.none⟩ 53 [.row id 0 1 n cap] ([l,m,o,s]++H) [] ⟨[],0⟩ (λ r D I C=>r=.row id 0 1 k cap/\(∃a',D=[l,m,o,s]++a')/\I=[]/\C=⟨[],0⟩):=λ l m o s=>by have h:=Mo (a6:=ym) (rows:=true) (Y:=.none) (tk:=[]) (ao:=⟨[],0⟩) (n:=n) (cap:=cap) (aI l m o s) ac ac ac g4;rw[<-ae]at h;refine⟨h.1,λ B ax w0 G S w vs a b c d=>(h.2 B ax w0 G S w vs a b c d).mono ?_⟩;rintro e b8⟨v,r,D,I,C,bg,bh,⟨bK,⟨bQ,_,_,bM⟩,bO,bP⟩,aF⟩;exact⟨v,r,D,I,C,bg,bh,⟨bK,⟨_,bM.trans (aV _ _ _ _ _)⟩,bO,bP⟩,aF⟩);clear aI aV aK;refine cp (ij g (bl _ _ _ _) (λ r D I C h=>?_));obtain⟨rfl,⟨a',rfl⟩,rfl,rfl⟩:=h;(conv=>cbv);refine dU g aG rfl (λ b7 aS=>cp ?_);split;(·(conv=>cbv);refine⟨_,bJ.refl _ _,?_⟩;exact cp (bad (by rw[i,<-aS];simp)));rw[<-aS,bs]at i;refine aR (λ h=>?_) λ h=>?_;(·have j:=iG g (pc g k) (ap g N) h;refine⟨_,bJ.refl _ _,?_⟩;exact cp (bad (by rw[i,bT ac];simp)));have j:=j1 g (pc g k) (ap g N) h;refine⟨_,bJ.refl _ _,?_⟩;exact cp (bi (by rw[i,bz ac];rfl))
end Go.Abs
namespace Go.Abs
open Go.Lib
def GJ(l:aI):vo l=true↔l.Nodup:=by
 obtain⟨s,k⟩:=aC (l.mergeSort λ x y=>decide (x<=y));have C:s.length=l.length:=by rw[k,List.length_mergeSort]
 have o:List.Pairwise (λ x y=>decide (x<=y)=true) s:=by rw[k];exact List.pairwise_mergeSort (λ a b c n g=>by simp at n g⊢;omega) (λ a b=>by simp;omega) l
 have D:s.Nodup↔l.Nodup:=by rw[k];exact(List.mergeSort_perm l _).nodup_iff
 have j:∀d(h:d<s.length),s.toArray[d]! =s[d]:=λ d h=>by simp[h]
 have w:vo l=true↔∀d,d<s.length->(d=0\/s.toArray[d]!≠s.toArray[d-1]!):=by unfold vo;rw[<-k,decide_eq_true_iff,<-C];unfold compactUpTo;rw[cE];have h:=List.length_filter_eq_length_iff (p:=keeps s.toArray) (l:=List.range s.length);rw[v']at h;rw[h];simp only[h_,keeps,decide_eq_true_iff]
 rw[w,<-D];constructor;·intro h;refine(ug.2 λ t d z f B=>?_:List.Pairwise (· < ·) s).imp (λ F=>by omega);(have n:s[t]<=s[d-1]'ac:=by rcases sg (Nat.le_sub_one_of_lt B)with g|g;(·simpa using ug.1 o t (d-1) z ac g);simp[g]);(have E:s[d-1]'ac<=s[d]:=by simpa using ug.1 o (d-1) d ac f ac);have i:=h d f;rw[j d f,j (d-1) ac]at i;rcases i with i|i;(·omega);omega
 intro h d f;rcases kD d with m|m;·exact .inl m
 refine .inr ?_;rw[j d f,j (d-1) ac];intro e;exact ug.1 h (d-1) d ac f ac e.symm
end Go.Abs
namespace Go.Abs
open Go.RowKit Go.Proofs
def jZ(t:aE)(f:an):List bW:=match t.bU[f.Class.toNat]? with|some k=>kn k.gw f.aM.length f.Cancel|none=>[]
def pW(t:aE)(f:an):List bW:=if hA t f=0 then jZ t f else[]
def wt{t:aE} {f:an}(h:hA t f=0):ea t=true/\kI t f=true:=by unfold hA at h;split at h;(·split at h;(·exact⟨‹_›,‹_›⟩);cases h);cases h
def yF{t:aE} {f:an}(h:hA t f=0):∃k,t.bU[f.Class.toNat]?=some k/\0<=f.Class/\0<=k.gw/\k.gw<=60/\k.gw.tmod 10=0/\1<=k.Weight/\k.Weight<=8/\1<=f.aM.length/\f.aM.length<=4:=by obtain⟨a,c⟩:=wt h;simp only[kI,bP,iT]at c;obtain⟨⟨⟨⟨⟨⟨⟨⟨_,_⟩,d⟩,_⟩,hw⟩,_⟩,_⟩,_⟩,_⟩:=c;simp[hZ]at d hw;have g:f.Class.toNat<t.bU.length:=ac;refine⟨t.bU[f.Class.toNat],aQ g,d.1,?_⟩;simp only[ea,bP,cu,bX]at a;have ae:=(a.2 _ (iA g)).1;generalize t.bU[f.Class.toNat]=k at ae⊢;simp[ji,iN]at ae;refine⟨ac,ac,ac,ac,ac,ac,ac⟩
def N9(t:aE)(f:an):aB 206 [bD t,fG f] (.bf [.aa 4 (nl (pW t f)),ab (hA t f)]):=by
 have d:=H' t f;obtain⟨U,i⟩:=aC (hA t f);by_cases j:U=0;·obtain⟨k,ae,ao,ai,aj,_,_,_,aG,aH⟩:=yF (i▸j);(have G:pW t f=kn k.gw f.aM.length f.Cancel:=by rw[pW,if_pos (i▸j),jZ,ae]);rw[G,<-i,j];rw[<-i,j]at d;refine aY Tryz.func206 (λ A q P Y ar c C=>?_);obtain⟨o,K,cs,F,w,O,m,H⟩:=dq (cA t.bN) (c3 t.c5) (cv t.aM) (bY t.cf);obtain⟨ks,B,n,I⟩:=b_ (cz t.bU) t.aU;(have N:bD t=.agg [ab n,.aa 5 o,.aa 3 cs,.aa 3 w,.aa 1 m,.aa 6 ks]:=by rw[dR t K F O H B,I]);have J:=λ D(ax:D=av f.aM)=>ME t.bU f k ao ae ai aj ac n o cs w m ks D B ax;have W:=λ D=>Nm n o cs w m ks f.b0 f.h3 f.Class f.cD.b4 f.cD.b5 f.Call D f.Cancel;rw[N]at d⊢;(have ap:(kn k.gw f.aM.length f.Cancel).length<=1000:=by rw[Gv];have ah:(k.gw/10+1).toNat<=7:=ac;have az:(k.gw/10+1).toNat*(3*f.aM.length)<=7*(3*4):=py ah ac;split<;>omega);generalize kn k.gw f.aM.length f.Cancel=M at J C ap;obtain⟨f1,f2,f3,f4,f5,⟨f6,f7⟩,f8⟩:=f;obtain⟨E,z⟩:=aC (av f5);rw[fO _ z]at d⊢;have Z:=J E z;have V:=W E;simp only at d Z V⊢;clear J W;refine cp (cZ c d ?_);refine bB (λ h=>b3 c h rfl) ?_;refine cZ c V (cp ?_);refine pO c Z (λ x a=>?_) (λ(L:am)s=>{s with ag:=s.ag.set 2 (some [.own 0 4 L]),tk:=[(A.bp L,44)]}) (λ k L=>L=nl (M.take k)) [] (λ _=>rfl) ?_ ?_ ?_ ?_;(·obtain⟨af,_,rfl⟩:=a_.1 a;rfl);(·subst c;exact aZ.r_ _ _ [] _ 2 0 0 4 [.lit 0 []] [] 44 rfl rfl (.inr rfl));(·rfl);(·intro ay k L x a l ak;rw[bm,ke]at a;obtain⟨af,X,rfl⟩:=a;have aF:k<M.length:=(aD.1 X).1;(have aA:L.length<=1000:=by rw[l];simp[nl];omega);obtain⟨Q,R,S,T⟩:=af;(have aq:A.bn L [fc ⟨Q,R,S,T⟩]=nl (M.take (k+1)):=by subst c l;rw[fX,X];show nl _++_=_;simp[nl]);(have aw:A.j' (A.bp L) (A.bp L):=by subst c;rfl);(have au:A.room (A.bp (A.bn L [fc ⟨Q,R,S,T⟩])) 32:=by subst c;show(L++[_]).length*(32+1)<=140737488355328;rw[bO,e0];omega);(conv=>cbv);refine⟨⟨aw,au⟩,ak (A.bn L [.agg [ab Q,ab R,ab S,.bool T]]) _ (cp ?_) aq⟩;exact cb (ag:=[_,_,_]) (bE:=[_]) (mp:=[]) (bQ:=[]));intro L l;rw[eD al]at l;(conv=>cbv);rw[<-C,l]
 have G:pW t f=[]:=by rw[pW,if_neg (i▸j)]
 rw[G,<-i];rw[<-i]at d;refine fL.le (p:=.bf [.aa 0 [],ab U]) (args':=[bD t,fG f]) ?_ (.cons (.refl _) (.cons (.refl _) .nil)) (.bf _ _ rfl λ ad x y a g=>?_);·refine aY Tryz.func206 (λ A q P Y ar c C=>?_);obtain⟨o,K,cs,F,w,O,m,H⟩:=dq (cA t.bN) (c3 t.c5) (cv t.aM) (bY t.cf);obtain⟨ks,B,n,I⟩:=b_ (cz t.bU) t.aU;(have N:bD t=.agg [ab n,.aa 5 o,.aa 3 cs,.aa 3 w,.aa 1 m,.aa 6 ks]:=by rw[dR t K F O H B,I]);rw[N]at d⊢;obtain⟨f1,f2,f3,f4,f5,⟨f6,f7⟩,f8⟩:=f;obtain⟨E,z⟩:=aC (av f5);rw[fO _ z]at d⊢;simp only at d⊢;(conv=>cbv);refine cZ c d (cp ?_);split;(·exact cp C);rename_i h;exact absurd (db c h) j
 match ad,a,g with|0,a,g=>simp at a g;subst a g;exact .nil _ _|1,a,g=>simp at a g;subst a g;exact .refl _|ad+2,a,g=>simp at a
end Go.Abs
namespace Go.Abs
def PE{t:aE} {f:an}(h:hA t f=0):∃(x:Int)(w0:Way),f.aM[0]?=some x/\0<=x/\x<t.aM.length/\t.aM[x.toNat]?=some w0/\oh t f=w0/\ ∀n:Int,n∈f.aM->0<=n/\n<t.aM.length/\∃v,t.aM[n.toNat]?=some v/\v.b4=w0.b4/\v.b5=w0.b5:=by
 obtain⟨_,i⟩:=wt h;simp only[kI,bP,iT]at i;obtain⟨⟨⟨⟨⟨⟨⟨⟨_,_⟩,_⟩,_⟩,p⟩,l⟩,_⟩,he⟩,_⟩:=i;have s:1<=f.aM.length:=by simp[hZ]at p;omega
 have g:∀n∈f.aM,0<=n/\n<t.aM.length:=λ n c=>by rw[iz]at l;have:=l n c;simp[hZ]at this;omega
 obtain⟨x,d⟩:∃x,f.aM[0]?=some x:=⟨f.aM[0]'ac,aQ ac⟩;have o:=g x (aT d);obtain⟨w0,m⟩:∃w0,t.aM[x.toNat]?=some w0:=⟨t.aM[x.toNat]'ac,aQ ac⟩;have k:oh t f=w0:=by (have:f.aM.headD 0=x:=by cases j:f.aM with|nil=>rw[j]at d;simp at d|cons a r=>rw[j]at d;simpa using d);simp only[oh,this,m];rfl
 refine⟨x,w0,d,o.1,o.2,m,k,λ n c=>⟨(g n c).1,(g n c).2,?_⟩⟩;have w:=g n c;rw[iz]at he;have:=he n c;rw[k]at this;unfold lM at this;rw[aQ ac]at this⊢;simp at this;exact⟨_,rfl,this⟩
open Go.Proofs Go.RowKit
def wS(t:aE)(f:an):Int:=match t.bU[f.Class.toNat]? with|some k=>k.Weight|none=>0
def uP(o:bW):Int:=if o.Cancel then 120 else o.fy+o.eO
def fl(t:aE)(f:an)(o:bW):Int×Int×Int:=if hA t f=0 then if o∈jZ t f then(uP o,uP o*wS t f,0)else(0,0,150)else(0,0,hA t f)
def GK{L:Int} {n:Nat} {c:Bool}(l:0<=L)(j:L<=60){o:bW}(h:o∈kn L n c):0<=o.fy/\o.fy<=60/\0<=o.eO/\o.eO<=10:=by
 unfold kn at h;rcases dH.1 h with h|h;·obtain⟨k,ae,rfl⟩:=a_.1 h;have d:=h_.1 ae;(have f:0<3*n:=by rcases kD n with a|a;(·subst a;simp at d);omega);have g:k/(3*n)<(L/10+1).toNat:=(Nat.div_lt_iff_lt_mul f).2 d;have i:k %3<3:=oO _ ac;simp only[xx];omega
 cases c;·simp at h
 simp at h;subst h;simp
def Ia(t:aE)(f:an)(o:bW):aB 134 [bD t,fG f,fc o] (.bf [ab (fl t f o).1,ab (fl t f o).2.1,ab (fl t f o).2.2]):=by
 have c:=N9 t f;obtain⟨V,m⟩:=aC (hA t f);rw[<-m]at c;by_cases l:V=0;·obtain⟨k,ae,D,al,am,_,ao,W,ay,az⟩:=yF (m▸l);(have x:pW t f=jZ t f:=by rw[pW,if_pos (m▸l)]);(have ad:jZ t f=kn k.gw f.aM.length f.Cancel:=by rw[jZ,ae]);(have ag:wS t f=k.Weight:=by rw[wS,ae]);have H:o∈jZ t f->0<=o.fy/\o.fy<=60/\0<=o.eO/\o.eO<=10:=λ h=>GK al am (ad▸h);have E:=λ xs(au:xs=nl (jZ t f))=>MF o (jZ t f) au;rw[x,l]at c;have X:hA t f=0:=m▸l;(have w:fl t f o=if o∈jZ t f then(uP o,uP o*k.Weight,0)else(0,0,150):=by rw[fl,if_pos X,ag]);rw[w];refine aY Tryz.func134 (λ A q P Y n a i=>?_);have ap:f.Class.toNat<t.bU.length:=(aD.1 ae).1;obtain⟨T,K,cs,F,U,N,Q,I⟩:=dq (cA t.bN) (c3 t.c5) (cv t.aM) (bY t.cf);obtain⟨ks,p,R,J⟩:=b_ (cz t.bU) t.aU;(have L:bD t=.agg [ab R,.aa 5 T,.aa 3 cs,.aa 3 U,.aa 1 Q,.aa 6 ks]:=by rw[dR t K F N I p,J]);rw[L]at c⊢;generalize jZ t f=M at c E H i;clear x ad ag X w;obtain⟨xs,ah⟩:=aC (nl M);rw[<-ah]at c;have Z:=E xs ah;obtain⟨f1,f2,f3,f4,f5,⟨f6,f7⟩,f8⟩:=f;obtain⟨aj,G⟩:=aC (av f5);rw[fO _ G]at c⊢;obtain⟨d,S,g,y⟩:=o;simp only at c Z ae ap D H i⊢;clear E;refine cp (cZ a c ?_);refine bB (λ h=>b3 a h rfl) ?_;refine dU a Z rfl (λ r n=>?_);refine aR (λ h=>?_) λ h=>?_;(·have B:=e1 a h;(have aq:(⟨d,S,g,y⟩:bW)∉M:=by rw[B]at n;exact of_decide_eq_false n.symm);rw[if_neg aq]at i;exact i);have B:=eV a h;(have ai:(⟨d,S,g,y⟩:bW)∈M:=by rw[B]at n;exact fD n.symm);rw[if_pos ai]at i;have aw:=H ai;have C:A.ak d g=d+g:=bv a _ _;clear h;refine⟨a1 a C aW,?_⟩;obtain⟨aA,aF,aG,j,aH,aI⟩:=k;simp only at ao W i;cases y with|true=>have s:A.eh 120 j=120*j:=kS a _ _;(conv=>cbv);refine⟨cK a bb,?_⟩;refine lf a p D ac (λ z v O ar=>?_);obtain rfl:=bC (ae.symm.trans O);(conv=>cbv);refine⟨a1 a s aW,?_⟩;show af.bf [_,ab (A.eh 120 j),_]=_;rw[<-i,s];rfl|false=>(have s:A.eh (A.ak d g) j=(d+g)*j:=by rw[kS a,C]);have hu:(d+g)*j<=70*8:=mD ac W ac ac;have ax:0<=(d+g)*j:=q2 ac ac;(conv=>cbv);refine⟨cK a bb,?_⟩;refine lf a p D ac (λ z v O ar=>?_);obtain rfl:=bC (ae.symm.trans O);(conv=>cbv);refine⟨a1 a s aW,?_⟩;show af.bf [ab (A.ak d g),ab (A.eh (A.ak d g) j),_]=_;rw[<-i,s,C];rfl
 have w:fl t f o=(0,0,V):=by rw[fl,if_neg (m▸l),m]
 have x:pW t f=[]:=by rw[pW,if_neg (m▸l)]
 rw[x]at c;rw[w];refine aY Tryz.func134 (λ A q P Y n a i=>?_);obtain⟨T,K,cs,F,U,N,Q,I⟩:=dq (cA t.bN) (c3 t.c5) (cv t.aM) (bY t.cf);obtain⟨ks,p,R,J⟩:=b_ (cz t.bU) t.aU;have L:bD t=.agg [ab R,.aa 5 T,.aa 3 cs,.aa 3 U,.aa 1 Q,.aa 6 ks]:=by rw[dR t K F N I p,J]
 rw[L]at c⊢;obtain⟨f1,f2,f3,f4,f5,⟨f6,f7⟩,f8⟩:=f;obtain⟨aj,G⟩:=aC (av f5);rw[fO _ G]at c⊢;obtain⟨d,S,g,y⟩:=o;simp only at c⊢;conv=>cbv
 refine cZ a c (cp ?_);split;·exact cp i
 rename_i h;exact absurd (db a h) l
def gx(len a:Int):Int:=(len+a-1).tdiv a
def kL(k:eE)(len hold:Int):dz:=⟨gx len k.h4+hold,gx len k.hK+hold⟩
def nz(k:eE)(hold:Int)(ls:List dT):List dz:=ls.mapIdx λ a x=>kL k x.Length (if a+1=ls.length then hold else 0)
def q7{len a:Int}(n:1<=len)(i:1<=a):1<=gx len a/\gx len a<=len/\len<=gx len a*a/\(gx len a-1)*a<len:=by
 unfold gx;rw[Int.tdiv_eq_ediv_of_nonneg ac];have c:=Int.mul_ediv_add_emod (len+a-1) a;have f:=Int.emod_nonneg (len+a-1) (show a≠0 by omega);have g:=v8 (len+a-1) (show 0<a by omega);generalize d:(len+a-1)/a=q at c⊢;generalize(len+a-1)%a=r at c f g;have l:(q-1)*a=a*q-a:=by rw[Int.sub_mul,Int.mul_comm];omega
 have m:q*a=a*q:=Int.mul_comm _ _;have j:1<=q:=by rw[<-d,Int.le_ediv_iff_mul_le ac];omega
 have k:q<=len:=by rw[<-d];refine Int.lt_add_one_iff.1 (Int.ediv_lt_of_lt_mul ac ?_);(have:(len+1)*a=len*a+a:=by rw[Int.add_mul];omega);have o:len*1<=len*a:=Int.mul_le_mul_of_nonneg_left i ac;omega
 exact⟨j,k,ac,ac⟩
def N_{len a b:Int}(c:1<=len)(d:1<=a)(f:a<=b):gx len b<=gx len a:=by have g:=q7 c d;have i:=q7 c (show 1<=b by omega);rcases Int.lt_or_le (gx len a) (gx len b)with h|h;(·exfalso;have j:gx len a*a<=gx len a*b:=Int.mul_le_mul_of_nonneg_left f ac;have k:gx len a*b<=(gx len b-1)*b:=vZ ac ac;omega);exact h
def rj(k:eE)(hold:Int)(ls:List dT):(nz k hold ls).length=ls.length:=by simp[nz]
def y8{k:eE} {hold:Int} {ls:List dT} {i:Nat} {x:dT}(h:ls[i]?=some x):(nz k hold ls)[i]?=some (kL k x.Length (if i+1=ls.length then hold else 0)):=by unfold nz;rw[pD,h];rfl
def sZ(ls:List dT):Prop:=1<=ls.length/\ls.length<=8/\∀x∈ls,1<=x.Length/\x.Length<=4096
structure oc(k:eE):Prop where
 ok:ji k=true
 s1:1<=k.hK
 s2:k.hK<=k.h4
 Ag:k.h4<=64
def Mi{k:eE}(h:ji k=true):oc k:=by have a:=h;simp[ji,iN]at a;exact⟨h,ac,ac,ac⟩
def yG{k:eE}(ae:oc k){len hold:Int}(d:1<=len)(f:len<=4096)(g:0<=hold)(i:hold<=10):1<=(kL k len hold).cr/\(kL k len hold).cr<=(kL k len hold).cB/\(kL k len hold).cB<=4106:=by have a:=q7 d ae.s1;have b:=q7 d (show 1<=k.h4 by have:=ae.s1;have:=ae.s2;omega);have c:=N_ d ae.s1 ae.s2;unfold kL;simp only;omega
def N'{k:eE}(ae:oc k){hold:Int} {ls:List dT}(l:sZ ls)(g:0<=hold)(i:hold<=10):∀b∈nz k hold ls,1<=b.cr/\b.cr<=b.cB/\b.cB<=4106:=by intro b j;obtain⟨f,a⟩:=e9 j;cases h:ls[f]? with|none=>have:ls.length<=f:=q0.1 h;rw[eL (by rw[rj];exact this)]at a;cases a|some x=>rw[y8 h]at a;obtain rfl:=bC a;obtain⟨c,d⟩:=l.2.2 x (aT h);split;(·exact yG ae c d g i);exact yG ae c d (bk _) ac
def gb(t:aE)(f:an)(o:bW):Int:=if(fl t f o).2.2=0 then if o.Cancel then 160 else 0 else(fl t f o).2.2
def hF(f:an)(o:bW):Int:=(f.aM[o.Way.toNat]?).getD 0
def e3(f:an)(o:bW):dz:=⟨f.cD.b4+o.fy,f.cD.b5-1+o.fy⟩
def fp(t:aE)(f:an)(o:bW):List dz:=match t.bU[f.Class.toNat]?,t.aM[(hF f o).toNat]? with|some k,some w=>nz k o.eO w.cY|_,_=>[]
structure rF(t:aE)(f:an)(o:bW)(k:eE)(w:Way):Prop where
 I8:hA t f=0
 del:(fl t f o).2.2=0
 can:o.Cancel=false
 C4:0<=f.Class
 ae:t.bU[f.Class.toNat]?=some k
 x1:oc k
 d0:0<=o.fy/\o.fy<=60/\o.fy<=k.gw/\o.fy.tmod 10=0
 w0:0<=o.Way/\o.Way<f.aM.length
 hw:f.aM[o.Way.toNat]?=some (hF f o)
 Dc:0<=hF f o/\hF f o<t.aM.length
 mf:t.aM[(hF f o).toNat]?=some w
 vN:sZ w.cY
 tu:0<=o.eO/\o.eO<=10/\o.eO.tmod 5=0
 win:0<=f.cD.b4/\f.cD.b4<f.cD.b5/\f.cD.b5<=1440/\f.cD.b5-f.cD.b4<=16
 Ac:fp t f o=nz k o.eO w.cY
def RC{t:aE}(h:ea t=true){w:Way}(hw:w∈t.aM):sZ w.cY:=by unfold ea at h;simp only[bP,cu]at h;have:=h.1.1.2 w hw;simp only[l4,nx,ei,bP,bX,cu]at this;exact⟨ac,ac,λ x a=>by have:=this.2 x a;omega⟩
def nX{t:aE} {f:an} {o:bW}(h:gb t f o=0):∃k w,rF t f o k w:=by unfold gb at h;split at h;(next n=>split at h;(·cases h);rename_i F;(have m:o.Cancel=false:=by simpa using F);have a:=n;unfold fl at a;split at a;(next d=>split at a;(next K=>obtain⟨k,ae,H,O,Q,_,_,_,R,S⟩:=yF d;have p:=K;rw[jZ,ae]at p;rcases(Gw o).1 p with⟨c,_⟩ | ⟨_,c,s,y,z,B,C,D,E⟩;(·rw[m]at c;cases c);obtain⟨x,w0,T,_,_,_,_,G⟩:=PE d;have J:o.Way.toNat<f.aM.length:=ac;(have hw:f.aM[o.Way.toNat]?=some (hF f o):=by unfold hF;rw[aQ J];rfl);obtain⟨M,N,v,j,_⟩:=G _ (aT hw);obtain⟨g,l⟩:=wt d;(have I:oc k:=by simp only[ea,bP,cu,bX]at g;exact Mi (g.2 k (aT ae)).1);(have L:0<=f.cD.b4/\f.cD.b4<f.cD.b5/\f.cD.b5<=1440/\f.cD.b5-f.cD.b4<=16:=by simp only[kI,bP,iT]at l;obtain⟨⟨⟨⟨⟨⟨⟨⟨_,_⟩,_⟩,_⟩,_⟩,_⟩,hw⟩,_⟩,_⟩:=l;simp at hw;omega);exact⟨k,v,⟨d,n,m,H,ae,I,⟨c,ac,y,s⟩,⟨z,B⟩,hw,⟨M,N⟩,j,RC g (aT j),⟨C,E,D⟩,L,by rw[fp,ae,j]⟩⟩);cases a);rename_i i;exact absurd a i);rename_i i;exact absurd h i
def rF.bounds{t:aE} {f:an} {o:bW} {k:eE} {w:Way}(h:rF t f o k w):(∀b∈fp t f o,1<=b.cr/\b.cr<=b.cB/\b.cB<=4106)/\(fp t f o).length=w.cY.length/\1<=(fp t f o).length/\(fp t f o).length<=8:=by
 have a:=h.Ac;have c:=h.vN;refine⟨λ b d=>N' h.x1 c h.tu.1 h.tu.2.1 b (a▸d),?_,?_,?_⟩;·rw[a,rj]
 ·rw[a,rj];exact c.1
 rw[a,rj];exact c.2.1
def rF.first{t:aE} {f:an} {o:bW} {k:eE} {w:Way}(h:rF t f o k w):0<=(e3 f o).cr/\(e3 f o).cr<=(e3 f o).cB/\(e3 f o).cB<=1499/\(e3 f o).cB-(e3 f o).cr+1=f.cD.b5-f.cD.b4/\oa (e3 f o)<=16:=by have:=h.d0;have:=h.win;unfold oa e3;simp only;omega
def oi(t:aE)(f:an)(o:bW):Nat:=eZ (e3 f o::fp t f o)
def cJ(t:aE)(f:an)(o:bW):Int:=if gb t f o=0 then if oi t f o<=4096 then 0 else 160 else gb t f o
def jV(t:aE)(f:an)(o:bW):Int:=if cJ t f o=0 then oi t f o else 0
def qp(t:aE)(f:an)(o:bW):List aI:=j2 0 (e3 f o::fp t f o)
def bM(t:aE)(f:an)(o:bW):List be:=if cJ t f o=0 then(qp t f o).map λ ts=>⟨hF f o,ts⟩else[]
open Classical in noncomputable def CC(t:aE)(f:an)(o:bW)(p:be):Bool:=decide (gb t f o=0/\p.Way=hF f o/\ki 0 (e3 f o::fp t f o) p.bK)
def oR{t:aE} {f:an} {o:bW}(h:cJ t f o=0):gb t f o=0/\oi t f o<=4096:=by unfold cJ at h;split at h;(next a=>split at h;(·exact⟨a,‹_›⟩);cases h);exact absurd h ‹_›
def zj(t:aE)(f:an)(o:bW):(qp t f o).length=oi t f o:=Cb _ _
def Ex(len a:Int)(i:1<=len/\len<=4096)(j:1<=a/\a<=64):aB 284 [ab len,ab a] (ab (gx len a)):=by
 refine aY Tryz.func284 (λ A q P Y n c k=>?_);have d:A.ak len a=len+a:=bv c _ _;have f:A.bL (A.ak len a) 1=len+a-1:=by rw[gZ c,d]
 have g:A.xY (A.bL (A.ak len a) 1) a=gx len a:=by rw[KY c,f];rfl
 have m:=q7 i.1 j.1;have l:A.nL a:=by subst c;show a≠0;omega
 conv=>cbv
 refine⟨a1 c d aW,a1 c f aW,⟨l,a1 c g aW⟩,?_⟩;rw[<-k,<-g]
def PF(k:eE)(ae:oc k)(len:Int)(g:1<=len/\len<=4096):aB 259 [fN k,ab len] (kJ (kL k len 0)):=by refine aY Tryz.func259 (λ A q P Y l f a=>?_);have c:=Ex len k.h4 g ⟨by have:=ae.s1;have:=ae.s2;omega,ae.Ag⟩;have d:=Ex len k.hK g ⟨ae.s1,by have:=ae.s2;have:=ae.Ag;omega⟩;simp only[kL,kJ,oN]at a;generalize gx len k.h4=t at c a;generalize gx len k.hK=w at d a;obtain⟨m,n,o,p,s,j⟩:=k;simp only[fN]at c d a⊢;obtain⟨cs,i⟩:=aC (fF j);rw[<-i];(conv=>cbv);refine⟨cK f bb,?_⟩;refine aJ f c ?_;refine aJ f d ?_;exact a
def MM(n:Int):aB 257 [ab n] (.bool (decide (1<=n)&&decide (n<=4096))):=by refine aY Tryz.func257 (λ A q P Y d c a=>?_);have h:=AN [n,1,4096] rfl al;(have e:iN [n,1,4096]=(decide (1<=n)&&decide (n<=4096)):=by rw[fE];simp[iN]);rw[e]at h;generalize(decide (1<=n)&&decide (n<=4096))=b at h a;refine aJ c h ?_;exact a
def M8(x:dT):aB 256 [iY x] (.bool (!(decide (1<=x.Length)&&decide (x.Length<=4096)))):=by refine aY Tryz.func256 (λ A q P Y i d a=>?_);obtain⟨k,l,c,g⟩:=x;have h:=MM c;simp only at a;generalize(decide (1<=c)&&decide (c<=4096))=b at h a;simp only[iY];obtain⟨j,f⟩:=aC (cP g);rw[<-f];refine aJ d h ?_;refine Eq.trans ?_ a;show af.bool (A.fi b)=_;subst d;rfl
def Oa(k:eE)(ae:oc k)(o:k.ed.length<=9223372036854775807)(ls:List dT)(g:sZ ls)(hold:Int)(y:0<=hold/\hold<=10){c:am}(m:c=hg ls):aB 210 [fN k,.aa 4 c,ab hold] (ab 0):=by
 refine aY Tryz.func210 (λ A q P Y z a s=>?_);have d:=E3 k o;rw[ae.ok]at d;have p:c.length=ls.length:=by rw[m];simp[hg]
 have i:=AN [A.aH c,1,8,hold,0,10] rfl al;have e:iN [A.aH c,1,8,hold,0,10]=true:=by rw[ap a p];have:=g.1;have:=g.2.1;simp[iN];omega
 rw[e]at i;have j:=D4 (λ x=>!(decide (1<=x.Length)&&decide (x.Length<=4096))) ls m (λ x _=>M8 x);rw[Dw (l:=ls) (λ x t=>by have:=g.2.2 x t;simp[this.1,this.2])]at j;obtain⟨B,C,D,E,F,w⟩:=k;simp only[fN]at d⊢;obtain⟨cs,n⟩:=aC (fF w);rw[<-n]at d⊢;refine aJ a d ?_;refine bB (λ f=>b3 a f rfl) ?_;refine aJ a i ?_;refine bB (λ f=>cx a f) ?_;refine aJ a j ?_;exact s
def PG(k:eE)(ae:oc k)(ls:List dT)(o:sZ ls)(hold:Int)(ar:0<=hold/\hold<=10){l cs:am}(L:l=hg ls)(I:cs=fF k.ed):l3 Tryz.prog 258 [.ptr [.aa 4 l] 0,.ptr [ab k.hK,ab k.h4,ab k.m5,ab k.Weight,ab k.gw,.aa 1 cs] 0,.ptr [ab hold] 0] ((nz k hold ls).map λ b=>[kJ b]):=by
 refine uU (a6:=λ _=>false) (rows:=false) gd Tryz.func258 rfl (cL Tryz.func258) rfl (λ A P Y aq y al av D N a S=>?_);have p:=λ q(h:q=Y.cQ.length\/q=Y.cQ.length+1)=>S q (by rw[D]at h;exact h);have w:l.length=ls.length:=by rw[L];simp[hg]
 have af:Y.cQ.length=ls.length:=by rw[D,cE,rj]
 have au:=o.2.1;have ad:∀(c:Nat)(x:dT),ls[c]?=some x->Y.cQ[c]?=some [kJ (kL k x.Length (if c+1=ls.length then hold else 0))]:=λ c x h=>by rw[D,bm,y8 h];rfl
 have H:=λ(x:dT)(i:x∈ls)=>PF k ae x.Length (o.2.2 x i);have T:=λ(x:dT)(i:x∈ls)=>yG ae (o.2.2 x i).1 (o.2.2 x i).2 (bk 0) ac;have G:∀n h,kJ (kL k n h)=.agg [ab (gx n k.h4+h),ab (gx n k.hK+h)]:=λ n h=>rfl;obtain⟨ah,ai,aw,ax,ay,az⟩:=k;simp only at I G⊢;simp only[fN,<-I]at H;refine cp (b6 a (λ(z:Int×Nat)s=>{s.put (some 10) (.val (ab z.1))with ao:=⟨s.ao.mp,z.2⟩}) (λ z=>z.1=(z.2:Int)/\z.2<=ls.length) (λ z=>(ls.length-z.2)) (0,0) ?_ ?_ ?_);·exact ba
 ·exact⟨rfl,ho _⟩
 rintro an⟨c,g⟩⟨U,V⟩F;simp only at U V;refine aR (λ d=>?_) λ d=>?_;·have J:c<ls.length:=a7 a rfl (ap a w) d;have t:A.ak c 1=c+1:=bv a _ _;have K:A.bS (A.ak c 1):=a1 a t aW;(have B:A.bL (A.aH l) 1=(ls.length:Int)-1:=by rw[gZ a,ap a w]);have X:A.bS (A.bL (A.aH l) 1):=a1 a B aW;refine u9 a L ac J (λ x aA i Z=>?_);have M:=aT i;have j:=H x M;have m:=T x M;have f:=ad c.toNat x i;rw[show c.toNat=g by omega]at f;rw[G]at j f;simp only[kL]at m;obtain⟨aB,aC,R,aD⟩:=x;simp only at j m f Z;generalize gx R ai=O at j m f;generalize gx R ah=Q at j m f;rw[oN,oN]at j;refine aJ a j ?_;refine⟨X,?_⟩;split;(next d=>have W:c=(ls.length:Int)-1:=jp a rfl B d;rw[if_pos ac]at f;have E:A.ak O hold=O+hold:=bv a _ _;have a2:A.ak Q hold=Q+hold:=bv a _ _;rw[<-E,<-a2]at f;(conv=>cbv);refine⟨a1 a E aW,a1 a a2 aW,?_⟩;refine oQ a rfl N f ?_ (λ aj C=>?_);(·refine bB (λ d=>cx a d) ?_;refine⟨K,F (A.ak c 1,g+1) _ ?_ ?_ ?_⟩;(·(conv=>cbv);exact cb (ag:=[]) (bE:=[_,_]) (mp:=[]) (bQ:=[]));(·exact⟨by show A.ak c 1=_;rw[t];omega,by show g+1<=_;omega⟩);show ls.length-(g+1)<ls.length-g;omega);refine de (λ d=>dm a d) ?_;exact p _ (.inr C));rename_i d;have W:c≠(ls.length:Int)-1:=iF a rfl B d;rw[if_neg ac,oN,oN]at f;refine cp (oQ a rfl N f ?_ (λ aj C=>?_));(·refine bB (λ d=>cx a d) ?_;refine⟨K,F (A.ak c 1,g+1) _ ?_ ?_ ?_⟩;(·(conv=>cbv);exact cb (ag:=[]) (bE:=[_,_]) (mp:=[]) (bQ:=[]));(·exact⟨by show A.ak c 1=_;rw[t];omega,by show g+1<=_;omega⟩);show ls.length-(g+1)<ls.length-g;omega);refine de (λ d=>dm a d) ?_;exact p _ (.inr C)
 have J:c=ls.length:=by have:=bc a rfl (ap a w) d;omega
 exact p _ (.inl (by show g=_;rw[af];omega))
def Q8(a c d f g:Int)(cs i:am)(hold:Int):aB 211 [.agg [ab a,ab c,ab d,ab f,ab g,.aa 1 cs],.aa 4 i,ab hold] (.fn 258 [.ptr [.aa 4 i] 0,.ptr [ab a,ab c,ab d,ab f,ab g,.aa 1 cs] 0,.ptr [ab hold] 0]):=by refine aY Tryz.func211 (λ A q P Y l k j=>?_);(conv=>cbv);rw[<-j]
def PH(k:eE)(ae:oc k)(ls:List dT)(i:sZ ls)(hold:Int)(o:0<=hold/\hold<=10){l:am}(y:l=hg ls):aB 137 [fN k,.aa 4 l,ab hold] (.bf [.aa 2 (ew (nz k hold ls)),ab 0]):=by
 refine aY Tryz.func137 (λ A q P Y J a B=>?_);have w:k.ed.length<=9223372036854775807:=by have D:=cS.cell (show cS [.agg _]from J.mem (p:=fN k) al) (c:=.aa 1 (fF k.ed)) al;have:=D.len;simpa[fF]using this
 have t:=Oa k ae w ls i hold o y;obtain⟨cs,g⟩:=aC (fF k.ed);have j:=PG k ae ls i hold o y g;have F:=rj k hold ls;have W:=i.2.1;generalize nz k hold ls=M at j B F;obtain⟨O,Q,R,S,T,X⟩:=k;simp only at g j;simp only[fN,<-g]at t⊢;have H:=Q8 O Q R S T cs l hold;refine aJ a t ?_;refine bB (λ G=>b3 a G rfl) ?_;refine aJ a H ?_;refine pO a j (λ x f=>?_) (λ(L:am)s=>{s with ag:=s.ag.set 1 (some [.own 0 2 L]),tk:=[(A.bp L,97)]}) (λ k L=>L=ew (M.take k)) [] (λ _=>rfl) ?_ ?_ ?_ ?_;·obtain⟨C,_,rfl⟩:=a_.1 f;rfl
 ·subst a;exact aZ.r_ _ _ [] _ 1 0 0 2 [.lit 0 []] [] 97 rfl rfl (.inr rfl)
 ·rfl
 ·intro U k L x f d E;rw[bm,ke]at f;obtain⟨C,z,rfl⟩:=f;have w:k<M.length:=(aD.1 z).1;(have V:L.length<=1000:=by rw[d];simp[ew];omega);obtain⟨m,n⟩:=C;(have I:A.bn L [kJ ⟨m,n⟩]=ew (M.take (k+1)):=by subst a d;rw[fX,z];show ew _++_=_;simp[ew]);(have N:A.j' (A.bp L) (A.bp L):=by subst a;rfl);(have K:A.room (A.bp (A.bn L [kJ ⟨m,n⟩])) 16:=by subst a;show(L++[_]).length*(16+1)<=140737488355328;rw[bO,e0];omega);(conv=>cbv);refine⟨⟨N,K⟩,E (A.bn L [.agg [ab m,ab n]]) _ (cp ?_) I⟩;exact cb (ag:=[_,_]) (bE:=[_]) (mp:=[]) (bQ:=[])
 intro L d;rw[eD al]at d;conv=>cbv
 rw[<-B,d]
def s0(t:aE)(f:an)(o:bW):af:=if gb t f o=0 then .agg [ab (hF f o),ab (e3 f o).cr,ab (e3 f o).cB,.aa 2 (ew (fp t f o))]else .agg [ab 0,ab 0,ab 0,.aa 0 []]
def A7(t:aE)(f:an)(o:bW):aB 68 [bD t,fG f,fc o] (.bf [s0 t f o,ab (gb t f o)]):=by
 have c:=Ia t f o;by_cases g:gb t f o=0;·obtain⟨k,w,h⟩:=nX g;have j:=h.del;have V:=h.can;have W:=h.C4;have F:=h.ae;have ah:=h.d0;have G:=h.w0;have H:=h.hw;have I:=h.Dc;have X:=h.mf;have ag:=h.win;have E:=h.tu;have ai:=(aD.1 F).1;(have C:∀n v,n=hg w.cY->v=fF k.ed->aB 137 [.agg [ab k.hK,ab k.h4,ab k.m5,ab k.Weight,ab k.gw,.aa 1 v],.aa 4 n,ab o.eO] (.bf [.aa 2 (ew (fp t f o)),ab 0]):=λ n v p s=>by have:=PH k h.x1 w.cY h.vN o.eO ⟨E.1,E.2.1⟩ p;rw[h.Ac,s];exact this);rw[j]at c;rw[s0,if_pos g,g];generalize(fl t f o).1=d1 at c;generalize(fl t f o).2.1=d2 at c;generalize hF f o=aG at H I X;simp only[e3];generalize ew (fp t f o)=ar at C;clear h g j;refine aY Tryz.func68 (λ A q P Y al a m=>?_);obtain⟨S,M,cs,J,T,D,Q,K⟩:=dq (cA t.bN) (c3 t.c5) (cv t.aM) (bY t.cf);obtain⟨ks,B,R,L⟩:=b_ (cz t.bU) t.aU;(have N:bD t=.agg [ab R,.aa 5 S,.aa 3 cs,.aa 3 T,.aa 1 Q,.aa 6 ks]:=by rw[dR t M J D K B,L]);rw[N]at c⊢;obtain⟨f1,f2,f3,f4,f5,⟨f6,f7⟩,f8⟩:=f;obtain⟨ad,y⟩:=aC (av f5);rw[fO _ y]at c⊢;obtain⟨i,ap,aq,Z⟩:=o;simp only at c V W F ah G H ag E ai C m⊢;subst V;obtain⟨au,aw,ax,ay,az,aA⟩:=k;obtain⟨aH,aI,aK⟩:=w;simp only at C;have p:A.ak f6 i=f6+i:=bv a _ _;have s:A.bL f7 1=f7-1:=gZ a _ _;(have U:A.ak (A.bL f7 1) i=f7-1+i:=by rw[bv a,s]);refine aJ a c ?_;refine bB (λ l=>b3 a l rfl) ?_;refine dZ a y G.1 G.2 (λ x ao=>?_);obtain rfl:=bC (H.symm.trans ao);(conv=>cbv);refine⟨a1 a p aW,a1 a s aW,a1 a U aW,?_⟩;refine⟨cK a bb,?_⟩;refine lf a B W ac (λ z v O am=>?_);obtain rfl:=bC (F.symm.trans O);refine cp (jO a D I.1 I.2 (λ z n O aj=>?_));obtain rfl:=bC (X.symm.trans O);refine aJ a (C n v aj am) ?_;refine Eq.trans ?_ m;show af.bf [.agg [_,ab (A.ak f6 i),ab (A.ak (A.bL f7 1) i),_],_]=_;rw[p,U]
 rw[s0,if_neg g];have d:gb t f o=if(fl t f o).2.2=0 then if o.Cancel then 160 else 0 else(fl t f o).2.2:=rfl;generalize(fl t f o).1=d1 at c;generalize(fl t f o).2.1=d2 at c;generalize(fl t f o).2.2=d3 at c d;generalize gb t f o=aF at g d;refine aY Tryz.func68 (λ A q P Y al a m=>?_);obtain⟨S,M,cs,J,T,D,Q,K⟩:=dq (cA t.bN) (c3 t.c5) (cv t.aM) (bY t.cf);obtain⟨ks,B,R,L⟩:=b_ (cz t.bU) t.aU;have N:bD t=.agg [ab R,.aa 5 S,.aa 3 cs,.aa 3 T,.aa 1 Q,.aa 6 ks]:=by rw[dR t M J D K B,L]
 rw[N]at c⊢;obtain⟨f1,f2,f3,f4,f5,⟨f6,f7⟩,f8⟩:=f;obtain⟨ad,y⟩:=aC (av f5);rw[fO _ y]at c⊢;obtain⟨i,ap,aq,Z⟩:=o;simp only at c d⊢;refine aJ a c ?_;split;next l=>have j:=b3 a l;rw[if_neg j]at d;(conv=>cbv);rw[<-m,d]
 rename_i l;have j:=db a l;rw[if_pos j]at d;cases Z with|true=>(conv=>cbv);rw[<-m,d];rfl|false=>exact absurd d g
def h':aI->Int| []=>1|x::r=>x*h' r
theorem AF:∀(a b:aI),h' (a++b)=h' a*h' b| [],b=>by simp[h'] |x::a,b=>by rw[nc,h',AF a b,h',Int.mul_assoc]
def BH:∀{l:aI},(∀x∈l,1<=x)->1<=h' l| [],_=>by simp[h'] |x::r,h=>by have a:=h x al;have c:=BH λ y d=>h y (dt x d);rw[h'];have:1*1<=x*h' r:=mD a c ac ac;omega
def PI(l:aI){xs:am}(g:xs=av l)(k:∀x∈l,1<=x/\x<=1000000):aB 212 [.aa 1 xs] (ab (if h' l<=4096 then h' l else 4097)):=by
 refine aY Tryz.func212 (λ A q P Y K c C=>?_);have w:xs.length=l.length:=by rw[g];simp[av]
 have R:l.length<=9223372036854775807:=by have:=(K.mem (p:=.aa 1 xs) al).len;omega
 refine cp (b6 c (λ(z:Int×Int)s=>(s.put (some 8) (.val (ab z.1))).put (some 3) (.val (ab z.2))) (λ z=>0<=z.1/\z.1<=l.length/\z.2=h' (l.take z.1.toNat)/\z.2<=4096) (λ z=>((l.length:Int)-z.1).toNat) (0,1) ?_ ?_ ?_);·exact ba
 ·exact⟨bk _,ac,by simp[h'],ac⟩
 rintro N⟨a,n⟩⟨i,H,f,m⟩F;simp only at i H f m;have J:1<=n:=by rw[f];exact BH λ x g=>(k x (uq g)).1
 refine aR (λ d=>?_) λ d=>?_;·have t:a<l.length:=a7 c rfl (ap c w) d;have j:A.ak a 1=a+1:=bv c _ _;have I:A.bS (A.ak a 1):=a1 c j aW;refine dZ c g i t (λ x D=>?_);have L:=e5 i D;have E:=k x (aT D);have e:A.eh n x=n*x:=kS c _ _;have hu:n*x<=4096*1000000:=mD m E.2 ac ac;have S:1*1<=n*x:=mD J E.1 ac ac;(have B:n*x=h' (l.take (a+1).toNat):=by rw[L,AF,f];simp[h']);(have Q:h' l=n*x*h' (l.drop (a+1).toNat):=by rw[B,<-AF,hB]);have G:1<=h' (l.drop (a+1).toNat):=BH λ y M=>(k y (pB M)).1;(conv=>cbv);refine⟨a1 c e aW,?_⟩;split;(next d=>have o:=a7 c rfl e d;have O:n*x*1<=n*x*h' (l.drop (a+1).toNat):=Int.mul_le_mul_of_nonneg_left G ac;(conv=>cbv);rw[<-C,if_neg ac]);rename_i d;have o:=bc c rfl e d;(conv=>cbv);refine⟨I,F (A.ak a 1,A.eh n x) _ ?_ ?_ ?_⟩;(·exact ba);(·show 0<=A.ak a 1/\A.ak a 1<=l.length/\A.eh n x=h' (l.take (A.ak a 1).toNat)/\A.eh n x<=4096;rw[j,e];exact⟨ac,ac,B,o⟩);show((l.length:Int)-A.ak a 1).toNat<((l.length:Int)-a).toNat;rw[j];omega
 have t:l.length<=a:=bc c rfl (ap c w) d;rw[eD ac]at f;rw[<-C,<-f,if_pos m]
def rG(b:dz):Int:=b.cB-b.cr+1
def Fj:∀{bs:List dz},(∀b∈bs,b.cr<=b.cB)->h' (bs.map rG)=eZ bs| [],_=>rfl|b::r,h=>by have d:=h b al;rw[eS,h',eZ,Fj λ c a=>h c (by simp[a]),Int.natCast_mul];congr 1;unfold rG oa;omega
def J1(eI:Int)(first:dz)(b8:List dz)(j:∀b∈first::b8,-10000<=b.cr/\b.cr<=b.cB/\b.cB<=10000)(S:b8.length<=100){e6:am}(w:e6=ew b8):aB 138 [.agg [ab eI,ab first.cr,ab first.cB,.aa 2 e6]] (ab (if eZ (first::b8)<=4096 then eZ (first::b8)else 4097)):=by
 have i:=λ xs(n:xs=av ((first::b8).map rG))=>PI _ n (λ x n=>by obtain⟨b,D,rfl⟩:=a_.1 n;have:=j b D;unfold rG;omega);rw[Fj (λ b h=>(j b h).2.1)]at i;have H:(if(eZ (first::b8):Int)<=4096 then(eZ (first::b8):Int)else 4097)=(if eZ (first::b8)<=4096 then(eZ (first::b8):Int)else 4097):=by split<;>split<;>omega
 rw[H]at i;generalize(if eZ (first::b8)<=4096 then(eZ (first::b8):Int)else 4097)=r at i⊢;refine aY Tryz.func138 (λ A q P Y T a K=>?_);have y:e6.length=b8.length:=by rw[w];simp[ew]
 have F:=j first al;obtain⟨f1,f2⟩:=first;simp only at F i⊢;have o:A.bL f2 f1=f2-f1:=gZ a _ _;have p:A.ak (A.bL f2 f1) 1=f2-f1+1:=by rw[bv a,o]
 conv=>cbv
 refine⟨a1 a o aW,a1 a p aW,?_⟩;refine b6 a (λ(z:Int×am)s=>{(s.put (some 18) (.val (ab z.1))).put (some 3) (.own 0 1 z.2)with tk:=[(A.bp z.2,3)]}) (λ z=>0<=z.1/\z.1<=b8.length/\z.2=av ((⟨f1,f2⟩::b8.take z.1.toNat).map rG)) (λ z=>((b8.length:Int)-z.1).toNat) (0,[ab (A.ak (A.bL f2 f1) 1)]) ?_ ?_ ?_;·(conv=>cbv);exact vi 3 1 1 _ _ rfl (.inl rfl) (by repeat(first|refine dW ?_|refine eQ ?_|exact eA)) (by subst a;rfl)
 ·refine⟨bk _,ac,?_⟩;show[af.int .i64 (A.ak (A.bL f2 f1) 1)]=_;rw[p];rfl
 rintro Q⟨c,L⟩⟨l,G,g⟩C;simp only at l G g;refine ca (λ k=>?_) λ k=>?_;·have B:c<b8.length:=a7 a rfl (ap a y) k;have m:A.ak c 1=c+1:=bv a _ _;have I:A.bS (A.ak c 1):=a1 a m aW;refine sz a w l B (λ b t=>?_);have N:=e5 l t;have E:=j b (dt _ (aT t));obtain⟨d,f⟩:=b;simp only at E;have g1:A.bL f d=f-d:=gZ a _ _;(have g2:A.ak (A.bL f d) 1=f-d+1:=by rw[bv a,g1]);(have R:L.length<=1000:=by rw[g];simp[av];omega);(have J:A.bn L [ab (A.ak (A.bL f d) 1)]=av ((⟨f1,f2⟩::b8.take (c+1).toNat).map rG):=by rw[N,g2,g];subst a;show av _++_=_;simp[av,b',rG]);(have O:A.j' (A.bp L) (A.bp L):=by subst a;rfl);(have M:A.room (A.bp (A.bn L [ab (A.ak (A.bL f d) 1)])) 8:=by subst a;show(L++[_]).length*(8+1)<=140737488355328;rw[bO,e0];omega);(conv=>cbv);refine⟨a1 a g1 aW,a1 a g2 aW,⟨O,M⟩,I,C (A.ak c 1,A.bn L [ab (A.ak (A.bL f d) 1)]) _ ?_ ?_ ?_⟩;(·(conv=>cbv);exact cb (ag:=[_]) (bE:=[_]) (mp:=[]) (bQ:=[]) (by repeat(first|refine dW ?_|refine eQ ?_|refine np ?_|exact eA)) al al rfl rfl);(·show 0<=A.ak c 1/\A.ak c 1<=b8.length/\_=av ((⟨f1,f2⟩::b8.take (A.ak c 1).toNat).map rG);rw[m];exact⟨ac,ac,J⟩);show((b8.length:Int)-A.ak c 1).toNat<((b8.length:Int)-c).toNat;rw[m];omega
 have B:b8.length<=c:=bc a rfl (ap a y) k;rw[eD ac]at g;refine aJ a (i L g) ?_;exact K
def BI{t:aE} {f:an} {o:bW}(h:gb t f o=0):s0 t f o=.agg [ab (hF f o),ab (e3 f o).cr,ab (e3 f o).cB,.aa 2 (ew (fp t f o))]:=by rw[s0,if_pos h]
def GL{t:aE} {f:an} {o:bW}(h:gb t f o≠0):s0 t f o=.agg [ab 0,ab 0,ab 0,.aa 0 []]:=by rw[s0,if_neg h]
def rF.all{t:aE} {f:an} {o:bW} {k:eE} {w:Way}(h:rF t f o k w):∀b∈e3 f o::fp t f o,-10000<=b.cr/\b.cr<=b.cB/\b.cB<=10000:=by intro b a;rcases cM.1 a with rfl|a;(·have:=h.first;omega);have:=h.bounds.1 b a;omega
def RD(t:aE)(f:an)(o:bW):aB 69 [bD t,fG f,fc o] (.bf [ab (jV t f o),ab (cJ t f o)]):=by
 have a:=A7 t f o;by_cases c:gb t f o=0;·obtain⟨k,w,h⟩:=nX c;have i:=λ s p=>J1 (hF f o) (e3 f o) (fp t f o) h.all (by have:=h.bounds.2.2.2;omega) (e6:=s) p;rw[BI c,c]at a;(have m:cJ t f o=if oi t f o<=4096 then 0 else 160:=by rw[cJ,if_pos c]);have L:jV t f o=if cJ t f o=0 then(oi t f o:Int)else 0:=rfl;rw[L,m];have N:eZ (e3 f o::fp t f o)=oi t f o:=rfl;rw[N]at i;generalize oi t f o=n at i;generalize hF f o=ag at a i;generalize e3 f o=O at a i;generalize fp t f o=Z at a i;obtain⟨ad,ae⟩:=O;obtain⟨s,p⟩:=aC (ew Z);have B:=i s p;rw[<-p]at a;obtain⟨r,l⟩:=aC (if n<=4096 then(n:Int)else 4097:Int);rw[<-l]at B;(have af:(n<=4096/\r=n)\/(4096<n/\r=4097):=by rw[l];split<;>omega);clear l;clear i m L N h c;refine aY Tryz.func69 (λ A q P Y l d j=>?_);obtain⟨J,E,cs,x,K,G,H,C⟩:=dq (cA t.bN) (c3 t.c5) (cv t.aM) (bY t.cf);obtain⟨ks,z,I,D⟩:=b_ (cz t.bU) t.aU;(have F:bD t=.agg [ab I,.aa 5 J,.aa 3 cs,.aa 3 K,.aa 1 H,.aa 6 ks]:=by rw[dR t E x G C z,D]);rw[F]at a⊢;obtain⟨f1,f2,f3,f4,f5,⟨f6,f7⟩,f8⟩:=f;obtain⟨Q,y⟩:=aC (av f5);rw[fO _ y]at a⊢;obtain⟨U,V,W,X⟩:=o;simp only at a B⊢;refine aJ d a ?_;refine bB (λ g=>b3 d g rfl) ?_;refine aJ d B ?_;split;(next g=>have R:=eG d g;(conv=>cbv);rw[<-j,if_neg (show¬n<=4096 by omega)];rfl);rename_i g;have R:=ej d g;have S:n<=4096:=ac;have T:r=n:=ac;rw[if_pos S]at j;(conv=>cbv);rw[<-j,T];rfl
 rw[GL c]at a;have M:cJ t f o=gb t f o:=by rw[cJ,if_neg c]
 have m:jV t f o=0:=by rw[jV,M,if_neg c]
 rw[M,m];generalize gb t f o=e at a c;refine aY Tryz.func69 (λ A q P Y l d j=>?_);obtain⟨J,E,cs,x,K,G,H,C⟩:=dq (cA t.bN) (c3 t.c5) (cv t.aM) (bY t.cf);obtain⟨ks,z,I,D⟩:=b_ (cz t.bU) t.aU;have F:bD t=.agg [ab I,.aa 5 J,.aa 3 cs,.aa 3 K,.aa 1 H,.aa 6 ks]:=by rw[dR t E x G C z,D]
 rw[F]at a⊢;obtain⟨f1,f2,f3,f4,f5,⟨f6,f7⟩,f8⟩:=f;obtain⟨Q,y⟩:=aC (av f5);rw[fO _ y]at a⊢;obtain⟨U,V,W,X⟩:=o;simp only at a⊢;refine aJ d a ?_;refine de (λ g=>c (db d g)) ?_;exact cp j
def Q9{first:dz} {b8:List dz} {ts:aI}:ki 0 (first::b8) ts↔ts.length=b8.length+1/\(∀x,ts[0]?=some x->first.cr<=x/\x<=first.cB)/\∀(i:Nat)(b:dz)(x y:Int),b8[i]?=some b->ts[i]?=some x->ts[i+1]?=some y->x+b.cr<=y/\y<=x+b.cB:=by rw[Bg];constructor;(·rintro⟨d,c⟩;refine⟨d,λ x g=>by have:=c 0 first x 0 rfl g rfl;omega,λ i b x y a g m=>c (i+1) b y x (by simpa using a) m (by simpa using g)⟩);rintro⟨d,c,l⟩;refine⟨d,λ k b t p a j f=>?_⟩;cases k with|zero=>simp at a f;subst a f;have:=c t j;omega|succ k=>exact l k b p t (by simpa using a) (by simpa using f) j
open Classical in theorem GM{t:aE} {f:an} {o:bW} {p:be}(h:gb t f o=0):CC t f o p=true↔p.Way=hF f o/\ki 0 (e3 f o::fp t f o) p.bK:=by unfold CC;rw[decide_eq_true_iff];exact⟨λ x=>x.2,λ x=>⟨h,x⟩⟩
end Go.Abs
