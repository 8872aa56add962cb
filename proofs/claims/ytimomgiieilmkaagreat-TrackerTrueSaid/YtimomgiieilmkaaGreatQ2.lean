/- Contracts of the functions: part 2. -/
import Derived.Maps.RangeRun
import Derived.Maps.Keyed
import Derived.Test.YtimomgiieilmkaaGreatQ1
set_option linter.all false
namespace Go.Abs
open Go.RowKit
section
variable{E:Env} {S:Tv->Prop} {w:Ts}
def Ge{p:af} {v:Tq}(h:aq S w p v)(a:p.g'=true):v=p.gF:=by cases h<;>simp_all[af.g',af.gF]
def aq.z_{p:af} {v:Tq}(h:aq S w p v)(c:p.flat=true):v=p.cH:=by cases p with|agg cs=>obtain⟨vs,rfl,g,f⟩:=aq.qy h;(have:vs=cs.map af.gF:=by apply gz;intro d;rcases eM d cs.length with a|a;(·rw[bm,aQ a,aQ ac];have:=f d _ _ (aQ a) (aQ ac);rw[Ge this (cu.1 c _ (iA a))];rfl);rw[eL ac,eL (by simpa using a)]);rw[this];rfl|_=>exact Ge h c
def aq.Jl{p:af}(c:p.g'=true)(ae:sS S w p):aq S w p p.gF:=by
 cases p<;>simp[af.g']at c;·exact .int _ _
 ·exact .bool _
 ·exact .str _
 next a cs=>cases cs with|nil=>exact aq.bI a [] (λ _=>undef) ae.1 ae.2 al al|cons _ _=>simp at c
 exact .ch
def aq.x0{p:af} {v:Tq}(h:aq S w p v):jX S w p:=by (have one:∀{p:af} {v:Tq},aq S w p v->sS S w p:=λ{p v}h=>by cases p<;>first|exact trivial| (cases h;exact⟨‹_›,‹_›⟩));intro c a;cases p with|agg cs=>obtain⟨vs,rfl,i,g⟩:=aq.qy h;obtain⟨f,d⟩:=e9 a;have j:f<cs.length:=(aD.1 d).1;exact one (g f c _ d (aQ ac)) |_=>rw[dG.1 a];exact one h
def bh.of_flat{cs:am}(f:cs.all af.g'=true)(ae:∀c∈cs,sS S w c):bh S w cs (cs.map af.gF):=⟨al,λ g p v a d=>by rw[bm,a]at d;simp only[du,cg]at d;subst d;exact aq.Jl (cu.1 f _ (aT a)) (ae _ (aT a))⟩
def aq.Jm{p:af}(a:p.flat=true)(ae:jX S w p):aq S w p p.cH:=by cases p with|agg cs=>exact aq.agg cs _ al (bh.of_flat a ae).2|_=>exact aq.Jl a (ae _ (dG.2 rfl))
def Ft{p:af}(a:p.flat=true):p.cells.all af.g'=true:=by cases p<;>simp_all[af.flat,af.cells]
def Hm{a b:af}(c:a.g'=true):j0 a b=true↔a=b:=by cases a with|bI x cs=>(cases cs with|nil=>(cases b with|bI y d=>cases d<;>simp[j0] |_=>simp[j0]) |cons _ _=>simp[af.g']at c)|_=>first| (simp[af.g']at c;done) | (cases b<;>simp[j0])
theorem Hn:∀{a b:am},a.all af.g'=true->(qt a b=true↔a=b) | [],[],_=>by simp[qt] | [],_::_,_=>by simp[qt] |_::_,[],_=>by simp[qt] |x::a,y::b,h=>by simp only[m',bP]at h;simp[qt,Hm h.1,Hn h.2]
def lk{a b:af}(c:a.flat=true):cq a b=true↔a=b:=by cases a with|agg cs=>cases b<;>simp[cq,j0,Hn (show cs.all af.g'=true from c)] |_=>cases b<;>first| (simp[af.flat,af.g']at c;done) | (simp[cq,Hm c];done) | (simp[cq,j0])
def sF{a:af}(c:a.flat=true):cq a a=true:=(lk c).2 rfl
def Fu{a b:af}(d:a.g'=true)(f:b.g'=true)(h:a.gF=b.gF):a=b:=by cases a with|bI x cs=>(cases cs with|nil=>(cases b with|bI y c=>cases c<;>simp_all[af.g',af.gF] |_=>first| (simp[af.g']at f;done) |simp_all[af.g',af.gF]) |cons _ _=>simp[af.g']at d)|_=>first| (simp[af.g']at d;done) | (cases b with|bI y c=>cases c<;>simp_all[af.g',af.gF] |_=>first| (simp[af.g']at f;done) |simp_all[af.g',af.gF])
def rf{a b:af}(k:a.flat=true)(g:b.flat=true)(h:a.cH=b.cH):a=b:=by cases a with|agg cs=>(cases b with|agg f=>simp only[af.cH,Value.agg.injEq]at h;(have l:cs.map af.gF=f.map af.gF:=by simpa using h);(have:cs=f:=by apply gz;intro j;have c:=congrArg (·[j]?) l;simp only[bm]at c;cases i:cs[j]? with|none=>(cases d:f[j]? with|none=>rfl|some y=>rw[i,d]at c;cases c)|some x=>cases d:f[j]? with|none=>rw[i,d]at c;cases c|some y=>rw[i,d]at c;simp only[du,cg]at c;rw[Fu (cu.1 k _ (aT i)) (cu.1 g _ (aT d)) c]);rw[this] |_=>simp[af.cH,af.gF]at h<;>simp[af.flat,af.g']at g)|_=>first| (simp[af.flat,af.g']at k;done) | (cases b<;>first| (simp[af.flat,af.g']at g;done) | (simp[af.cH,af.gF]at h;done) |exact Fu k g h)
def Gf(c:co E){k:Tr} {ks:Tp fm}(h:iE E k=some ks):∃n,n<9999/\iZ E.P n k=some ks:=by
 have ae:=(c.dp k).k;unfold iE at h;split at h;next q a=>rw[a]at ae;cases h;exact⟨1,ac,by simp only[iZ,show E.P.underlying k=some (.int q)from ae]⟩
 next a=>rw[a]at ae;cases h;exact⟨1,ac,by simp only[iZ,show E.P.underlying k=some .bool from ae]⟩
 next a=>rw[a]at ae;cases h;exact⟨1,ac,by simp only[iZ,show E.P.underlying k=some .string from ae]⟩
 ·obtain⟨d,f,g,_⟩:=(c.dp k).eq ks h;exact⟨d,f,g⟩
 ·obtain⟨d,f,g,_⟩:=(c.dp k).eq ks h;exact⟨d,f,g⟩
 next e a=>rw[a]at ae;split at h;(·cases h);rename_i j;cases h;obtain⟨p,z,u,l,o,_⟩:=(c.dp e).info (.inl j);(have m:¬E.P.cellsOf e=0:=by intro i;simp only[Program.cellsOf,l]at i;exact j (by rw[<-o];simpa using i));exact⟨1,ac,by simp only[iZ,show E.P.underlying k=some (.pointer e)from ae,if_neg m]⟩
 cases h
def A2(d:co E){k:Tr} {ks:Tp fm}(h:iE E k=some ks){p:af}(a:p.isAgg=iX E k):kl E.P k (p.cells.map af.gF)=p.cH:=by
 have ae:=(d.dp k).k;have one:∀u,E.P.underlying k=some u->jh u=false->p.isAgg=false->kl E.P k (p.cells.map af.gF)=p.cH:=λ u hu f g=>by rw[oS hu f];cases p<;>first|rfl| (simp[af.isAgg]at g;done)
 unfold iE at h;unfold iX at a;split at h;next q c=>rw[c]at ae a;exact one _ ae rfl a
 next c=>rw[c]at ae a;exact one _ ae rfl a
 next c=>rw[c]at ae a;exact one _ ae rfl a
 next i c=>rw[c]at ae a;obtain⟨F,hu,_⟩:=ae;rw[wh hu];cases p with|agg cs=>rfl|_=>simp[af.isAgg]at a
 next n e c=>rw[c]at ae a;rw[pN ae rfl];cases p with|agg cs=>rfl|_=>simp[af.isAgg]at a
 next e c=>rw[c]at ae a;exact one _ ae rfl a
 cases h
def MO(c:co E){k:Tr} {ks:Tp fm}(h:iE E k=some ks){a b:af} {r:Bool}(g:a.flat=true)(i:b.flat=true)(d:a.isAgg=iX E k)(f:b.isAgg=iX E k)(he:eP ks a.cells b.cells=some r)(l:jX S w a)(m:jX S w b):(Op.equal k a.cH b.cH).run E.P w=.ok r w:=by obtain⟨n,o,j⟩:=Gf c h;rw[<-A2 c h d,<-A2 c h f];exact wg (S:=S) n 10000 ac k ks _ _ _ _ r j (bh.of_flat (Ft g) l) (bh.of_flat (Ft i) m) he
structure sW(es:List (af×af))(l:List MapEntry):Prop where
 len:es.length=l.length
 key:∀(i:Nat)(p:af×af)(x:MapEntry),es[i]?=some p->l[i]?=some x->p.1.flat=true/\x.key=p.1.cH
def sW.tail{p:af×af} {x:MapEntry} {es:ce} {l:Tp MapEntry}(h:sW (p::es) (x::l)):(p.1.flat=true/\x.key=p.1.cH)/\sW es l:=⟨h.key 0 p x rfl rfl,⟨by have:=h.len;simpa using this,λ c p x a b=>h.key (c+1) p x (by simpa using a) (by simpa using b)⟩⟩
def Ei{k:Tr} {j:Tq} {key:af}:∀(l:Tp MapEntry)(es:ce)(i:Nat),sW es l->(∀p∈es,(Op.equal k j p.1.cH).run E.P w=.ok (cq key p.1) w)->((∀p∈es,cq key p.1=false)/\(Instr.findAsking k j l i).run E.P w=.ok none w)\/ ∃f p x,es[f]?=some p/\l[f]?=some x/\cq key p.1=true/\(Instr.findAsking k j l i).run E.P w=.ok (some (i+f,x.val)) w| [],[],i,_,_=>.inl ⟨al,by simp[Instr.findAsking]⟩ | [],_::_,_,h,_=>by have:=h.len;simp at this|_::_,[],_,h,_=>by have:=h.len;simp at this|x::l,p::es,i,h,o=>by obtain⟨⟨z,n⟩,t⟩:=h.tail;have m:=o p al;cases ae:cq key p.1 with|true=>exact .inr ⟨0,p,x,rfl,rfl,ae,by rw[ae]at m;simp[Instr.findAsking,n,m,Result.andThen]⟩ |false=>rw[ae]at m;(have s:(Instr.findAsking k j (x::l) i).run E.P w=(Instr.findAsking k j l (i+1)).run E.P w:=by simp[Instr.findAsking,n,m,Result.andThen]);rcases Ei l es (i+1) t (λ q g=>o q (by simp[g]))with⟨a,b⟩ | ⟨f,q,y,a,b,c,d⟩;(·exact .inl ⟨λ q g=>by rcases cM.1 g with rfl|g;exact ae;exact a q g,by rw[s];exact b⟩);exact .inr ⟨f+1,q,y,by simpa using a,by simpa using b,c,by rw[s,d,pE,ld 1 f]⟩
def Es{kind:TypeDesc} {k:Tq} {key:af}:∀(l:Tp MapEntry)(es:ce)(i:Nat),sW es l->(∀p∈es,Instr.sameNow kind k p.1.cH=some (cq key p.1))->((∀p∈es,cq key p.1=false)/\Instr.findNow kind k l i=some none)\/∃f p x,es[f]?=some p/\l[f]?=some x/\cq key p.1=true/\Instr.findNow kind k l i=some (some (i+f,x.val)) | [],[],i,_,_=>.inl ⟨al,rfl⟩ | [],_::_,_,h,_=>by have:=h.len;simp at this|_::_,[],_,h,_=>by have:=h.len;simp at this|x::l,p::es,i,h,m=>by obtain⟨⟨t,o⟩,s⟩:=h.tail;have g:=m p al;rw[<-o]at g;cases ae:cq key p.1 with|true=>rw[ae]at g;exact .inr ⟨0,p,x,rfl,rfl,ae,by simp[Instr.findNow,g]⟩ |false=>rw[ae]at g;(have n:Instr.findNow kind k (x::l) i=Instr.findNow kind k l (i+1):=by simp[Instr.findNow,g]);rcases Es l es (i+1) s (λ q j=>m q (by simp[j]))with⟨a,b⟩ | ⟨f,q,y,a,b,c,d⟩;(·exact .inl ⟨λ q j=>by rcases cM.1 j with rfl|j;exact ae;exact a q j,by rw[n];exact b⟩);exact .inr ⟨f+1,q,y,by simpa using a,by simpa using b,c,by rw[n,d,pE,ld 1 f]⟩
def wm(K:co E){k:Tr} {ks:Tp fm}(h:iE E k=some ks){key:af} {es:ce} {l:Tp MapEntry}(B:sW es l)(R:gk (iX E k) ks es key)(N:jX S w key)(M:∀p∈es,jX S w p.1):((∀p∈es,cq key p.1=false)/\(Instr.findKey k key.cH l).run E.P w=.ok none w)\/ ∃g p x,es[g]?=some p/\l[g]?=some x/\cq key p.1=true/\(Instr.findKey k key.cH l).run E.P w=.ok (some (g,x.val)) w:=by
 obtain⟨⟨Q,_⟩,z,t⟩:=R;have I:∀p∈es,p.1.flat=true:=λ p f=>by obtain⟨s,L⟩:=e9 f;(have:s<l.length:=by rw[<-B.len];exact(aD.1 L).1);exact(B.key s p _ L (aQ this)).1
 have O:∀p∈es,(Op.equal k key.cH p.1.cH).run E.P w=.ok (cq key p.1) w:=λ p f=>MO K h Q (I p f) z (t p f).1 (t p f).2 N (M p f);have J:=Ei (E:=E) (w:=w) (key:=key) l es 0 B O;have ae:=(K.dp k).k;have basic:∀u,E.P.underlying k=some u->(∀p∈es,Instr.sameNow u key.cH p.1.cH=some (cq key p.1))->((∀p∈es,cq key p.1=false)/\(Instr.findKey k key.cH l).run E.P w=.ok none w)\/ ∃g p x,es[g]?=some p/\l[g]?=some x/\cq key p.1=true/\(Instr.findKey k key.cH l).run E.P w=.ok (some (g,x.val)) w:=λ u hu T=>by rcases Es l es 0 B T with⟨a,b⟩ | ⟨g,p,x,a,b,c,d⟩;(·exact .inl ⟨a,by simp[Instr.findKey,run_underlying hu,b]⟩);rw[hn]at d;exact .inr ⟨g,p,x,a,b,c,by simp[Instr.findKey,run_underlying hu,d]⟩
 unfold iE at h;unfold iX at z t;split at h;next q j=>rw[j]at ae;cases h;refine basic _ ae λ p f=>?_;have i:=(t p f).2;have H:=I p f;have o:=(t p f).1;rw[j]at z o;generalize p.1=b at i H o;obtain⟨_,_,C,D,m⟩:=sr i;cases key<;>simp[af.isAgg]at z<;>cases b<;>simp[af.isAgg]at o<;>cases C<;>cases D<;>simp[ic]at m;obtain⟨rfl,m⟩:=m;simp[af.cH,af.gF,Instr.sameNow,cq,j0];rw[fE];simp
 next j=>rw[j]at ae;cases h;refine basic _ ae λ p f=>?_;have i:=(t p f).2;have H:=I p f;have o:=(t p f).1;rw[j]at z o;generalize p.1=b at i H o;obtain⟨_,_,C,D,m⟩:=sr i;cases key<;>simp[af.isAgg]at z<;>cases b<;>simp[af.isAgg]at o<;>cases C<;>cases D<;>simp[ic]at m;simp[af.cH,af.gF,Instr.sameNow,cq,j0];rw[fE];simp
 next j=>rw[j]at ae;cases h;refine basic _ ae λ p f=>?_;have i:=(t p f).2;have H:=I p f;have o:=(t p f).1;rw[j]at z o;generalize p.1=b at i H o;obtain⟨_,_,C,D,m⟩:=sr i;cases key<;>simp[af.isAgg]at z<;>cases b<;>simp[af.isAgg]at o<;>cases C<;>cases D<;>simp[ic]at m;simp[af.cH,af.gF,Instr.sameNow,cq,j0];rw[<-xf,beq_toListBytes]
 next U j=>rw[j]at ae;obtain⟨F,hu,_⟩:=ae;(have G:∀s,Instr.findNow (.struct F) key.cH l s=match l with| []=>some none|_=>none:=λ s=>by cases l with|nil=>rfl|cons x l=>simp[Instr.findNow,Instr.sameNow]);cases l with|nil=>(cases es with|nil=>exact .inl ⟨al,by simp[Instr.findKey,run_underlying hu,Instr.findNow]⟩ |cons p es=>have:=B.len;simp at this)|cons x l=>(have i:(Instr.findKey k key.cH (x::l)).run E.P w=(Instr.findAsking k key.cH (x::l)).run E.P w:=by simp[Instr.findKey,run_underlying hu,G 0]);rw[i];rcases J with m| ⟨g,p,y,a,b,c,d⟩;(·exact .inl m);rw[hn]at d;exact .inr ⟨g,p,y,a,b,c,d⟩
 next n e j=>rw[j]at ae;have hu:E.P.underlying k=some (.array n e):=ae;(have G:∀s,Instr.findNow (.array n e) key.cH l s=match l with| []=>some none|_=>none:=λ s=>by cases l with|nil=>rfl|cons x l=>simp[Instr.findNow,Instr.sameNow]);cases l with|nil=>(cases es with|nil=>exact .inl ⟨al,by simp[Instr.findKey,run_underlying hu,Instr.findNow]⟩ |cons p es=>have:=B.len;simp at this)|cons x l=>(have i:(Instr.findKey k key.cH (x::l)).run E.P w=(Instr.findAsking k key.cH (x::l)).run E.P w:=by simp[Instr.findKey,run_underlying hu,G 0]);rw[i];rcases J with m| ⟨g,p,y,a,b,c,d⟩;(·exact .inl m);rw[hn]at d;exact .inr ⟨g,p,y,a,b,c,d⟩
 next e j=>rw[j]at ae;have hu:E.P.underlying k=some (.pointer e):=ae;(have G:∀s,Instr.findNow (.pointer e) key.cH l s=match l with| []=>some none|_=>none:=λ s=>by cases l with|nil=>rfl|cons x l=>simp[Instr.findNow,Instr.sameNow]);cases l with|nil=>(cases es with|nil=>exact .inl ⟨al,by simp[Instr.findKey,run_underlying hu,Instr.findNow]⟩ |cons p es=>have:=B.len;simp at this)|cons x l=>(have i:(Instr.findKey k key.cH (x::l)).run E.P w=(Instr.findAsking k key.cH (x::l)).run E.P w:=by simp[Instr.findKey,run_underlying hu,G 0]);rw[i];rcases J with m| ⟨g,p,y,a,b,c,d⟩;(·exact .inl m);rw[hn]at d;exact .inr ⟨g,p,y,a,b,c,d⟩
 cases h
theorem BU{α:Type} {P:Program}:∀(l:Tp α)(f:α->PUnit->Sem (ForInStep PUnit)),(∀a∈l,(f a PUnit.unit).run P w=.ok (.yield PUnit.unit) w)->(forIn l PUnit.unit f).run P w=.ok PUnit.unit w| [],f,_=>by simp|a::l,f,h=>by simp only[List.forIn_cons,Sem.run_bind,h a al,Result.andThen_ok];exact BU l f λ b c=>h b (by simp[c])
def Ej{P:Program} {F:Tr->Tt (Tp fm)}:∀(j:Tp Field)(off:Nat)(ks:Tp fm),pR P F off j=some ks-> ∀f∈j,f.name≠"_"/\∃i,F f.type=some i/\i.length=P.cellsOf f.type/\f.offset+i.length<=off+ks.length| [],_,_,_,f,l=>by cases l|g::j,off,ks,h,f,l=>by simp only[pR]at h;split at h;(next n=>split at h;(·cases h);rename_i i o;split at h;(next p=>cases m:pR P F (off+i.length) j with|none=>simp[m]at h|some s=>simp[m]at h;subst h;rcases cM.1 l with rfl|l;(·exact⟨n.1,i,o,p.1,by rw[n.2,bO];omega⟩);obtain⟨a,k,b,c,d⟩:=Ej j (off+i.length) s m f l;exact⟨a,k,b,c,by rw[bO];omega⟩);cases h);cases h
def Av(em:Bool):∀(n d:Nat),n<=d->∀(t:Tr)(ks:Tp fm)(vs:Tp Tq),iZ E.P n t=some ks->vs.length=ks.length->(Instr.checkKey em d t (kl E.P t vs)).run E.P w=.ok () w|0,_,_,_,_,_,h,_=>by cases h|n+1,0,z,_,_,_,_,_=>by omega|n+1,d+1,z,t,ks,vs,h,F=>by simp only[iZ]at h;split at h;(next hu=>simp[Instr.checkKey,run_underlying hu]);(next hu=>simp[Instr.checkKey,run_underlying hu]);(next hu=>simp[Instr.checkKey,run_underlying hu]);(next e hu=>simp[Instr.checkKey,run_underlying hu]);(next x hu=>split at h;(·cases h);rw[wh hu];have H:=Ej x.toList 0 ks h;simp only[Instr.checkKey,Sem.run_bind,run_underlying hu,Result.andThen_ok];rw[<-Array.forIn_toList];rw[BU x.toList];(·rfl);intro f B;obtain⟨a,s,b,c,e⟩:=H f B;have l:f.offset+s.length<=vs.length:=ac;have o:=uS (E:=E) (w:=w) ⟨n,b⟩ c vs f.offset l;have k:=Av em n d ac f.type s ((vs.drop f.offset).take s.length) b c0;simp[a,o,k,Result.andThen]);(next m e hu=>split at h;(·cases h);rename_i g i;split at h;(next k=>cases h;(obtain⟨u,J⟩:∃u,E.P.underlying e=some u:=by cases n with|zero=>cases i|succ n=>simp only[iZ]at i;cases p:E.P.underlying e with|none=>rw[p]at i;cases i|some u=>exact⟨u,rfl⟩);obtain⟨K,y⟩:=yu J;(have I:K.size=g.length:=by rw[k.2.1];simp[Program.cellsOf,y]);rw[pN hu rfl];simp only[Instr.checkKey,Sem.run_bind,run_underlying hu,Result.andThen_ok];rw[Std.Legacy.Range.forIn_eq_forIn_range'];rw[BU];(·rfl);intro j C;(have D:j<m:=by have:=List.mem_range'.1 C;simp[Std.Legacy.Range.size]at this;omega);have G:(List.replicate m g).flatten.length=m*g.length:=al;(have l:j*g.length+g.length<=vs.length:=by rw[F,G];have:=iV g.length (show j+1<=m from D);rw[kG,Nat.one_mul]at this;exact this);have o:=uS (E:=E) (w:=w) ⟨n,i⟩ k.2.1 vs (j*g.length) l;have p:=Av em n d ac e g ((vs.drop (j*g.length)).take g.length) i c0;simp[iM y,I,o,p,Result.andThen]);cases h);cases h
def wi(a:co E){k:Tr} {ks:Tp fm}(h:iE E k=some ks){key:af}(c:key.isAgg=iX E k)(f:key.cells.length=ks.length)(em:Bool):(Instr.checkKey em 10000 k key.cH).run E.P w=.ok () w:=by obtain⟨n,g,d⟩:=Gf a h;rw[<-A2 a h c];exact Av em n 10000 ac k ks _ d (by simpa using f)
def Ek{p:af}(h:p.g'=true)(n:Nat):Instr.sameBits n p.gF p.gF=true:=by (have a:∀s:Tw,(s==s)=true:=λ s=>by (have:(s==s)=decide (s=s):=by rw[<-xf,beq_toListBytes]);rw[this];simp);cases p<;>simp[af.g']at h<;>cases n<;>simp[af.gF,Instr.sameBits,a]
def Mr{p:af}(h:p.flat=true)(n:Nat):Instr.sameBits (n+1) p.cH p.cH=true:=by
 by_cases c:p.isAgg=true;·cases p with|agg cs=>(simp only[af.cH,Instr.sameBits,beq_self_eq_true,eT,cu];intro x i;obtain⟨j,d⟩:=e9 i;rw[qY]at d;obtain⟨a,b⟩:=d;rw[a]at b;cases x with|mk x y=>simp only[cg]at a b;subst b;(have:x∈cs.map af.gF:=by simpa using aT a);obtain⟨p,g,rfl⟩:=a_.1 this;exact Ek (cu.1 h p g) n)|_=>simp[af.isAgg]at c
 have e:p.cH=p.gF:=by cases p<;>first|rfl| (simp[af.isAgg]at c;done)
 have f:p.g'=true:=by cases p<;>first|exact h| (simp[af.isAgg]at c;done)
 rw[e];exact Ek f (n+1)
def EJ{p:af}(h:p.flat=true):(Instr.keyThatStays p.cH p.cH).run E.P w=.ok p.cH w:=by simp[Instr.keyThatStays,Mr h 9999]
def kY(es:ce):Prop:=(es.map (·.1)).Nodup
def N1{es:ce}(h:kY es){p q:af×af}(g:p∈es)(i:q∈es)(e:p.1=q.1):p=q:=by induction es with|nil=>cases g|cons a r j=>(have f:a.1∉r.map (·.1)/\kY r:=by have:(a.1::r.map (·.1)).Nodup:=h;exact lc.1 this);rcases cM.1 g with d|d;(·rcases cM.1 i with c|c;(·rw[d,c]);exact absurd (a_.2 ⟨q,c,by rw[<-e,d]⟩) f.1);rcases cM.1 i with c|c;(·exact absurd (a_.2 ⟨p,d,by rw[e,c]⟩) f.1);exact j f.2 d c
def pS{es:ce}(f:kY es){k:af}(ae:k.flat=true){v:af}:dK es k=some v↔(k,v)∈es:=by unfold dK;constructor;(·intro h;obtain⟨p,d,rfl⟩:=ke.1 h;have a:=List.find?_some d;rw[lk ae]at a;rw[a];exact List.mem_of_find?_eq_some d);intro h;cases c:es.find? (λ p=>cq k p.1)with|none=>have:=ut.1 c (k,v) h;simp[sF ae]at this|some p=>have a:=List.find?_some c;rw[lk ae]at a;have:=N1 f (List.mem_of_find?_eq_some c) h a.symm;rw[this];rfl
def Fv{es a:ce}(d:a.Perm es)(c:kY es){k:af}(ae:k.flat=true):dK a k=dK es k:=by have f:kY a:=(d.map _).nodup_iff.2 c;apply Option.ext;intro v;rw[pS f ae,pS c ae];exact d.mem_iff
def Qj{es a:ce}(c:a.Perm es)(k:af):gQ a k=gQ es k:=by unfold gQ;rw[fE,c1,c1];exact⟨λ⟨x,h,e⟩=>⟨x,c.mem_iff.1 h,e⟩,λ⟨x,h,e⟩=>⟨x,c.mem_iff.2 h,e⟩⟩
def Qk{es c:ce}(a:c.Perm es)(k v:af):(gp c k v).Perm (gp es k v):=by unfold gp;rw[Qj a];split;(·exact a.map _);exact a.append_right _
def GW{es a:ce}(c:a.Perm es)(k:af):(ph a k).Perm (ph es k):=c.filter _
def Ho{es:ce}(m:kY es){k v:af}(ae:k.flat=true){j:Nat} {p:af×af}(a:es[j]?=some p)(he:cq k p.1=true):gp es k v=es.set j (p.1,v):=by have i:gQ es k=true:=c1.2 ⟨p,aT a,he⟩;unfold gp;rw[if_pos i];apply gz;intro d;rw[bm,gV];split;(next e=>subst e;have l:=(aD.1 a).1;rw[a];simp[he,l]);rename_i e;cases o:es[d]? with|none=>rfl|some q=>(have n:cq k q.1≠true:=λ c=>by rw[lk ae]at c he;(have f:(es.map (·.1))[j]?=some p.1:=by rw[bm,a];rfl);(have g:(es.map (·.1))[d]?=some q.1:=by rw[bm,o];rfl);exact e ((uv (by have:=(aD.1 a).1;simpa using this) m).1 (f.trans (by rw[g,<-c,<-he]))));simp[n]
def w3{es:ce} {k v:af}(h:∀p∈es,cq k p.1=false):gp es k v=es++[(k,v)]/\qu es k v=es++[(k,v)]/\ph es k=es/\dK es k=none:=by
 have c:gQ es k=false:=by unfold gQ;rw[iz];intro x a;simp[h x a]
 refine⟨by simp[gp,c],by simp[qu,c],?_,?_⟩;·unfold ph;rw[List.filter_eq_self];intro x a;simp[h x a]
 unfold dK;rw[pA,ut];intro x a;simp[h x a]
def N2{es:ce}(g:kY es){k:af}(ae:k.flat=true){j:Nat} {p:af×af}(f:es[j]?=some p)(he:cq k p.1=true):ph es k=es.eraseIdx j:=by unfold ph;refine ChangeMaps.filter_eq_eraseIdx (λ p:af×af=>cq k p.1) es j p f he ?_;(have:es.Pairwise λ a b=>a.1≠b.1:=by have:=g;unfold kY at this;rw[List.Nodup,lb]at this;exact this);exact this.imp λ i⟨c,d⟩=>i (by rw[lk ae]at c d;rw[<-c,<-d])
def Ii{es:ce}(c:kY es){k:af}(ae:k.flat=true){j:Nat} {p:af×af}(a:es[j]?=some p)(he:cq k p.1=true):dK es k=some p.2:=by rw[pS c ae];rw[lk ae]at he;rw[he];exact aT a
def gY.at_{es:ce} {arr:Tu MapEntry} {clock:Nat}(h:gY S w es arr clock):sW es arr.toList:=⟨by simp[h.len],λ c p x a b=>h.key c p x a (by simpa using b)⟩
def yA{a:Bool} {ks:Tp fm} {es c:ce} {k:af}(f:c.Perm es)(h:gk a ks es k):gk a ks c k:=⟨h.1,h.2.1,λ p d=>h.2.2 p (f.mem_iff.1 d)⟩
def GX{es:ce} {arr:Tu MapEntry} {f:MapEntry->MapEntry} {j:Nat} {x:MapEntry} {r:af×af}(d:arr[j]?=some x){i:Nat} {q:af×af} {y:MapEntry}(a:(es.set j r)[i]?=some q)(c:(arr.modify j f)[i]?=some y):(i=j/\q=r/\y=f x)\/(i≠j/\es[i]?=some q/\arr[i]?=some y):=by rw[gV]at a;rw[Array.getElem?_modify]at c;split at a;(next e=>subst e;rw[if_pos rfl,d]at c;split at a;(·cases a;cases c;exact .inl ⟨rfl,rfl,rfl⟩);cases a);rename_i e;rw[if_neg e]at c;exact .inr ⟨λ h=>e h.symm,a,c⟩
def gY.modify{es:ce} {arr:Tu MapEntry} {clock:Nat}(h:gY S w es arr clock){f:MapEntry->MapEntry} {j:Nat} {x:MapEntry} {p:af×af}(d:es[j]?=some p)(i:arr[j]?=some x)(ae:(f x).key=x.key)(m:(f x).born=x.born)(v:af):gY S w (es.set j (p.1,v)) (arr.modify j f) clock:=by
 have l:(arr.modify j f).toList.map (·.born)=arr.toList.map (·.born):=by apply gz;intro g;rw[bm,bm,fq,fq,Array.getElem?_modify];split;(next e=>subst e;rw[i];simp[m]);rfl
 refine⟨by simp[h.len],λ g q y c k=>?_,λ y k=>?_,by rw[l];exact h.r8,?_,λ q c=>?_⟩;·rcases GX i c k with⟨rfl,rfl,rfl⟩ | ⟨_,a,b⟩;(·have:=h.key g p x d i;exact⟨this.1,ae.trans this.2⟩);exact h.key g q y a b
 ·have:y.born∈(arr.modify j f).toList.map (·.born):=a_.2 ⟨y,k,rfl⟩;rw[l]at this;obtain⟨z,n,e⟩:=a_.1 this;rw[<-e];exact h.born z n
 ·rw[List.map_set];(have:(es.map (·.1)).set j p.1=es.map (·.1):=by apply gz;intro g;rw[gV];split;(next e=>subst e;rw[bm,d];have:=(aD.1 d).1;simp[this]);rfl);rw[this];exact h.lF
 rcases qZ c with c|rfl;·exact h.nH q c
 exact h.nH p (aT d)
def Ij{es:ce} {arr:Tu MapEntry}(d:es.length=arr.size){r:af×af} {x:MapEntry} {i:Nat} {q:af×af} {y:MapEntry}(a:(es++[r])[i]?=some q)(c:(arr.push x)[i]?=some y):(es[i]?=some q/\arr[i]?=some y)\/(q=r/\y=x):=by
 rcases kE i es.length with h|h|h;·rw[bu h]at a;rw[Array.getElem?_push_lt ac]at c;exact .inl ⟨a,by rw[<-c];exact eC ac⟩
 ·subst h;simp at a;rw[d,Array.getElem?_push_size]at c;cases c;exact .inr ⟨a.symm,rfl⟩
 rw[eL c0]at a;cases a
def gY.push{es:ce} {arr:Tu MapEntry} {clock:Nat}(h:gY S w es arr clock){k v:af}(ae:k.flat=true)(j:∀p∈es,cq k p.1=false)(val:Tq)(i:jX S w k):gY S w (es++[(k,v)]) (arr.push ⟨k.cH,val,clock⟩) (clock+1):=by
 refine⟨by simp[h.len],λ m q y d c=>?_,λ y c=>?_,?_,?_,λ q d=>?_⟩;·rcases Ij h.len d c with⟨a,b⟩ | ⟨rfl,rfl⟩;(·exact h.key m q y a b);exact⟨ae,rfl⟩
 ·simp only[Array.toList_push,dH,dG]at c;rcases c with c|rfl;(·have:=h.born y c;omega);exact Nat.lt_succ_self _
 ·rw[Array.toList_push,gh,h8];refine⟨h.r8,al,λ a g b f e=>?_⟩;obtain⟨y,c,rfl⟩:=a_.1 g;simp at f;have:=h.born y c;omega
 ·rw[gh,h8];refine⟨h.lF,al,λ a g b f e=>?_⟩;obtain⟨p,l,rfl⟩:=a_.1 g;simp at f;have:=j p l;rw[<-f,<-e,sF (by rw[e,f];exact ae)]at this;cases this
 rcases dH.1 d with d|d;·exact h.nH q d
 rw[dG.1 d];exact i
def Hp{es:ce} {arr:Tu MapEntry}(k:es.length=arr.size){j:Nat}(f:j<arr.size){i:Nat} {q:af×af} {y:MapEntry}(c:(es.eraseIdx j)[i]?=some q)(a:(arr.eraseIdxIfInBounds j)[i]?=some y): ∃d,d≠j/\es[d]?=some q/\arr[d]?=some y:=by
 have g:(arr.eraseIdxIfInBounds j).toList=arr.toList.eraseIdx j:=by unfold Array.eraseIdxIfInBounds;rw[dif_pos f];simp
 rw[<-fq,g,List.getElem?_eraseIdx,fq,fq]at a;rw[List.getElem?_eraseIdx]at c;split at c;next h=>rw[if_pos h]at a;exact⟨i,ac,c,a⟩
 rename_i h;rw[if_neg h]at a;exact⟨i+1,ac,c,a⟩
def gY.erase{es:ce} {arr:Tu MapEntry} {clock:Nat}(h:gY S w es arr clock){j:Nat}(g:j<arr.size):gY S w (es.eraseIdx j) (arr.eraseIdxIfInBounds j) clock:=by
 have f:(arr.eraseIdxIfInBounds j).toList=arr.toList.eraseIdx j:=by unfold Array.eraseIdxIfInBounds;rw[dif_pos g];simp
 refine⟨?_,λ l q y d c=>?_,λ y c=>?_,?_,?_,λ q d=>h.nH q ((List.eraseIdx_sublist _ _).subset d)⟩;·(have i:(arr.eraseIdxIfInBounds j).size=(arr.toList.eraseIdx j).length:=by rw[<-f,kC]);rw[i,List.length_eraseIdx,List.length_eraseIdx,h.len];simp
 ·obtain⟨k,_,a,b⟩:=Hp h.len g d c;exact h.key k q y a b
 ·rw[f]at c;exact h.born y ((List.eraseIdx_sublist _ _).subset c)
 ·rw[f];exact h.r8.sublist ((List.eraseIdx_sublist _ _).map _)
 exact h.lF.sublist ((List.eraseIdx_sublist _ _).map _)
def BV(l:co E){e:Tr} {z:af}(c:p6 (E.T e)=some z):∃a,(zeroValue e).run E.P w=.ok a w/\aq S w z a:=by
 unfold p6 at c;have k:=(l.dp e).info;split at c;next i=>cases c;obtain⟨o,a,u,f,_,_,j,d,_,_,g,_⟩:=k (.inr i);rw[if_pos i]at g;obtain⟨cs,rfl⟩:=g;refine⟨.agg cs,by simp only[zeroValue,typeInfo,Sem.run_bind,run_program,Result.andThen_ok,f,Sem.run_pure,j],?_⟩;rw[<-d];exact aq.agg _ cs.toList (by simp[Value.cells]) (bh.const cs.toList).2
 rename_i i;split at c;next f=>obtain⟨o,a,u,f,_,_,j,d,_,_,g,_⟩:=k (.inl ac);rw[if_neg i]at g;split at c;(next p n=>cases c;refine⟨a,by simp only[zeroValue,typeInfo,Sem.run_bind,run_program,Result.andThen_ok,f,Sem.run_pure,j],?_⟩;(have m:a.cells=#[a]:=by cases a<;>simp_all[Value.cells,Value.oneCell']);rw[n,m]at d;simp at d;rw[<-d];exact aq.const a);cases c
 cases c
section
variable{t k e:Tr} {ks:Tp fm} {b:Nat} {arr:Tu MapEntry} {clock:Nat} {es b7:Tp (af×af)} {key z:af}
def N3(j:co E)(s:E.P.underlying t=some (.map k e))(ae:iE E k=some ks)(G:p6 (E.T e)=some z)(n:w.heap[b]?=some (.map arr clock))(l:b7.Perm es)(he:gY S w b7 arr clock)(hv:∀(i:Nat)(p:af×af)(x:MapEntry),b7[i]?=some p->arr[i]?=some x->aq S w p.2 x.val)(f:gk (iX E k) ks es key)(C:jX S w key)(ok:Bool): ∃v,(Instr.lookup t (.map (some b)) key.cH ok).run E.P w=.ok v w/\aq S w (if ok then .bf [(dK es key).getD z,.bool (dK es key).isSome]else(dK es key).getD z) v:=by
 have F:=yA l f;have D:kY es:=show(es.map (·.1)).Nodup from(l.map (·.1)).nodup_iff.1 he.lF;rw[<-Fv l D f.1.1];have o:=wi (w:=w) j ae f.2.1 f.1.2 arr.isEmpty;rcases wm (w:=w) j ae he.at_ F C he.nH with⟨a,g⟩ | ⟨I,p,x,a,c,d,g⟩;·obtain⟨m,H,B⟩:=BV (S:=S) (w:=w) j G;rw[(w3 (v:=z) a).2.2.2];refine⟨if ok then .tuple #[m,.bool false]else m,?_,?_⟩;(·simp[Instr.lookup,run_underlying s,MapKept.run_getObj_map n,o,g,H,Result.andThen]);cases ok;(·exact B);exact aq.bf _ [m,.bool false] rfl (bh.cons B (bh.cons (.bool _) bh.nil)).2
 rw[Ii he.lF f.1.1 a d];have y:=hv I p x a (by simpa using c);refine⟨if ok then .tuple #[x.val,.bool true]else x.val,?_,?_⟩;·simp[Instr.lookup,run_underlying s,MapKept.run_getObj_map n,o,g,Result.andThen]
 cases ok;·exact y
 exact aq.bf _ [x.val,.bool true] rfl (bh.cons y (bh.cons (.bool _) bh.nil)).2
def Ms(c:co E)(n:E.P.underlying t=some (.map k e))(ae:iE E k=some ks)(o:p6 (E.T e)=some z)(d:gk (iX E k) ks [] key)(j:jX S w key)(ok:Bool): ∃v,(Instr.lookup t (.map none) key.cH ok).run E.P w=.ok v w/\aq S w (if ok then .bf [(dK [] key).getD z,.bool (dK [] key).isSome]else(dK [] key).getD z) v:=by have m:=wi (w:=w) c ae d.2.1 d.1.2 true;obtain⟨f,s,g⟩:=BV (S:=S) (w:=w) c o;rcases wm (S:=S) (w:=w) (es:=[]) (l:=[]) c ae ⟨rfl,al⟩ d j al with⟨a,i⟩ | ⟨y,p,x,a,_⟩;(·refine⟨if ok then .tuple #[f,.bool false]else f,?_,?_⟩;(·simp[Instr.lookup,run_underlying n,m,i,s,Result.andThen]);cases ok;(·exact g);exact aq.bf _ [f,.bool false] rfl (bh.cons g (bh.cons (.bool _) bh.nil)).2);simp at a
structure vu(S:Addr->Prop)(w:World)(b:Nat)(arr:Array MapEntry)(clock:Nat)(es:List (af×af))(fh:Array MapEntry)(I_:Nat)(CY:List (af×af)):Prop where
 perm:CY.Perm es
 cm:gY S w CY fh I_
 vals:∀(i:Nat)(p:af×af)(x:MapEntry),CY[i]?=some p->fh[i]?=some x->aq S w p.2 x.val
 keep:∀x∈arr.toList,∃yd∈fh.toList,yd.key=x.key/\yd.born=x.born
 back:I_=clock->∀yd∈fh.toList,∃x∈arr.toList,yd.key=x.key/\yd.born=x.born
def AJ(D:b7.Perm es)(he:gY S w b7 arr clock)(hv:∀(i:Nat)(p:af×af)(x:MapEntry),b7[i]?=some p->arr[i]?=some x->aq S w p.2 x.val)(ae:key.flat=true){j:Nat} {p:af×af} {x:MapEntry}(o:b7[j]?=some p)(c:arr[j]?=some x)(k:cq key p.1=true){f:MapEntry->MapEntry}(m:∀y,y.key=key.cH->(f y).key=y.key)(l:∀y,(f y).born=y.born){v:af}(C:aq S w v (f x).val):vu S w b arr clock (gp es key v) (arr.modify j f) clock (b7.set j (p.1,v)):=by
 have s:x.key=key.cH:=by rw[(he.key j p x o c).2,<-(lk ae).1 k]
 have B:∀i y,arr[i]?=some y->(arr.modify j f)[i]?=some (if j=i then f y else y):=λ i y h=>by rw[Array.getElem?_modify,h];split<;>rfl
 refine⟨?_,he.modify o c (m x s) (l x) v,λ i q y k g=>?_,λ y g=>?_,λ _ y g=>?_⟩;·rw[<-Ho he.lF ae o k];exact Qk D key v
 ·rcases GX c k g with⟨rfl,rfl,rfl⟩ | ⟨_,a,b⟩;(·exact C);exact hv i q y a b
 ·obtain⟨i,d⟩:=e9 g;have n:=B i y (by simpa using d);refine⟨_,aT (by rw[fq];exact n),?_,?_⟩;(·split;(next e=>subst e;(have:y=x:=by rw[<-fq]at c;rw[d]at c;exact bC c);rw[this];exact m x s);rfl);split;(·exact l y);rfl
 obtain⟨i,d⟩:=e9 g;have t:i<arr.size:=by have:=(aD.1 d).1;simpa using this
 have n:=B i _ (eC t);have z:y=if j=i then f arr[i]else arr[i]:=by (have:(arr.modify j f)[i]?=some y:=by rw[<-fq];exact d);rw[n]at this;exact(bC this).symm
 refine⟨arr[i],al,?_,?_⟩;·rw[z];split;(next e=>subst e;(have:arr[j]=x:=by rw[eC t]at c;exact bC c);rw[this];exact m x s);rfl
 rw[z];split;·exact l _
 rfl
def Fw(j:b7.Perm es)(he:gY S w b7 arr clock)(hv:∀(i:Nat)(p:af×af)(x:MapEntry),b7[i]?=some p->arr[i]?=some x->aq S w p.2 x.val)(ae:key.flat=true)(g:∀p∈b7,cq key p.1=false){v:af} {val:Tq}(d:aq S w v val)(f:jX S w key):vu S w b arr clock (es++[(key,v)]) (arr.push ⟨key.cH,val,clock⟩) (clock+1) (b7++[(key,v)]):=by refine⟨j.append_right _,he.push ae g val f,λ i q y k c=>?_,λ y c=>⟨y,by simp at c⊢;exact .inl c,rfl,rfl⟩,λ e=>by omega⟩;rcases Ij he.len k c with⟨a,b⟩ | ⟨rfl,rfl⟩;(·exact hv i q y a b);exact d
def xt(c:b7.Perm es)(a:∀p∈b7,cq key p.1=false):∀p∈es,cq key p.1=false:=λ p h=>a p (c.mem_iff.2 h)
def Mt(B:co E)(H:E.P.underlying t=some (.map k e))(ae:iE E k=some ks)(l:w.heap[b]?=some (.map arr clock))(j:b7.Perm es)(he:gY S w b7 arr clock)(hv:∀(i:Nat)(p:af×af)(x:MapEntry),b7[i]?=some p->arr[i]?=some x->aq S w p.2 x.val)(g:gk (iX E k) ks es key)(C:jX S w key){v:af} {val:Tq}(z:aq S w v val): ∃s m I,(Instr.mapUpdate t (.map (some b)) key.cH val).run E.P w=.ok () (ChangeMaps.setBlock w b (.map s m))/\vu S w b arr clock (gp es key v) s m I/\(gQ es key=true->m=clock):=by
 have J:=yA j g;have F:=wi (w:=w) B ae g.2.1 g.1.2 false;rcases wm (w:=w) B ae he.at_ J C he.nH with⟨a,n⟩ | ⟨o,p,x,a,c,d,n⟩;·refine⟨_,_,_,?_,by rw[(w3 (v:=v) (xt j a)).1];exact Fw j he hv g.1.1 a z C,λ h=>?_⟩;(·simp[Instr.mapUpdate,run_underlying H,MapKept.run_getObj_map l,F,n,MapKept.run_setObj_map _ l,Result.andThen,ChangeMaps.setBlock]);obtain⟨q,K,G⟩:=c1.1 h;rw[xt j a q K]at G;cases G
 have L:x.key=key.cH:=by rw[(he.key o p x a (by simpa using c)).2,<-(lk g.1.1).1 d]
 have D:arr[o]?=some x:=by simpa using c
 refine⟨arr.modify o λ y=>{y with key:=key.cH,val:=val},clock,_,?_,AJ j he hv g.1.1 a D d (f:=λ y=>{y with key:=key.cH,val:=val}) (λ y h=>h.symm) (λ _=>rfl) z,λ _=>rfl⟩;simp[Instr.mapUpdate,run_underlying H,MapKept.run_getObj_map l,F,n,D,L,EJ g.1.1,MapKept.run_setObj_map _ l,Result.andThen,ChangeMaps.setBlock]
def MP(F:co E)(N:E.P.underlying t=some (.map k e))(ae:iE E k=some ks)(ab:p6 (E.T e)=some z)(o:w.heap[b]?=some (.map arr clock))(j:b7.Perm es)(he:gY S w b7 arr clock)(hv:∀(i:Nat)(p:af×af)(x:MapEntry),b7[i]?=some p->arr[i]?=some x->aq S w p.2 x.val)(g:gk (iX E k) ks es key)(J:jX S w key): ∃s B R v n,(Instr.mapEntry t (.map (some b)) key.cH).run E.P w=.ok (.tuple #[v,.int .i64 n]) (ChangeMaps.setBlock w b (.map s B))/\vu S w b arr clock (qu es key z) s B R/\(gQ es key=true->B=clock)/\aq S w ((dK es key).getD z) v/\∃x∈s.toList,x.key=key.cH/\(x.born:Int)=n:=by
 have X:=yA j g;have H:kY es:=show(es.map (·.1)).Nodup from(j.map (·.1)).nodup_iff.1 he.lF;have K:=wi (w:=w) F ae g.2.1 g.1.2 false;rcases wm (w:=w) F ae he.at_ X J he.nH with⟨a,C⟩ | ⟨m,p,x,a,c,d,C⟩;·obtain⟨I,ac,Q⟩:=BV (S:=S) (w:=w) F ab;refine⟨arr.push ⟨key.cH,I,clock⟩,clock+1,b7++[(key,z)],I,clock,?_,by rw[(w3 (v:=z) (xt j a)).2.1];exact Fw j he hv g.1.1 a Q J,λ h=>?_,?_,⟨key.cH,I,clock⟩,al,rfl,rfl⟩;(·simp[Instr.mapEntry,run_underlying N,MapKept.run_getObj_map o,K,C,ac,MapKept.run_setObj_map _ o,Result.andThen,ChangeMaps.setBlock,goInt]);(·obtain⟨q,aa,M⟩:=c1.1 h;rw[xt j a q aa]at M;cases M);rw[(w3 (v:=z) (xt j a)).2.2.2];exact Q
 have l:arr[m]?=some x:=by simpa using c
 have O:x.key=key.cH:=by rw[(he.key m p x a l).2,<-(lk g.1.1).1 d]
 have W:gQ es key=true:=c1.2 ⟨p,j.mem_iff.1 (aT a),d⟩;have L:dK es key=some p.2:=by rw[<-Fv j H g.1.1];exact Ii he.lF g.1.1 a d
 have Z:gp es key p.2=es:=by have D:(key,p.2)∈es:=(pS H g.1.1).1 L;obtain⟨i,G⟩:=e9 D;rw[Ho H g.1.1 G (sF g.1.1)];apply gz;intro ag;rw[gV];split;(next e=>subst e;rw[G];have:=(aD.1 G).1;simp[this]);rfl
 have hw:=AJ (b:=b) j he hv g.1.1 a l d (f:=λ y=>{y with key:=key.cH}) (λ y h=>h.symm) (λ _=>rfl) (v:=p.2) (hv m p x a l);rw[Z]at hw;refine⟨arr.modify m λ y=>{y with key:=key.cH},clock,_,x.val,x.born,?_,by rw[show qu es key z=es by simp[qu,W]];exact hw,λ _=>rfl,by rw[L];exact hv m p x a l,?_⟩;·simp[Instr.mapEntry,run_underlying N,MapKept.run_getObj_map o,K,C,l,O,EJ g.1.1,MapKept.run_setObj_map _ o,Result.andThen,ChangeMaps.setBlock,goInt]
 obtain⟨ad,D,U,V⟩:=hw.keep x (by rw[<-fq]at l;exact aT l);exact⟨ad,D,U.trans O,by rw[V]⟩
def Ly(j:w.heap[b]?=some (.map arr clock))(G:b7.Perm es)(he:gY S w b7 arr clock)(hv:∀(i:Nat)(p:af×af)(x:MapEntry),b7[i]?=some p->arr[i]?=some x->aq S w p.2 x.val){n:Int}(ae:key.flat=true)(F:∃x∈arr.toList,x.key=key.cH/\(x.born:Int)=n){v:af} {val:Tq}(o:aq S w v val): ∃d m,(Instr.entryStore t (.map (some b)) (.int .i64 n) val).run E.P w=.ok () (ChangeMaps.setBlock w b (.map d clock))/\vu S w b arr clock (gp es key v) d clock m:=by
 obtain⟨x,I,J,K⟩:=F;obtain⟨a,k⟩:=e9 I;have c:arr[a]?=some x:=by simpa using k
 have D:a<b7.length:=by rw[he.len];exact(gg.1 c).1
 obtain⟨p,l⟩:∃p,b7[a]?=some p:=⟨_,aQ D⟩;have g:=he.key a p x l c;have H:cq key p.1=true:=(lk ae).2 (rf ae g.1 (J.symm.trans g.2));have C:arr.findIdx? (λ y=>(y.born:Int)==n)=some a:=by rw[Array.findIdx?_eq_some_iff_getElem];refine⟨(gg.1 c).1,?_,λ i M=>?_⟩;(·have:=(gg.1 c).2;rw[this];simpa using K);have N:=(gg.1 c).1;intro s;(have L:(arr[i].born:Int)=n:=by simpa using s);have z:arr[i].born=x.born:=ac;(have B:(arr.toList.map (·.born))[i]?=(arr.toList.map (·.born))[a]?:=by rw[bm,bm,k,fq,eC ac];simp[z]);have:=(uv c0 he.r8).1 B;omega
 refine⟨arr.modify a λ y=>{y with val:=val},_,?_,AJ G he hv ae l c H (f:=λ y=>{y with val:=val}) (λ _ _=>rfl) (λ _=>rfl) o⟩;simp[Instr.entryStore,MapKept.run_getObj_map j,C,MapKept.run_setObj_map _ j,Result.andThen,ChangeMaps.setBlock,asInt,asIntOf]
def N4{ty:Tr}(J:co E)(M:E.P.underlying t=some (.map k e))(ae:iE E k=some ks)(z:w.heap[b]?=some (.map arr clock))(H:b7.Perm es)(he:gY S w b7 arr clock)(hv:∀(i:Nat)(p:af×af)(x:MapEntry),b7[i]?=some p->arr[i]?=some x->aq S w p.2 x.val)(f:gk (iX E k) ks es key)(O:jX S w key): ∃s B,(Builtin.delete_ #[t,k] ty #[.map (some b),key.cH]).run E.P w=.ok (.tuple #[]) (ChangeMaps.setBlock w b (.map s clock))/\B.Perm (ph es key)/\gY S w B s clock/\(∀(i:Nat)(p:af×af)(x:MapEntry),B[i]?=some p->s[i]?=some x->aq S w p.2 x.val)/\∀x,x∈s.toList↔(x∈arr.toList/\x.key≠key.cH):=by
 have R:=yA H f;have L:=wi (w:=w) J ae f.2.1 f.1.2 arr.isEmpty;have F:∀(i:Nat)(p:af×af)(x:MapEntry),b7[i]?=some p->arr[i]?=some x->(x.key=key.cH↔cq key p.1=true):=λ i p x a c=>by obtain⟨m,n⟩:=he.key i p x a c;rw[lk f.1.1,n];exact⟨λ h=>(rf m f.1.1 h).symm,λ h=>by rw[h]⟩
 rcases wm (w:=w) J ae he.at_ R O he.nH with⟨a,m⟩ | ⟨g,p,x,a,c,d,m⟩;·refine⟨arr,b7,?_,?_,he,hv,λ x=>⟨λ N=>⟨N,λ h=>?_⟩,λ h=>h.1⟩⟩;(·simp[Builtin.delete_,run_underlying M,MapKept.run_getObj_map z,L,m,MapKept.run_setObj_map _ z,Result.andThen,ChangeMaps.setBlock]);(·have:=GW H key;rwa[(w3 (v:=key) a).2.2.1]at this);obtain⟨i,j⟩:=e9 N;(have o:arr[i]?=some x:=by simpa using j);(have l:i<b7.length:=by rw[he.len];exact(gg.1 o).1);have:=(F i _ x (aQ l) o).1 h;rw[a _ (iA l)]at this;cases this
 have K:arr[g]?=some x:=by simpa using c
 have D:g<arr.size:=(gg.1 K).1;have U:(arr.eraseIdxIfInBounds g).toList=arr.toList.eraseIdx g:=by unfold Array.eraseIdxIfInBounds;rw[dif_pos D];simp
 refine⟨arr.eraseIdxIfInBounds g,b7.eraseIdx g,?_,?_,he.erase D,λ i q y T I=>?_,λ y=>?_⟩;·simp[Builtin.delete_,run_underlying M,MapKept.run_getObj_map z,L,m,MapKept.run_setObj_map _ z,Result.andThen,ChangeMaps.setBlock]
 ·rw[<-N2 he.lF f.1.1 a d];exact GW H key
 ·obtain⟨V,_,n,C⟩:=Hp he.len D T I;exact hv V q y n C
 rw[U,List.mem_eraseIdx_iff_getElem?];have Q:=(F g p x a K).2 d;constructor;·rintro⟨i,G,j⟩;refine⟨aT j,λ h=>G ?_⟩;(have o:arr[i]?=some y:=by simpa using j);(have l:i<b7.length:=by rw[he.len];exact(gg.1 o).1);have n:=(F i _ y (aQ l) o).1 h;(have C:(b7.map (·.1))[i]?=(b7.map (·.1))[g]?:=by rw[bm,bm,a,aQ l];simp only[du,cg];rw[<-(lk f.1.1).1 n,<-(lk f.1.1).1 d]);exact(uv (by simpa using l) he.lF).1 C
 rintro⟨I,G⟩;obtain⟨i,j⟩:=e9 I;refine⟨i,λ e=>G ?_,j⟩;subst e;rw[j]at c;cases c;exact Q
end
end
end Go.Abs
