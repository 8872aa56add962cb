/- Contracts of the functions, and what they rest on: part 2. -/
import Derived.Test.YtcafjndjnfdnpaaGreatT1
set_option linter.unusedVariables false
set_option linter.unusedSimpArgs false
namespace Go.Abs
open Go.RowKit
section
variable {E:Env} {S:Addr->Prop} {w:World}
theorem ZlG {p:PV} {v:Value} (h:RV S w p v) (hf:p.flat1=true):v=p.toVal1:=by
 cases h<;>simp_all [PV.flat1,PV.toVal1]
theorem RV.flat_val {p:PV} {v:Value} (h:RV S w p v) (hf:p.flat=true):v=p.toVal:=by
 cases p with
 | agg cs =>
  obtain ⟨vs,rfl,hl,hv⟩:=RV.agg_iff h
  have:vs=cs.map PV.toVal1:=by
   apply ZyS
   intro i
   rcases Zy6 i cs.length with hi | hi
   ·rw [Zyh,Zya hi,Zya (by omega)]
    have:=hv i _ _ (Zya hi) (Zya (by omega))
    rw [ZlG this (Zym.1 hf _ (Zzg hi))]
    rfl
   ·rw [Zyw (by omega),Zyw (by simpa using hi)]
  rw [this]
  rfl
 | _=>exact ZlG h hf
theorem RV.of_flat1 {p:PV} (hf:p.flat1=true):RV S w p p.toVal1:=by
 cases p<;>simp [PV.flat1] at hf
 ·exact .int _ _
 ·exact .bool _
 ·exact .str _
theorem RVs.of_flat {cs:List PV} (hf:cs.all PV.flat1=true):RVs S w cs (cs.map PV.toVal1) :=
 ⟨by simp,λ i p v h1 h2=>by
  rw [Zyh,h1] at h2
  simp only [Zy5,Zyu] at h2
  subst h2
  exact RV.of_flat1 (Zym.1 hf _ (Zyb h1))⟩
theorem RV.of_key {p:PV} (hf:p.flat=true):RV S w p p.toVal:=by
 cases p with
 | agg cs=>exact RV.agg cs _ (by simp) (RVs.of_flat hf).2
 | _=>exact RV.of_flat1 hf
theorem Zj6 {p:PV} (hf:p.flat=true):p.cells.all PV.flat1=true:=by
 cases p<;>simp_all [PV.flat,PV.cells]
theorem Zoe {a b:PV} (ha:a.flat1=true):Zjy a b=true↔a=b:=by
 cases a<;>simp [PV.flat1] at ha<;>cases b<;>simp [Zjy]
theorem Zof:∀{a b:List PV},a.all PV.flat1=true->(ZnT a b=true↔a=b)
 | [],[],_=>by simp [ZnT]
 | [],_::_,_=>by simp [ZnT]
 | _::_,[],_=>by simp [ZnT]
 | x::a,y::b,h=>by
  simp only [Z0s,Zyi] at h
  simp [ZnT,Zoe h.1,Zof h.2]
theorem Za3 {a b:PV} (ha:a.flat=true):keq a b=true↔a=b:=by
 cases a with
 | agg cs=>cases b<;>simp [keq,Zjy,Zof (show cs.all PV.flat1=true from ha)]
 | _=>cases b<;>first | (simp [PV.flat,PV.flat1] at ha;done) | (simp [keq,Zoe ha];done) | (simp [keq,Zjy])
theorem ZdI {a:PV} (ha:a.flat=true):keq a a=true:=(Za3 ha).2 rfl
theorem Zj7 {a b:PV} (ha:a.flat1=true) (hb:b.flat1=true) (h:a.toVal1=b.toVal1):a=b:=by
 cases a<;>simp [PV.flat1] at ha<;>cases b<;>simp [PV.flat1] at hb<;>simp_all [PV.toVal1]
theorem ZbQ {a b:PV} (ha:a.flat=true) (hb:b.flat=true) (h:a.toVal=b.toVal):a=b:=by
 cases a with
 | agg cs =>
  cases b with
  | agg ds =>
   simp only [PV.toVal,Value.agg.injEq] at h
   have h3:cs.map PV.toVal1=ds.map PV.toVal1:=by simpa using h
   have:cs=ds:=by
    apply ZyS
    intro i
    have h4:=congrArg (·[i]?) h3
    simp only [Zyh] at h4
    cases hc:cs[i]? with
    | none=>cases hd:ds[i]? with
     | none=>rfl
     | some y=>rw [hc,hd] at h4;cases h4
    | some x=>cases hd:ds[i]? with
     | none=>rw [hc,hd] at h4;cases h4
     | some y =>
      rw [hc,hd] at h4
      simp only [Zy5,Zyu] at h4
      rw [Zj7 (Zym.1 ha _ (Zyb hc)) (Zym.1 hb _ (Zyb hd)) h4]
   rw [this]
  | _=>simp [PV.toVal,PV.toVal1] at h<;>simp [PV.flat,PV.flat1] at hb
 | _=>first
  | (simp [PV.flat,PV.flat1] at ha;done)
  | (cases b<;>first | (simp [PV.flat,PV.flat1] at hb;done) | (simp [PV.toVal,PV.toVal1] at h;done) | exact Zj7 ha hb h)
theorem ZlH (hE:ZQ E) {k:TypeId} {ks:List SK} (h:Zd0 E k=some ks):∃n,n<9999/\flatK E.P n k=some ks:=by
 have hk:=(hE.td k).k
 unfold Zd0 at h
 split at h
 ·rename_i q hq;rw [hq] at hk;cases h;exact ⟨1,by omega,by simp only [flatK,show E.P.underlying k=some (.int q) from hk]⟩
 ·rename_i hq;rw [hq] at hk;cases h;exact ⟨1,by omega,by simp only [flatK,show E.P.underlying k=some .bool from hk]⟩
 ·rename_i hq;rw [hq] at hk;cases h;exact ⟨1,by omega,by simp only [flatK,show E.P.underlying k=some .string from hk]⟩
 ·obtain ⟨d,h1,h2,_⟩:=(hE.td k).eq ks h;exact ⟨d,h1,h2⟩
 ·cases h
theorem Zgz (hE:ZQ E) {k:TypeId} {ks:List SK} (h:Zd0 E k=some ks) {p:PV} (ha:p.isAgg=Zan E k):ZdG E.P k (p.cells.map PV.toVal1)=p.toVal:=by
 have hk:=(hE.td k).k
 have one:∀u,E.P.underlying k=some u->Zbc u=false->p.isAgg=false->ZdG E.P k (p.cells.map PV.toVal1)=p.toVal:=λ u hu hag hp=>by
  rw [Zbv hu hag]
  cases p<;>first | rfl | (simp [PV.isAgg] at hp;done)
 unfold Zd0 at h
 unfold Zan at ha
 split at h
 ·rename_i q hq;rw [hq] at hk ha;exact one _ hk rfl ha
 ·rename_i hq;rw [hq] at hk ha;exact one _ hk rfl ha
 ·rename_i hq;rw [hq] at hk ha;exact one _ hk rfl ha
 ·rename_i fs hq
  rw [hq] at hk ha
  obtain ⟨F,hu,_⟩:=hk
  rw [Y7 hu]
  cases p with
  | agg cs=>rfl
  | _=>simp [PV.isAgg] at ha
 ·cases h
theorem ZmO (hE:ZQ E) {k:TypeId} {ks:List SK} (h:Zd0 E k=some ks) {a b:PV} {r:Bool} (ha:a.flat=true) (hb:b.flat=true) (ga:a.isAgg=Zan E k) (gb:b.isAgg=Zan E k) (he:Qm ks a.cells b.cells=some r) :
  (Op.equal k a.toVal b.toVal).run E.P w=.ok r w:=by
 obtain ⟨n,hn,hf⟩:=ZlH hE h
 rw [<-Zgz hE h ga,<-Zgz hE h gb]
 exact ZaT (S:=λ _=>False) n 10000 (by omega) k ks _ _ _ _ r hf (RVs.of_flat (Zj6 ha)) (RVs.of_flat (Zj6 hb)) he
structure Zg0 (es:List (PV × PV)) (l:List MapEntry):Prop where
 len:es.length=l.length
 key:∀(i:Nat) (p:PV × PV) (x:MapEntry),es[i]?=some p->l[i]?=some x->p.1.flat=true/\x.key=p.1.toVal
theorem Zg0.tail {p:PV × PV} {x:MapEntry} {es:List (PV × PV)} {l:List MapEntry} (h:Zg0 (p::es) (x::l)):(p.1.flat=true/\x.key=p.1.toVal)/\Zg0 es l :=
 ⟨h.key 0 p x rfl rfl,⟨by have:=h.len;simpa using this,λ i p x a b=>h.key (i+1) p x (by simpa using a) (by simpa using b)⟩⟩
theorem ZeV {k:TypeId} {kv:Value} {key:PV}:∀(l:List MapEntry) (es:List (PV × PV)) (i:Nat),Zg0 es l->(∀p∈es,(Op.equal k kv p.1.toVal).run E.P w=.ok (keq key p.1) w) ->
  ((∀p∈es,keq key p.1=false)/\(Instr.findAsking k kv l i).run E.P w=.ok none w) \/
  ∃j p x,es[j]?=some p/\l[j]?=some x/\keq key p.1=true/\(Instr.findAsking k kv l i).run E.P w=.ok (some (i+j,x.val)) w
 | [],[],i,_,_=>.inl ⟨by simp,by simp [Instr.findAsking]⟩
 | [],_::_,_,h,_=>by have:=h.len;simp at this
 | _::_,[],_,h,_=>by have:=h.len;simp at this
 | x::l,p::es,i,h,hq=>by
  obtain ⟨⟨h1,h2⟩,h3⟩:=h.tail
  have h0:=hq p (by simp)
  cases hk:keq key p.1 with
  | true=>exact .inr ⟨0,p,x,rfl,rfl,hk,by rw [hk] at h0;simp [Instr.findAsking,h2,h0,Result.andThen]⟩
  | false =>
   rw [hk] at h0
   have hrun:(Instr.findAsking k kv (x::l) i).run E.P w=(Instr.findAsking k kv l (i+1)).run E.P w:=by simp [Instr.findAsking,h2,h0,Result.andThen]
   rcases ZeV l es (i+1) h3 (λ q hm=>hq q (by simp [hm])) with ⟨a,b⟩ | ⟨j,q,y,a,b,c,d⟩
   ·exact .inl ⟨λ q hm=>by rcases ZyJ.1 hm with rfl | hm;exact hk;exact a q hm,by rw [hrun];exact b⟩
   ·exact .inr ⟨j+1,q,y,by simpa using a,by simpa using b,c,by rw [hrun,d,Zz6,Zz2 1 j]⟩
theorem Zgd {kind:TypeDesc} {kv:Value} {key:PV}:∀(l:List MapEntry) (es:List (PV × PV)) (i:Nat),Zg0 es l->(∀p∈es,Instr.sameNow kind kv p.1.toVal=some (keq key p.1)) ->
  ((∀p∈es,keq key p.1=false)/\Instr.findNow kind kv l i=some none)\/∃j p x,es[j]?=some p/\l[j]?=some x/\keq key p.1=true/\Instr.findNow kind kv l i=some (some (i+j,x.val))
 | [],[],i,_,_=>.inl ⟨by simp,rfl⟩
 | [],_::_,_,h,_=>by have:=h.len;simp at this
 | _::_,[],_,h,_=>by have:=h.len;simp at this
 | x::l,p::es,i,h,hq=>by
  obtain ⟨⟨h1,h2⟩,h3⟩:=h.tail
  have h0:=hq p (by simp)
  rw [<-h2] at h0
  cases hk:keq key p.1 with
  | true=>rw [hk] at h0;exact .inr ⟨0,p,x,rfl,rfl,hk,by simp [Instr.findNow,h0]⟩
  | false =>
   rw [hk] at h0
   have hrun:Instr.findNow kind kv (x::l) i=Instr.findNow kind kv l (i+1):=by simp [Instr.findNow,h0]
   rcases Zgd l es (i+1) h3 (λ q hm=>hq q (by simp [hm])) with ⟨a,b⟩ | ⟨j,q,y,a,b,c,d⟩
   ·exact .inl ⟨λ q hm=>by rcases ZyJ.1 hm with rfl | hm;exact hk;exact a q hm,by rw [hrun];exact b⟩
   ·exact .inr ⟨j+1,q,y,by simpa using a,by simpa using b,c,by rw [hrun,d,Zz6,Zz2 1 j]⟩
theorem Zce (hE:ZQ E) {k:TypeId} {ks:List SK} (h:Zd0 E k=some ks) {key:PV} {es:List (PV × PV)} {l:List MapEntry} (hl:Zg0 es l) (ho:Yu (Zan E k) ks es key) :
  ((∀p∈es,keq key p.1=false)/\(Instr.findKey k key.toVal l).run E.P w=.ok none w) \/
  ∃j p x,es[j]?=some p/\l[j]?=some x/\keq key p.1=true/\(Instr.findKey k key.toVal l).run E.P w=.ok (some (j,x.val)) w:=by
 obtain ⟨⟨hf,_⟩,ha,hc⟩:=ho
 have hfl:∀p∈es,p.1.flat=true:=λ p hp=>by
  obtain ⟨i,hi⟩:=ZyF hp
  have:i<l.length:=by rw [<-hl.len];exact (ZxZ.1 hi).1
  exact (hl.key i p _ hi (Zya this)).1
 have heq:∀p∈es,(Op.equal k key.toVal p.1.toVal).run E.P w=.ok (keq key p.1) w:=λ p hp=>ZmO hE h hf (hfl p hp) ha (hc p hp).1 (hc p hp).2
 have hask:=ZeV (E:=E) (w:=w) (key:=key) l es 0 hl heq
 have hk:=(hE.td k).k
 have basic:∀u,E.P.underlying k=some u->(∀p∈es,Instr.sameNow u key.toVal p.1.toVal=some (keq key p.1)) ->
   ((∀p∈es,keq key p.1=false)/\(Instr.findKey k key.toVal l).run E.P w=.ok none w) \/
   ∃j p x,es[j]?=some p/\l[j]?=some x/\keq key p.1=true/\(Instr.findKey k key.toVal l).run E.P w=.ok (some (j,x.val)) w:=λ u hu hs=>by
  rcases Zgd l es 0 hl hs with ⟨a,b⟩ | ⟨j,p,x,a,b,c,d⟩
  ·exact .inl ⟨a,by simp [Instr.findKey,run_underlying hu,b]⟩
  ·rw [ZyK] at d
   exact .inr ⟨j,p,x,a,b,c,by simp [Instr.findKey,run_underlying hu,d]⟩
 unfold Zd0 at h
 unfold Zan at ha hc
 split at h
 ·rename_i q hq
  rw [hq] at hk
  cases h
  refine basic _ hk λ p hp=>?_
  have h1:=(hc p hp).2
  have hpf:=hfl p hp
  have hpa:=(hc p hp).1
  rw [hq] at ha hpa
  generalize p.1=b at h1 hpf hpa
  obtain ⟨_,_,e1,e2,h2⟩:=Zbw h1
  cases key<;>simp [PV.isAgg] at ha<;>cases b<;>simp [PV.isAgg] at hpa<;>cases e1<;>cases e2<;>simp [Zjw] at h2
  obtain ⟨rfl,h2⟩:=h2
  simp [PV.toVal,PV.toVal1,Instr.sameNow,keq,Zjy]
  rw [ZyA];simp
 ·rename_i hq
  rw [hq] at hk
  cases h
  refine basic _ hk λ p hp=>?_
  have h1:=(hc p hp).2
  have hpf:=hfl p hp
  have hpa:=(hc p hp).1
  rw [hq] at ha hpa
  generalize p.1=b at h1 hpf hpa
  obtain ⟨_,_,e1,e2,h2⟩:=Zbw h1
  cases key<;>simp [PV.isAgg] at ha<;>cases b<;>simp [PV.isAgg] at hpa<;>cases e1<;>cases e2<;>simp [Zjw] at h2
  simp [PV.toVal,PV.toVal1,Instr.sameNow,keq,Zjy]
  rw [ZyA];simp
 ·rename_i hq
  rw [hq] at hk
  cases h
  refine basic _ hk λ p hp=>?_
  have h1:=(hc p hp).2
  have hpf:=hfl p hp
  have hpa:=(hc p hp).1
  rw [hq] at ha hpa
  generalize p.1=b at h1 hpf hpa
  obtain ⟨_,_,e1,e2,h2⟩:=Zbw h1
  cases key<;>simp [PV.isAgg] at ha<;>cases b<;>simp [PV.isAgg] at hpa<;>cases e1<;>cases e2<;>simp [Zjw] at h2
  simp [PV.toVal,PV.toVal1,Instr.sameNow,keq,Zjy]
  rw [<-Zhb,beq_toListBytes]
 ·rename_i fs hq
  rw [hq] at hk
  obtain ⟨F,hu,_⟩:=hk
  have hnow:∀i,Instr.findNow (.struct F) key.toVal l i=match l with | []=>some none | _=>none:=λ i=>by
   cases l with
   | nil=>rfl
   | cons x l=>simp [Instr.findNow,Instr.sameNow]
  cases l with
  | nil =>
   cases es with
   | nil=>exact .inl ⟨by simp,by simp [Instr.findKey,run_underlying hu,Instr.findNow]⟩
   | cons p es=>have:=hl.len;simp at this
  | cons x l =>
   have h1:(Instr.findKey k key.toVal (x::l)).run E.P w=(Instr.findAsking k key.toVal (x::l)).run E.P w:=by
    simp [Instr.findKey,run_underlying hu,hnow 0]
   rw [h1]
   rcases hask with h2 | ⟨j,p,y,a,b,c,d⟩
   ·exact .inl h2
   ·rw [ZyK] at d
    exact .inr ⟨j,p,y,a,b,c,d⟩
 ·cases h
theorem Zog {α:Type} {P:Program}:∀(l:List α) (f:α->PUnit->Sem (ForInStep PUnit)),(∀a∈l,(f a PUnit.unit).run P w=.ok (.yield PUnit.unit) w)->(forIn l PUnit.unit f).run P w=.ok PUnit.unit w
 | [],f,_=>by simp
 | a::l,f,h=>by
  simp only [List.forIn_cons,Sem.run_bind,h a (by simp),Result.andThen_ok]
  exact Zog l f λ b hb=>h b (by simp [hb])
theorem ZeW {P:Program} {F:TypeId->Option (List SK)}:∀(fs:List Field) (off:Nat) (ks:List SK),Za2 P F off fs=some ks ->
  ∀f∈fs,f.name≠"_"/\∃ks1,F f.type=some ks1/\ks1.length=P.cellsOf f.type/\f.offset+ks1.length<=off+ks.length
 | [],_,_,_,f,hf=>by cases hf
 | g::fs,off,ks,h,f,hf=>by
  simp only [Za2] at h
  split at h
  ·rename_i hname
   split at h
   ·cases h
   ·rename_i ks1 hk1
    split at h
    ·rename_i hlen
     cases hr1:Za2 P F (off+ks1.length) fs with
     | none=>simp [hr1] at h
     | some ks2 =>
      simp [hr1] at h
      subst h
      rcases ZyJ.1 hf with rfl | hf
      ·exact ⟨hname.1,ks1,hk1,hlen.1,by rw [hname.2,Zyg];omega⟩
      ·obtain ⟨a,k,b,c,d⟩:=ZeW fs (off+ks1.length) ks2 hr1 f hf
       exact ⟨a,k,b,c,by rw [Zyg];omega⟩
    ·cases h
  ·cases h
theorem Zdh (em:Bool):∀(n d:Nat),n<=d->∀(t:TypeId) (ks:List SK) (vs:List Value),flatK E.P n t=some ks->vs.length=ks.length->(Instr.checkKey em d t (ZdG E.P t vs)).run E.P w=.ok () w
 | 0,_,_,_,_,_,h,_=>by cases h
 | n+1,0,hd,_,_,_,_,_=>by omega
 | n+1,d+1,hd,t,ks,vs,h,hl=>by
  simp only [flatK] at h
  split at h
  ·rename_i hu;simp [Instr.checkKey,run_underlying hu]
  ·rename_i hu;simp [Instr.checkKey,run_underlying hu]
  ·rename_i hu;simp [Instr.checkKey,run_underlying hu]
  ·rename_i fs hu
   split at h
   ·cases h
   ·rw [Y7 hu]
    have hm:=ZeW fs.toList 0 ks h
    simp only [Instr.checkKey,Sem.run_bind,run_underlying hu,Result.andThen_ok]
    rw [<-Array.forIn_toList]
    rw [Zog fs.toList]
    ·rfl
    intro f hf
    obtain ⟨a,ks1,b,c,e⟩:=hm f hf
    have hle:f.offset+ks1.length<=vs.length:=by omega
    have hp:=Zj2 (E:=E) (w:=w) ⟨n,b⟩ c vs f.offset hle
    have hc:=Zdh em n d (by omega) f.type ks1 ((vs.drop f.offset).take ks1.length) b (by simp;omega)
    simp [a,hp,hc,Result.andThen]
  ·cases h
theorem Zb6 (hE:ZQ E) {k:TypeId} {ks:List SK} (h:Zd0 E k=some ks) {key:PV} (ha:key.isAgg=Zan E k) (hl:key.cells.length=ks.length) (em:Bool):(Instr.checkKey em 10000 k key.toVal).run E.P w=.ok () w:=by
 obtain ⟨n,hn,hf⟩:=ZlH hE h
 rw [<-Zgz hE h ha]
 exact Zdh em n 10000 (by omega) k ks _ hf (by simpa using hl)
theorem ZeX {p:PV} (h:p.flat1=true) (n:Nat):Instr.sameBits n p.toVal1 p.toVal1=true:=by
 have hs:∀s:ByteArray,(s == s)=true:=λ s=>by
  have:(s == s)=decide (s=s):=by rw [<-Zhb,beq_toListBytes]
  rw [this];simp
 cases p<;>simp [PV.flat1] at h<;>cases n<;>simp [PV.toVal1,Instr.sameBits,hs]
theorem Zlb {p:PV} (h:p.flat=true) (n:Nat):Instr.sameBits (n+1) p.toVal p.toVal=true:=by
 by_cases ha:p.isAgg=true
 ·cases p with
  | agg cs =>
   simp only [PV.toVal,Instr.sameBits,beq_self_eq_true,ZyL,Zym]
   intro x hx
   obtain ⟨i,hi⟩:=ZyF hx
   rw [List.getElem?_zip_eq_some] at hi
   obtain ⟨a,b⟩:=hi
   rw [a] at b
   cases x with
   | mk x y =>
    simp only [Zyu] at a b
    subst b
    have:x∈cs.map PV.toVal1:=by simpa using Zyb a
    obtain ⟨p,hp,rfl⟩:=Zyz.1 this
    exact ZeX (Zym.1 h p hp) n
  | _=>simp [PV.isAgg] at ha
 ·have e:p.toVal=p.toVal1:=by cases p<;>first | rfl | (simp [PV.isAgg] at ha;done)
  have f:p.flat1=true:=by cases p<;>first | exact h | (simp [PV.isAgg] at ha;done)
  rw [e]
  exact ZeX f (n+1)
theorem Zhf {p:PV} (h:p.flat=true):(Instr.keyThatStays p.toVal p.toVal).run E.P w=.ok p.toVal w:=by
 simp [Instr.keyThatStays,Zlb h 9999]
def ZhM (es:List (PV × PV)):Prop:=(es.map (·.1)).Nodup
theorem Zqg {es:List (PV × PV)} (h:ZhM es) {p q:PV × PV} (hp:p∈es) (hq:q∈es) (e:p.1=q.1):p=q:=by
 induction es with
 | nil=>cases hp
 | cons a r ih =>
  have h':a.1∉r.map (·.1)/\ZhM r:=by
   have:(a.1::r.map (·.1)).Nodup:=h
   exact Z01.1 this
  rcases ZyJ.1 hp with h1 | h1
  ·rcases ZyJ.1 hq with h2 | h2
   ·rw [h1,h2]
   ·exact absurd (Zyz.2 ⟨q,h2,by rw [<-e,h1]⟩) h'.1
  ·rcases ZyJ.1 hq with h2 | h2
   ·exact absurd (Zyz.2 ⟨p,h1,by rw [e,h2]⟩) h'.1
   ·exact ih h'.2 h1 h2
theorem ZbR {es:List (PV × PV)} (hn:ZhM es) {k:PV} (hk:k.flat=true) {v:PV}:QG es k=some v↔(k,v)∈es:=by
 unfold QG
 constructor
 ·intro h
  obtain ⟨p,hp,rfl⟩:=ZyG.1 h
  have h1:=List.find?_some hp
  rw [Za3 hk] at h1
  rw [h1]
  exact List.mem_of_find?_eq_some hp
 ·intro h
  cases hq:es.find? (λ p=>keq k p.1) with
  | none =>
   have:=Z0i.1 hq (k,v) h
   simp [ZdI hk] at this
  | some p =>
   have h1:=List.find?_some hq
   rw [Za3 hk] at h1
   have:=Zqg hn (List.mem_of_find?_eq_some hq) h h1.symm
   rw [this]
   rfl
theorem Zj8 {es es':List (PV × PV)} (hp:es'.Perm es) (hn:ZhM es) {k:PV} (hk:k.flat=true):QG es' k=QG es k:=by
 have hn':ZhM es':=(hp.map _).nodup_iff.2 hn
 apply Option.ext
 intro v
 rw [ZbR hn' hk,ZbR hn hk]
 exact hp.mem_iff
theorem ZrY {es es':List (PV × PV)} (hp:es'.Perm es) (k:PV):ZeS es' k=ZeS es k:=by
 unfold ZeS
 rw [ZyA,Zzy,Zzy]
 exact ⟨λ ⟨x,h,e⟩=>⟨x,hp.mem_iff.1 h,e⟩,λ ⟨x,h,e⟩=>⟨x,hp.mem_iff.2 h,e⟩⟩
theorem ZrZ {es es':List (PV × PV)} (hp:es'.Perm es) (k v:PV):(Zdz es' k v).Perm (Zdz es k v):=by
 unfold Zdz
 rw [ZrY hp]
 split
 ·exact hp.map _
 ·exact hp.append_right _
theorem ZlI {es es':List (PV × PV)} (hp:es'.Perm es) (k:PV):(ZiZ es' k).Perm (ZiZ es k):=hp.filter _
theorem Zoh {es:List (PV × PV)} (hn:ZhM es) {k v:PV} (hk:k.flat=true) {j:Nat} {p:PV × PV} (hj:es[j]?=some p) (he:keq k p.1=true):Zdz es k v=es.set j (p.1,v):=by
 have hh:ZeS es k=true:=Zzy.2 ⟨p,Zyb hj,he⟩
 unfold Zdz
 rw [if_pos hh]
 apply ZyS
 intro i
 rw [Zyh,ZyC]
 split
 ·rename_i e
  subst e
  have hl:=(ZxZ.1 hj).1
  rw [hj]
  simp [he,hl]
 ·rename_i e
  cases hq:es[i]? with
  | none=>rfl
  | some q =>
   have hne:keq k q.1≠true:=λ h1=>by
    rw [Za3 hk] at h1 he
    have h2:(es.map (·.1))[j]?=some p.1:=by rw [Zyh,hj];rfl
    have h3:(es.map (·.1))[i]?=some q.1:=by rw [Zyh,hq];rfl
    exact e ((ZzM (by have:=(ZxZ.1 hj).1;simpa using this) hn).1 (h2.trans (by rw [h3,<-h1,<-he])))
   simp [hne]
theorem ZeY {es:List (PV × PV)} {k v:PV} (h:∀p∈es,keq k p.1=false):Zdz es k v=es++[(k,v)]/\ZkX es k v=es++[(k,v)]/\ZiZ es k=es/\QG es k=none:=by
 have hh:ZeS es k=false:=by unfold ZeS;rw [Zz1];intro x hx;simp [h x hx]
 refine ⟨by simp [Zdz,hh],by simp [ZkX,hh],?_,?_⟩
 ·unfold ZiZ;rw [List.filter_eq_self];intro x hx;simp [h x hx]
 ·unfold QG;rw [Z0g,Z0i];intro x hx;simp [h x hx]
theorem Zqh {es:List (PV × PV)} (hn:ZhM es) {k:PV} (hk:k.flat=true) {j:Nat} {p:PV × PV} (hj:es[j]?=some p) (he:keq k p.1=true):ZiZ es k=es.eraseIdx j:=by
 unfold ZiZ
 refine ChangeMaps.filter_eq_eraseIdx (λ p:PV × PV=>keq k p.1) es j p hj he ?_
 have:es.Pairwise λ a b=>a.1≠b.1:=by
  have:=hn
  unfold ZhM at this
  rw [List.Nodup,List.pairwise_map] at this
  exact this
 exact this.imp λ hne ⟨h1,h2⟩=>hne (by rw [Za3 hk] at h1 h2;rw [<-h1,<-h2])
theorem ZrD {es:List (PV × PV)} (hn:ZhM es) {k:PV} (hk:k.flat=true) {j:Nat} {p:PV × PV} (hj:es[j]?=some p) (he:keq k p.1=true):QG es k=some p.2:=by
 rw [ZbR hn hk]
 rw [Za3 hk] at he
 rw [he]
 exact Zyb hj
theorem ZbM.at_ {es:List (PV × PV)} {arr:Array MapEntry} {clock:Nat} (h:ZbM es arr clock):Zg0 es arr.toList :=
 ⟨by simp [h.len],λ i p x a b=>h.key i p x a (by simpa using b)⟩
theorem Zdi {ag:Bool} {ks:List SK} {es es':List (PV × PV)} {k:PV} (hp:es'.Perm es) (h:Yu ag ks es k):Yu ag ks es' k:=⟨h.1,h.2.1,λ p hm=>h.2.2 p (hp.mem_iff.1 hm)⟩
theorem ZlJ {es:List (PV × PV)} {arr:Array MapEntry} {f:MapEntry->MapEntry} {j:Nat} {x:MapEntry} {r:PV × PV} (hx:arr[j]?=some x) {i:Nat} {q:PV × PV} {y:MapEntry} (hq:(es.set j r)[i]?=some q) (hy:(arr.modify j f)[i]?=some y) :
  (i=j/\q=r/\y=f x)\/(i≠j/\es[i]?=some q/\arr[i]?=some y):=by
 rw [ZyC] at hq
 rw [Z0n] at hy
 split at hq
 ·rename_i e
  subst e
  rw [if_pos rfl,hx] at hy
  split at hq
  ·cases hq;cases hy;exact .inl ⟨rfl,rfl,rfl⟩
  ·cases hq
 ·rename_i e
  rw [if_neg e] at hy
  exact .inr ⟨λ h=>e h.symm,hq,hy⟩
theorem ZbM.modify {es:List (PV × PV)} {arr:Array MapEntry} {clock:Nat} (h:ZbM es arr clock) {f:MapEntry->MapEntry} {j:Nat} {x:MapEntry} {p:PV × PV} (hj:es[j]?=some p) (hx:arr[j]?=some x) (hk:(f x).key=x.key) (hb:(f x).born=x.born) (v:PV) :
  ZbM (es.set j (p.1,v)) (arr.modify j f) clock:=by
 have hbl:(arr.modify j f).toList.map (·.born)=arr.toList.map (·.born):=by
  apply ZyS
  intro i
  rw [Zyh,Zyh,Zy2,Zy2,Z0n]
  split
  ·rename_i e;subst e;rw [hx];simp [hb]
  ·rfl
 refine ⟨by simp [h.len],λ i q y hq hy=>?_,λ y hy=>?_,by rw [hbl];exact h.nodB,?_⟩
 ·rcases ZlJ hx hq hy with ⟨rfl,rfl,rfl⟩ | ⟨_,a,b⟩
  ·have:=h.key i p x hj hx
   exact ⟨this.1,hk.trans this.2⟩
  ·exact h.key i q y a b
 ·have:y.born∈(arr.modify j f).toList.map (·.born):=Zyz.2 ⟨y,hy,rfl⟩
  rw [hbl] at this
  obtain ⟨z,hz,e⟩:=Zyz.1 this
  rw [<-e]
  exact h.born z hz
 ·rw [List.map_set]
  have:(es.map (·.1)).set j p.1=es.map (·.1):=by
   apply ZyS
   intro i
   rw [ZyC]
   split
   ·rename_i e;subst e
    rw [Zyh,hj]
    have:=(ZxZ.1 hj).1
    simp [this]
   ·rfl
  rw [this]
  exact h.nodK
theorem ZrE {es:List (PV × PV)} {arr:Array MapEntry} (hl:es.length=arr.size) {r:PV × PV} {x:MapEntry} {i:Nat} {q:PV × PV} {y:MapEntry} (hq:(es++[r])[i]?=some q) (hy:(arr.push x)[i]?=some y) :
  (es[i]?=some q/\arr[i]?=some y)\/(q=r/\y=x):=by
 rcases Zzs i es.length with h | h | h
 ·rw [Zye h] at hq
  rw [Array.getElem?_push_lt (by omega)] at hy
  exact .inl ⟨hq,by rw [<-hy];exact Zyn (by omega)⟩
 ·subst h
  simp at hq
  rw [hl,Array.getElem?_push_size] at hy
  cases hy
  exact .inr ⟨hq.symm,rfl⟩
 ·rw [Zyw (by simp;omega)] at hq
  cases hq
theorem ZbM.push {es:List (PV × PV)} {arr:Array MapEntry} {clock:Nat} (h:ZbM es arr clock) {k v:PV} (hk:k.flat=true) (hn:∀p∈es,keq k p.1=false) (val:Value) :
  ZbM (es++[(k,v)]) (arr.push ⟨k.toVal,val,clock⟩) (clock+1):=by
 refine ⟨by simp [h.len],λ i q y hq hy=>?_,λ y hy=>?_,?_,?_⟩
 ·rcases ZrE h.len hq hy with ⟨a,b⟩ | ⟨rfl,rfl⟩
  ·exact h.key i q y a b
  ·exact ⟨hk,rfl⟩
 ·simp only [Array.toList_push,Zy4,Zy3] at hy
  rcases hy with hy | rfl
  ·have:=h.born y hy;omega
  ·exact Nat.lt_succ_self _
 ·rw [Array.toList_push,ZyX,ZzA]
  refine ⟨h.nodB,by simp,λ a ha b hb e=>?_⟩
  obtain ⟨y,hy,rfl⟩:=Zyz.1 ha
  simp at hb
  have:=h.born y hy
  omega
 ·rw [ZyX,ZzA]
  refine ⟨h.nodK,by simp,λ a ha b hb e=>?_⟩
  obtain ⟨p,hp,rfl⟩:=Zyz.1 ha
  simp at hb
  have:=hn p hp
  rw [<-hb,<-e,ZdI (by rw [e,hb];exact hk)] at this
  cases this
theorem Zoi {es:List (PV × PV)} {arr:Array MapEntry} (hl:es.length=arr.size) {j:Nat} (hj:j<arr.size) {i:Nat} {q:PV × PV} {y:MapEntry} (hq:(es.eraseIdx j)[i]?=some q) (hy:(arr.eraseIdxIfInBounds j)[i]?=some y) :
  ∃i',i'≠j/\es[i']?=some q/\arr[i']?=some y:=by
 have hsub:(arr.eraseIdxIfInBounds j).toList=arr.toList.eraseIdx j:=by
  unfold Array.eraseIdxIfInBounds
  rw [dif_pos hj]
  simp
 rw [<-Zy2,hsub,List.getElem?_eraseIdx,Zy2,Zy2] at hy
 rw [List.getElem?_eraseIdx] at hq
 split at hq
 ·rename_i h;rw [if_pos h] at hy;exact ⟨i,by omega,hq,hy⟩
 ·rename_i h;rw [if_neg h] at hy;exact ⟨i+1,by omega,hq,hy⟩
theorem ZbM.erase {es:List (PV × PV)} {arr:Array MapEntry} {clock:Nat} (h:ZbM es arr clock) {j:Nat} (hj:j<arr.size):ZbM (es.eraseIdx j) (arr.eraseIdxIfInBounds j) clock:=by
 have hsub:(arr.eraseIdxIfInBounds j).toList=arr.toList.eraseIdx j:=by
  unfold Array.eraseIdxIfInBounds
  rw [dif_pos hj]
  simp
 refine ⟨?_,λ i q y hq hy=>?_,λ y hy=>?_,?_,?_⟩
 ·have h1:(arr.eraseIdxIfInBounds j).size=(arr.toList.eraseIdx j).length:=by rw [<-hsub,Zzk]
  rw [h1,List.length_eraseIdx,List.length_eraseIdx,h.len]
  simp
 ·obtain ⟨i',_,a,b⟩:=Zoi h.len hj hq hy
  exact h.key i' q y a b
 ·rw [hsub] at hy
  exact h.born y ((List.eraseIdx_sublist _ _).subset hy)
 ·rw [hsub]
  exact h.nodB.sublist ((List.eraseIdx_sublist _ _).map _)
 ·exact h.nodK.sublist ((List.eraseIdx_sublist _ _).map _)
theorem Zj9 (hE:ZQ E) {e:TypeId} {z:PV} (hz:Zef (E.T e)=some z):∃zv,(zeroValue e).run E.P w=.ok zv w/\RV S w z zv:=by
 unfold Zef at hz
 have hi:=(hE.td e).info
 split at hz
 ·rename_i hag
  cases hz
  obtain ⟨i,zv,u,h1,_,_,h2,h3,_,_,h4,_⟩:=hi (.inr hag)
  rw [if_pos hag] at h4
  obtain ⟨cs,rfl⟩:=h4
  refine ⟨.agg cs,by simp only [zeroValue,typeInfo,Sem.run_bind,run_program,Result.andThen_ok,h1,Sem.run_pure,h2],?_⟩
  rw [<-h3]
  exact RV.agg _ cs.toList (by simp [Value.cells]) (RVs.const cs.toList).2
 ·rename_i hag
  split at hz
  ·rename_i h1
   obtain ⟨i,zv,u,h1,_,_,h2,h3,_,_,h4,_⟩:=hi (.inl (by omega))
   rw [if_neg hag] at h4
   split at hz
   ·rename_i z' hz'
    cases hz
    refine ⟨zv,by simp only [zeroValue,typeInfo,Sem.run_bind,run_program,Result.andThen_ok,h1,Sem.run_pure,h2],?_⟩
    have hc:zv.cells=#[zv]:=by cases zv<;>simp_all [Value.cells,Value.oneCell']
    rw [hz',hc] at h3
    simp at h3
    rw [<-h3]
    exact RV.const zv
   ·cases hz
  ·cases hz
section
variable {t k e:TypeId} {ks:List SK} {b:Nat} {arr:Array MapEntry} {clock:Nat} {es es0:List (PV × PV)} {key z:PV}
theorem Zqi (hE:ZQ E) (ht:E.P.underlying t=some (.map k e)) (hk:Zd0 E k=some ks) (hz:Zef (E.T e)=some z) (hb:w.heap[b]?=some (.map arr clock)) (hp:es0.Perm es) (he:ZbM es0 arr clock)
  (hv:∀(i:Nat) (p:PV × PV) (x:MapEntry),es0[i]?=some p->arr[i]?=some x->RV S w p.2 x.val) (ho:Yu (Zan E k) ks es key) (ok:Bool) :
  ∃v,(Instr.lookup t (.map (some b)) key.toVal ok).run E.P w=.ok v w/\RV S w (if ok then .tup [(QG es key).getD z,.bool (QG es key).isSome] else (QG es key).getD z) v:=by
 have ho':=Zdi hp ho
 have hn:ZhM es:=show (es.map (·.1)).Nodup from (hp.map (·.1)).nodup_iff.1 he.nodK
 rw [<-Zj8 hp hn ho.1.1]
 have hck:=Zb6 (w:=w) hE hk ho.2.1 ho.1.2 arr.isEmpty
 rcases Zce (w:=w) hE hk he.at_ ho' with ⟨a,h1⟩ | ⟨j,p,x,a,c,d,h1⟩
 ·obtain ⟨zv,hz1,hz2⟩:=Zj9 (S:=S) (w:=w) hE hz
  rw [(ZeY (v:=z) a).2.2.2]
  refine ⟨if ok then .tuple #[zv,.bool false] else zv,?_,?_⟩
  ·simp [Instr.lookup,run_underlying ht,MapKept.run_getObj_map hb,hck,h1,hz1,Result.andThen]
  ·cases ok
   ·exact hz2
   ·exact RV.tup _ [zv,.bool false] rfl (RVs.cons hz2 (RVs.cons (.bool _) RVs.nil)).2
 ·rw [ZrD he.nodK ho.1.1 a d]
  have hx:=hv j p x a (by simpa using c)
  refine ⟨if ok then .tuple #[x.val,.bool true] else x.val,?_,?_⟩
  ·simp [Instr.lookup,run_underlying ht,MapKept.run_getObj_map hb,hck,h1,Result.andThen]
  ·cases ok
   ·exact hx
   ·exact RV.tup _ [x.val,.bool true] rfl (RVs.cons hx (RVs.cons (.bool _) RVs.nil)).2
theorem Zlc (hE:ZQ E) (ht:E.P.underlying t=some (.map k e)) (hk:Zd0 E k=some ks) (hz:Zef (E.T e)=some z) (ho:Yu (Zan E k) ks [] key) (ok:Bool) :
  ∃v,(Instr.lookup t (.map none) key.toVal ok).run E.P w=.ok v w/\RV S w (if ok then .tup [(QG [] key).getD z,.bool (QG [] key).isSome] else (QG [] key).getD z) v:=by
 have hck:=Zb6 (w:=w) hE hk ho.2.1 ho.1.2 true
 obtain ⟨zv,hz1,hz2⟩:=Zj9 (S:=S) (w:=w) hE hz
 rcases Zce (w:=w) (es:=[]) (l:=[]) hE hk ⟨rfl,by simp⟩ ho with ⟨a,h1⟩ | ⟨j,p,x,a,_⟩
 ·refine ⟨if ok then .tuple #[zv,.bool false] else zv,?_,?_⟩
  ·simp [Instr.lookup,run_underlying ht,hck,h1,hz1,Result.andThen]
  ·cases ok
   ·exact hz2
   ·exact RV.tup _ [zv,.bool false] rfl (RVs.cons hz2 (RVs.cons (.bool _) RVs.nil)).2
 ·simp at a
structure ZlK (S:Addr->Prop) (w:World) (b:Nat) (arr:Array MapEntry) (clock:Nat) (es:List (PV × PV)) (arr':Array MapEntry) (clock':Nat) (es0':List (PV × PV)):Prop where
 perm:es0'.Perm es
 ents:ZbM es0' arr' clock'
 vals:∀(i:Nat) (p:PV × PV) (x:MapEntry),es0'[i]?=some p->arr'[i]?=some x->RV S w p.2 x.val
 keep:∀x∈arr.toList,∃x'∈arr'.toList,x'.key=x.key/\x'.born=x.born
 back:clock'=clock->∀x'∈arr'.toList,∃x∈arr.toList,x'.key=x.key/\x'.born=x.born
theorem Zel (hp:es0.Perm es) (he:ZbM es0 arr clock) (hv:∀(i:Nat) (p:PV × PV) (x:MapEntry),es0[i]?=some p->arr[i]?=some x->RV S w p.2 x.val) (hk:key.flat=true) {j:Nat} {p:PV × PV} {x:MapEntry} (hj:es0[j]?=some p) (hx:arr[j]?=some x)
  (hq:keq key p.1=true) {f:MapEntry->MapEntry} (fk:∀y,y.key=key.toVal->(f y).key=y.key) (fb:∀y,(f y).born=y.born) {v:PV} (fv:RV S w v (f x).val):ZlK S w b arr clock (Zdz es key v) (arr.modify j f) clock (es0.set j (p.1,v)):=by
 have hxk:x.key=key.toVal:=by rw [(he.key j p x hj hx).2,<-(Za3 hk).1 hq]
 have hl:∀i y,arr[i]?=some y->(arr.modify j f)[i]?=some (if j=i then f y else y):=λ i y h=>by
  rw [Z0n,h];split<;>rfl
 refine ⟨?_,he.modify hj hx (fk x hxk) (fb x) v,λ i q y hq hy=>?_,λ y hy=>?_,λ _ y hy=>?_⟩
 ·rw [<-Zoh he.nodK hk hj hq]
  exact ZrZ hp key v
 ·rcases ZlJ hx hq hy with ⟨rfl,rfl,rfl⟩ | ⟨_,a,b⟩
  ·exact fv
  ·exact hv i q y a b
 ·obtain ⟨i,hi⟩:=ZyF hy
  have h1:=hl i y (by simpa using hi)
  refine ⟨_,Zyb (by rw [Zy2];exact h1),?_,?_⟩
  ·split
   ·rename_i e;subst e
    have:y=x:=by rw [<-Zy2] at hx;rw [hi] at hx;exact Zyc hx
    rw [this];exact fk x hxk
   ·rfl
  ·split
   ·exact fb y
   ·rfl
 ·obtain ⟨i,hi⟩:=ZyF hy
  have h2:i<arr.size:=by
   have:=(ZxZ.1 hi).1
   simpa using this
  have h1:=hl i _ (Zyn h2)
  have h3:y=if j=i then f arr[i] else arr[i]:=by
   have:(arr.modify j f)[i]?=some y:=by rw [<-Zy2];exact hi
   rw [h1] at this
   exact (Zyc this).symm
  refine ⟨arr[i],by simp,?_,?_⟩
  ·rw [h3]
   split
   ·rename_i e;subst e
    have:arr[j]=x:=by rw [Zyn h2] at hx;exact Zyc hx
    rw [this];exact fk x hxk
   ·rfl
  ·rw [h3]
   split
   ·exact fb _
   ·rfl
theorem ZjA (hp:es0.Perm es) (he:ZbM es0 arr clock) (hv:∀(i:Nat) (p:PV × PV) (x:MapEntry),es0[i]?=some p->arr[i]?=some x->RV S w p.2 x.val) (hk:key.flat=true) (hn:∀p∈es0,keq key p.1=false)
  {v:PV} {val:Value} (fv:RV S w v val):ZlK S w b arr clock (es++[(key,v)]) (arr.push ⟨key.toVal,val,clock⟩) (clock+1) (es0++[(key,v)]):=by
 refine ⟨hp.append_right _,he.push hk hn val,λ i q y hq hy=>?_,λ y hy=>⟨y,by simp at hy ⊢;exact .inl hy,rfl,rfl⟩,λ e=>by omega⟩
 rcases ZrE he.len hq hy with ⟨a,b⟩ | ⟨rfl,rfl⟩
 ·exact hv i q y a b
 ·exact fv
theorem Zoj (hp:es0.Perm es) (hn:∀p∈es0,keq key p.1=false):∀p∈es,keq key p.1=false:=λ p h=>hn p (hp.mem_iff.2 h)
theorem Zld (hE:ZQ E) (ht:E.P.underlying t=some (.map k e)) (hk:Zd0 E k=some ks) (hb:w.heap[b]?=some (.map arr clock)) (hp:es0.Perm es) (he:ZbM es0 arr clock)
  (hv:∀(i:Nat) (p:PV × PV) (x:MapEntry),es0[i]?=some p->arr[i]?=some x->RV S w p.2 x.val) (ho:Yu (Zan E k) ks es key) {v:PV} {val:Value} (fv:RV S w v val) :
  ∃arr' clock' es0',(Instr.mapUpdate t (.map (some b)) key.toVal val).run E.P w=.ok () (ChangeMaps.setBlock w b (.map arr' clock'))/\ZlK S w b arr clock (Zdz es key v) arr' clock' es0'/\(ZeS es key=true->clock'=clock):=by
 have ho':=Zdi hp ho
 have hck:=Zb6 (w:=w) hE hk ho.2.1 ho.1.2 false
 rcases Zce (w:=w) hE hk he.at_ ho' with ⟨a,h1⟩ | ⟨j,p,x,a,c,d,h1⟩
 ·refine ⟨_,_,_,?_,by rw [(ZeY (v:=v) (Zoj hp a)).1];exact ZjA hp he hv ho.1.1 a fv,λ h=>?_⟩
  ·simp [Instr.mapUpdate,run_underlying ht,MapKept.run_getObj_map hb,hck,h1,MapKept.run_setObj_map _ hb,Result.andThen,ChangeMaps.setBlock]
  ·obtain ⟨q,hq,hqk⟩:=Zzy.1 h
   rw [Zoj hp a q hq] at hqk
   cases hqk
 ·have hxk:x.key=key.toVal:=by rw [(he.key j p x a (by simpa using c)).2,<-(Za3 ho.1.1).1 d]
  have hc':arr[j]?=some x:=by simpa using c
  refine ⟨arr.modify j λ y=>{ y with key:=key.toVal,val:=val },clock,_,?_,Zel hp he hv ho.1.1 a hc' d (f:=λ y=>{ y with key:=key.toVal,val:=val }) (λ y h=>h.symm) (λ _=>rfl) fv,λ _=>rfl⟩
  simp [Instr.mapUpdate,run_underlying ht,MapKept.run_getObj_map hb,hck,h1,hc',hxk,Zhf ho.1.1,MapKept.run_setObj_map _ hb,Result.andThen,ChangeMaps.setBlock]
theorem ZmP (hE:ZQ E) (ht:E.P.underlying t=some (.map k e)) (hk:Zd0 E k=some ks) (hz:Zef (E.T e)=some z) (hb:w.heap[b]?=some (.map arr clock)) (hp:es0.Perm es) (he:ZbM es0 arr clock)
  (hv:∀(i:Nat) (p:PV × PV) (x:MapEntry),es0[i]?=some p->arr[i]?=some x->RV S w p.2 x.val) (ho:Yu (Zan E k) ks es key) :
  ∃arr' clock' es0' v n,(Instr.mapEntry t (.map (some b)) key.toVal).run E.P w=.ok (.tuple #[v,.int .i64 n]) (ChangeMaps.setBlock w b (.map arr' clock'))/\ZlK S w b arr clock (ZkX es key z) arr' clock' es0'/\(ZeS es key=true->clock'=clock) /\
   RV S w ((QG es key).getD z) v/\∃x∈arr'.toList,x.key=key.toVal/\(x.born:Int)=n:=by
 have ho':=Zdi hp ho
 have hn:ZhM es:=show (es.map (·.1)).Nodup from (hp.map (·.1)).nodup_iff.1 he.nodK
 have hck:=Zb6 (w:=w) hE hk ho.2.1 ho.1.2 false
 rcases Zce (w:=w) hE hk he.at_ ho' with ⟨a,h1⟩ | ⟨j,p,x,a,c,d,h1⟩
 ·obtain ⟨zv,hz1,hz2⟩:=Zj9 (S:=S) (w:=w) hE hz
  refine ⟨arr.push ⟨key.toVal,zv,clock⟩,clock+1,es0++[(key,z)],zv,clock,?_,by rw [(ZeY (v:=z) (Zoj hp a)).2.1];exact ZjA hp he hv ho.1.1 a hz2,λ h=>?_,?_,⟨key.toVal,zv,clock⟩,by simp,rfl,rfl⟩
  ·simp [Instr.mapEntry,run_underlying ht,MapKept.run_getObj_map hb,hck,h1,hz1,MapKept.run_setObj_map _ hb,Result.andThen,ChangeMaps.setBlock,goInt]
  ·obtain ⟨q,hq,hqk⟩:=Zzy.1 h
   rw [Zoj hp a q hq] at hqk
   cases hqk
  ·rw [(ZeY (v:=z) (Zoj hp a)).2.2.2]
   exact hz2
 ·have hc':arr[j]?=some x:=by simpa using c
  have hxk:x.key=key.toVal:=by rw [(he.key j p x a hc').2,<-(Za3 ho.1.1).1 d]
  have hh:ZeS es key=true:=Zzy.2 ⟨p,hp.mem_iff.1 (Zyb a),d⟩
  have hl:QG es key=some p.2:=by rw [<-Zj8 hp hn ho.1.1];exact ZrD he.nodK ho.1.1 a d
  have hp2:Zdz es key p.2=es:=by
   have h2:(key,p.2)∈es:=(ZbR hn ho.1.1).1 hl
   obtain ⟨i,hi⟩:=ZyF h2
   rw [Zoh hn ho.1.1 hi (ZdI ho.1.1)]
   apply ZyS
   intro i'
   rw [ZyC]
   split
   ·rename_i e;subst e;rw [hi];have:=(ZxZ.1 hi).1;simp [this]
   ·rfl
  have hw:=Zel (b:=b) hp he hv ho.1.1 a hc' d (f:=λ y=>{ y with key:=key.toVal }) (λ y h=>h.symm) (λ _=>rfl) (v:=p.2) (hv j p x a hc')
  rw [hp2] at hw
  refine ⟨arr.modify j λ y=>{ y with key:=key.toVal },clock,_,x.val,x.born,?_,by rw [show ZkX es key z=es by simp [ZkX,hh]];exact hw,λ _=>rfl,by rw [hl];exact hv j p x a hc',?_⟩
  ·simp [Instr.mapEntry,run_underlying ht,MapKept.run_getObj_map hb,hck,h1,hc',hxk,Zhf ho.1.1,MapKept.run_setObj_map _ hb,Result.andThen,ChangeMaps.setBlock,goInt]
  ·obtain ⟨x',h2,h3,h4⟩:=hw.keep x (by rw [<-Zy2] at hc';exact Zyb hc')
   exact ⟨x',h2,h3.trans hxk,by rw [h4]⟩
theorem ZjB (hb:w.heap[b]?=some (.map arr clock)) (hp:es0.Perm es) (he:ZbM es0 arr clock)
  (hv:∀(i:Nat) (p:PV × PV) (x:MapEntry),es0[i]?=some p->arr[i]?=some x->RV S w p.2 x.val) {n:Int} (hk:key.flat=true) (hn:∃x∈arr.toList,x.key=key.toVal/\(x.born:Int)=n) {v:PV} {val:Value} (fv:RV S w v val) :
  ∃arr' es0',(Instr.entryStore t (.map (some b)) (.int .i64 n) val).run E.P w=.ok () (ChangeMaps.setBlock w b (.map arr' clock))/\ZlK S w b arr clock (Zdz es key v) arr' clock es0':=by
 obtain ⟨x,hx,hxk,hxn⟩:=hn
 obtain ⟨j,hj⟩:=ZyF hx
 have hj':arr[j]?=some x:=by simpa using hj
 have hjl:j<es0.length:=by rw [he.len];exact (Zyv.1 hj').1
 obtain ⟨p,hpj⟩:∃p,es0[j]?=some p:=⟨_,Zya hjl⟩
 have h1:=he.key j p x hpj hj'
 have hpk:keq key p.1=true:=(Za3 hk).2 (ZbQ hk h1.1 (hxk.symm.trans h1.2))
 have hfind:arr.findIdx? (λ y=>(y.born:Int) == n)=some j:=by
  rw [Array.findIdx?_eq_some_iff_getElem]
  refine ⟨(Zyv.1 hj').1,?_,λ i hi=>?_⟩
  ·have:=(Zyv.1 hj').2
   rw [this]
   simpa using hxn
  ·have hjs:=(Zyv.1 hj').1
   intro h2
   have h3:(arr[i].born:Int)=n:=by simpa using h2
   have h4:arr[i].born=x.born:=by omega
   have h5:(arr.toList.map (·.born))[i]?=(arr.toList.map (·.born))[j]?:=by
    rw [Zyh,Zyh,hj,Zy2,Zyn (by omega)]
    simp [h4]
   have:=(ZzM (by simp;omega) he.nodB).1 h5
   omega
 refine ⟨arr.modify j λ y=>{ y with val:=val },_,?_,Zel hp he hv hk hpj hj' hpk (f:=λ y=>{ y with val:=val }) (λ _ _=>rfl) (λ _=>rfl) fv⟩
 simp [Instr.entryStore,MapKept.run_getObj_map hb,hfind,MapKept.run_setObj_map _ hb,Result.andThen,ChangeMaps.setBlock,asInt,asIntOf]
theorem Zqj {ty:TypeId} (hE:ZQ E) (ht:E.P.underlying t=some (.map k e)) (hk:Zd0 E k=some ks) (hb:w.heap[b]?=some (.map arr clock)) (hp:es0.Perm es) (he:ZbM es0 arr clock)
  (hv:∀(i:Nat) (p:PV × PV) (x:MapEntry),es0[i]?=some p->arr[i]?=some x->RV S w p.2 x.val) (ho:Yu (Zan E k) ks es key) :
  ∃arr' es0',(Builtin.delete_ #[t,k] ty #[.map (some b),key.toVal]).run E.P w=.ok (.tuple #[]) (ChangeMaps.setBlock w b (.map arr' clock))/\es0'.Perm (ZiZ es key)/\ZbM es0' arr' clock /\
   (∀(i:Nat) (p:PV × PV) (x:MapEntry),es0'[i]?=some p->arr'[i]?=some x->RV S w p.2 x.val)/\∀x,x∈arr'.toList↔(x∈arr.toList/\x.key≠key.toVal):=by
 have ho':=Zdi hp ho
 have hck:=Zb6 (w:=w) hE hk ho.2.1 ho.1.2 arr.isEmpty
 have hkeys:∀(i:Nat) (p:PV × PV) (x:MapEntry),es0[i]?=some p->arr[i]?=some x->(x.key=key.toVal↔keq key p.1=true):=λ i p x a c=>by
  obtain ⟨h1,h2⟩:=he.key i p x a c
  rw [Za3 ho.1.1,h2]
  exact ⟨λ h=>(ZbQ h1 ho.1.1 h).symm,λ h=>by rw [h]⟩
 rcases Zce (w:=w) hE hk he.at_ ho' with ⟨a,h1⟩ | ⟨j,p,x,a,c,d,h1⟩
 ·refine ⟨arr,es0,?_,?_,he,hv,λ x=>⟨λ hx=>⟨hx,λ h=>?_⟩,λ h=>h.1⟩⟩
  ·simp [Builtin.delete_,run_underlying ht,MapKept.run_getObj_map hb,hck,h1,MapKept.run_setObj_map _ hb,Result.andThen,ChangeMaps.setBlock]
  ·have:=ZlI hp key
   rwa [(ZeY (v:=key) a).2.2.1] at this
  ·obtain ⟨i,hi⟩:=ZyF hx
   have hi':arr[i]?=some x:=by simpa using hi
   have hil:i<es0.length:=by rw [he.len];exact (Zyv.1 hi').1
   have:=(hkeys i _ x (Zya hil) hi').1 h
   rw [a _ (Zzg hil)] at this
   cases this
 ·have hc':arr[j]?=some x:=by simpa using c
  have hjs:j<arr.size:=(Zyv.1 hc').1
  have hsub:(arr.eraseIdxIfInBounds j).toList=arr.toList.eraseIdx j:=by
   unfold Array.eraseIdxIfInBounds
   rw [dif_pos hjs]
   simp
  refine ⟨arr.eraseIdxIfInBounds j,es0.eraseIdx j,?_,?_,he.erase hjs,λ i q y hq hy=>?_,λ y=>?_⟩
  ·simp [Builtin.delete_,run_underlying ht,MapKept.run_getObj_map hb,hck,h1,MapKept.run_setObj_map _ hb,Result.andThen,ChangeMaps.setBlock]
  ·rw [<-Zqh he.nodK ho.1.1 a d]
   exact ZlI hp key
  ·obtain ⟨i',_,h2,h3⟩:=Zoi he.len hjs hq hy
   exact hv i' q y h2 h3
  ·rw [hsub,List.mem_eraseIdx_iff_getElem?]
   have hkj:=(hkeys j p x a hc').2 d
   constructor
   ·rintro ⟨i,hne,hi⟩
    refine ⟨Zyb hi,λ h=>hne ?_⟩
    have hi':arr[i]?=some y:=by simpa using hi
    have hil:i<es0.length:=by rw [he.len];exact (Zyv.1 hi').1
    have h2:=(hkeys i _ y (Zya hil) hi').1 h
    have h3:(es0.map (·.1))[i]?=(es0.map (·.1))[j]?:=by
     rw [Zyh,Zyh,a,Zya hil]
     simp only [Zy5,Zyu]
     rw [<-(Za3 ho.1.1).1 h2,<-(Za3 ho.1.1).1 d]
    exact (ZzM (by simpa using hil) he.nodK).1 h3
   ·rintro ⟨hy,hne⟩
    obtain ⟨i,hi⟩:=ZyF hy
    refine ⟨i,λ e=>hne ?_,hi⟩
    subst e
    rw [hi] at c
    cases c
    exact hkj
end
end
end Go.Abs
