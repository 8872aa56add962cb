/-
  overflightlaw21.StagesChoicesSpec: for all tables, schemes, flights, times and announced measures, Choices agrees with the reference. No conditions.
-/
import Derived.Test.YtcafjndjnfdnpaaGreatT9
import Derived.Test.YtcafjndjnfdnpaaGreatRows
set_option linter.unusedVariables false
set_option linter.unusedSimpArgs false
namespace Go.Abs
open Go.RowKit
instance:Inhabited PV:=⟨.any⟩
instance:Inhabited TD:=⟨⟨.other,0,0,false,none,[]⟩⟩
instance:Inhabited YS:=⟨.none⟩
instance:Inhabited SV:=⟨.undef⟩
section
variable {E:Env} {S:Addr->Prop} {w:World}
section
variable {t k e:TypeId} {ks:List SK} {b:Nat} {arr:Array MapEntry} {clock:Nat} {es es0:List (PV × PV)} {key z:PV}
end
end
section
variable {A:Ops} {E:Env}
theorem Ztq {sl sl':List SV} {bx bx':List (Option (List SV))} {tk tk':List (Nat × TypeId)} {ax:Ax} (h:leL sl sl') (h1:sl'.all (SV.within bx.length ax.mp.length tk.length)=true) (h2:bx.all (λ o=>match o with | none=>true | some cs=>cs.all (SV.within bx.length ax.mp.length tk.length))=true)
  (h3:sl'.all (SV.within bx.length ax.mp.length (tk++tk').length)=true) (h4:bx.all (λ o=>match o with | none=>true | some cs=>cs.all (SV.within bx.length ax.mp.length (tk++tk').length))=true) :
  Wk (0,0) ⟨sl,bx++bx',tk++tk',ax⟩ ⟨sl',bx,tk,ax⟩ :=
 Wk.trans _ _ _ (Wk.forget sl sl' _ _ ax h) (Wk.trans _ ⟨sl',bx,tk++tk',ax⟩ _ (by
  have:=Wk.drop (nb:=(0,0)) sl' bx bx' (tk++tk') ax.mp [] ax.yk (ZyQ _) (.inl rfl) h3 h4
  rw [Zzp] at this;exact this) (Wk.dropT sl' bx tk tk' ax rfl h1 h2))
end
end Go.Abs
namespace Go.Abs
theorem ZkN (lo hi d:Int):ZT (lo+d) (hi+d)=(ZT lo hi).map (·+d):=by
 unfold ZT
 rw [Zz8,show hi+d - (lo+d)+1=hi - lo+1 by omega]
 refine Zzr λ i _=>?_
 simp only [Zzu];omega
open Go.Proofs Go.RowKit
instance:DecidableEq Qo:=λ a b=>decidable_of_iff (a.Way=b.Way/\a.Times=b.Times) ⟨λ h=>by cases a;cases b;simp only at h;rw [h.1,h.2],λ h=>by rw [h];exact ⟨rfl,rfl⟩⟩
open Go.RowKit
section
variable {P:Program} {t e:TypeId}
end
section
variable {P:Program} {ts:Array TypeId} {vs:Array Value} {t:TypeId} {w:World} {r:Reach} {b0:Nat} {v:Value} {H:Type} {en:TypeId × Value->H} {sp:Nat->Bool} {held:Bool} {d:DataW H} {ps:List MemPlace} {α:Type} {enc:α->PV} {ok:α->Prop}
end
open Go.Proofs Go.RowKit
theorem Zm6 (l:List Y2) (m:Int) {xs:List PV} (hx:xs=Z4 l):Zc Tryz.prog 263 [.list 2 xs,.int .i64 m] (.bool (Zaj l m)):=by
 refine Zb (clo:=λ _=>false) (rows:=false) Zg Tryz.func263 rfl (enters_of Tryz.func263 (by kernel_rfl) rfl) (λ A q P Y hr hA hq=>?_)
 have hxl:xs.length=l.length:=by rw [hx];simp [Z4]
 have hlen:=(hr.mem (p:=.list 2 xs) (by simp)).len
 have hh:Zaj l m=(decide (0<=m)&&decide (m<1440)&&l.any (Zah m)):=rfl
 conv=>cbv
 split
 ·rename_i h
  conv=>cbv
  rw [<-hq,hh,Zyr (show ¬0<=m by have:=ltT hA h;omega)];rfl
 rename_i h
 have h0:=ltF hA h
 conv=>cbv
 split
 ·rename_i h2
  conv=>cbv
  rw [<-hq,hh,Zyr (show ¬m<1440 by have:=leT hA h2;omega)];simp
 rename_i h2
 have h3:=leF hA h2
 rw [Zyq (show 0<=m by omega),Zyq (show m<1440 by omega)] at hh
 simp only [Bool.and_self,ZyL] at hh
 conv=>cbv
 refine Zi hA (λ (i:Int) s=>s.put (some 5) (.val (.int .i64 i))) (λ i=>0<=i/\i<=(l.length:Int)/\(λ i=>(l.take i.toNat).any (Zah m)=false) i) (λ i=>((l.length:Int) - i).toNat) 0 ?_ ?_ ?_
 ·conv=>cbv
  exact Zk
 ·exact ⟨Zyk _,by omega,rfl⟩
 rintro R i ⟨hi0,hi1,hi2⟩ hRi
 conv=>cbv
 split
 · rename_i hc
   have hi:i<(l.length:Int):=ZE hA rfl (Zl hA hxl) hc
   have his:A.iAdd i 1=i+1:=Z5 hA _ _
   have hir:A.inR (A.iAdd i 1):=Zy hA his (by unfold Zj;omega)
   have him:((l.length:Int) - A.iAdd i 1).toNat<((l.length:Int) - i).toNat:=by rw [his];omega
   have hin:(λ i=>(l.take i.toNat).any (Zah m)=false) (i+1)->0<=A.iAdd i 1/\A.iAdd i 1<=(l.length:Int)/\(λ i=>(l.take i.toNat).any (Zah m)=false) (A.iAdd i 1):=λ h=>by rw [his];exact ⟨by omega,by omega,h⟩
   simp only at hin
   conv=>cbv
   obtain ⟨⟨a,b⟩,hx0⟩:∃x,l[i.toNat]?=some x:=⟨_,Zya (show i.toNat<l.length by omega)⟩
   have ht:=Zph (Zah m) hi0 hx0
   rw [hi2,ZzY] at ht
   refine Zci hA hx hi0 hi (λ z hz=>?_)
   obtain rfl:=Zyc ((hx0).symm.trans hz)
   clear hz
   conv=>cbv
   split
   ·rename_i hc
    have hc':=leT hA hc
    conv=>cbv
    refine Zci hA hx hi0 hi (λ z hz=>?_)
    obtain rfl:=Zyc ((hx0).symm.trans hz)
    clear hz
    conv=>cbv
    split
    ·rename_i hc2
     have hc2':=ltT hA hc2
     conv=>cbv
     rw [<-hq,hh,Zzy.2 ⟨_,Zyb hx0,by simp [Zah,hc',hc2']⟩]
    ·rename_i hc2
     have hc2':=ltF hA hc2
     conv=>cbv
     exact ⟨hir,hRi (A.iAdd i 1) _ (by (conv=>cbv);exact Zk) (hin (by rw [ht];simp only [Zah];rw [Zyr (show ¬m<b by omega)];simp)) him⟩
   ·rename_i hc
    have hc':=leF hA hc
    conv=>cbv
    exact ⟨hir,hRi (A.iAdd i 1) _ (by (conv=>cbv);exact Zk) (hin (by rw [ht];simp only [Zah];rw [Zyr (show ¬a<=m by omega)];simp)) him⟩
 rename_i hc
 have hi:i=(l.length:Int):=by have:=ZK hA rfl (Zl hA hxl) hc;omega
 conv=>cbv
 rw [hi,ZyR,Zze] at hi2
 rw [<-hq,hh,hi2]
open Go.Proofs Go.RowKit
section
variable {κ α:Type} [DecidableEq κ]
variable {ek:κ->PV} {f:α->PV} (hk:∀a b,keq (ek a) (ek b)=decide (a=b))
include hk
end
open Go.Proofs Go.RowKit Go.Sort
theorem Ztr (a b:Cell):Zfy a b=0↔a=b:=by
 constructor
 ·intro h
  rw [Zh5] at h
  repeat' split at h
  all_goals first | omega | exact Zps (by omega) (by omega) (by omega)
 ·rintro rfl
  rw [Zh5]
  repeat' split
  all_goals omega
open Go.Lib Go.Proofs Go.RowKit Go.Shelf Go.Sort
instance:Inhabited Cell:=⟨⟨false,0,0⟩⟩
open Go.Proofs Go.RowKit
set_option maxRecDepth 4000 in
open Go.Proofs Go.RowKit
theorem Zdx (a b:List Q8) {xs ys:List PV} (hx:xs=Qa a) (hy:ys=Qa b):Zc Tryz.prog 27 [.list 4 xs,.list 4 ys] (.bool (decide (a=b))):=by
 refine Zb (clo:=λ _=>false) (rows:=false) Zg Tryz.func27 rfl (enters_of Tryz.func27 (by kernel_rfl) rfl) (λ A q P Y hr hA hq=>?_)
 have hxl:xs.length=a.length:=by rw [hx];simp [Qa]
 have hyl:ys.length=b.length:=by rw [hy];simp [Qa]
 have hlen:a.length<=9223372036854775807:=by have:=(hr.mem (p:=.list 4 xs) (by simp)).len;omega
 have hbad:a≠b->PV.bool false=q:=λ h=>by rw [<-hq,Zyr h]
 have hgood:a=b->PV.bool true=q:=λ h=>by rw [<-hq,Zyq h]
 clear hq
 conv=>cbv
 split
 ·rename_i hc
  conv=>cbv
  exact hbad (λ h=>by have:=Zew hA (Zl hA hxl) (Zl hA hyl) hc;rw [h] at this;exact this rfl)
 rename_i g1;replace g1:=Zka hA (Zl hA hxl) (Zl hA hyl) g1
 conv=>cbv
 refine Zi hA (λ (i:Int) s=>s.put (some 5) (.val (.int .i64 i))) (λ i=>0<=i/\i<=(a.length:Int)/\(λ i=>a.take i.toNat=b.take i.toNat) i) (λ i=>((a.length:Int) - i).toNat) 0 ?_ ?_ ?_
 ·conv=>cbv
  exact Zk
 ·exact ⟨Zyk _,by omega,by simp⟩
 rintro R i ⟨hi0,hi1,hi2⟩ hRi
 conv=>cbv
 split
 · rename_i hc
   have hi:i<(a.length:Int):=ZE hA rfl (Zl hA hxl) hc
   have his:A.iAdd i 1=i+1:=Z5 hA _ _
   have hir:A.inR (A.iAdd i 1):=Zy hA his (by unfold Zj;omega)
   have him:((a.length:Int) - A.iAdd i 1).toNat<((a.length:Int) - i).toNat:=by rw [his];omega
   have hin:(λ i=>a.take i.toNat=b.take i.toNat) (i+1)->0<=A.iAdd i 1/\A.iAdd i 1<=(a.length:Int)/\(λ i=>a.take i.toNat=b.take i.toNat) (A.iAdd i 1):=λ h=>by rw [his];exact ⟨by omega,by omega,h⟩
   simp only at hin
   conv=>cbv
   refine ⟨Zm hA (by kernel_rfl),?_⟩
   refine ZbV hA hx hi0 hi (λ x u hx0 hu=>?_)
   have htk:=Zo hi0 hx0
   have hxe:=ZaX x hu
   conv=>cbv
   refine ZbV hA hy hi0 (by omega) (λ y w hy0 hw=>?_)
   have htk2:=Zo hi0 hy0
   have hye:=ZaX y hw
   have hsc:=Zeb x y
   rw [hxe,hye] at hsc
   have hne:decide (x=y)=false->a≠b:=λ h1 h2=>by
    rw [h2,hy0] at hx0
    cases hx0
    simp at h1
   have hnx:decide (x=y)=true->a.take (i+1).toNat=b.take (i+1).toNat:=λ h=>by rw [htk,htk2,ZyU h,hi2]
   generalize decide (x=y)=d at hsc hne hnx
   obtain ⟨x1,x2,x3,x4⟩:=x
   obtain ⟨y1,y2,y3,y4⟩:=y
   simp only at hsc
   conv=>cbv
   refine Za hA (hsc) ?_
   conv=>cbv
   cases d with
   | false =>
    conv=>cbv
    split
    rotate_left
    ·rename_i hc
     cases ((show False by have h9:false=true:=YP hA hc;cases h9))
    conv=>cbv
    exact hbad (hne rfl)
   | true =>
    conv=>cbv
    split
    ·rename_i hc
     cases ((show False by have h9:true=false:=Yy hA hc;cases h9))
    conv=>cbv
    exact ⟨hir,hRi (A.iAdd i 1) _ (by (conv=>cbv);exact Zk) (hin (hnx rfl)) him⟩
 rename_i hc
 have hi:i=(a.length:Int):=by have:=ZK hA rfl (Zl hA hxl) hc;omega
 conv=>cbv
 exact hgood (by rw [Zyl (by omega),Zyl (by omega)] at hi2;exact hi2)
open Go.Proofs Go.RowKit
open Go.Proofs Go.RowKit
theorem ZnI (k:Y3) (a m:Int) (h0:0<=a):Zc Tryz.prog 262 [ZU k,.int .i64 a,.int .i64 m] (.bool (ZaY k a m)):=by
 refine Zb (clo:=λ _=>false) (rows:=false) Zg Tryz.func262 rfl (enters_of Tryz.func262 (by kernel_rfl) rfl) (λ A q P Y hr hA hq=>?_)
 obtain ⟨k1,k2,k3,k4,k5,cs⟩:=k
 obtain ⟨xs,hxs⟩:∃xs,xs=Z3 cs:=⟨_,rfl⟩
 have hxl:xs.length=cs.length:=by rw [hxs];simp [Z3]
 have he:ZU ⟨k1,k2,k3,k4,k5,cs⟩=.agg [.int .i64 k1,.int .i64 k2,.int .i64 k3,.int .i64 k4,.int .i64 k5,.list 1 xs]:=by rw [hxs];rfl
 rw [he]
 unfold ZaY at hq
 simp only at hq
 conv=>cbv
 split
 rotate_left
 ·rename_i hc
  cases ((show False by have:=leF hA hc;omega))
 conv=>cbv
 split
 ·rename_i hc
  have g:a<cs.length:=ZE hA rfl (Zl hA hxl) hc
  conv=>cbv
  refine ZdP hA hxs h0 g (λ x v hx hv=>?_)
  rw [hx] at hq
  have hq:PV.bool (Zaj x m)=q:=hq
  have hh:=Zm6 x m hv
  generalize Zaj x m=b at hh hq
  conv=>cbv
  refine Za hA (hh) ?_
  conv=>cbv
  exact hq
 ·rename_i hc
  have g:(cs.length:Int)<=a:=ZK hA rfl (Zl hA hxl) hc
  rw [Zyw (by omega)] at hq
  conv=>cbv
  exact hq
theorem Zwl {T:List Int} (hup:∀(i:Nat) (x y:Int),T[i]?=some x->T[i+1]?=some y->x<y):∀(d i:Nat) (x y:Int),T[i]?=some x->T[i+d]?=some y->x<=y
 | 0,i,x,y,h1,h2=>by
  rw [Zzj,h1] at h2
  exact Int.le_of_eq (Zyc h2)
 | d+1,i,x,y,h1,h2=>by
  have hl:=(ZxZ.1 h2).1
  have hz:T[i+d]?=some (T[i+d]'(by omega)):=Zya (by omega)
  have a:=Zwl hup d i x _ h1 hz
  have b:=hup (i+d) _ y hz (by rw [Zz6];exact h2)
  omega
set_option maxRecDepth 4000 in
set_option maxHeartbeats 4000000 in
theorem Zr4 (t:Zh) (k:Y3) (p:Qo) (w:Way) (hF:Zus t p w) (hf0:0<=w.From) (hf1:0<=w.To):Zc Tryz.prog 207 [Zn t,ZU k,Yl p] (.bool (Zh6 k w p.Times)):=by
 refine Zb (clo:=λ _=>false) (rows:=false) Zg Tryz.func207 rfl (enters_of Tryz.func207 (by kernel_rfl) rfl) (λ A q P Y hr hA hq=>?_)
 obtain ⟨⟨hw0,hwl⟩,hw,hlen,hl1,_,_,hup,hbig⟩:=hF
 have hcf:=λ a m h=>ZnI k a m h
 unfold Zh6 at hq
 generalize ZaY k=cf at hcf hq
 obtain ⟨k1,k2,k3,k4,k5,cs⟩:=k
 obtain ⟨cvs,hcvs⟩:∃cvs,cvs=Z3 cs:=⟨_,rfl⟩
 have he:ZU ⟨k1,k2,k3,k4,k5,cs⟩=.agg [.int .i64 k1,.int .i64 k2,.int .i64 k3,.int .i64 k4,.int .i64 k5,.list 1 cvs]:=by rw [hcvs];rfl
 rw [he] at hcf ⊢
 obtain ⟨ss,cs,ws,ms,ks,nv,hss,hcs,hws,hms,hks,hnv,htab⟩:=Qd t
 obtain ⟨ts,hts⟩:∃ts,ts=Zd p.Times:=⟨_,rfl⟩
 have htl:ts.length=p.Times.length:=by rw [hts];simp [Zd]
 rw [htab,Yw p hts]
 obtain ⟨way,T⟩:=p
 simp only at hw0 hwl hw hlen hup hbig hts htl hq ⊢
 have hlastE:∀x,T[w.Legs.length]?=some x->T.getLastD 0=x:=λ x hx=>by
  rw [Zzz,ZzC,show T.length - 1=w.Legs.length by omega,hx];rfl
 have hheadE:∀x,T[0]?=some x->T.headD 0=x:=λ x hx=>by
  cases T with
  | nil=>simp at hx
  | cons a r=>simpa using hx
 refine Zf (λ R hR=>?_)
 conv=>cbv
 refine hR _ ?_
 clear hR
 refine Zf (λ R hR=>?_)
 conv=>cbv
 refine Ym hA hws hw0 (by omega) (λ w' v hw' hv=>?_)
 obtain rfl:=Zyc (hw'.symm.trans hw)
 have hvl:v.length=w'.Legs.length:=by rw [hv];simp [Qp]
 obtain ⟨w1,w2,ls⟩:=w'
 simp only at hf0 hf1 hlen hl1 hv hvl hq hlastE ⊢
 conv=>cbv
 refine hR _ ?_
 clear hR
 refine Zf (λ R hR=>?_)
 conv=>cbv
 refine hR _ ?_
 clear hR
 refine Zf (λ R hR=>?_)
 conv=>cbv
 refine ⟨Zm hA (by kernel_rfl),?_⟩
 refine Zw hA hts (n:=0) (Zyk 0) (by omega) (λ a ha=>?_)
 have ha0:=(hbig a (Zyb ha)).1
 have hvn:A.lLen v=(ls.length:Int):=Zl hA hvl
 rw [hheadE a ha] at hq
 conv=>cbv
 split
 ·rename_i hc
  cases ((show False by have:=ltT hA hc;omega))
 conv=>cbv
 refine Zw hA hts (n:=A.lLen v) (by rw [hvn];omega) (by rw [hvn];omega) (λ b hb=>?_)
 rw [hvn] at hb
 rw [hlastE b hb] at hq
 have h1:=hcf w1 a hf0
 have h2:=hcf w2 b hf1
 generalize cf w1 a=b1 at h1 hq
 generalize cf w2 b=b2 at h2 hq
 conv=>cbv
 split
 ·rename_i hc
  have g:=leT hA hc
  rw [Zyr (by omega:¬b<1440)] at hq
  conv=>cbv
  exact hq
 rename_i hc
 have g:=leF hA hc
 rw [Zyq (by omega:b<1440)] at hq
 conv=>cbv
 refine Zw hA hts (n:=0) (Zyk 0) (by omega) (λ a' ha'=>?_)
 obtain rfl:=Zyc (ha.symm.trans ha')
 conv=>cbv
 refine Za hA (h1) ?_
 conv=>cbv
 cases b1
 rotate_left
 ·conv=>cbv
  exact hq
 conv=>cbv
 refine Zw hA hts (n:=A.lLen v) (by rw [hvn];omega) (by rw [hvn];omega) (λ b' hb'=>?_)
 rw [hvn] at hb'
 obtain rfl:=Zyc (hb.symm.trans hb')
 conv=>cbv
 refine Za hA (h2) ?_
 conv=>cbv
 cases b2
 rotate_left
 ·conv=>cbv
  exact hq
 conv=>cbv
 refine hR _ ?_
 clear hR hcf h1 h2
 have hcl:=Zf4 ls T
 have hq:PV.bool (Zak ls T)=q:=by simpa using hq
 refine Zf (λ R hR=>?_)
 refine Zf (λ R0 hR0=>?_)
 conv=>cbv
 refine hR0 _ ?_
 clear hR0
 refine Zi hA (λ (i:Int) s=>s.put (some 9) (.val (.int .i64 i))) (λ i=>0<=i/\i<=ls.length/\∀(k:Nat) (x:Leg) (a b:Int),(k:Int)<i->ls[k]?=some x->T[k]?=some a->T[k+1]?=some b->ZaI x.Minutes ⟨a,b⟩=true) (λ i=>(ls.length - i).toNat) 0 ?_ ?_ ?_
 ·conv=>cbv
  exact Zk
 ·exact ⟨Zyk _,by omega,λ k _ _ _ h=>by omega⟩
 rintro R1 i ⟨hi0,hi1,hinv⟩ hR1
 conv=>cbv
 split
 rotate_left
 ·rename_i hc
  have hge:=ZK hA rfl hvn hc
  have hcov:Zak ls T=true:=hcl.2 λ k x a b h1 h2 h3=>hinv k x a b (by have:=(ZxZ.1 h1).1;omega) h1 h2 h3
  rw [hcov] at hq
  conv=>cbv
  refine hR _ ?_
  conv=>cbv
  exact hq
 rename_i hc
 have hi:i<ls.length:=ZE hA rfl hvn hc
 have his:A.iAdd i 1=i+1:=Z5 hA _ _
 have hir:A.inR (A.iAdd i 1):=Zy hA his (by unfold Zj;omega)
 obtain ⟨x,hx0⟩:∃x,ls[i.toNat]?=some x:=⟨_,Zya (show i.toNat<ls.length by omega)⟩
 obtain ⟨y,hy0⟩:∃y,T[i.toNat+1]?=some y:=⟨_,Zya (show i.toNat+1<T.length by omega)⟩
 have hyb:y<=b:=Zwl hup (ls.length - (i.toNat+1)) (i.toNat+1) y b hy0 (by rw [show i.toNat+1+(ls.length - (i.toNat+1))=ls.length by omega];exact hb)
 have hy1:T[(A.iAdd i 1).toNat]?=some y:=by rw [his,show (i+1).toNat=i.toNat+1 by omega];exact hy0
 conv=>cbv
 refine Zw hA hts hi0 (by omega) (λ z hz0=>?_)
 have hzb:=hbig z (Zyb hz0)
 have hzy:=hup i.toNat z y hz0 hy0
 have hyB:=hbig y (Zyb hy0)
 conv=>cbv
 refine Zi hA (λ (m:Int) s=>s.put (some 10) (.val (.int .i64 m))) (λ m=>z<=m/\m<=y/\∀j,z<=j->j<m->Zaj x.Minutes j=true) (λ m=>(y - m).toNat) z ?_ ?_ ?_
 ·conv=>cbv
  exact Zk
 ·exact ⟨Zyk _,by omega,λ j h1 h2=>by omega⟩
 rintro R2 m ⟨hm0,hm1,hmi⟩ hR2
 have hms:A.iAdd m 1=m+1:=Z5 hA _ _
 conv=>cbv
 refine ⟨hir,?_⟩
 refine Zw hA hts (n:=A.iAdd i 1) (by rw [his];omega) (by rw [his];omega) (λ y' hy'=>?_)
 obtain rfl:=Zyc (hy1.symm.trans hy')
 conv=>cbv
 split
 ·rename_i hc
  have g:=ltT hA hc
  conv=>cbv
  refine Zdl hA hv hi0 hi (λ x' sp hx' hsp=>?_)
  obtain rfl:=Zyc (hx0.symm.trans hx')
  have hh:=Zm6 x.Minutes m hsp
  obtain ⟨bb,hbb⟩:∃bb,bb=Zaj x.Minutes m:=⟨_,rfl⟩
  rw [<-hbb] at hh
  conv=>cbv
  refine Za hA (hh) ?_
  conv=>cbv
  cases bb
  ·have hcov:Zak ls T=false:=by
    rw [Zzh]
    intro h
    rcases (Zfw _ _).1 (hcl.1 h i.toNat x z y hx0 hz0 hy0) with h2 | ⟨_,_,h2⟩
    ·simp only at h2;omega
    ·have:=h2 m hm0 g
     rw [<-hbb] at this
     cases this
   rw [hcov] at hq
   conv=>cbv
   split
   rotate_left
   ·rename_i hc
    cases ((show False by have h9:false=true:=YP hA hc;cases h9))
   conv=>cbv
   exact hq
  ·conv=>cbv
   split
   ·rename_i hc
    cases ((show False by have h9:true=false:=Yy hA hc;cases h9))
   conv=>cbv
   refine ⟨Zy hA hms (by unfold Zj;omega),hR2 (A.iAdd m 1) _ ?_ ⟨by show z<=A.iAdd m 1;omega,by show A.iAdd m 1<=_;omega,λ j h1 h2=>?_⟩ (by show (y - A.iAdd m 1).toNat < _;rw [hms];omega)⟩
   ·conv=>cbv
    exact Zk
   ·have h2:j<A.iAdd m 1:=h2
    rw [hms] at h2
    by_cases h3:j<m
    ·exact hmi j h1 h3
    ·rw [show j=m by omega];exact hbb.symm
 ·rename_i hc
  have g:=ltF hA hc
  conv=>cbv
  refine ⟨hir,hR1 (A.iAdd i 1) _ ?_ ⟨by show 0<=A.iAdd i 1;omega,by show A.iAdd i 1<=_;omega,λ k x' a' b' h1 h2 h3 h4=>?_⟩ (by show (ls.length - A.iAdd i 1).toNat < _;rw [his];omega)⟩
  ·conv=>cbv
   exact Zk
  ·have h1:(k:Int)<A.iAdd i 1:=h1
   rw [his] at h1
   by_cases h5:(k:Int)<i
   ·exact hinv k x' a' b' h5 h2 h3 h4
   ·have hk:k=i.toNat:=by omega
    subst hk
    obtain rfl:=Zyc (hx0.symm.trans h2)
    obtain rfl:=Zyc (hz0.symm.trans h3)
    obtain rfl:=Zyc (hy0.symm.trans h4)
    exact (Zfw _ _).2 (.inr ⟨hzb.1,by show y<=1440;omega,λ j h1 h2=>hmi j h1 (by have h2:j<y:=h2;omega)⟩)
open Go.Proofs Go.RowKit
theorem ZuV:∀{l:List Nat} {x:Nat},x∈l->x<=l.sum
 | y::r,x,h=>by
  rw [List.sum_cons]
  rcases ZyJ.1 h with rfl | h
  ·omega
  ·have:=ZuV h;omega
set_option maxHeartbeats 2000000 in
theorem ZnJ (first:QN) (legs:List QN) (hb:∀b∈first::legs,-10000<=b.Lo/\b.Lo<=b.Hi/\b.Hi<=10000) (hl:legs.length<=100) {bl:List PV} (hbl:bl=ZF legs) :
  ∀(d:Nat) (ts:List Int),ts.length+d=legs.length+1->0<ts.length->(-10000*(ts.length:Int)<=ts.getLastD 0/\ts.getLastD 0<=10000*(ts.length:Int))->(Zcu first legs ts).length<=5000 ->
   Zc Tryz.prog 210 [.list 1 (Zd ts),.list 2 bl,.int .i64 ((ts.length:Int) - 1)] (.list 1 (Z0 (Zcu first legs ts))):=by
 have hbll:bl.length=legs.length:=by rw [hbl];simp [ZF]
 intro d
 induction d with
 | zero =>
  intro ts hts hpos hlast hsz
  rw [Zp5 (by omega)]
  refine Zb (clo:=λ _=>false) (rows:=false) Zg Tryz.func210 rfl (enters_of Tryz.func210 (by kernel_rfl) rfl) (λ A q P Y hr hA hq=>?_)
  obtain ⟨at_,hat⟩:∃a:Int,a=(ts.length:Int) - 1:=⟨_,rfl⟩
  obtain ⟨xs,hxs⟩:∃xs,xs=Zd ts:=⟨_,rfl⟩
  rw [<-hat,<-hxs]
  conv=>cbv
  split
  rotate_left
  ·rename_i hc
   cases ((show False by have:=ZeN hA rfl (Zl hA hbll) hc;omega))
  conv=>cbv
  rw [<-hq,hxs];rfl
 | succ d ih =>
  intro ts hts hpos hlast hsz
  have hlt:ts.length<(first::legs).length:=by simp;omega
  obtain ⟨b,hbn⟩:∃b,(first::legs)[ts.length]?=some b:=⟨_,Zya hlt⟩
  have hbb:=hb b (Zyb hbn)
  have hstep:=Zio hbn
  obtain ⟨last,hla⟩:∃last,last=ts.getLastD 0:=⟨_,rfl⟩
  rw [<-hla] at hlast hstep
  obtain ⟨at_,hat⟩:∃a:Int,a=(ts.length:Int) - 1:=⟨_,rfl⟩
  have hlb:legs[at_.toNat]?=some b:=by
   have h':=hbn
   rw [show ts.length=at_.toNat+1 by omega,Zz5] at h'
   exact h'
  have hlt2:ts[at_.toNat]?=some last:=by
   rw [hla,show at_.toNat=ts.length - 1 by omega,Zzz,ZzC]
   rw [Zya (by omega)]<;>rfl
  have hpart:∀(t:Int),last+b.Lo<=t->t<=last+b.Hi->(Zcu first legs (ts++[t])).length<=5000:=λ t h1 h2=>by
   refine Zy1 ?_ hsz
   rw [hstep,List.length_flatMap]
   exact ZuV (Zyz.2 ⟨t,ZgC.2 ⟨h1,h2⟩,rfl⟩)
  have hih:=λ (t:Int) (h1:last+b.Lo<=t) (h2:t<=last+b.Hi)=>ih (ts++[t]) (by simp;omega) (by simp) (by simp;omega) (hpart t h1 h2)
  rw [hstep] at hsz ⊢
  refine Zb (clo:=λ _=>false) (rows:=false) Zg Tryz.func210 rfl (enters_of Tryz.func210 (by kernel_rfl) rfl) (λ A q P Y hr hA hq=>?_)
  obtain ⟨xs,hxs⟩:∃xs,xs=Zd ts:=⟨_,rfl⟩
  have hxl:xs.length=ts.length:=by rw [hxs];simp [Zd]
  rw [<-hat,<-hxs]
  obtain ⟨c1,c2⟩:=b
  simp only at hbb hih hsz hq
  have e3:A.iSub (A.lLen xs) 1=at_:=by rw [ZbJ hA,Zl hA hxl,hat]
  have i0:0<=A.iSub (A.lLen xs) 1:=by rw [e3];omega
  have i2:A.iSub (A.lLen xs) 1<ts.length:=by rw [e3];omega
  have hlt3:ts[(A.iSub (A.lLen xs) 1).toNat]?=some last:=by rw [e3];exact hlt2
  have hatl:0<=at_/\at_<legs.length:=by omega
  obtain ⟨F,hF⟩:∃F:Int->List (List Int),F=λ n=>Zcu first legs (ts++[last+n]):=⟨_,rfl⟩
  have hfl:(ZT (last+c1) (last+c2)).flatMap (λ t=>Zcu first legs (ts++[t]))=(ZT c1 c2).flatMap F:=by
   rw [show last+c1=c1+last by omega,show last+c2=c2+last by omega,ZkN,List.flatMap_map,hF]
   congr 1
   funext n
   rw [show n+last=last+n by omega]
  rw [hfl] at hsz hq
  have hFl:∀(n:Int),c1<=n->n<=c2->((ZT c1 c2).take (n+1 - c1).toNat).flatMap F=((ZT c1 c2).take (n - c1).toNat).flatMap F++F n:=λ n h1 h2=>by
   rw [Zdp h1 h2,Zza];simp
  have hFs:∀(k:Nat),(((ZT c1 c2).take k).flatMap F).length<=5000:=λ k=>by
   refine Zy1 ?_ hsz
   conv=>rhs;rw [<-ZyI k (ZT c1 c2),Zza,Zyg]
   omega
  conv=>cbv
  split
  ·rename_i hc
   cases ((show False by have:=ZdS hA rfl (Zl hA hbll) hc;omega))
  conv=>cbv
  refine ⟨Zy hA e3 (by unfold Zj;omega),?_⟩
  refine Zw hA hxs i0 i2 (λ z hz=>?_)
  obtain rfl:=Zyc (hlt3.symm.trans hz)
  conv=>cbv
  refine Zc8 hA hbl hatl.1 hatl.2 (λ z hz=>?_)
  obtain rfl:=Zyc ((hlb).symm.trans hz)
  conv=>cbv
  refine Zi hA (λ (z:Int × List PV) s=>{ (s.put (some 9) (.val (.int .i64 z.1))).put (some 7) (.own 0 1 z.2) with tk:=[(A.nLen z.2,29)] })
   (λ z=>c1<=z.1/\z.1<=c2+1/\z.2=Z0 (((ZT c1 c2).take (z.1 - c1).toNat).flatMap F)) (λ z=>(c2+1 - z.1).toNat) (c1,[]) ?_ ?_ ?_
  ·conv=>cbv
   exact ZaM 7 0 1 [] _ rfl (.inr rfl) (by repeat (first | refine Zv ?_ | refine ZH ?_ | refine Za6 ?_ | refine Zbn ?_ | exact Z9)) (by subst hA;rfl)
  ·exact ⟨Zyk _,by omega,by simp [Z0]⟩
  rintro R ⟨n,M⟩ ⟨hn0,hn1,hM⟩ hR
  simp only at hn0 hn1 hM
  have hMl:M.length<=5000:=by rw [hM];have:=hFs (n - c1).toNat;simpa [Z0] using this
  conv=>cbv
  refine Zc8 hA hbl hatl.1 hatl.2 (λ z hz=>?_)
  obtain rfl:=Zyc ((hlb).symm.trans hz)
  conv=>cbv
  split
  ·rename_i hc
   have hn:n<=c2:=leT hA hc
   have hns:A.iAdd n 1=n+1:=Z5 hA _ _
   have hnr:A.inR (A.iAdd n 1):=Zy hA hns (by unfold Zj;omega)
   have hln:A.iAdd last n=last+n:=Z5 hA _ _
   have hat1:A.iAdd at_ 1=at_+1:=Z5 hA _ _
   have r1:A.room (A.nLen (A.lApp [] xs)) 8:=by subst hA;show ([]++xs).length*(8+1)<=140737488355328;simp;omega
   have r2:A.room (A.nLen (A.lApp (A.lApp [] xs) [PV.int IntKind.i64 (A.iAdd last n)])) 8:=by subst hA;show (([]++xs)++[_]).length*(8+1)<=140737488355328;simp;omega
   have tk1:A.tkEq (A.nLen (A.lApp [] xs)) (A.nLen (A.lApp [] xs)):=by subst hA;rfl
   have tk2:A.tkEq (A.nLen M) (A.nLen M):=by subst hA;rfl
   have hcall:=hih (last+n) (by omega) (by omega)
   have hap:A.lApp (A.lApp [] xs) [PV.int IntKind.i64 (A.iAdd last n)]=Zd (ts++[last+n]):=by
    rw [hln,hxs]
    subst hA
    show ([]++Zd ts)++_=_
    simp [Zd,Z7]
   rw [<-hap,show (((ts++[last+n]).length:Nat):Int) - 1=A.iAdd at_ 1 by rw [hat1,Zyg,Zyt];omega,show Zcu first legs (ts++[last+n])=F n by rw [hF]] at hcall
   obtain ⟨rs,hrs⟩:∃rs,rs=Z0 (F n):=⟨_,rfl⟩
   rw [<-hrs] at hcall
   have hnext:A.lApp M rs=Z0 (((ZT c1 c2).take (n+1 - c1).toNat).flatMap F):=by
    rw [hFl n hn0 hn,hM,hrs]
    subst hA
    show Z0 _++Z0 _=_
    simp [Z0]
   have r3:A.room (A.nLen (A.lApp M rs)) 24:=by
    rw [hnext]
    subst hA
    show (Z0 _).length*(24+1)<=140737488355328
    have:=hFs (n+1 - c1).toNat
    simp only [Z0,Zys];omega
   conv=>cbv
   refine ⟨r1,Zy hA hln (by unfold Zj;omega),⟨tk1,r2⟩,Zy hA hat1 (by unfold Zj;omega),?_⟩
   refine Za hA hcall ?_
   conv=>cbv
   refine ⟨⟨tk2,r3⟩,hnr,hR (A.iAdd n 1,A.lApp M rs) _ ?_ ?_ ?_⟩
   ·conv=>cbv
    exact Ztq (bx:=[]) (bx':=[]) (tk:=[_]) (tk':=[_]) (by repeat (first | refine Zv ?_ | refine ZH ?_ | refine Za6 ?_ | refine Zbn ?_ | exact Z9)) rfl rfl rfl rfl
   ·show c1<=A.iAdd n 1/\A.iAdd n 1<=c2+1/\A.lApp M rs=Z0 (((ZT c1 c2).take (A.iAdd n 1 - c1).toNat).flatMap F)
    rw [hns];exact ⟨by omega,by omega,hnext⟩
   ·show (c2+1 - A.iAdd n 1).toNat<(c2+1 - n).toNat
    rw [hns];omega
  ·rename_i hc
   have hn:n=c2+1:=by have:=leF hA hc;omega
   conv=>cbv
   rw [<-hq,hM,hn,Zyl (by rw [Zae];omega)]
open Go.Proofs Go.RowKit
set_option maxHeartbeats 2000000 in
theorem Zm7 (t:Zh) (f:Flight) (o:Opt):Zc Tryz.prog 154 [Zn t,Zx f,Z2 o] (.tup [.list 2 (ZJ (ZX t f o)),.int .i64 (ZN t f o)]):=by
 have hcnt:=ZiI t f o
 have hpl:=Zkn t f o
 by_cases h0:ZN t f o=0
 ·obtain ⟨hp0,hmany⟩:=QI h0
  obtain ⟨k,w,h⟩:=Yz hp0
  have hall:ZX t f o=(Znp t f o).map λ ts=>⟨ZaF f o,ts⟩:=by rw [ZX,if_pos h0]
  have hTl:=ZcK t f o
  have hTe:Znp t f o=Zcu (QC f o) (YM t f o) []:=(ZkB _ _).symm
  have hst:=Zio (first:=QC f o) (legs:=YM t f o) (ts:=[]) (b:=QC f o) rfl
  rw [<-hTe] at hst
  have hext:=λ bl hbl=>ZnJ (QC f o) (YM t f o) h.all (by have:=h.bounds.2.2.2;omega) (bl:=bl) hbl
  have hwin:=h.win
  have hdl:=h.d0
  have h6:=h.w0
  have h7:=h.hw
  have hlb:=h.bounds.2.2.2
  have hfb:QC f o=⟨f.Window.From+o.Delay,f.Window.To - 1+o.Delay⟩:=rfl
  rw [Zmj,if_pos hp0,hp0] at hpl
  rw [h0] at hcnt
  rw [hall,h0]
  generalize Za7 t f o=cn at hcnt
  generalize ZaF f o=pw at h7
  generalize Znp t f o=T at hTl hst
  generalize YM t f o=pL at hpl hst hext hlb
  rw [hfb] at hst hext
  obtain ⟨bl,hbl⟩:∃bl,bl=ZF pL:=⟨_,rfl⟩
  have hex2:=λ d ts=>hext bl hbl d ts
  rw [<-hbl] at hpl
  clear hext hall hTe h h0 hp0 hfb
  refine Zb (clo:=λ _=>false) (rows:=false) Zg Tryz.func154 rfl (enters_of Tryz.func154 (by kernel_rfl) rfl) (λ A q P Y hr hA hq=>?_)
  obtain ⟨ss,cs,ws,ms,ks,nv,hss,hcs,hws,hms,hks,hnv,htab⟩:=Qd t
  rw [htab] at hpl hcnt ⊢
  obtain ⟨f1,f2,f3,f4,f5,⟨f6,f7⟩,f8⟩:=f
  obtain ⟨fl,hfl⟩:∃fl,fl=Zd f5:=⟨_,rfl⟩
  rw [Zs _ hfl] at hpl hcnt ⊢
  obtain ⟨o1,o2,o3,o4⟩:=o
  simp only at hpl hcnt hwin hdl h6 h7 hst hex2 ⊢
  obtain ⟨E1,hE1⟩:∃E1:Int->List (List Int),E1=λ m=>Zcu ⟨f6+o1,f7 - 1+o1⟩ pL [m+o1]:=⟨_,rfl⟩
  have hT:T=(ZT f6 (f7 - 1)).flatMap E1:=by
   rw [hst,hE1,show ([]:List Int).getLastD 0+(f6+o1)=f6+o1 by simp,show ([]:List Int).getLastD 0+(f7 - 1+o1)=f7 - 1+o1 by simp,ZkN,List.flatMap_map]
   rfl
  have hTk:∀(a:Nat),(((ZT f6 (f7 - 1)).take a).flatMap E1).length<=4096:=λ a=>by
   have h1:T.length<=4096:=by omega
   rw [hT] at h1
   refine Zy1 ?_ h1
   conv=>rhs;rw [<-ZyI a (ZT f6 (f7 - 1)),Zza,Zyg]
   omega
  have hTs:∀(m:Int),f6<=m->m<=f7 - 1->((ZT f6 (f7 - 1)).take (m+1 - f6).toNat).flatMap E1=((ZT f6 (f7 - 1)).take (m - f6).toNat).flatMap E1++E1 m:=λ m h1 h2=>by
   rw [Zdp h1 h2,Zza];simp
  obtain ⟨G,hG⟩:∃G:List (List Int)->List PV,G=λ l=>ZJ (l.map λ ts=>⟨pw,ts⟩):=⟨_,rfl⟩
  have hGl:∀l,(G l).length=l.length:=λ l=>by rw [hG];simp [ZJ]
  have hGs:∀l ts,G (l++[ts])=G l++[.agg [.int .i64 pw,.list 1 (Zd ts)]]:=λ l ts=>by rw [hG];simp [ZJ,Yl]
  have hq':PV.tup [.list 2 (G T),.int .i64 0]=q:=by rw [<-hq,hG]
  clear hq
  conv=>cbv
  refine Za hA (hcnt) ?_
  conv=>cbv
  split
  ·rename_i hc
   cases (neT hA hc rfl)
  conv=>cbv
  refine Za hA (hpl) ?_
  conv=>cbv
  refine Zi hA (λ (z:Int × List PV) s=>{ (s.put (some 13) (.val (.int .i64 z.1))).put (some 12) (.own 0 2 z.2) with tk:=[(A.nLen z.2,49)] })
   (λ z=>f6<=z.1/\z.1<=f7/\z.2=G (((ZT f6 (f7 - 1)).take (z.1 - f6).toNat).flatMap E1)) (λ z=>(f7 - z.1).toNat) (f6,[]) ?_ ?_ ?_
  ·conv=>cbv
   exact ZaM 12 0 2 [] _ rfl (.inr rfl) (by repeat (first | refine Zv ?_ | refine ZH ?_ | refine Za6 ?_ | refine Zbn ?_ | exact Z9)) (by subst hA;rfl)
  ·refine ⟨Zyk _,by simp only;omega,?_⟩
   show []=G _
   rw [hG];simp [ZJ]
  rintro R ⟨m,X⟩ ⟨hm0,hm1,hX⟩ hR
  simp only at hm0 hm1 hX
  conv=>cbv
  split
  ·rename_i hc
   have hm:m<f7:=ltT hA hc
   have hms:A.iAdd m 1=m+1:=Z5 hA _ _
   have hmr:A.inR (A.iAdd m 1):=Zy hA hms (by unfold Zj;omega)
   have hmo:A.iAdd m o1=m+o1:=Z5 hA _ _
   have hEl:(E1 m).length<=4096:=by
    have:=hTk (m+1 - f6).toNat
    rw [hTs m hm0 (by omega),Zyg] at this
    omega
   have hcall:=hex2 pL.length [m+o1] (by simp;omega) (by simp) (by simp;omega) (by have:=hEl;rw [hE1] at this;simp only at this;omega)
   rw [show Zd [m+o1]=[.int .i64 (A.iAdd m o1)] by rw [hmo];rfl,show ((([m+o1]:List Int).length:Nat):Int) - 1=0 by simp,show Zcu ⟨f6+o1,f7 - 1+o1⟩ pL [m+o1]=E1 m by rw [hE1]] at hcall
   obtain ⟨el,hel⟩:∃el,el=Z0 (E1 m):=⟨_,rfl⟩
   have hell:el.length=(E1 m).length:=by rw [hel];simp [Z0]
   rw [<-hel] at hcall
   obtain ⟨pre,hpre⟩:∃pre,pre=((ZT f6 (f7 - 1)).take (m - f6).toNat).flatMap E1:=⟨_,rfl⟩
   have hprl:pre.length<=4096:=by rw [hpre];exact hTk _
   rw [<-hpre] at hX
   conv=>cbv
   refine ⟨Zy hA hmo (by unfold Zj;omega),?_⟩
   refine Za hA hcall ?_
   conv=>cbv
   refine Zi hA (λ (z:Int × List PV) s=>{ (s.put (some 15) (.val (.int .i64 z.1))).put (some 12) (.own 0 2 z.2) with tk:=[(A.nLen z.2,49)] })
    (λ z=>0<=z.1/\z.1<=(E1 m).length/\z.2=G (pre++(E1 m).take z.1.toNat)) (λ z=>((E1 m).length - z.1).toNat) (0,X) ?_ ?_ ?_
   ·conv=>cbv
    exact Zk (by repeat (first | refine Zv ?_ | refine ZH ?_ | refine Za6 ?_ | refine Zbn ?_ | exact Z9))
   ·exact ⟨Zyk _,by simp only;omega,by simpa using hX⟩
   rintro R2 ⟨i,Y1⟩ ⟨hi0,hi1,hY1⟩ hR2
   simp only at hi0 hi1 hY1
   conv=>cbv
   split
   ·rename_i hc
    have hi:i<(E1 m).length:=ZE hA rfl (Zl hA hell) hc
    have his:A.iAdd i 1=i+1:=Z5 hA _ _
    have hir:A.inR (A.iAdd i 1):=Zy hA his (by unfold Zj;omega)
    have hYl:Y1.length<=9000:=by rw [hY1,hGl,Zyg,ZyE];omega
    have htk:A.tkEq (A.nLen Y1) (A.nLen Y1):=by subst hA;rfl
    conv=>cbv
    refine ⟨Zm hA (by kernel_rfl),?_⟩
    refine Zw hA hfl h6.1 h6.2 (λ z hz=>?_)
    obtain rfl:=Zyc (h7.symm.trans hz)
    conv=>cbv
    refine Zbh hA hel hi0 hi (λ ts v hts hv=>?_)
    have hnext:A.lApp Y1 [.agg [.int .i64 pw,.list 1 v]]=G (pre++(E1 m).take (i+1).toNat):=by
     rw [Zo hi0 hts,<-Zy9,hGs,hY1,hv]
     subst hA
     rfl
    have hroom:A.room (A.nLen (A.lApp Y1 [.agg [.int .i64 pw,.list 1 v]])) 32:=by
     subst hA
     show (Y1++[_]).length*(32+1)<=140737488355328
     rw [Zyg,Zyt];omega
    conv=>cbv
    refine ⟨⟨htk,hroom⟩,hir,hR2 (A.iAdd i 1,A.lApp Y1 [.agg [.int .i64 pw,.list 1 v]]) _ ?_ ?_ ?_⟩
    ·conv=>cbv
     exact Zk (by repeat (first | refine Zv ?_ | refine ZH ?_ | refine Za6 ?_ | refine Zbn ?_ | exact Z9))
    ·show 0<=A.iAdd i 1/\A.iAdd i 1<=(E1 m).length/\_=G (pre++(E1 m).take (A.iAdd i 1).toNat)
     rw [his];exact ⟨by omega,by omega,hnext⟩
    ·show (((E1 m).length:Int) - A.iAdd i 1).toNat<(((E1 m).length:Int) - i).toNat
     rw [his];omega
   ·rename_i hc
    have hi:(E1 m).length<=i:=ZK hA rfl (Zl hA hell) hc
    rw [Zyl (by omega)] at hY1
    conv=>cbv
    refine ⟨hmr,hR (A.iAdd m 1,Y1) _ ?_ ?_ ?_⟩
    ·conv=>cbv
     exact Zk (by repeat (first | refine Zv ?_ | refine ZH ?_ | refine Za6 ?_ | refine Zbn ?_ | exact Z9))
    ·show f6<=A.iAdd m 1/\A.iAdd m 1<=f7/\Y1=G (((ZT f6 (f7 - 1)).take (A.iAdd m 1 - f6).toNat).flatMap E1)
     rw [hms,hTs m hm0 (by omega),<-hpre]
     exact ⟨by omega,by omega,hY1⟩
    ·show (f7 - A.iAdd m 1).toNat<(f7 - m).toNat
     rw [hms];omega
  ·rename_i hc
   have hm:m=f7:=by have:=ltF hA hc;omega
   rw [hm,Zyl (by rw [Zae];omega),<-hT] at hX
   conv=>cbv
   rw [<-hq',hX]
 ·have hall:ZX t f o=[]:=by rw [ZX,if_neg h0]
  rw [hall]
  generalize Za7 t f o=cn at hcnt
  generalize ZN t f o=ce at hcnt h0
  clear hpl hall
  refine Zc.le (p:=.tup [.list 0 [],.int .i64 ce]) (args':=[Zn t,Zx f,Z2 o]) ?_ (.cons (.refl _) (.cons (.refl _) (.cons (.refl _) .nil))) (.tup _ _ rfl λ i x y hx hy=>?_)
  ·refine Zb (clo:=λ _=>false) (rows:=false) Zg Tryz.func154 rfl (enters_of Tryz.func154 (by kernel_rfl) rfl) (λ A q P Y hr hA hq=>?_)
   obtain ⟨ss,cs,ws,ms,ks,nv,hss,hcs,hws,hms,hks,hnv,htab⟩:=Qd t
   rw [htab] at hcnt ⊢
   obtain ⟨f1,f2,f3,f4,f5,⟨f6,f7⟩,f8⟩:=f
   obtain ⟨fl,hfl⟩:∃fl,fl=Zd f5:=⟨_,rfl⟩
   rw [Zs _ hfl] at hcnt ⊢
   obtain ⟨o1,o2,o3,o4⟩:=o
   simp only at hcnt ⊢
   conv=>cbv
   refine Za hA (hcnt) ?_
   conv=>cbv
   split
   rotate_left
   ·rename_i hc
    cases ((h0 (neF hA hc)))
   conv=>cbv
   exact hq
  ·match i,hx,hy with
   | 0,hx,hy=>simp at hx hy;subst hx hy;exact .nil _ _
   | 1,hx,hy=>simp at hx hy;subst hx hy;exact .refl _
   | i+2,hx,hy=>simp at hx
open Go.Proofs Go.RowKit
set_option maxRecDepth 10000 in
set_option maxHeartbeats 4000000 in
theorem Zl8 (t:Zh) (f:Flight) (o:Opt):Zc Tryz.prog 152 [Zn t,Zx f,Z2 o] (.int .i64 (QP t f o)):=by
 refine Zb (clo:=λ _=>false) (rows:=false) Zg Tryz.func152 rfl (enters_of Tryz.func152 (by kernel_rfl) rfl) (λ A q P Y hr hA hq=>?_)
 have hdel:=Zfq t f o
 have hall:=Zm7 t f o
 have hopn:=λ (k:Y3) (p:Qo) (w:Way) (h:Zus t p w) h1 h2=>Zr4 t k p w h h1 h2
 have hE:QP t f o=if (ZL t f o).2.2≠0 then (ZL t f o).2.2 else if o.Cancel then 0 else if ZN t f o≠0 then ZN t f o else if Zdu t f o then 0 else 170:=rfl
 have hflw:=λ (hc:ZN t f o=0) (p:Qo) (hp:p∈ZX t f o)=>ZcL hc hp
 have hpl:=λ (hc:ZN t f o=0)=>Yz (QI hc).1
 have hao:Zdu t f o=match t.Kinds[f.Class.toNat]? with | some k=>(ZX t f o).all (ZbF t k) | none=>false:=rfl
 have hdl:=λ (h:ZN t f o=0)=>show (ZL t f o).2.2=0/\o.Cancel=false by
  obtain ⟨k,w,hP⟩:=Yz (QI h).1
  exact ⟨hP.del,hP.can⟩
 generalize QP t f o=ae at hE hq
 generalize ZL t f o=dd at hdel hE hdl
 obtain ⟨d1,d2,d3⟩:=dd
 generalize ZN t f o=ce at hall hE hflw hpl hdl
 generalize Zdu t f o=ao at hao hE
 have hPl:(ZX t f o).length<=4096:=by
  unfold ZX
  split
  ·rw [Zys,ZcK]
   exact (QI (by assumption)).2
  ·simp
 obtain ⟨PL,hPL⟩:∃PL,PL=ZX t f o:=⟨_,rfl⟩
 rw [<-hPL] at hao hflw hall hPl
 obtain ⟨ps,hps⟩:∃ps,ps=ZJ PL:=⟨_,rfl⟩
 rw [<-hps] at hall
 have hpsl:ps.length=PL.length:=by rw [hps];simp [ZJ]
 simp only at hdel hE
 obtain ⟨ss,cs,ws,ms,ks,nv,hss,hcs,hws,hms,hks,hnv,htab⟩:=Qd t
 rw [htab] at hdel hall hopn ⊢
 obtain ⟨f1,f2,f3,f4,f5,⟨f6,f7⟩,f8⟩:=f
 obtain ⟨fl,hfl⟩:∃fl,fl=Zd f5:=⟨_,rfl⟩
 rw [Zs _ hfl] at hdel hall ⊢
 obtain ⟨o1,o2,o3,o4⟩:=o
 simp only at hE hao hdel hall hpl hdl ⊢
 refine Zf (λ R hR=>?_)
 conv=>cbv
 refine hR _ ?_
 clear hR
 refine Zf (λ R hR=>?_)
 conv=>cbv
 refine Za hA (hdel) ?_
 conv=>cbv
 refine hR _ ?_
 clear hR
 refine Zf (λ R hR=>?_)
 conv=>cbv
 have hgood:∀n,ae=n->PV.int .i64 n=q:=λ n h=>by rw [<-hq,h]
 split
 ·rename_i hc
  have g:d3≠0:=neT hA hc
  rw [if_pos g] at hE
  conv=>cbv
  exact hgood _ hE
 rename_i hc
 have g:d3=0:=neF hA hc
 rw [if_neg (by rw [g];decide)] at hE
 conv=>cbv
 cases o4 with
 | true =>
  rw [if_pos rfl] at hE
  conv=>cbv
  exact hgood _ (hE.trans g.symm)
 | false =>
 rw [if_neg (by decide)] at hE
 conv=>cbv
 refine hR _ ?_
 clear hR hdel
 refine Zf (λ R hR=>?_)
 conv=>cbv
 refine Za hA (hall) ?_
 conv=>cbv
 refine hR _ ?_
 clear hR
 refine Zf (λ R hR=>?_)
 conv=>cbv
 split
 ·rename_i hc
  have g2:ce≠0:=neT hA hc
  rw [if_pos g2] at hE
  conv=>cbv
  exact hgood _ hE
 rename_i hc
 have g2:ce=0:=neF hA hc
 rw [if_neg (by rw [g2];decide)] at hE
 obtain ⟨k,w0,hP⟩:=hpl g2
 have hflw:=hflw g2
 have hk:=hP.hk
 have hk0:=hP.k0
 have hair:=(ZaN hP.chk).1
 have hf3:f3<t.Kinds.length:=by have:=(ZxZ.1 hk).1;simp only at this hk0;omega
 simp only at hk hk0
 rw [hk] at hao
 have hao:ao=PL.all (ZbF t k):=hao
 clear hP hpl hall
 refine hR _ ?_
 clear hR
 have hop:∀p w,t.Ways[p.Way.toNat]?=some w->ZbF t k p=Zh6 k w p.Times:=λ p w h=>by unfold ZbF;rw [h]
 have hopn:=hopn k
 have hoP:∀p∈PL,Zc Tryz.prog 207 [.agg [.int .i64 nv,.list 5 ss,.list 3 cs,.list 3 ws,.list 1 ms,.list 6 ks],ZU k,Yl p] (.bool (ZbF t k p)):=λ p hp=>by
  obtain ⟨w,hF⟩:=hflw p hp
  have hw:=Zp7 hair (Zyb hF.hw)
  rw [hop p w hF.hw]
  exact hopn p w hF hw.1 hw.2
 obtain ⟨cl,hcl⟩:∃cl,cl=Z3 k.Curfews:=⟨_,rfl⟩
 have hke:ZU k=.agg [.int .i64 k.Slow,.int .i64 k.Fast,.int .i64 k.Places,.int .i64 k.Weight,.int .i64 k.Longest,.list 1 cl]:=by rw [hcl];rfl
 have hoP:∀p∈PL,∀v,v=Zd p.Times->Zc Tryz.prog 207 [.agg [.int .i64 nv,.list 5 ss,.list 3 cs,.list 3 ws,.list 1 ms,.list 6 ks],.agg [.int .i64 k.Slow,.int .i64 k.Fast,.int .i64 k.Places,.int .i64 k.Weight,.int .i64 k.Longest,.list 1 cl],.agg [.int .i64 p.Way,.list 1 v]] (.bool (ZbF t k p)):=λ p hp v hv=>by
  have h:=hoP p hp
  rw [hke,Yw p hv] at h
  exact h
 generalize ZbF t k=op at hoP hao
 clear hopn hop hflw hke
 refine Zf (λ R hR=>?_)
 refine Zf (λ R0 hR0=>?_)
 conv=>cbv
 refine hR0 _ ?_
 clear hR0
 refine Zi hA (λ (i:Int) s=>s.put (some 12) (.val (.int .i64 i))) (λ i=>0<=i/\i<=PL.length/\(PL.take i.toNat).all op=true) (λ i=>(PL.length - i).toNat) 0 ?_ ?_ ?_
 ·conv=>cbv
  exact Zk
 ·exact ⟨Zyk _,by omega,rfl⟩
 rintro R1 i ⟨hi0,hi1,hinv⟩ hR1
 conv=>cbv
 split
 rotate_left
 ·rename_i hc
  have hge:=ZK hA rfl (Zl hA hpsl) hc
  rw [Zyl (by omega)] at hinv
  rw [hao,hinv,if_pos rfl] at hE
  conv=>cbv
  refine hR _ ?_
  conv=>cbv
  exact hgood _ hE
 rename_i hc
 have hi:i<PL.length:=ZE hA rfl (Zl hA hpsl) hc
 have his:A.iAdd i 1=i+1:=Z5 hA _ _
 have hir:A.inR (A.iAdd i 1):=Zy hA his (by unfold Zj;omega)
 conv=>cbv
 refine ⟨Zm hA (by kernel_rfl),?_⟩
 refine Q6 hA hks hk0 hf3 (λ z v hz hv=>?_)
 obtain rfl:=Zyc (hk.symm.trans hz)
 have hvc:v=cl:=hv.trans hcl.symm
 obtain rfl:=hvc
 clear hz hv
 conv=>cbv
 refine ZdQ hA hps hi0 hi (λ p v2 hp hv2=>?_)
 have hpm:=Zyb hp
 have hcall:=hoP p hpm v2 hv2
 obtain ⟨bb,hbb⟩:∃bb,bb=op p:=⟨_,rfl⟩
 rw [<-hbb] at hcall
 conv=>cbv
 refine Za hA (hcall) ?_
 conv=>cbv
 cases bb
 ·have hall:PL.all op=false:=by
   rw [Zzh]
   intro h
   have:=Zym.1 h p hpm
   rw [<-hbb] at this
   cases this
  rw [hao,hall,if_neg (by decide)] at hE
  conv=>cbv
  split
  rotate_left
  ·rename_i hc
   cases ((show False by have h9:false=true:=YP hA hc;cases h9))
  conv=>cbv
  exact hgood _ hE
 ·conv=>cbv
  split
  ·rename_i hc
   cases ((show False by have h9:true=false:=Yy hA hc;cases h9))
  conv=>cbv
  refine ⟨hir,hR1 (A.iAdd i 1) _ ?_ ⟨by show 0<=A.iAdd i 1;omega,by show A.iAdd i 1<=_;omega,?_⟩ (by show (PL.length - A.iAdd i 1).toNat < _;rw [his];omega)⟩
  ·conv=>cbv
   exact Zk
  ·show (PL.take (A.iAdd i 1).toNat).all op=true
   rw [his,show (i+1).toNat=i.toNat+1 by omega,ZyD,hp,Z0q,hinv]
   simp [<-hbb]
open Go.Proofs Go.RowKit
set_option maxRecDepth 10000 in
set_option maxHeartbeats 1000000 in
theorem Zl9 (t:Zh) (f:Flight):Zc Tryz.prog 83 [Zn t,Zx f] (.tup [.list 4 (Zq (ZZ t f)),.int .i64 (Z8 t f)]):=by
 have hmeas:=Zf8 t f
 have hal:=λ o=>Zl8 t f o
 have hO:ZZ t f=(ZC t f).filter λ o=>decide (QP t f o=0):=rfl
 generalize ZZ t f=OL at hO
 generalize QP t f=g at hal hO
 have hml:=YF t f
 have hM0:Z8 t f≠0->ZC t f=[]:=λ h=>by rw [ZC,if_neg h]
 generalize ZC t f=M at hmeas hO hml hM0
 generalize Z8 t f=ck at hmeas hM0
 subst hO
 by_cases h0:ck=0
 ·subst h0
  refine Zb (clo:=λ _=>false) (rows:=false) Zg Tryz.func83 rfl (enters_of Tryz.func83 (by kernel_rfl) rfl) (λ A q P Y hr hA hq=>?_)
  obtain ⟨ss,cs,ws,ms,ks,nv,hss,hcs,hws,hms,hks,hnv,htab⟩:=Qd t
  rw [htab] at hmeas hal ⊢
  obtain ⟨f1,f2,f3,f4,f5,⟨f6,f7⟩,f8⟩:=f
  obtain ⟨fl,hfl⟩:∃fl,fl=Zd f5:=⟨_,rfl⟩
  rw [Zs _ hfl] at hmeas hal ⊢
  obtain ⟨xs,hxs⟩:∃xs,xs=Zq M:=⟨_,rfl⟩
  rw [<-hxs] at hmeas
  have hxl:xs.length=M.length:=by rw [hxs];simp [Zq]
  simp only at hmeas hal ⊢
  conv=>cbv
  refine Za hA (hmeas) ?_
  conv=>cbv
  split
  ·rename_i hc
   cases (neT hA hc rfl)
  conv=>cbv
  refine Zi hA (λ (z:Int × List PV) s=>{ (s.put (some 9) (.val (.int .i64 z.1))).put (some 8) (.own 0 4 z.2) with tk:=[(A.nLen z.2,35)] })
   (λ z=>0<=z.1/\z.1<=M.length/\z.2=Zq ((M.take z.1.toNat).filter λ o=>decide (g o=0))) (λ z=>(M.length - z.1).toNat) (0,[]) ?_ ?_ ?_
  ·subst hA
   (conv=>cbv)
   exact ZaM 8 4 4 [] 35 rfl (.inl rfl) (by repeat (first | refine Zv ?_ | refine ZH ?_ | exact Z9)) rfl
  ·exact ⟨Zyk _,by omega,rfl⟩
  rintro R ⟨i,L⟩ ⟨hi0,hi1,hL⟩ hR
  simp only at hi0 hi1 hL
  have hLl:L.length<=1000:=by
   have h1:=ZyH (λ o=>decide (g o=0)) (M.take i.toNat)
   rw [ZyE] at h1
   rw [hL];simp only [Zq,Zys];omega
  conv=>cbv
  split
  ·rename_i hc
   have hi:=ZE hA rfl (Zl hA hxl) hc
   have his:A.iAdd i 1=i+1:=Z5 hA _ _
   have hir:A.inR (A.iAdd i 1):=Zy hA his (by unfold Zj;omega)
   obtain ⟨o,ho⟩:∃o,M[i.toNat]?=some o:=⟨_,Zya (show i.toNat<M.length by omega)⟩
   have ht:=Zo hi0 ho
   have hao:=hal o
   have hnx:∀L',L'=(if g o=0 then L++[Z2 o] else L)->0<=A.iAdd i 1/\A.iAdd i 1<=M.length/\L'=Zq ((M.take (A.iAdd i 1).toNat).filter λ o=>decide (g o=0)):=λ L' h=>by
    rw [his,ht,h,hL,ZzH]
    refine ⟨by omega,by omega,?_⟩
    split<;>rename_i h2<;>simp [Zq,h2]
   have hmu:(M.length - A.iAdd i 1).toNat<(M.length - i).toNat:=by rw [his];omega
   generalize g o=e at hao hnx
   obtain ⟨o1,o2,o3,o4⟩:=o
   conv=>cbv
   refine ⟨Zm hA (by kernel_rfl),?_⟩
   refine Yn hA hxs hi0 hi (λ z hz=>?_)
   obtain rfl:=Zyc (ho.symm.trans hz)
   clear hz
   conv=>cbv
   refine Za hA (hao) ?_
   conv=>cbv
   split
   ·rename_i hc
    rw [if_pos (eqT hA hc)] at hnx
    have htk:A.tkEq (A.nLen L) (A.nLen L):=by subst hA;rfl
    have hroom:A.room (A.nLen (A.lApp L [Z2 ⟨o1,o2,o3,o4⟩])) 32:=by
     subst hA
     show (L++[_]).length*(32+1)<=140737488355328
     rw [Zyg,Zyt];omega
    conv=>cbv
    refine Yn hA hxs hi0 hi (λ z hz=>?_)
    obtain rfl:=Zyc (ho.symm.trans hz)
    clear hz
    conv=>cbv
    refine ⟨⟨htk,hroom⟩,hir,hR (A.iAdd i 1,A.lApp L [Z2 ⟨o1,o2,o3,o4⟩]) _ ?_ (hnx _ (by subst hA;rfl)) hmu⟩
    conv=>cbv
    exact Zk
   ·rename_i hc
    rw [if_neg (eqF hA hc)] at hnx
    conv=>cbv
    refine ⟨hir,hR (A.iAdd i 1,L) _ ?_ (hnx _ rfl) hmu⟩
    conv=>cbv
    exact Zk
  ·rename_i hc
   have hi:=ZK hA rfl (Zl hA hxl) hc
   rw [Zyl (by omega)] at hL
   conv=>cbv
   rw [<-hq,hL]
 ·have hm:=hM0 h0
  subst hm
  refine Zc.le (p:=.tup [.list 0 [],.int .i64 ck]) (args':=[Zn t,Zx f]) ?_ (.cons (.refl _) (.cons (.refl _) .nil)) (.tup _ _ rfl λ i x y hx hy=>?_)
  ·refine Zb (clo:=λ _=>false) (rows:=false) Zg Tryz.func83 rfl (enters_of Tryz.func83 (by kernel_rfl) rfl) (λ A q P Y hr hA hq=>?_)
   obtain ⟨ss,cs,ws,ms,ks,nv,hss,hcs,hws,hms,hks,hnv,htab⟩:=Qd t
   rw [htab] at hmeas ⊢
   obtain ⟨f1,f2,f3,f4,f5,⟨f6,f7⟩,f8⟩:=f
   obtain ⟨fl,hfl⟩:∃fl,fl=Zd f5:=⟨_,rfl⟩
   rw [Zs _ hfl] at hmeas ⊢
   simp only at hmeas ⊢
   conv=>cbv
   refine Za hA (hmeas) ?_
   conv=>cbv
   split
   ·conv=>cbv
    exact hq
   ·rename_i h
    exact absurd (neF hA h) h0
  ·match i,hx,hy with
   | 0,hx,hy=>simp at hx hy;subst hx hy;exact .nil _ _
   | 1,hx,hy=>simp at hx hy;subst hx hy;exact .refl _
   | i+2,hx,hy=>simp at hx
open Go.Proofs Go.RowKit
theorem ZlA (a b:Cell):Zc Tryz.prog 266 [Zu a,Zu b] (.int .i64 (Zfy a b)):=by
 refine Zb (clo:=λ _=>false) (rows:=false) Zg Tryz.func266 rfl (enters_of Tryz.func266 (by kernel_rfl) rfl) (λ A q P Y hr hA hq=>?_)
 have hc:=Zh5 a b
 obtain ⟨a1,a2,a3⟩:=a
 obtain ⟨b1,b2,b3⟩:=b
 simp only at hc
 rw [hc] at hq
 clear hc
 have fin:∀v:Int,(v=if Y5 a1<Y5 b1 then -1 else if Y5 b1<Y5 a1 then 1 else if a2<b2 then -1 else if b2<a2 then 1 else if a3<b3 then -1 else if b3<a3 then 1 else 0)->PV.int .i64 v=q:=λ v h=>by rw [h];exact hq
 clear hq
 conv=>cbv
 split
 ·rename_i h1
  conv=>cbv
  exact fin _ (by subst hA;simp [Ze] at h1;(try cases a1)<;>(try cases b1)<;>simp_all [Y5]<;>(repeat' split)<;>omega)
 rename_i h1
 conv=>cbv
 split
 ·rename_i h2
  conv=>cbv
  split
  ·rename_i h3
   conv=>cbv
   split
   ·rename_i h4
    conv=>cbv
    exact fin _ (by subst hA;simp [Ze] at h1 h2 h3;(try cases a1)<;>(try cases b1)<;>simp_all [Y5]<;>(repeat' split)<;>omega)
   ·rename_i h4
    conv=>cbv
    exact fin _ (by subst hA;simp [Ze] at h1 h2 h3;(try cases a1)<;>(try cases b1)<;>simp_all [Y5]<;>(repeat' split)<;>omega)
  ·rename_i h3
   conv=>cbv
   split
   ·rename_i h4
    conv=>cbv
    exact fin _ (by subst hA;simp [Ze] at h1 h2 h3 h4;(try cases a1)<;>(try cases b1)<;>simp_all [Y5]<;>(repeat' split)<;>omega)
   ·rename_i h4
    conv=>cbv
    exact fin _ (by subst hA;simp [Ze] at h1 h2 h3 h4;(try cases a1)<;>(try cases b1)<;>simp_all [Y5]<;>(repeat' split)<;>omega)
 ·rename_i h2
  conv=>cbv
  split
  ·rename_i h3
   conv=>cbv
   split
   ·rename_i h4
    conv=>cbv
    exact fin _ (by subst hA;simp [Ze] at h1 h2 h3;(try cases a1)<;>(try cases b1)<;>simp_all [Y5]<;>(repeat' split)<;>omega)
   ·rename_i h4
    conv=>cbv
    exact fin _ (by subst hA;simp [Ze] at h1 h2 h3;(try cases a1)<;>(try cases b1)<;>simp_all [Y5]<;>(repeat' split)<;>omega)
  ·rename_i h3
   conv=>cbv
   split
   ·rename_i h4
    conv=>cbv
    exact fin _ (by subst hA;simp [Ze] at h1 h2 h3 h4;(try cases a1)<;>(try cases b1)<;>simp_all [Y5]<;>(repeat' split)<;>omega)
   ·rename_i h4
    conv=>cbv
    exact fin _ (by subst hA;simp [Ze] at h1 h2 h3 h4;(try cases a1)<;>(try cases b1)<;>simp_all [Y5]<;>(repeat' split)<;>omega)
instance (a b:Cell):Decidable (ZM a b):=by unfold ZM;infer_instance
def Zdb:List Cell->Cell->List Cell
 | [],c=>[c]
 | x::r,c=>if ZM x c then x::Zdb r c else if x=c then x::r else c::x::r
theorem ZpQ {l:List Cell} {c d:Cell}:d∈Zdb l c↔d∈l\/d=c:=by
 induction l with
 | nil=>simp [Zdb]
 | cons x r ih =>
  unfold Zdb
  split
  ·rw [ZyJ,ih,ZyJ,or_assoc]
  ·split
   ·rename_i h;subst h
    simp only [ZyJ]
    constructor
    ·exact .inl
    ·rintro (h | h)
     ·exact h
     ·exact .inl h
   ·simp only [ZyJ]
    constructor
    ·rintro (h | h | h)
     ·exact .inr h
     ·exact .inl (.inl h)
     ·exact .inl (.inr h)
    ·rintro ((h | h) | h)
     ·exact .inr (.inl h)
     ·exact .inr (.inr h)
     ·exact .inl h
theorem ZpR {l:List Cell} {c:Cell} (h:l.Pairwise ZM):(Zdb l c).Pairwise ZM:=by
 induction l with
 | nil=>simp [Zdb]
 | cons x r ih =>
  obtain ⟨h1,h2⟩:=ZzI.1 h
  unfold Zdb
  split
  ·rename_i hx
   refine ZzI.2 ⟨λ d hd=>?_,ih h2⟩
   rcases ZpQ.1 hd with h3 | rfl
   ·exact h1 d h3
   ·exact hx
  ·rename_i hx
   split
   ·exact h
   ·rename_i hc
    have hcx:ZM c x:=by
     rcases ZcP x c with h3 | h3 | h3
     ·exact absurd h3 hx
     ·exact absurd h3 hc
     ·exact h3
    refine ZzI.2 ⟨λ d hd=>?_,h⟩
    rcases ZyJ.1 hd with rfl | h3
    ·exact hcx
    ·exact Ze6 hcx (h1 d h3)
theorem ZuW (l:List Cell) (c:Cell):(Zdb l c).length<=l.length+1:=by
 induction l with
 | nil=>simp [Zdb]
 | cons x r ih =>
  unfold Zdb
  split
  ·simp;exact ih
  ·split<;>simp
def Yq (l L:List Cell):List Cell:=L.foldl Zdb l
theorem ZkO (l L:List Cell) (c:Cell):Yq l (L++[c])=Zdb (Yq l L) c:=by unfold Yq;rw [List.foldl_append];rfl
theorem Zm8 {L:List Cell}:∀{l:List Cell} {d:Cell},d∈Yq l L↔d∈l\/d∈L:=by
 induction L with
 | nil=>intro l d;simp [Yq]
 | cons x r ih =>
  intro l d
  show d∈Yq (Zdb l x) r↔_
  rw [ih,ZpQ,ZyJ,or_assoc]
theorem ZnK {L:List Cell}:∀{l:List Cell},l.Pairwise ZM->(Yq l L).Pairwise ZM:=by
 induction L with
 | nil=>intro l h;exact h
 | cons x r ih=>intro l h;exact ih (ZpR h)
theorem ZfV {L:List Cell}:∀(l:List Cell),(Yq l L).length<=l.length+L.length:=by
 induction L with
 | nil=>intro l;simp [Yq]
 | cons x r ih =>
  intro l
  have h1:=ih (Zdb l x)
  have h2:=ZuW l x
  show (Yq (Zdb l x) r).length<=_
  rw [ZyM]
  omega
theorem ZnL {l:List Cell} (h:l.Pairwise ZM):l.Nodup:=List.Pairwise.imp (λ {a b} (h:ZM a b)=>by rintro rfl;exact ZbZ _ h) h
theorem Zr5 {L M:List Cell} (hM:M.Nodup) (h:∀c,c∈L↔c∈M):Yq [] L=YE M:=by
 have h1:(Yq [] L).Pairwise ZM:=ZnK List.Pairwise.nil
 refine (Zf0 ?_ h1).symm
 refine (List.perm_ext_iff_of_nodup hM (ZnL h1)).2 λ c=>?_
 rw [Zm8,<-h c]
 simp
theorem ZkP:∀{l:List Cell} {c:Cell} {k:Nat},(∀x∈l.take k,ZM x c)->(∀x,l[k]?=some x->¬ZM x c)->k<=l.length->Zdb l c=if l[k]?=some c then l else l.take k++(c::l.drop k)
 | [],c,k,_,_,hk=>by
  have:k=0:=by simpa using hk
  subst this
  simp [Zdb]
 | x::r,c,0,_,h2,_=>by
  have h3:=h2 x rfl
  unfold Zdb
  rw [if_neg h3]
  simp
 | x::r,c,k+1,h1,h2,hk=>by
  have h3:=h1 x (by simp)
  unfold Zdb
  rw [if_pos h3,ZkP (k:=k) (λ y hy=>h1 y (by simp [hy])) (λ y hy=>h2 y (by simpa using hy)) (by simpa using hk)]
  simp only [Zz5,List.take_succ_cons,List.drop_succ_cons,Zzq]
  split<;>rfl
theorem Zba (l:List Cell):(Z6 l).length=l.length:=by simp [Z6]
open Go.Proofs Go.RowKit
theorem ZpS {A:Ops} {E:Env} (hA:A=Ze E) {l:List Cell} {xs:List PV} (hx:xs=Z6 l) (hl:l.length<=10000000) {i:Int} (hi0:0<=i) (hi1:i<=l.length) (c:Cell) {p q:PV} (hp:p=Zu c) (hq:PV.list 3 (Z6 (l.take i.toNat++(c::l.drop i.toNat)))=q) :
  A.sl 0 i (A.lLen xs)/\A.room (A.nLen (A.lApp [] (A.lSub xs 0 i))) 24/\(A.tkEq (A.nLen (A.lApp [] (A.lSub xs 0 i))) (A.nLen (A.lApp [] (A.lSub xs 0 i)))/\A.room (A.nLen (A.lApp (A.lApp [] (A.lSub xs 0 i)) [p])) 24) /\
   A.sl i (A.lLen xs) (A.lLen xs)/\(A.tkEq (A.nLen (A.lApp (A.lApp [] (A.lSub xs 0 i)) [p])) (A.nLen (A.lApp (A.lApp [] (A.lSub xs 0 i)) [p]))/\A.room (A.nLen (A.lApp (A.lApp (A.lApp [] (A.lSub xs 0 i)) [p]) (A.lSub xs i (A.lLen xs)))) 24) /\
   PV.list 3 (A.lApp (A.lApp (A.lApp [] (A.lSub xs 0 i)) [p]) (A.lSub xs i (A.lLen xs)))=q:=by
 subst hA hp
 have hxl:xs.length=l.length:=by rw [hx,Zba]
 have e1:((xs.take i.toNat).drop (0:Int).toNat)=Z6 (l.take i.toNat):=by rw [hx];simp [Z6]
 have e2:((xs.take (xs.length:Int).toNat).drop i.toNat)=Z6 (l.drop i.toNat):=by
  rw [show (xs.length:Int).toNat=xs.length from rfl,Zze,hx]
  simp [Z6]
 have n1:(Z6 (l.take i.toNat)).length<=l.length:=by rw [Zba,ZyE];omega
 have n2:(Z6 (l.drop i.toNat)).length<=l.length:=by rw [Zba,ZzS];omega
 dsimp only [Ze]
 rw [e1,e2]
 simp only [Z03,Zyg,Zyt]
 refine ⟨⟨by omega,hi0,by omega⟩,by omega,⟨trivial,by omega⟩,⟨hi0,by omega,by omega⟩,⟨trivial,by omega⟩,?_⟩
 rw [<-hq]
 simp [Z6]
set_option maxHeartbeats 10000000 in
theorem Zm9 (l:List Cell) (c:Cell) (hl:l.length<=10000000) {xs:List PV} (hx:xs=Z6 l):Zc Tryz.prog 212 [.list 3 xs,Zu c] (.list 3 (Z6 (Zdb l c))):=by
 refine Zb (clo:=λ _=>false) (rows:=false) Zg Tryz.func212 rfl (enters_of Tryz.func212 (by kernel_rfl) rfl) (λ A q P Y hr hA hq=>?_)
 have hxl:xs.length=l.length:=by rw [hx,Zba]
 have hcmp:=λ x=>ZlA x c
 have hsp:=@ZkP l c
 generalize Zdb l c=R at hq hsp
 obtain ⟨c1,c2,c3⟩:=c
 conv=>cbv
 refine Zi hA (λ (i:Int) s=>s.put (some 5) (.val (.int .i64 i))) (λ i=>0<=i/\i<=l.length/\∀x∈l.take i.toNat,ZM x ⟨c1,c2,c3⟩) (λ i=>(l.length - i).toNat) 0 ?_ ?_ ?_
 ·conv=>cbv
  exact Zk
 ·exact ⟨Zyk _,by omega,by simp⟩
 rintro R2 i ⟨hi0,hi1,hi2⟩ hR2
 have hout:(∀x,l[i.toNat]?=some x->¬ZM x ⟨c1,c2,c3⟩)->R=if l[i.toNat]?=some ⟨c1,c2,c3⟩ then l else l.take i.toNat++(⟨c1,c2,c3⟩::l.drop i.toNat):=λ h=>hsp hi2 h (by omega)
 clear hsp
 conv=>cbv
 refine ⟨Zm hA (by kernel_rfl),?_⟩
 split
 ·rename_i hc
  have hi:i<l.length:=ZE hA rfl (Zl hA hxl) hc
  conv=>cbv
  refine Zfx hA hx hi0 hi (λ x hx0=>?_)
  have ht:=Zo hi0 hx0
  have hcx:=hcmp x
  have hneg:=Zpt x ⟨c1,c2,c3⟩
  have hzero:=Ztr x ⟨c1,c2,c3⟩
  obtain ⟨x1,x2,x3⟩:=x
  generalize Zfy ⟨x1,x2,x3⟩ ⟨c1,c2,c3⟩=r at hcx hneg hzero
  conv=>cbv
  refine Za hA hcx ?_
  conv=>cbv
  split
  ·rename_i hc2
   have g:=hneg.1 (ltT hA hc2)
   have his:A.iAdd i 1=i+1:=Z5 hA _ _
   conv=>cbv
   refine ⟨Zy hA his (by unfold Zj;omega),hR2 (A.iAdd i 1) _ ?_ ?_ ?_⟩
   ·conv=>cbv
    exact Zk
   ·rw [his]
    exact ⟨by omega,by omega,ZS ht hi2 g⟩
   ·rw [his];omega
  ·rename_i hc2
   have g:¬ZM ⟨x1,x2,x3⟩ ⟨c1,c2,c3⟩:=λ h=>by have:=hneg.2 h;have:=ltF hA hc2;omega
   have hout:=hout (λ y hy=>by rw [hx0] at hy;cases hy;exact g)
   conv=>cbv
   refine ⟨Zm hA (by kernel_rfl),?_⟩
   split
   rotate_left
   ·rename_i hc3
    have:=ZK hA rfl (Zl hA hxl) hc3
    omega
   conv=>cbv
   refine Zfx hA hx hi0 hi (λ z hz=>?_)
   obtain rfl:=Zyc ((hx0).symm.trans hz)
   conv=>cbv
   split
   ·rename_i hc3
    have he:(⟨x1,x2,x3⟩:Cell)=⟨c1,c2,c3⟩:=by
     subst hA
     simp [Ze] at hc3
     rw [hc3.1,hc3.2.1,hc3.2.2]
    rw [hx0,he,if_pos rfl] at hout
    conv=>cbv
    rw [<-hq,hx,hout]
   ·rename_i hc3
    have he:(⟨x1,x2,x3⟩:Cell)≠⟨c1,c2,c3⟩:=by
     rintro h
     cases h
     subst hA
     simp [Ze] at hc3
    rw [hx0,if_neg (by simpa using he)] at hout
    conv=>cbv
    refine ⟨Zm hA (by kernel_rfl),?_⟩
    rw [hout] at hq
    exact ZpS hA hx hl hi0 hi1 ⟨c1,c2,c3⟩ rfl hq
 ·rename_i hc
  have hi:i=l.length:=by have:=ZK hA rfl (Zl hA hxl) hc;omega
  have hnone:l[i.toNat]?=none:=Zyw (by omega)
  have hout:=hout (λ y hy=>by rw [hnone] at hy;cases hy)
  rw [hnone,if_neg (by simp)] at hout
  conv=>cbv
  refine ⟨Zm hA (by kernel_rfl),?_⟩
  split
  ·rename_i hc3
   have:=ZE hA rfl (Zl hA hxl) hc3
   omega
  conv=>cbv
  refine ⟨Zm hA (by kernel_rfl),?_⟩
  rw [hout] at hq
  exact ZpS hA hx hl hi0 hi1 ⟨c1,c2,c3⟩ rfl hq
theorem Zr6 (l:List Cell) (pl:Int) (hl:l.length<=10000000) {xs:List PV} (hx:xs=Z6 l):Zc Tryz.prog 213 [.list 3 xs,.int .i64 pl] (.list 4 (ZP (l.map λ c=>⟨c,pl⟩))):=by
 refine Zb (clo:=λ _=>false) (rows:=false) Zg Tryz.func213 rfl (enters_of Tryz.func213 (by kernel_rfl) rfl) (λ A q P Y hr hA hq=>?_)
 have hxl:xs.length=l.length:=by rw [hx,Zba]
 conv=>cbv
 refine Zi hA (λ (z:Int × List PV) s=>{ (s.put (some 6) (.val (.int .i64 z.1))).put (some 5) (.own 0 4 z.2) with tk:=[(A.nLen z.2,100)] })
  (λ z=>0<=z.1/\z.1<=l.length/\z.2=ZP ((l.take z.1.toNat).map λ c=>⟨c,pl⟩)) (λ z=>(l.length - z.1).toNat) (0,[]) ?_ ?_ ?_
 ·conv=>cbv
  exact ZaM 5 0 4 [] _ rfl (.inr rfl) (by repeat (first | refine Zv ?_ | refine ZH ?_ | exact Z9)) (by subst hA;rfl)
 ·exact ⟨Zyk _,by omega,rfl⟩
 rintro R ⟨i,U⟩ ⟨hi0,hi1,hU⟩ hR
 simp only at hi0 hi1 hU
 conv=>cbv
 split
 ·rename_i hc
  have hi:i<l.length:=ZE hA rfl (Zl hA hxl) hc
  have his:A.iAdd i 1=i+1:=Z5 hA _ _
  have hir:A.inR (A.iAdd i 1):=Zy hA his (by unfold Zj;omega)
  conv=>cbv
  refine Zfx hA hx hi0 hi (λ c hc=>?_)
  have htake:=Zo hi0 hc
  have hnext:A.lApp U [.agg [.bool c.Airport,.int .i64 c.Index,.int .i64 c.Minute,.int .i64 pl]]=ZP ((l.take (i+1).toNat).map λ c=>⟨c,pl⟩):=by
   rw [htake]
   subst hA hU
   show ZP _++_=_
   simp [ZP,Znz]
  have hUl:U.length=i.toNat:=by rw [hU];simp [ZP];omega
  have hroom:A.room (A.nLen (A.lApp U [.agg [.bool c.Airport,.int .i64 c.Index,.int .i64 c.Minute,.int .i64 pl]])) 32:=by
   subst hA
   show (U++[_]).length*(32+1)<=140737488355328
   rw [Zyg,Zyt]
   omega
  have htk:A.tkEq (A.nLen U) (A.nLen U):=by subst hA;rfl
  obtain ⟨c1,c2,c3⟩:=c
  simp only at hnext hroom
  conv=>cbv
  refine ⟨⟨htk,hroom⟩,hir,hR (A.iAdd i 1,A.lApp U [.agg [.bool c1,.int .i64 c2,.int .i64 c3,.int .i64 pl]]) _ ?_ ?_ ?_⟩
  ·conv=>cbv
   exact Zk
  ·rw [his];exact ⟨by omega,by omega,hnext⟩
  ·rw [his];simp only;omega
 ·rename_i hc
  have hi:l.length<=i:=ZK hA rfl (Zl hA hxl) hc
  conv=>cbv
  rw [Zyl (by omega)] at hU
  rw [<-hq,hU]
open Go.Proofs Go.RowKit
set_option maxHeartbeats 1000000 in
theorem ZpT (t:Zh) (hair:Qe t=true) (p:Qo):Zc Tryz.prog 301 [Zn t,Yl p] (.bool (Yx t.Ways p)):=by
 refine Zb (clo:=λ _=>false) (rows:=false) Zg Tryz.func301 rfl (enters_of Tryz.func301 (by kernel_rfl) rfl) (λ A q P Y hr hA hq=>?_)
 have hlenT:p.Times.length<=9223372036854775807:=by
  have h1:=Qz.cell (show Qz [.agg _] from hr.mem (p:=Yl p) (by simp)) (c:=.list 1 (Zd p.Times)) (by simp)
  simpa [Zd] using h1.len
 obtain ⟨ss,cs,ws,ms,ks,nv,hss,hcs,hws,hms,hks,hnv,htab⟩:=Qd t
 obtain ⟨ts,hts⟩:∃ts,ts=Zd p.Times:=⟨_,rfl⟩
 have hwl:ws.length=t.Ways.length:=by rw [hws];simp [Q3]
 have htl:ts.length=p.Times.length:=by rw [hts];simp [Zd]
 have bad:¬Yx t.Ways p=true->PV.bool false=q:=λ h=>by rw [<-hq,Zzh.2 h]
 rw [htab,Yw p hts]
 obtain ⟨way,T⟩:=p
 simp only at bad hts htl hlenT hq ⊢
 conv=>cbv
 refine ⟨Zm hA (by kernel_rfl),?_⟩
 split
 ·rename_i hc
  conv=>cbv
  exact bad (λ h=>by have h1:=ltT hA hc;unfold Yx at h;simp only at h;rw [if_neg (by omega)] at h;cases h)
 rename_i c1;replace c1:=ltF hA c1
 conv=>cbv
 split
 ·rename_i hc
  conv=>cbv
  exact bad (λ h=>by have h1:=Zhp hA (Zl hA hwl) rfl hc;unfold Yx at h;simp only at h;rw [if_pos c1,Zyw (by omega)] at h;cases h)
 rename_i c2;replace c2:=Zia hA (Zl hA hwl) rfl c2
 conv=>cbv
 refine Ym hA hws c1 c2 (λ w v hw hv=>?_)
 have hvl:v.length=w.Legs.length:=by rw [hv];simp [Qp]
 have hP:Yx t.Ways ⟨way,T⟩=(decide (T.length=w.Legs.length+1)&&Qc (-1) T):=by
  unfold Yx;simp only;rw [if_pos c1,hw]
 have hw8:=Zfh hair (Zyb hw)
 obtain ⟨w1,w2,w3⟩:=w
 simp only at hvl hP hw8
 have hadd:A.iAdd (A.lLen v) 1=(w3.length:Int)+1:=by rw [Z5 hA,Zl hA hvl]
 conv=>cbv
 refine ⟨Zy hA hadd (by unfold Zj;omega),?_⟩
 split
 ·rename_i hc
  conv=>cbv
  exact bad (λ h=>by have h1:=Zew hA (Zl hA htl) hadd hc;rw [hP,Zyi,Zyf] at h;omega)
 rename_i c3;replace c3:=Zka hA (Zl hA htl) hadd c3
 rw [show (decide (T.length=w3.length+1)&&Qc (-1) T)=Qc (-1) T by simp;omega] at hP
 rw [hP] at hq bad
 conv=>cbv
 refine Zi hA (λ (i:Int) s=>s.put (some 5) (.val (.int .i64 i))) (λ i=>0<=i/\i<=(T.length:Int)/\(λ i=>Qc (-1) T=Qc (Zbx T i) (T.drop i.toNat)) i) (λ i=>((T.length:Int) - i).toNat) 0 ?_ ?_ ?_
 ·conv=>cbv
  exact Zk
 ·exact ⟨Zyk _,by omega,by simp [Zbx]⟩
 rintro R i ⟨hi0,hi1,hi2⟩ hRi
 conv=>cbv
 split
 · rename_i hc
   have hi:i<(T.length:Int):=ZE hA rfl (Zl hA htl) hc
   have his:A.iAdd i 1=i+1:=Z5 hA _ _
   have hir:A.inR (A.iAdd i 1):=Zy hA his (by unfold Zj;omega)
   have him:((T.length:Int) - A.iAdd i 1).toNat<((T.length:Int) - i).toNat:=by rw [his];omega
   have hin:(λ i=>Qc (-1) T=Qc (Zbx T i) (T.drop i.toNat)) (i+1)->0<=A.iAdd i 1/\A.iAdd i 1<=(T.length:Int)/\(λ i=>Qc (-1) T=Qc (Zbx T i) (T.drop i.toNat)) (A.iAdd i 1):=λ h=>by rw [his];exact ⟨by omega,by omega,h⟩
   simp only at hin
   conv=>cbv
   have hn:i.toNat<T.length:=by omega
   rw [Zfi T i.toNat hn] at hi2
   refine ⟨Zm hA (by kernel_rfl),?_⟩
   refine Zw hA hts hi0 hi (λ x hx=>?_)
   have hxv:T[i.toNat]=x:=(ZxZ.1 hx).2
   rw [hxv] at hi2
   have step:0<=x->x<=65535->Zbx T i<x->Qc (-1) T=Qc (Zbx T (i+1)) (T.drop (i+1).toNat):=by
    intro a1 a2 a3
    rw [hi2,show (i+1).toNat=i.toNat+1 by omega]
    simp only [a1,a2,a3,decide_true,ZyL]
    congr 1
    unfold Zbx
    rw [if_neg (by omega),show (i+1 - 1)=i by omega,Zyj,hx];rfl
   conv=>cbv
   split
   ·rename_i hc
    conv=>cbv
    exact bad (λ h=>by have h1:=ltT hA hc;rw [hi2] at h;simp only [Zyi,Zyf] at h;omega)
   rename_i d1;replace d1:=ltF hA d1
   conv=>cbv
   refine Zw hA hts hi0 hi (λ z hz=>?_)
   obtain rfl:=Zyc ((hx).symm.trans hz)
   conv=>cbv
   split
   ·rename_i hc
    conv=>cbv
    exact bad (λ h=>by have h1:=ltT hA hc;rw [hi2] at h;simp only [Zyi,Zyf] at h;omega)
   rename_i d2;replace d2:=ltF hA d2
   conv=>cbv
   split
   ·rename_i hc
    have d3:=ltT hA hc
    have hsub:A.iSub i 1=i - 1:=ZbJ hA _ _
    conv=>cbv
    refine ⟨Zy hA hsub (by unfold Zj;omega),?_⟩
    refine Zw hA hts (n:=A.iSub i 1) (by rw [hsub];omega) (by rw [hsub];omega) (λ y hy=>?_)
    rw [hsub] at hy
    have hpy:Zbx T i=y:=by unfold Zbx;rw [if_neg (by omega),Zyj,hy];rfl
    conv=>cbv
    refine Zw hA hts hi0 hi (λ z hz=>?_)
    obtain rfl:=Zyc ((hx).symm.trans hz)
    conv=>cbv
    split
    ·rename_i hc
     conv=>cbv
     exact bad (λ h=>by have h1:=leT hA hc;rw [hi2,hpy] at h;simp only [Zyi,Zyf] at h;omega)
    rename_i d4;replace d4:=leF hA d4
    conv=>cbv
    exact ⟨hir,hRi (A.iAdd i 1) _ (by (conv=>cbv);exact Zk) (hin (step d1 d2 (by omega))) him⟩
   ·rename_i hc
    have d3:=ltF hA hc
    have hp0:Zbx T i=-1:=by unfold Zbx;rw [if_pos (by omega)]
    conv=>cbv
    exact ⟨hir,hRi (A.iAdd i 1) _ (by (conv=>cbv);exact Zk) (hin (step d1 d2 (by omega))) him⟩
 rename_i hc
 have hi:i=(T.length:Int):=by have:=ZK hA rfl (Zl hA htl) hc;omega
 conv=>cbv
 rw [<-hq,hi2,ZzP (by omega)]
 rfl
theorem ZhG:∀(ls:List Leg) (T:List Int) (k:Nat) {lg:Leg} {u v:Int},ls[k]?=some lg->T[k]?=some u->T[k+1]?=some v->(Qf ls T)[k]?=some ⟨false,lg.Volume,⟨u,v⟩⟩
 | [],_,_,_,_,_,h,_,_=>by simp at h
 | _::_,[],_,_,_,_,_,h,_=>by simp at h
 | _::_,[_],k,_,_,_,_,_,h=>by simp at h
 | y::r,a::b::T,0,lg,u,v,h1,h2,h3=>by
  simp at h1 h2 h3
  subst h1 h2 h3
  rfl
 | y::r,a::b::T,k+1,lg,u,v,h1,h2,h3=>by
  simp only [Qf,Zz5] at h1 h2 h3 ⊢
  exact ZhG r (b::T) k h1 h2 h3
set_option maxHeartbeats 1000000 in
theorem ZpU (t:Zh) (p:Qo) (w:Way) (h0:0<=p.Way) (hw:t.Ways[p.Way.toNat]?=some w) (hl:p.Times.length=w.Legs.length+1) (h8:w.Legs.length<=8) (hb:∀m∈p.Times,Zj (m+1)) :
  Zc Tryz.prog 302 [Zn t,Yl p] (.list 4 (ZW (Zbm w p.Times))):=by
 refine Zb (clo:=λ _=>false) (rows:=false) Zg Tryz.func302 rfl (enters_of Tryz.func302 (by kernel_rfl) rfl) (λ A q P Y hr hA hq=>?_)
 have hlt:=(ZxZ.1 hw).1
 obtain ⟨ss,cs,ws,ms,ks,nv,hss,hcs,hws,hms,hks,hnv,htab⟩:=Qd t
 obtain ⟨ts,hts⟩:∃ts,ts=Zd p.Times:=⟨_,rfl⟩
 have htl:ts.length=p.Times.length:=by rw [hts];simp [Zd]
 rw [htab,Yw p hts]
 obtain ⟨way,T⟩:=p
 simp only at h0 hw hl h8 hb hts hlt hq htl ⊢
 conv=>cbv
 refine Ym hA hws h0 (by omega) (λ w' v hw' hv=>?_)
 obtain rfl:=Zyc (hw'.symm.trans hw)
 have hvl:v.length=w'.Legs.length:=by rw [hv];simp [Qp]
 obtain ⟨w1,w2,ls⟩:=w'
 simp only at hl h8 hv hvl hq ⊢
 conv=>cbv
 refine ⟨Zm hA (by kernel_rfl),?_⟩
 refine Zw hA hts (n:=0) (by omega) (by omega) (λ a ha=>?_)
 conv=>cbv
 refine Zw hA hts (n:=0) (by omega) (by omega) (λ z hz=>?_)
 obtain rfl:=Zyc (hz.symm.trans ha)
 have haT:z∈T:=Zyb ha
 have hz1:A.iAdd z 1=z+1:=Z5 hA _ _
 conv=>cbv
 refine ⟨Zy hA hz1 (hb z haT),?_⟩
 have hsl:(Qf ls T).length=ls.length:=(Ze0 ls T).trans (Zby ls T hl)
 obtain ⟨a1,ha1⟩:∃a1,a1=A.iAdd z 1:=⟨_,rfl⟩
 refine Zi hA (λ (y:Int × List PV) s=>{ (s.put (some 8) (.val (.int .i64 y.1))).put (some 7) (.own 0 4 y.2) with tk:=[(A.nLen y.2,85)] })
  (λ y=>0<=y.1/\y.1<=ls.length/\y.2=ZW (⟨true,w1,⟨z,z+1⟩⟩::(Qf ls T).take y.1.toNat)) (λ y=>(ls.length - y.1).toNat) (0,[.agg [.bool true,.int .i64 w1,.int .i64 z,.int .i64 (A.iAdd z 1)]]) ?_ ?_ ?_
 ·conv=>cbv
  exact ZaM 7 4 4 _ _ rfl (.inl rfl) (by repeat (first | refine Zv ?_ | refine ZH ?_ | exact Z9)) (by subst hA;rfl)
 ·refine ⟨Zyk _,by omega,?_⟩
  show [PV.agg [.bool true,.int .i64 w1,.int .i64 z,.int .i64 (A.iAdd z 1)]]=_
  rw [hz1];rfl
 rintro R ⟨i,L⟩ ⟨hi0,hi1,hL⟩ hR
 simp only at hi0 hi1 hL
 have hLl:L.length<=9:=by rw [hL];simp [ZW];omega
 have htk:A.tkEq (A.nLen L) (A.nLen L):=by subst hA;rfl
 conv=>cbv
 split
 ·rename_i hc
  have hi:i<ls.length:=ZE hA rfl (Zl hA hvl) hc
  have his:A.iAdd i 1=i+1:=Z5 hA _ _
  have hir:A.inR (A.iAdd i 1):=Zy hA his (by unfold Zj;omega)
  conv=>cbv
  refine ⟨Zm hA (by kernel_rfl),?_⟩
  refine Zdl hA hv hi0 hi (λ lg u hlg hu=>?_)
  obtain ⟨l1,l2,l3,l4⟩:=lg
  conv=>cbv
  refine Zw hA hts hi0 (by omega) (λ x hx=>?_)
  conv=>cbv
  refine ⟨hir,?_⟩
  refine Zw hA hts (n:=A.iAdd i 1) (by rw [his];omega) (by rw [his];omega) (λ y hy=>?_)
  rw [his] at hy
  have hst:=ZhG ls T i.toNat hlg hx (by rw [show i.toNat+1=(i+1).toNat by omega];exact hy)
  have hnext:A.lApp L [.agg [.bool false,.int .i64 l2,.int .i64 x,.int .i64 y]]=ZW (⟨true,w1,⟨z,z+1⟩⟩::(Qf ls T).take (i+1).toNat):=by
   subst hA hL
   rw [show (i+1).toNat=i.toNat+1 by omega,ZyD,hst]
   show ZW _++_=_
   simp [ZW,ZfK]
  have hroom:A.room (A.nLen (A.lApp L [.agg [.bool false,.int .i64 l2,.int .i64 x,.int .i64 y]])) 32:=by
   subst hA
   show (L++[_]).length*(32+1)<=140737488355328
   rw [Zyg,Zyt];omega
  conv=>cbv
  refine ⟨⟨htk,hroom⟩,hir,hR (A.iAdd i 1,A.lApp L [.agg [.bool false,.int .i64 l2,.int .i64 x,.int .i64 y]]) _ ?_ ?_ ?_⟩
  ·conv=>cbv
   exact Zk
  ·rw [his];exact ⟨by omega,by omega,hnext⟩
  ·show ((ls.length:Int) - A.iAdd i 1).toNat<((ls.length:Int) - i).toNat
   rw [his];omega
 ·rename_i hc
  have hi:ls.length<=i:=ZK hA rfl (Zl hA hvl) hc
  rw [Zyl (by omega)] at hL
  conv=>cbv
  refine ⟨Zm hA (by kernel_rfl),?_⟩
  have hN:A.lLen v=(ls.length:Int):=Zl hA hvl
  refine Zw hA hts (n:=A.lLen v) (by omega) (by omega) (λ y hy=>?_)
  have hyT:=Zyb hy
  have hy1:A.iAdd y 1=y+1:=Z5 hA _ _
  conv=>cbv
  refine Zw hA hts (n:=A.lLen v) (by omega) (by omega) (λ y' hy'=>?_)
  obtain rfl:=Zyc (hy'.symm.trans hy)
  have hroom:A.room (A.nLen (A.lApp L [.agg [.bool true,.int .i64 w2,.int .i64 y',.int .i64 (A.iAdd y' 1)]])) 32:=by
   subst hA
   show (L++[_]).length*(32+1)<=140737488355328
   rw [Zyg,Zyt];omega
  have hres:A.lApp L [.agg [.bool true,.int .i64 w2,.int .i64 y',.int .i64 (A.iAdd y' 1)]]=ZW (Zbm ⟨w1,w2,ls⟩ T):=by
   have hh:T.headD 0=z:=by
    rw [Int.toNat_zero] at ha
    cases T with
    | nil=>simp at ha
    | cons x r=>simp at ha;exact ha
   have hg:T.getLastD 0=y':=by
    rw [hN,ZyR] at hy
    rw [Zzz,ZzC,show T.length - 1=ls.length by omega,hy];rfl
   unfold Zbm
   rw [hh,hg,hy1]
   subst hA hL
   show ZW _++_=_
   simp [ZW,ZfK]
  conv=>cbv
  refine ⟨Zy hA hy1 (hb y' hyT),⟨htk,hroom⟩,?_⟩
  rw [<-hq,<-hres]
theorem ZpV (t:Zh) (p:Qo):Zc Tryz.prog 288 [Zn t,Yl p] (.tup [ZgE t p,.int .i64 (QB t p)]):=by
 refine Zb (clo:=λ _=>false) (rows:=false) Zg Tryz.func288 rfl (enters_of Tryz.func288 (by kernel_rfl) rfl) (λ A q P Y hr hA hq=>?_)
 have h1:=Zfp t
 have h2:Qe t=true->Zc Tryz.prog 301 [Zn t,Yl p] (.bool (Yx t.Ways p)):=λ h=>ZpT t h p
 have h3:Qe t=true->Yx t.Ways p=true->Zc Tryz.prog 302 [Zn t,Yl p] (.list 4 (ZW (Yo t p))):=λ ha h=>by
  obtain ⟨w,a1,a2,a3,a4,a5⟩:=Ze1 h
  rw [a5]
  exact ZpU t p w a1 a2 a3 (Zfh ha (Zyb a2)).1 (λ m hm=>by have:=a4 m hm;unfold Zj;omega)
 have e0:QB t p=if Qe t then (if Yx t.Ways p then 0 else 160) else 140:=rfl
 have e1:ZgE t p=if QB t p=0 then .list 4 (ZW (Yo t p)) else .list 0 []:=rfl
 rw [e1,e0] at hq
 generalize ZW (Yo t p)=L at h3 hq
 generalize Qe t=b1 at h1 h2 h3 hq
 generalize Yx t.Ways p=b2 at h2 h3 hq
 obtain ⟨ss,cs,ws,ms,ks,nv,hss,hcs,hws,hms,hks,hnv,htab⟩:=Qd t
 obtain ⟨ts,hts⟩:∃ts,ts=Zd p.Times:=⟨_,rfl⟩
 rw [htab] at h1 h2 h3 ⊢
 rw [Yw p hts] at h2 h3 ⊢
 obtain ⟨way,hway⟩:∃way,way=p.Way:=⟨_,rfl⟩
 rw [<-hway] at h2 h3 ⊢
 conv=>cbv
 cases b1 with
 | false =>
  refine Za hA h1 ?_
  conv=>cbv
  split
  rotate_left
  ·rename_i hc
   cases ((show False by have:=neF hA hc;omega))
  conv=>cbv
  rw [<-hq];rfl
 | true =>
  refine Za hA h1 ?_
  conv=>cbv
  split
  ·rename_i hc
   cases (neT hA hc rfl)
  conv=>cbv
  cases b2 with
  | false =>
   refine Za hA (h2 rfl) ?_
   conv=>cbv
   split
   rotate_left
   ·rename_i hc
    cases (nF hA hc)
   conv=>cbv
   rw [<-hq];rfl
  | true =>
   refine Za hA (h2 rfl) ?_
   conv=>cbv
   split
   ·rename_i hc
    cases (nT hA hc)
   conv=>cbv
   refine Za hA (h3 rfl rfl) ?_
   conv=>cbv
   rw [<-hq];rfl
open Go.Proofs Go.RowKit
set_option maxHeartbeats 1000000 in
theorem ZnM (t:Zh) (c:Zr):Zc Tryz.prog 206 [Zn t,Zaw c] (.bool (YX t.Configs.length t.Modes c)):=by
 refine Zb (clo:=λ _=>false) (rows:=false) Zg Tryz.func206 rfl (enters_of Tryz.func206 (by kernel_rfl) rfl) (λ A q P Y hr hA hq=>?_)
 have hbad:¬YX t.Configs.length t.Modes c=true->PV.bool false=q:=λ h=>by rw [<-hq,Zzh.2 h]
 have hK:=(Zc3 (nc:=t.Configs.length) (M:=t.Modes) (c:=c)).1
 have hK2:=(Zc3 (nc:=t.Configs.length) (M:=t.Modes) (c:=c)).2
 generalize YX t.Configs.length t.Modes c=kb at hbad hK hK2 hq
 obtain ⟨ss,cs,ws,ms,ks,nv,hss,hcs,hws,hms,hks,hnv,htab⟩:=Qd t
 rw [htab]
 have hcl:cs.length=t.Configs.length:=by rw [hcs];simp [Qh]
 have hml:ms.length=t.Modes.length:=by rw [hms];simp [Z0]
 obtain ⟨c1,c2,c3⟩:=c
 obtain ⟨mo,hmo⟩:∃mo,mo=Zd c3:=⟨_,rfl⟩
 rw [show Zaw ⟨c1,c2,c3⟩=.agg [.int .i64 c1,.int .i64 c2,.list 1 mo] by rw [hmo];rfl]
 have hol:mo.length=c3.length:=by rw [hmo];simp [Zd]
 have hlen:c3.length<=9223372036854775807:=by
  have:=(Qz.cell (show Qz [.agg [_,_,_]] from hr.mem (p:=Zaw ⟨c1,c2,c3⟩) (by simp)) (c:=.list 1 (Zd c3)) (by simp)).len
  rw [<-hmo,hol] at this;exact this
 simp only at hK hK2 ⊢
 conv=>cbv
 split
 ·rename_i hc
  conv=>cbv
  exact hbad (λ h=>by have:=hK h;have:=ltT hA hc;omega)
 rename_i g1;replace g1:=ltF hA g1
 conv=>cbv
 split
 ·rename_i hc
  conv=>cbv
  exact hbad (λ h=>by have:=hK h;have:=leT hA hc;omega)
 rename_i g2;replace g2:=leF hA g2
 conv=>cbv
 split
 ·rename_i hc
  conv=>cbv
  exact hbad (λ h=>by have:=hK h;have:=ltT hA hc;omega)
 rename_i g3;replace g3:=ltF hA g3
 conv=>cbv
 split
 ·rename_i hc
  conv=>cbv
  exact hbad (λ h=>by have:=hK h;have:=Zhp hA (Zl hA hcl) rfl hc;omega)
 rename_i g4;replace g4:=Zia hA (Zl hA hcl) rfl g4
 conv=>cbv
 split
 ·rename_i hc
  conv=>cbv
  exact hbad (λ h=>by have:=hK h;have:=Zew hA (Zl hA hol) (Zl hA hml) hc;omega)
 rename_i g5;replace g5:=Zka hA (Zl hA hol) (Zl hA hml) g5
 conv=>cbv
 refine Zi hA (λ (i:Int) s=>s.put (some 5) (.val (.int .i64 i))) (λ i=>0<=i/\i<=(c3.length:Int)/\(λ i=>∀p∈(c3.zip t.Modes).take i.toNat,Zcx p=true) i) (λ i=>((c3.length:Int) - i).toNat) 0 ?_ ?_ ?_
 ·conv=>cbv
  exact Zk
 ·exact ⟨Zyk _,by omega,by simp⟩
 rintro R i ⟨hi0,hi1,hi2⟩ hRi
 conv=>cbv
 split
 · rename_i hc
   have hi:i<(c3.length:Int):=ZE hA rfl (Zl hA hol) hc
   have his:A.iAdd i 1=i+1:=Z5 hA _ _
   have hir:A.inR (A.iAdd i 1):=Zy hA his (by unfold Zj;omega)
   have him:((c3.length:Int) - A.iAdd i 1).toNat<((c3.length:Int) - i).toNat:=by rw [his];omega
   have hin:(λ i=>∀p∈(c3.zip t.Modes).take i.toNat,Zcx p=true) (i+1)->0<=A.iAdd i 1/\A.iAdd i 1<=(c3.length:Int)/\(λ i=>∀p∈(c3.zip t.Modes).take i.toNat,Zcx p=true) (A.iAdd i 1):=λ h=>by rw [his];exact ⟨by omega,by omega,h⟩
   simp only at hin
   conv=>cbv
   have hl0:i.toNat<t.Modes.length:=by omega
   have hl1:=Zya hl0
   refine ⟨Zm hA (by kernel_rfl),?_⟩
   refine Zw hA hmo hi0 hi (λ m hm=>?_)
   have hbad2:∀l,t.Modes[i.toNat]?=some l->Zcx (m,l)=false->PV.bool false=q:=λ l hl h=>hbad (λ hk=>by
    have:=(hK hk).2.2.2.2.2 (m,l) (Zyb (Zn1 hm hl))
    rw [h] at this;cases this)
   conv=>cbv
   split
   ·rename_i hc
    have:=ltT hA hc
    conv=>cbv
    exact hbad2 _ hl1 (by unfold Zcx;simp;omega)
   rename_i g6;replace g6:=ltF hA g6
   conv=>cbv
   refine Zw hA hmo hi0 hi (λ z hz=>?_)
   obtain rfl:=Zyc ((hm).symm.trans hz)
   conv=>cbv
   refine Zbh hA hms hi0 (by omega) (λ l v hl hv=>?_)
   have hvl:v.length=l.length:=by rw [hv];simp [Zd]
   have ht:=Zo hi0 (Zn1 hm hl)
   conv=>cbv
   split
   ·rename_i hc
    have:=Zhp hA (Zl hA hvl) rfl hc
    conv=>cbv
    exact hbad2 l hl (by unfold Zcx;simp;omega)
   rename_i g7;replace g7:=Zia hA (Zl hA hvl) rfl g7
   conv=>cbv
   exact ⟨hir,hRi (A.iAdd i 1) _ (by (conv=>cbv);exact Zk) (hin (ZS ht hi2 (by unfold Zcx;simp;omega))) him⟩
 rename_i hc
 have hi:i=(c3.length:Int):=by have:=ZK hA rfl (Zl hA hol) hc;omega
 conv=>cbv
 rw [<-hq,hK2 ⟨by omega,by omega,by omega,by omega,by omega,Q7 (l:=c3.zip t.Modes) (by rw [List.length_zip];omega) hi2⟩]
set_option maxHeartbeats 4000000 in
theorem ZpW (t:Zh) (s:List Zr):Zc Tryz.prog 151 [Zn t,ZD s] (.bool (QO t.Configs.length t.Modes s)):=by
 refine Zb (clo:=λ _=>false) (rows:=false) Zg Tryz.func151 rfl (enters_of Tryz.func151 (by kernel_rfl) rfl) (λ A q P Y hr hA hq=>?_)
 have hbad:¬QO t.Configs.length t.Modes s=true->PV.bool false=q:=λ h=>by rw [<-hq,Zzh.2 h]
 have hK:=(Zc2 (nc:=t.Configs.length) (M:=t.Modes) (s:=s)).1
 have hK2:=(Zc2 (nc:=t.Configs.length) (M:=t.Modes) (s:=s)).2
 have hfit:=λ c=>ZnM t c
 generalize QO t.Configs.length t.Modes s=kb at hbad hK hK2 hq
 generalize hfb:YX t.Configs.length t.Modes=fb at hK hK2 hfit
 obtain ⟨xs,hxs⟩:∃xs,xs=Zz s:=⟨_,rfl⟩
 have hxl:xs.length=s.length:=by rw [hxs];simp [Zz]
 have hlen:s.length<=9223372036854775807:=by
  have:=(Qz.cell (show Qz [.agg [_]] from hr.mem (p:=ZD s) (by simp)) (c:=.list 3 (Zz s)) (by simp)).len
  rw [<-hxs,hxl] at this;exact this
 obtain ⟨ss,cs,ws,ms,ks,nv,hss,hcs,hws,hms,hks,hnv,htab⟩:=Qd t
 rw [htab] at hfit ⊢
 rw [ZB hxs]
 conv=>cbv
 split
 ·rename_i hc
  conv=>cbv
  exact hbad (λ h=>by obtain ⟨⟨c,h1,_⟩,_⟩:=hK h;have:=ZdS hA (Zl hA hxl) rfl hc;have:=(ZxZ.1 h1).1;omega)
 rename_i g1;replace g1:=ZeN hA (Zl hA hxl) rfl g1
 conv=>cbv
 refine Yg hA hxs (Zyk 0) (by omega) (λ c0 v0 hc0 hv0=>?_)
 have hc00:s[0]?=some c0:=hc0
 obtain ⟨k1,k2,k3⟩:=c0
 conv=>cbv
 split
 ·rename_i hc
  conv=>cbv
  exact hbad (λ h=>by obtain ⟨⟨c,h1,h2⟩,_⟩:=hK h;rw [hc00] at h1;cases h1;exact neT hA hc h2)
 rename_i g2;replace g2:=neF hA g2
 conv=>cbv
 refine Zi hA (λ (i:Int) s=>s.put (some 5) (.val (.int .i64 i))) (λ i=>0<=i/\i<=(s.length:Int)/\(λ i=>(∀x∈s.take i.toNat,fb x=true)/\∀(k:Nat) (x y:Zr),(k:Int)+1<i->s[k]?=some x->s[k+1]?=some y->x.From<y.From) i) (λ i=>((s.length:Int) - i).toNat) 0 ?_ ?_ ?_
 ·conv=>cbv
  exact Zk
 ·exact ⟨Zyk _,by omega,by constructor;simp;intro k x y h;omega⟩
 rintro R i ⟨hi0,hi1,hi2⟩ hRi
 conv=>cbv
 split
 · rename_i hc
   have hi:i<(s.length:Int):=ZE hA rfl (Zl hA hxl) hc
   have his:A.iAdd i 1=i+1:=Z5 hA _ _
   have hir:A.inR (A.iAdd i 1):=Zy hA his (by unfold Zj;omega)
   have him:((s.length:Int) - A.iAdd i 1).toNat<((s.length:Int) - i).toNat:=by rw [his];omega
   have hin:(λ i=>(∀x∈s.take i.toNat,fb x=true)/\∀(k:Nat) (x y:Zr),(k:Int)+1<i->s[k]?=some x->s[k+1]?=some y->x.From<y.From) (i+1)->0<=A.iAdd i 1/\A.iAdd i 1<=(s.length:Int)/\(λ i=>(∀x∈s.take i.toNat,fb x=true)/\∀(k:Nat) (x y:Zr),(k:Int)+1<i->s[k]?=some x->s[k+1]?=some y->x.From<y.From) (A.iAdd i 1):=λ h=>by rw [his];exact ⟨by omega,by omega,h⟩
   simp only at hin
   conv=>cbv
   obtain ⟨hi3,hi4⟩:=hi2
   refine ⟨Zm hA (by kernel_rfl),?_⟩
   refine Yg hA hxs hi0 hi (λ x v hx hv=>?_)
   have ht:=Zo hi0 hx
   have hm:=Zyb hx
   have hf:=hfit x
   rw [ZbE x hv] at hf
   have hxx:=hx
   obtain ⟨x1,x2,x3⟩:=x
   simp only at hf hv
   conv=>cbv
   cases hb:fb ⟨x1,x2,x3⟩ with
   | false =>
    rw [hb] at hf
    refine Za hA (hf) ?_
    conv=>cbv
    split
    rotate_left
    ·rename_i hc
     cases ((nF hA hc))
    conv=>cbv
    exact hbad (λ h=>by have:=(hK h).2.1 _ hm;rw [hb] at this;cases this)
   | true =>
    rw [hb] at hf
    refine Za hA (hf) ?_
    conv=>cbv
    split
    ·rename_i hc
     cases ((nT hA hc))
    conv=>cbv
    have hnx:(∀c,s[(i - 1).toNat]?=some c->0<i->c.From<x1)->(∀x∈s.take (i+1).toNat,fb x=true)/\∀(k:Nat) (x y:Zr),(k:Int)+1<i+1->s[k]?=some x->s[k+1]?=some y->x.From<y.From:=λ h=>by
     refine ⟨ZS ht hi3 hb,λ k x y hk hx hy=>?_⟩
     by_cases e:(k:Int)+1<i
     ·exact hi4 k x y e hx hy
     ·have e1:k+1=i.toNat:=by omega
      rw [e1,hxx] at hy
      cases hy
      exact h x (by rw [show (i - 1).toNat=k by omega];exact hx) (by omega)
    split
    ·rename_i hc
     have g3:=ltT hA hc
     have hsub:A.iSub i 1=i - 1:=ZbJ hA _ _
     conv=>cbv
     refine ⟨Zy hA hsub (by unfold Zj;omega),?_⟩
     conv=>cbv
     refine Yg hA hxs (n:=A.iSub i 1) (by rw [hsub];omega) (by rw [hsub];omega) (λ y v2 hy hv2=>?_)
     rw [hsub] at hy
     obtain ⟨y1,y2,y3⟩:=y
     simp only at hv2 ⊢
     have hyf:y1<x1\/PV.bool false=q/\x1<=y1:=by
      rcases Int.lt_or_le y1 x1 with h | h
      ·exact .inl h
      ·refine .inr ⟨hbad (λ h2=>?_),h⟩
       have:=(hK h2).2.2 (i - 1).toNat _ _ hy (by rw [show (i - 1).toNat+1=i.toNat by omega];exact hxx)
       simp only at this
       omega
     conv=>cbv
     refine Yg hA hxs hi0 hi (λ z w hz hw=>?_)
     rw [hxx] at hz
     cases hz
     conv=>cbv
     split
     ·rename_i hc
      have g4:=leT hA hc
      conv=>cbv
      exact hyf.elim (λ h=>by omega) (λ h=>h.1)
     rename_i g4;replace g4:=leF hA g4
     conv=>cbv
     exact ⟨hir,hRi (A.iAdd i 1) _ (by (conv=>cbv);exact Zk) (hin (hnx (λ c h1 _=>by rw [hy] at h1;cases h1;omega))) him⟩
    ·rename_i hc
     have g3:=ltF hA hc
     conv=>cbv
     exact ⟨hir,hRi (A.iAdd i 1) _ (by (conv=>cbv);exact Zk) (hin (hnx (λ c h1 h2=>by omega))) him⟩
 rename_i hc
 have hi:i=(s.length:Int):=by have:=ZK hA rfl (Zl hA hxl) hc;omega
 conv=>cbv
 rw [<-hq,hK2 ⟨⟨_,hc00,g2⟩,Q7 hi hi2.1,λ k x y hx hy=>hi2.2 k x y (by have:=(ZxZ.1 hy).1;omega) hx hy⟩]
theorem ZiW (t:Zh) (s:List Zr):Zc Tryz.prog 82 [Zn t,ZD s] (.int .i64 (Qj t s)):=by
 refine Zb (clo:=λ _=>false) (rows:=false) Zg Tryz.func82 rfl (enters_of Tryz.func82 (by kernel_rfl) rfl) (λ A q P Y hr hA hq=>?_)
 have h1:=Zfp t
 have h2:=ZpW t s
 have hE:Qj t s=if Qe t then (if QO t.Configs.length t.Modes s then 0 else 190) else 140:=rfl
 rw [hE] at hq
 generalize Qe t=a at h1 hq
 generalize QO t.Configs.length t.Modes s=b at h2 hq
 obtain ⟨ss,cs,ws,ms,ks,nv,hss,hcs,hws,hms,hks,hnv,htab⟩:=Qd t
 rw [htab] at h1 h2 ⊢
 obtain ⟨xs,hxs⟩:∃xs,xs=Zz s:=⟨_,rfl⟩
 rw [ZB hxs] at h2 ⊢
 conv=>cbv
 refine Zhl hA h1 rfl (λ r hr=>?_)
 conv=>cbv
 cases a with
 | false =>
  split
  ·conv=>cbv
   exact hq▸hr▸rfl
  ·rename_i hc
   have:=neF hA hc
   rw [hr] at this
   simp at this
 | true =>
  split
  ·rename_i hc
   have:=neT hA hc
   rw [hr] at this
   simp at this
  conv=>cbv
  cases b with
  | false =>
   refine Za hA h2 ?_
   conv=>cbv
   split
   rotate_left
   ·rename_i hc
    cases ((nF hA hc))
   conv=>cbv
   exact hq
  | true =>
   refine Za hA h2 ?_
   conv=>cbv
   split
   ·rename_i hc
    cases ((nT hA hc))
   conv=>cbv
   exact hq
set_option maxHeartbeats 4000000 in
theorem ZnN (ss:List Qy) (cs:List Config) (n:Nat) (vs:List PV) (c v:Int) {xs ys:List PV} (hx:xs=ZI ss) (hy:ys=Qh cs) :
  Zc Tryz.prog 307 [.agg [.list n vs,.list 5 xs,.list 3 ys,.list 0 [],.list 0 [],.list 0 [],.list 0 [],.list 0 []],.int .i64 c,.int .i64 v] (Zk1 (Yh ss cs c v)):=by
 refine Zb (clo:=λ _=>false) (rows:=false) Zg Tryz.func307 rfl (enters_of Tryz.func307 (by kernel_rfl) rfl) (λ A q P Y hr hA hq=>?_)
 have hxl:xs.length=ss.length:=by rw [hx];simp [ZI]
 have hyl:ys.length=cs.length:=by rw [hy];simp [Qh]
 have hcl:∀k∈cs,k.Sectors.length<=9223372036854775807:=λ k hk=>by
  have h1:=Qz.cell (show Qz [.agg [_,_,_,_,_,_,_,_]] from hr.mem (p:=.agg [.list n vs,.list 5 xs,.list 3 ys,.list 0 [],.list 0 [],.list 0 [],.list 0 [],.list 0 []]) (by simp)) (c:=.list 3 ys) (by simp)
  have:=(Qz.elem h1 (x:=Zao k) (by rw [hy];exact ZzO hk) (c:=.list 1 (Zd k.Sectors)) (by simp [Zao,PV.cells])).len
  simpa [Zd] using this
 have hno:Yh ss cs c v=none->PV.tup [.int .i64 0,.bool false]=q:=λ h=>by rw [<-hq,h];rfl
 have hyes:∀z,Yh ss cs c v=some z->PV.tup [.int .i64 z,.bool true]=q:=λ z h=>by rw [<-hq,h];rfl
 clear hq
 conv=>cbv
 split
 ·rename_i hc
  conv=>cbv
  exact hno (by have:=ltT hA hc;unfold Yh;rw [if_neg (by omega)])
 rename_i g1;replace g1:=ltF hA g1
 conv=>cbv
 split
 ·rename_i hc
  conv=>cbv
  exact hno (by have:=Zhp hA (Zl hA hyl) rfl hc;unfold Yh;rw [if_pos g1,Zyw (by omega)])
 rename_i g2;replace g2:=Zia hA (Zl hA hyl) rfl g2
 conv=>cbv
 refine Zet hA hy g1 g2 (λ k v1 v2 hk hv1 hv2=>?_)
 have hfd:Yh ss cs c v=k.Sectors.find? (Zbi ss v):=by unfold Yh;rw [if_pos g1,hk]
 have hkl:=hcl k (Zyb hk)
 rw [hfd] at hno hyes
 obtain ⟨k1,k2,k3⟩:=k
 simp only at hkl hno hyes hv2
 have hul:v2.length=k3.length:=by rw [hv2];simp [Zd]
 conv=>cbv
 refine Zi hA (λ (i:Int) s=>s.put (some 9) (.val (.int .i64 i))) (λ i=>0<=i/\i<=(k3.length:Int)/\(λ i=>∀x∈k3.take i.toNat,Zbi ss v x=false) i) (λ i=>((k3.length:Int) - i).toNat) 0 ?_ ?_ ?_
 ·conv=>cbv
  exact Zk
 ·exact ⟨Zyk _,by omega,by simp⟩
 rintro R i ⟨hi0,hi1,hi2⟩ hRi
 conv=>cbv
 split
 · rename_i hc
   have hi:i<(k3.length:Int):=ZE hA rfl (Zl hA hul) hc
   have his:A.iAdd i 1=i+1:=Z5 hA _ _
   have hir:A.inR (A.iAdd i 1):=Zy hA his (by unfold Zj;omega)
   have him:((k3.length:Int) - A.iAdd i 1).toNat<((k3.length:Int) - i).toNat:=by rw [his];omega
   have hin:(λ i=>∀x∈k3.take i.toNat,Zbi ss v x=false) (i+1)->0<=A.iAdd i 1/\A.iAdd i 1<=(k3.length:Int)/\(λ i=>∀x∈k3.take i.toNat,Zbi ss v x=false) (A.iAdd i 1):=λ h=>by rw [his];exact ⟨by omega,by omega,h⟩
   simp only at hin
   conv=>cbv
   refine ⟨Zm hA (by kernel_rfl),?_⟩
   refine Zw hA hv2 hi0 hi (λ x hx0=>?_)
   have ht:=Zo hi0 hx0
   conv=>cbv
   split
   rotate_left
   ·rename_i hc
    have g3:=leF hA hc
    conv=>cbv
    exact ⟨hir,hRi (A.iAdd i 1) _ (by (conv=>cbv);exact Zk) (hin (ZS ht hi2 (by unfold Zbi;rw [Zyr (by omega)];rfl))) him⟩
   rename_i g3;replace g3:=leT hA g3
   conv=>cbv
   refine Zw hA hv2 hi0 hi (λ z hz=>?_)
   obtain rfl:=Zyc ((hx0).symm.trans hz)
   conv=>cbv
   split
   rotate_left
   ·rename_i hc
    have g4:=ZK hA rfl (Zl hA hxl) hc
    conv=>cbv
    exact ⟨hir,hRi (A.iAdd i 1) _ (by (conv=>cbv);exact Zk) (hin (ZS ht hi2 (by unfold Zbi;rw [Zyw (by omega)];simp))) him⟩
   rename_i g4;replace g4:=ZE hA rfl (Zl hA hxl) g4
   conv=>cbv
   refine Zw hA hv2 hi0 hi (λ z hz=>?_)
   obtain rfl:=Zyc ((hx0).symm.trans hz)
   conv=>cbv
   refine Zad hA hx g3 g4 (λ s w1 w2 hs hw1 hw2=>?_)
   have hvi:Zbi ss v x=decide (v∈s.Volumes):=by unfold Zbi;rw [hs,Zyq g3];rfl
   have hcall:=Zih s.Volumes hw2 v
   rw [<-hvi] at hcall
   obtain ⟨s1,s2,s3,s4,s5⟩:=s
   conv=>cbv
   cases hb:Zbi ss v x with
   | true =>
    rw [hb] at hcall
    refine Za hA (hcall) ?_
    conv=>cbv
    refine Zw hA hv2 hi0 hi (λ z hz=>?_)
    obtain rfl:=Zyc ((hx0).symm.trans hz)
    conv=>cbv
    exact hyes x (ZrO hx0 hb hi2)
   | false =>
    rw [hb] at hcall
    refine Za hA (hcall) ?_
    conv=>cbv
    exact ⟨hir,hRi (A.iAdd i 1) _ (by (conv=>cbv);exact Zk) (hin (ZS ht hi2 hb)) him⟩
 rename_i hc
 have hi:i=(k3.length:Int):=by have:=ZK hA rfl (Zl hA hul) hc;omega
 conv=>cbv
 exact hno (by rw [Z0i];intro x hx;rw [Q7 hi hi2 x hx];simp)
theorem ZnO (t:Zh) (c v:Int):Zc Tryz.prog 304 [Zn t,.int .i64 c,.int .i64 v] (Zk1 (Yh t.Sectors t.Configs c v)):=by
 refine Zb (clo:=λ _=>false) (rows:=false) Zg Tryz.func304 rfl (enters_of Tryz.func304 (by kernel_rfl) rfl) (λ A q P Y hr hA hq=>?_)
 obtain ⟨ss,cs,ws,ms,ks,nv,hss,hcs,hws,hms,hks,hnv,htab⟩:=Qd t
 rw [htab]
 have h:=λ n vs=>ZnN t.Sectors t.Configs n vs c v hss hcs
 unfold Zk1 at h hq
 generalize (Yh t.Sectors t.Configs c v).getD 0=z at h hq
 generalize (Yh t.Sectors t.Configs c v).isSome=b at h hq
 conv=>cbv
 refine Za hA (h _ _) ?_
 conv=>cbv
 exact hq
open Go.Proofs Go.RowKit
theorem ZnP (t:Zh) (s:List Zr) (v m:Int):Zc Tryz.prog 289 [Zn t,ZD s,.int .i64 v,.int .i64 m] (Zk1 (ZcN t s v m)):=by
 refine Zb (clo:=λ _=>false) (rows:=false) Zg Tryz.func289 rfl (enters_of Tryz.func289 (by kernel_rfl) rfl) (λ A q P Y hr hA hq=>?_)
 have h1:=ZuT s m
 have h2:=λ c=>ZnO t c v
 obtain ⟨ss,cs,ws,ms,ks,nv,hss,hcs,hws,hms,hks,hnv,htab⟩:=Qd t
 rw [htab] at h2 ⊢
 obtain ⟨xs,hxs⟩:∃xs,xs=Zz s:=⟨_,rfl⟩
 rw [ZB hxs] at h1 ⊢
 unfold ZsS at h1
 unfold ZcN at hq
 cases hI:inS s m with
 | none =>
  rw [hI] at h1 hq
  simp only at h1 hq
  conv=>cbv
  refine Za hA (h1) ?_
  conv=>cbv
  split
  rotate_left
  ·rename_i hc
   cases ((nF hA hc))
  conv=>cbv
  exact hq
 | some d =>
  rw [hI] at h1 hq
  obtain ⟨d1,d2,d3⟩:=d
  simp only at h1 hq
  have h3:=h2 d2
  unfold Zk1 at h3 hq
  generalize (Yh t.Sectors t.Configs d2 v).getD 0=z at h3 hq
  generalize (Yh t.Sectors t.Configs d2 v).isSome=b at h3 hq
  obtain ⟨ml,hml⟩:∃ml,ml=Zd d3:=⟨_,rfl⟩
  rw [ZbE ⟨d1,d2,d3⟩ hml] at h1
  conv=>cbv
  refine Za hA (h1) ?_
  conv=>cbv
  split
  ·rename_i hc
   cases ((nT hA hc))
  conv=>cbv
  refine Za hA (h3) ?_
  conv=>cbv
  exact hq
open Go.Proofs Go.RowKit
theorem ZcZ {lo hi:Int} (h:hi<lo):ZT lo hi=[]:=Zyy (by rw [Zae];omega)
theorem ZpX {lo m:Int} (h:lo<=m):ZT lo m=ZT lo (m - 1)++[m]:=by
 have h1:=Zdp (lo:=lo) (hi:=m) (x:=m) h (Zyk _)
 rw [Zyl (by rw [Zae];omega)] at h1
 rw [h1]
 congr 1
 unfold ZT
 rw [<-List.map_take,List.take_range]
 congr 2
 omega
theorem ZiX:∀{ls:List Leg} {ts:List Int} {x:Zes},x∈Qf ls ts->x.Minutes.From∈ts/\x.Minutes.To∈ts/\x.Airport=false
 | [],_,_,h=>by simp [Qf] at h
 | _::_,[],_,h=>by simp [Qf] at h
 | _::_,[_],_,h=>by simp [Qf] at h
 | y::r,a::b::ts,x,h=>by
  simp only [Qf,ZyJ] at h
  rcases h with rfl | h
  ·exact ⟨by simp,by simp,rfl⟩
  ·obtain ⟨h1,h2,h3⟩:=ZiX h
   exact ⟨ZyN _ h1,ZyN _ h2,h3⟩
theorem Zts {t:Zh} {p:Qo} (h:QB t p=0):∀x∈Yo t p,0<=x.Minutes.From/\x.Minutes.To<=65536:=by
 unfold QB at h
 split at h
 ·split at h
  ·rename_i hp
   obtain ⟨w,a1,a2,a3,a4,a5⟩:=Ze1 hp
   rw [a5]
   intro x hx
   have hd:∀(l:List Int),(∀m∈l,0<=m/\m<=65535)->(0<=l.headD 0/\l.headD 0<=65535)/\0<=l.getLastD 0/\l.getLastD 0<=65535:=λ l hl=>by
    cases l with
    | nil=>simp
    | cons y r =>
     refine ⟨hl y (by simp),?_⟩
     rw [Zzz,List.getLast?_eq_some_getLast (by simp)]
     exact hl _ (List.getLast_mem _)
   obtain ⟨h1,h2⟩:=hd p.Times a4
   simp only [Zbm,Zzq,ZyJ,Zy4,List.not_mem_nil,or_false] at hx
   rcases hx with rfl | hx | rfl
   ·exact ⟨h1.1,by show p.Times.headD 0+1<=_;omega⟩
   ·obtain ⟨k1,k2,_⟩:=ZiX hx
    exact ⟨(a4 _ k1).1,by have:=(a4 _ k2).2;omega⟩
   ·exact ⟨h2.1,by show p.Times.getLastD 0+1<=_;omega⟩
  ·cases h
 ·cases h
theorem ZuX {m m':Nat} {l l':List SV} (h:leL l l') (hm:m'≠0:=by decide):leL (.lit m []::l) (SV.val (.list m' [])::l'):=⟨.inr (.inr ⟨rfl,m,rfl,λ h=>absurd h hm⟩),h⟩
def ZfA (t:Zh) (s:List Zr) (p:Qo):List Cell:=Yq [] (ZG t s p)
def ZkQ (t:Zh) (s:List Zr) (p:Qo):PV:=if QB t p=0 then .list 3 (Z6 (ZfA t s p)) else .list 0 []
set_option maxRecDepth 10000 in
set_option maxHeartbeats 4000000 in
theorem ZpY (t:Zh) (s:List Zr) (p:Qo):Zc Tryz.prog 265 [Zn t,ZD s,Yl p] (.tup [ZkQ t s p,.int .i64 (QB t p)]):=by
 refine Zb (clo:=λ _=>false) (rows:=false) Zg Tryz.func265 rfl (enters_of Tryz.func265 (by kernel_rfl) rfl) (λ A q P Y hr hA hq=>?_)
 have hst:=ZpV t p
 have hsec:=λ v m=>ZnP t s v m
 have hsl:QB t p=0->(Yo t p).length<=10/\∀x∈Yo t p,0<=x.Minutes.From/\x.Minutes.To<=65536:=λ h=>⟨Ze2 h,Zts h⟩
 unfold ZkQ ZfA ZG at hq
 unfold ZgE at hst
 generalize Yo t p=l at hq hst hsl
 generalize QB t p=e at hq hst hsl
 obtain ⟨ys,hys⟩:∃ys,ys=ZW l:=⟨_,rfl⟩
 have hyl:ys.length=l.length:=by rw [hys];simp [ZW]
 rw [<-hys] at hst
 obtain ⟨ss,cs,ws,ms,ks,nv,hss,hcs,hws,hms,hks,hnv,htab⟩:=Qd t
 rw [htab] at hst hsec ⊢
 obtain ⟨xs,hxs⟩:∃xs,xs=Zz s:=⟨_,rfl⟩
 rw [ZB hxs] at hsec ⊢
 obtain ⟨p1,p2⟩:=p
 obtain ⟨ts,hts⟩:∃ts,ts=Zd p2:=⟨_,rfl⟩
 rw [Yw _ hts] at hst ⊢
 simp only at hst ⊢
 by_cases he:e=0
 rotate_left
 ·rw [if_neg he] at hst hq
  conv=>cbv
  refine Za hA (hst) ?_
  conv=>cbv
  split
  rotate_left
  ·rename_i hc
   cases (he (neF hA hc))
  conv=>cbv
  exact hq
 rw [if_pos he] at hst hq
 subst he
 obtain ⟨hsl,hsto⟩:=hsl rfl
 conv=>cbv
 refine Za hA (hst) ?_
 conv=>cbv
 split
 ·rename_i hc
  cases ((neT hA hc rfl))
 conv=>cbv
 refine Zi hA (λ (z:Int × List PV) s=>(s.put (some 11) (.val (.int .i64 z.1))).put (some 10) (.val (.list 3 z.2))) (λ z=>0<=z.1/\z.1<=l.length/\z.2=Z6 (Yq [] ((l.take z.1.toNat).flatMap (Yi t s)))) (λ z=>(l.length - z.1).toNat) (0,[]) ?_ ?_ ?_
 ·(conv=>cbv)
  exact Zk (by repeat (first | refine Zv ?_ | refine ZH ?_ | refine ZuX ?_ | exact Z9))
 ·exact ⟨Zyk _,by omega,by simp [Yq,Z6]⟩
 rintro R2 ⟨i,M⟩ ⟨hi0,hi1,hM⟩ hR2
 simp only at hi0 hi1 hM
 conv=>cbv
 split
 rotate_left
 ·rename_i hc
  have hge:(l.length:Int)<=i:=ZK hA rfl (Zl hA hyl) hc
  conv=>cbv
  rw [Zyl (by omega)] at hM
  rw [<-hq,hM]
  rfl
 rename_i hc
 have hi:i<l.length:=ZE hA rfl (Zl hA hyl) hc
 have his:A.iAdd i 1=i+1:=Z5 hA _ _
 have hir:A.inR (A.iAdd i 1):=Zy hA his (by unfold Zj;omega)
 conv=>cbv
 refine ZjX hA hys hi0 hi (λ x hx0=>?_)
 have htk:(l.take (i+1).toNat).flatMap (Yi t s)=(l.take i.toNat).flatMap (Yi t s)++Yi t s x:=by rw [Zo hi0 hx0,Zza];simp
 have hPl:((l.take i.toNat).flatMap (Yi t s)).length<=14400:=by
  have h2:∀x:Zes,(Yi t s x).length<=1440:=λ x=>by
   unfold Yi
   refine Zy1 (List.length_filterMap_le _ _) ?_
   rw [Zae]
   unfold hiM loM
   omega
  have h3:∀L:List Zes,(L.flatMap (Yi t s)).length<=L.length*1440:=λ L=>by
   induction L with
   | nil=>simp
   | cons x l ih=>rw [ZyW,Zyg,ZyM];have:=h2 x;omega
  have:=h3 (l.take i.toNat)
  rw [ZyE] at this
  omega
 generalize (l.take i.toNat).flatMap (Yi t s)=P0 at hM htk hPl
 obtain ⟨hx3,hx4⟩:=hsto x (Zyb hx0)
 obtain ⟨x1,x2,⟨x3,x4⟩⟩:=x
 simp only at hx3 hx4
 have hlo1:loM ⟨x1,x2,⟨x3,x4⟩⟩=max x3 0:=rfl
 have hhi1:hiM ⟨x1,x2,⟨x3,x4⟩⟩=min x4 1440:=rfl
 have hcl:Yi t s ⟨x1,x2,⟨x3,x4⟩⟩=(ZT (loM ⟨x1,x2,⟨x3,x4⟩⟩) (hiM ⟨x1,x2,⟨x3,x4⟩⟩ - 1)).filterMap (ZeL t s ⟨x1,x2,⟨x3,x4⟩⟩):=rfl
 have hcm:∀m,ZeL t s ⟨x1,x2,⟨x3,x4⟩⟩ m=if x1 then some ⟨true,x2,m⟩ else (ZcN t s x2 m).map λ i=>⟨false,i,m⟩:=λ m=>rfl
 generalize loM ⟨x1,x2,⟨x3,x4⟩⟩=lo at hlo1 hcl
 generalize hiM ⟨x1,x2,⟨x3,x4⟩⟩=hi' at hhi1 hcl
 generalize ZeL t s ⟨x1,x2,⟨x3,x4⟩⟩=f at hcl hcm
 generalize Yi t s ⟨x1,x2,⟨x3,x4⟩⟩=L at hcl htk
 obtain ⟨cto,hcto⟩:∃cto:Int->List Cell,cto=λ m=>(ZT lo (min m hi' - 1)).filterMap f:=⟨_,rfl⟩
 have hc0:cto x3=[]:=by rw [hcto];show List.filterMap f (ZT _ _)=[];rw [ZcZ (by omega)];rfl
 have hcout:∀m,m<0\/1440<=m->cto (m+1)=cto m:=λ m h=>by
  rw [hcto]
  show List.filterMap f (ZT _ _)=List.filterMap f (ZT _ _)
  rcases h with h | h
  ·rw [ZcZ (by omega),ZcZ (by omega)]
  ·rw [show min (m+1) hi'=min m hi' by omega]
 have hcin:∀m,x3<=m->m<x4->0<=m->m<1440->cto (m+1)=cto m++(f m).toList:=λ m h1 h2 h3 h4=>by
  rw [hcto]
  show List.filterMap f (ZT _ _)=List.filterMap f (ZT _ _)++_
  rw [show min (m+1) hi' - 1=m by omega,show min m hi' - 1=m - 1 by omega,ZpX (by omega),List.filterMap_append]
  cases h:f m<;>simp [h]
 have hcend:∀m,x4<=m->(m<=x4\/m=x3)->cto m=L:=λ m h1 h2=>by
  rw [hcto,hcl]
  show List.filterMap f (ZT _ _)=_
  by_cases e:m=x4
  ·rw [e,show min x4 hi'=hi' by omega]
  ·rw [ZcZ (by omega),ZcZ (by omega)]
 have hclen:∀m,(cto m).length<=1440:=λ m=>by
  rw [hcto]
  refine Zy1 (List.length_filterMap_le _ _) ?_
  rw [Zae]
  omega
 clear hcto hcl
 conv=>cbv
 refine Zi hA (λ (z:Int × List PV) s=>(s.put (some 13) (.val (.int .i64 z.1))).put (some 10) (.val (.list 3 z.2))) (λ z=>x3<=z.1/\(z.1<=x4\/z.1=x3)/\z.2=Z6 (Yq [] (P0++cto z.1))) (λ z=>(x4 - z.1).toNat) (x3,M) ?_ ?_ ?_
 ·conv=>cbv
  exact Zk
 ·exact ⟨Zyk _,.inr rfl,by show M=Z6 (Yq [] (P0++cto x3));rw [hM,hc0,Zzp]⟩
 rintro R3 ⟨m,N⟩ ⟨hm0,hm1,hN⟩ hR3
 simp only at hm0 hm1 hN
 conv=>cbv
 split
 rotate_left
 ·rename_i hc
  have hge:=ltF hA hc
  conv=>cbv
  refine ⟨hir,hR2 (A.iAdd i 1,N) _ ?_ ?_ ?_⟩
  ·(conv=>cbv)
   exact Zt (bx:=[_,_,_]) (bx':=[_]) (mp:=[]) (mp':=[]) 
  ·rw [his]
   exact ⟨by show 0<=i+1;omega,by show i+1<=_;omega,by show N=_;rw [hN,hcend m hge hm1,htk]⟩
  ·rw [his];simp only;omega
 rename_i hc
 have hmh:m<x4:=ltT hA hc
 have hms:A.iAdd m 1=m+1:=Z5 hA _ _
 have hmr:A.inR (A.iAdd m 1):=Zy hA hms (by unfold Zj;omega)
 have hmd:(x4 - A.iAdd m 1).toNat<(x4 - m).toNat:=by rw [hms];omega
 have hnx:∀N',N'=Z6 (Yq [] (P0++cto (m+1)))->x3<=A.iAdd m 1/\(A.iAdd m 1<=x4\/A.iAdd m 1=x3)/\N'=Z6 (Yq [] (P0++cto (A.iAdd m 1))):=λ N' h=>by
  rw [hms];exact ⟨by omega,by omega,h⟩
 conv=>cbv
 split
 ·rename_i hc
  have g:=ltT hA hc
  omega
 conv=>cbv
 split
 ·rename_i hc
  have g:=leT hA hc
  conv=>cbv
  exact ⟨hmr,hR3 (A.iAdd m 1,N) _ (by (conv=>cbv);exact Zk) (hnx _ (by rw [hcout m (.inr g)];exact hN)) hmd⟩
 rename_i hc
 have g:=leF hA hc
 have hci:=hcin m hm0 hmh (by omega) g
 have hNl:(Yq [] (P0++cto m)).length<=10000000:=by
  have h1:=ZfV (L:=P0++cto m) []
  have h2:=hclen m
  rw [Zyg] at h1
  simp at h1
  omega
 have hput:=λ c=>Zm9 (Yq [] (P0++cto m)) c hNl hN
 have hfm:=hcm m
 have hsc:=hsec x2 m
 have hone:∀c,f m=some c->Zdb (Yq [] (P0++cto m)) c=Yq [] (P0++cto (m+1)):=λ c h=>by
  rw [hci,h,<-ZkO,Zy9];rfl
 have hzero:f m=none->P0++cto (m+1)=P0++cto m:=λ h=>by rw [hci,h];simp
 cases x1 with
 | true =>
  rw [if_pos rfl] at hfm
  have hp2:=hput ⟨true,x2,m⟩
  rw [hone _ hfm] at hp2
  generalize Z6 (Yq [] (P0++cto (m+1)))=N2 at hnx hp2
  conv=>cbv
  refine Za hA hp2 ?_
  conv=>cbv
  exact ⟨hmr,hR3 (A.iAdd m 1,N2) _ (by (conv=>cbv);exact Zk) (hnx _ rfl) hmd⟩
 | false =>
  rw [if_neg (by simp)] at hfm
  cases hz:ZcN t s x2 m with
  | none =>
   rw [hz] at hsc hfm
   have hsc2:Zc Tryz.prog 289 _ (.tup [.int .i64 0,.bool false]):=hsc
   replace hfm:f m=none:=hfm
   conv=>cbv
   refine Za hA (hsc2) ?_
   conv=>cbv
   exact ⟨hmr,hR3 (A.iAdd m 1,N) _ (by (conv=>cbv);exact Zk) (hnx _ (by rw [hzero hfm];exact hN)) hmd⟩
  | some z =>
   rw [hz] at hsc hfm
   have hsc2:Zc Tryz.prog 289 _ (.tup [.int .i64 z,.bool true]):=hsc
   replace hfm:f m=some ⟨false,z,m⟩:=hfm
   have hp2:=hput ⟨false,z,m⟩
   rw [hone _ hfm] at hp2
   generalize Z6 (Yq [] (P0++cto (m+1)))=N2 at hnx hp2
   conv=>cbv
   refine Za hA (hsc2) ?_
   conv=>cbv
   refine Za hA hp2 ?_
   conv=>cbv
   exact ⟨hmr,hR3 (A.iAdd m 1,N2) _ (by (conv=>cbv);exact Zk) (hnx _ rfl) hmd⟩
open Go.Proofs Go.RowKit
def ZkR (l:List Cell):PV:=.list 3 (Z6 l)
def ZaC (l:List (List Cell)):List PV:=l.map ZkR
theorem ZmA {A:Ops} {E:Env} (hA:A=Ze E) {l:List (List Cell)} {xs:List PV} (hx:xs=ZaC l) {n:Int} {K:List PV->Prop} (h0:0<=n) (h1:n<l.length) (hk:∀x v,l[n.toNat]?=some x->v=Z6 x->K [.list 3 v]):A.idx xs n K :=
 Ya hA (l:=l) (enc:=ZkR) hx.symm h0 h1 λ x h=>hk x _ h rfl
def ZgR (t:Zh) (s:List Zr) (l:List Qo):List (List Cell):=l.map (ZfA t s)
def ZfW (t:Zh) (s:List Zr) (cl:Int) (l:List Qo):PV:=if Ql t s cl l=0 then .list 1 (ZaC (ZgR t s l)) else .list 0 []
set_option maxHeartbeats 4000000 in
theorem ZpZ (t:Zh) (s:List Zr) (cl:Int) (l:List Qo) (hl:l.length<=1000) {xs:List PV} (hx:xs=ZJ l) :
  Zc Tryz.prog 211 [Zn t,ZD s,.int .i64 cl,.list 2 xs] (.tup [ZfW t s cl l,.int .i64 (Ql t s cl l)]):=by
 refine Zb (clo:=λ _=>false) (rows:=false) Zg Tryz.func211 rfl (enters_of Tryz.func211 (by kernel_rfl) rfl) (λ A q P Y hr hA hq=>?_)
 have hck:=ZiW t s
 have hcs':=λ p=>ZpY t s p
 have hxl:xs.length=l.length:=by rw [hx];simp [ZJ]
 have hE:Ql t s cl l=if Qj t s≠0 then Qj t s else if cl<0\/(t.Kinds.length:Int)<=cl then 200 else Zas t l:=rfl
 have hBad:∀e,e≠0->Ql t s cl l=e->PV.tup [.list 0 [],.int .i64 e]=q:=λ e h0 h=>by rw [<-hq];unfold ZfW;rw [h,if_neg h0]
 have hOk:Ql t s cl l=0->PV.tup [.list 1 (ZaC (ZgR t s l)),.int .i64 0]=q:=λ h=>by rw [<-hq];unfold ZfW;rw [h,if_pos rfl]
 clear hq
 generalize Ql t s cl l=ee at hE hBad hOk
 obtain ⟨ss,cs,ws,ms,ks,nv,hss,hcs,hws,hms,hks,hnv,htab⟩:=Qd t
 rw [htab] at hck hcs' ⊢
 have hkl:ks.length=t.Kinds.length:=by rw [hks];simp [ZY]
 obtain ⟨sc,hsc⟩:∃sc,sc=Zz s:=⟨_,rfl⟩
 rw [ZB hsc] at hck hcs' ⊢
 generalize Qj t s=ce at hck hE
 conv=>cbv
 refine Za hA (hck) ?_
 conv=>cbv
 split
 ·rename_i hc
  have g:=neT hA hc
  rw [if_pos g] at hE
  conv=>cbv
  exact hBad _ g hE
 rename_i hc
 have g:=neF hA hc
 subst g
 rw [if_neg (by simp)] at hE
 conv=>cbv
 split
 ·rename_i hc
  have g:=ltT hA hc
  rw [if_pos (.inl g)] at hE
  conv=>cbv
  exact hBad _ (by decide) hE
 rename_i g1;replace g1:=ltF hA g1
 conv=>cbv
 split
 ·rename_i hc
  have g:=Zhp hA (Zl hA hkl) rfl hc
  rw [if_pos (.inr g)] at hE
  conv=>cbv
  exact hBad _ (by decide) hE
 rename_i g2;replace g2:=Zia hA (Zl hA hkl) rfl g2
 rw [if_neg (by omega)] at hE
 conv=>cbv
 refine Zi hA (λ (z:Int × List PV) s=>{ (s.put (some 12) (.val (.int .i64 z.1))).put (some 11) (.own 0 1 z.2) with tk:=[(A.nLen z.2,104)] })
  (λ z=>0<=z.1/\z.1<=l.length/\Zas t (l.take z.1.toNat)=0/\z.2=ZaC (ZgR t s (l.take z.1.toNat))) (λ z=>(l.length - z.1).toNat) (0,[]) ?_ ?_ ?_
 ·conv=>cbv
  exact ZaM 11 0 1 [] _ rfl (.inr rfl) (by repeat (first | refine Zv ?_ | refine ZH ?_ | exact Z9)) (by subst hA;rfl)
 ·exact ⟨Zyk _,by omega,rfl,rfl⟩
 rintro R ⟨i,L⟩ ⟨hi0,hi1,he,hL⟩ hR
 simp only at hi0 hi1 he hL
 conv=>cbv
 split
 rotate_left
 ·rename_i hc
  have hi:l.length<=i:=ZK hA rfl (Zl hA hxl) hc
  rw [Zyl (by omega)] at he hL
  rw [he] at hE
  conv=>cbv
  rw [<-hOk hE,hL]
 rename_i hc
 have hi:i<l.length:=ZE hA rfl (Zl hA hxl) hc
 have his:A.iAdd i 1=i+1:=Z5 hA _ _
 have hir:A.inR (A.iAdd i 1):=Zy hA his (by unfold Zj;omega)
 conv=>cbv
 refine ⟨Zm hA (by kernel_rfl),?_⟩
 refine ZdQ hA hx hi0 hi (λ p ts hp hts=>?_)
 have htake:=Zo hi0 hp
 have hcp:=hcs' p
 rw [Yw p hts] at hcp
 have hbad:QB t p≠0->Zas t l=QB t p:=by
  intro h
  have e:l=l.take i.toNat++(p::l.drop (i.toNat+1)):=by
   have h1:=ZxZ.1 hp
   rw [<-h1.2,ZzR h1.1,ZyI]
  rw [e,ZbA t _ _ he,Zas,if_neg h]
 have hgood:QB t p=0->Zas t (l.take (i+1).toNat)=0:=by
  intro h
  rw [htake,ZbA t _ _ he]
  simp [Zas,h]
 have hall:ZgR t s (l.take (i+1).toNat)=ZgR t s (l.take i.toNat)++[ZfA t s p]:=by rw [htake];simp [ZgR]
 unfold ZkQ at hcp
 have hLl:L.length=i.toNat:=by rw [hL];simp [ZaC,ZgR];omega
 generalize QB t p=e at hcp hbad hgood
 obtain ⟨M,hM⟩:∃M,M=Z6 (ZfA t s p):=⟨_,rfl⟩
 rw [<-hM] at hcp
 have hnext:A.lApp L [.list 3 M]=ZaC (ZgR t s (l.take (i+1).toNat)):=by
  rw [hall,hM]
  subst hA hL
  show ZaC _++_=_
  simp [ZaC,ZkR]
 have hroom:A.room (A.nLen (A.lApp L [.list 3 M])) 24:=by
  subst hA
  show (L++[_]).length*(24+1)<=140737488355328
  rw [Zyg,Zyt]
  omega
 have htk:A.tkEq (A.nLen L) (A.nLen L):=by subst hA;rfl
 obtain ⟨way,T⟩:=p
 simp only at hcp hts
 by_cases h0:e=0
 ·rw [if_pos h0,h0] at hcp
  conv=>cbv
  refine Za hA (hcp) ?_
  conv=>cbv
  split
  ·rename_i hc
   cases (neT hA hc rfl)
  conv=>cbv
  refine ⟨⟨htk,hroom⟩,hir,hR (A.iAdd i 1,A.lApp L [.list 3 M]) _ ?_ ?_ ?_⟩
  ·conv=>cbv
   exact Zk
  ·rw [his];exact ⟨by show 0<=i+1;omega,by show i+1<=_;omega,hgood h0,hnext⟩
  ·rw [his];simp only;omega
 ·rw [if_neg h0] at hcp
  conv=>cbv
  refine Za hA (hcp) ?_
  conv=>cbv
  split
  rotate_left
  ·rename_i hc
   cases (h0 (neF hA hc))
  conv=>cbv
  rw [hbad h0] at hE
  exact hBad _ h0 hE
open Go.Proofs Go.RowKit
theorem ZkS {t:Zh} {s:List Zr} {p:Qo} {c:Cell}:c∈ZfA t s p↔c∈ZG t s p:=by
 unfold ZfA;rw [Zm8];simp
theorem ZuY {t:Zh} {s:List Zr} {l:List Qo} {c:Cell}:c∈(ZgR t s l).flatten↔c∈(l.map (ZG t s)).flatten:=by
 simp only [ZgR,Z0G,Zyz]
 constructor
 ·rintro ⟨_,⟨p,hp,rfl⟩,hc⟩;exact ⟨_,⟨p,hp,rfl⟩,ZkS.1 hc⟩
 ·rintro ⟨_,⟨p,hp,rfl⟩,hc⟩;exact ⟨_,⟨p,hp,rfl⟩,ZkS.2 hc⟩
theorem leastNodup (css:List (List Cell)) (many:Int):(css.flatten.eraseDups.filter λ c=>decide (many<=(ZaW css c:Int))).Nodup:=Z04 Z0b (ZaA _ _ (Zyp _))
theorem mem_least {css:List (List Cell)} {many:Int} {c:Cell}:c∈(css.flatten.eraseDups.filter λ c=>decide (many<=(ZaW css c:Int)))↔c∈css.flatten/\many<=(ZaW css c:Int):=by
 rw [ZyB,Z06,Zyf]
theorem Zr7 (t:Zh) (s:List Zr) (l:List Qo):Yq [] (ZgR t s l).flatten=Zbs (l.map (ZG t s)) 1:=by
 unfold Zbs
 refine Zr5 (leastNodup _ _) λ c=>?_
 rw [mem_least,ZuY]
 refine ⟨λ h=>⟨h,?_⟩,λ h=>h.1⟩
 have:=Zf1.2 h
 omega
theorem ZuZ {t:Zh} {s:List Zr} {cl:Int} {l:List Qo} (h:Ql t s cl l=0):∀L∈ZgR t s l,L.length<=14400:=by
 intro L hL
 obtain ⟨p,hp,rfl⟩:=Zyz.1 hL
 have h1:Zas t l=0:=by
  unfold Ql at h
  split at h
  ·rename_i h1;exact absurd h h1
  ·split at h
   ·cases h
   ·exact h
 have h2:=Zgq (s:=s) (Zim h1 p hp)
 have h3:=ZfV (L:=ZG t s p) []
 unfold ZfA
 simp at h3
 omega
theorem ZrU {α:Type} {l:List (List α)} {n:Nat} (h:∀L∈l,L.length<=n):l.flatten.length<=l.length*n:=by
 induction l with
 | nil=>simp
 | cons x r ih =>
  rw [ZzL,Zyg,ZyM,Zzi,Z0h]
  have:=ih λ L hL=>h L (by simp [hL])
  have:=h x (by simp)
  omega
theorem Ztt {α:Type} {l:List (List α)} {i:Int} {x:List α} (h0:0<=i) (hx:l[i.toNat]?=some x):(l.take (i+1).toNat).flatten=(l.take i.toNat).flatten++x:=by
 rw [Zo h0 hx,List.flatten_append];simp
set_option maxRecDepth 40000 in
set_option maxHeartbeats 4000000 in
theorem Zr8 (t:Zh) (s:List Zr) (cl:Int) (l:List Qo) {xs:List PV} (hx:xs=ZJ l) (hlen:l.length<=150) :
  Zc Tryz.prog 155 [Zn t,ZD s,.int .i64 cl,.list 2 xs] (Zct t s cl l 1):=by
 refine Zb (clo:=λ _=>false) (rows:=false) Zg Tryz.func155 rfl (enters_of Tryz.func155 (by kernel_rfl) rfl) (λ A q P Y hr hA hq=>?_)
 have hall:=ZpZ t s cl l (by omega) hx
 have hal:=ZuZ (t:=t) (s:=s) (cl:=cl) (l:=l)
 have hlr:(ZgR t s l).length=l.length:=by simp [ZgR]
 have hup:=Zr7 t s l
 have hclk:Ql t s cl l=0->0<=cl/\cl<t.Kinds.length:=λ h=>by
  unfold Ql at h
  split at h
  ·rename_i h1;exact absurd h h1
  ·split at h
   ·cases h
   ·omega
 unfold ZfW at hall
 unfold Zct Yk at hq
 rw [<-hup] at hq
 clear hup
 generalize Ql t s cl l=e at hall hq hal hclk
 generalize ZgR t s l=all at hall hq hal hlr
 have hpl:∀k,t.Kinds[cl.toNat]?=some k->Q4 t cl=k.Places:=λ k h=>by unfold Q4;rw [h]
 generalize Q4 t cl=pl at hq hpl
 obtain ⟨ys,hys⟩:∃ys,ys=ZaC all:=⟨_,rfl⟩
 have hyl:ys.length=all.length:=by rw [hys];simp [ZaC]
 rw [<-hys] at hall
 obtain ⟨ss,cs,ws,ms,ks,nv,hss,hcs,hws,hms,hks,hnv,htab⟩:=Qd t
 rw [htab] at hall ⊢
 have hkl:ks.length=t.Kinds.length:=by rw [hks];simp [ZY]
 obtain ⟨sc,hsc⟩:∃sc,sc=Zz s:=⟨_,rfl⟩
 rw [ZB hsc] at hall ⊢
 by_cases he:e=0
 rotate_left
 ·rw [if_neg he] at hall
  rw [if_pos he] at hq
  conv=>cbv
  refine Za hA (hall) ?_
  conv=>cbv
  split
  rotate_left
  ·rename_i hc
   cases (he (neF hA hc))
  conv=>cbv
  exact hq
 rw [if_pos he] at hall
 rw [if_neg (by simp [he])] at hq
 subst he
 have hal:=hal rfl
 obtain ⟨hcl0,hcl1⟩:=hclk rfl
 have hfl:=ZrU hal
 conv=>cbv
 refine Za hA (hall) ?_
 conv=>cbv
 split
 ·rename_i hc
  cases ((neT hA hc rfl))
 conv=>cbv
 refine Zi hA (λ (z:Int × List PV) s=>(s.put (some 13) (.val (.int .i64 z.1))).put (some 12) (.val (.list 3 z.2))) (λ z=>0<=z.1/\z.1<=all.length/\z.2=Z6 (Yq [] (all.take z.1.toNat).flatten)) (λ z=>(all.length - z.1).toNat) (0,[]) ?_ ?_ ?_
 ·(conv=>cbv)
  exact Zk (by repeat (first | refine Zv ?_ | refine ZH ?_ | refine ZuX ?_ | exact Z9))
 ·exact ⟨Zyk _,by omega,by simp [Yq,Z6]⟩
 rintro R2 ⟨i,M⟩ ⟨hi0,hi1,hM⟩ hR2
 simp only at hi0 hi1 hM
 conv=>cbv
 split
 rotate_left
 ·rename_i hc
  have hge:(all.length:Int)<=i:=ZK hA rfl (Zl hA hyl) hc
  rw [Zyl (by omega)] at hM
  have hul:(Yq [] all.flatten).length<=10000000:=by
   have h1:=ZfV (L:=all.flatten) []
   rw [Zz3,ZyK] at h1
   omega
  have hus:=Zr6 (Yq [] all.flatten) pl hul hM
  generalize ZP ((Yq [] all.flatten).map λ c=>⟨c,pl⟩)=us at hq hus
  conv=>cbv
  refine Q6 hA hks hcl0 hcl1 (λ kd kv hkd hkv=>?_)
  have hplk:=hpl kd hkd
  obtain ⟨kd1,kd2,kd3,kd4,kd5,kd6⟩:=kd
  simp only at hplk
  subst hplk
  conv=>cbv
  refine Za hA (hus) ?_
  conv=>cbv
  exact hq
 rename_i hc
 have hi:i<all.length:=ZE hA rfl (Zl hA hyl) hc
 have his:A.iAdd i 1=i+1:=Z5 hA _ _
 have hir:A.inR (A.iAdd i 1):=Zy hA his (by unfold Zj;omega)
 have hax:=Zya (show i.toNat<all.length by omega)
 obtain ⟨ax,hax'⟩:∃x,x=all[i.toNat]'(by omega):=⟨_,rfl⟩
 rw [<-hax'] at hax
 clear hax'
 have haxl:=hal ax (Zyb hax)
 have htk:=Ztt hi0 hax
 have hPl:(all.take i.toNat).flatten.length<=150*14400:=by
  have:=ZrU (l:=all.take i.toNat) (n:=14400) λ L hL=>hal L (Z0w hL)
  rw [ZyE] at this
  omega
 generalize (all.take i.toNat).flatten=P0 at hM htk hPl
 conv=>cbv
 refine Zi hA (λ (z:Int × List PV) s=>(s.put (some 14) (.val (.int .i64 z.1))).put (some 12) (.val (.list 3 z.2))) (λ z=>0<=z.1/\z.1<=ax.length/\z.2=Z6 (Yq [] (P0++ax.take z.1.toNat))) (λ z=>(ax.length - z.1).toNat) (0,M) ?_ ?_ ?_
 ·conv=>cbv
  exact Zk
 ·exact ⟨Zyk _,by omega,by show M=_;rw [hM];simp⟩
 rintro R3 ⟨k,N⟩ ⟨hk0,hk1,hN⟩ hR3
 simp only at hk0 hk1 hN
 conv=>cbv
 refine ZmA hA hys hi0 hi (λ z v hz hv=>?_)
 rw [hax] at hz
 cases hz
 have hvl:v.length=ax.length:=by rw [hv,Zba]
 conv=>cbv
 split
 rotate_left
 ·rename_i hc
  have hge:(ax.length:Int)<=k:=ZK hA rfl (Zl hA hvl) hc
  rw [Zyl (by omega)] at hN
  conv=>cbv
  refine ⟨hir,hR2 (A.iAdd i 1,N) _ ?_ ?_ ?_⟩
  ·conv=>cbv
   exact Zk
  ·rw [his]
   exact ⟨by show 0<=i+1;omega,by show i+1<=_;omega,by show N=_;rw [hN,htk]⟩
  ·rw [his];simp only;omega
 rename_i hc
 have hk:k<ax.length:=ZE hA rfl (Zl hA hvl) hc
 have hks':A.iAdd k 1=k+1:=Z5 hA _ _
 have hkr:A.inR (A.iAdd k 1):=Zy hA hks' (by unfold Zj;omega)
 conv=>cbv
 refine ZmA hA hys hi0 hi (λ z w hz hw=>?_)
 rw [hax] at hz
 cases hz
 have hvw:w=v:=by rw [hw,hv]
 subst hvw
 conv=>cbv
 refine Zfx hA hv hk0 hk (λ c hc=>?_)
 have htk2:=Zo hk0 hc
 have hNl:(Yq [] (P0++ax.take k.toNat)).length<=10000000:=by
  have h1:=ZfV (L:=P0++ax.take k.toNat) []
  rw [Zyg,ZyE,Zz3,ZyK] at h1
  omega
 have hput:=Zm9 (Yq [] (P0++ax.take k.toNat)) c hNl hN
 rw [<-ZkO,Zy9,<-htk2] at hput
 obtain ⟨N2,hN2⟩:∃N2,N2=Z6 (Yq [] (P0++ax.take (k+1).toNat)):=⟨_,rfl⟩
 rw [<-hN2] at hput
 obtain ⟨c1,c2,c3⟩:=c
 conv=>cbv
 refine Za hA hput ?_
 conv=>cbv
 refine ⟨hkr,hR3 (A.iAdd k 1,N2) _ ?_ ?_ ?_⟩
 ·conv=>cbv
  exact Zk
 ·rw [hks']
  exact ⟨by show 0<=k+1;omega,by show k+1<=_;omega,hN2⟩
 ·rw [hks'];simp only;omega
open Go.Proofs Go.RowKit
set_option maxRecDepth 10000 in
set_option maxHeartbeats 2000000 in
theorem ZnQ (t:Zh) (s:List Zr) (f:Flight) (o ann:Opt) (hc:Qj t s=0) (hf:Z8 t f=0) (hp:o.Cancel=true\/(ZX t f o).length<=150) :
  Zc Tryz.prog 84 [Zn t,ZD s,Zx f,Z2 o,Z2 ann] (ZgL t s f ann o):=by
 refine Zb (clo:=λ _=>false) (rows:=false) Zg Tryz.func84 rfl (enters_of Tryz.func84 (by kernel_rfl) rfl) (λ A q P Y hr hA hq=>?_)
 obtain ⟨k,hk,hk0,hL0,hL1,_,hW1,hW8,_⟩:=Qx hf
 have hkl:f.Class<t.Kinds.length:=by have:=(ZxZ.1 hk).1;omega
 have hwt:Y4 t f=k.Weight:=by rw [Y4,hk]
 have hall:=Zm7 t f o
 have hdel:=Zfq t f o
 have huse:=λ (xs:List PV) (hx:xs=ZJ (ZX t f o)) (h:(ZX t f o).length<=150)=>Zr8 t s f.Class (ZX t f o) hx h
 have hlr:Zct t s f.Class (ZX t f o) 1=.tup [.list 4 (ZP (Qu t s f.Class (ZX t f o))),.int .i64 0]:=by
  have:=Zn7 (o:=o) hc hf
  unfold Zct Qu
  rw [if_neg (by rw [this];simp),if_pos this]
 rw [hlr] at huse
 unfold ZgL at hq
 rw [hwt] at hq
 clear hlr
 obtain ⟨ss,cs,ws,ms,ks,nv,hss,hcs,hws,hms,hks,hnv,htab⟩:=Qd t
 obtain ⟨sc,hsc⟩:∃sc,sc=Zz s:=⟨_,rfl⟩
 rw [ZB hsc] at huse ⊢
 rw [htab] at hall hdel huse ⊢
 have hmul:A.iMul 120 k.Weight=120*k.Weight:=Zkb hA _ _
 generalize ZX t f o=PL at hall huse hp hq
 generalize ZN t f o=ce at hall
 generalize ZL t f o=dd at hdel hq
 obtain ⟨d1,d2,d3⟩:=dd
 obtain ⟨ps,hps⟩:∃ps,ps=ZJ PL:=⟨_,rfl⟩
 rw [<-hps] at hall
 have huse:=huse ps hps
 generalize Qu t s f.Class PL=UL at huse hq
 obtain ⟨us,hus⟩:∃us,us=ZP UL:=⟨_,rfl⟩
 rw [<-hus] at huse hq
 obtain ⟨f1,f2,f3,f4,f5,⟨f6,f7⟩,f8⟩:=f
 obtain ⟨fl,hfl⟩:∃fl,fl=Zd f5:=⟨_,rfl⟩
 rw [Zs _ hfl] at hall hdel ⊢
 obtain ⟨a1,a2,a3,a4⟩:=ann
 obtain ⟨o1,o2,o3,o4⟩:=o
 obtain ⟨k1,k2,k3,k4,k5,k6⟩:=k
 simp only at hk hk0 hkl hW1 hW8 hall hdel huse hmul hq hp ⊢
 refine Zf (λ R hR=>?_)
 conv=>cbv
 refine hR _ ?_
 clear hR
 refine Zf (λ R hR=>?_)
 conv=>cbv
 refine Q6 hA hks hk0 hkl (λ z v hz hv=>?_)
 obtain rfl:=Zyc (hk.symm.trans hz)
 clear hz hv
 conv=>cbv
 refine ⟨Zy hA hmul (by unfold Zj;omega),?_⟩
 refine hR _ ?_
 clear hR
 have hne:∀(x y:Opt) (b:Bool),b=A.bNot (A.bAnd (A.iEq x.Delay y.Delay) (A.bAnd (A.iEq x.Way y.Way) (A.bAnd (A.iEq x.Hold y.Hold) (A.bAnd (A.bEq x.Cancel y.Cancel) true))))->b=true->x≠y:=λ x y b h1 h2 e=>by
  subst hA
  rw [h1] at h2
  cases e
  simp [Ze] at h2
 have heq:∀(x y:Opt) (b:Bool),b=A.bNot (A.bAnd (A.iEq x.Delay y.Delay) (A.bAnd (A.iEq x.Way y.Way) (A.bAnd (A.iEq x.Hold y.Hold) (A.bAnd (A.bEq x.Cancel y.Cancel) true))))->b=false->x=y:=λ x y b h1 h2=>by
  subst hA
  rw [h1] at h2
  obtain ⟨x1,x2,x3,x4⟩:=x
  obtain ⟨y1,y2,y3,y4⟩:=y
  simp [Ze] at h2 ⊢
  exact h2
 have hne2:=hne ⟨o1,o2,o3,o4⟩ ⟨a1,a2,a3,a4⟩ _ rfl
 have heq2:=heq ⟨o1,o2,o3,o4⟩ ⟨a1,a2,a3,a4⟩ _ rfl
 clear hne heq
 refine Zf (λ R hR=>?_)
 conv=>cbv
 split
 case' h_1 =>
  rename_i hc0
  rw [if_neg (hne2 hc0)] at hq
  conv=>cbv
 case' h_2 =>
  rename_i hc0
  rw [if_pos (heq2 hc0)] at hq
  conv=>cbv
 all_goals
  refine hR _ ?_
  clear hR
  refine Zf (λ R hR=>?_)
  cases o4 with
  | true =>
   rw [if_pos rfl,if_pos rfl,if_pos rfl,<-hmul] at hq
   conv=>cbv
   exact hq
  | false =>
   have hP:PL.length<=150:=by
    rcases hp with h | h
    ·cases h
    ·exact h
   have huse:=huse hP
   simp only [Zzf,if_false] at hq
   conv=>cbv
   refine hR _ ?_
   clear hR
   refine Zf (λ R hR=>?_)
   conv=>cbv
   refine Za hA (hdel) ?_
   conv=>cbv
   refine hR _ ?_
   clear hR
   refine Zf (λ R hR=>?_)
   conv=>cbv
   refine Za hA (hall) ?_
   conv=>cbv
   refine hR _ ?_
   clear hR
   refine Zf (λ R hR=>?_)
   conv=>cbv
   refine Za hA (huse) ?_
   conv=>cbv
   refine hR _ ?_
   clear hR
   conv=>cbv
   exact hq
open Go.Proofs Go.RowKit
set_option maxRecDepth 10000 in
set_option maxHeartbeats 4000000 in
theorem ZlB (t:Zh) (s:List Zr) (f:Flight) (now:Int) (ann:Opt) (hLp:∀o∈ZZ t f,o.Cancel=true\/(ZX t f o).length<=150) :
  Zc Tryz.prog 26 [Zn t,ZD s,Zx f,.int .i64 now,Z2 ann] (Zb4 t s f now ann):=by
 refine Zb (clo:=λ _=>false) (rows:=false) Zg Tryz.func26 rfl (enters_of Tryz.func26 (by kernel_rfl) rfl) (λ A q P Y hr hA hq=>?_)
 have hcap:=ZiW t s
 have hopt:=Zl9 t f
 have hR0:Zb4 t s f now ann=if Qt t s f=0 then .tup [.list 4 ((Z1 t f now).map (ZgL t s f ann)),.list 4 (Zq (Z1 t f now)),.int .i64 0] else .tup [.list 0 [],.list 0 [],.int .i64 (Qt t s f)]:=rfl
 have hE:Qt t s f=if Qj t s≠0 then Qj t s else Z8 t f:=rfl
 have hO:Z1 t f now=if ZbL t f now=[] then [QM] else ZbL t f now:=rfl
 have hLL:ZbL t f now=(ZZ t f).filter (Zh7 f now):=rfl
 have hlen:(ZZ t f).length<=1000:=Zy1 (ZyH _ _) (YF t f)
 have hdl:=λ o (h:o∈ZZ t f)=>(ZfR h).2
 have hch:=λ o (h1:Qj t s=0) (h2:Z8 t f=0) (h3:o.Cancel=true\/(ZX t f o).length<=150)=>ZnQ t s f o ann h1 h2 h3
 have hlb:∀o,Zh7 f now o=(o.Cancel || decide (now<=f.Window.From+o.Delay)):=λ o=>rfl
 generalize Zb4 t s f now ann=r0 at hR0 hq
 generalize Qt t s f=e0 at hE hR0
 generalize Qj t s=ec at hcap hE hch
 generalize Z8 t f=ck at hopt hE hch
 generalize ZbL t f now=LL at hO hLL
 generalize Z1 t f now=OO at hR0 hO
 generalize ZZ t f=OL at hopt hLL hlen hdl hLp
 generalize Zh7 f now=g at hLL hlb
 have hcg:∀o,∃(d w ch:Int) (m:Nat) (us:List PV),ZgL t s f ann o=.agg [.int .i64 d,.int .i64 w,.int .i64 ch,.list m us]:=λ o=>by
  unfold ZgL
  split
  ·exact ⟨_,_,_,_,_,rfl⟩
  ·exact ⟨_,_,_,_,_,rfl⟩
 generalize ZgL t s f ann=cg at hR0 hch hcg
 have hOOl:OO.length<=1000:=by
  rw [hO]
  split
  ·simp
  ·rw [hLL];exact Zy1 (ZyH _ _) hlen
 have hOOp:∀o∈OO,o.Cancel=true\/(ZX t f o).length<=150:=λ o ho=>by
  rw [hO] at ho
  split at ho
  ·rw [Zy3] at ho;subst ho;exact .inl rfl
  ·rw [hLL] at ho;exact hLp o (ZyB.1 ho).1
 have hch:=λ o (ho:o∈OO) h1 h2=>hch o h1 h2 (hOOp o ho)
 clear hOOp hLp
 obtain ⟨os,hos⟩:∃os,os=Zq OL:=⟨_,rfl⟩
 rw [<-hos] at hopt
 have hosl:os.length=OL.length:=by rw [hos];simp [Zq]
 obtain ⟨ss,cs,ws,ms,ks,nv,hss,hcs,hws,hms,hks,hnv,htab⟩:=Qd t
 obtain ⟨sc,hsc⟩:∃sc,sc=Zz s:=⟨_,rfl⟩
 rw [ZB hsc] at hcap hch ⊢
 rw [htab] at hcap hopt hch ⊢
 obtain ⟨f1,f2,f3,f4,f5,⟨f6,f7⟩,f8⟩:=f
 obtain ⟨fl,hfl⟩:∃fl,fl=Zd f5:=⟨_,rfl⟩
 rw [Zs _ hfl] at hopt hch ⊢
 obtain ⟨a1,a2,a3,a4⟩:=ann
 simp only at hopt hcap hch hdl hlb ⊢
 refine Zf (λ R hR=>?_)
 conv=>cbv
 refine hR _ ?_
 clear hR
 refine Zf (λ R hR=>?_)
 conv=>cbv
 refine Za hA (hcap) ?_
 conv=>cbv
 refine hR _ ?_
 clear hR hcap
 refine Zf (λ R hR=>?_)
 conv=>cbv
 split
 ·rename_i hc
  have g:=neT hA hc
  rw [if_pos g] at hE
  rw [if_neg (by rw [hE];exact g),hE] at hR0
  conv=>cbv
  exact hR0.symm.trans hq
 rename_i hc
 have g1:=neF hA hc
 rw [if_neg (by rw [g1];simp)] at hE
 conv=>cbv
 refine hR _ ?_
 clear hR
 refine Zf (λ R hR=>?_)
 conv=>cbv
 refine Za hA (hopt) ?_
 conv=>cbv
 refine hR _ ?_
 clear hR hopt
 refine Zf (λ R hR=>?_)
 conv=>cbv
 split
 ·rename_i hc
  have g2:=neT hA hc
  rw [if_neg (by rw [hE];exact g2),hE] at hR0
  conv=>cbv
  exact hR0.symm.trans hq
 rename_i hc
 have g2:=neF hA hc
 rw [if_pos (hE.trans g2)] at hR0
 have hch:=λ o ho=>hch o ho g1 g2
 subst g1 g2
 clear hE
 conv=>cbv
 refine hR _ ?_
 clear hR
 refine Zf (λ R hR=>?_)
 conv=>cbv
 refine hR _ ?_
 clear hR
 refine Zf (λ R hR=>?_)
 refine Zf (λ R0 hR0=>?_)
 conv=>cbv
 refine hR0 _ ?_
 clear hR0
 refine Zi hA (λ (z:Int × List PV) s=>{ (s.put (some 17) (.val (.int .i64 z.1))).put (some 16) (.own 0 4 z.2) with tk:=[(A.nLen z.2,35)] })
  (λ z=>0<=z.1/\z.1<=OL.length/\z.2=Zq ((OL.take z.1.toNat).filter g)) (λ z=>(OL.length - z.1).toNat) (0,[]) ?_ ?_ ?_
 ·subst hA
  (conv=>cbv)
  exact ZaM 16 4 4 [] 35 rfl (.inl rfl) (by repeat (first | refine Zv ?_ | refine ZH ?_ | exact Z9)) rfl
 ·exact ⟨Zyk _,by omega,rfl⟩
 rintro R1 ⟨i,L⟩ ⟨hi0,hi1,hL⟩ hR1
 simp only at hi0 hi1 hL
 have hLl:L.length<=1000:=by
  have h1:=ZyH g (OL.take i.toNat)
  rw [ZyE] at h1
  rw [hL];simp only [Zq,Zys];omega
 conv=>cbv
 split
 rotate_left
 ·rename_i hc
  have hge:=ZK hA rfl (Zl hA hosl) hc
  rw [Zyl (by omega),<-hLL] at hL
  have hLn:L.length=LL.length:=by rw [hL];simp [Zq]
  conv=>cbv
  refine hR _ ?_
  clear hR hR1
  refine Zf (λ R hR=>?_)
  conv=>cbv
  split
  case' h_1 =>
   rename_i hc
   have hz:(LL.length:Int)=0:=ZdS hA (Zl hA hLn) rfl hc
   have hLL0:LL=[]:=Zyy (by omega)
   rw [if_pos hLL0] at hO
   have hZ:A.lApp L [PV.agg [.int .i64 0,.int .i64 0,.int .i64 0,.bool true]]=Zq OO:=by
    subst hA
    rw [hL,hLL0,hO];rfl
   have htk:A.tkEq (A.nLen L) (A.nLen L):=by subst hA;rfl
   have hroom:A.room (A.nLen (A.lApp L [PV.agg [.int .i64 0,.int .i64 0,.int .i64 0,.bool true]])) 32:=by
    subst hA
    show (L++[_]).length*(32+1)<=140737488355328
    rw [Zyg,Zyt];omega
   conv=>cbv
   refine ⟨⟨htk,hroom⟩,?_⟩
   have hZl:(A.lApp L [PV.agg [.int .i64 0,.int .i64 0,.int .i64 0,.bool true]]).length=OO.length:=by rw [hZ];simp [Zq]
  case' h_2 =>
   rename_i hc
   have hz:(LL.length:Int)≠0:=ZeN hA (Zl hA hLn) rfl hc
   have hLL0:LL≠[]:=λ h=>hz (by rw [h];rfl)
   rw [if_neg hLL0] at hO
   have hZ:L=Zq OO:=by rw [hL,hO]
   have hZl:L.length=OO.length:=by rw [hZ];simp [Zq]
   conv=>cbv
  all_goals
   refine hR _ ?_
   clear hR
   refine Zf (λ R hR=>?_)
   conv=>cbv
   refine hR _ ?_
   clear hR
   refine Zf (λ R hR=>?_)
   refine Zf (λ R0 hR0=>?_)
   conv=>cbv
   refine hR0 _ ?_
   clear hR0
   refine Zi hA (λ (z:Int × List PV) s=>{ (s.put (some 19) (.val (.int .i64 z.1))).put (some 18) (.own 1 4 z.2) with tk:=s.tk++[(A.nLen z.2,83)] })
    (λ z=>0<=z.1/\z.1<=OO.length/\z.2=(OO.take z.1.toNat).map cg) (λ z=>(OO.length - z.1).toNat) (0,[]) ?_ ?_ ?_
   ·(conv=>cbv)
    exact ZaM 18 4 4 [] 83 rfl (.inl rfl) (by repeat (first | refine Zv ?_ | refine ZH ?_ | exact Z9)) (by subst hA;rfl)
   ·exact ⟨Zyk _,by omega,rfl⟩
   rintro R2 ⟨k,M⟩ ⟨hk0,hk1,hM⟩ hR2
   simp only at hk0 hk1 hM
   conv=>cbv
   split
   rotate_left
   ·rename_i hc
    have hge:=ZK hA rfl (Zl hA hZl) hc
    rw [Zyl (by omega)] at hM
    rw [<-hM,<-hZ] at hR0
    conv=>cbv
    refine hR _ ?_
    conv=>cbv
    exact hR0.symm.trans hq
   rename_i hc
   have hk:k<OO.length:=ZE hA rfl (Zl hA hZl) hc
   have hks':A.iAdd k 1=k+1:=Z5 hA _ _
   have hkr:A.inR (A.iAdd k 1):=Zy hA hks' (by unfold Zj;omega)
   obtain ⟨o,ho⟩:∃o,OO[k.toNat]?=some o:=⟨_,Zya (show k.toNat<OO.length by omega)⟩
   have hcall:=hch o (Zyb ho)
   obtain ⟨d,w,chg,m,us,hcgo⟩:=hcg o
   rw [hcgo] at hcall
   have hn1:A.lApp M [.agg [.int .i64 d,.int .i64 w,.int .i64 chg,.list m us]]=(OO.take (k+1).toNat).map cg:=by
    subst hA
    rw [Zo hk0 ho,ZyX,<-hM,List.map_singleton,hcgo];rfl
   have hMl:M.length<=1000:=by rw [hM];simp;omega
   have ht1:A.tkEq (A.nLen M) (A.nLen M):=by subst hA;rfl
   have hr1:A.room (A.nLen (A.lApp M [.agg [.int .i64 d,.int .i64 w,.int .i64 chg,.list m us]])) 48:=by
    subst hA
    show (M++[_]).length*(48+1)<=140737488355328
    rw [Zyg,Zyt];omega
   obtain ⟨o1,o2,o3,o4⟩:=o
   conv=>cbv
   refine ⟨Zm hA (by kernel_rfl),?_⟩
   refine Yn hA hZ hk0 hk (λ z hz=>?_)
   obtain rfl:=Zyc (ho.symm.trans hz)
   clear hz
   conv=>cbv
   refine Za hA ((hcall rfl rfl)) ?_
   conv=>cbv
   refine ⟨⟨ht1,hr1⟩,hkr,hR2 (A.iAdd k 1,A.lApp M [.agg [.int .i64 d,.int .i64 w,.int .i64 chg,.list m us]]) _ ?_ ⟨by show 0<=A.iAdd k 1;omega,by show A.iAdd k 1<=_;omega,by show A.lApp M _=(OO.take (A.iAdd k 1).toNat).map cg;rw [hks',hn1]⟩ (by show (OO.length - A.iAdd k 1).toNat < _;rw [hks'];omega)⟩
   conv=>cbv
   exact Zk
 rename_i hc
 have hi:=ZE hA rfl (Zl hA hosl) hc
 have his:A.iAdd i 1=i+1:=Z5 hA _ _
 have hir:A.inR (A.iAdd i 1):=Zy hA his (by unfold Zj;omega)
 obtain ⟨o,ho⟩:∃o,OL[i.toNat]?=some o:=⟨_,Zya (show i.toNat<OL.length by omega)⟩
 have ht:=Zo hi0 ho
 have hdo:=hdl o (Zyb ho)
 have hgo:=hlb o
 have hnx:∀L',L'=(if g o then L++[Z2 o] else L)->0<=A.iAdd i 1/\A.iAdd i 1<=OL.length/\L'=Zq ((OL.take (A.iAdd i 1).toNat).filter g):=λ L' h=>by
  rw [his,ht,h,hL,ZzH]
  refine ⟨by omega,by omega,?_⟩
  split<;>rename_i h2<;>simp [Zq,h2]
 have hmu:(OL.length - A.iAdd i 1).toNat<(OL.length - i).toNat:=by rw [his];omega
 obtain ⟨o1,o2,o3,o4⟩:=o
 simp only at hdo hgo
 have hsum:A.iAdd f6 o1=f6+o1:=Z5 hA _ _
 have hsr:A.inR (A.iAdd f6 o1):=Zy hA hsum hdo
 have htk:A.tkEq (A.nLen L) (A.nLen L):=by subst hA;rfl
 have hroom:A.room (A.nLen (A.lApp L [Z2 ⟨o1,o2,o3,o4⟩])) 32:=by
  subst hA
  show (L++[_]).length*(32+1)<=140737488355328
  rw [Zyg,Zyt];omega
 have hyes:g ⟨o1,o2,o3,o4⟩=true->∀s',Wk (0,0) s' _->R1 s':=λ hg s' hw=>hR1 (A.iAdd i 1,A.lApp L [Z2 ⟨o1,o2,o3,o4⟩]) s' hw (hnx _ (by rw [if_pos hg];subst hA;rfl)) hmu
 have hnot:g ⟨o1,o2,o3,o4⟩=false->∀s',Wk (0,0) s' _->R1 s':=λ hg s' hw=>hR1 (A.iAdd i 1,L) s' hw (hnx _ (by rw [if_neg (by simp [hg])])) hmu
 conv=>cbv
 refine ⟨Zm hA (by kernel_rfl),?_⟩
 refine Yn hA hos hi0 hi (λ z hz=>?_)
 obtain rfl:=Zyc (ho.symm.trans hz)
 clear hz
 conv=>cbv
 cases o4 with
 | true =>
  have hg:g ⟨o1,o2,o3,true⟩=true:=by rw [hgo];rfl
  conv=>cbv
  refine Yn hA hos hi0 hi (λ z hz=>?_)
  obtain rfl:=Zyc (ho.symm.trans hz)
  clear hz
  conv=>cbv
  refine ⟨⟨htk,hroom⟩,hir,hyes hg _ ?_⟩
  conv=>cbv
  exact Zk
 | false =>
  conv=>cbv
  refine Yn hA hos hi0 hi (λ z hz=>?_)
  obtain rfl:=Zyc (ho.symm.trans hz)
  clear hz
  conv=>cbv
  refine ⟨hsr,?_⟩
  split
  ·rename_i hc
   have hg:g ⟨o1,o2,o3,false⟩=true:=by rw [hgo,Zyq (Zhp hA rfl hsum hc)];rfl
   conv=>cbv
   refine Yn hA hos hi0 hi (λ z hz=>?_)
   obtain rfl:=Zyc (ho.symm.trans hz)
   clear hz
   conv=>cbv
   refine ⟨⟨htk,hroom⟩,hir,hyes hg _ ?_⟩
   conv=>cbv
   exact Zk
  ·rename_i hc
   have hg:g ⟨o1,o2,o3,false⟩=false:=by rw [hgo,Zyr (by have:=Zia hA rfl hsum hc;omega)];rfl
   conv=>cbv
   refine ⟨hir,hnot hg _ ?_⟩
   conv=>cbv
   exact Zk
theorem ZkT (t:Zh) (s:List Zr) (f:Flight) (now:Int) (ann:Opt) (hLp:∀o∈ZZ t f,o.Cancel=true\/(ZX t f o).length<=150) :
  Zc Tryz.prog 26 [Zn t,ZD s,Zx f,.int .i64 now,Z2 ann] (ZcQ t s f now ann) :=
 (ZlB t s f now ann hLp).le (LeL.refl _) (Zh8 t s f now ann)
open Go.Proofs Go.RowKit
theorem ZkU (a b:List Opt) {xs ys:List PV} (hx:xs=Zq a) (hy:ys=Zq b):Zc Tryz.prog 28 [.list 4 xs,.list 4 ys] (.bool (decide (a=b))):=by
 refine Zb (clo:=λ _=>false) (rows:=false) Zg Tryz.func28 rfl (enters_of Tryz.func28 (by kernel_rfl) rfl) (λ A q P Y hr hA hq=>?_)
 have hlen:=(hr.mem (p:=.list 4 xs) (by simp)).len
 have hxl:xs.length=a.length:=by rw [hx];simp [Zq]
 have hyl:ys.length=b.length:=by rw [hy];simp [Zq]
 have bad:a≠b->PV.bool false=q:=λ h=>by rw [<-hq,Zyr h]
 conv=>cbv
 split
 ·rename_i h
  have h':=Zew hA (Zl hA hxl) (Zl hA hyl) h
  conv=>cbv
  exact bad (λ e=>h' (by rw [e]))
 rename_i h
 have hab:=Zka hA (Zl hA hxl) (Zl hA hyl) h
 clear h
 conv=>cbv
 refine Zi hA (λ (i:Int) s=>s.put (some 5) (.val (.int .i64 i))) (λ i=>0<=i/\i<=(a.length:Int)/\(λ i=>∀k:Nat,k<i.toNat->a[k]?=b[k]?) i) (λ i=>((a.length:Int) - i).toNat) 0 ?_ ?_ ?_
 ·conv=>cbv
  exact Zk
 ·exact ⟨Zyk _,by omega,by simp⟩
 rintro R i ⟨hi0,hi1,hi2⟩ hRi
 conv=>cbv
 split
 · rename_i hc
   have hi:i<(a.length:Int):=ZE hA rfl (Zl hA hxl) hc
   have his:A.iAdd i 1=i+1:=Z5 hA _ _
   have hir:A.inR (A.iAdd i 1):=Zy hA his (by unfold Zj;omega)
   have him:((a.length:Int) - A.iAdd i 1).toNat<((a.length:Int) - i).toNat:=by rw [his];omega
   have hin:(λ i=>∀k:Nat,k<i.toNat->a[k]?=b[k]?) (i+1)->0<=A.iAdd i 1/\A.iAdd i 1<=(a.length:Int)/\(λ i=>∀k:Nat,k<i.toNat->a[k]?=b[k]?) (A.iAdd i 1):=λ h=>by rw [his];exact ⟨by omega,by omega,h⟩
   simp only at hin
   conv=>cbv
   refine ⟨Zm hA (by kernel_rfl),?_⟩
   refine Yn hA hx hi0 hi (λ x hx0=>?_)
   obtain ⟨x1,x2,x3,x4⟩:=x
   conv=>cbv
   refine Yn hA hy hi0 (by omega) (λ y hy0=>?_)
   obtain ⟨y1,y2,y3,y4⟩:=y
   conv=>cbv
   split
   ·rename_i h
    have h':(⟨x1,x2,x3,x4⟩:Opt)≠⟨y1,y2,y3,y4⟩:=by subst hA;intro e;injection e with e1 e2 e3 e4;subst e1 e2 e3 e4;simp [Ze] at h
    conv=>cbv
    exact bad (λ e=>h' (by rw [e,hy0] at hx0;exact (Zyc hx0).symm))
   ·rename_i h
    have h':(⟨x1,x2,x3,x4⟩:Opt)=⟨y1,y2,y3,y4⟩:=by subst hA;simpa [Ze] using h
    have nx:∀k:Nat,k<(i+1).toNat->a[k]?=b[k]?:=λ k hk=>by
     rcases Z0l (Z08 (show k<i.toNat+1 by omega)) with h1 | h1
     ·exact hi2 k h1
     ·rw [h1,hx0,hy0,h']
    conv=>cbv
    exact ⟨hir,hRi (A.iAdd i 1) _ (by (conv=>cbv);exact Zk) (hin nx) him⟩
 rename_i hc
 have hi:i=(a.length:Int):=by have:=ZK hA rfl (Zl hA hxl) hc;omega
 conv=>cbv
 rw [<-hq,Zyq]
 apply ZyS
 intro k
 rcases Zy6 k a.length with h | h
 ·exact hi2 k (by omega)
 ·rw [Zyw h,Zyw (by omega)]
open Go.Proofs Go.RowKit
theorem ZlC {t:Zh} {s:List Zr} {f:Flight} (h:Zal t s f=true):ZgM t/\∀o∈ZZ t f,o.Cancel=true\/(ZX t f o).length<=150:=by
 unfold Zal at h
 rw [Zyi] at h
 exact Zcp h.1
set_option maxRecDepth 10000 in
set_option maxHeartbeats 4000000 in
theorem ZeP (t:Zh) (s:List Zr) (f:Flight) (now:Int) (ann:Opt) (_:Zfr t) (_:Zf9 s) (_:Zfs f) (_:okI now) (_:Zup ann) :
  Zc Tryz.prog 5 [Zn t,ZD s,Zx f,.int .i64 now,Z2 ann] (.bool true):=by
 refine Zb (clo:=λ _=>false) (rows:=false) Zg Tryz.func5 rfl (enters_of Tryz.func5 (by kernel_rfl) rfl) (λ A q P Y hr hA hq=>?_)
 have hlt:=Zdw t s f
 have hlf:=ZlC (t:=t) (s:=s) (f:=f)
 have c1:=λ h1 h2=>YN t s f now ann h1 h2
 have c2:=λ h=>ZkT t s f now ann h
 have hR:ZcQ t s f now ann=if Qt t s f=0 then .tup [.list 4 (Qa (Q9 t s f now ann)),.list 4 (Zq (Z1 t f now)),.int .i64 0] else .tup [.list 0 [],.list 0 [],.int .i64 (Qt t s f)]:=rfl
 rw [hR] at c1 c2
 have s1:=Zdx (Q9 t s f now ann) (Q9 t s f now ann) rfl rfl
 have s2:=ZkU (Z1 t f now) (Z1 t f now) rfl rfl
 have z1:Zc Tryz.prog 27 [.list 0 [],.list 0 []] (.bool true):=by
  have:=Zdx [] [] rfl rfl
  rw [Zyq rfl] at this
  exact this.le (.cons (.nil _ _) (.cons (.nil _ _) .nil)) (.refl _)
 have z2:Zc Tryz.prog 28 [.list 0 [],.list 0 []] (.bool true):=by
  have:=ZkU [] [] rfl rfl
  rw [Zyq rfl] at this
  exact this.le (.cons (.nil _ _) (.cons (.nil _ _) .nil)) (.refl _)
 rw [Zyq rfl] at s1 s2
 clear hR
 generalize Zal t s f=lb at hlt hlf
 generalize Qt t s f=e at c1 c2
 generalize Qa (Q9 t s f now ann)=cs1 at c1 c2 s1
 generalize Zq (Z1 t f now)=os at c1 c2 s2
 have he:A.iEq e e=true:=by subst hA;simp [Ze]
 have he0:A.iEq 0 0=true:=by subst hA;rfl
 obtain ⟨ss,cs,ws,ms,ks,nv,hss,hcs,hws,hms,hks,hnv,htab⟩:=Qd t
 obtain ⟨sc,hsc⟩:∃sc,sc=Zz s:=⟨_,rfl⟩
 rw [ZB hsc] at hlt c1 c2 ⊢
 rw [htab] at hlt c1 c2 ⊢
 obtain ⟨f1,f2,f3,f4,f5,⟨f6,f7⟩,f8⟩:=f
 obtain ⟨fl,hfl⟩:∃fl,fl=Zd f5:=⟨_,rfl⟩
 rw [Zs _ hfl] at hlt c1 c2 ⊢
 obtain ⟨a1,a2,a3,a4⟩:=ann
 simp only at hlt c1 c2 ⊢
 refine Zf (λ R hR=>?_)
 conv=>cbv
 refine hR _ ?_
 clear hR
 refine Zf (λ R hR=>?_)
 conv=>cbv
 refine Za hA (ZeB) ?_
 conv=>cbv
 split
 ·rename_i hc
  cases ((show False by have h9:true=false:=Yy hA hc;cases h9))
 conv=>cbv
 refine hR _ ?_
 clear hR
 refine Zf (λ R hR=>?_)
 conv=>cbv
 refine Za hA (hlt) ?_
 conv=>cbv
 split
 ·conv=>cbv
  exact hq
 rename_i hc
 have g:=hlf (YP hA hc)
 have c1:=c1 g.1 g.2
 have c2:=c2 g.2
 conv=>cbv
 refine hR _ ?_
 clear hR hlf hlt g
 by_cases h0:e=0
 ·rw [if_pos h0] at c1 c2
  refine Zf (λ R hR=>?_)
  conv=>cbv
  refine Za hA (c1) ?_
  conv=>cbv
  refine hR _ ?_
  clear hR c1
  refine Zf (λ R hR=>?_)
  conv=>cbv
  refine Za hA (c2) ?_
  conv=>cbv
  refine hR _ ?_
  clear hR c2
  conv=>cbv
  refine Za hA (s1) ?_
  conv=>cbv
  refine Za hA (s2) ?_
  conv=>cbv
  exact (congrArg PV.bool he0).trans hq
 ·rw [if_neg h0] at c1 c2
  refine Zf (λ R hR=>?_)
  conv=>cbv
  refine Za hA (c1) ?_
  conv=>cbv
  refine hR _ ?_
  clear hR c1
  refine Zf (λ R hR=>?_)
  conv=>cbv
  refine Za hA (c2) ?_
  conv=>cbv
  refine hR _ ?_
  clear hR c2
  conv=>cbv
  refine Za hA (z1) ?_
  conv=>cbv
  refine Za hA (z2) ?_
  conv=>cbv
  exact (congrArg PV.bool he).trans hq
end Go.Abs
namespace Go.Proofs.YtcafjndjnfdnpaaGreat
open Go.ChangeShapes Go.WideShapes Go.ChangeAt Go.RowKit Go.Abs
namespace StagesChoicesSpecP
theorem own : ownKnob Tryz.prog.godebug = none := by kernel_rfl
theorem laid : laidOutB Tryz.prog = true := by kernel_rfl
set_option maxRecDepth 100000 in
theorem contract (H : Type) (enc : TypeId × Value -> H) (W : World) (base : Nat) (args : Array Value) (ds gs : List (DataW H)) (before : List MemPlace)
    (hval : ∀ (j : Nat) t v, Tryz.f5.params[j]? = some t -> args[j]? = some v -> Value.okWide Tryz.prog W .any base t v)
    (hW : DataW.Whole enc Tryz.prog Tryz.f5.params.toList Rows.stagesChoicesSpecSpec.vars false W args.toList ds gs before) :
    Calls Tryz.prog 5 args W λ e W' => ∃ v, e = .returned v /\ Rows.stagesChoicesSpecSpec.post enc Tryz.prog Tryz.f5 false true false false W args v W' := by
  have hW0 := hW
  obtain ⟨p, q, hA, _⟩ := hW
  rw [Tryz.params5] at hA hval
  obtain ⟨v0, vs0, d0, ds0, p0, q0, e0, rfl, rfl, h0, hA⟩ := trodAll_cons hA
  obtain ⟨v1, vs1, d1, ds1, p1, q1, rfl, rfl, rfl, h1, hA⟩ := trodAll_cons hA
  obtain ⟨v2, vs2, d2, ds2, p2, q2, rfl, rfl, rfl, h2, hA⟩ := trodAll_cons hA
  obtain ⟨v3, vs3, d3, ds3, p3, q3, rfl, rfl, rfl, h3, hA⟩ := trodAll_cons hA
  obtain ⟨v4, vs4, d4, ds4, p4, q4, rfl, rfl, rfl, h4, hA⟩ := trodAll_cons hA
  obtain ⟨rfl, rfl, rfl⟩ := trodAll_nil hA
  obtain rfl : args = #[v0, v1, v2, v3, v4] := by cases args; simp_all
  obtain ⟨a0, k0, r0⟩ := QV Tryz.underlying28 hval 0 rfl rfl Zhx (λ _ => rfl) h0
  obtain ⟨a1, k1, r1⟩ := QV Tryz.underlying72 hval 1 rfl rfl ZhF (λ _ => rfl) h1
  obtain ⟨a2, k2, r2⟩ := QV Tryz.underlying33 hval 2 rfl rfl Zhy (λ _ => rfl) h2
  obtain ⟨a3, k3, r3⟩ := Zdr Tryz.underlying3 hval 3 rfl rfl h3
  obtain ⟨a4, k4, r4⟩ := QV Tryz.underlying35 hval 4 rfl rfl Zwe (λ _ => rfl) h4
  exact Zc0 laid (by rw [Tryz.params5]; decide +kernel) rfl
    (λ ds h => by rw [Tryz.params5] at h; match ds, h with | [_, _, _, _, _], _ => rfl) rfl Tryz.underlying4 hW0 (ZeP a0 a1 a2 a3 a4 k0 k1 k2 k3 k4)
    (.cons r0 (.cons r1 (.cons r2 (.cons r3 (.cons r4 .nil)))))
set_option maxRecDepth 100000 in
theorem lifted (os : Os) (started : os.Started) (H : Type) (enc : TypeId × Value -> H) :
    ReturnsInHanded {} Tryz.checked os 5 .any (Rows.stagesChoicesSpecSpec.pre6 enc Tryz.prog Tryz.f5 Rows.stagesChoicesSpecRow.domain false) (Rows.stagesChoicesSpecSpec.post enc Tryz.prog Tryz.f5 false true false false) := by
  refine returnsInHanded_of_change (C := Tryz.checked) own started (by kernel_rfl) Tryz.func5
    (ChangeSpec.witness6 (enc := enc) (C := Tryz.checked) false ⟨#[], #[.agg #[.int .i64 0, .slice none 0 0, .slice none 0 0, .slice none 0 0, .slice none 0 0, .slice none 0 0], .agg #[.slice none 0 0], .agg #[.int .i64 0, .int .i64 0, .int .i64 0, .string .empty, .slice none 0 0, .int .i64 0, .int .i64 0, .bool false], .int .i64 0, .agg #[.int .i64 0, .int .i64 0, .int .i64 0, .bool false]], []⟩ 8 (by kernel_rfl) (by kernel_rfl) (by kernel_rfl) (by kernel_rfl)) ?_
  intro W base args ds gs before hval hW _ _
  exact contract H enc W base args ds gs before hval hW
end StagesChoicesSpecP
theorem and_tt {a b : Bool} (ha : a = true) (hb : b = true) : (a && b) = true := by rw [ha, hb]; rfl
set_option maxHeartbeats 4000000 in
theorem closed_stagesChoicesSpec : joinedFacts Tryz.prog 5 Tryz.f5 Rows.stagesChoicesSpecSpec Rows.stagesChoicesSpecRow = true := by
  unfold joinedFacts
  repeat' (with_reducible apply and_tt)
  all_goals (as_aux_lemma => kernel_rfl)
theorem stagesChoicesSpec_holds : Rows.StagesChoicesSpecSaid :=
  OpenClaim.holds_of_wide 5 Tryz.f5 rfl rfl rfl rfl rfl rfl rfl ⟨rfl, rfl, rfl, rfl, rfl⟩ rfl rfl rfl rfl rfl (by kernel_rfl) Tryz.func5 closed_stagesChoicesSpec
    (ZyU (by kernel_rfl)) (by unfold Func.isWrapper; first | (rw [if_pos (by decide +kernel)]; kernel_rfl) | (rw [if_neg (by decide +kernel)]; exact ⟨rfl, rfl⟩))
    (λ os started H enc _ => StagesChoicesSpecP.lifted os started H enc)
end Go.Proofs.YtcafjndjnfdnpaaGreat
