/- Contracts of the functions, and what they rest on: part 8. -/
import Derived.Test.YtcafjndjnfdnpaaGreatT7
set_option linter.unusedVariables false
set_option linter.unusedSimpArgs false
namespace Go.Abs
open Go.Proofs Go.RowKit
theorem ZsQ (v:Int) (l:List Int) {xs:List PV} (hx:xs=Zd l):Zc Tryz.prog 267 [.list 1 xs,.int .i64 v] (.int .i64 (QY (λ x=>decide (v=x)) l)):=by
 refine Zb (clo:=λ _=>false) (rows:=false) Zg Tryz.func267 rfl (enters_of Tryz.func267 (by kernel_rfl) rfl) (λ A q P Y hr hA hq=>?_)
 have hlen:=(hr.mem (p:=.list 1 xs) (by simp)).len
 have hll:xs.length=l.length:=by rw [hx];simp [Zd]
 conv=>cbv
 refine Zi hA (λ (i:Int) s=>s.put (some 8) (.val (.int .i64 i))) (λ i=>0<=i/\i<=(l.length:Int)/\(λ i=>∀x∈l.take i.toNat,decide (v=x)=false) i) (λ i=>((l.length:Int) - i).toNat) 0 ?_ ?_ ?_
 ·conv=>cbv
  exact Zk
 ·exact ⟨Zyk _,by omega,by simp⟩
 rintro R i ⟨hi0,hi1,hi2⟩ hRi
 conv=>cbv
 split
 · rename_i hc
   have hi:i<(l.length:Int):=ZE hA rfl (Zl hA hll) hc
   have his:A.iAdd i 1=i+1:=Z5 hA _ _
   have hir:A.inR (A.iAdd i 1):=Zy hA his (by unfold Zj;omega)
   have him:((l.length:Int) - A.iAdd i 1).toNat<((l.length:Int) - i).toNat:=by rw [his];omega
   have hin:(λ i=>∀x∈l.take i.toNat,decide (v=x)=false) (i+1)->0<=A.iAdd i 1/\A.iAdd i 1<=(l.length:Int)/\(λ i=>∀x∈l.take i.toNat,decide (v=x)=false) (A.iAdd i 1):=λ h=>by rw [his];exact ⟨by omega,by omega,h⟩
   simp only at hin
   conv=>cbv
   refine Zw hA hx hi0 hi (λ x hx0=>?_)
   have ht:=Zo hi0 hx0
   conv=>cbv
   split
   ·rename_i h
    have h':decide (v=x)=true:=Zyq (eqT hA h)
    conv=>cbv
    rw [<-hq,YI hi0 hx0 h' hi2]
   ·rename_i h
    have h':decide (v=x)=false:=Zyr (eqF hA h)
    conv=>cbv
    exact ⟨hir,hRi (A.iAdd i 1) _ (by (conv=>cbv);exact Zk) (hin (ZS ht hi2 h')) him⟩
 rename_i hc
 have hi:i=(l.length:Int):=by have:=ZK hA rfl (Zl hA hll) hc;omega
 conv=>cbv
 rw [<-hq,Yd (Q7 hi hi2)]
theorem Zn0 (v:Int) (l:List Int) {xs:List PV} (hx:xs=Zd l):Zc Tryz.prog 214 [.list 1 xs,.int .i64 v] (.bool (decide (v∈l))):=by
 refine Zb (clo:=λ _=>false) (rows:=false) Zg Tryz.func214 rfl (enters_of Tryz.func214 (by kernel_rfl) rfl) (λ A q P Y hr hA hq=>?_)
 have hi:=ZsQ v l hx
 have ha:l.any (λ x=>decide (v=x))=decide (v∈l):=by
  rw [ZyA];simp
 rw [<-ha,<-YV] at hq
 generalize QY (λ x=>decide (v=x)) l=r at hi hq
 conv=>cbv
 refine Za hA hi ?_
 conv=>cbv
 rw [<-hq]
 subst hA
 rfl
theorem Zc3 {nc:Nat} {M:List (List Int)} {c:Zr}:YX nc M c=true↔0<=c.From/\c.From<1440/\0<=c.Config/\c.Config<nc/\c.Modes.length=M.length/\∀p∈c.Modes.zip M,Zcx p=true:=by
 unfold YX
 simp only [Zyi,Zyf,Zym,and_assoc]
theorem Zn1 {α β:Type} {a:List α} {b:List β} {i:Int} {x:α} {y:β} (hx:a[i.toNat]?=some x) (hy:b[i.toNat]?=some y):(a.zip b)[i.toNat]?=some (x,y):=by
 rw [List.getElem?_zip_eq_some];exact ⟨hx,hy⟩
set_option maxHeartbeats 1000000 in
theorem Zuy (t:Zh) (c:Zr):Zc Tryz.prog 198 [Zn t,Zaw c] (.bool (YX t.Configs.length t.Modes c)):=by
 refine Zb (clo:=λ _=>false) (rows:=false) Zg Tryz.func198 rfl (enters_of Tryz.func198 (by kernel_rfl) rfl) (λ A q P Y hr hA hq=>?_)
 have hbad:¬YX t.Configs.length t.Modes c=true->PV.bool false=q:=λ h=>by rw [<-hq,Zzh.2 h]
 have hK:=(Zc3 (nc:=t.Configs.length) (M:=t.Modes) (c:=c)).1
 have hK2:=(Zc3 (nc:=t.Configs.length) (M:=t.Modes) (c:=c)).2
 generalize YX t.Configs.length t.Modes c=kb at hbad hK hK2 hq
 obtain ⟨ss,cs,ws,ms,ks,nv,hss,hcs,hws,hms,hks,hnv,htab⟩:=Qd t
 rw [htab]
 have hcl:cs.length=t.Configs.length:=by rw [hcs];simp [Qh]
 have hml:ms.length=t.Modes.length:=by rw [hms];simp [Z0]
 obtain ⟨c1,c2,c3⟩:=c
 obtain ⟨mo,hmo⟩:∃mo,mo=Zd c3:=⟨_,rfl⟩
 rw [show Zaw ⟨c1,c2,c3⟩=.agg [.int .i64 c1,.int .i64 c2,.list 1 mo] by rw [hmo];rfl]
 have hol:mo.length=c3.length:=by rw [hmo];simp [Zd]
 have hlen:c3.length<=9223372036854775807:=by
  have:=(Qz.cell (show Qz [.agg [_,_,_]] from hr.mem (p:=Zaw ⟨c1,c2,c3⟩) (by simp)) (c:=.list 1 (Zd c3)) (by simp)).len
  rw [<-hmo,hol] at this;exact this
 simp only at hK hK2 ⊢
 conv=>cbv
 split
 ·rename_i hc
  conv=>cbv
  exact hbad (λ h=>by have:=hK h;have:=ltT hA hc;omega)
 rename_i g1;replace g1:=ltF hA g1
 conv=>cbv
 split
 ·rename_i hc
  conv=>cbv
  exact hbad (λ h=>by have:=hK h;have:=leT hA hc;omega)
 rename_i g2;replace g2:=leF hA g2
 conv=>cbv
 split
 ·rename_i hc
  conv=>cbv
  exact hbad (λ h=>by have:=hK h;have:=ltT hA hc;omega)
 rename_i g3;replace g3:=ltF hA g3
 conv=>cbv
 split
 ·rename_i hc
  conv=>cbv
  exact hbad (λ h=>by have:=hK h;have:=Zhp hA (Zl hA hcl) rfl hc;omega)
 rename_i g4;replace g4:=Zia hA (Zl hA hcl) rfl g4
 conv=>cbv
 split
 ·rename_i hc
  conv=>cbv
  exact hbad (λ h=>by have:=hK h;have:=Zew hA (Zl hA hol) (Zl hA hml) hc;omega)
 rename_i g5;replace g5:=Zka hA (Zl hA hol) (Zl hA hml) g5
 conv=>cbv
 refine Zi hA (λ (i:Int) s=>s.put (some 40) (.val (.int .i64 i))) (λ i=>0<=i/\i<=(c3.length:Int)/\(λ i=>∀p∈(c3.zip t.Modes).take i.toNat,Zcx p=true) i) (λ i=>((c3.length:Int) - i).toNat) 0 ?_ ?_ ?_
 ·conv=>cbv
  exact Zk
 ·exact ⟨Zyk _,by omega,by simp⟩
 rintro R i ⟨hi0,hi1,hi2⟩ hRi
 conv=>cbv
 split
 · rename_i hc
   have hi:i<(c3.length:Int):=ZE hA rfl (Zl hA hol) hc
   have his:A.iAdd i 1=i+1:=Z5 hA _ _
   have hir:A.inR (A.iAdd i 1):=Zy hA his (by unfold Zj;omega)
   have him:((c3.length:Int) - A.iAdd i 1).toNat<((c3.length:Int) - i).toNat:=by rw [his];omega
   have hin:(λ i=>∀p∈(c3.zip t.Modes).take i.toNat,Zcx p=true) (i+1)->0<=A.iAdd i 1/\A.iAdd i 1<=(c3.length:Int)/\(λ i=>∀p∈(c3.zip t.Modes).take i.toNat,Zcx p=true) (A.iAdd i 1):=λ h=>by rw [his];exact ⟨by omega,by omega,h⟩
   simp only at hin
   conv=>cbv
   have hl0:i.toNat<t.Modes.length:=by omega
   have hl1:=Zya hl0
   refine Zw hA hmo hi0 hi (λ m hm=>?_)
   have hbad2:∀l,t.Modes[i.toNat]?=some l->Zcx (m,l)=false->PV.bool false=q:=λ l hl h=>hbad (λ hk=>by
    have:=(hK hk).2.2.2.2.2 (m,l) (Zyb (Zn1 hm hl))
    rw [h] at this;cases this)
   conv=>cbv
   split
   ·rename_i hc
    have:=ltT hA hc
    conv=>cbv
    exact hbad2 _ hl1 (by unfold Zcx;simp;omega)
   rename_i g6;replace g6:=ltF hA g6
   conv=>cbv
   refine Zbh hA hms hi0 (by omega) (λ l v hl hv=>?_)
   have hvl:v.length=l.length:=by rw [hv];simp [Zd]
   have ht:=Zo hi0 (Zn1 hm hl)
   conv=>cbv
   split
   ·rename_i hc
    have:=Zhp hA (Zl hA hvl) rfl hc
    conv=>cbv
    exact hbad2 l hl (by unfold Zcx;simp;omega)
   rename_i g7;replace g7:=Zia hA (Zl hA hvl) rfl g7
   conv=>cbv
   exact ⟨hir,hRi (A.iAdd i 1) _ (by (conv=>cbv);exact Zk) (hin (ZS ht hi2 (by unfold Zcx;simp;omega))) him⟩
 rename_i hc
 have hi:i=(c3.length:Int):=by have:=ZK hA rfl (Zl hA hol) hc;omega
 conv=>cbv
 rw [<-hq,hK2 ⟨by omega,by omega,by omega,by omega,by omega,Q7 (l:=c3.zip t.Modes) (by rw [List.length_zip];omega) hi2⟩]
theorem ZB {s:List Zr} {xs:List PV} (h:xs=Zz s):ZD s=.agg [.list 3 xs]:=by rw [h];rfl
theorem ZbE (c:Zr) {ms:List PV} (h:ms=Zd c.Modes):Zaw c=.agg [.int .i64 c.From,.int .i64 c.Config,.list 1 ms]:=by rw [h];rfl
set_option maxHeartbeats 4000000 in
theorem ZsR (t:Zh) (s:List Zr):Zc Tryz.prog 146 [Zn t,ZD s] (.bool (QO t.Configs.length t.Modes s)):=by
 refine Zb (clo:=λ _=>false) (rows:=false) Zg Tryz.func146 rfl (enters_of Tryz.func146 (by kernel_rfl) rfl) (λ A q P Y hr hA hq=>?_)
 have hbad:¬QO t.Configs.length t.Modes s=true->PV.bool false=q:=λ h=>by rw [<-hq,Zzh.2 h]
 have hK:=(Zc2 (nc:=t.Configs.length) (M:=t.Modes) (s:=s)).1
 have hK2:=(Zc2 (nc:=t.Configs.length) (M:=t.Modes) (s:=s)).2
 have hfit:=λ c=>Zuy t c
 generalize QO t.Configs.length t.Modes s=kb at hbad hK hK2 hq
 generalize hfb:YX t.Configs.length t.Modes=fb at hK hK2 hfit
 obtain ⟨xs,hxs⟩:∃xs,xs=Zz s:=⟨_,rfl⟩
 have hxl:xs.length=s.length:=by rw [hxs];simp [Zz]
 have hlen:s.length<=9223372036854775807:=by
  have:=(Qz.cell (show Qz [.agg [_]] from hr.mem (p:=ZD s) (by simp)) (c:=.list 3 (Zz s)) (by simp)).len
  rw [<-hxs,hxl] at this;exact this
 obtain ⟨ss,cs,ws,ms,ks,nv,hss,hcs,hws,hms,hks,hnv,htab⟩:=Qd t
 rw [htab] at hfit ⊢
 rw [ZB hxs]
 conv=>cbv
 split
 ·rename_i hc
  conv=>cbv
  exact hbad (λ h=>by obtain ⟨⟨c,h1,_⟩,_⟩:=hK h;have:=ZdS hA (Zl hA hxl) rfl hc;have:=(ZxZ.1 h1).1;omega)
 rename_i g1;replace g1:=ZeN hA (Zl hA hxl) rfl g1
 conv=>cbv
 refine Yg hA hxs (Zyk 0) (by omega) (λ c0 v0 hc0 hv0=>?_)
 have hc00:s[0]?=some c0:=hc0
 obtain ⟨k1,k2,k3⟩:=c0
 conv=>cbv
 split
 ·rename_i hc
  conv=>cbv
  exact hbad (λ h=>by obtain ⟨⟨c,h1,h2⟩,_⟩:=hK h;rw [hc00] at h1;cases h1;exact neT hA hc h2)
 rename_i g2;replace g2:=neF hA g2
 conv=>cbv
 refine Zi hA (λ (i:Int) s=>s.put (some 22) (.val (.int .i64 i))) (λ i=>0<=i/\i<=(s.length:Int)/\(λ i=>(∀x∈s.take i.toNat,fb x=true)/\∀(k:Nat) (x y:Zr),(k:Int)+1<i->s[k]?=some x->s[k+1]?=some y->x.From<y.From) i) (λ i=>((s.length:Int) - i).toNat) 0 ?_ ?_ ?_
 ·conv=>cbv
  exact Zk
 ·exact ⟨Zyk _,by omega,by constructor;simp;intro k x y h;omega⟩
 rintro R i ⟨hi0,hi1,hi2⟩ hRi
 conv=>cbv
 split
 · rename_i hc
   have hi:i<(s.length:Int):=ZE hA rfl (Zl hA hxl) hc
   have his:A.iAdd i 1=i+1:=Z5 hA _ _
   have hir:A.inR (A.iAdd i 1):=Zy hA his (by unfold Zj;omega)
   have him:((s.length:Int) - A.iAdd i 1).toNat<((s.length:Int) - i).toNat:=by rw [his];omega
   have hin:(λ i=>(∀x∈s.take i.toNat,fb x=true)/\∀(k:Nat) (x y:Zr),(k:Int)+1<i->s[k]?=some x->s[k+1]?=some y->x.From<y.From) (i+1)->0<=A.iAdd i 1/\A.iAdd i 1<=(s.length:Int)/\(λ i=>(∀x∈s.take i.toNat,fb x=true)/\∀(k:Nat) (x y:Zr),(k:Int)+1<i->s[k]?=some x->s[k+1]?=some y->x.From<y.From) (A.iAdd i 1):=λ h=>by rw [his];exact ⟨by omega,by omega,h⟩
   simp only at hin
   conv=>cbv
   obtain ⟨hi3,hi4⟩:=hi2
   refine Yg hA hxs hi0 hi (λ x v hx hv=>?_)
   have ht:=Zo hi0 hx
   have hm:=Zyb hx
   have hf:=hfit x
   rw [ZbE x hv] at hf
   have hxx:=hx
   obtain ⟨x1,x2,x3⟩:=x
   simp only at hf hv
   conv=>cbv
   refine ⟨Zm hA (by kernel_rfl),?_⟩
   conv=>cbv
   cases hb:fb ⟨x1,x2,x3⟩ with
   | false =>
    rw [hb] at hf
    refine Za hA (hf) ?_
    conv=>cbv
    split
    rotate_left
    ·rename_i hc
     cases ((nF hA hc))
    conv=>cbv
    exact hbad (λ h=>by have:=(hK h).2.1 _ hm;rw [hb] at this;cases this)
   | true =>
    rw [hb] at hf
    refine Za hA (hf) ?_
    conv=>cbv
    split
    ·rename_i hc
     cases ((nT hA hc))
    conv=>cbv
    have hnx:(∀c,s[(i - 1).toNat]?=some c->0<i->c.From<x1)->(∀x∈s.take (i+1).toNat,fb x=true)/\∀(k:Nat) (x y:Zr),(k:Int)+1<i+1->s[k]?=some x->s[k+1]?=some y->x.From<y.From:=λ h=>by
     refine ⟨ZS ht hi3 hb,λ k x y hk hx hy=>?_⟩
     by_cases e:(k:Int)+1<i
     ·exact hi4 k x y e hx hy
     ·have e1:k+1=i.toNat:=by omega
      rw [e1,hxx] at hy
      cases hy
      exact h x (by rw [show (i - 1).toNat=k by omega];exact hx) (by omega)
    split
    ·rename_i hc
     have g3:=ltT hA hc
     have hsub:A.iSub i 1=i - 1:=ZbJ hA _ _
     conv=>cbv
     refine ⟨Zy hA hsub (by unfold Zj;omega),?_⟩
     conv=>cbv
     refine Yg hA hxs (n:=A.iSub i 1) (by rw [hsub];omega) (by rw [hsub];omega) (λ y v2 hy hv2=>?_)
     rw [hsub] at hy
     obtain ⟨y1,y2,y3⟩:=y
     simp only at hv2 ⊢
     have hyf:y1<x1\/PV.bool false=q/\x1<=y1:=by
      rcases Int.lt_or_le y1 x1 with h | h
      ·exact .inl h
      ·refine .inr ⟨hbad (λ h2=>?_),h⟩
       have:=(hK h2).2.2 (i - 1).toNat _ _ hy (by rw [show (i - 1).toNat+1=i.toNat by omega];exact hxx)
       simp only at this
       omega
     conv=>cbv
     split
     ·rename_i hc
      have g4:=leT hA hc
      conv=>cbv
      exact hyf.elim (λ h=>by omega) (λ h=>h.1)
     rename_i g4;replace g4:=leF hA g4
     conv=>cbv
     exact ⟨hir,hRi (A.iAdd i 1) _ (by (conv=>cbv);exact Zt (bx:=[_,_]) (bx':=[_]) (mp:=[]) (mp':=[]) ) (hin (hnx (λ c h1 _=>by rw [hy] at h1;cases h1;omega))) him⟩
    ·rename_i hc
     have g3:=ltF hA hc
     conv=>cbv
     exact ⟨hir,hRi (A.iAdd i 1) _ (by (conv=>cbv);exact Zt (bx:=[_,_]) (bx':=[_]) (mp:=[]) (mp':=[]) ) (hin (hnx (λ c h1 h2=>by omega))) him⟩
 rename_i hc
 have hi:i=(s.length:Int):=by have:=ZK hA rfl (Zl hA hxl) hc;omega
 conv=>cbv
 rw [<-hq,hK2 ⟨⟨_,hc00,g2⟩,Q7 hi hi2.1,λ k x y hx hy=>hi2.2 k x y (by have:=(ZxZ.1 hy).1;omega) hx hy⟩]
theorem Zik (t:Zh) (s:List Zr):Zc Tryz.prog 76 [Zn t,ZD s] (.int .i64 (Qj t s)):=by
 refine Zb (clo:=λ _=>false) (rows:=false) Zg Tryz.func76 rfl (enters_of Tryz.func76 (by kernel_rfl) rfl) (λ A q P Y hr hA hq=>?_)
 have h1:=Zid t
 have h2:=ZsR t s
 have hE:Qj t s=if Qe t then (if QO t.Configs.length t.Modes s then 0 else 190) else 140:=rfl
 rw [hE] at hq
 generalize Qe t=a at h1 hq
 generalize QO t.Configs.length t.Modes s=b at h2 hq
 obtain ⟨ss,cs,ws,ms,ks,nv,hss,hcs,hws,hms,hks,hnv,htab⟩:=Qd t
 rw [htab] at h1 h2 ⊢
 obtain ⟨xs,hxs⟩:∃xs,xs=Zz s:=⟨_,rfl⟩
 rw [ZB hxs] at h2 ⊢
 conv=>cbv
 refine Zhl hA h1 rfl (λ r hr=>?_)
 conv=>cbv
 cases a with
 | false =>
  split
  ·conv=>cbv
   exact hq▸hr▸rfl
  ·rename_i hc
   have:=neF hA hc
   rw [hr] at this
   simp at this
 | true =>
  split
  ·rename_i hc
   have:=neT hA hc
   rw [hr] at this
   simp at this
  conv=>cbv
  cases b with
  | false =>
   refine Za hA h2 ?_
   conv=>cbv
   split
   rotate_left
   ·rename_i hc
    cases ((nF hA hc))
   conv=>cbv
   exact hq
  | true =>
   refine Za hA h2 ?_
   conv=>cbv
   split
   ·rename_i hc
    cases ((nT hA hc))
   conv=>cbv
   exact hq
def ZsS (s:List Zr) (m:Int):PV:=match inS s m with
 | some c=>.tup [Zaw c,.bool true]
 | none=>.tup [.agg [.int .i64 0,.int .i64 0,.list 0 []],.bool false]
def Zjc (o:Option Zr) (F C:Int) (n:Nat) (vs:List PV) (ok:Bool):Prop:=match o with
 | some d=>F=d.From/\C=d.Config/\(n=1/\vs=Zd d.Modes)/\ok=true
 | none=>F=0/\C=0/\(n=0/\vs=[])/\ok=false
theorem Zjc.go {o:Option Zr} {F C:Int} {n:Nat} {vs:List PV} {ok:Bool} {x1 x2 m:Int} {x3:List Int} {v:List PV} (hv:v=Zd x3) (h:Zjc o F C n vs ok) (h1:x1<=m) (h2:ok=true->F<=x1):Zjc (QQ m o ⟨x1,x2,x3⟩) x1 x2 1 v true:=by
 unfold QQ
 simp only [if_pos h1]
 cases o with
 | none=>exact ⟨rfl,rfl,⟨rfl,hv⟩,rfl⟩
 | some d =>
  obtain ⟨e1,e2,e3,e4⟩:=h
  have:=h2 e4
  simp only
  rw [if_pos (by omega)]
  exact ⟨rfl,rfl,⟨rfl,hv⟩,rfl⟩
theorem Zjc.stay {o:Option Zr} {F C:Int} {n:Nat} {vs:List PV} {ok:Bool} {x1 x2 m:Int} {x3:List Int} (h:Zjc o F C n vs ok) (h1:m<x1\/ok=true/\x1<F):Zjc (QQ m o ⟨x1,x2,x3⟩) F C n vs ok:=by
 unfold QQ
 rcases h1 with h1 | ⟨h1,h2⟩
 ·simp only [if_neg (show ¬x1<=m by omega)];exact h
 ·cases o with
  | none=>exact absurd (h.2.2.2.symm.trans h1) (by decide)
  | some d =>
   have:=h.1
   simp only [if_neg (show ¬d.From<=x1 by omega)]
   split<;>exact h
set_option maxHeartbeats 4000000 in
theorem ZwG (s:List Zr) (m:Int):Zc Tryz.prog 85 [ZD s,.int .i64 m] (ZsS s m):=by
 refine Zb (clo:=λ _=>false) (rows:=false) Zg Tryz.func85 rfl (enters_of Tryz.func85 (by kernel_rfl) rfl) (λ A q P Y hr hA hq=>?_)
 obtain ⟨xs,hxs⟩:∃xs,xs=Zz s:=⟨_,rfl⟩
 have hxl:xs.length=s.length:=by rw [hxs];simp [Zz]
 have hlen:s.length<=9223372036854775807:=by
  have:=(Qz.cell (show Qz [.agg [_]] from hr.mem (p:=ZD s) (by simp)) (c:=.list 3 (Zz s)) (by simp)).len
  rw [<-hxs,hxl] at this;exact this
 rw [ZB hxs]
 conv=>cbv
 refine Zi hA (λ (y:Int × Int × Int × (Nat × List PV) × Bool) s=>{ ((s.put (some 11) (.val (.int .i64 y.1))).put (some 5) (.val (.bool y.2.2.2.2))) with bx:=[some [.val (.list 3 xs)],some [.val (.int .i64 y.2.1),.val (.int .i64 y.2.2.1),.val (.list y.2.2.2.1.1 y.2.2.2.1.2)]] })
  (λ y=>0<=y.1/\y.1<=s.length/\Zjc ((s.take y.1.toNat).foldl (QQ m) none) y.2.1 y.2.2.1 y.2.2.2.1.1 y.2.2.2.1.2 y.2.2.2.2) (λ y=>(s.length - y.1).toNat) (0,0,0,(0,[]),false) ?_ ?_ ?_
 ·conv=>cbv
  exact Wk.trans _ _ _ (Wk.forgetBx _ _ [some [.val (.list 3 xs)],some [.val (.int .i64 0),.val (.int .i64 0),.val (.list 0 [])]] _ _ ⟨Zv Z9,Zv (Zv (Zbn Z9)),trivial⟩) (Zk)
 ·exact ⟨Zyk _,by omega,rfl,rfl,⟨rfl,rfl⟩,rfl⟩
 rintro R ⟨i,F,C,⟨n,vs⟩,ok⟩ ⟨hi0,hi1,hi2⟩ hR
 simp only at hi0 hi1 hi2
 conv=>cbv
 split
 ·rename_i hc
  have hi:i<s.length:=ZE hA rfl (Zl hA hxl) hc
  conv=>cbv
  refine Yg hA hxs hi0 hi (λ x v hx hv=>?_)
  have ht:(s.take (i+1).toNat).foldl (QQ m) none=QQ m ((s.take i.toNat).foldl (QQ m) none) x:=by
   rw [Zo hi0 hx,Zkx]
  generalize (s.take i.toNat).foldl (QQ m) none=o at hi2 ht
  obtain ⟨x1,x2,x3⟩:=x
  simp only at hv
  have his:A.iAdd i 1=i+1:=Z5 hA _ _
  have hir:A.inR (A.iAdd i 1):=Zy hA his (by unfold Zj;omega)
  have him:((s.length:Int) - A.iAdd i 1).toNat<(s.length - i).toNat:=by rw [his];omega
  have hnx:∀F' C' n' vs' ok',Zjc (QQ m o ⟨x1,x2,x3⟩) F' C' n' vs' ok'->0<=A.iAdd i 1/\A.iAdd i 1<=s.length/\Zjc ((s.take (A.iAdd i 1).toNat).foldl (QQ m) none) F' C' n' vs' ok':=λ F' C' n' vs' ok' h=>by
   rw [his,ht];exact ⟨by omega,by omega,h⟩
  have hgo:=Zjc.go (x1:=x1) (x2:=x2) (m:=m) hv hi2
  have hstay:=Zjc.stay (x1:=x1) (x2:=x2) (m:=m) (x3:=x3) hi2
  conv=>cbv
  split
  ·rename_i hc
   have g1:=leT hA hc
   conv=>cbv
   cases hok:ok with
   | false =>
    rw [hok] at hi2 hgo
    split
    ·rename_i hc
     conv=>cbv
     exact ⟨hir,hR (A.iAdd i 1,x1,x2,(1,v),true) _ (by (conv=>cbv);exact Zt (bx:=[_,_]) (bx':=[_]) (mp:=[]) (mp':=[]) ) (hnx _ _ _ _ _ (hgo g1 (λ h=>by cases h))) him⟩
    ·rename_i hc
     cases (nF hA hc)
   | true =>
    rw [hok] at hi2 hgo hstay
    split
    ·rename_i hc
     cases (nT hA hc)
    conv=>cbv
    split
    ·rename_i hc
     have g2:=leT hA hc
     conv=>cbv
     exact ⟨hir,hR (A.iAdd i 1,x1,x2,(1,v),true) _ (by (conv=>cbv);exact Zt (bx:=[_,_]) (bx':=[_]) (mp:=[]) (mp':=[]) ) (hnx _ _ _ _ _ (hgo g1 (λ _=>g2))) him⟩
    ·rename_i hc
     have g2:=leF hA hc
     conv=>cbv
     exact ⟨hir,hR (A.iAdd i 1,F,C,(n,vs),true) _ (by (conv=>cbv);exact Zt (bx:=[_,_]) (bx':=[_]) (mp:=[]) (mp':=[]) ) (hnx _ _ _ _ _ (hstay (.inr ⟨rfl,g2⟩))) him⟩
  ·rename_i hc
   have g1:=leF hA hc
   conv=>cbv
   exact ⟨hir,hR (A.iAdd i 1,F,C,(n,vs),ok) _ (by (conv=>cbv);exact Zt (bx:=[_,_]) (bx':=[_]) (mp:=[]) (mp':=[]) ) (hnx _ _ _ _ _ (hstay (.inl g1))) him⟩
 ·rename_i hc
  have hi:i=s.length:=by have:=ZK hA rfl (Zl hA hxl) hc;omega
  rw [show s.take i.toNat=s by rw [Zyl (by omega)]] at hi2
  conv=>cbv
  have hR2:PV.tup [.agg [.int .i64 F,.int .i64 C,.list n vs],.bool ok]=q:=by
   rw [<-hq]
   unfold ZsS
   have h:Zjc (inS s m) F C n vs ok:=hi2
   cases ho:inS s m with
   | none =>
    rw [ho] at h
    obtain ⟨rfl,rfl,⟨rfl,rfl⟩,rfl⟩:=h
    rfl
   | some d =>
    rw [ho] at h
    obtain ⟨rfl,rfl,⟨rfl,rfl⟩,rfl⟩:=h
    rfl
  exact hR2
theorem ZrO {α:Type} {p:α->Bool} {l:List α} {i:Int} {x:α} (hx:l[i.toNat]?=some x) (hp:p x=true) (h:∀y∈l.take i.toNat,p y=false):l.find? p=some x:=by
 rw [List.find?_eq_some_iff_append]
 have hlt:=ZxZ.1 hx
 refine ⟨hp,l.take i.toNat,l.drop (i.toNat+1),?_,λ y hy=>by simp [h y hy]⟩
 conv=>lhs;rw [<-ZyI i.toNat l,ZyZ hlt.1,hlt.2]
def Zk1 (o:Option Int):PV:=.tup [.int .i64 (o.getD 0),.bool o.isSome]
set_option maxHeartbeats 4000000 in
theorem Zri (ss:List Qy) (cs:List Config) (n:Nat) (vs:List PV) (c v:Int) {xs ys:List PV} (hx:xs=ZI ss) (hy:ys=Qh cs) :
  Zc Tryz.prog 156 [.agg [.list n vs,.list 5 xs,.list 3 ys,.list 0 [],.list 0 [],.list 0 [],.list 0 [],.list 0 []],.int .i64 c,.int .i64 v] (Zk1 (Yh ss cs c v)):=by
 refine Zb (clo:=λ _=>false) (rows:=false) Zg Tryz.func156 rfl (enters_of Tryz.func156 (by kernel_rfl) rfl) (λ A q P Y hr hA hq=>?_)
 have hxl:xs.length=ss.length:=by rw [hx];simp [ZI]
 have hyl:ys.length=cs.length:=by rw [hy];simp [Qh]
 have hcl:∀k∈cs,k.Sectors.length<=9223372036854775807:=λ k hk=>by
  have h1:=Qz.cell (show Qz [.agg [_,_,_,_,_,_,_,_]] from hr.mem (p:=.agg [.list n vs,.list 5 xs,.list 3 ys,.list 0 [],.list 0 [],.list 0 [],.list 0 [],.list 0 []]) (by simp)) (c:=.list 3 ys) (by simp)
  have:=(Qz.elem h1 (x:=Zao k) (by rw [hy];exact ZzO hk) (c:=.list 1 (Zd k.Sectors)) (by simp [Zao,PV.cells])).len
  simpa [Zd] using this
 have hno:Yh ss cs c v=none->PV.tup [.int .i64 0,.bool false]=q:=λ h=>by rw [<-hq,h];rfl
 have hyes:∀z,Yh ss cs c v=some z->PV.tup [.int .i64 z,.bool true]=q:=λ z h=>by rw [<-hq,h];rfl
 clear hq
 conv=>cbv
 split
 ·rename_i hc
  conv=>cbv
  exact hno (by have:=ltT hA hc;unfold Yh;rw [if_neg (by omega)])
 rename_i g1;replace g1:=ltF hA g1
 conv=>cbv
 split
 ·rename_i hc
  conv=>cbv
  exact hno (by have:=Zhp hA (Zl hA hyl) rfl hc;unfold Yh;rw [if_pos g1,Zyw (by omega)])
 rename_i g2;replace g2:=Zia hA (Zl hA hyl) rfl g2
 conv=>cbv
 refine Zet hA hy g1 g2 (λ k v1 v2 hk hv1 hv2=>?_)
 have hfd:Yh ss cs c v=k.Sectors.find? (Zbi ss v):=by unfold Yh;rw [if_pos g1,hk]
 have hkl:=hcl k (Zyb hk)
 rw [hfd] at hno hyes
 obtain ⟨k1,k2,k3⟩:=k
 simp only at hkl hno hyes hv2
 have hul:v2.length=k3.length:=by rw [hv2];simp [Zd]
 conv=>cbv
 refine Zi hA (λ (i:Int) s=>s.put (some 26) (.val (.int .i64 i))) (λ i=>0<=i/\i<=(k3.length:Int)/\(λ i=>∀x∈k3.take i.toNat,Zbi ss v x=false) i) (λ i=>((k3.length:Int) - i).toNat) 0 ?_ ?_ ?_
 ·conv=>cbv
  exact Zk
 ·exact ⟨Zyk _,by omega,by simp⟩
 rintro R i ⟨hi0,hi1,hi2⟩ hRi
 conv=>cbv
 split
 · rename_i hc
   have hi:i<(k3.length:Int):=ZE hA rfl (Zl hA hul) hc
   have his:A.iAdd i 1=i+1:=Z5 hA _ _
   have hir:A.inR (A.iAdd i 1):=Zy hA his (by unfold Zj;omega)
   have him:((k3.length:Int) - A.iAdd i 1).toNat<((k3.length:Int) - i).toNat:=by rw [his];omega
   have hin:(λ i=>∀x∈k3.take i.toNat,Zbi ss v x=false) (i+1)->0<=A.iAdd i 1/\A.iAdd i 1<=(k3.length:Int)/\(λ i=>∀x∈k3.take i.toNat,Zbi ss v x=false) (A.iAdd i 1):=λ h=>by rw [his];exact ⟨by omega,by omega,h⟩
   simp only at hin
   conv=>cbv
   refine Zw hA hv2 hi0 hi (λ x hx0=>?_)
   have ht:=Zo hi0 hx0
   conv=>cbv
   split
   rotate_left
   ·rename_i hc
    have g3:=leF hA hc
    conv=>cbv
    exact ⟨hir,hRi (A.iAdd i 1) _ (by (conv=>cbv);exact Zk) (hin (ZS ht hi2 (by unfold Zbi;rw [Zyr (by omega)];rfl))) him⟩
   rename_i g3;replace g3:=leT hA g3
   conv=>cbv
   split
   rotate_left
   ·rename_i hc
    have g4:=ZK hA rfl (Zl hA hxl) hc
    conv=>cbv
    exact ⟨hir,hRi (A.iAdd i 1) _ (by (conv=>cbv);exact Zk) (hin (ZS ht hi2 (by unfold Zbi;rw [Zyw (by omega)];simp))) him⟩
   rename_i g4;replace g4:=ZE hA rfl (Zl hA hxl) g4
   conv=>cbv
   refine Zad hA hx g3 g4 (λ s w1 w2 hs hw1 hw2=>?_)
   have hvi:Zbi ss v x=decide (v∈s.Volumes):=by unfold Zbi;rw [hs,Zyq g3];rfl
   have hcall:=Zn0 v s.Volumes hw2
   rw [<-hvi] at hcall
   obtain ⟨s1,s2,s3,s4,s5⟩:=s
   conv=>cbv
   cases hb:Zbi ss v x with
   | true =>
    rw [hb] at hcall
    refine Za hA (hcall) ?_
    conv=>cbv
    exact hyes x (ZrO hx0 hb hi2)
   | false =>
    rw [hb] at hcall
    refine Za hA (hcall) ?_
    conv=>cbv
    exact ⟨hir,hRi (A.iAdd i 1) _ (by (conv=>cbv);exact Zk) (hin (ZS ht hi2 hb)) him⟩
 rename_i hc
 have hi:i=(k3.length:Int):=by have:=ZK hA rfl (Zl hA hul) hc;omega
 conv=>cbv
 exact hno (by rw [Z0i];intro x hx;rw [Q7 hi hi2 x hx];simp)
theorem Zrj (t:Zh) (c v:Int):Zc Tryz.prog 86 [Zn t,.int .i64 c,.int .i64 v] (Zk1 (Yh t.Sectors t.Configs c v)):=by
 refine Zb (clo:=λ _=>false) (rows:=false) Zg Tryz.func86 rfl (enters_of Tryz.func86 (by kernel_rfl) rfl) (λ A q P Y hr hA hq=>?_)
 obtain ⟨ss,cs,ws,ms,ks,nv,hss,hcs,hws,hms,hks,hnv,htab⟩:=Qd t
 rw [htab]
 have h:=λ n vs=>Zri t.Sectors t.Configs n vs c v hss hcs
 unfold Zk1 at h hq
 generalize (Yh t.Sectors t.Configs c v).getD 0=z at h hq
 generalize (Yh t.Sectors t.Configs c v).isSome=b at h hq
 conv=>cbv
 refine Za hA (h _ _) ?_
 conv=>cbv
 exact hq
theorem Zk2 (t:Zh) (s:List Zr) (v m:Int):Zc Tryz.prog 29 [Zn t,ZD s,.int .i64 v,.int .i64 m] (Zk1 (ZcN t s v m)):=by
 refine Zb (clo:=λ _=>false) (rows:=false) Zg Tryz.func29 rfl (enters_of Tryz.func29 (by kernel_rfl) rfl) (λ A q P Y hr hA hq=>?_)
 have h1:=ZwG s m
 have h2:=λ c=>Zrj t c v
 obtain ⟨ss,cs,ws,ms,ks,nv,hss,hcs,hws,hms,hks,hnv,htab⟩:=Qd t
 rw [htab] at h2 ⊢
 obtain ⟨xs,hxs⟩:∃xs,xs=Zz s:=⟨_,rfl⟩
 rw [ZB hxs] at h1 ⊢
 unfold ZsS at h1
 unfold ZcN at hq
 cases hI:inS s m with
 | none =>
  rw [hI] at h1 hq
  simp only at h1 hq
  conv=>cbv
  refine Za hA (h1) ?_
  conv=>cbv
  split
  rotate_left
  ·rename_i hc
   cases ((nF hA hc))
  conv=>cbv
  exact hq
 | some d =>
  rw [hI] at h1 hq
  obtain ⟨d1,d2,d3⟩:=d
  simp only at h1 hq
  have h3:=h2 d2
  unfold Zk1 at h3 hq
  generalize (Yh t.Sectors t.Configs d2 v).getD 0=z at h3 hq
  generalize (Yh t.Sectors t.Configs d2 v).isSome=b at h3 hq
  obtain ⟨ml,hml⟩:∃ml,ml=Zd d3:=⟨_,rfl⟩
  rw [ZbE ⟨d1,d2,d3⟩ hml] at h1
  conv=>cbv
  refine Za hA (h1) ?_
  conv=>cbv
  split
  ·rename_i hc
   cases ((nT hA hc))
  conv=>cbv
  refine Za hA (h3) ?_
  conv=>cbv
  exact hq
theorem Zmq (n:Int):Zc Tryz.prog 161 [.int .i64 n] (.bool false):=by
 refine Zb (clo:=λ _=>false) (rows:=false) Zg Tryz.func161 rfl (enters_of Tryz.func161 (by kernel_rfl) rfl) (λ A q P Y hr hA hq=>?_)
 conv=>cbv
 rw [<-hq]
 subst hA;simp [Ze]
def Zcs (a b:Int):Int:=if a<b then -1 else if b<a then 1 else 0
theorem Zb3 (a b:Int):Zc Tryz.prog 92 [.int .i64 a,.int .i64 b] (.int .i64 (Zcs a b)):=by
 refine Zb (clo:=λ _=>false) (rows:=false) Zg Tryz.func92 rfl (enters_of Tryz.func92 (by kernel_rfl) rfl) (λ A q P Y hr hA hq=>?_)
 have hC:Zcs a b=if a<b then -1 else if b<a then 1 else 0:=rfl
 rw [hC] at hq
 conv=>cbv
 refine Za hA (Zmq a) ?_
 conv=>cbv
 refine Za hA (Zmq b) ?_
 conv=>cbv
 split
 ·rename_i h
  conv=>cbv
  rw [<-hq,if_pos (ltT hA h)]
 rename_i h1
 conv=>cbv
 split
 ·rename_i h
  conv=>cbv
  rw [<-hq,if_neg (by have:=ltF hA h1;omega),if_pos (ltT hA h)]
 rename_i h2
 conv=>cbv
 rw [<-hq,if_neg (by have:=ltF hA h1;omega),if_neg (by have:=ltF hA h2;omega)]
def orI:List Int->Int
 | []=>0
 | x::r=>if x≠0 then x else orI r
theorem ZgK:∀(a b:List Int),(∀x∈a,x=0)->orI (a++b)=orI b
 | [],b,_=>rfl
 | x::r,b,h=>by
  rw [Zzq,orI,if_neg (by simp [h x (by simp)])]
  exact ZgK r b λ y hy=>h y (by simp [hy])
theorem Zuz (l:List Int) {xs:List PV} (hx:xs=Zd l):Zc Tryz.prog 91 [.list 1 xs] (.int .i64 (orI l)):=by
 refine Zb (clo:=λ _=>false) (rows:=false) Zg Tryz.func91 rfl (enters_of Tryz.func91 (by kernel_rfl) rfl) (λ A q P Y hr hA hq=>?_)
 have hll:xs.length=l.length:=by rw [hx];simp [Zd]
 have hlen:l.length<=9223372036854775807:=by have:=(hr.mem (p:=.list 1 xs) (by simp)).len;omega
 conv=>cbv
 refine Zi hA (λ (i:Int) s=>s.put (some 8) (.val (.int .i64 i))) (λ i=>0<=i/\i<=(l.length:Int)/\(λ i=>∀x∈l.take i.toNat,x=0) i) (λ i=>((l.length:Int) - i).toNat) 0 ?_ ?_ ?_
 ·conv=>cbv
  exact Zk
 ·exact ⟨Zyk _,by omega,by simp⟩
 rintro R i ⟨hi0,hi1,hi2⟩ hRi
 conv=>cbv
 split
 · rename_i hc
   have hi:i<(l.length:Int):=ZE hA rfl (Zl hA hll) hc
   have his:A.iAdd i 1=i+1:=Z5 hA _ _
   have hir:A.inR (A.iAdd i 1):=Zy hA his (by unfold Zj;omega)
   have him:((l.length:Int) - A.iAdd i 1).toNat<((l.length:Int) - i).toNat:=by rw [his];omega
   have hin:(λ i=>∀x∈l.take i.toNat,x=0) (i+1)->0<=A.iAdd i 1/\A.iAdd i 1<=(l.length:Int)/\(λ i=>∀x∈l.take i.toNat,x=0) (A.iAdd i 1):=λ h=>by rw [his];exact ⟨by omega,by omega,h⟩
   simp only at hin
   conv=>cbv
   refine Zw hA hx hi0 hi (λ x hx0=>?_)
   have ht:=Zo hi0 hx0
   have hn:i.toNat<l.length:=by omega
   have e:orI l=orI (x::l.drop (i.toNat+1)):=by
    have h1:=ZxZ.1 hx0
    rw [<-h1.2,ZzR h1.1]
    conv=>lhs;rw [<-ZyI i.toNat l]
    exact ZgK _ _ hi2
   conv=>cbv
   split
   ·rename_i h
    conv=>cbv
    rw [<-hq,e,orI,if_pos (neT hA h)]
   rename_i h
   conv=>cbv
   exact ⟨hir,hRi (A.iAdd i 1) _ (by (conv=>cbv);exact Zk) (hin (ZS ht hi2 (neF hA h))) him⟩
 rename_i hc
 have hi:i=(l.length:Int):=by have:=ZK hA rfl (Zl hA hll) hc;omega
 conv=>cbv
 have h0:orI l=0:=by
  have:=ZgK l [] (Q7 hi hi2)
  rw [Zzp] at this;exact this
 rw [<-hq,h0]
theorem Zrk (f:Flight) (hf:Zj (f.Window.From - 30)\/f.Window.From<30):Zc Tryz.prog 40 [Zx f] (.int .i64 (if f.Window.From<30 then 0 else f.Window.From - 30)):=by
 refine Zb (clo:=λ _=>false) (rows:=false) Zg Tryz.func40 rfl (enters_of Tryz.func40 (by kernel_rfl) rfl) (λ A q P Y hr hA hq=>?_)
 obtain ⟨f1,f2,f3,f4,f5,⟨f6,f7⟩,f8⟩:=f
 obtain ⟨ws,hws⟩:∃ws,ws=Zd f5:=⟨_,rfl⟩
 rw [show Zx ⟨f1,f2,f3,f4,f5,⟨f6,f7⟩,f8⟩=.agg [.int .i64 f1,.int .i64 f2,.int .i64 f3,.str f4,.list 1 ws,.int .i64 f6,.int .i64 f7,.bool f8] by rw [hws];rfl]
 simp only at hf hq
 conv=>cbv
 split
 ·rename_i h
  conv=>cbv
  rw [<-hq,if_pos (ltT hA h)]
 ·rename_i h
  have h':=ltF hA h
  conv=>cbv
  refine ⟨Zy hA (ZbJ hA f6 30) (by rcases hf with hf | hf;exact hf;omega),?_⟩
  rw [<-hq,if_neg (by omega)]
  show PV.int .i64 (A.iSub f6 30)=_
  rw [ZbJ hA]
def Zfy (a b:Cell):Int:=orI [Zcs (Y5 a.Airport) (Y5 b.Airport),Zcs a.Index b.Index,Zcs a.Minute b.Minute]
theorem ZiK (c:Cell):Zc Tryz.prog 90 [Zu c] (.int .i64 (Y5 c.Airport)):=by
 refine Zb (clo:=λ _=>false) (rows:=false) Zg Tryz.func90 rfl (enters_of Tryz.func90 (by kernel_rfl) rfl) (λ A q P Y hr hA hq=>?_)
 obtain ⟨c1,c2,c3⟩:=c
 cases c1<;>(conv=>cbv)<;>exact hq
theorem Zrl (a b:Cell):Zc Tryz.prog 35 [Zu a,Zu b] (.int .i64 (Zfy a b)):=by
 refine Zb (clo:=λ _=>false) (rows:=false) Zg Tryz.func35 rfl (enters_of Tryz.func35 (by kernel_rfl) rfl) (λ A q P Y hr hA hq=>?_)
 have r1:=ZiK a
 have r2:=ZiK b
 obtain ⟨a1,a2,a3⟩:=a
 obtain ⟨b1,b2,b3⟩:=b
 have hC:Zfy ⟨a1,a2,a3⟩ ⟨b1,b2,b3⟩=orI [Zcs (Y5 a1) (Y5 b1),Zcs a2 b2,Zcs a3 b3]:=rfl
 rw [hC] at hq
 simp only at r1 r2
 generalize Y5 a1=p1 at r1 hq
 generalize Y5 b1=p2 at r2 hq
 have c1:=Zb3 p1 p2
 have c2:=Zb3 a2 b2
 have c3:=Zb3 a3 b3
 generalize Zcs p1 p2=n1 at c1 hq
 generalize Zcs a2 b2=n2 at c2 hq
 generalize Zcs a3 b3=n3 at c3 hq
 have c4:=Zuz [n1,n2,n3] rfl
 generalize orI [n1,n2,n3]=n4 at c4 hq
 conv=>cbv
 refine ⟨Zm hA (by kernel_rfl),?_⟩
 refine Za hA r1 ?_
 conv=>cbv
 refine Za hA r2 ?_
 conv=>cbv
 refine Za hA c1 ?_
 conv=>cbv
 refine Za hA c2 ?_
 conv=>cbv
 refine Za hA c3 ?_
 conv=>cbv
 refine Za hA c4 ?_
 conv=>cbv
 exact hq
theorem Zcm (l:List Use):(ZP l).length=l.length:=by simp [ZP]
def Zh3 (es:List (Cell × Int)):List PV:=es.map λ p=>Zu p.1
def ZiL (es:List (Cell × Int)):List PV:=es.map λ p=>Z7 p.2
theorem Zk3 (es:List (Cell × Int)):YT Zu Z7 es=(Zh3 es).zip (ZiL es):=by
 unfold YT Zh3 ZiL
 rw [List.zip_map',]
def ZeL (t:Zh) (s:List Zr) (x:Zes) (m:Int):Option Cell :=
 if x.Airport then some ⟨true,x.Index,m⟩ else (ZcN t s x.Index m).map λ i=>⟨false,i,m⟩
def loM (x:Zes):Int:=max x.Minutes.From 0
def hiM (x:Zes):Int:=min x.Minutes.To 1440
def Yi (t:Zh) (s:List Zr) (x:Zes):List Cell:=(ZT (loM x) (hiM x - 1)).filterMap (ZeL t s x)
def cellsOf (t:Zh) (s:List Zr) (l:List Zes):List Cell:=l.flatMap (Yi t s)
theorem ZwH {α β:Type} {l:List α} {g:α->List β} {i:Nat} {x:α} {c:β} {B R:List β} (hx:l[i]?=some x) (hg:g x=B++c::R):(l.flatMap g)[((l.take i).flatMap g).length+B.length]?=some c:=by
 have hlt:=ZxZ.1 hx
 have e:l.flatMap g=(l.take i).flatMap g++((B++c::R)++(l.drop (i+1)).flatMap g):=by
  conv=>lhs;rw [<-ZyI i l,ZyZ hlt.1,hlt.2]
  rw [Zza,ZyW,hg]
 rw [e,Zyd (by omega),Nat.add_sub_cancel_left,Zy9,Zyd (by omega),Zzw]
 rfl
theorem ZvE {α β:Type} {L:List α} {f:α->Option β} {j:Nat} {m:α} {c:β} (h:L.take (j+1)=L.take j++[m]) (hf:f m=some c):∃R,L.filterMap f=(L.take j).filterMap f++c::R:=by
 refine ⟨(L.drop (j+1)).filterMap f,?_⟩
 conv=>lhs;rw [<-ZyI (j+1) L,h]
 rw [List.filterMap_append,List.filterMap_append,List.filterMap_cons_some hf,Zy9];rfl
theorem ZvF {α β:Type} {L:List α} {f:α->Option β} {j:Nat} {m:α} (h:L.take (j+1)=L.take j++[m]):((L.take (j+1)).filterMap f).length=((L.take j).filterMap f).length+if (f m).isSome then 1 else 0:=by
 rw [h,List.filterMap_append,Zyg]
 cases hf:f m with
 | none=>simp [hf]
 | some c=>simp [hf]
theorem Zu0 (nv:Int) (ss cs ws ms ks xs ys:List PV) :
  Zc Tryz.prog 268 [.agg [.int .i64 nv,.list 5 ss,.list 3 cs,.list 3 ws,.list 1 ms,.list 6 ks],.agg [.list 3 xs],.list 4 ys]
   (.fn 290 [.ptr [.list 4 ys] 0,.ptr [.int .i64 nv,.list 5 ss,.list 3 cs,.list 3 ws,.list 1 ms,.list 6 ks] 0,.ptr [.list 3 xs] 0]):=by
 refine Zb (clo:=λ _=>false) (rows:=false) Zg Tryz.func268 rfl (enters_of Tryz.func268 (by kernel_rfl) rfl) (λ A q P Y hr hA hq=>?_)
 conv=>cbv
 rw [<-hq]
set_option maxHeartbeats 4000000 in
theorem ZsT (t:Zh) (s:List Zr) (l:List Zes) {nv:Int} {ss cs ws ms ks xs ys:List PV} (htab:Zn t=.agg [.int .i64 nv,.list 5 ss,.list 3 cs,.list 3 ws,.list 1 ms,.list 6 ks]) (hxs:xs=Zz s) (hys0:ys=ZW l) (hlen:l.length<=1000000) :
  Zde Tryz.prog 290 [.ptr [.list 4 ys] 0,.ptr [.int .i64 nv,.list 5 ss,.list 3 cs,.list 3 ws,.list 1 ms,.list 6 ks] 0,.ptr [.list 3 xs] 0] ((cellsOf t s l).map λ c=>[Zu c]):=by
 refine Zch (clo:=λ _=>false) (rows:=false) Zg Tryz.func290 rfl (enters_of Tryz.func290 (by kernel_rfl) rfl) rfl (λ A P Y Y' y R hr hys hy hA hR=>?_)
 have hR':=λ q (h:q=Y.ys.length\/q=Y.ys.length+1)=>hR q (by rw [hys] at h;exact h)
 have hll:ys.length=l.length:=by rw [hys0];simp [ZW]
 have hyl:Y.ys.length=(cellsOf t s l).length:=by rw [hys];simp
 have hsec:=λ v m=>Zk2 t s v m
 rw [htab,ZB hxs] at hsec
 conv=>cbv
 refine Zi hA (λ (z:Int × Nat) s=>{ s.put (some 12) (.val (.int .i64 z.1)) with ax:=⟨s.ax.mp,z.2⟩ }) (λ z=>0<=z.1/\z.1<=l.length/\z.2=((l.take z.1.toNat).flatMap (Yi t s)).length) (λ z=>(l.length - z.1).toNat) (0,0) ?_ ?_ ?_
 ·conv=>cbv
  exact Zk
 ·exact ⟨Zyk _,by omega,by simp⟩
 rintro R2 ⟨i,kk⟩ ⟨hi0,hi1,hk⟩ hR2
 simp only at hi0 hi1 hk
 conv=>cbv
 split
 ·rename_i hc
  have hi:i<l.length:=ZE hA rfl (Zl hA hll) hc
  have his:A.iAdd i 1=i+1:=Z5 hA _ _
  conv=>cbv
  refine ZjX hA hys0 hi0 hi (λ x hx0=>?_)
  obtain ⟨x1,x2,⟨x3,x4⟩⟩:=x
  have hlo0:0<=loM ⟨x1,x2,⟨x3,x4⟩⟩:=Int.le_max_right _ _
  have hlo1:loM ⟨x1,x2,⟨x3,x4⟩⟩=max x3 0:=rfl
  have hhi1:hiM ⟨x1,x2,⟨x3,x4⟩⟩=min x4 1440:=rfl
  have hcl:Yi t s ⟨x1,x2,⟨x3,x4⟩⟩=(ZT (loM ⟨x1,x2,⟨x3,x4⟩⟩) (hiM ⟨x1,x2,⟨x3,x4⟩⟩ - 1)).filterMap (ZeL t s ⟨x1,x2,⟨x3,x4⟩⟩):=rfl
  have hcm:∀m,ZeL t s ⟨x1,x2,⟨x3,x4⟩⟩ m=if x1 then some ⟨true,x2,m⟩ else (ZcN t s x2 m).map λ i=>⟨false,i,m⟩:=λ m=>rfl
  have hget:∀kk c B R,kk=((l.take i.toNat).flatMap (Yi t s)).length+B.length->Yi t s ⟨x1,x2,⟨x3,x4⟩⟩=B++c::R->Y.ys[kk]?=some [Zu c]:=λ kk c B R h1 h2=>by
   rw [hys,Zyh,h1,show cellsOf t s l=l.flatMap (Yi t s) from rfl,ZwH hx0 h2];rfl
  have hlen2:((l.take (i+1).toNat).flatMap (Yi t s)).length=((l.take i.toNat).flatMap (Yi t s)).length+(Yi t s ⟨x1,x2,⟨x3,x4⟩⟩).length:=by
   rw [Zo hi0 hx0,Zza,Zyg];simp
  have hmx:A.iMax x3 0=loM ⟨x1,x2,⟨x3,x4⟩⟩:=by rw [hlo1];subst hA;rfl
  have hmn:A.iMin x4 1440=hiM ⟨x1,x2,⟨x3,x4⟩⟩:=by rw [hhi1];subst hA;rfl
  generalize loM ⟨x1,x2,⟨x3,x4⟩⟩=lo at hlo0 hlo1 hcl hmx
  generalize hiM ⟨x1,x2,⟨x3,x4⟩⟩=hi at hhi1 hcl hmn
  generalize ZeL t s ⟨x1,x2,⟨x3,x4⟩⟩=f at hcl hcm
  generalize Yi t s ⟨x1,x2,⟨x3,x4⟩⟩=L at hcl hget hlen2
  generalize ((l.take i.toNat).flatMap (Yi t s)).length=k0 at hk hget hlen2
  conv=>cbv
  refine Zi hA (λ (z:Int × Nat) s=>{ s.put (some 7) (.val (.int .i64 z.1)) with ax:=⟨s.ax.mp,z.2⟩ }) (λ z=>lo<=z.1/\(z.1<=hi\/z.1=lo)/\z.2=k0+(((ZT lo (hi - 1)).take (z.1 - lo).toNat).filterMap f).length) (λ z=>(hi - z.1).toNat) (A.iMax x3 0,kk) ?_ ?_ ?_
  ·conv=>cbv
   exact Zk
  ·show lo<=A.iMax x3 0/\(A.iMax x3 0<=hi\/A.iMax x3 0=lo)/\kk=k0+(((ZT lo (hi - 1)).take (A.iMax x3 0 - lo).toNat).filterMap f).length
   rw [hmx]
   exact ⟨Zyk _,.inr rfl,by rw [hk];simp⟩
  rintro R3 ⟨m,kk⟩ ⟨hm0,hm1,hkk⟩ hR3
  simp only at hm0 hm1 hkk
  conv=>cbv
  split
  rotate_left
  ·rename_i hc
   have hge:=ZK hA rfl hmn hc
   conv=>cbv
   refine ⟨Zy hA his (by unfold Zj;omega),hR2 (A.iAdd i 1,kk) _ ?_ ?_ ?_⟩
   ·(conv=>cbv)
    exact Zt (bx:=[]) (bx':=[_]) (mp:=[]) (mp':=[]) 
   ·refine ⟨by show 0<=A.iAdd i 1;omega,by show A.iAdd i 1<=_;omega,?_⟩
    show kk=((l.take (A.iAdd i 1).toNat).flatMap (Yi t s)).length
    rw [his,hlen2,hkk,hcl,Zyl (by rw [Zae];omega)]
   ·show (l.length - A.iAdd i 1).toNat<(l.length - i).toNat
    rw [his];omega
  rename_i hc
  have hmh:m<hi:=ZE hA rfl hmn hc
  have hms:A.iAdd m 1=m+1:=Z5 hA _ _
  have hmr:A.inR (A.iAdd m 1):=Zy hA hms (by unfold Zj;omega)
  have hmd:(hi - A.iAdd m 1).toNat<(hi - m).toNat:=by rw [hms];omega
  have htk:(ZT lo (hi - 1)).take ((m - lo).toNat+1)=(ZT lo (hi - 1)).take (m - lo).toNat++[m]:=by
   rw [<-Zdp hm0 (by omega),show (m+1 - lo).toNat=(m - lo).toNat+1 by omega]
  have hln:=ZvF (f:=f) htk
  have hnx:∀k',k'=kk+(if (f m).isSome then 1 else 0)->lo<=A.iAdd m 1/\(A.iAdd m 1<=hi\/A.iAdd m 1=lo)/\k'=k0+(((ZT lo (hi - 1)).take (A.iAdd m 1 - lo).toNat).filterMap f).length:=λ k' h=>by
   rw [hms,show (m+1 - lo).toNat=(m - lo).toNat+1 by omega,hln]
   exact ⟨by omega,.inl (by omega),by omega⟩
  have hnS:(f m).isSome=true->lo<=A.iAdd m 1/\(A.iAdd m 1<=hi\/A.iAdd m 1=lo)/\kk+1=k0+(((ZT lo (hi - 1)).take (A.iAdd m 1 - lo).toNat).filterMap f).length:=λ h=>hnx _ (by rw [h];rfl)
  have hnN:f m=none->lo<=A.iAdd m 1/\(A.iAdd m 1<=hi\/A.iAdd m 1=lo)/\kk=k0+(((ZT lo (hi - 1)).take (A.iAdd m 1 - lo).toNat).filterMap f).length:=λ h=>hnx _ (by rw [h];rfl)
  have hfR:∀c,f m=some c->∃R,L=((ZT lo (hi - 1)).take (m - lo).toNat).filterMap f++c::R:=λ c h=>by rw [hcl];exact ZvE htk h
  have hfm:=hcm m
  have hsc:=hsec x2 m
  cases x1 with
  | true =>
   rw [if_pos rfl] at hfm
   have hfR2:=hfR _ hfm
   replace hfR2:=hfR2.choose_spec
   conv=>cbv
   split
   ·rename_i hc
    cases (nT hA hc)
   conv=>cbv
   refine QE hA rfl hy (hget kk _ _ _ hkk hfR2) ?_ (λ n' hn'=>?_)
   ·conv=>cbv
    split
    ·rename_i hc
     cases (nT hA hc)
    conv=>cbv
    exact ⟨hmr,hR3 (A.iAdd m 1,kk+1) _ (by (conv=>cbv);exact Zt (bx:=[_]) (bx':=[_]) (mp:=[]) (mp':=[]) ) (hnS (by rw [hfm];rfl)) hmd⟩
   ·conv=>cbv
    split
    ·conv=>cbv
     exact hR' _ (.inr hn')
    ·rename_i hc
     have hf:False:=nF hA hc
     cases hf
  | false =>
   rw [if_neg (by simp)] at hfm
   cases hz:ZcN t s x2 m with
   | none =>
    rw [hz] at hsc hfm
    have hsc2:Zc Tryz.prog 29 _ (.tup [.int .i64 0,.bool false]):=hsc
    replace hfm:f m=none:=hfm
    conv=>cbv
    split
    rotate_left
    ·rename_i hc
     cases (nF hA hc)
    conv=>cbv
    refine Za hA (hsc2) ?_
    conv=>cbv
    exact ⟨hmr,hR3 (A.iAdd m 1,kk) _ (by (conv=>cbv);exact Zt (bx:=[_]) (bx':=[_]) (mp:=[]) (mp':=[]) ) (hnN hfm) hmd⟩
   | some z =>
    rw [hz] at hsc hfm
    have hsc2:Zc Tryz.prog 29 _ (.tup [.int .i64 z,.bool true]):=hsc
    replace hfm:f m=some ⟨false,z,m⟩:=hfm
    have hfR2:=(hfR _ hfm).choose_spec
    conv=>cbv
    split
    rotate_left
    ·rename_i hc
     cases (nF hA hc)
    conv=>cbv
    refine Za hA (hsc2) ?_
    conv=>cbv
    refine QE hA rfl hy (hget kk _ _ _ hkk hfR2) ?_ (λ n' hn'=>?_)
    ·conv=>cbv
     split
     ·rename_i hc
      cases (nT hA hc)
     conv=>cbv
     exact ⟨hmr,hR3 (A.iAdd m 1,kk+1) _ (by (conv=>cbv);exact Zt (bx:=[_]) (bx':=[_]) (mp:=[]) (mp':=[]) ) (hnS (by rw [hfm];rfl)) hmd⟩
    ·conv=>cbv
     split
     ·conv=>cbv
      exact hR' _ (.inr hn')
     ·rename_i hc
      have hf:False:=nF hA hc
      cases hf
 ·rename_i hc
  have hge:(l.length:Int)<=i:=ZK hA rfl (Zl hA hll) hc
  conv=>cbv
  exact hR' _ (.inl (by show kk=_;rw [hyl,hk,Zyl (by omega)];rfl))
def ZG (t:Zh) (s:List Zr) (p:Qo):List Cell:=cellsOf t s (Yo t p)
def ZaW (css:List (List Cell)) (c:Cell):Nat:=(css.filter λ l=>decide (c∈l)).length
def Zn2 (n:Nat):Option Int:=if n=0 then none else some (n:Int)
def Zu1 (es:List (Cell × Int)) (css:List (List Cell)):Prop:=Zda es/\∀c,QA es c=Zn2 (ZaW css c)
def Ql (t:Zh) (s:List Zr) (cl:Int) (l:List Qo):Int:=if Qj t s≠0 then Qj t s else if cl<0\/(t.Kinds.length:Int)<=cl then 200 else Zas t l
theorem ZsU (css:List (List Cell)) (L:List Cell) (c:Cell):ZaW (css++[L]) c=ZaW css c+if c∈L then 1 else 0:=by
 unfold ZaW
 rw [ZzH,Zyg]
 by_cases h:c∈L
 ·simp [h]
 ·simp [h]
theorem ZvG (css:List (List Cell)) (c:Cell):ZaW css c<=css.length:=ZyH _ _
def Zwf (n:Nat):Bool:=n == 9000000 || n == 1000020
def Zxm (t:Zh) (s:List Zr) (cl:Int) (l:List Qo) (bx:List (Option (List SV))) (r:SV) (bx':List (Option (List SV))) (tk':List (Nat × TypeId)) (ax':Ax):Prop :=
 bx'=bx/\tk'=[]/\((Ql t s cl l≠0/\r=.val (.tup [.map [] [],.int .i64 (Ql t s cl l)])/\ax'=⟨[],0⟩) \/
  (Ql t s cl l=0/\r=.mtup 0 [.int .i64 0]/\∃es,Zu1 es (l.map (ZG t s))/\ax'=⟨[.ents (YT Zu Z7 es) none],0⟩))
set_option maxRecDepth 40000 in
set_option maxHeartbeats 4000000 in
theorem Zrm (t:Zh) (s:List Zr) (cl:Int) (l:List Qo) (c0 c1:List SV) (hc0:∀c∈c0,∃p,c=.val p) (hc1:∀c∈c1,∃p,c=.val p) {xs:List PV} (hx:xs=ZJ l) (hlen:l.length<=1000000) :
  ZV ⟨Tryz.prog,tab,Zwf,true,.none⟩ 216 [.val (Zn t),.val (ZD s),.val (.int .i64 cl),.val (.list 2 xs)] [some c0,some c1] [] ⟨[],0⟩ (Zxm t s cl l [some c0,some c1]):=by
 refine YH (clo:=Zwf) (rows:=true) Zg Tryz.func216 rfl (enters_of Tryz.func216 (by kernel_rfl) rfl) (by intro h;simp at h) (λ A P Y nb R hA hnb hR=>?_)
 have hck:=Zik t s
 have hst:=λ p=>ZlZ t p
 have hxl:xs.length=l.length:=by rw [hx];simp [ZJ]
 have hin:∀M:List ZaK,([some c0,some c1]:List (Option (List SV))).all (λ o=>match o with | none=>true | some cs=>cs.all (SV.within 2 M.length 0))=true:=λ M=>by
  have h:∀cs:List SV,(∀c∈cs,∃p,c=.val p)->cs.all (SV.within 2 M.length 0)=true:=λ cs h=>by
   rw [Zym]
   intro c hc
   obtain ⟨p,rfl⟩:=h c hc
   rfl
  simp [h c0 hc0,h c1 hc1]
 have hinN:∀(a b:Nat) (r:List (Option (List SV))),2<=a->r.all (λ o=>match o with | none=>true | some cs=>cs.all (SV.within a b 0))=true->(some c0::some c1::r).all (λ o=>match o with | none=>true | some cs=>cs.all (SV.within a b 0))=true:=λ a b r _ hr=>by
  have h:∀cs:List SV,(∀c∈cs,∃p,c=.val p)->cs.all (SV.within a b 0)=true:=λ cs h=>by
   rw [Zym]
   intro c hc
   obtain ⟨p,rfl⟩:=h c hc
   rfl
  rw [Z0s,Z0s,hr]
  simp [h c0 hc0,h c1 hc1]
 have hretE:∀(sl:List SV) (B:List (Option (List SV))) (M:List ZaK) (e:Int),leL sl (((List.replicate 70 (SV.val .any)).set 8 (.val (.map [] []))).set 9 (.val (.int .i64 e)))->e≠0->e=Ql t s cl l->R ⟨sl,[some c0,some c1]++B,[],⟨M,0⟩⟩:=λ sl B M e h1 h2 h3=>by
  refine hR _ ⟨_,_,Zt (bx:=[some c0,some c1]) (bx':=B) (mp:=[]) (mp':=M) h1 (by rw [hnb];simp) (.inr ⟨by rw [hnb];simp,rfl⟩) rfl (hin []),.inl ⟨_,rfl,by (conv=>cbv);first | exact ⟨trivial,rfl⟩ | rfl⟩,rfl,rfl,.inl ⟨by rw [<-h3];exact h2,by rw [<-h3];rfl,rfl⟩⟩
 have hretO:∀(sl:List SV) (B:List (Option (List SV))) (es:List (Cell × Int)),leL sl (((List.replicate 70 (SV.val .any)).set 8 (.mp 0)).set 9 (.val (.int .i64 0)))->Ql t s cl l=0->Zu1 es (l.map (ZG t s))->R ⟨sl,[some c0,some c1]++B,[],⟨[.ents (YT Zu Z7 es) none],0⟩⟩:=λ sl B es h1 h2 h3=>by
  refine hR _ ⟨_,_,Zt (bx:=[some c0,some c1]) (bx':=B) (mp:=[_]) (mp':=[]) h1 (by rw [hnb];simp) (.inl rfl) rfl (hin [_]),.inr (.inr ⟨_,0,_,_,_,_,rfl,rfl,rfl,by first | trivial | exact ⟨trivial,trivial⟩,rfl⟩),rfl,rfl,.inr ⟨h2,rfl,es,h3,rfl⟩⟩
 clear hR
 obtain ⟨ss,cs,ws,ms,ks,nv,hss,hcs,hws,hms,hks,hnv,htab⟩:=Qd t
 rw [htab] at hck hst ⊢
 have hkl:ks.length=t.Kinds.length:=by rw [hks];simp [ZY]
 obtain ⟨sc,hsc⟩:∃sc,sc=Zz s:=⟨_,rfl⟩
 rw [ZB hsc] at hck ⊢
 subst hnb
 conv=>cbv
 refine Zhl hA hck rfl (λ r hr=>?_)
 conv=>cbv
 split
 ·rename_i hc
  have h1:=neT hA hc
  conv=>cbv
  subst hr
  exact hretE _ [_,_] [] _ (by repeat (first | refine ZH ?_ | refine Zv ?_ | exact Z9)) h1 (by unfold Ql;rw [if_pos h1])
 rename_i hc
 have h1:=neF hA hc
 rw [hr] at h1
 have hE:Ql t s cl l=if cl<0\/(t.Kinds.length:Int)<=cl then 200 else Zas t l:=by unfold Ql;rw [if_neg (by simp [h1])]
 rw [hE] at hretE hretO
 have hret2:cl<0\/(t.Kinds.length:Int)<=cl->(200:Int)=if cl<0\/(t.Kinds.length:Int)<=cl then 200 else Zas t l:=λ h=>by rw [if_pos h]
 conv=>cbv
 split
 ·rename_i hc
  have g1:=ltT hA hc
  conv=>cbv
  exact hretE _ [_,_] [] _ (by repeat (first | refine ZH ?_ | refine Zv ?_ | exact Z9)) (by decide) (hret2 (.inl g1))
 rename_i g1;replace g1:=ltF hA g1
 conv=>cbv
 split
 ·rename_i hc
  have g2:=Zhp hA (Zl hA hkl) rfl hc
  conv=>cbv
  exact hretE _ [_,_] [] _ (by repeat (first | refine ZH ?_ | refine Zv ?_ | exact Z9)) (by decide) (hret2 (.inr g2))
 rename_i g2;replace g2:=Zia hA (Zl hA hkl) rfl g2
 rw [if_neg (by omega)] at hretE hretO
 clear hret2
 conv=>cbv
 refine Zi hA (λ (z:Int × List (PV × PV)) s=>{ ((s.put (some 35) (.val (.int .i64 z.1))).put (some 8) (.mp 0)) with ax:=⟨[.ents z.2 none],s.ax.yk⟩ })
  (λ z=>0<=z.1/\z.1<=l.length/\Zas t (l.take z.1.toNat)=0/\∃es,z.2=YT Zu Z7 es/\Zu1 es ((l.take z.1.toNat).map (ZG t s))) (λ z=>(l.length - z.1).toNat) (0,[]) ?_ ?_ ?_
 ·conv=>cbv
  exact Zk
 ·exact ⟨Zyk _,by omega,rfl,[],rfl,by simp [Zda],λ c=>rfl⟩
 rintro R2 ⟨i,m⟩ ⟨hi0,hi1,hi2,es,hm,hes⟩ hR2
 simp only at hi0 hi1 hi2 hm hes
 conv=>cbv
 split
 rotate_left
 ·rename_i hc
  have hi:i=l.length:=by have:=ZK hA rfl (Zl hA hxl) hc;omega
  rw [Zyl (show l.length<=i.toNat by omega)] at hi2 hes
  subst hm
  have hO:=λ sl B h=>hretO sl B es h hi2 hes
  generalize YT Zu Z7 es=m at hO
  conv=>cbv
  exact hO _ [_,_] (by repeat (first | refine ZH ?_ | refine Zv ?_ | exact Z9))
 rename_i hc
 have hi:i<l.length:=ZE hA rfl (Zl hA hxl) hc
 have his:A.iAdd i 1=i+1:=Z5 hA _ _
 conv=>cbv
 refine ZdQ hA hx hi0 hi (λ p v hp hv=>?_)
 have ht:=Zo hi0 hp
 have hst1:=hst p
 rw [Yw p hv] at hst1
 have hset:Zas t (l.take (i+1).toNat)=QB t p:=by
  rw [ht,ZbA t _ _ hi2]
  unfold Zas
  split
  ·rename_i h;rw [h];rfl
  ·rfl
 have hsta:QB t p≠0->Zas t l=QB t p:=λ h=>by
  have hll:=ZxZ.1 hp
  conv=>lhs;rw [<-ZyI i.toNat l,ZyZ hll.1,hll.2]
  rw [ZbA t _ _ hi2]
  unfold Zas
  rw [if_neg h]
 obtain ⟨sy,hsy⟩:∃sy,sy=ZW (Yo t p):=⟨_,rfl⟩
 have hsyl:QB t p=0->(Yo t p).length<=10:=Ze2
 have hres:ZgE t p=if QB t p=0 then .list 4 sy else .list 0 []:=by rw [hsy];rfl
 rw [hres] at hst1
 clear hres
 have hseq:=λ h=>ZsT t s (Yo t p) htab hsc hsy h
 have hpc:cellsOf t s (Yo t p)=ZG t s p:=rfl
 have hset2:(l.take (i+1).toNat).map (ZG t s)=(l.take i.toNat).map (ZG t s)++[ZG t s p]:=by rw [ht];simp
 rw [hpc] at hseq
 generalize ZG t s p=L at hseq hset2
 generalize QB t p=e1 at hst1 hset hsta hsyl
 obtain ⟨p1,p2⟩:=p
 simp only at hst1
 by_cases g3:e1=0
 rotate_left
 ·rw [if_neg g3] at hst1
  conv=>cbv
  refine Za hA hst1 ?_
  conv=>cbv
  split
  ·rename_i hc
   conv=>cbv
   exact hretE _ [_,_,_] [_] _ (by repeat (first | refine ZH ?_ | refine Zv ?_ | exact Z9)) g3 (hsta g3).symm
  ·rename_i hc
   exact absurd (neF hA hc) g3
 rw [if_pos g3] at hst1
 subst g3
 have hsyl:=hsyl rfl
 conv=>cbv
 refine Za hA hst1 ?_
 conv=>cbv
 split
 ·rename_i hc
  cases ((neT hA hc rfl))
 conv=>cbv
 refine Za hA (Zu0 nv ss cs ws ms ks sc sy) ?_
 conv=>cbv
 refine YU hA (hseq (by omega)) (λ x hx=>?_) (λ (y:List (PV × PV)) s=>{ s with ax:=⟨[.ents m none,.ents y none],s.ax.yk⟩ })
  (λ k y=>∃hs:List (Cell × Unit),y=YT Zu (λ _=>.bool true) hs/\Zda hs/\∀c,Zbr hs c=decide (c∈L.take k)) [] (λ _=>rfl) ?_ ?_ ?_ ?_
 ·obtain ⟨c,_,rfl⟩:=Zyz.1 hx
  rfl
 ·conv=>cbv
  exact Wk.refl _
 ·exact ⟨[],rfl,by simp [Zda],λ c=>by simp [Zbr]⟩
 ·rintro R3 k y x hx ⟨hs,hy1,hy2,hy3⟩ hR3
  rw [Zyh] at hx
  obtain ⟨c,hc,hx⟩:=ZyG.1 hx
  subst hx
  have hkk:Yu true [.bool,.int,.int] y (Zu c):=by rw [hy1];exact Zb2 _ _
  have hpt:Zdz y (Zu c) (.bool true)=YT Zu (λ _=>.bool true) (ZbC hs c ()):=by rw [hy1];exact ZdW QJ (f:=λ _:Unit=>PV.bool true) hs c ()
  have hnx:Zda (ZbC hs c ())/\∀d,Zbr (ZbC hs c ()) d=decide (d∈L.take (k+1)):=by
   refine ⟨hy2.put _ _,λ d=>?_⟩
   rw [ZyD,hc]
   have h1:Zbr (ZbC hs c ()) d=(decide (d=c) || Zbr hs d):=by
    cases h:Zbr (ZbC hs c ()) d with
    | true =>
     have h2:QA (ZbC hs c ()) d≠none:=λ e=>by rw [QF.1 e] at h;cases h
     rw [ZcA] at h2
     by_cases e:d=c
     ·simp [e]
     ·rw [if_neg e] at h2
      cases h3:Zbr hs d with
      | true=>simp
      | false=>exact absurd (QF.2 h3) h2
    | false =>
     have h2:=QF.2 h
     rw [ZcA] at h2
     by_cases e:d=c
     ·rw [if_pos e] at h2;cases h2
     ·rw [if_neg e] at h2
      rw [QF.1 h2];simp [e]
   rw [h1,hy3]
   rw [ZyA]
   simp [or_comm]
  obtain ⟨k1,k2,k3⟩:=c
  have hpt2:A.ePut y (.agg [.bool k1,.int .i64 k2,.int .i64 k3]) (.bool true)=YT Zu (λ _=>.bool true) (ZbC hs ⟨k1,k2,k3⟩ ()):=by rw [<-hpt];subst hA;rfl
  conv=>cbv
  refine ⟨⟨Q1 hA hkk,trivial⟩,hR3 (A.ePut y (.agg [.bool k1,.int .i64 k2,.int .i64 k3]) (.bool true)) _ ?_ ⟨_,hpt2,hnx⟩⟩
  (conv=>cbv)
  exact Zt (bx:=[_,_,_,_,_,_]) (bx':=[_]) (mp:=[_,_]) (mp':=[]) (by repeat (first | refine Zv ?_ | refine ZH ?_ | exact Z9)) (by simp) (by simp) rfl (hinN 6 2 _ (by decide) rfl)
 ·rintro y ⟨hs,hy1,hy2,hy3⟩
  conv=>cbv
  refine Zi hA (λ (z:List PV × List (PV × PV)) s=>{ s with ax:=⟨[.ents z.2 none,.ents y none,.iter (some 1) [] z.1 none],s.ax.yk⟩ })
   (λ z=>∃(left:List Cell) (es:List (Cell × Int)),z.1=left.map Zu/\left.Nodup/\(∀c∈left,c∈L)/\z.2=YT Zu Z7 es/\Zda es/\∀c,QA es c=Zn2 (ZaW ((l.take i.toNat).map (ZG t s)) c+if c∈L/\c∉left then 1 else 0))
   (λ z=>z.1.length) (A.eKeys y,m) ?_ ?_ ?_
  ·conv=>cbv
   exact Zk
  ·have hkeys:∀c,c∈hs.map (·.1)↔c∈L:=λ c=>by
    rw [<-ZbD,hy3,Zyf,Zyl (by simp)]
   refine ⟨hs.map λ p:Cell × Unit=>p.1,es,?_,hy2,λ c h=>(hkeys c).1 h,hm,hes.1,λ c=>?_⟩
   ·show A.eKeys y=_
    subst hA
    rw [hy1]
    show (YT Zu _ hs).map (·.1)=_
    unfold YT
    rw [Zz8,Zz8]
    rfl
   ·rw [if_neg (λ h=>h.2 ((hkeys c).2 h.1))]
    exact hes.2 c
  rintro R3 ⟨lf,m2⟩ ⟨left,es2,hl1,hl2',hl3,hl4,hl5,hl6⟩ hR3
  simp only at hl1 hl4
  refine Zf (λ R4 hR4=>?_)
  conv=>cbv
  refine ZhW hA (λ h0=>?_) (λ k w hk hkv=>?_)
  ·conv=>cbv
   refine hR4 _ ?_
   conv=>cbv
   refine ⟨Zy hA his (by unfold Zj;omega),hR2 (A.iAdd i 1,m2) _ ?_ ?_ ?_⟩
   ·(conv=>cbv)
    exact Zt (bx:=[_,_,_,_]) (bx':=[_,_]) (mp:=[_]) (mp':=[_,_]) (by repeat (first | refine Zv ?_ | refine ZH ?_ | exact Z9)) (by simp) (.inr ⟨by simp,rfl⟩) rfl (hinN 4 1 _ (by decide) rfl)
   ·have hl0:left=[]:=List.map_eq_nil_iff.1 (hl1.symm.trans h0)
    rw [his]
    refine ⟨by show 0<=i+1;omega,by show i+1<=_;omega,hset,es2,hl4,hl5,λ c=>?_⟩
    show QA es2 c=Zn2 (ZaW ((l.take (i+1).toNat).map (ZG t s)) c)
    rw [hset2,ZsU,hl6,hl0]
    simp
   ·show (l.length - A.iAdd i 1).toNat<(l.length - i).toNat
    rw [his];omega
  ·rw [hl1] at hk
   obtain ⟨c,hcl,hck2⟩:=Zyz.1 hk
   subst hck2
   obtain ⟨k1,k2,k3⟩:=c
   conv=>cbv
   refine hR4 _ ?_
   refine Zf (λ R5 hR5=>?_)
   conv=>cbv
   refine hR5 _ ?_
   refine Zrb (λ R6 hR6=>?_)
   conv=>cbv
   refine ZhV hA (v:=.bool true) ?_ ?_
   ·show QG y (Zu ⟨k1,k2,k3⟩)=_
    rw [hy1,Zb1 QJ (f:=λ _:Unit=>PV.bool true)]
    have h:=hy3 ⟨k1,k2,k3⟩
    rw [Zyl (by simp),Zyq (hl3 _ hcl)] at h
    cases hl:QA hs ⟨k1,k2,k3⟩ with
    | none=>rw [QF.1 hl] at h;cases h
    | some u=>rfl
   conv=>cbv
   refine hR6 _ ?_
   obtain ⟨o,ho⟩:∃o,o=(QA es2 ⟨k1,k2,k3⟩).getD 0:=⟨_,rfl⟩
   have hoc:o=(ZaW ((l.take i.toNat).map (ZG t s)) ⟨k1,k2,k3⟩:Nat):=by
    rw [ho,hl6,if_neg (λ h=>h.2 hcl),Zzj]
    unfold Zn2
    split
    ·rename_i h;rw [h];rfl
    ·rfl
   have hoL:0<=o/\o<=1000000:=by
    have:=ZvG ((l.take i.toNat).map (ZG t s)) ⟨k1,k2,k3⟩
    rw [Zys,ZyE] at this
    omega
   have hos:A.iAdd o 1=o+1:=Z5 hA _ _
   have hor:A.inR (A.iAdd o 1):=Zy hA hos (by unfold Zj;omega)
   have hl2:QG m2 (Zu ⟨k1,k2,k3⟩)=(QA es2 ⟨k1,k2,k3⟩).map Z7:=by rw [hl4,Zb1 QJ]
   have hk2:Yu true [.bool,.int,.int] m2 (Zu ⟨k1,k2,k3⟩):=by rw [hl4];exact Zb2 _ _
   have hv2:(QG m2 (Zu ⟨k1,k2,k3⟩)).getD (.int .i64 0)=.int .i64 o:=by
    rw [hl2,ho]
    cases QA es2 ⟨k1,k2,k3⟩<;>rfl
   obtain ⟨m3,hm3⟩:∃m3,m3=ZkX m2 (Zu ⟨k1,k2,k3⟩) (Z7 0):=⟨_,rfl⟩
   have hv3:(QG m3 (Zu ⟨k1,k2,k3⟩)).getD (.int .i64 0)=.int .i64 o:=by
    rw [hm3,hl4,Zk0 QJ,Zb1 QJ,ZsP,ho]
    rfl
   have hk3:Yu true [.bool,.int,.int] m3 (Zu ⟨k1,k2,k3⟩):=by rw [hm3,hl4,Zk0 QJ];exact Zb2 _ _
   obtain ⟨m4,hm4⟩:∃m4,m4=Zdz m3 (Zu ⟨k1,k2,k3⟩) (Z7 (A.iAdd o 1)):=⟨_,rfl⟩
   have he3:m3=A.eEnt m2 (.agg [.bool k1,.int .i64 k2,.int .i64 k3]) (.int .i64 0):=by rw [hm3];subst hA;rfl
   have he4:m4=A.ePut m3 (.agg [.bool k1,.int .i64 k2,.int .i64 k3]) (.int .i64 (A.iAdd o 1)):=by rw [hm4];subst hA;rfl
   refine Zpp rfl (0:Int) (λ n=>[.mp 0,.val (.agg [.bool k1,.int .i64 k2,.int .i64 k3]),.val (.int .i64 o),.val (.int .i64 (A.iAdd o 1)),.val (.tup [.int .i64 o,.int .i64 n]),.val (.int .i64 n),.undef])
    (λ _ _=>[some c0,some c1,some [.val (.int .i64 nv),.val (.list 5 ss),.val (.list 3 cs),.val (.list 3 ws),.val (.list 1 ms),.val (.list 6 ks)],some [.val (.list 3 sc)],some [.val (.int .i64 p1),.val (.list 1 v)],some [.mp 1],some [.val (.bool k1),.val (.int .i64 k2),.val (.int .i64 k3)]])
    (λ L n=>[.ents (Zxl (L 6) (L 4) m4 m3 m2) (Zxl (L 6) (L 4) none (some (.agg [.bool k1,.int .i64 k2,.int .i64 k3],n)) none),.ents y none,.iter (some 1) [] (A.lDrop lf (.agg [.bool k1,.int .i64 k2,.int .i64 k3])) (some (.agg [.bool k1,.int .i64 k2,.int .i64 k3]))])
    rfl (λ _ _ _ _=>rfl) (λ L L' h n=>by simp only [h 6 (by decide),h 4 (by decide)]) rfl ?_ ?_
   intro L' i' o' hi' hL hC he K' n hK
   rcases i' with _ | i'
   ·cases hi'
    conv=>cbv
    exact hK n
   rcases i' with _ | i'
   ·cases hi'
    conv=>cbv
    exact hK n
   rcases i' with _ | i'
   ·cases hi'
    have h0:L' 0=true:=he ⟨0,.data⟩ (by simp) rfl
    have h1':L' 1=true:=he ⟨1,.data⟩ (by simp) rfl
    have h6:L' 6=false:=by
     cases h:L' 6 with
     | false=>rfl
     | true=>exact absurd (hC 3 _ rfl (hC 6 _ rfl h ⟨3,.data⟩ (by simp) rfl) ⟨2,.data⟩ (by simp) rfl) (by rw [hL];simp)
    cases h4:L' 4 with
    | false =>
     conv=>cbv
     simp only [h0,h1',h4,h6]
     conv=>cbv
     refine ⟨Q1 hA hk2,Yv hA hv2 rfl ?_⟩
     conv=>cbv
     refine cast (congrArg K' ?_) (hK n)
     conv=>lhs;cbv
     simp only [h0,h1',h4,h6]<;>rfl
    | true =>
     conv=>cbv
     simp only [h0,h1',h4,h6]
     conv=>cbv
     refine ⟨Q1 hA hk3,Yv hA hv3 rfl ?_⟩
     conv=>cbv
     refine cast (congrArg K' ?_) (hK n)
     conv=>lhs;cbv
     simp only [h0,h1',h4,h6]<;>rfl
   rcases i' with _ | i'
   ·cases hi'
    have h2:L' 2=true:=he ⟨2,.data⟩ (by simp) rfl
    conv=>cbv
    simp only [h2]
    conv=>cbv
    refine ⟨hor,?_⟩
    refine cast (congrArg K' ?_) (hK n)
    conv=>lhs;cbv
    simp only [h2]<;>rfl
   rcases i' with _ | i'
   ·cases hi'
    have h0:L' 0=true:=he ⟨0,.data⟩ (by simp) rfl
    have h1':L' 1=true:=he ⟨1,.data⟩ (by simp) rfl
    have h5:L' 5=false:=by
     cases h:L' 5 with
     | false=>rfl
     | true=>exact absurd (hC 5 _ rfl h ⟨4,.data⟩ (by simp) rfl) (by rw [hL];simp)
    have h6:L' 6=false:=by
     cases h:L' 6 with
     | false=>rfl
     | true=>exact absurd (hC 6 _ rfl h ⟨5,.data⟩ (by simp) rfl) (by rw [h5];simp)
    conv=>cbv
    simp only [h0,h1',hL,h6]
    conv=>cbv
    subst he3
    first
     | refine ⟨Q1 hA hk2,Yv hA hv2 rfl (ZjW hA λ n'=>?_)⟩
     | refine ⟨Q1 hA hk2,trivial,Yv hA hv2 rfl (ZjW hA λ n'=>?_)⟩
    conv=>cbv
    refine cast (congrArg K' ?_) (hK n')
    conv=>lhs;cbv
    simp only [h0,h1',h5,hL,h6]<;>rfl
   rcases i' with _ | i'
   ·cases hi'
    have h4:L' 4=true:=he ⟨4,.data⟩ (by simp) rfl
    conv=>cbv
    simp only [h4]
    conv=>cbv
    refine cast (congrArg K' ?_) (hK n)
    conv=>lhs;cbv
    simp only [h4]<;>rfl
   rcases i' with _ | i'
   ·cases hi'
    have h0:L' 0=true:=he ⟨0,.data⟩ (by simp) rfl
    have h3:L' 3=true:=he ⟨3,.data⟩ (by simp) rfl
    have h5:L' 5=true:=he ⟨5,.data⟩ (by simp) rfl
    have h4:L' 4=true:=hC 5 _ rfl h5 ⟨4,.data⟩ (by simp) rfl
    conv=>cbv
    simp only [h0,h3,h4,h5,hL]
    conv=>cbv
    subst he4
    refine ⟨Zq8 hA rfl,?_⟩
    refine cast (congrArg K' ?_) (hK n)
    conv=>lhs;cbv
    simp only [h0,h3,h4,h5]<;>rfl
   ·simp at hi'
   intro n
   conv=>cbv
   have hdr:A.lDrop lf (.agg [.bool k1,.int .i64 k2,.int .i64 k3])=(left.filter λ d=>!decide ((⟨k1,k2,k3⟩:Cell)=d)).map Zu:=by
    subst hA
    rw [hl1]
    show (left.map Zu).filter (λ y=>!keq (Zu ⟨k1,k2,k3⟩) y)=_
    rw [List.filter_map]
    simp only [Zzu,QJ]
   refine hR3 (A.lDrop lf (.agg [.bool k1,.int .i64 k2,.int .i64 k3]),m4) _ ?_ ?_ ?_
   ·(conv=>cbv)
    exact Wk.trans _ _ _ (Wk.forgetMp _ _ _ _ [.ents m4 none,.ents y none,.iter (some 1) [] (A.lDrop lf (.agg [.bool k1,.int .i64 k2,.int .i64 k3])) none] _ ⟨⟨List.Perm.refl _,.inl rfl⟩,⟨List.Perm.refl _,.inl rfl⟩,⟨rfl,rfl,rfl,.inl rfl⟩,trivial⟩) (Zt (bx:=[_,_,_,_,_,_]) (bx':=[_]) (mp:=[_,_,_]) (mp':=[]) (by repeat (first | refine Zv ?_ | refine ZH ?_ | exact Z9)) (by simp) (.inl rfl) rfl (hinN 6 3 _ (by decide) rfl))
   ·refine ⟨left.filter λ d=>!decide ((⟨k1,k2,k3⟩:Cell)=d),ZbC es2 ⟨k1,k2,k3⟩ (o+1),hdr,hl2'.filter _,λ c h=>hl3 c (ZyB.1 h).1,?_,hl5.put _ _,λ d=>?_⟩
    ·show m4=_
     rw [hm4,hm3,hl4,Zk0 QJ,ZdW QJ,Zux,hos]
    ·rw [ZcA]
     by_cases e:d=⟨k1,k2,k3⟩
     ·rw [if_pos e,if_pos ⟨by rw [e];exact hl3 _ hcl,by rw [e];simp⟩,e,hoc]
      unfold Zn2
      rw [if_neg (by omega)]
      rfl
     ·rw [if_neg e,hl6]
      congr 2
      have:(d∈left.filter λ d=>!decide ((⟨k1,k2,k3⟩:Cell)=d))↔d∈left:=by simp [Z0B e]
      simp only [this]
   ·show (A.lDrop lf _).length<lf.length
    rw [hdr,hl1,Zys,Zys]
    exact Zz9.2 ⟨_,hcl,by simp⟩
open Go.Lib Go.Sort
theorem Below.grown_ {w w':World} (h:Below w.heap.size w w'):∃q os',w'=grow (w.drewN q) os':=by
 refine ⟨w'.drawn - w.drawn,w'.heap.extract w.heap.size w'.heap.size,?_⟩
 obtain ⟨h1,h2,h3,h4,h5,h6⟩:=h
 have hh:w'.heap=w.heap++w'.heap.extract w.heap.size w'.heap.size:=by
  apply Array.ext_getElem?
  intro i
  by_cases hi:i<w.heap.size
  ·rw [h5 i hi,Array.getElem?_append_left hi]
  ·rw [Array.getElem?_append_right (by omega),Array.getElem?_extract]
   by_cases hj:i<w'.heap.size
   ·rw [if_pos (by simp;omega)];congr 1;omega
   ·rw [if_neg (by simp;omega)];exact Zzb (by omega)
 cases w
 cases w'
 simp only [grow,World.drewN] at *
 simp only [World.mk.injEq]
 refine ⟨hh,h2,by omega,h1,h3⟩
theorem ZsV {S:Addr->Prop} {w:World} {p:PV} {v:Value} (h:p.flat1=true) (hv:RV S w p v):v=p.toVal1:=by
 cases p<;>simp [PV.flat1] at h<;>cases hv<;>rfl
theorem Zmr {S:Addr->Prop} {w:World} {p:PV} (h:p.flat1=true):RV S w p p.toVal1:=by
 cases p<;>simp [PV.flat1] at h
 ·exact .int _ _
 ·exact .bool _
 ·exact .str _
theorem Zk4 {p:PV} (h:p.flat1=true):p.toVal1.oneCell'=true:=by
 cases p<;>simp [PV.flat1] at h<;>rfl
def Zbj {α:Type} (pv:α->List PV) (x:α):List Value:=(pv x).map PV.toVal1
theorem Zpq {α:Type} (f:α->List Value) (k:Nat) (hk:∀x,(f x).length=k) (h0:0<k):∀(l:List α) (t:Nat),(l.flatMap f)[t]?=(l[t / k]?).bind λ x=>(f x)[t % k]?
 | [],t=>by simp
 | x::l,t=>by
  rw [ZyW]
  by_cases h:t<k
  ·rw [Zye (by rw [hk];exact h),Nat.div_eq_of_lt h,ZzF h];rfl
  ·rw [Zyd (by rw [hk];omega),hk,Zpq f k hk h0 l (t - k)]
   have h1:t / k=(t - k) / k+1:=by rw [Nat.div_eq_sub_div h0 (by omega)]
   have h2:t % k=(t - k) % k:=by rw [Nat.mod_eq_sub_mod (by omega)]
   rw [h1,h2];rfl
theorem Zk5 {α:Type} [Inhabited α] (f:α->List Value) (k:Nat) (hk:∀x,(f x).length=k) (h0:0<k) (l:List α):Go.Sort.flatK f k l.toArray=(l.flatMap f).toArray:=by
 have hl:(l.flatMap f).length=l.length*k:=by
  induction l with
  | nil=>simp
  | cons x l ih=>rw [ZyW,Zyg,ih,hk,ZyM,Zzi,Z0h,Zz2]
 apply Array.ext_getElem?
 intro t
 by_cases ht:t<l.length*k
 ·have hd:t / k<l.length:=Nat.div_lt_of_lt_mul (by rw [Z0A];exact ht)
  have hm:t % k<k:=Z0f _ h0
  rw [show ((l.flatMap f).toArray)[t]?=(l.flatMap f)[t]? from by simp,Zpq f k hk h0,Zya hd]
  rw [Zyn (by simpa using ht)]
  show some _=(f l[t / k])[t % k]?
  rw [Zya (by rw [hk];exact hm)]
  congr 1
  have:=get_flatK f k l.toArray t (by simpa using ht)
  rw [getElem!_pos _ t (by simpa using ht)] at this
  rw [this]
  simp [hd,hm,hk]
 ·rw [Zzb (by simp;omega),show ((l.flatMap f).toArray)[t]?=(l.flatMap f)[t]? from by simp,Zyw (by omega)]
section
variable {E:Env}
theorem Zpr {α:Type} [Inhabited α] (pv:α->List PV) (k:Nat) (hk:∀x,(pv x).length=k) (h0:0<k) (hfl:∀x,∀p∈pv x,p.flat1=true) {f g:FuncId} (he:ZaJ E.P f) {bx:List (Option (List SV))} {tk:List (Nat × TypeId)} {ax:Ax} {id n cap:Nat} {zs d:List α} {rest:List SV}
  (hc:bx[id]?=some (some ((zs.flatMap pv).map SV.val++rest))) (hd:d.length=zs.length)
  (h:∀(w:World) (b:Nat),HoldsK (Zbj pv) k w b 0 zs.toArray->b<w.heap.size->n<=cap->cap<=maxLen ->
   Calls E.P f #[.slice (some ⟨b,0,none⟩) n cap,.func (.func g) #[] #[]] w λ e w'=>e=.returned (.tuple #[])/\∃q os,w'=sortWorldK (Zbj pv) k w b 0 q d.toArray os) :
  ZV E f [.row id 0 k n cap,.val (.fn g [])] bx tk ax λ r bx' tk' ax'=>r=.val (.tup [])/\bx'=bx.set id (some ((d.flatMap pv).map SV.val++rest))/\tk'=tk/\ax'=ax:=by
 have hkv:∀x,(Zbj pv x).length=k:=λ x=>by simp [Zbj,hk]
 have hlen:∀l:List α,(l.flatMap pv).length=l.length*k:=λ l=>by
  induction l with
  | nil=>simp
  | cons x l ih=>rw [ZyW,Zyg,ih,hk,ZyM,Zzi,Z0h,Zz2]
 have hmv:∀l:List α,l.flatMap (Zbj pv)=(l.flatMap pv).map PV.toVal1:=λ l=>by
  rw [List.map_flatMap];rfl
 have hflat:∀(l:List α) (j:Nat) (p:PV),(l.flatMap pv)[j]?=some p->p.flat1=true:=λ l j p hj=>by
  obtain ⟨x,_,hx⟩:=List.mem_flatMap.1 (Zyb hj)
  exact hfl x p hx
 refine ⟨he,λ B S0 w0 G S w vs hI hw hl hvs=>?_⟩
 match vs,hl with
 | [v,u],_ =>
  obtain ⟨b,hb,rfl,hcap,hmax⟩:=hvs 0 _ v rfl rfl
  have hu:RV S w (.fn g []) u:=hvs 1 _ u rfl rfl
  have hu':u=.func (.func g) #[] #[]:=by
   cases hu with
   | fn _ _ us hl _=>cases us with
    | nil=>rfl
    | cons _ _=>cases hl
  subst hu'
  obtain ⟨⟨t,arr,hh,hsz,hcells⟩,hS⟩:=hI.box id b _ hc hb
  have hval:∀j,j<zs.length*k->arr[j]?=((zs.flatMap pv).map PV.toVal1)[j]?:=λ j hj=>by
   have hj':j<(zs.flatMap pv).length:=by rw [hlen];exact hj
   have h1:((zs.flatMap pv).map SV.val++rest)[j]?=some (.val (zs.flatMap pv)[j]):=by
    rw [Zye (by simpa using hj')]
    simp [hj']
   have hjs:j<arr.size:=by rw [hsz,Zyg,Zys];omega
   obtain ⟨h2,_⟩:=hcells j _ arr[j] h1 (by simp [hjs])
   rw [Zyn hjs]
   have h3:RV S w (zs.flatMap pv)[j] arr[j]:=h2
   rw [ZsV (hflat zs j _ (Zya hj')) h3,Zyh,Zya hj',Zy5]
  have hlt:b<w.heap.size:=(hI.old id b hb).2
  have hold:HoldsK (Zbj pv) k w b 0 zs.toArray:=by
   unfold HoldsK
   rw [Zk5 (Zbj pv) k hkv h0,hmv]
   intro j hj
   have hj':j<zs.length*k:=by rw [<-hlen];simpa using hj
   refine ⟨?_,by simp [World.frozen?,hh]⟩
   simp only [World.cell?,hh,ZyK]
   simp only [Option.isSome_none,Zzf,if_false]
   rw [hval j hj']
   have hj2:j<((zs.flatMap pv).map PV.toVal1).length:=by simpa using hj
   rw [Zya hj2,getElem!_pos _ j hj]
   rfl
  refine (h w b hold hlt hcap hmax).mono ?_
  rintro e w' ⟨rfl,q,os,rfl⟩
  have hD:Go.Sort.flatK (Zbj pv) k d.toArray=((d.flatMap pv).map PV.toVal1).toArray:=by rw [Zk5 (Zbj pv) k hkv h0,hmv]
  have hW:sortWorldK (Zbj pv) k w b 0 q d.toArray os=grow (putRow _root_.id (Sort.ahead w q) b 0 ((d.flatMap pv).map PV.toVal1).toArray) os:=by
   unfold sortWorldK putRowK;rw [hD]
  rw [hW]
  have hg:w.grownBy (grow (putRow _root_.id (Sort.ahead w q) b 0 ((d.flatMap pv).map PV.toVal1).toArray) os) (some b):=by
   refine ⟨rfl,rfl,rfl,by simp,λ i hi hne=>?_⟩
   rw [heap_grow_old _ _ (by simpa using hi)]
   have:b≠i:=λ e=>hne (by rw [e])
   simp [putRow,mapBlock,Sort.ahead,Z0n,this]
  have hh':(grow (putRow _root_.id (Sort.ahead w q) b 0 ((d.flatMap pv).map PV.toVal1).toArray) os).heap[b]?=some (.cells (putCells _root_.id 0 ((d.flatMap pv).map PV.toVal1).toArray arr) t (0,0)):=by
   rw [heap_grow_old _ _ (by simpa using hlt)]
   simp [putRow,mapBlock,Sort.ahead,Z0n,hh,onCells]
  have hdl:(d.flatMap pv).length=(zs.flatMap pv).length:=by rw [hlen,hlen,hd]
  have harr:∀(j:Nat) (c:SV) (v:Value),((d.flatMap pv).map SV.val++rest)[j]?=some c->(putCells _root_.id 0 ((d.flatMap pv).map PV.toVal1).toArray arr)[j]?=some v->RSV tk G S w c v/\v.oneCell'=true:=by
   intro j c v h1 h2
   by_cases hj:j<(d.flatMap pv).length
   ·rw [Zye (by simpa using hj)] at h1
    have hja:j<arr.size:=by rw [hsz,Zyg,Zys];omega
    simp only [Zyh,Zya hj,Zy5,Zyu] at h1
    simp only [putCells,Array.getElem?_mapIdx,Zyn hja,Zy5,Zyu] at h2
    rw [if_pos ⟨ZyQ _,by rw [Z07,Zys];omega⟩] at h2
    have h3:v=(d.flatMap pv)[j].toVal1:=by
     rw [<-h2,getElem!_pos _ _ (by simpa using hj)]
     simp
    subst h1;subst h3
    have:=hflat d j _ (Zya hj)
    exact ⟨Zmr this,Zk4 this⟩
   ·rw [Zyd (by simpa using hj)] at h1
    have h3:((zs.flatMap pv).map SV.val++rest)[j]?=some c:=by
     rw [Zyd (by rw [Zys];omega)]
     rw [Zys,<-hdl]
     simpa using h1
    have h4:arr[j]?=some v:=by
     simp only [putCells,Array.getElem?_mapIdx] at h2
     rw [ZyG] at h2
     obtain ⟨x,h5,h6⟩:=h2
     rw [if_neg (by rw [Z07,Zys];omega)] at h6
     rw [h5,h6]
    exact hcells j c v h3 h4
  obtain ⟨k1,k2,k3⟩:=hI.rebox hb hc hh hg (by simp [grow,putRow,mapBlock,Sort.ahead]) hh' (by simp [putCells,hsz,hdl]) harr
  exact ⟨_,.val (.tup []),_,tk,ax,G,S,⟨rfl,rfl,rfl,rfl⟩,rfl,k1,k3 _ hw,k2,RV.tup [] [] rfl (by simp)⟩
theorem Zrn {α:Type} [Inhabited α] {P:Program} {g:FuncId} (pv:α->List PV) (k:Nat) (hfl:∀x,∀p∈pv x,p.flat1=true) (cf:α->α->Int) (hcf:∀x y,Zc P g [.agg (pv x),.agg (pv y)] (.int .i64 (cf x y))) (b off size:Nat) (w:World):CmpLays P g #[] (Zbj pv) k cf b off size w:=by
 intro m os dk hs x y
 have hrv:∀(W:World) (z:α),RV (λ _=>False) W (.agg (pv z)) (.agg (Zbj pv z).toArray):=λ W z =>
  RV.agg (pv z) (Zbj pv z) (by simp [Zbj]) λ i c v h1 h2=>by
   simp only [Zbj,Zyh,h1,Zy5,Zyu] at h2
   rw [<-h2]
   exact Zmr (hfl z c (Zyb h1))
 generalize sortWorldK (Zbj pv) k w b off m dk os=W
 have h:=(hcf x y).2 (λ _=>False) W [.agg (Zbj pv x).toArray,.agg (Zbj pv y).toArray] (λ _ h=>h.elim) (RVs.cons (hrv W x) (RVs.cons (hrv W y) RVs.nil))
 refine Calls.mono (show Calls P g #[.agg (Zbj pv x).toArray,.agg (Zbj pv y).toArray] W _ from h) ?_
 rintro e w' ⟨v,rfl,hb,hv⟩
 cases hv
 exact ⟨rfl,hb.grown_⟩
end
def Y6 {α:Type} (pv:α->List PV) (b:List α) (junk:List (List PV)):List SV:=((b.map pv++junk).flatten).map SV.val
def ZvH {α:Type} (pv:α->List PV) (m:Nat) (b:List α) (rs:List (Option (List SV))) (j cap:Nat):Prop :=
 ∃junk:List (List PV),rs[j]?=some (some (Y6 pv b junk))/\(∀q∈junk,q.length=m)/\b.length+junk.length=cap/\cap<=maxLen
def Zn3 {α:Type} (pv:α->List PV) (m:Nat) (k0:Nat) (b:List α) (rs:List (Option (List SV))) (arg:SV):Prop :=
 (b=[]/\arg=.lit 0 [])\/b≠[]/\∃j cap,arg=.row (k0+j) 0 m b.length cap/\ZvH pv m b rs j cap
theorem Zfz {m:Nat}:∀{l:List (List PV)},(∀q∈l,q.length=m)->l.flatten.length=l.length*m
 | [],_=>by simp
 | q::l,h=>by
  rw [ZzL,Zyg,Zfz (λ x hx=>h x (by simp [hx])),h q (by simp),ZyM,Zzi,Z0h,Zz2]
theorem Zil {α:Type} {pv:α->List PV} {m:Nat} (hm:∀x,(pv x).length=m) (l:List α):(l.flatMap pv).length=l.length*m:=by
 rw [List.flatMap_def,Zfz (λ q hq=>by obtain ⟨x,_,rfl⟩:=Zyz.1 hq;exact hm x),Zys]
theorem Yp {α:Type} (pv:α->List PV) (b:List α) (junk:List (List PV)):Y6 pv b junk=(b.flatMap pv).map SV.val++(junk.flatten).map SV.val:=by
 unfold Y6
 rw [List.flatten_append,ZyX,List.flatMap_def]
theorem Zgn {α:Type} (pv:α->List PV) (b:List α) (x:α) (junk:List (List PV)):Y6 pv (b++[x]) junk=(b.flatMap pv).map SV.val++((pv x).map SV.val++(junk.flatten).map SV.val):=by
 rw [Yp,Zza,ZyX,Zy9]
 simp
theorem Zh4 {α:Type} (pv:α->List PV) (b:List α) (junk:List (List PV)):Y6 pv b junk=(((b.map pv++junk).map PV.agg).flatMap PV.cells).map SV.val:=by
 unfold Y6
 rw [List.flatMap_map]
 congr 1
 rw [List.flatMap_def]
 congr 1
 exact (List.map_id' _).symm
theorem Zk6 (n m:Nat):List.replicate (n*m) (SV.val .any)=(((List.replicate n (List.replicate m PV.any)).flatten).map SV.val):=by
 rw [List.flatten_replicate_replicate,List.map_replicate]
theorem Zxn {E:Env} {A:Ops} (hA:A=Ze E) {α:Type} {pv:α->List PV} {m:Nat} {ts e:TypeId} (hk:(E.T ts).k=.slice e) (hs:(E.T e).size=m) (hz:(E.T e).zero.length=m) (h0:0<m) (hby:(E.T e).bytes+1<=10000000) (hm:∀x,(pv x).length=m)
  {b:List α} {arg:SV} {rs:List (Option (List SV))} {bx0:List (Option (List SV))} {k0:Nat} (hbx:bx0.length=k0) (harg:Zn3 pv m k0 b rs arg) (hb:b.length<=10000000) (x:α) (sl:List SV) (tk:List (Nat × TypeId)) (ax:Ax) (K:SV->St->Prop)
  (hK:∀(j cap:Nat) (rs':List (Option (List SV))),ZvH pv m (b++[x]) rs' j cap->K (.row (k0+j) 0 m (b.length+1) cap) ⟨sl,bx0++rs',tk,ax⟩) :
  A.appR [ts,ts] [arg,.lit m [.agg (pv x)]] ⟨sl,bx0++rs,tk,ax⟩ K:=by
 refine Zer hA ?_
 unfold Zcq
 simp only [hk,SV.elems,hs]
 refine ⟨trivial,trivial,by simp,h0,hz,?_⟩
 have hbig:(b.length+1)*((E.T e).bytes+1)<=140737488355328:=by
  refine Zy1 (Z0E (Nat.succ_le_succ hb) hby) (by decide)
 have hpx:[PV.agg (pv x)].flatMap PV.cells=pv x:=by simp [PV.cells]
 have hfresh:∀(cap:Nat),b.length+1<=cap->cap<=maxLen->K (.row (bx0++rs).length 0 m (b.length+1) cap) ⟨sl,bx0++(rs++[some ((b.flatMap pv).map SV.val++((pv x).map SV.val++List.replicate ((cap - (b.length+1))*m) (.val .any)))]),tk,ax⟩:=by
  intro cap hc1 hc2
  rw [Zyg,hbx,Zk6,<-Zgn]
  exact hK _ cap _ ⟨List.replicate (cap - (b.length+1)) (List.replicate m .any),by simp,λ q hq=>by rw [(ZzG.1 hq).2,Z0p],by simp;omega,hc2⟩
 rcases harg with ⟨rfl,rfl⟩ | ⟨_,j,cap,rfl,junk,h3,h4,h5,h6⟩
 ·refine ⟨.inr rfl,by simpa using hbig,λ cap hc1 hc2=>?_⟩
  have:=hfresh cap (by simpa using hc1) hc2
  simp only [St.newBx,Z03,Zz3,ZyK,Zyt,hpx,List.flatMap_nil,ZzW,ZyX,Zy9] at this ⊢
  exact this
 ·have hlen:(Y6 pv b junk).length=cap*m:=by
   rw [Yp,Zyg,Zys,Zys,Zil hm,Zfz h4,<-Zzi,h5]
  have htake:(Y6 pv b junk).take (b.length*m)=(b.flatMap pv).map SV.val:=by
   rw [Yp]
   exact Zzx (by rw [Zys,Zil hm])
  refine ⟨rfl,by simpa using hbig,Y6 pv b junk,?_,by rw [hlen];omega,λ hin=>?_,λ hout cap' hc1 hc2=>?_⟩
  ·show (bx0++rs).getD (k0+j) none=some (Y6 pv b junk)
   rw [Zyj,Zyd (by omega)]
   simp [hbx,h3]
  ·simp only [Zyt] at hin
   obtain ⟨q,junk',rfl⟩:∃q junk',junk=q::junk':=by
    cases junk with
    | nil=>simp at h5;omega
    | cons q r=>exact ⟨q,r,rfl⟩
   have hdrop:(Y6 pv b (q::junk')).drop (b.length*m+m)=(junk'.flatten).map SV.val:=by
    rw [Yp,ZzL,ZyX,<-Zy9]
    exact List.drop_left' (by rw [Zyg,Zys,Zys,Zil hm,h4 q (by simp)])
   have e:(St.mk sl (bx0++rs) tk ax).setBx (k0+j) (some ((Y6 pv b (q::junk')).take (0+b.length*m)++(([PV.agg (pv x)].flatMap PV.cells).map SV.val++(Y6 pv b (q::junk')).drop (0+b.length*m+[PV.agg (pv x)].length*m))))=⟨sl,bx0++rs.set j (some (Y6 pv (b++[x]) junk')),tk,ax⟩:=by
    simp only [St.setBx,St.mk.injEq,true_and,and_true,hpx,ZyK,Zyt,Z0h]
    rw [ZyT _ _ (by omega),htake,hdrop,Zgn]
    simp [hbx]
   rw [e]
   have hjl:j<rs.length:=(ZxZ.1 h3).1
   exact hK j cap _ ⟨junk',Zzc hjl,λ q hq=>h4 q (by simp [hq]),by simp at h5 ⊢;omega,h6⟩
  ·simp only [Zyt] at hout hc1 ⊢
   have:=hfresh cap' hc1 hc2
   simp only [St.newBx,List.drop_zero,hpx,Zy9,htake] at this ⊢
   exact this
def Got {α:Type} (cs:List α) (k:Nat) (b:List α):Prop :=
 k<2 ^ cs.length/\b.Nodup/\(∀c∈b,c∈cs)/\∀(i:Nat) (c:α),cs[i]?=some c->(k.testBit i=true↔c∈b)
theorem Got.nil {α:Type} (cs:List α):Got cs 0 []:=⟨Nat.two_pow_pos _,Z0C,by simp,by simp⟩
theorem Got.next {α:Type} {cs:List α} {en:α->List PV} {k k':Nat} {b:List α} {x:List PV} (hn:cs.Nodup) (h:Got cs k b) (hx:ZmB true (cs.map en) k x k'):∃c,x=en c/\c∈cs/\c∉b/\Got cs k' (b++[c]):=by
 obtain ⟨h1,h2,h3,h4⟩:=h
 obtain ⟨_,i,k1,k2,rfl⟩:=hx
 rw [Zyh,ZyG] at k1
 obtain ⟨c,hc,rfl⟩:=k1
 have hil:=(ZxZ.1 hc).1
 have hcb:c∉b:=λ h=>by rw [(h4 i c hc).2 h] at k2;cases k2
 refine ⟨c,rfl,Zyb hc,hcb,ZzX h1 (Z0v (by decide) hil),?_,λ d hd=>?_,λ j d hd=>?_⟩
 ·rw [ZzA]
  exact ⟨h2,by simp,λ a ha b hb=>by simp at hb;subst hb;intro e;subst e;exact hcb ha⟩
 ·rcases Zy4.1 hd with h | h
  ·exact h3 d h
  ·simp at h;subst h;exact Zyb hc
 ·rw [Z0d,Z0a,Zy4,Zy3,Zzd,h4 j d hd,Zyf]
  refine or_congr Iff.rfl ⟨λ e=>?_,λ e=>?_⟩
  ·subst e;exact Zyc (hd.symm.trans hc)
  ·subst e;exact (ZzM hil hn).1 (hc.trans hd.symm)
theorem Got.fin {α:Type} {cs:List α} {en:α->List PV} {k:Nat} {b:List α} (hn:cs.Nodup) (h:Got cs k b) (hx:Ziz true (cs.map en) k):b.Perm cs:=by
 obtain ⟨h1,h2,h3,h4⟩:=h
 have hk:k=2 ^ cs.length - 1:=by
  have hx:k+1=2 ^ (cs.map en).length:=hx
  rw [Zys] at hx
  omega
 have hall:∀c∈cs,c∈b:=λ c hc=>by
  obtain ⟨i,hi⟩:=ZyF hc
  refine (h4 i c hi).1 ?_
  rw [hk,Z0m]
  exact Zyq (ZxZ.1 hi).1
 classical
 exact (List.perm_ext_iff_of_nodup h2 hn).2 λ c=>⟨h3 c,hall c⟩
theorem ZcO {α:Type} {r:α->α->Prop} (has:∀x y,r x y->r y x->x=y):∀{l l':List α},l.Perm l'->l.Pairwise r->l'.Pairwise r->l=l'
 | [],l',h,_,_=>(List.nil_perm.1 h).symm
 | x::l,l',h,h1,h2=>by
  match l',h with
  | [],h=>exact absurd h (by simp)
  | y::l',h =>
   have hxy:x=y:=by
    have m1:x∈y::l':=h.subset (by simp)
    have m2:y∈x::l:=h.symm.subset (by simp)
    rcases ZyJ.1 m1 with e | e
    ·exact e
    ·rcases ZyJ.1 m2 with e' | e'
     ·exact e'.symm
     ·exact has _ _ ((ZzI.1 h1).1 y e') ((ZzI.1 h2).1 x e)
   subst hxy
   rw [ZcO has (List.Perm.cons_inv h) (ZzI.1 h1).2 (ZzI.1 h2).2]
open Go.Sort
def ZM (a b:Cell):Prop:=Y5 a.Airport<Y5 b.Airport\/(Y5 a.Airport=Y5 b.Airport/\(a.Index<b.Index\/(a.Index=b.Index/\a.Minute<b.Minute)))
theorem ZsW {a b:Bool} (h:Y5 a=Y5 b):a=b:=by
 cases a<;>cases b<;>simp [Y5] at h<;>rfl
theorem Zps {a b:Cell} (h1:Y5 a.Airport=Y5 b.Airport) (h2:a.Index=b.Index) (h3:a.Minute=b.Minute):a=b:=by
 cases a;cases b;cases ZsW h1;cases h2;cases h3;rfl
theorem Zh5 (a b:Cell):Zfy a b=if Y5 a.Airport<Y5 b.Airport then -1 else if Y5 b.Airport<Y5 a.Airport then 1 else if a.Index<b.Index then -1 else if b.Index<a.Index then 1 else if a.Minute<b.Minute then -1 else if b.Minute<a.Minute then 1 else 0:=by
 unfold Zfy Zcs
 simp only [orI]
 repeat' split
 all_goals first | rfl | omega | simp_all
theorem Zpt (a b:Cell):Zfy a b<0↔ZM a b:=by
 rw [Zh5]
 unfold ZM
 repeat' split
 all_goals omega
theorem ZbZ (a:Cell):¬ZM a a:=by unfold ZM;omega
theorem Ze6 {a b c:Cell} (h:ZM a b) (k:ZM b c):ZM a c:=by unfold ZM at *;omega
theorem Ze7 {a b:Cell} (h:ZM a b) (k:ZM b a):False:=ZbZ a (Ze6 h k)
theorem ZcP (a b:Cell):ZM a b\/a=b\/ZM b a:=by
 by_cases h:ZM a b
 ·exact .inl h
 by_cases k:ZM b a
 ·exact .inr (.inr k)
 refine .inr (.inl ?_)
 unfold ZM at h k
 exact Zps (by omega) (by omega) (by omega)
theorem ZrP (a b:Cell):Go.Proofs.ltOf Zfy a b=true↔ZM a b:=by
 unfold Go.Proofs.ltOf
 rw [Zyf,Zpt]
theorem ZcB (a b:Cell):Go.Proofs.ltOf Zfy a b=false↔¬ZM a b:=by
 rw [<-ZrP];simp
theorem ZxH:SWO (Go.Proofs.ltOf Zfy) where
 irrefl x:=by rw [ZcB];exact ZbZ x
 trans x y z h k:=by rw [ZrP] at *;exact Ze6 h k
 ntrans x y z h k:=by
  rw [ZcB] at *
  unfold ZM at *
  omega
theorem ZvI (x y:Cell) (h:Go.Proofs.ltOf Zfy x y=false) (k:Go.Proofs.ltOf Zfy y x=false):x=y:=by
 rw [ZcB] at *
 rcases ZcP x y with e | e | e
 ·exact absurd e h
 ·exact e
 ·exact absurd e k
def YE (l:List Cell):List Cell:=l.mergeSort λ x y=>!(Go.Proofs.ltOf Zfy) y x
theorem Yj (l:List Cell):(YE l).Perm l:=List.mergeSort_perm _ _
theorem Zk7 (l:List Cell):(YE l).Pairwise λ x y=>¬ZM y x:=by
 have:=List.pairwise_mergeSort (le:=λ x y=>!(Go.Proofs.ltOf Zfy) y x) (λ a b c h k=>by
  simp only [Zzt,ZcB] at *
  unfold ZM at *
  omega) (λ a b=>by
  simp only [Zzd,Zzt,ZcB]
  rcases ZcP a b with h | h | h
  ·exact .inl λ k=>Ze7 h k
  ·subst h;exact .inl (ZbZ _)
  ·exact .inr λ k=>Ze7 h k) l
 exact this.imp λ h=>by simpa [ZcB] using h
theorem ZiM {l l':List Cell} (h:l.Perm l'):YE l=YE l':=by
 refine ZcO (r:=λ x y=>¬ZM y x) (λ x y h k=>?_) (((Yj l).trans h).trans (Yj l').symm) (Zk7 l) (Zk7 l')
 rcases ZcP x y with e | e | e
 ·exact absurd e k
 ·exact e
 ·exact absurd e h
theorem Zf0 {l l':List Cell} (h:l.Perm l') (hs:l'.Pairwise ZM):YE l=l':=by
 refine ZcO (r:=λ x y=>¬ZM y x) (λ x y h k=>?_) ((Yj l).trans h) (Zk7 l) (hs.imp λ h k=>Ze7 h k)
 rcases ZcP x y with e | e | e
 ·exact absurd e k
 ·exact e
 ·exact absurd e h
open Go.Lib Go.Shelf Go.Sort
def Zpu:Ren:=⟨λ x=>if x=6 then 89 else if x=14 then 159 else if x=15 then 160 else if x=20 then 218 else if x=21 then 219 else if x=22 then 220 else if x=23 then 221 else if x=24 then 222 else if x=25 then 223 else if x=26 then 224 else if x=27 then 225 else if x=28 then 226 else if x=29 then 227 else if x=46 then 271 else if x=47 then 272 else if x=48 then 273 else if x=49 then 274 else if x=50 then 275 else 293,λ x=>if x=0 then 0 else if x=3 then 3 else if x=4 then 4 else if x=5 then 5 else if x=9 then 9 else if x=22 then 104 else if x=24 then 87 else if x=25 then 107 else if x=39 then 36 else if x=45 then 299 else if x=46 then 300 else if x=50 then 88 else if x=53 then 95 else if x=55 then 307 else if x=66 then 342 else if x=70 then 346 else if x=76 then 361 else 362,id⟩
theorem ZiN:SlLaysF0.n6 Tryz.prog Zpu where
 mixed:=by kernel_rfl
 f6:=⟨"slices.SortFunc[[]overflight/api.Cell,overflight/api.Cell]",rfl,by kernel_rfl⟩
 f14:=⟨"slices.pdqsortCmpFunc[overflight/api.Cell]",rfl,by kernel_rfl⟩
 f15:=by kernel_rfl
 f20:=⟨"slices.insertionSortCmpFunc[overflight/api.Cell]",rfl,by kernel_rfl⟩
 f21:=⟨"slices.heapSortCmpFunc[overflight/api.Cell]",rfl,by kernel_rfl⟩
 f22:=⟨"slices.breakPatternsCmpFunc[overflight/api.Cell]",rfl,by kernel_rfl⟩
 f23:=⟨"slices.choosePivotCmpFunc[overflight/api.Cell]",rfl,by kernel_rfl⟩
 f24:=⟨"slices.reverseRangeCmpFunc[overflight/api.Cell]",rfl,by kernel_rfl⟩
 f25:=⟨"slices.partialInsertionSortCmpFunc[overflight/api.Cell]",rfl,by kernel_rfl⟩
 f26:=⟨"slices.partitionEqualCmpFunc[overflight/api.Cell]",rfl,by kernel_rfl⟩
 f27:=⟨"slices.partitionCmpFunc[overflight/api.Cell]",rfl,by kernel_rfl⟩
 f28:=by kernel_rfl
 f29:=by kernel_rfl
 f46:=⟨"slices.siftDownCmpFunc[overflight/api.Cell]",rfl,by kernel_rfl⟩
 f47:=by kernel_rfl
 f48:=by kernel_rfl
 f49:=⟨"slices.medianAdjacentCmpFunc[overflight/api.Cell]",rfl,by kernel_rfl⟩
 f50:=⟨"slices.medianCmpFunc[overflight/api.Cell]",rfl,by kernel_rfl⟩
 f57:=⟨"slices.order2CmpFunc[overflight/api.Cell]",rfl,by kernel_rfl⟩
 t0:=Tryz.underlying0
 a0:=Tryz.isAgg0
 z0:=Tryz.sizeOf0
 v0:=Tryz.zeroValue0
 t3:=Tryz.underlying3
 a3:=Tryz.isAgg3
 z3:=Tryz.sizeOf3
 v3:=Tryz.zeroValue3
 t4:=Tryz.underlying4
 a4:=Tryz.isAgg4
 z4:=Tryz.sizeOf4
 v4:=Tryz.zeroValue4
 t5:=Tryz.underlying5
 a5:=Tryz.isAgg5
 z5:=Tryz.sizeOf5
 v5:=Tryz.zeroValue5
 t9:=Tryz.underlying9
 a9:=Tryz.isAgg9
 z9:=Tryz.sizeOf9
 v9:=Tryz.zeroValue9
 t22:=Tryz.underlying104
 a22:=Tryz.isAgg104
 z22:=Tryz.sizeOf104
 v22:=Tryz.zeroValue104
 t25:=Tryz.underlying107
 a25:=Tryz.isAgg107
 z25:=Tryz.sizeOf107
 v25:=Tryz.zeroValue107
 t39:=Tryz.underlying36
 a39:=Tryz.isAgg36
 z39:=Tryz.sizeOf36
 v39:=Tryz.zeroValue36
 t45:=Tryz.underlying299
 a45:=Tryz.isAgg299
 z45:=Tryz.sizeOf299
 v45:=Tryz.zeroValue299
 t46:=Tryz.underlying300
 a46:=Tryz.isAgg300
 z46:=Tryz.sizeOf300
 v46:=Tryz.zeroValue300
 t50:=Tryz.underlying88
 a50:=Tryz.isAgg88
 z50:=Tryz.sizeOf88
 v50:=Tryz.zeroValue88
 t53:=Tryz.underlying95
 a53:=Tryz.isAgg95
 z53:=Tryz.sizeOf95
 v53:=Tryz.zeroValue95
 t55:=Tryz.underlying307
 a55:=Tryz.isAgg307
 z55:=Tryz.sizeOf307
 v55:=Tryz.zeroValue307
 t66:=Tryz.underlying342
 a66:=Tryz.isAgg342
 z66:=Tryz.sizeOf342
 v66:=Tryz.zeroValue342
 t70:=Tryz.underlying346
 a70:=Tryz.isAgg346
 z70:=Tryz.sizeOf346
 v70:=Tryz.zeroValue346
 t76:=Tryz.underlying361
 a76:=Tryz.isAgg361
 z76:=Tryz.sizeOf361
 v76:=Tryz.zeroValue361
 t77:=Tryz.underlying362
 a77:=Tryz.isAgg362
 z77:=Tryz.sizeOf362
 v77:=Tryz.zeroValue362
instance:Inhabited Cell:=⟨⟨false,0,0⟩⟩
def pvC (c:Cell):List PV:=[.bool c.Airport,.int .i64 c.Index,.int .i64 c.Minute]
theorem Zgo {rows:Bool} {clo:FuncId->Bool} {Y:YS} {bx:List (Option (List SV))} {tk:List (Nat × TypeId)} {ax:Ax} {id n cap:Nat} {zs:List Cell} {rest:List SV} (hc:bx[id]?=some (some ((zs.flatMap pvC).map SV.val++rest))) (hn:n=zs.length) (hz:zs.length<4611686018427387904) :
  ZV ⟨Tryz.prog,tab,clo,rows,Y⟩ 89 [.row id 0 3 n cap,.val (.fn 35 [])] bx tk ax
   λ r bx' tk' ax'=>r=.val (.tup [])/\bx'=bx.set id (some (((YE zs).flatMap pvC).map SV.val++rest))/\tk'=tk/\ax'=ax:=by
 subst hn
 have hfl:∀x,∀p∈pvC x,p.flat1=true:=λ x p hp=>by
  simp only [pvC,ZyJ,List.not_mem_nil,or_false] at hp
  rcases hp with rfl | rfl | rfl<;>rfl
 refine Zpr (E:=⟨Tryz.prog,tab,clo,rows,Y⟩) pvC 3 (λ _=>rfl) (by decide) hfl (enters_of Tryz.func89 (by kernel_rfl) rfl) hc ((Yj zs).length_eq) λ w b hH hb hcap hmax=>?_
 have h:=AnyQ.slices_SortFunc_total ZiN 3 Tryz.isAgg87 Tryz.sizeOf87 (Zbj pvC) (λ _=>rfl) (λ x v hv=>by
  obtain ⟨p,hp,rfl⟩:=Zyz.1 hv
  exact Zk4 (hfl x p hp)) Zfy ZxH 35 #[] b 0 cap zs.toArray w (enters_of Tryz.func35 (by kernel_rfl) rfl) (Zrn pvC 3 hfl Zfy (λ x y=>Zrl x y) b 0 zs.toArray.size w) hH hb (by simpa using hz) ZvI
 refine Calls.mono (show Calls Tryz.prog 89 _ w _ from h) ?_
 rintro e w' ⟨rfl,q,os,rfl⟩
 exact ⟨rfl,q,os,rfl⟩
theorem Zgp {m:Nat} {g:FuncId}:Zc Tryz.prog 89 [.list m [],.fn g []] (.tup []):=by
 refine ⟨enters_of Tryz.func89 (by kernel_rfl) rfl,λ S w vs hS hv=>?_⟩
 obtain ⟨hl,hv⟩:=hv
 match vs,hl with
 | [u,f],_ =>
  have h0:RV S w (.list m []) u:=hv 0 _ u rfl rfl
  obtain ⟨a,ad,cap,g',rfl,_⟩:=RV.slice_iff h0
  refine (AnyF.slices_SortFunc_none ZiN a cap f w).mono ?_
  rintro e w' ⟨rfl,rfl⟩
  exact ⟨_,rfl,Below.refl _ _,RV.tup [] [] rfl (by simp)⟩
theorem ZsX (ks vs:List PV):Zc Tryz.prog 270 [.map ks vs] (.fn 292 [.ptr [.map ks vs] 0]):=by
 refine Zb (clo:=λ _=>false) (rows:=false) Zg Tryz.func270 rfl (enters_of Tryz.func270 (by kernel_rfl) rfl) (λ A q P Y hr hA hq=>?_)
 conv=>cbv
 rw [<-hq]
theorem Zu2 (cs:List Cell) (vs:List PV) (hn:cs.Nodup) (hl:cs.length=vs.length) {ks:List PV} (hks:ks=cs.map Zu) :
  ZkY Tryz.prog 292 [.ptr [.map ks vs] 0] (cs.map λ c=>[Zu c]) true:=by
 refine Zss (clo:=λ _=>false) (rows:=false) Zg Tryz.func292 rfl (enters_of Tryz.func292 (by kernel_rfl) rfl) rfl (λ A P Y Y' y R hr hys hy hA hR=>?_)
 have hyl:Y.ys.length=cs.length:=by rw [hys];simp
 obtain ⟨es,hes⟩:∃es,es=A.eZip ks vs:=⟨_,rfl⟩
 conv=>cbv
 refine Zi hA (λ (z:List PV × Nat) s=>{ s with ax:=⟨[.iter none (A.eZip ks vs) z.1 none],z.2⟩ })
  (λ z=>∃left:List Cell,z.1=left.map Zu/\left.Nodup/\(∀c∈left,c∈cs)/\(∀(i:Nat) (c:Cell),cs[i]?=some c->z.2.testBit i=!decide (c∈left))/\z.2<2 ^ cs.length) (λ z=>z.1.length) (ks,0) ?_ ?_ ?_
 ·conv=>cbv
  exact Zk
 ·exact ⟨cs,hks,hn,λ _ h=>h,λ i c h=>by simp [Zyb h],Nat.two_pow_pos _⟩
 rintro R2 ⟨lf,k⟩ ⟨left,hl1,hl2,hl3,hl4,hl5⟩ hR2
 simp only at hl1 hl4 hl5
 conv=>cbv
 refine ZhW hA (λ h0=>?_) (λ q w hq hqv=>?_)
 ·conv=>cbv
  refine hR _ (.inl ?_)
  have hl0:left=[]:=List.map_eq_nil_iff.1 (hl1.symm.trans h0)
  have e:k=2 ^ cs.length - 1:=by
   refine Z0x λ i=>?_
   rw [Z0m]
   rcases Zy6 i cs.length with h | h
   ·rw [hl4 i _ (Zya h),hl0,Zyq h];simp
   ·rw [Zyr (by omega)]
    exact Nat.testBit_lt_two_pow (Zy7 hl5 (Nat.pow_le_pow_right (by decide) h))
  show k+1=2 ^ _
  rw [Zys]
  have:=Nat.two_pow_pos cs.length
  omega
 ·rw [hl1] at hq
  obtain ⟨c,hc,hcq⟩:=Zyz.1 hq
  subst hcq
  obtain ⟨i,hi⟩:=ZyF (hl3 c hc)
  have hb:k.testBit i=false:=by rw [hl4 i c hi,Zyq hc];rfl
  have hyi:Y.ys[i]?=some [Zu c]:=by rw [hys,Zyh,hi];rfl
  have hil:=(ZxZ.1 hi).1
  obtain ⟨k1,k2,k3⟩:=c
  have hdr:A.lDrop lf (.agg [.bool k1,.int .i64 k2,.int .i64 k3])=(left.filter λ d=>!decide ((⟨k1,k2,k3⟩:Cell)=d)).map Zu:=by
   subst hA
   rw [hl1]
   show (left.map Zu).filter (λ y=>!keq (Zu ⟨k1,k2,k3⟩) y)=_
   rw [List.filter_map]
   simp only [Zzu,QJ]
  have hlk:QG (A.eZip ks vs) (Zu ⟨k1,k2,k3⟩)=some w:=by
   subst hA
   refine (ZbR (es:=ks.zip vs) ?_ rfl).2 hqv
   unfold ZhM
   rw [show (ks.zip vs).map (·.1)=ks from List.map_fst_zip (by rw [hks,Zys];omega),hks]
   exact List.Pairwise.map _ (λ a b h e=>h (by have:=QJ a b;rw [e,ZdI rfl] at this;simpa using this)) hn
  conv=>cbv
  refine ZhV hA hlk ?_
  conv=>cbv
  refine Zvt hA rfl hy i (by rw [hyl];exact hl5) hyi hb (λ n hn'=>?_) (λ n hn'=>?_)
  ·conv=>cbv
   split
   ·rename_i hc
    cases (nT hA hc)
   conv=>cbv
   refine hR2 (A.lDrop lf (.agg [.bool k1,.int .i64 k2,.int .i64 k3]),n) _ ?_ ?_ ?_
   ·(conv=>cbv)
    exact Wk.trans _ _ _ (Wk.forgetMp _ _ _ _ [.iter none (A.eZip ks vs) (A.lDrop lf (.agg [.bool k1,.int .i64 k2,.int .i64 k3])) none] _ ⟨⟨rfl,rfl,rfl,.inl rfl⟩,trivial⟩) (Zt (bx:=[]) (bx':=[_]) (mp:=[_]) (mp':=[]) (by repeat (first | refine Zv ?_ | refine ZH ?_ | exact Z9)) (by simp) (.inl rfl) rfl rfl)
   ·refine ⟨left.filter λ d=>!decide ((⟨k1,k2,k3⟩:Cell)=d),hdr,hl2.filter _,λ c h=>hl3 c (ZyB.1 h).1,λ j d hd=>?_,?_⟩
    ·show n.testBit j=_
     rw [hn',Z0d,Z0a]
     rw [hl4 j d hd]
     by_cases e:i=j
     ·subst e
      have:d=⟨k1,k2,k3⟩:=Zyc (hd.symm.trans hi)
      subst this
      simp
     ·have e2:(⟨k1,k2,k3⟩:Cell)≠d:=λ h=>e ((ZzM hil hn).1 (hi.trans (by rw [h,<-hd])))
      simp [e,e2]
    ·show n < _
     rw [hn']
     exact ZzX hl5 (Z0v (by decide) hil)
   ·show (A.lDrop lf _).length<lf.length
    rw [hdr,hl1,Zys,Zys]
    exact Zz9.2 ⟨_,hc,by simp⟩
  ·conv=>cbv
   split
   ·conv=>cbv
    refine hR _ (.inr ?_)
    show n=_
    rw [hn',hyl,Zys]
   ·rename_i hc
    cases nF hA hc
def ZiO (n:Nat):Bool:=n == 10000000 || n == 5000000+291 || n == 5000000+305
theorem Zn3.more {α:Type} {pv:α->List PV} {m k0:Nat} {b:List α} {rs:List (Option (List SV))} {arg:SV} (h:Zn3 pv m k0 b rs arg) (ex:List (Option (List SV))):Zn3 pv m k0 b (rs++ex) arg:=by
 rcases h with h | ⟨h0,j,cap,h1,junk,h2,h3⟩
 ·exact .inl h
 ·exact .inr ⟨h0,j,cap,h1,junk,by rw [Zye (ZxZ.1 h2).1,h2],h3⟩
theorem Zro {f:FuncId} {caps:List PV} (cs:List Cell) (hn:cs.Nodup) (hlen:cs.length<=10000000) (hseq:ZkY Tryz.prog f caps (cs.map λ c=>[Zu c]) true) :
  ZV ⟨Tryz.prog,tab,ZiO,true,.none⟩ 305 [.lit 0 [],.val (.fn f caps)] [] [] ⟨[],0⟩
   (λ r bx' tk' ax'=>∃b,tk'=[]/\ax'=⟨[],0⟩/\b.Perm cs/\Zn3 pvC 3 0 b bx' r):=by
 refine YH (clo:=ZiO) (rows:=true) Zg Tryz.func305 rfl (enters_of Tryz.func305 (by kernel_rfl) rfl) (by intro h;rfl) (λ A P' Y' nb R hA hnb hR=>?_)
 conv=>cbv
 refine Zsv hA ⟨by trivial,?_⟩
 conv=>cbv
 refine ZjV hA hseq (λ x hx=>?_) (λ (y:List (Option (List SV))) s=>{ s with bx:=y }) (λ k y=>∃b arg rs,y=some [arg]::rs/\Got cs k b/\Zn3 pvC 3 1 b rs arg) [some [.lit 0 []]] ?_ ?_ ?_ ?_ ?_
 ·obtain ⟨y,_,rfl⟩:=Zyz.1 hx;rfl
 ·exact λ y=>rfl
 ·exact Wk.refl _
 ·exact ⟨[],_,_,rfl,Got.nil _,.inl ⟨rfl,rfl⟩⟩
 ·rintro R2 k k1 B x hk ⟨b,arg,rs,hB,hgot,harg⟩ hR2
  obtain ⟨c,rfl,hc,hcb,hgot1⟩:=hgot.next hn hk
  have hbl:b.length<=10000000:=Zy1 (hgot.2.1.length_le_of_subset hgot.2.2.1) hlen
  have hap:=λ ex sl K=>Zxn (E:=⟨Tryz.prog,tab,ZiO,true,.none⟩) hA (pv:=pvC) (m:=3) (ts:=104) (e:=87) rfl rfl rfl (by decide) (by decide) (λ _=>rfl) (bx0:=[some [arg]]) (k0:=1) rfl (harg.more ex) hbl c sl [] ⟨[],0⟩ K
  have hone:arg.one=true:=by
   rcases harg with ⟨_,rfl⟩ | ⟨_,_,_,rfl,_⟩<;>rfl
  have hpv:pvC c=[.bool c.Airport,.int .i64 c.Index,.int .i64 c.Minute]:=rfl
  obtain ⟨ca,ci,cm⟩:=c
  conv=>cbv
  refine ZgA hA (z:=[.bool false,.int .i64 0,.int .i64 0]) rfl rfl (by decide) (λ n B1 hn1 hB1=>?_)
  simp only at hn1 hB1
  have hn2:n=1+rs.length:=by rw [hn1,hB];simp;omega
  conv=>cbv
  have h1:B1[n]?=some (some [.val (.bool false),.val (.int .i64 0),.val (.int .i64 0)]):=by
   rw [hB1,hn1,Zyd (Zyp _),Zzw];rfl
  refine ZfJ hA h1 rfl rfl rfl (Zyp 3) (λ B2 hB2=>?_)
  have hB2':B2=[some [arg]]++(rs++[some [.val (.bool ca),.val (.int .i64 ci),.val (.int .i64 cm)]]):=by
   rw [hB2,hB1,hB,hn1,hB]
   simp
  conv=>cbv
  refine ZhU hA (cs:=[arg]) (c:=arg) (by rw [hB2'];rfl) rfl rfl rfl ?_
  conv=>cbv
  refine Zjo hA (cs:=[.val (.bool ca),.val (.int .i64 ci),.val (.int .i64 cm)]) (by rw [hB2',hn2,Zyd (by simp),Zyd (by simp)];simp) rfl rfl (Zyp 3) ?_
  conv=>cbv
  have hap1:=hap [some [.val (.bool ca),.val (.int .i64 ci),.val (.int .i64 cm)]]
  rw [<-hB2'] at hap1
  refine hap1 _ _ (λ j cap rs' hrow=>?_)
  obtain ⟨B3,hB3⟩:∃B3,B3=[some [arg]]++rs':=⟨_,rfl⟩
  obtain ⟨id,hid⟩:∃id,id=1+j:=⟨_,rfl⟩
  obtain ⟨nn,hnn⟩:∃nn,nn=b.length+1:=⟨_,rfl⟩
  rw [<-hB3,<-hid,<-hnn]
  conv=>cbv
  refine Zw1 hA (cs:=[arg]) (by rw [hB3];rfl) rfl rfl rfl Nat.zero_lt_one (λ B4 hB4=>?_)
  conv=>cbv
  refine hR2 B4 _ (Wk.refl _) ⟨_,.row id 0 3 nn cap,rs',by rw [hB4,hB3];rfl,hgot1,.inr ⟨by simp,j,cap,?_,hrow⟩⟩
  rw [hid,hnn];simp
 ·rintro k B hfin ⟨b,arg,rs,hB,hgot,harg⟩
  have hperm:=hgot.fin hn hfin
  conv=>cbv
  refine ZhU hA (cs:=[arg]) (c:=arg) (by rw [hB];rfl) rfl rfl rfl ?_
  rcases harg with ⟨hb,rfl⟩ | ⟨hb0,j,cap,harg,hrow⟩
  ·conv=>cbv
   exact hR _ ⟨_,.lit 0 [],Wk.refl _,.inr (.inl ⟨4,rfl,rfl⟩),b,rfl,rfl,hperm,.inl ⟨hb,rfl⟩⟩
  ·obtain ⟨id,hid⟩:∃id,id=1+j:=⟨_,rfl⟩
   obtain ⟨n,hn⟩:∃n,n=b.length:=⟨_,rfl⟩
   rw [<-hid,<-hn] at harg
   subst harg
   conv=>cbv
   refine hR _ ⟨_,.row id 0 3 n cap,Wk.refl _,.inr (.inl ⟨4,rfl,rfl⟩),b,rfl,rfl,hperm,.inr ⟨hb0,j+1,cap,?_,?_⟩⟩
   ·rw [hid,hn,show 1+j=0+(j+1) by omega]
   ·obtain ⟨junk,h1,h2⟩:=hrow
    exact ⟨junk,by rw [hB];exact h1,h2⟩
theorem Zpv {f:FuncId} {caps:List PV} (cs:List Cell) (hn:cs.Nodup) (hlen:cs.length<=10000000) (hseq:ZkY Tryz.prog f caps (cs.map λ c=>[Zu c]) true) :
  ZV ⟨Tryz.prog,tab,ZiO,true,.none⟩ 291 [.val (.fn f caps)] [] [] ⟨[],0⟩
   (λ r bx' tk' ax'=>∃b,tk'=[]/\ax'=⟨[],0⟩/\b.Perm cs/\Zn3 pvC 3 0 b bx' r):=by
 refine YH (clo:=ZiO) (rows:=true) Zg Tryz.func291 rfl (enters_of Tryz.func291 (by kernel_rfl) rfl) (by intro h;rfl) (λ A P' Y' nb R hA hnb hR=>?_)
 conv=>cbv
 refine Qg hA (Zro cs hn hlen hseq) (λ r bx' tk' ax' h=>?_)
 obtain ⟨b,rfl,rfl,hperm,harg⟩:=h
 have h2:Zn3 pvC 3 0 b bx' r:=harg
 rcases harg with ⟨hb,rfl⟩ | ⟨hb0,j,cap,harg,hrow⟩
 ·conv=>cbv
  exact hR _ ⟨_,.lit 0 [],Wk.refl _,.inr (.inl ⟨2,rfl,rfl⟩),b,rfl,rfl,hperm,h2⟩
 ·obtain ⟨id,hid⟩:∃id,id=0+j:=⟨_,rfl⟩
  obtain ⟨n,hn⟩:∃n,n=b.length:=⟨_,rfl⟩
  rw [<-hid,<-hn] at harg
  subst harg
  conv=>cbv
  exact hR _ ⟨_,.row id 0 3 n cap,Wk.refl _,.inr (.inl ⟨2,rfl,rfl⟩),b,rfl,rfl,hperm,h2⟩
theorem Zc.nilm {P:Program} {f:FuncId} {args:List PV} {m m':Nat} (h:Zc P f args (.list m [])) (h0:m'=0->m=0:=by intro h;first | rfl | cases h):Zc P f args (.list m' []):=by
 refine ⟨h.1,λ S w vs hS hv=>(h.2 S w vs hS hv).mono ?_⟩
 rintro e w' ⟨v,rfl,hb,hr⟩
 refine ⟨v,rfl,hb,?_⟩
 obtain ⟨a,ad,cap,g,rfl,h1,h2,h3,h4,h5,h6⟩:=RV.slice_iff hr
 exact RV.list_nil m' a cap h3 (λ e=>RV.nilz hr (h0 e))
set_option maxRecDepth 4000 in
theorem Zpw {f:FuncId} {caps:List PV} (cs:List Cell) (hn:cs.Nodup) (hlen:cs.length<=10000000) (hseq:ZkY Tryz.prog f caps (cs.map λ c=>[Zu c]) true) :
  Zc Tryz.prog 269 [.fn f caps,.fn 35 []] (.list 3 (Z6 (YE cs))):=by
 by_cases h0:cs=[]
 ·subst h0
  rw [show Z6 (YE [])=[] by simp [Z6,YE]]
  refine Zc.nilm (m:=0) ?_
  refine Zb (clo:=ZiO) (rows:=true) Zg Tryz.func269 rfl (enters_of Tryz.func269 (by kernel_rfl) rfl) (λ A q P Y hr hA hq=>?_)
  conv=>cbv
  refine Qg hA (Zpv [] hn hlen hseq) (λ r bx' tk' ax' h=>?_)
  obtain ⟨b,rfl,rfl,hperm,harg⟩:=h
  have hb:=hperm.eq_nil
  subst hb
  rcases harg with ⟨_,rfl⟩ | ⟨hb0,j,cap,harg,hrow⟩
  ·conv=>cbv
   refine Za hA Zgp ?_
   conv=>cbv
   exact ⟨_,Frz.refl _ _,by (conv=>cbv);exact hq⟩
  ·exact absurd rfl hb0
 refine Zb (clo:=ZiO) (rows:=true) Zg Tryz.func269 rfl (enters_of Tryz.func269 (by kernel_rfl) rfl) (λ A q P Y hr hA hq=>?_)
 conv=>cbv
 refine Qg hA (Zpv cs hn hlen hseq) (λ r bx' tk' ax' h=>?_)
 obtain ⟨b,rfl,rfl,hperm,harg⟩:=h
 rcases harg with ⟨hb,rfl⟩ | ⟨hb0,j,cap,harg,hrow⟩
 ·subst hb
  exact absurd hperm.nil_eq.symm h0
 ·obtain ⟨id,hid⟩:∃id,id=0+j:=⟨_,rfl⟩
  obtain ⟨n,hn'⟩:∃n,n=b.length:=⟨_,rfl⟩
  rw [<-hid,<-hn'] at harg
  subst harg
  obtain ⟨junk,h1,h2,h3,h4⟩:=hrow
  have hc:bx'[id]?=some (some ((b.flatMap pvC).map SV.val++(junk.flatten).map SV.val)):=by
   rw [hid,ZyK,h1,Yp]
  have hbl:b.length<4611686018427387904:=by have:=hperm.length_eq;omega
  have hs:=Zgo (rows:=true) (clo:=ZiO) (Y:=.none) (tk:=[]) (ax:=⟨[],0⟩) (cap:=cap) hc hn' hbl
  conv=>cbv
  refine Qg hA hs (λ r bx2 tk2 ax2 h=>?_)
  obtain ⟨rfl,hbx2,rfl,rfl⟩:=h
  conv=>cbv
  have hget:bx2[id]?=some (some (Y6 pvC (YE b) junk)):=by
   rw [hbx2,Zzc (ZxZ.1 hc).1,Yp]
  have hx:Zcw id 3 (((YE b).map pvC++junk).map PV.agg) (.row id 0 3 n cap)=.val (.list 3 (Z6 (YE cs))):=by
   unfold Zcw
   have hsl:(YE b).length=b.length:=(Yj b).length_eq
   simp only
   rw [if_pos ⟨trivial,trivial,trivial,by simp;omega⟩,ZyX,Zzx (by simp;omega),ZiM hperm,Zz8]
   rfl
  generalize Z6 (YE cs)=zs at hx hq
  refine ⟨_,Frz.row id 3 _ (((YE b).map pvC++junk).map PV.agg) _ _ _ _ (by rw [Zyj,hget];rfl) (Zh4 _ _ _) (λ x hx=>?_) (Frz.refl _ _),?_⟩
  ·obtain ⟨y,hy,rfl⟩:=Zyz.1 hx
   rcases Zy4.1 hy with h | h
   ·obtain ⟨z,_,rfl⟩:=Zyz.1 h;rfl
   ·exact h2 y h
  ·simp only [St.sealRow,Zzl,ZzW,hx]
   (conv=>cbv)
   exact hq
def ZrQ (es:List (Cell × Int)):List Use:=(YE (es.map (·.1))).map λ c=>⟨c,(QA es c).getD 0⟩
set_option maxHeartbeats 4000000 in
theorem ZsY (es:List (Cell × Int)) (hn:Zda es) (hlen:es.length<=10000000) {ks vs xs:List PV} (hks:ks=Zh3 es) (hvs:vs=ZiL es) (hxs:xs=ZP (ZrQ es)) :
  Zc Tryz.prog 217 [.map ks vs] (.list 4 xs):=by
 refine Zb (clo:=λ _=>false) (rows:=false) Zg Tryz.func217 rfl (enters_of Tryz.func217 (by kernel_rfl) rfl) (λ A q P Y hr hA hq=>?_)
 have hkl:ks.length=vs.length:=by rw [hks,hvs];simp [Zh3,ZiL]
 have hks':ks=(es.map (·.1)).map Zu:=by rw [hks];simp [Zh3]
 have hs:=Zpw (es.map λ p:Cell × Int=>p.1) hn (by simpa using hlen) (Zu2 (es.map λ p:Cell × Int=>p.1) vs hn (by rw [<-hkl,hks'];simp) hks')
 obtain ⟨L,hL⟩:∃L,L=YE (es.map (·.1)):=⟨_,rfl⟩
 have hLl:L.length=es.length:=by rw [hL,(Yj _).length_eq,Zys]
 have hxs':xs=ZP (L.map λ c=>⟨c,(QA es c).getD 0⟩):=by rw [hxs,hL];rfl
 rw [<-hL] at hs
 obtain ⟨ys,hys⟩:∃ys,ys=Z6 L:=⟨_,rfl⟩
 rw [<-hys] at hs
 have hyl:ys.length=L.length:=by rw [hys];simp [Z6]
 conv=>cbv
 refine Za hA (ZsX ks vs) ?_
 conv=>cbv
 refine Za hA hs ?_
 conv=>cbv
 refine Zi hA (λ (z:Int × List PV) s=>{ (s.put (some 9) (.val (.int .i64 z.1))).put (some 2) (.own 0 4 z.2) with tk:=[(A.nLen z.2,100)] })
  (λ z=>0<=z.1/\z.1<=L.length/\z.2=ZP ((L.take z.1.toNat).map λ c=>⟨c,(QA es c).getD 0⟩)) (λ z=>(L.length - z.1).toNat) (0,[]) ?_ ?_ ?_
 ·conv=>cbv
  exact ZaM 2 0 4 [] _ rfl (.inr rfl) (by repeat (first | refine Zv ?_ | refine ZH ?_ | exact Z9)) (by subst hA;rfl)
 ·exact ⟨Zyk _,by omega,rfl⟩
 ·rintro R ⟨i,U⟩ ⟨hi0,hi1,hU⟩ hR
  simp only at hi0 hi1 hU
  conv=>cbv
  split
  ·rename_i hc
   have hi:i<L.length:=ZE hA rfl (Zl hA hyl) hc
   have his:A.iAdd i 1=i+1:=Z5 hA _ _
   have hir:A.inR (A.iAdd i 1):=Zy hA his (by unfold Zj;omega)
   conv=>cbv
   refine Zfx hA hys hi0 hi (λ c hc=>?_)
   have htake:=Zo hi0 hc
   obtain ⟨o,ho⟩:∃o,o=(QA es c).getD 0:=⟨_,rfl⟩
   have hkk:Yu true [.bool,.int,.int] (ks.zip vs) (Zu c):=by rw [hks,hvs,<-Zk3];exact Zb2 _ _
   have hlk:(QG (ks.zip vs) (Zu c)).getD (.int .i64 0)=.int .i64 o:=by
    rw [hks,hvs,<-Zk3,Zb1 QJ,ho]
    cases QA es c<;>rfl
   have hnext:A.lApp U [.agg [.bool c.Airport,.int .i64 c.Index,.int .i64 c.Minute,.int .i64 o]]=ZP ((L.take (i+1).toNat).map λ c=>⟨c,(QA es c).getD 0⟩):=by
    rw [htake]
    subst hA hU
    show ZP _++_=_
    simp [ZP,Znz,ho]
   have hUl:U.length=i.toNat:=by rw [hU];simp [ZP];omega
   have hroom:A.room (A.nLen (A.lApp U [.agg [.bool c.Airport,.int .i64 c.Index,.int .i64 c.Minute,.int .i64 o]])) 32:=by
    subst hA
    show (U++[_]).length*(32+1)<=140737488355328
    rw [Zyg,Zyt]
    omega
   have htk:A.tkEq (A.nLen U) (A.nLen U):=by subst hA;rfl
   obtain ⟨c1,c2,c3⟩:=c
   simp only at hnext hroom
   have hkk2:Yu true [.bool,.int,.int] (A.eZip ks vs) (.agg [.bool c1,.int .i64 c2,.int .i64 c3]):=by subst hA;exact hkk
   have hlk2:(QG (A.eZip ks vs) (.agg [.bool c1,.int .i64 c2,.int .i64 c3])).getD (.int .i64 0)=.int .i64 o:=by subst hA;exact hlk
   conv=>cbv
   refine ⟨Zm hA (by kernel_rfl),?_⟩
   refine ⟨Q1 hA hkk2,Yv hA hlk2 rfl ?_⟩
   conv=>cbv
   refine ⟨⟨htk,hroom⟩,hir,hR (A.iAdd i 1,A.lApp U [.agg [.bool c1,.int .i64 c2,.int .i64 c3,.int .i64 o]]) _ ?_ ?_ ?_⟩
   ·(conv=>cbv)
    exact Zt (bx:=[]) (bx':=[_]) (mp:=[]) (mp':=[]) 
   ·rw [his];exact ⟨by omega,by omega,hnext⟩
   ·rw [his];simp only;omega
  ·rename_i hc
   have hi:L.length<=i:=ZK hA rfl (Zl hA hyl) hc
   conv=>cbv
   rw [Zyl (by omega),<-hxs'] at hU
   rw [<-hq,hU]
def Q4 (t:Zh) (cl:Int):Int:=match t.Kinds[cl.toNat]? with | some k=>k.Places | none=>0
def Zbs (css:List (List Cell)) (many:Int):List Cell:=YE (css.flatten.eraseDups.filter λ c=>decide (many<=(ZaW css c:Int)))
def Yk (css:List (List Cell)) (many pl:Int):List Use:=(Zbs css many).map λ c=>⟨c,pl⟩
def Zct (t:Zh) (s:List Zr) (cl:Int) (l:List Qo) (many:Int):PV :=
 if Ql t s cl l≠0 then .tup [.list 0 [],.int .i64 (Ql t s cl l)] else .tup [.list 4 (ZP (Yk (l.map (ZG t s)) many (Q4 t cl))),.int .i64 0]
def ZrR (es:List (Cell × Int)) (css:List (List Cell)) (many pl:Int):Prop:=Zda es/\∀c,QA es c=if many<=(ZaW css c:Int)/\ZaW css c≠0 then some pl else none
theorem ZaA {α:Type} [BEq α] [LawfulBEq α]:∀(n:Nat) (l:List α),l.length<=n->l.eraseDups.Nodup
 | 0,l,h=>by
  have h0:l=[]:=Zyy (Nat.le_zero.1 h)
  subst h0;simp
 | n+1,[],_=>by simp
 | n+1,x::l,h=>by
  rw [List.eraseDups_cons,Z01]
  refine ⟨λ hm=>?_,ZaA n _ (Zy1 (ZyH _ _) (by simp at h;omega))⟩
  rw [Z06,ZyB] at hm
  simp at hm
theorem Zf1 {css:List (List Cell)} {c:Cell}:ZaW css c≠0↔c∈css.flatten:=by
 unfold ZaW
 rw [<-Nat.pos_iff_ne_zero,List.length_filter_pos_iff]
 simp only [Zyf,Z0G]
theorem Zpx {es:List (Cell × Int)} {css:List (List Cell)} {many pl:Int} (h:ZrR es css many pl):ZrQ es=Yk css many pl:=by
 unfold ZrQ Yk Zbs
 have hmem:∀c,c∈es.map (·.1)↔many<=(ZaW css c:Int)/\ZaW css c≠0:=λ c=>by
  rw [<-ZbD]
  have h1:=h.2 c
  constructor
  ·intro h2
   by_cases h3:many<=(ZaW css c:Int)/\ZaW css c≠0
   ·exact h3
   ·rw [if_neg h3] at h1
    rw [QF.1 h1] at h2;cases h2
  ·intro h3
   rw [if_pos h3] at h1
   cases h4:Zbr es c with
   | true=>rfl
   | false=>rw [QF.2 h4] at h1;cases h1
 have hperm:(es.map λ p:Cell × Int=>p.1).Perm (css.flatten.eraseDups.filter λ c=>decide (many<=(ZaW css c:Int))):=by
  refine (List.perm_ext_iff_of_nodup h.1 (Z04 Z0b (ZaA _ _ (Zyp _)))).2 λ c=>?_
  rw [hmem c,ZyB,Z06,Zyf,Zf1,and_comm]
 rw [ZiM hperm]
 refine Zzr λ c hc=>?_
 have h1:c∈es.map λ p:Cell × Int=>p.1:=hperm.mem_iff.2 ((Yj _).mem_iff.1 hc)
 rw [h.2 c,if_pos ((hmem c).1 h1)]
 rfl
def Zxo (n:Nat):Bool:=n == 9000000 || n == 1000009 || n == 3000908 || n == 5000000+216 || n == 5000000+217
theorem ZsZ {es:List (Cell × Int)} {c d:Cell}:QA (ZsN es c) d=if d=c then none else QA es d:=by
 unfold QA ZsN
 by_cases h:d=c
 ·subst h
  rw [if_pos rfl]
  simp only [List.find?_filter,Z0g,Z0i]
  intro p _
  simp
 ·rw [if_neg h]
  congr 1
  rw [List.find?_filter]
  congr 1
  funext p
  by_cases e:d=p.1
  ·subst e;simp [Z0B h]
  ·simp [e]
theorem Zgq {t:Zh} {s:List Zr} {p:Qo} (h:QB t p=0):(ZG t s p).length<=14400:=by
 have h1:=Ze2 h
 unfold ZG cellsOf
 have h2:∀x:Zes,(Yi t s x).length<=1440:=λ x=>by
  unfold Yi
  refine Zy1 (List.length_filterMap_le _ _) ?_
  rw [Zae]
  unfold hiM loM
  omega
 generalize Yo t p=l at h1
 have h3:(l.flatMap (Yi t s)).length<=l.length*1440:=by
  clear h1
  induction l with
  | nil=>simp
  | cons x l ih=>rw [ZyW,Zyg,ZyM];have:=h2 x;omega
 omega
theorem Zim {t:Zh}:∀{l:List Qo},Zas t l=0->∀p∈l,QB t p=0
 | [],_,p,hp=>by cases hp
 | x::l,h,p,hp=>by
  unfold Zas at h
  split at h
  ·rename_i h1
   rcases ZyJ.1 hp with rfl | h2
   ·exact h1
   ·exact Zim h p h2
  ·rename_i h1;exact absurd h h1
theorem Zn4 {t:Zh} {s:List Zr} {cl:Int} {l:List Qo} (h:Ql t s cl l=0):(l.map (ZG t s)).flatten.length<=14400*l.length:=by
 have h1:Zas t l=0:=by
  unfold Ql at h
  split at h
  ·rename_i h1;exact absurd h h1
  ·split at h
   ·cases h
   ·exact h
 have h2:=Zim h1
 clear h h1
 induction l with
 | nil=>simp
 | cons x l ih =>
  rw [Zzl,ZzL,Zyg,ZyM]
  have h3:=ih λ p hp=>h2 p (by simp [hp])
  have h4:=Zgq (s:=s) (h2 x (by simp))
  omega
set_option maxRecDepth 40000 in
set_option maxHeartbeats 4000000 in
theorem Zu3 (t:Zh) (s:List Zr) (cl:Int) (l:List Qo) (many:Int) {xs:List PV} (hx:xs=ZJ l) (hlen:l.length<=150) :
  Zc Tryz.prog 158 [Zn t,ZD s,.int .i64 cl,.list 2 xs,.int .i64 many] (Zct t s cl l many):=by
 refine Zb (clo:=Zxo) (rows:=true) Zg Tryz.func158 rfl (enters_of Tryz.func158 (by kernel_rfl) rfl) (λ A q P Y hr hA hq=>?_)
 have hct:=λ c0 c1 h0 h1=>ZV.flags (clo':=Zxo) (rows':=true) (Zrm t s cl l c0 c1 h0 h1 hx (by omega))
 unfold Zct at hq
 unfold Zxm at hct
 obtain ⟨css,hcss⟩:∃css,css=l.map (ZG t s):=⟨_,rfl⟩
 rw [<-hcss] at hq hct
 have hclk:Ql t s cl l=0->0<=cl/\cl<t.Kinds.length:=λ h=>by
  unfold Ql at h
  split at h
  ·rename_i h1;exact absurd h h1
  ·split at h
   ·cases h
   ·omega
 have hcl:Ql t s cl l=0->css.flatten.length<=14400*l.length:=λ h=>by rw [hcss];exact Zn4 h
 generalize Ql t s cl l=e at hq hct hclk hcl
 have hsort:=λ es h1 h2=>ZsY es h1 h2 (ks:=Zh3 es) (vs:=ZiL es) (xs:=ZP (ZrQ es)) rfl rfl rfl
 have hpl:∀k,t.Kinds[cl.toNat]?=some k->Q4 t cl=k.Places:=λ k h=>by unfold Q4;rw [h]
 generalize Q4 t cl=pl at hq hpl
 obtain ⟨ss,cs,ws,ms,ks,nv,hss,hcs,hws,hms,hks,hnv,htab⟩:=Qd t
 rw [htab] at hct ⊢
 have hkl:ks.length=t.Kinds.length:=by rw [hks];simp [ZY]
 obtain ⟨sc,hsc⟩:∃sc,sc=Zz s:=⟨_,rfl⟩
 rw [ZB hsc] at hct ⊢
 have hct:=hct [.val (.int .i64 nv),.val (.list 5 ss),.val (.list 3 cs),.val (.list 3 ws),.val (.list 1 ms),.val (.list 6 ks)] [.val (.list 3 sc)] (by simp) (by simp)
 conv=>cbv
 refine Qg hA hct (λ r bx' tk' ax' h=>?_)
 obtain ⟨rfl,rfl,h⟩:=h
 rcases h with ⟨he,rfl,rfl⟩ | ⟨he,rfl,es0,hes0,rfl⟩
 ·rw [if_pos he] at hq
  conv=>cbv
  split
  ·conv=>cbv
   exact ⟨_,Frz.refl _ _,by (conv=>cbv);exact hq⟩
  ·rename_i hc
   exact absurd (neF hA hc) he
 rw [if_neg (by simp [he])] at hq
 subst he
 obtain ⟨hcl0,hcl1⟩:=hclk rfl
 have hcl:=hcl rfl
 clear hclk
 obtain ⟨m,hm⟩:∃m,m=YT Zu Z7 es0:=⟨_,rfl⟩
 rw [<-hm]
 conv=>cbv
 split
 ·rename_i hc
  cases ((neT hA hc rfl))
 conv=>cbv
 refine Zi hA (λ (z:List PV × List (PV × PV)) s=>{ s with ax:=⟨[.ents z.2 none,.iter (some 0) [] z.1 none],s.ax.yk⟩ })
  (λ z=>∃(left:List Cell) (es:List (Cell × Int)),z.1=left.map Zu/\left.Nodup/\(∀c∈left,ZaW css c≠0)/\z.2=YT Zu Z7 es/\Zda es/\∀c,QA es c=if c∈left then Zn2 (ZaW css c) else if many<=(ZaW css c:Int)/\ZaW css c≠0 then some pl else none)
  (λ z=>z.1.length) (A.eKeys m,m) ?_ ?_ ?_
 ·conv=>cbv
  exact Zk
 ·refine ⟨es0.map λ p:Cell × Int=>p.1,es0,?_,hes0.1,λ c h=>?_,hm,hes0.1,λ c=>?_⟩
  ·show A.eKeys m=_
   subst hA
   rw [hm]
   show (YT Zu _ es0).map (·.1)=_
   unfold YT
   rw [Zz8,Zz8]
   rfl
  ·intro h0
   have h1:=hes0.2 c
   rw [h0] at h1
   have h2:=QF.1 h1
   rw [ZbD.2 h] at h2;cases h2
  ·split
   ·exact hes0.2 c
   ·rename_i h1
    have h2:QA es0 c=none:=QF.2 (by
     cases h:Zbr es0 c with
     | false=>rfl
     | true=>exact absurd (ZbD.1 h) h1)
    have h3:=hes0.2 c
    rw [h2] at h3
    unfold Zn2 at h3
    split at h3
    ·rename_i h4
     rw [h2,if_neg (by simp [h4])]
    ·cases h3
 rintro R3 ⟨lf,m2⟩ ⟨left,es,hl1,hl2,hl3,hl4,hl5,hl6⟩ hR3
 simp only at hl1 hl4
 conv=>cbv
 refine ZhW hA (λ h0=>?_) (λ k w hk hkv=>?_)
 ·have hl0:left=[]:=List.map_eq_nil_iff.1 (hl1.symm.trans h0)
  have hLO:ZrR es css many pl:=⟨hl5,λ c=>by rw [hl6 c,hl0];simp⟩
  have hel:es.length<=10000000:=by
   have h1:(es.map λ p:Cell × Int=>p.1).length<=css.flatten.length:=List.Nodup.length_le_of_subset hl5 λ c hc=>by
    obtain ⟨v,hv⟩:∃v,QA es c=some v:=by
     cases h:QA es c with
     | some v=>exact ⟨v,rfl⟩
     | none=>have:=QF.1 h;rw [ZbD.2 hc] at this;cases this
    rw [hLO.2 c] at hv
    split at hv
    ·rename_i h;exact Zf1.1 h.2
    ·cases hv
   rw [Zys] at h1
   omega
  conv=>cbv
  refine ZfI hA (Frz.map 0 m2 none (Zh3 es) (ZiL es) _ _ _ _ rfl (by rw [hl4,Zk3]) (by simp [Zh3,ZiL]) (Frz.refl _ _)) rfl (hsort es hl5 hel) ?_
  rw [Zpx hLO]
  generalize ZP (Yk css many pl)=us at hq
  generalize Zh3 es=kk
  generalize ZiL es=vv
  conv=>cbv
  exact ⟨_,Frz.refl _ _,by (conv=>cbv);exact hq⟩
 ·rw [hl1] at hk
  obtain ⟨c,hcl,hck2⟩:=Zyz.1 hk
  subst hck2
  obtain ⟨k1,k2,k3⟩:=c
  obtain ⟨o,ho⟩:∃o:Int,o=(ZaW css ⟨k1,k2,k3⟩:Nat):=⟨_,rfl⟩
  have hlk:QG m2 (Zu ⟨k1,k2,k3⟩)=some (.int .i64 o):=by
   rw [hl4,Zb1 QJ,hl6,if_pos hcl]
   unfold Zn2
   rw [if_neg (hl3 _ hcl),ho]
   rfl
  conv=>cbv
  refine ZhV hA (v:=.int .i64 o) hlk ?_
  conv=>cbv
  have hdr:A.lDrop lf (.agg [.bool k1,.int .i64 k2,.int .i64 k3])=(left.filter λ d=>!decide ((⟨k1,k2,k3⟩:Cell)=d)).map Zu:=by
   subst hA
   rw [hl1]
   show (left.map Zu).filter (λ y=>!keq (Zu ⟨k1,k2,k3⟩) y)=_
   rw [List.filter_map]
   simp only [Zzu,QJ]
  have hkk:Yu true [.bool,.int,.int] m2 (.agg [.bool k1,.int .i64 k2,.int .i64 k3]):=by rw [hl4];exact Zb2 es ⟨k1,k2,k3⟩
  split
  ·rename_i hc
   have hc:=ltT hA hc
   conv=>cbv
   refine ⟨Q1 hA hkk,hR3 (A.lDrop (A.lDrop lf (.agg [.bool k1,.int .i64 k2,.int .i64 k3])) (.agg [.bool k1,.int .i64 k2,.int .i64 k3]),A.eDel m2 (.agg [.bool k1,.int .i64 k2,.int .i64 k3])) _ ?_ ?_ ?_⟩
   ·(conv=>cbv)
    exact Wk.trans _ _ _ (Wk.forgetMp _ _ _ _ [.ents (A.eDel m2 (.agg [.bool k1,.int .i64 k2,.int .i64 k3])) none,.iter (some 0) [] (A.lDrop (A.lDrop lf (.agg [.bool k1,.int .i64 k2,.int .i64 k3])) (.agg [.bool k1,.int .i64 k2,.int .i64 k3])) none] _ ⟨⟨List.Perm.refl _,.inl rfl⟩,⟨rfl,rfl,rfl,.inl rfl⟩,trivial⟩) (Zt (bx:=[_,_]) (bx':=[_]) (mp:=[_,_]) (mp':=[]) )
   ·refine ⟨left.filter λ d=>!decide ((⟨k1,k2,k3⟩:Cell)=d),ZsN es ⟨k1,k2,k3⟩,?_,hl2.filter _,λ c h=>hl3 c (ZyB.1 h).1,?_,hl5.del _,λ d=>?_⟩
    ·show A.lDrop (A.lDrop lf _) _=_
     rw [hdr]
     subst hA
     show (List.map Zu _).filter (λ y=>!keq (Zu ⟨k1,k2,k3⟩) y)=_
     rw [List.filter_map,List.filter_filter]
     simp only [Zzu,QJ,Bool.and_self]
    ·show A.eDel m2 _=_
     subst hA
     rw [hl4]
     exact Zuw QJ es ⟨k1,k2,k3⟩
    ·rw [ZsZ]
     by_cases e:d=⟨k1,k2,k3⟩
     ·subst e
      rw [if_pos rfl,if_neg (by simp),if_neg (by omega)]
     ·rw [if_neg e,hl6]
      have:(d∈left.filter λ d=>!decide ((⟨k1,k2,k3⟩:Cell)=d))↔d∈left:=by simp [Z0B e]
      simp only [this]
   ·show (A.lDrop (A.lDrop lf _) _).length<lf.length
    refine Nat.lt_of_le_of_lt (m:=(A.lDrop lf (.agg [.bool k1,.int .i64 k2,.int .i64 k3])).length) ?_ ?_
    ·subst hA;exact ZyH _ _
    ·rw [hdr,hl1,Zys,Zys]
     exact Zz9.2 ⟨_,hcl,by simp⟩
  ·rename_i hc
   have hc:=ltF hA hc
   conv=>cbv
   refine ⟨ZlV hA (by kernel_rfl),?_⟩
   refine Q6 hA hks hcl0 hcl1 (λ kd kv hkd hkv=>?_)
   have hplk:=hpl kd hkd
   obtain ⟨kd1,kd2,kd3,kd4,kd5,kd6⟩:=kd
   simp only at hplk
   subst hplk
   have hhas:A.eHas m2 (.agg [.bool k1,.int .i64 k2,.int .i64 k3]):=by
    subst hA
    show ZeS m2 (Zu ⟨k1,k2,k3⟩)=true
    rw [hl4,Zkz QJ]
    cases h:Zbr es ⟨k1,k2,k3⟩ with
    | true=>rfl
    | false =>
     have h1:=hl6 ⟨k1,k2,k3⟩
     rw [QF.2 h,if_pos hcl] at h1
     unfold Zn2 at h1
     rw [if_neg (hl3 _ hcl)] at h1
     cases h1
   conv=>cbv
   refine ⟨⟨Q1 hA hkk,hhas⟩,hR3 (A.lDrop lf (.agg [.bool k1,.int .i64 k2,.int .i64 k3]),A.ePut m2 (.agg [.bool k1,.int .i64 k2,.int .i64 k3]) (.int .i64 pl)) _ ?_ ?_ ?_⟩
   ·(conv=>cbv)
    exact Wk.trans _ _ _ (Wk.forgetMp _ _ _ _ [.ents (A.ePut m2 (.agg [.bool k1,.int .i64 k2,.int .i64 k3]) (.int .i64 pl)) none,.iter (some 0) [] (A.lDrop lf (.agg [.bool k1,.int .i64 k2,.int .i64 k3])) none] _ ⟨⟨List.Perm.refl _,.inl rfl⟩,⟨rfl,rfl,rfl,.inl rfl⟩,trivial⟩) (Zt (bx:=[_,_]) (bx':=[_]) (mp:=[_,_]) (mp':=[]) )
   ·refine ⟨left.filter λ d=>!decide ((⟨k1,k2,k3⟩:Cell)=d),ZbC es ⟨k1,k2,k3⟩ pl,hdr,hl2.filter _,λ c h=>hl3 c (ZyB.1 h).1,?_,hl5.put _ _,λ d=>?_⟩
    ·show A.ePut m2 _ _=_
     subst hA
     rw [hl4]
     exact ZdW QJ es ⟨k1,k2,k3⟩ pl
    ·rw [ZcA]
     by_cases e:d=⟨k1,k2,k3⟩
     ·subst e
      rw [if_pos rfl,if_neg (by simp),if_pos ⟨by omega,hl3 _ hcl⟩]
     ·rw [if_neg e,hl6]
      have:(d∈left.filter λ d=>!decide ((⟨k1,k2,k3⟩:Cell)=d))↔d∈left:=by simp [Z0B e]
      simp only [this]
   ·show (A.lDrop lf _).length<lf.length
    rw [hdr,hl1,Zys,Zys]
    exact Zz9.2 ⟨_,hcl,by simp⟩
theorem Zn5 (t:Zh) (s:List Zr) (cl:Int) (l:List Qo) (many:Int):∃(us:Nat × List PV) (e:Int),Zct t s cl l many=.tup [.list us.1 us.2,.int .i64 e]:=by
 unfold Zct
 split
 ·exact ⟨(0,[]),_,rfl⟩
 ·exact ⟨(4,_),_,rfl⟩
theorem ZrS (t:Zh) (s:List Zr) (cl:Int) (l:List Qo) {xs:List PV} (hx:xs=ZJ l) (hlen:l.length<=150) :
  Zc Tryz.prog 88 [Zn t,ZD s,.int .i64 cl,.list 2 xs] (Zct t s cl l 1):=by
 refine Zb (clo:=λ _=>false) (rows:=false) Zg Tryz.func88 rfl (enters_of Tryz.func88 (by kernel_rfl) rfl) (λ A q P Y hr hA hq=>?_)
 have hcall:=Zu3 t s cl l 1 hx hlen
 obtain ⟨⟨m,us⟩,e,hr2⟩:=Zn5 t s cl l 1
 rw [hr2] at hq hcall
 obtain ⟨ss,cs,ws,ms,ks,nv,hss,hcs,hws,hms,hks,hnv,htab⟩:=Qd t
 rw [htab] at hcall ⊢
 obtain ⟨sc,hsc⟩:∃sc,sc=Zz s:=⟨_,rfl⟩
 rw [ZB hsc] at hcall ⊢
 conv=>cbv
 refine Za hA hcall ?_
 conv=>cbv
 exact hq
structure Q8 where
 Delay:Int
 Cost:Int
 Changes:Int
 Uses:List Use
deriving DecidableEq
structure Zu4 where
 Flight:Int
 Node:Int
 Leaves:List Int
 Choices:List Q8
deriving DecidableEq
def YJ (c:Q8):PV:=.agg [.int .i64 c.Delay,.int .i64 c.Cost,.int .i64 c.Changes,.list 4 (ZP c.Uses)]
def Qa (l:List Q8):List PV:=l.map YJ
def Zu5 (v:Zu4):PV:=.agg [.int .i64 v.Flight,.int .i64 v.Node,.list 1 (Zd v.Leaves),.list 4 (Qa v.Choices)]
def Zn6 (l:List Zu4):List PV:=l.map Zu5
section
variable {A:Ops} {E:Env}
theorem ZbV (hA:A=Ze E) {l:List Q8} {xs:List PV} (hx:xs=Qa l) {n:Int} {K:List PV->Prop} (h0:0<=n) (h1:n<l.length)
  (hk:∀x v,l[n.toNat]?=some x->v=ZP x.Uses->K [.int .i64 x.Delay,.int .i64 x.Cost,.int .i64 x.Changes,.list 4 v]):A.idx xs n K :=
 Ya hA (l:=l) (enc:=YJ) hx.symm h0 h1 λ x h=>hk x _ h rfl
theorem ZvJ (hA:A=Ze E) {l:List Zu4} {xs:List PV} (hx:xs=Zn6 l) {n:Int} {K:List PV->Prop} (h0:0<=n) (h1:n<l.length)
  (hk:∀x v w,l[n.toNat]?=some x->v=Zd x.Leaves->w=Qa x.Choices->K [.int .i64 x.Flight,.int .i64 x.Node,.list 1 v,.list 4 w]):A.idx xs n K :=
 Ya hA (l:=l) (enc:=Zu5) hx.symm h0 h1 λ x h=>hk x _ _ h rfl rfl
end
theorem ZaX (c:Q8) {us:List PV} (h:us=ZP c.Uses):YJ c=.agg [.int .i64 c.Delay,.int .i64 c.Cost,.int .i64 c.Changes,.list 4 us]:=by rw [h];rfl
def ZaY (k:Y3) (a m:Int):Bool:=match k.Curfews[a.toNat]? with | some l=>Zaj l m | none=>false
def Zak:List Leg->List Int->Bool
 | x::r,a::b::ts=>ZaI x.Minutes ⟨a,b⟩&&Zak r (b::ts)
 | _,_=>true
def Zh6 (k:Y3) (w:Way) (ts:List Int):Bool :=
 decide (ts.getLastD 0<1440)&&!ZaY k w.From (ts.headD 0)&&!ZaY k w.To (ts.getLastD 0)&&Zak w.Legs ts
def ZbF (t:Zh) (k:Y3) (p:Qo):Bool:=match t.Ways[p.Way.toNat]? with | some w=>Zh6 k w p.Times | none=>false
def Zdu (t:Zh) (f:Flight) (o:Opt):Bool:=match t.Kinds[f.Class.toNat]? with | some k=>(ZX t f o).all (ZbF t k) | none=>false
def QP (t:Zh) (f:Flight) (o:Opt):Int :=
 if (ZL t f o).2.2≠0 then (ZL t f o).2.2 else if o.Cancel then 0 else if ZN t f o≠0 then ZN t f o else if Zdu t f o then 0 else 170
def ZZ (t:Zh) (f:Flight):List Opt:=(ZC t f).filter λ o=>decide (QP t f o=0)
def Zh7 (f:Flight) (now:Int) (o:Opt):Bool:=o.Cancel || decide (now<=f.Window.From+o.Delay)
def QM:Opt:=⟨0,0,0,true⟩
def ZbL (t:Zh) (f:Flight) (now:Int):List Opt:=(ZZ t f).filter (Zh7 f now)
def Z1 (t:Zh) (f:Flight) (now:Int):List Opt:=if ZbL t f now=[] then [QM] else ZbL t f now
def Qt (t:Zh) (s:List Zr) (f:Flight):Int:=if Qj t s≠0 then Qj t s else Z8 t f
def Qu (t:Zh) (s:List Zr) (cl:Int) (l:List Qo):List Use:=if Ql t s cl l=0 then Yk (l.map (ZG t s)) 1 (Q4 t cl) else []
def ZaZ (t:Zh) (s:List Zr) (f:Flight) (ann o:Opt):Q8 :=
 ⟨if o.Cancel then 120 else (ZL t f o).1,if o.Cancel then 120*Y4 t f else (ZL t f o).2.1,if o=ann then 0 else 1,if o.Cancel then [] else Qu t s f.Class (ZX t f o)⟩
def Q9 (t:Zh) (s:List Zr) (f:Flight) (now:Int) (ann:Opt):List Q8:=(Z1 t f now).map (ZaZ t s f ann)
def ZcQ (t:Zh) (s:List Zr) (f:Flight) (now:Int) (ann:Opt):PV :=
 if Qt t s f=0 then .tup [.list 4 (Qa (Q9 t s f now ann)),.list 4 (Zq (Z1 t f now)),.int .i64 0] else .tup [.list 0 [],.list 0 [],.int .i64 (Qt t s f)]
def ZbG (t:Zh) (f:Flight) (o:Opt):Int × Int × Int:=if o=QM then (120,120*Y4 t f,0) else ZL t f o
def Zd8 (t:Zh) (s:List Zr) (f:Flight) (o:Opt) (l:List Qo):Int :=
 if Qj t s≠0 then Qj t s else if Z8 t f≠0 then Z8 t f else if (ZbG t f o).2.2≠0 then (ZbG t f o).2.2 else Ql t s f.Class l
def Zk8 (t:Zh) (s:List Zr) (f:Flight) (o:Opt) (l:List Qo):Q8:=⟨(ZbG t f o).1,(ZbG t f o).2.1,0,Qu t s f.Class l⟩
def Zf2 (t:Zh) (s:List Zr) (f:Flight) (o:Opt) (l:List Qo):PV :=
 if Zd8 t s f o l=0 then .tup [YJ (Zk8 t s f o l),.int .i64 0] else .tup [.agg [.int .i64 0,.int .i64 0,.int .i64 0,.list 0 []],.int .i64 (Zd8 t s f o l)]
theorem Zjr {t:Zh} {f:Flight} {o:Opt} {p:Qo} (hp:p∈ZX t f o):ZN t f o=0:=by
 unfold ZX at hp
 split at hp
 ·assumption
 ·cases hp
theorem ZfQ {t:Zh}:∀{l:List Qo},(∀p∈l,QB t p=0)->Zas t l=0
 | [],_=>rfl
 | p::r,h=>by
  unfold Zas
  rw [if_pos (h p (by simp))]
  exact ZfQ λ q hq=>h q (by simp [hq])
theorem Zn7 {t:Zh} {s:List Zr} {f:Flight} {o:Opt} (hc:Qj t s=0) (hf:Z8 t f=0):Ql t s f.Class (ZX t f o)=0:=by
 unfold Ql
 rw [if_neg (by rw [hc];simp)]
 obtain ⟨k,hk,hk0,_⟩:=Qx hf
 rw [if_neg (by have:=(ZxZ.1 hk).1;omega)]
 refine ZfQ λ p hp=>?_
 obtain ⟨w,hw⟩:=ZcL (Zjr hp) hp
 exact hw.err
def Zpy (o:Opt):List SV:=(Z2 o).cells.map SV.val
def Yc (l:List Opt):List SV:=l.flatMap Zpy
theorem Zk9 (o:Opt):(Zpy o).length=4:=rfl
theorem ZdX (o:Opt) (l:List Opt):Yc (o::l)=Zpy o++Yc l:=rfl
theorem Zdv (a b:List Opt):Yc (a++b)=Yc a++Yc b:=by simp [Yc]
theorem Zcn:∀(l:List Opt),(Yc l).length=l.length*4
 | []=>rfl
 | o::r=>by rw [ZdX,Zyg,Zcn r,Zk9,ZyM];omega
theorem Zu6 {l:List Opt} {i:Nat} {o:Opt} (h:l[i]?=some o) (z:List SV):((Yc l++z).drop (i*4)).take 4=Zpy o:=by
 have hi:=(ZxZ.1 h).1
 have e:l=l.take i++(o::l.drop (i+1)):=by
  rw [<-(ZxZ.1 h).2,ZzR,ZyI]
 have hl:(Yc (l.take i)).length=i*4:=by rw [Zcn,ZyE,Z00 (by omega)]
 rw [e,Zdv,ZdX,Zy9,List.drop_left' hl,Zy9,Zzx (Zk9 o)]
theorem Zu7 {l:List Opt} {i:Nat} (o:Opt) (h:i<l.length) (z:List SV):(Yc l++z).take (i*4)++(Zpy o++(Yc l++z).drop (i*4+4))=Yc (l.set i o)++z:=by
 obtain ⟨o0,h0⟩:∃o0,l[i]?=some o0:=⟨_,Zya h⟩
 have e:l=l.take i++(o0::l.drop (i+1)):=by
  rw [<-(ZxZ.1 h0).2,ZzR,ZyI]
 have hl:(Yc (l.take i)).length=i*4:=by rw [Zcn,ZyE,Z00 (by omega)]
 have e2:l.set i o=l.take i++(o::l.drop (i+1)):=by
  rw [List.set_eq_take_append_cons_drop,if_pos h]
 generalize l.drop (i+1)=r at e e2
 generalize l.take i=p at e hl e2
 have e3:Yc l++z=Yc p++(Zpy o0++(Yc r++z)):=by rw [e,Zdv,ZdX];simp
 have e4:Yc l++z=(Yc p++Zpy o0)++(Yc r++z):=by rw [e3];simp
 have h1:(Yc l++z).take (i*4)=Yc p:=by rw [e3];exact Zzx hl
 have h2:(Yc l++z).drop (i*4+4)=Yc r++z:=by rw [e4];exact List.drop_left' (by rw [Zyg,hl,Zk9])
 rw [h1,h2,e2,Zdv,ZdX]
 simp
theorem Zpz (l:List Opt) (a b c:Nat):(Yc l).all (SV.within a b c)=true:=by
 rw [Zym]
 intro x hx
 obtain ⟨o,_,hx⟩:=List.mem_flatMap.1 hx
 obtain ⟨p,_,rfl⟩:=Zyz.1 hx
 rfl
theorem Zp0 (n a b c:Nat):(List.replicate n (SV.val .any)).all (SV.within a b c)=true:=by
 rw [Zym]
 intro x hx
 rw [(ZzG.1 hx).2]
 rfl
theorem Zms:∀(l:List PV),Zam (l.map SV.val)=some l
 | []=>rfl
 | p::r=>by
  show (match (SV.val p).pv,Zam (r.map SV.val) with | some p,some l=>some (p::l) | _,_=>none)=_
  rw [Zms r];rfl
section
variable {A:Ops} {E:Env}
theorem Zxp (hA:A=Ze E) {t:TypeId} (ha:(E.T t).agg=true) (hs:(E.T t).size=4) {id n:Nat} {l:List Opt} {z:List SV} {st:St} {K:SV->St->Prop} {o:Opt} (hb:st.bx[id]?=some (some (Yc l++z))) (ho:l[n]?=some o) (hK:K (.val (Z2 o)) st):A.rld t (.rbx id 0 n 4 0) st K:=by
 refine ZdM hA ?_
 show Res.go (YZ E t (.box id (0+n*4+0)) st) K
 have hi:=(ZxZ.1 ho).1
 have hc:Zam (((Yc l++z).drop (n*4)).take 4)=some (Z2 o).cells:=by rw [Zu6 ho];exact Zms _
 unfold YZ
 simp only [Zyj,hb,Zy0,ha,hs,if_true,ZyK,Zzj,hc]
 exact ⟨by rw [Zyg,Zcn];omega,hK⟩
theorem ZxI (hA:A=Ze E) {t:TypeId} (ha:(E.T t).agg=true) (hs:(E.T t).size=4) {id n:Nat} {l:List Opt} {z:List SV} {st:St} {K:SV->St->Prop} {o:Opt} (hb:st.bx[id]?=some (some (Yc l++z))) (hi:n<l.length) (hK:∀B,B=st.bx.set id (some (Yc (l.set n o)++z))->K .undef { st with bx:=B }):A.rst t (.rbx id 0 n 4 0) (.val (Z2 o)) st K:=by
 refine ZdN hA ?_
 show Res.go (Zai E t (.box id (0+n*4+0)) (.val (.agg (Z2 o).cells)) st) K
 have h1:((Z2 o).cells.length=4/\(Z2 o).cells.all PV.one)=True:=by simp [Z2,PV.cells,PV.one]
 unfold Zai
 simp only [Zyj,hb,Zy0,ha,hs,if_true,ZyK,Zzj,h1]
 refine ⟨by rw [Zyg,Zcn];show n*4+4<=_;omega,?_⟩
 have:=Zu7 o hi z
 refine hK _ ?_
 rw [<-this]
 rfl
end
theorem Zu8 (f:Flight) (now:Int) (o:Opt) (h:Zj (f.Window.From+o.Delay)) {fl:List PV} (hfl:fl=Zd f.Ways) :
  Zc Tryz.prog 80 [Z2 o,.ptr [.int .i64 f.ID,.int .i64 f.Airline,.int .i64 f.Class,.str f.Call,.list 1 fl,.int .i64 f.Window.From,.int .i64 f.Window.To,.bool f.Cancel] 0,.ptr [.int .i64 now] 0] (.bool (!Zh7 f now o)):=by
 refine Zb (clo:=λ _=>false) (rows:=false) Zg Tryz.func80 rfl (enters_of Tryz.func80 (by kernel_rfl) rfl) (λ A q P Y hr hA hq=>?_)
 obtain ⟨f1,f2,f3,f4,f5,⟨f6,f7⟩,f8⟩:=f
 obtain ⟨o1,o2,o3,o4⟩:=o
 have hl:Zh7 ⟨f1,f2,f3,f4,f5,⟨f6,f7⟩,f8⟩ now ⟨o1,o2,o3,o4⟩=(o4 || decide (now<=f6+o1)):=rfl
 rw [hl] at hq
 simp only at h ⊢
 cases o4 with
 | true =>
  have hb:A.bNot true=false:=by subst hA;rfl
  conv=>cbv
  split
  ·rename_i hc
   cases (show False by have h9:true=false:=Yy hA hc;cases h9)
  ·conv=>cbv
   rw [<-hq]
   rfl
 | false =>
  have had:A.iAdd f6 o1=f6+o1:=Z5 hA _ _
  have hlt:A.iLt (A.iAdd f6 o1) now=!decide (now<=f6+o1):=by
   rw [had]
   subst hA
   show decide _=!decide _
   rw [ZyA]
   simp
  conv=>cbv
  split
  ·conv=>cbv
   refine ⟨Zy hA had h,?_⟩
   rw [<-hq]
   exact congrArg PV.bool hlt
  ·rename_i hc
   cases (show False by have h9:false=true:=YP hA hc;cases h9)
set_option maxHeartbeats 1000000 in
theorem Zl0 {caps:List PV} (p:Opt->Bool) (l:List Opt) (hl:l.length<=1000000) (hg:∀x∈l,Zc Tryz.prog 80 (Z2 x::caps) (.bool (p x))) (pre:List (Option (List SV))) (z:List SV) {n id cap:Nat} (hn:n=l.length) (hid:id=pre.length) :
  ZV ⟨Tryz.prog,tab,Zra,true,.none⟩ 148 [.row id 0 4 n cap,.val (.fn 80 caps)] (pre++[some (Yc l++z)]) [] ⟨[],0⟩
   (λ r bx' tk' ax'=>r=.val (.int .i64 (QY p l))/\bx'=pre++[some (Yc l++z)]/\tk'=[]/\ax'=⟨[],0⟩):=by
 refine YH (clo:=Zra) (rows:=true) Zg Tryz.func148 rfl (enters_of Tryz.func148 (by kernel_rfl) rfl) (by intro h;rfl) (λ A P' Y' nb R hA hnb hR=>?_)
 obtain ⟨B,hB⟩:∃B,B=pre++[some (Yc l++z)]:=⟨_,rfl⟩
 have hBi:B[id]?=some (some (Yc l++z)):=by rw [hB,hid,Zyd (Zyp _),Zzw];rfl
 rw [<-hB]
 have hnI:A.iNat n=(l.length:Int):=by rw [Zhq hA,hn]
 conv=>cbv
 refine Zi hA (λ (i:Int) s=>s.put (some 8) (.val (.int .i64 i))) (λ i=>0<=i/\i<=l.length/\∀x∈l.take i.toNat,p x=false) (λ i=>(l.length - i).toNat) 0 ?_ ?_ ?_
 ·conv=>cbv
  exact Zk
 ·exact ⟨Zyk _,by omega,by simp⟩
 rintro R1 i ⟨hi0,hi1,hi2⟩ hR1
 conv=>cbv
 split
 ·rename_i hc
  have hi:i<l.length:=ZE hA rfl hnI hc
  have his:A.iAdd i 1=i+1:=Z5 hA _ _
  have hir:A.inR (A.iAdd i 1):=Zy hA his (by unfold Zj;omega)
  obtain ⟨x,hx⟩:∃x,l[i.toNat]?=some x:=⟨_,Zya (show i.toNat<l.length by omega)⟩
  have ht:=Zo hi0 hx
  have hgx:=hg x (Zyb hx)
  have hpx:p x=true->QY p l=i:=λ h=>YI hi0 hx h hi2
  have hnx:p x=false->0<=A.iAdd i 1/\A.iAdd i 1<=l.length/\∀y∈l.take (A.iAdd i 1).toNat,p y=false:=λ h=>by rw [his];exact ⟨by omega,by omega,ZS ht hi2 h⟩
  generalize p x=b at hgx hpx hnx
  conv=>cbv
  refine ⟨Zdo hA hnI hi0 hi,?_⟩
  refine Zxp hA rfl rfl hBi (by show l[A.nNat i]?=_;rw [Zib hA];exact hx) ?_
  obtain ⟨x1,x2,x3,x4⟩:=x
  conv=>cbv
  refine Za hA (hgx) ?_
  conv=>cbv
  cases b with
  | true =>
   conv=>cbv
   refine hR _ ⟨_,.val (.int .i64 i),Wk.refl _,.inr (.inl ⟨4,rfl,rfl⟩),by rw [hpx rfl],hB,rfl,rfl⟩
  | false =>
   conv=>cbv
   exact ⟨hir,hR1 (A.iAdd i 1) _ (by (conv=>cbv);exact Zk) (hnx rfl) (by rw [his];omega)⟩
 ·rename_i hc
  have hi:(l.length:Int)<=i:=ZK hA rfl hnI hc
  rw [Zyl (by omega)] at hi2
  conv=>cbv
  refine hR _ ⟨_,.val (.int .i64 (-1)),Wk.refl _,.inr (.inl ⟨4,rfl,rfl⟩),by rw [Yd hi2],hB,rfl,rfl⟩
theorem Zp1 (l:List Opt):((Zq l).flatMap PV.cells).map SV.val=Yc l:=by
 induction l with
 | nil=>rfl
 | cons o r ih =>
  rw [ZdX,<-ih]
  simp [Zq,Zpy]
theorem ZxJ {A:Ops} {E:Env} (hA:A=Ze E) {ts e:TypeId} (hk:(E.T ts).k=.slice e) (hs:(E.T e).size=4) (hz:(E.T e).zero.length=4) (hby:(E.T e).bytes+1<=10000000) {l:List Opt} (hne:l≠[]) (hl:l.length<=1000000) {xs:List PV} (hx:xs=Zq l) {m:Nat}
  {st:St} {K:SV->St->Prop} (hK:∀cap k id n B,l.length*4+k=cap*4->id=st.bx.length->n=l.length->B=st.bx++[some (Yc l++List.replicate k (.val .any))]->K (.row id 0 4 n cap) { st with bx:=B }):A.appR [ts,ts] [.lit m [],.val (.list 4 xs)] st K:=by
 refine Zer hA ?_
 unfold Zcq
 have hxl:xs.length=l.length:=by rw [hx];simp [Zq]
 have hxn:xs≠[]:=λ h=>hne (Zyy (by rw [<-hxl,h];rfl))
 have hbig:l.length*((E.T e).bytes+1)<=140737488355328:=Zy1 (Z0E hl hby) (by decide)
 simp only [hk,SV.elems,hs]
 refine ⟨trivial,trivial,hxn,by decide,hz,?_⟩
 refine ⟨.inr rfl,by simpa [hxl] using hbig,λ cap hc1 hc2=>?_⟩
 have:=hK cap ((cap - l.length)*4) _ _ _ (by simp [hxl] at hc1;omega) rfl rfl rfl
 simp only [St.newBx,Z03,Zz3,ZyK,hxl]
 rw [hx,Zp1]
 exact this
theorem Zta (l:List Opt) (hne:l≠[]) (hl:l.length<=1000000) {xs:List PV} (hx:xs=Zq l) (pre:List (Option (List SV))) (hpn:pre≠[]) :
  ZV ⟨Tryz.prog,tab,Zra,true,.none⟩ 79 [.val (.list 4 xs)] pre [] ⟨[],0⟩
   (λ r bx' tk' ax'=>∃cap k,r=.row pre.length 0 4 l.length cap/\bx'=pre++[some (Yc l++List.replicate k (.val .any))]/\l.length*4+k=cap*4/\tk'=[]/\ax'=⟨[],0⟩):=by
 refine YH (clo:=Zra) (rows:=true) Zg Tryz.func79 rfl (enters_of Tryz.func79 (by kernel_rfl) rfl) (by intro h;rfl) (λ A P' Y' nb R hA hnb hR=>?_)
 have hxl:xs.length=l.length:=by rw [hx];simp [Zq]
 have hxn:xs≠[]:=λ h=>hne (Zyy (by rw [<-hxl,h];rfl))
 conv=>cbv
 refine ⟨λ h=>?_,?_⟩
 ·cases (show False from hxn h)
 conv=>cbv
 refine ZxJ hA rfl rfl rfl (by decide) hne hl hx (λ cap k id n B hck hid hn hB=>?_)
 conv=>cbv
 exact hR _ ⟨_,.row id 0 4 n cap,Wk.refl _,.inr (.inl ⟨2,rfl,rfl⟩),cap,k,by rw [hid,hn],hB,hck,rfl,rfl⟩
theorem Zu9 {A:Ops} {E:Env} {x:Operand} {t e:TypeId} {id off len cap:Nat} {cs:List SV} {st:St} {K:SV->St->Prop} (hv:Zp st x=.row id off 4 len cap) (hk:(E.T t).k=.slice e) (hs:(E.T e).size=4) (hz:(E.T e).zero.length=4) (hb:st.bx[id]?=some (some cs)) (hl:off+len*4<=cs.length)
  (h:∀B,B=st.bx.set id (some (cs.take off++(List.replicate (len*4) (.val .any)++cs.drop (off+len*4))))->K (.val .any) { st with bx:=B }):Zcg A E false (.call { callee:=.builtin .clear,args:=#[x],argTypes:=#[t] }) st K:=by
 unfold Zcg
 simp only [QS,Zzl,ZzW,hv,Zg7,ZgW,hk,hs,hz,Zyj,hb,Zy0]
 exact ⟨hl,h _ rfl⟩
theorem Zjd {p:Opt->Bool} {l:List Opt} {i:Int} (h:QY p l=i) (h0:i≠-1):∃k:Nat,i=k/\k<l.length/\l.take k=(l.take (k+1)).filter (λ o=>!p o):=by
 unfold QY at h
 cases hf:l.findIdx? p with
 | none=>rw [hf] at h;exact absurd h.symm h0
 | some k =>
  rw [hf] at h
  rw [List.findIdx?_eq_some_iff_getElem] at hf
  obtain ⟨h1,h2,h3⟩:=hf
  refine ⟨k,h.symm,h1,?_⟩
  rw [ZyD,Zya h1,Option.toList_some,ZzH]
  have:(l.take k).filter (λ o=>!p o)=l.take k:=by
   rw [List.filter_eq_self]
   intro a ha
   obtain ⟨j,hj⟩:=ZyO.1 ha
   rw [Zyx] at hj
   split at hj
   ·rename_i hjk
    obtain ⟨hj1,hj2⟩:=ZxZ.1 hj
    have:=h3 j hjk
    rw [hj2] at this
    simpa using this
   ·cases hj
  rw [this]
  simp [h2]
theorem Zp2 {p:Opt->Bool} {l:List Opt} (h:QY p l=-1):l.filter (λ o=>!p o)=l:=by
 rw [List.filter_eq_self]
 intro a ha
 unfold QY at h
 cases hf:l.findIdx? p with
 | none=>rw [List.findIdx?_eq_none_iff] at hf;simpa using hf a ha
 | some k=>rw [hf] at h;simp at h
set_option maxRecDepth 4000 in
set_option maxHeartbeats 2000000 in
theorem ZkA {caps:List PV} (p:Opt->Bool) (l:List Opt) (hl:l.length<=1000000) (hg:∀x∈l,Zc Tryz.prog 80 (Z2 x::caps) (.bool (p x))) (pre:List (Option (List SV))) (hpre:ZwE pre) {k n id cap:Nat} (hn:n=l.length) (hid:id=pre.length) (hck:l.length*4+k=cap*4) :
  ZV ⟨Tryz.prog,tab,Zra,true,.none⟩ 78 [.row id 0 4 n cap,.val (.fn 80 caps)] (pre++[some (Yc l++List.replicate k (.val .any))]) [] ⟨[],0⟩
   (λ r bx' tk' ax'=>∃k2 n2,r=.row id 0 4 n2 cap/\n2=(l.filter λ o=>!p o).length/\bx'=pre++[some (Yc (l.filter λ o=>!p o)++List.replicate k2 (.val .any))]/\n2*4+k2=cap*4/\tk'=[]/\ax'=⟨[],0⟩):=by
 refine ZV.flags (clo:=λ n=>n == 10000000 || n == 5000000+148) (rows:=true) ?_
 refine YH (clo:=λ n=>n == 10000000 || n == 5000000+148) (rows:=true) Zg Tryz.func78 rfl (enters_of Tryz.func78 (by kernel_rfl) rfl) (by intro h;rfl) (λ A P' Y' nb R hA hnb hR=>?_)
 have hidx:=Zl0 p l hl hg pre (List.replicate k (.val .any)) hn hid (cap:=cap)
 obtain ⟨z,hz⟩:∃z,z=List.replicate k (SV.val .any):=⟨_,rfl⟩
 rw [<-hz] at hidx hnb ⊢
 obtain ⟨B0,hB0⟩:∃B0,B0=pre++[some (Yc l++z)]:=⟨_,rfl⟩
 rw [<-hB0] at hidx hnb ⊢
 have hnI:A.iNat n=(l.length:Int):=by rw [Zhq hA,hn]
 have hnone:=Zp2 (p:=p) (l:=l)
 have hhit:=λ h=>Zjd (p:=p) (l:=l) (i:=QY p l) rfl h
 generalize QY p l=fi at hidx hnone hhit
 refine Zf (λ R1 hR1=>?_)
 conv=>cbv
 refine hR1 _ ?_
 clear hR1
 refine Zf (λ R1 hR1=>?_)
 conv=>cbv
 refine Qg hA (ZV.flags hidx) (λ r bx' tk' ax' h=>?_)
 obtain ⟨rfl,rfl,rfl,rfl⟩:=h
 conv=>cbv
 refine hR1 _ ?_
 clear hR1
 refine Zf (λ R1 hR1=>?_)
 conv=>cbv
 split
 ·rename_i hc
  have hf:=hnone (eqT hA hc)
  conv=>cbv
  rw [hf] at hR
  exact hR _ ⟨_,.row id 0 4 n cap,Wk.refl _,.inr (.inl ⟨4,rfl,rfl⟩),k,n,rfl,hn,by rw [hB0,hz],by omega,rfl,rfl⟩
 rename_i hc
 obtain ⟨i0,rfl,hi0l,hi0t⟩:=hhit (eqF hA hc)
 refine hR1 _ ?_
 clear hR1 hnone hhit hc hidx
 refine Zf (λ R1 hR1=>?_)
 conv=>cbv
 have hi0s:A.iAdd (i0:Int) 1=((i0+1:Nat):Int):=by rw [Z5 hA];rfl
 refine ⟨Zy hA hi0s (by unfold Zj;omega),?_⟩
 refine Zi hA (λ (z:Int × Int × List (Option (List SV))) s=>{ (s.put (some 5) (.val (.int .i64 z.1))).put (some 6) (.val (.int .i64 z.2.1)) with bx:=z.2.2 })
  (λ y=>∃(i j:Nat) (M:List Opt),y.1=i/\y.2.1=j/\i<j/\j<=l.length/\M.length=l.length/\M.take i=(l.take j).filter (λ o=>!p o)/\M.drop j=l.drop j/\y.2.2=pre++[some (Yc M++z)]) (λ y=>(l.length - y.2.1).toNat) ((i0:Int),A.iAdd (i0:Int) 1,bx') ?_ ?_ ?_
 ·conv=>cbv
  exact Zk
 ·exact ⟨i0,i0+1,l,rfl,hi0s,by omega,by omega,rfl,hi0t,rfl,hB0⟩
 rintro R2 ⟨ii,jj,B⟩ ⟨i,j,M,hii,hjj,hij,hjl,hMl,hMt,hMd,hB⟩ hR2
 simp only at hii hjj hB
 have hBi:B[id]?=some (some (Yc M++z)):=by rw [hB,hid,Zyd (Zyp _),Zzw];rfl
 have hzw:∀a b c,z.all (SV.within a b c)=true:=λ a b c=>by rw [hz];exact Zp0 _ _ _ _
 conv=>cbv
 split
 ·rename_i hc
  have hj:jj<l.length:=ZE hA rfl hnI hc
  have hjs:A.iAdd jj 1=((j+1:Nat):Int):=by rw [Z5 hA,hjj];rfl
  have hjr:A.inR (A.iAdd jj 1):=Zy hA hjs (by unfold Zj;omega)
  have his:A.iAdd ii 1=((i+1:Nat):Int):=by rw [Z5 hA,hii];rfl
  have hir:A.inR (A.iAdd ii 1):=Zy hA his (by unfold Zj;omega)
  obtain ⟨v,hv⟩:∃v,l[j]?=some v:=⟨_,Zya (show j<l.length by omega)⟩
  have hvM:M[j]?=some v:=by
   have:=congrArg (λ L=>L[0]?) hMd
   simpa [hv] using this
  have hgv:=hg v (Zyb hv)
  have hfl:(l.take (j+1)).filter (λ o=>!p o)=(l.take j).filter (λ o=>!p o)++if p v=true then [] else [v]:=by
   rw [ZyD,hv,Option.toList_some,ZzH]
   cases hb:p v<;>simp [hb]
  rw [<-hMt] at hfl
  generalize p v=b at hgv hfl
  have hMd2:M.drop (j+1)=l.drop (j+1):=by
   rw [<-List.drop_drop,<-List.drop_drop,hMd]
  have hpos:0<=jj:=by omega
  conv=>cbv
  refine ⟨Zdo hA hnI (by omega) hj,?_⟩
  refine Zxp hA rfl rfl hBi (by show M[A.nNat jj]?=_;rw [Zib hA,hjj,ZyR];exact hvM) ?_
  obtain ⟨v1,v2,v3,v4⟩:=v
  conv=>cbv
  refine ZgA hA (z:=[.int .i64 0,.int .i64 0,.int .i64 0,.bool false]) rfl rfl (by decide) (λ n2 B2 hn2 hB2=>?_)
  have hn2:n2=B.length:=hn2
  have hB2:B2=B++[some [.val (.int .i64 0),.val (.int .i64 0),.val (.int .i64 0),.val (.bool false)]]:=hB2
  conv=>cbv
  refine ZfJ hA (cs:=[.val (.int .i64 0),.val (.int .i64 0),.val (.int .i64 0),.val (.bool false)]) (by rw [hB2,hn2,Zyd (Zyp _),Zzw];rfl) rfl rfl rfl (Zyp 4) (λ B3 hB3=>?_)
  have hB3:B3=B++[some [.val (.int .i64 v1),.val (.int .i64 v2),.val (.int .i64 v3),.val (.bool v4)]]:=by
   rw [hB3]
   show B2.set n2 _=_
   rw [hB2,hn2,ZyT _ _ (Zyp _),Zzw]
   rfl
  have hB3n:B3[n2]?=some (some [.val (.int .i64 v1),.val (.int .i64 v2),.val (.int .i64 v3),.val (.bool v4)]):=by rw [hB3,hn2,Zyd (Zyp _),Zzw];rfl
  have hidB:id<B.length:=(ZxZ.1 hBi).1
  conv=>cbv
  refine Zjo hA (l:=[.int .i64 v1,.int .i64 v2,.int .i64 v3,.bool v4]) hB3n rfl rfl (Zyp 4) ?_
  conv=>cbv
  refine Za hA (hgv) ?_
  conv=>cbv
  have hdrop:∀(B5:List (Option (List SV))) (M5:List Opt) (sl sl':List SV),B5=pre++[some (Yc M5++z)]->leL sl sl'->sl'.all (SV.within B5.length 0 0)=true->Wk nb ⟨sl,B5++[some [.val (.int .i64 v1),.val (.int .i64 v2),.val (.int .i64 v3),.val (.bool v4)]],[],⟨[],0⟩⟩ ⟨sl',B5,[],⟨[],0⟩⟩:=λ B5 M5 sl sl' h5 hle hw=>by
   refine Zt (bx:=B5) (bx':=[_]) (mp:=[]) (mp':=[]) hle (by rw [hnb,h5,hB0];simp) (.inl rfl) hw ?_
   rw [h5,Z0q,Z0s,List.all_nil,Bool.and_true]
   refine Bool.and_eq_true_iff.2 ⟨hpre _ _ _,?_⟩
   show (Yc M5++z).all _=true
   rw [Z0q]
   exact Bool.and_eq_true_iff.2 ⟨Zpz _ _ _ _,hzw _ _ _⟩
  cases b with
  | true =>
   conv=>cbv
   split
   ·rename_i hc
    cases ((show False by have h9:true=false:=Yy hA hc;cases h9))
   conv=>cbv
   refine ⟨hjr,hR2 (ii,A.iAdd jj 1,B) _ ?_ ⟨i,j+1,M,hii,hjs,by omega,by omega,hMl,by rw [hfl];simp,hMd2,hB⟩ (by simp only;rw [hjs];omega)⟩
   (conv=>cbv)
   rw [hB3]
   exact hdrop B M _ _ hB (by repeat (first | refine Zv ?_ | refine ZH ?_ | exact Z9)) (by simp [SV.within];omega)
  | false =>
   have hiM:i<M.length:=by omega
   conv=>cbv
   split
   rotate_left
   ·rename_i hc
    cases ((show False by have h9:false=true:=YP hA hc;cases h9))
   conv=>cbv
   refine Zjo hA (l:=[.int .i64 v1,.int .i64 v2,.int .i64 v3,.bool v4]) hB3n rfl rfl (Zyp 4) ?_
   conv=>cbv
   refine ⟨Zdo hA hnI (by omega) (by omega),?_⟩
   refine ZxI hA (o:=⟨v1,v2,v3,v4⟩) (l:=M) (z:=z) rfl rfl (by show B3[id]?=_;rw [hB3,Zye hidB];exact hBi) (by show A.nNat ii < _;rw [Zib hA,hii,ZyR];exact hiM) (λ B4 hB4=>?_)
   have hni:A.nNat ii=i:=by rw [Zib hA,hii,ZyR]
   obtain ⟨B5,hB5⟩:∃B5,B5=pre++[some (Yc (M.set i ⟨v1,v2,v3,v4⟩)++z)]:=⟨_,rfl⟩
   have hB4:B4=B5++[some [.val (.int .i64 v1),.val (.int .i64 v2),.val (.int .i64 v3),.val (.bool v4)]]:=by
    rw [hB4]
    show B3.set id (some (Yc (M.set (A.nNat ii) _)++z))=_
    rw [hni,hB3,List.set_append_left _ _ hidB,hB,hB5,hid,ZyT _ _ (Zyp _),Zzw]
    rfl
   have hBl:B5.length=B.length:=by rw [hB,hB5];simp
   conv=>cbv
   refine ⟨hir,hjr,hR2 (A.iAdd ii 1,A.iAdd jj 1,B5) _ ?_ ⟨i+1,j+1,M.set i ⟨v1,v2,v3,v4⟩,his,hjs,by omega,by omega,by simp [hMl],?_,?_,hB5⟩ (by simp only;rw [hjs];omega)⟩
   ·(conv=>cbv)
    rw [hB4]
    exact hdrop B5 _ _ _ hB5 (by repeat (first | refine Zv ?_ | refine ZH ?_ | exact Z9)) (by simp [SV.within];omega)
   ·rw [hfl,ZyD,Zzc hiM,List.take_set_of_le (Zyp _)]
    simp
   ·rw [List.drop_set_of_lt (by omega)]
    exact hMd2
 rename_i hc
 have hj:(l.length:Int)<=jj:=ZK hA rfl hnI hc
 have hjl2:j=l.length:=by omega
 rw [hjl2,Zze] at hMt
 refine hR1 _ ?_
 clear hR1 hR2
 have hiL:i<l.length:=by omega
 have hil:i=(l.filter λ o=>!p o).length:=by rw [<-hMt,ZyE];omega
 have hoff:A.nOff 0 ii 4=i*4:=by subst hA;show 0+ii.toNat*4=_;rw [hii,ZyR];omega
 have hlen:A.nNat (A.iSub (A.iNat n) ii)=l.length - i:=by rw [Zib hA,ZbJ hA,hnI,hii];omega
 have hMs:Yc M=Yc (l.filter λ o=>!p o)++Yc (M.drop i):=by rw [<-hMt,<-Zdv,ZyI]
 have hc1:(Yc M++z).take (i*4)=Yc (l.filter λ o=>!p o):=by
  rw [hMs,Zy9]
  exact Zzx (by rw [Zcn,<-hil])
 have hc2:(Yc M++z).drop (i*4+(l.length - i)*4)=z:=List.drop_left' (by rw [Zcn,hMl];omega)
 refine Zf (λ R1 hR1=>?_)
 refine Zfv ?_
 refine Za9 rfl (ZfO ?_)
 refine Za9 rfl (ZfO ?_)
 refine Za9 rfl ?_
 refine ⟨⟨?_,?_⟩,?_⟩
 ·show A.sl ii (A.iNat n) (A.iNat n)
  rw [hnI]
  subst hA
  exact ⟨by omega,by omega,Zyk _⟩
 ·show A.within ii (A.iNat cap)
  exact Zdo hA (Zhq hA cap) (by omega) (by omega)
 refine Za9 rfl (Zu9 (id:=id) (off:=A.nOff 0 ii 4) (len:=A.nNat (A.iSub (A.iNat n) ii)) (e:=35) (cs:=Yc M++z) rfl rfl rfl rfl hBi ?_ (λ B6 hB6=>?_))
 ·rw [hoff,hlen,Zyg,Zcn,hMl];omega
 have hB6:B6=B.set id (some ((Yc M++z).take (A.nOff 0 ii 4)++(List.replicate (A.nNat (A.iSub (A.iNat n) ii)*4) (.val .any)++(Yc M++z).drop (A.nOff 0 ii 4+A.nNat (A.iSub (A.iNat n) ii)*4)))):=hB6
 rw [hoff,hlen,hc1,hc2,hB,hid,ZyT _ _ (Zyp _),Zzw,hz,List.replicate_append_replicate] at hB6
 refine hR1 _ ?_
 clear hR1
 conv=>cbv
 refine ⟨?_,?_⟩
 ·show A.sl 0 ii (A.iNat n)
  rw [hnI]
  subst hA
  exact ⟨Zyk _,by omega,by omega⟩
 refine hR _ ⟨_,.row id 0 4 (A.nNat ii) cap,Wk.refl _,.inr (.inl ⟨4,rfl,rfl⟩),_,A.nNat ii,rfl,?_,hB6,?_,rfl,rfl⟩
 ·rw [Zib hA,hii,ZyR];exact hil
 ·rw [Zib hA,hii,ZyR];omega
open Go.Shelf
def ZuA:Ren:=⟨λ _=>106,λ x=>if x=3 then 3 else if x=4 then 4 else 29,id⟩
theorem Zp3:Lays2.n15 Tryz.prog ZuA where
 mixed:=by kernel_rfl
 f15:=by kernel_rfl
 t3:=Tryz.underlying3
 a3:=Tryz.isAgg3
 z3:=Tryz.sizeOf3
 v3:=Tryz.zeroValue3
 t4:=Tryz.underlying4
 a4:=Tryz.isAgg4
 z4:=Tryz.sizeOf4
 v4:=Tryz.zeroValue4
 t22:=Tryz.underlying29
 a22:=Tryz.isAgg29
 z22:=Tryz.sizeOf29
 v22:=Tryz.zeroValue29
 i3:=by kernel_rfl
theorem Zin {P:Program} {ops:Array Oper} {rest:List Oper} {o:Oper} {a:Act} {Q:Exit->Act->World->Prop} {w:World} (hgd:o.guard=none) (s x:Operand) (t:TypeId)
  (ho:o.op=.call { callee:=.builtin .append,args:=#[s,x],argTypes:=#[t,t] }) (B:Nat) (e:TypeId) (i:TypeInfo) (z:Value) (bytes:Nat) (ht:P.underlying t=some (.slice e)) (hi:P.info? e=some i) (hz:i.zero=some z) (hsize:i.size=1) (hby:i.bytes=bytes) (hzs:z.cells.size=1)
  (g:Nat) (hs:a.eval s=.slice (some ⟨g,0,none⟩) 0 0) (hown:w.ownsRow B e 1 (.slice (some ⟨g,0,none⟩) 0 0) 0 [])
  (ad:Addr) (m c:Nat) (news:List Value) (hx:a.eval x=.slice (some ad) m c) (hl:news.length=m) (hnews:∀j u,news[j]?=some u->w.cell? (ad.add j)=some u) (hbytes:m*bytes<=140737488355328) (h63:m<=140737488355328) (hB:B<=w.heap.size)
  (h:∀v' w',w'.ownsRow B e 1 v' m news->Below B w w'->wpList P ops Q rest (a.put o.dst v') w'):wpList P ops Q (o::rest) a w:=by
 have hrun:∃v' w',(Builtin.append_ #[t,t] o.type #[.slice (some ⟨g,0,none⟩) 0 0,.slice (some ad) m c]).run P w=.ok v' w'/\w'.ownsRow B e 1 v' m news/\Below B w w':=by
  by_cases hm:m=0
  ·subst hm
   have hn:news=[]:=Zyy hl
   subst hn
   refine ⟨.slice (some ⟨g,0,none⟩) 0 0,w,?_,hown,Below.refl _ _⟩
   simp [Builtin.append_,run_underlying ht,sizeOf,typeInfo,hi,Builtin.lenOf,Builtin.firstCells,loadCells,loadCellsFrom,storeCells]
  ·have hr:=run_append_grow (P:=P) w t o.type e i z ht hi hz ⟨g,0,none⟩ 0 0 [] (by simp) (by simp) ad m c news (by rw [hsize,hl,Zz4]) hnews (by omega) (by omega) (by rw [hby];exact growslice_fits (by omega) (by simpa using hbytes))
   have hge:=grownCap_ge w (0+m) 0 e
   have hcm:grownCap w (0+m) 0 e<=maxLen:=grownCap_le_maxLen w (0+m) 0 e (by simp only [maxLen];omega)
   refine ⟨_,_,hr,⟨by rw [hl,Zz4],.inr ⟨w.heap.size,_,_,by rw [ZyK],hB,heap_alloc_new w.drew _,by omega,hcm,?_,?_⟩⟩,((Below.refl B w).drew).alloc hB _⟩
   ·simp only [Array.size_append,Z07,size_zeroCells,hzs,hl,Zz4,Zz3]
    omega
   ·simp only [Array.toList_append,Zy9,Zz4,Z03]
    rw [<-hl]
    exact List.take_left
 obtain ⟨v',w',hr,h2,h3⟩:=hrun
 refine wpList_plain hgd λ K hK=>?_
 unfold Oper.wp execOp
 simp only [ho,resolve,invoke,builtin,Sem.run_bind,Sem.run_pure,Result.andThen_ok,List.map_toArray,Zzl,ZzW,hs,hx,hr]
 exact hK _ _ (h v' w' h2 h3)
theorem Zrp {P:Program} {ρ:Ren} (L:Lays2.n15 P ρ) (ad:Addr) (n c:Nat) (zs:List Int) (w:World) (hz:zs.length=n) (hbig:n*8<=140737488355328) (hc:∀j,j<zs.length->w.cell? (ad.add j)=some (.int .i64 (zs.getD j 0))) :
  Calls P (ρ.f 15) #[.slice (some ad) n c] w λ e w'=>∃v',e=.returned v'/\w'.ownsRow w.heap.size (ρ.t 3) 1 v' n (zs.map (Value.int .i64))/\Below w.heap.size w w':=by
 have mixed:=L.mixed;have t3:=L.t3;have a3:=L.a3;have z3:=L.z3;have v3:=L.v3;have t4:=L.t4;have a4:=L.a4;have z4:=L.z4;have v4:=L.v4;have t22:=L.t22;have a22:=L.a22;have z22:=L.z22;have v22:=L.v22
 obtain ⟨i0,hi,hz0,hz1,hz2⟩:=info_parts L.i3
 have q22:∀(w:World) (a:Option Addr) (n c n' c':Nat),(binOp .eql (ρ.t 22) (.slice a n c) (.slice none n' c')).run P w=.ok (.bool a.isNone) w:=λ w a n c n' c'=>Lib.run_eql_slice_nil w _ _ a n c n' c' L.t22
 have u22:∀w,Sem.run P (underlying (ρ.t 22)) w=.ok (TypeDesc.slice (ρ.t 3)) w:=run_underlying t22
 have A:Aside (∀j,j<zs.length->w.cell? (ad.add j)=some (.int .i64 (zs.getD j 0))):=hc
 clear hc
 go_enter L.f15,Body2.n15_ntmps ρ
 go_wp2_with (at_builtin;refine Zin rfl _ _ (ρ.t 22) rfl w.heap.size (ρ.t 3) i0 (.int .i64 0) 8 t22 hi hz0 hz1 hz2 rfl w.heap.size rfl (World.ownsRow_made w #[] 0 (Zyp _) (ZyQ _) rfl) ad n c (zs.map (Value.int .i64)) rfl ?qc1 ?qc2 ?qc3 ?qc4 ?qc5 ?_)
 case qc1=>simp [hz]
 case qc2 =>
  intro j u hj
  have hjn:j<zs.length:=by
   have:=(ZxZ.1 hj).1
   simpa using this
  refine Lib.cell?_alloc_some _ ?_
  rw [A.out j hjn]
  have e:(zs.map (Value.int .i64))[j]?=some (Value.int .i64 (zs.getD j 0)):=by simp [List.getD,Zya hjn]
  rw [e] at hj
  exact hj
 case qc3=>omega
 case qc4=>omega
 case qc5=>simp
 intro v' w1 hown hbel
 go_wp2
 go_ret
 exact ⟨v',rfl,hown,((Below.refl _ w).alloc (Zyp _) _).trans hbel⟩
open Go.Shelf
set_option maxRecDepth 4000 in
theorem Zp4 (S:Addr->Prop) (w:World) (l:List Int) (hl:l.length<=1000000) (m:Nat) (v:Value) (hv:RV S w (.list m (Zd l)) v) :
  Calls Tryz.prog 106 #[v] w λ e w'=>∃v',e=.returned v'/\w'.ownsRow w.heap.size 3 1 v' l.length (l.map (Value.int .i64))/\Below w.heap.size w w':=by
 obtain ⟨a,ad,cap,g,rfl,h1,h2,h3,h4,h5,h6⟩:=RV.slice_iff hv
 have hel:(Zd l).length=l.length:=by simp [Zd]
 by_cases hnone:a=none
 ·subst hnone
  have h0:l=[]:=by
   by_cases h0:l=[]
   ·exact h0
   ·have:=h1 (by simp [Zd,h0]);cases this
  subst h0
  refine (Go.Proofs.Any.slices_Clone_int_nil Zp3 0 cap w).mono ?_
  rintro e w' ⟨rfl,rfl⟩
  exact ⟨_,rfl,⟨rfl,.inl ⟨rfl,rfl⟩⟩,Below.refl _ _⟩
 ·obtain ⟨a',rfl⟩:=Option.ne_none_iff_exists'.1 hnone
  rw [hel]
  refine (Zrp Zp3 a' l.length cap l w rfl (by omega) (λ j hj=>?_)).mono ?_
  ·have hp:0<l.length:=by omega
   have ha:=h1 (by simp [Zd];intro e;subst e;simp at hp)
   cases ha
   have hm:m=1:=by
    have:=h4 0 (.int .i64 l[0]) (by simp [Zd,Z7,hp])
    simpa [PV.cells] using this.symm
   subst hm
   have e1:(Zd l)[j]?=some (.int .i64 l[j]):=by simp [Zd,Z7,hj]
   have k1:=(h5 j _ 0 (.int .i64 l[j]) e1 rfl).2.1
   have k2:=RV.int_inv (h6 j _ 0 (.int .i64 l[j]) e1 rfl)
   rw [k2,Zz4,Zzj] at k1
   rw [k1]
   simp [Zyj,hj]
  ·rintro e w' ⟨v',rfl,k1,k3⟩
   exact ⟨v',rfl,k1,k3⟩
theorem Zmt {clo:FuncId->Bool} {rows:Bool} {Y:YS} (l:List Int) (hl:l.length<=1000000) (m:Nat) (bx:List (Option (List SV))) (tk:List (Nat × TypeId)) (ax:Ax) :
  ZV ⟨Tryz.prog,tab,clo,rows,Y⟩ 106 [.val (.list m (Zd l))] bx tk ax
   (λ r bx' tk' ax'=>r=.own tk.length 1 (Zd l)/\bx'=bx/\tk'=tk++[(l.length,3)]/\ax'=ax):=by
 refine ⟨enters_of Tryz.func106 (by kernel_rfl) rfl,λ B S0 w0 G S w vs hI hbel hlen hv=>?_⟩
 match vs,hlen with
 | [v],_ =>
  have hv0:RV S w (.list m (Zd l)) v:=hv 0 _ v rfl rfl
  refine (Zp4 S w l hl m v hv0).mono ?_
  rintro e w' ⟨v',rfl,k1,k2⟩
  have hel:(Zd l).length=l.length:=by simp [Zd]
  have hsz:(tab 3).size=1:=rfl
  have R:Rel ⟨Tryz.prog,tab,clo,rows,Y⟩ B S0 w0 ⟨[.val (.list m (Zd l))],bx,tk,ax⟩ G S w #[v]:=⟨hI,hbel,rfl,λ i s u h1 h2=>hv i s u h1 (by simpa using h2)⟩
  rcases k1.2 with ⟨rfl,h0⟩ | ⟨g,cap,cur,rfl,hb,hg,hn,hm,hs,ht⟩
  ·have hl0:l=[]:=Zyy h0
   subst hl0
   obtain ⟨R1,X1⟩:=R.transport (S':=S) (λ _ h=>h) (λ _ h=>.inl h) k2
   have hH:Zsa ⟨Tryz.prog,tab,clo,rows,Y⟩ B G S w' tk.length 0 3 (.slice none 0 0):=⟨⟨none,0,rfl,Zyp _,by decide,λ h=>absurd h (Z0r _)⟩,λ _ _ _ _ _ _ h1=>by (injection h1 with h1;cases h1),λ _ _ _ h1=>by (injection h1 with h1;cases h1)⟩
   obtain ⟨R2,X2,h1,h2⟩:=R1.tokNew X1 hH (λ _ _ _ h1=>by (injection h1 with h1;cases h1))
   refine ⟨_,_,_,_,_,_,_,⟨rfl,rfl,rfl,rfl⟩,rfl,R2.inv,R2.below,X2,?_⟩
   exact ⟨RV.list_nil 1 none 0 (by decide),_,_,h1,h2,Zyp _,λ _=>rfl⟩
  ·have hlt:g<w'.heap.size:=(Zyv.1 hg).1
   obtain ⟨R1,X1⟩:=R.transport (S':=λ a=>S a\/(a.block=g/\a.off<l.length)) (λ _ h=>.inl h) (λ a h=>by
    rcases h with h | h
    ·exact .inl h
    ·exact .inr ⟨by omega,by omega⟩) k2
   have hold:∀(i b:Nat),G.bx[i]?=some b->b<w.heap.size:=λ i b h=>(hI.old i b h).2
   have hH:Zsa ⟨Tryz.prog,tab,clo,rows,Y⟩ B G (λ a=>S a\/(a.block=g/\a.off<l.length)) w' tk.length l.length 3 (.slice (some ⟨g,0,none⟩) l.length cap):=by
    refine ⟨⟨_,cap,rfl,hn,hm,λ _=>⟨g,cur,rfl,Zy1 hI.base hb,hg,by rw [hs];rfl,λ a ha hab=>?_,λ i h=>?_⟩⟩,λ g' n' cap' t' n'' cap'' h1 h2 h3 h4 h5=>?_,λ g' n' cap' h1 h2 h3=>?_⟩
    ·show a.off<l.length*(tab 3).size
     rw [hsz,Zz4]
     rcases ha with h | h
     ·have:=hI.slt a h;omega
     ·exact h.2
    ·have:=hold i g h;omega
    ·injection h1 with h1 _ _
     injection h1 with h1
     injection h1 with h1
     subst h1
     have hle:t'<tk.length:=by
      have:=(ZxZ.1 h4).1
      have:=hI.ltk
      omega
     obtain ⟨a,cp,q1,q2,q3,q4⟩:=hI.tok t' _ _ _ (Zya hle) h4
     injection q1 with q1 q1' q1''
     subst q1' q1''
     obtain ⟨g2,cur2,p1,p2,p3,_⟩:=q4 h5
     rw [<-q1] at p1
     injection p1 with p1
     injection p1 with p1
     subst p1
     have:=(Zyv.1 p3).1
     omega
    ·injection h1 with h1 _ _
     injection h1 with h1
     injection h1 with h1
     subst h1
     have:=hI.flt _ h3
     omega
   obtain ⟨R2,X2,h1,h2⟩:=R1.tokNew X1 hH (λ g' n' c h _=>by injection h with h _ _;injection h with h;injection h with h;omega)
   refine ⟨_,_,_,_,_,_,_,⟨rfl,rfl,rfl,rfl⟩,rfl,R2.inv,R2.below,X2,?_⟩
   refine ⟨?_,_,_,h1,h2,by rw [hel];exact Zyp _,λ _=>rfl⟩
   have hget:∀(i:Nat) (x:Int),l[i]?=some x->w'.cell? ⟨g,0+i,none⟩=some (.int .i64 x):=λ i x hx=>by
    have hi:i<l.length:=(ZxZ.1 hx).1
    have e1:(cur.toList.take (l.length*1))[i]?=(l.map (Value.int .i64))[i]?:=by rw [ht]
    rw [Zyx,if_pos (by omega),Zy2,Zyh,hx] at e1
    simp only [World.cell?,hg,ZyK]
    simpa using e1
   rw [<-hel]
   refine RV.list 1 (Zd l) (some ⟨g,0,none⟩) ⟨g,0,none⟩ cap (λ i _=>.int .i64 (l.getD i 0)) (λ _=>rfl) (by omega) hm (λ i x hx=>?_) (λ i x j c hx hc=>?_) (λ i x j c hx hc=>?_) (λ h=>absurd h (by decide))
   all_goals
    rw [Zd,Zyh] at hx
    cases hq:l[i]? with
    | none=>rw [hq] at hx;cases hx
    | some y=>?_
    rw [hq] at hx
    simp only [Zy5,Zyu] at hx
    subst hx
   ·rfl
   ·have hj:j=0:=by
     cases j with
     | zero=>rfl
     | succ j=>simp [Z7,PV.cells] at hc
    subst hj
    have hi:i<l.length:=(ZxZ.1 hq).1
    rw [Addr.add_lit]
    refine ⟨.inr ⟨rfl,by show 0+(i*1+0) < _;omega⟩,?_,rfl⟩
    have:=hget i y hq
    simp only [Zyj,hq,Zy0,Zz4,Zzj]
    exact this
   ·have hj:j=0:=by
     cases j with
     | zero=>rfl
     | succ j=>simp [Z7,PV.cells] at hc
    subst hj
    simp [Z7,PV.cells] at hc
    subst hc
    simp only [Zyj,hq,Zy0]
    exact .int _ _
def Zcu (first:QN) (legs:List QN) (ts:List Int):List (List Int):=(ZeO (ts.getLastD 0) ((first::legs).drop ts.length)).map (ts++·)
theorem ZiP {α β:Type} {F:α->List β} {c:Nat}:∀{l:List α},(∀y∈l,(F y).length=c)->∀{i j:Nat} {x:α},l[i]?=some x->j<c->(l.flatMap F)[i*c+j]?=(F x)[j]?
 | [],_,i,j,x,h,_=>by simp at h
 | y::r,hc,i,j,x,h,hj=>by
  have hy:=hc y (by simp)
  rw [ZyW]
  cases i with
  | zero =>
   simp at h;subst h
   rw [Z09,ZyK,Zye (by omega)]
  | succ i =>
   rw [Zyd (by rw [hy,Z0j];omega),hy,show (i+1)*c+j - c=i*c+j by rw [Z0j];omega]
   exact ZiP (λ z hz=>hc z (by simp [hz])) (by simpa using h) hj
theorem Zio {first:QN} {legs:List QN} {ts:List Int} {b:QN} (hb:(first::legs)[ts.length]?=some b) :
  Zcu first legs ts=(ZT (ts.getLastD 0+b.Lo) (ts.getLastD 0+b.Hi)).flatMap λ t=>Zcu first legs (ts++[t]):=by
 have hlt:=(ZxZ.1 hb).1
 have hd:(first::legs).drop ts.length=b::(first::legs).drop (ts.length+1):=by
  rw [ZyZ hlt,(ZxZ.1 hb).2]
 unfold Zcu
 rw [hd]
 simp only [ZeO,List.map_flatMap,Zz8]
 congr 1
 funext t
 rw [Zyg,Zyt,show (ts++[t]).getLastD 0=t by simp]
 simp [Zzu]
theorem ZuB (first:QN) (legs:List QN) (ts:List Int):(Zcu first legs ts).length=QH ((first::legs).drop ts.length):=by
 unfold Zcu;rw [Zys,Zkd]
theorem Zp5 {first:QN} {legs:List QN} {ts:List Int} (h:ts.length=legs.length+1):Zcu first legs ts=[ts]:=by
 unfold Zcu
 rw [ZzP (by simp;omega)]
 simp [ZeO]
theorem ZkB (first:QN) (legs:List QN):Zcu first legs []=ZeO 0 (first::legs):=by simp [Zcu]
theorem ZkC {A:Ops} {E:Env} {id b:Nat} {ops:Array Oper} {c d:Code} {nb:Nat × Nat} {st:St} {Q Q0:AX->St->Prop} {α β γ:Type} (P:α->β->γ->Prop) (st1:α->β->γ->St) (hQ:∀s,Q .normal s=QD A E (.seq (.block b (.seq (.region id ops true) c)) d) nb s Q0)
  (hm:Zbf E true id ops.size=.each) (h1:∀K:St->Prop,(∀x y z,P x y z->K (st1 x y z))->Za5 A E ops ops.size (Array.replicate ops.size false) st K)
  (h2:∀x y z,P x y z->QD A E c nb (st1 x y z) λ e st'=>match e with | .normal=>QD A E d nb st' Q0 | .exit i=>if i=b then QD A E d nb st' Q0 else Q0 (.exit i) st' | .ret=>Q0 .ret st'):QD A E .skip nb st Q:=by
 unfold QD
 rw [hQ]
 unfold QD
 unfold QD
 unfold QD
 unfold QD
 rw [hm]
 refine h1 _ λ x y z hp=>?_
 have h:=h2 x y z hp
 exact h
def Zrq:SV->SV
 | .val p=>.val p
 | _=>.val .any
theorem Zip:∀(l:List SV),leL l (l.map Zrq)
 | []=>trivial
 | s::r=>by
  cases s<;>first | exact Zv (Zip r) | exact ZH (Zip r)
theorem Zl1 (n m k:Nat) (l:List SV):(l.map Zrq).all (SV.within n m k)=true:=by
 rw [List.all_map,Zym]
 intro s _
 cases s<;>rfl
theorem Zn8 {nb:Nat × Nat} {sl:List SV} {bx bx':List (Option (List SV))} {tk:List (Nat × TypeId)} {mp:List ZaK} {yk:Nat} (hnb:nb.1<=bx.length)
  (h2:bx.all (λ o=>match o with | none=>true | some cs=>cs.all (SV.within bx.length mp.length tk.length))=true):Wk nb ⟨sl,bx++bx',tk,⟨mp,yk⟩⟩ ⟨sl.map Zrq,bx,tk,⟨mp,yk⟩⟩:=by
 have:=Zt (nb:=nb) (bx':=bx') (mp':=[]) (yk:=yk) (Zip sl) hnb (.inl rfl) (Zl1 bx.length mp.length tk.length sl) h2
 rw [Zzp] at this
 exact this
def ZkD (n:Nat):Bool:=n == 134 || n == 1000010 || n == 1000006 || n == 5000000+106 || n == 8000000
def bxG (pc:List PV) (l:Nat):List (Option (List SV)):=[some [.val (.yld l)],some [.clo 134 [.pv (.ptr pc 0),.box 0 0,.box 1 0]]]
def Zwg (pc:List PV) (l:Nat) (tk:List (Nat × TypeId)) (y1 y2:Nat) (r:SV) (bx':List (Option (List SV))) (tk':List (Nat × TypeId)) (ax':Ax):Prop :=
 bx'=bxG pc l/\(∃ex,tk'=tk++ex)/\((r=.val (.bool true)/\ax'=⟨[],y1⟩)\/(r=.val (.bool false)/\ax'=⟨[],y2⟩))
set_option maxHeartbeats 8000000 in
theorem Ztb (Y:YS) (hE:ZQ ⟨Tryz.prog,tab,ZkD,false,Y⟩) (hYa:Y.any=false) (way:Int) (first:QN) (legs:List QN) (hb:∀b∈first::legs,-10000<=b.Lo/\b.Lo<=b.Hi/\b.Hi<=10000) (hl:legs.length<=100) {bl:List PV} (hbl:bl=ZF legs) :
  ∀(d:Nat) (ts:List Int),ts.length+d=legs.length+1->(-10000*(ts.length:Int)<=ts.getLastD 0/\ts.getLastD 0<=10000*(ts.length:Int))->∀(yk:Nat) (tk:List (Nat × TypeId)) (m:Nat),(m=1\/ts=[]) ->
   (∀(j:Nat) (x:List Int),(Zcu first legs ts)[j]?=some x->Y.ys[yk+j]?=some [.list 1 (Zd x)]) ->
   ZV ⟨Tryz.prog,tab,ZkD,false,Y⟩ 134 [.val (.list m (Zd ts)),.val (.ptr [.int .i64 way,.int .i64 first.Lo,.int .i64 first.Hi,.list 2 bl] 0),.box 0 0,.box 1 0]
    (bxG [.int .i64 way,.int .i64 first.Lo,.int .i64 first.Hi,.list 2 bl] Y.l) tk ⟨[],yk⟩
    (Zwg [.int .i64 way,.int .i64 first.Lo,.int .i64 first.Hi,.list 2 bl] Y.l tk (yk+(Zcu first legs ts).length) (Y.ys.length+1)):=by
 have hbll:bl.length=legs.length:=by rw [hbl];simp [ZF]
 obtain ⟨b1,b2⟩:=first
 simp only
 intro d
 induction d with
 | zero =>
  intro ts hts hlast yk tk m hm hys
  have hm1:m=1:=by
   rcases hm with h | h
   ·exact h
   ·rw [h] at hts;simp at hts
  subst hm1
  rw [Zp5 (by omega)] at hys ⊢
  have hy0:=hys 0 ts rfl
  rw [Zzj] at hy0
  refine YH (clo:=ZkD) (rows:=false) hE Tryz.func134 rfl (enters_of Tryz.func134 (by kernel_rfl) rfl) (by intro h;simp [bxG] at h) (λ A P' Y' nb R hA hnb hR=>?_)
  obtain ⟨xs,hxs⟩:∃xs,xs=Zd ts:=⟨_,rfl⟩
  have hxl:xs.length=ts.length:=by rw [hxs];simp [Zd]
  rw [<-hxs] at hy0 ⊢
  have e1:A.iAdd (A.lLen bl) 1=(legs.length:Int)+1:=by rw [Z5 hA,Zl hA hbll]
  have e2:A.lLen xs=(ts.length:Int):=Zl hA hxl
  conv=>cbv
  refine ⟨Zy hA e1 (by unfold Zj;omega),?_⟩
  split
  rotate_left
  ·rename_i hc
   cases ((show False by have:=ZeN hA e2 e1 hc;omega))
  conv=>cbv
  refine QE hA rfl ⟨rfl,hYa⟩ hy0 ?_ (λ n' hn'=>?_)
  ·conv=>cbv
   exact hR _ ⟨_,_,Wk.refl _,.inr (.inl ⟨5,rfl,rfl⟩),rfl,⟨[],by simp⟩,.inl ⟨rfl,rfl⟩⟩
  ·conv=>cbv
   exact hR _ ⟨_,_,Wk.refl _,.inr (.inl ⟨5,rfl,rfl⟩),rfl,⟨[],by simp⟩,.inr ⟨rfl,by rw [hn']⟩⟩
 | succ d ih =>
  intro ts hts hlast yk tk m hm hys
  have hlt:ts.length<(⟨b1,b2⟩::legs).length:=by simp;omega
  obtain ⟨b,hbn⟩:∃b,(⟨b1,b2⟩::legs)[ts.length]?=some b:=⟨_,Zya hlt⟩
  have hbb:=hb b (Zyb hbn)
  have hstep:=Zio hbn
  obtain ⟨c,hcc⟩:∃c,c=QH ((⟨b1,b2⟩::legs).drop (ts.length+1)):=⟨_,rfl⟩
  have hcl:∀t,(Zcu ⟨b1,b2⟩ legs (ts++[t])).length=c:=λ t=>by rw [ZuB,hcc];simp
  obtain ⟨last,hla⟩:∃last,last=ts.getLastD 0:=⟨_,rfl⟩
  rw [<-hla] at hlast hstep
  have hlen:(Zcu ⟨b1,b2⟩ legs ts).length=(b.Hi - b.Lo+1).toNat*c:=by
   rw [hstep,List.length_flatMap,show (λ t=>(Zcu ⟨b1,b2⟩ legs (ts++[t])).length)=λ _=>c from funext hcl,List.map_const',List.sum_replicate_nat,Zae]
   congr 1;congr 1;omega
  have hrow:∀(t:Int),last+b.Lo<=t->t<=last+b.Hi->∀(j:Nat) (x:List Int),(Zcu ⟨b1,b2⟩ legs (ts++[t]))[j]?=some x->Y.ys[yk+(t - (last+b.Lo)).toNat*c+j]?=some [.list 1 (Zd x)]:=λ t h1 h2 j x hx=>by
   have hj:j<c:=by rw [<-hcl t];exact (ZxZ.1 hx).1
   have hg:(ZT (last+b.Lo) (last+b.Hi))[(t - (last+b.Lo)).toNat]?=some t:=by
    rw [Zkc (by omega)];congr 1;omega
   have:=ZiP (F:=λ t=>Zcu ⟨b1,b2⟩ legs (ts++[t])) (λ y _=>hcl y) hg hj
   rw [Zz6]
   refine hys _ x ?_
   rw [hstep,this];exact hx
  have hih:=λ (t:Int) (h1:last+b.Lo<=t) (h2:t<=last+b.Hi) (tk':List (Nat × TypeId))=>ih (ts++[t]) (by simp;omega) (by simp;omega) (yk+(t - (last+b.Lo)).toNat*c) tk' 1 (.inl rfl) (hrow t h1 h2)
  obtain ⟨c1,c2⟩:=b
  simp only at hbb hstep hlen hrow hih
  rcases ZzE ts.length with hn0 | hpos
  ·have ht0:ts=[]:=Zyy hn0
   have hl0:last=0:=by rw [hla,ht0];rfl
   obtain ⟨rfl,rfl⟩:b1=c1/\b2=c2:=by
    rw [hn0] at hbn
    simp at hbn
    exact hbn
   refine YH (clo:=ZkD) (rows:=false) hE Tryz.func134 rfl (enters_of Tryz.func134 (by kernel_rfl) rfl) (by intro h;simp [bxG] at h) (λ A P' Y' nb R hA hnb hR=>?_)
   obtain ⟨xs,hxs⟩:∃xs,xs=Zd ts:=⟨_,rfl⟩
   have hxl:xs.length=ts.length:=by rw [hxs];simp [Zd]
   rw [<-hxs]
   have e1:A.iAdd (A.lLen bl) 1=(legs.length:Int)+1:=by rw [Z5 hA,Zl hA hbll]
   have e2:A.lLen xs=(ts.length:Int):=Zl hA hxl
   have e3:A.iSub (A.lLen xs) 1=(ts.length:Int) - 1:=by rw [ZbJ hA,e2]
   conv=>cbv
   refine ⟨Zy hA e1 (by unfold Zj;omega),?_⟩
   split
   ·rename_i hc
    cases ((show False by have:=ZdS hA e2 e1 hc;omega))
   conv=>cbv
   split
   ·rename_i hc
    cases ((show False by have:=ZE hA rfl e2 hc;omega))
   conv=>cbv
   refine Zi hA (λ (z:Int × Nat × List (Nat × TypeId)) s=>{ s.put (some 9) (.val (.int .i64 z.1)) with tk:=z.2.2,ax:=⟨[],z.2.1⟩ }) (λ z=>b1<=z.1/\z.1<=b2+1/\z.2.1=yk+(z.1 - b1).toNat*c/\∃ex,z.2.2=tk++ex) (λ z=>(b2+1 - z.1).toNat) (b1,yk,tk) ?_ ?_ ?_
   ·conv=>cbv
    exact Zk
   ·exact ⟨Zyk _,by omega,by simp,[],by simp⟩
   rintro R2 ⟨mm,y2,tz⟩ ⟨h1,h2,h3,ex,h4⟩ hR2
   simp only at h1 h2 h3 h4
   conv=>cbv
   split
   rotate_left
   ·rename_i hc
    have hmB:=leF hA hc
    have hmE:mm=b2+1:=by omega
    conv=>cbv
    refine hR _ ⟨_,_,Zn8 (bx:=[_,_]) (bx':=[_]) (by rw [hnb];exact Zyp 2) rfl,.inr (.inl ⟨5,rfl,rfl⟩),rfl,⟨ex,h4⟩,.inl ⟨rfl,?_⟩⟩
    rw [hlen,h3,hmE,show b2+1 - b1=b2 - b1+1 by omega]
   rename_i hc
   have hmB:=leT hA hc
   have hfm:A.iAdd 0 mm=last+mm:=by rw [Z5 hA]<;>omega
   obtain ⟨kz,hkz⟩:∃kz,kz=tz.length:=⟨_,rfl⟩
   obtain ⟨tk1,htk1⟩:∃tk1,tk1=tz++[(ts.length,3)]:=⟨_,rfl⟩
   have hclone:ZV ⟨Tryz.prog,tab,ZkD,false,Y⟩ 106 [.val (.list m xs)] [some [.val (.yld Y.l)],some [.clo 134 [.pv (.ptr [.int .i64 way,.int .i64 b1,.int .i64 b2,.list 2 bl] 0),.box 0 0,.box 1 0]],some [.val (.int .i64 b1),.val (.int .i64 b2)]] tz ⟨[],y2⟩
     (λ r bx' tk' ax'=>r=.own kz 1 xs/\bx'=[some [.val (.yld Y.l)],some [.clo 134 [.pv (.ptr [.int .i64 way,.int .i64 b1,.int .i64 b2,.list 2 bl] 0),.box 0 0,.box 1 0]],some [.val (.int .i64 b1),.val (.int .i64 b2)]]/\tk'=tk1/\ax'=⟨[],y2⟩):=by
    rw [hkz,htk1,hxs]
    exact Zmt ts (by omega) m _ _ _
   have hat:A.tkAt tk1 kz 3 (A.nLen xs):=by
    rw [htk1,hkz]
    subst hA
    refine ⟨by simp [Zyj],?_,by simp⟩
    show ((tz++[(ts.length,3)]).getD tz.length (0,0)).1=xs.length
    simp [Zyj,hxl]
   have hrm:A.room (A.nLen (A.lApp xs [.int .i64 (A.iAdd 0 mm)])) 8:=by
    subst hA
    show (xs++[_]).length*(8+1)<=140737488355328
    rw [Zyg,Zyt];omega
   have hin:A.inR (A.iAdd 0 mm):=Zy hA hfm (by unfold Zj;omega)
   have hmr:A.inR (A.iAdd mm 1):=Zy hA (Z5 hA mm 1) (by unfold Zj;omega)
   have hdeep:ZV ⟨Tryz.prog,tab,ZkD,false,Y⟩ 134 [.own kz 1 (A.lApp xs [.int .i64 (A.iAdd 0 mm)]),.val (.ptr [.int .i64 way,.int .i64 b1,.int .i64 b2,.list 2 bl] 0),.box 0 0,.box 1 0]
     [some [.val (.yld Y.l)],some [.clo 134 [.pv (.ptr [.int .i64 way,.int .i64 b1,.int .i64 b2,.list 2 bl] 0),.box 0 0,.box 1 0]],some [.val (.int .i64 b1),.val (.int .i64 b2)]] (A.tkPut tk1 kz (A.nLen (A.lApp xs [.int .i64 (A.iAdd 0 mm)]),3)) ⟨[],y2⟩
     (λ r bx' tk' ax'=>∃(b:Bool) (y':Nat),r=.val (.bool b)/\bx'=[some [.val (.yld Y.l)],some [.clo 134 [.pv (.ptr [.int .i64 way,.int .i64 b1,.int .i64 b2,.list 2 bl] 0),.box 0 0,.box 1 0]],some [.val (.int .i64 b1),.val (.int .i64 b2)]]/\ax'=⟨[],y'⟩/\(∃ex,tk'=tk++ex)/\((b=true/\y'=y2+c)\/(b=false/\y'=Y.ys.length+1))):=by
    have hg:=hih (last+mm) (by omega) (by omega) (A.tkPut tk1 kz (A.nLen (A.lApp xs [.int .i64 (A.iAdd 0 mm)]),3))
    rw [show (last+mm - (last+b1)).toNat=(mm - b1).toNat by congr 1;omega,<-h3,hcl] at hg
    have hf:=ZV.frame hg [some [.val (.int .i64 b1),.val (.int .i64 b2)]] (by intro o ho;simp at ho;exact ⟨_,ho,by intro c hc;simp at hc;rcases hc with rfl | rfl<;>exact ⟨_,rfl⟩⟩) (λ r bx' tk' ax' h=>by rw [h.1]) (by simp [SV.within,bxG]) (by simp [SV.within,bxG]) (by simp)
    have hap:A.lApp xs [.int .i64 (A.iAdd 0 mm)]=Zd (ts++[last+mm]):=by
     rw [hfm,hxs]
     subst hA
     show Zd ts++_=_
     simp [Zd,Z7]
    rw [hap]
    refine ZV.wk (svs2:=[.val (.list 1 (Zd (ts++[last+mm]))),.val (.ptr [.int .i64 way,.int .i64 b1,.int .i64 b2,.list 2 bl] 0),.box 0 0,.box 1 0]) (bx2:=_) (tk2:=_) (ax2:=⟨[],y2⟩) (by intro h;simp at h) (Wk.forget _ _ _ _ _ (Za6 (Zv (Zv (Zv Z9))))) ?_
    have hf':=hf
    rw [hap] at hf'
    refine ⟨hf'.1,λ B S0 w0 G S w vs a b c d=>(hf'.2 B S0 w0 G S w vs a b c d).mono ?_⟩
    rintro e w' ⟨v,r,bx',tk',ax',G2,S2,⟨b0,rfl,h5,⟨ex2,h6⟩,h7⟩,he⟩
    refine ⟨v,r,b0++[some [.val (.int .i64 b1),.val (.int .i64 b2)]],tk',ax',G2,S2,?_,he⟩
    have hex2:∃ex,tk'=tk++ex:=by
     obtain ⟨e3,he3⟩:∃e3,A.tkPut tk1 kz (A.nLen (Zd (ts++[last+mm])),3)=tk++e3:=by
      rw [htk1,hkz,h4]
      subst hA
      refine ⟨ex++[((Zd (ts++[last+mm])).length,3)],?_⟩
      show (tk++ex++[(ts.length,3)]).set (tk++ex).length ((Zd (ts++[last+mm])).length,3)=_
      rw [ZyT _ _ (Zyp _)]
      simp
     rw [he3] at h6
     exact ⟨e3++ex2,by rw [h6,Zy9]⟩
    rcases h7 with ⟨rfl,rfl⟩ | ⟨rfl,rfl⟩
    ·exact ⟨true,_,rfl,by rw [h5];rfl,rfl,hex2,.inl ⟨rfl,rfl⟩⟩
    ·exact ⟨false,_,rfl,by rw [h5];rfl,rfl,hex2,.inr ⟨rfl,rfl⟩⟩
   apply ZkC (λ (b:Bool) (y':Nat) (tk':List (Nat × TypeId))=>(∃ex,tk'=tk++ex)/\((b=true/\y'=y2+c)\/(b=false/\y'=Y.ys.length+1))) (hQ:=λ _=>rfl)
   case hm=>rfl
   case h1 =>
    intro K hK
    conv=>cbv
    repeat' first
     | exact hin
     | exact hrm
     | exact hat
     | (refine Qg hA hclone ?_;rintro _ _ _ _ ⟨rfl,rfl,rfl,rfl⟩;conv=>cbv)
     | (refine Zff hA hdeep ?_;rintro _ _ tk' _ ⟨bb,y',rfl,rfl,rfl,hP⟩;conv=>cbv)
     | exact hK _ _ _ hP
     | apply And.intro
   case h2 =>
    rintro bb y' tk' ⟨⟨ex',hex'⟩,h5⟩
    rcases h5 with ⟨rfl,hy'⟩ | ⟨rfl,hy'⟩
    ·conv=>cbv
     split
     ·rename_i hc
      cases (nT hA hc)
     conv=>cbv
     refine ⟨hmr,hR2 (A.iAdd mm 1,y',tk') _ ?_ ?_ ?_⟩
     ·conv=>cbv
      exact Zk
     ·show b1<=A.iAdd mm 1/\A.iAdd mm 1<=b2+1/\y'=yk+(A.iAdd mm 1 - b1).toNat*c/\∃ex,tk'=tk++ex
      rw [Z5 hA]
      refine ⟨by omega,by omega,?_,ex',hex'⟩
      rw [hy',h3,show (mm+1 - b1).toNat=(mm - b1).toNat+1 by omega,Z0j];omega
     ·show (b2+1 - A.iAdd mm 1).toNat<(b2+1 - mm).toNat
      rw [Z5 hA];omega
    ·conv=>cbv
     split
     rotate_left
     ·rename_i hc
      cases (nF hA hc)
     conv=>cbv
     exact hR _ ⟨_,_,Zn8 (bx:=[_,_]) (bx':=[_]) (by rw [hnb];exact Zyp 2) rfl,.inr (.inl ⟨5,rfl,rfl⟩),rfl,⟨ex',hex'⟩,.inr ⟨rfl,by rw [hy']⟩⟩
  ·have hm1:m=1:=by
    rcases hm with h | h
    ·exact h
    ·rw [h] at hpos;simp at hpos
   subst hm1
   refine YH (clo:=ZkD) (rows:=false) hE Tryz.func134 rfl (enters_of Tryz.func134 (by kernel_rfl) rfl) (by intro h;simp [bxG] at h) (λ A P' Y' nb R hA hnb hR=>?_)
   obtain ⟨xs,hxs⟩:∃xs,xs=Zd ts:=⟨_,rfl⟩
   have hxl:xs.length=ts.length:=by rw [hxs];simp [Zd]
   rw [<-hxs]
   have e1:A.iAdd (A.lLen bl) 1=(legs.length:Int)+1:=by rw [Z5 hA,Zl hA hbll]
   have e2:A.lLen xs=(ts.length:Int):=Zl hA hxl
   have e3:A.iSub (A.lLen xs) 1=(ts.length:Int) - 1:=by rw [ZbJ hA,e2]
   conv=>cbv
   refine ⟨Zy hA e1 (by unfold Zj;omega),?_⟩
   split
   ·rename_i hc
    cases ((show False by have:=ZdS hA e2 e1 hc;omega))
   conv=>cbv
   split
   rotate_left
   ·rename_i hc
    cases (show False by have:=ZK hA rfl e2 hc;omega)
   have i0:0<=A.iSub (A.lLen xs) 1:=by rw [e3];omega
   have i1:A.iSub (A.lLen xs) 1<legs.length:=by rw [e3];omega
   have i2:A.iSub (A.lLen xs) 1<ts.length:=by rw [e3];omega
   have hsr:A.inR (A.iSub (A.lLen xs) 1):=Zy hA e3 (by unfold Zj;omega)
   have hlb:legs[(A.iSub (A.lLen xs) 1).toNat]?=some ⟨c1,c2⟩:=by
    have h':=hbn
    rw [show ts.length=(A.iSub (A.lLen xs) 1).toNat+1 by have:=e3;omega,Zz5] at h'
    exact h'
   have hlt2:ts[(A.iSub (A.lLen xs) 1).toNat]?=some last:=by
    rw [e3,hla,show ((ts.length:Int) - 1).toNat=ts.length - 1 by omega,Zzz,ZzC]
    rw [Zya (by omega)]<;>rfl
   refine Zq9 rfl [.val (.ptr [.int .i64 way,.int .i64 b1,.int .i64 b2,.list 2 bl] 3),.val (.list 2 bl),.val (.int .i64 (A.lLen xs)),.val (.int .i64 (A.iSub (A.lLen xs) 1)),.val (.ptr [.int .i64 c1,.int .i64 c2] 0),.val (.agg [.int .i64 c1,.int .i64 c2]),
     .val (.list 1 xs),.val (.int .i64 (A.lLen xs)),.val (.int .i64 (A.iSub (A.lLen xs) 1)),.val (.ptr [.int .i64 last] 0),.val (.int .i64 last),.undef,.val (.int .i64 last)]
    (λ L=>[some [.val (.yld Y.l)],some [.clo 134 [.pv (.ptr [.int .i64 way,.int .i64 b1,.int .i64 b2,.list 2 bl] 0),.box 0 0,.box 1 0]],some [.val (.int .i64 (cond (L 11) c1 b1)),.val (.int .i64 (cond (L 11) c2 b2))]])
    rfl (λ L L' h=>by simp only [h 11 (by decide)]) rfl ?_ ?_
   ·intro L i o hi he K' hK
    rcases i with _ | i
    ·cases hi
     conv=>cbv
     exact hK
    rcases i with _ | i
    ·cases hi
     have h0:L 0=true:=he ⟨0,.data⟩ (by simp) rfl
     conv=>cbv
     simp only [h0]
     conv=>cbv
     refine cast (congrArg K' ?_) hK
     conv=>lhs;cbv
     simp only [h0]
    rcases i with _ | i
    ·cases hi
     conv=>cbv
     exact hK
    rcases i with _ | i
    ·cases hi
     have h2:L 2=true:=he ⟨2,.data⟩ (by simp) rfl
     conv=>cbv
     simp only [h2]
     conv=>cbv
     refine ⟨hsr,?_⟩
     refine cast (congrArg K' ?_) hK
     conv=>lhs;cbv
     simp only [h2]
    rcases i with _ | i
    ·cases hi
     have h1:L 1=true:=he ⟨1,.data⟩ (by simp) rfl
     have h3:L 3=true:=he ⟨3,.data⟩ (by simp) rfl
     conv=>cbv
     simp only [h1,h3]
     conv=>cbv
     refine Zc8 hA hbl i0 i1 (λ z hz=>?_)
     obtain rfl:=Zyc (hlb.symm.trans hz)
     conv=>cbv
     refine cast (congrArg K' ?_) hK
     conv=>lhs;cbv
     simp only [h1,h3]
    rcases i with _ | i
    ·cases hi
     have h4:L 4=true:=he ⟨4,.data⟩ (by simp) rfl
     conv=>cbv
     simp only [h4]
     conv=>cbv
     refine cast (congrArg K' ?_) hK
     conv=>lhs;cbv
     simp only [h4]
    rcases i with _ | i
    ·cases hi
     conv=>cbv
     exact hK
    rcases i with _ | i
    ·cases hi
     conv=>cbv
     exact hK
    rcases i with _ | i
    ·cases hi
     have h7:L 7=true:=he ⟨7,.data⟩ (by simp) rfl
     conv=>cbv
     simp only [h7]
     conv=>cbv
     refine ⟨hsr,?_⟩
     refine cast (congrArg K' ?_) hK
     conv=>lhs;cbv
     simp only [h7]
    rcases i with _ | i
    ·cases hi
     have h6:L 6=true:=he ⟨6,.data⟩ (by simp) rfl
     have h8:L 8=true:=he ⟨8,.data⟩ (by simp) rfl
     conv=>cbv
     simp only [h6,h8]
     conv=>cbv
     refine Zw hA hxs i0 i2 (λ z hz=>?_)
     obtain rfl:=Zyc (hlt2.symm.trans hz)
     conv=>cbv
     refine cast (congrArg K' ?_) hK
     conv=>lhs;cbv
     simp only [h6,h8]
    rcases i with _ | i
    ·cases hi
     have h9:L 9=true:=he ⟨9,.data⟩ (by simp) rfl
     conv=>cbv
     simp only [h9]
     conv=>cbv
     refine cast (congrArg K' ?_) hK
     conv=>lhs;cbv
     simp only [h9]
    rcases i with _ | i
    ·cases hi
     have h5:L 5=true:=he ⟨5,.data⟩ (by simp) rfl
     conv=>cbv
     simp only [h5]
     conv=>cbv
     refine cast (congrArg K' ?_) hK
     conv=>lhs;cbv
     simp only [h5]
    rcases i with _ | i
    ·cases hi
     have h10:L 10=true:=he ⟨10,.data⟩ (by simp) rfl
     conv=>cbv
     simp only [h10]
     conv=>cbv
     refine cast (congrArg K' ?_) hK
     conv=>lhs;cbv
     simp only [h10]
    simp at hi
   conv=>cbv
   refine Zi hA (λ (z:Int × Nat × List (Nat × TypeId)) s=>{ s.put (some 9) (.val (.int .i64 z.1)) with tk:=z.2.2,ax:=⟨[],z.2.1⟩ }) (λ z=>c1<=z.1/\z.1<=c2+1/\z.2.1=yk+(z.1 - c1).toNat*c/\∃ex,z.2.2=tk++ex) (λ z=>(c2+1 - z.1).toNat) (c1,yk,tk) ?_ ?_ ?_
   ·conv=>cbv
    exact Zk
   ·exact ⟨Zyk _,by omega,by simp,[],by simp⟩
   rintro R2 ⟨mm,y2,tz⟩ ⟨h1,h2,h3,ex,h4⟩ hR2
   simp only at h1 h2 h3 h4
   conv=>cbv
   split
   rotate_left
   ·rename_i hc
    have hmB:=leF hA hc
    have hmE:mm=c2+1:=by omega
    conv=>cbv
    refine hR _ ⟨_,_,Zn8 (bx:=[_,_]) (bx':=[_]) (by rw [hnb];exact Zyp 2) rfl,.inr (.inl ⟨5,rfl,rfl⟩),rfl,⟨ex,h4⟩,.inl ⟨rfl,?_⟩⟩
    rw [hlen,h3,hmE,show c2+1 - c1=c2 - c1+1 by omega]
   rename_i hc
   have hmB:=leT hA hc
   have hfm:A.iAdd last mm=last+mm:=by rw [Z5 hA]<;>omega
   obtain ⟨kz,hkz⟩:∃kz,kz=tz.length:=⟨_,rfl⟩
   obtain ⟨tk1,htk1⟩:∃tk1,tk1=tz++[(ts.length,3)]:=⟨_,rfl⟩
   have hclone:ZV ⟨Tryz.prog,tab,ZkD,false,Y⟩ 106 [.val (.list 1 xs)] [some [.val (.yld Y.l)],some [.clo 134 [.pv (.ptr [.int .i64 way,.int .i64 b1,.int .i64 b2,.list 2 bl] 0),.box 0 0,.box 1 0]],some [.val (.int .i64 c1),.val (.int .i64 c2)]] tz ⟨[],y2⟩
     (λ r bx' tk' ax'=>r=.own kz 1 xs/\bx'=[some [.val (.yld Y.l)],some [.clo 134 [.pv (.ptr [.int .i64 way,.int .i64 b1,.int .i64 b2,.list 2 bl] 0),.box 0 0,.box 1 0]],some [.val (.int .i64 c1),.val (.int .i64 c2)]]/\tk'=tk1/\ax'=⟨[],y2⟩):=by
    rw [hkz,htk1,hxs]
    exact Zmt ts (by omega) 1 _ _ _
   have hat:A.tkAt tk1 kz 3 (A.nLen xs):=by
    rw [htk1,hkz]
    subst hA
    refine ⟨by simp [Zyj],?_,by simp⟩
    show ((tz++[(ts.length,3)]).getD tz.length (0,0)).1=xs.length
    simp [Zyj,hxl]
   have hrm:A.room (A.nLen (A.lApp xs [.int .i64 (A.iAdd last mm)])) 8:=by
    subst hA
    show (xs++[_]).length*(8+1)<=140737488355328
    rw [Zyg,Zyt];omega
   have hin:A.inR (A.iAdd last mm):=Zy hA hfm (by unfold Zj;omega)
   have hmr:A.inR (A.iAdd mm 1):=Zy hA (Z5 hA mm 1) (by unfold Zj;omega)
   have hdeep:ZV ⟨Tryz.prog,tab,ZkD,false,Y⟩ 134 [.own kz 1 (A.lApp xs [.int .i64 (A.iAdd last mm)]),.val (.ptr [.int .i64 way,.int .i64 b1,.int .i64 b2,.list 2 bl] 0),.box 0 0,.box 1 0]
     [some [.val (.yld Y.l)],some [.clo 134 [.pv (.ptr [.int .i64 way,.int .i64 b1,.int .i64 b2,.list 2 bl] 0),.box 0 0,.box 1 0]],some [.val (.int .i64 c1),.val (.int .i64 c2)]] (A.tkPut tk1 kz (A.nLen (A.lApp xs [.int .i64 (A.iAdd last mm)]),3)) ⟨[],y2⟩
     (λ r bx' tk' ax'=>∃(b:Bool) (y':Nat),r=.val (.bool b)/\bx'=[some [.val (.yld Y.l)],some [.clo 134 [.pv (.ptr [.int .i64 way,.int .i64 b1,.int .i64 b2,.list 2 bl] 0),.box 0 0,.box 1 0]],some [.val (.int .i64 c1),.val (.int .i64 c2)]]/\ax'=⟨[],y'⟩/\(∃ex,tk'=tk++ex)/\((b=true/\y'=y2+c)\/(b=false/\y'=Y.ys.length+1))):=by
    have hg:=hih (last+mm) (by omega) (by omega) (A.tkPut tk1 kz (A.nLen (A.lApp xs [.int .i64 (A.iAdd last mm)]),3))
    rw [show (last+mm - (last+c1)).toNat=(mm - c1).toNat by congr 1;omega,<-h3,hcl] at hg
    have hf:=ZV.frame hg [some [.val (.int .i64 c1),.val (.int .i64 c2)]] (by intro o ho;simp at ho;exact ⟨_,ho,by intro c hc;simp at hc;rcases hc with rfl | rfl<;>exact ⟨_,rfl⟩⟩) (λ r bx' tk' ax' h=>by rw [h.1]) (by simp [SV.within,bxG]) (by simp [SV.within,bxG]) (by simp)
    have hap:A.lApp xs [.int .i64 (A.iAdd last mm)]=Zd (ts++[last+mm]):=by
     rw [hfm,hxs]
     subst hA
     show Zd ts++_=_
     simp [Zd,Z7]
    rw [hap]
    refine ZV.wk (svs2:=[.val (.list 1 (Zd (ts++[last+mm]))),.val (.ptr [.int .i64 way,.int .i64 b1,.int .i64 b2,.list 2 bl] 0),.box 0 0,.box 1 0]) (bx2:=_) (tk2:=_) (ax2:=⟨[],y2⟩) (by intro h;simp at h) (Wk.forget _ _ _ _ _ (Za6 (Zv (Zv (Zv Z9))))) ?_
    have hf':=hf
    rw [hap] at hf'
    refine ⟨hf'.1,λ B S0 w0 G S w vs a b c d=>(hf'.2 B S0 w0 G S w vs a b c d).mono ?_⟩
    rintro e w' ⟨v,r,bx',tk',ax',G2,S2,⟨b0,rfl,h5,⟨ex2,h6⟩,h7⟩,he⟩
    refine ⟨v,r,b0++[some [.val (.int .i64 c1),.val (.int .i64 c2)]],tk',ax',G2,S2,?_,he⟩
    have hex2:∃ex,tk'=tk++ex:=by
     obtain ⟨e3,he3⟩:∃e3,A.tkPut tk1 kz (A.nLen (Zd (ts++[last+mm])),3)=tk++e3:=by
      rw [htk1,hkz,h4]
      subst hA
      refine ⟨ex++[((Zd (ts++[last+mm])).length,3)],?_⟩
      show (tk++ex++[(ts.length,3)]).set (tk++ex).length ((Zd (ts++[last+mm])).length,3)=_
      rw [ZyT _ _ (Zyp _)]
      simp
     rw [he3] at h6
     exact ⟨e3++ex2,by rw [h6,Zy9]⟩
    rcases h7 with ⟨rfl,rfl⟩ | ⟨rfl,rfl⟩
    ·exact ⟨true,_,rfl,by rw [h5];rfl,rfl,hex2,.inl ⟨rfl,rfl⟩⟩
    ·exact ⟨false,_,rfl,by rw [h5];rfl,rfl,hex2,.inr ⟨rfl,rfl⟩⟩
   apply ZkC (λ (b:Bool) (y':Nat) (tk':List (Nat × TypeId))=>(∃ex,tk'=tk++ex)/\((b=true/\y'=y2+c)\/(b=false/\y'=Y.ys.length+1))) (hQ:=λ _=>rfl)
   case hm=>rfl
   case h1 =>
    intro K hK
    conv=>cbv
    repeat' first
     | exact hin
     | exact hrm
     | exact hat
     | (refine Qg hA hclone ?_;rintro _ _ _ _ ⟨rfl,rfl,rfl,rfl⟩;conv=>cbv)
     | (refine Zff hA hdeep ?_;rintro _ _ tk' _ ⟨bb,y',rfl,rfl,rfl,hP⟩;conv=>cbv)
     | exact hK _ _ _ hP
     | apply And.intro
   case h2 =>
    rintro bb y' tk' ⟨⟨ex',hex'⟩,h5⟩
    rcases h5 with ⟨rfl,hy'⟩ | ⟨rfl,hy'⟩
    ·conv=>cbv
     split
     ·rename_i hc
      cases (nT hA hc)
     conv=>cbv
     refine ⟨hmr,hR2 (A.iAdd mm 1,y',tk') _ ?_ ?_ ?_⟩
     ·conv=>cbv
      exact Zk
     ·show c1<=A.iAdd mm 1/\A.iAdd mm 1<=c2+1/\y'=yk+(A.iAdd mm 1 - c1).toNat*c/\∃ex,tk'=tk++ex
      rw [Z5 hA]
      refine ⟨by omega,by omega,?_,ex',hex'⟩
      rw [hy',h3,show (mm+1 - c1).toNat=(mm - c1).toNat+1 by omega,Z0j];omega
     ·show (c2+1 - A.iAdd mm 1).toNat<(c2+1 - mm).toNat
      rw [Z5 hA];omega
    ·conv=>cbv
     split
     rotate_left
     ·rename_i hc
      cases (nF hA hc)
     conv=>cbv
     exact hR _ ⟨_,_,Zn8 (bx:=[_,_]) (bx':=[_]) (by rw [hnb];exact Zyp 2) rfl,.inr (.inl ⟨5,rfl,rfl⟩),rfl,⟨ex',hex'⟩,.inr ⟨rfl,by rw [hy']⟩⟩
theorem Ztc (way:Int) (first:QN) (legs:List QN) (hb:∀b∈first::legs,-10000<=b.Lo/\b.Lo<=b.Hi/\b.Hi<=10000) (hl:legs.length<=100) {bl:List PV} (hbl:bl=ZF legs) :
  Zde Tryz.prog 133 [.ptr [.int .i64 way,.int .i64 first.Lo,.int .i64 first.Hi,.list 2 bl] 0] ((ZeO 0 (first::legs)).map λ ts=>[.list 1 (Zd ts)]):=by
 refine Zsr (clo:=ZkD) (rows:=false) Zg Tryz.func133 rfl (enters_of Tryz.func133 (by kernel_rfl) rfl) rfl (λ A P Y Y' y R hr hys hE hy hA hR=>?_)
 have hg:=Ztb Y hE hy.2 way first legs hb hl hbl (legs.length+1) [] (by simp) (by simp) 0 [] 0 (.inr rfl) (λ j x hx=>by
  rw [ZkB] at hx
  rw [hys,ZyK,Zyh,hx];rfl)
 rw [ZkB,ZyK] at hg
 have hlen:Y.ys.length=(ZeO 0 (first::legs)).length:=by rw [hys,Zys]
 have hR1:=λ k (h:k=(ZeO 0 (first::legs)).length\/k=Y.ys.length+1)=>hR k (by rw [Zys];omega)
 have hcall:ZV ⟨Tryz.prog,tab,ZkD,false,Y⟩ 134 [.lit 0 [],.val (.ptr [.int .i64 way,.int .i64 first.Lo,.int .i64 first.Hi,.list 2 bl] 0),.box 0 0,.box 1 0]
   (bxG [.int .i64 way,.int .i64 first.Lo,.int .i64 first.Hi,.list 2 bl] Y.l) [] ⟨[],0⟩ (Zwg [.int .i64 way,.int .i64 first.Lo,.int .i64 first.Hi,.list 2 bl] Y.l [] (ZeO 0 (first::legs)).length (Y.ys.length+1)) :=
  ZV.wk (by intro h;rfl) (Wk.forget _ _ _ _ _ (Zbn (Zv (Zv (Zv Z9))))) hg
 rw [hy.1]
 generalize (ZeO 0 (first::legs)).length=n at hcall hR1
 generalize Y.ys.length+1=n2 at hcall hR1
 obtain ⟨b1,b2⟩:=first
 simp only at hcall ⊢
 unfold bxG at hcall
 conv=>cbv
 refine Zff hA hcall ?_
 rintro r bx' tk' ax' ⟨rfl,_,h | h⟩
 ·obtain ⟨rfl,rfl⟩:=h
  conv=>cbv
  exact hR1 _ (.inl rfl)
 ·obtain ⟨rfl,rfl⟩:=h
  conv=>cbv
  exact hR1 _ (.inr rfl)
theorem ZuC (pw b1 b2:Int) (bl:List PV):Zc Tryz.prog 59 [.agg [.int .i64 pw,.int .i64 b1,.int .i64 b2,.list 2 bl]] (.fn 133 [.ptr [.int .i64 pw,.int .i64 b1,.int .i64 b2,.list 2 bl] 0]):=by
 refine Zb (clo:=λ _=>false) (rows:=false) Zg Tryz.func59 rfl (enters_of Tryz.func59 (by kernel_rfl) rfl) (λ A q P Y hr hA hq=>?_)
 conv=>cbv
 rw [<-hq]
set_option maxHeartbeats 1000000 in
theorem Zn9 (t:Zh) (f:Flight) (o:Opt):Zc Tryz.prog 16 [Zn t,Zx f,Z2 o] (.tup [.list 2 (ZJ (ZX t f o)),.int .i64 (ZN t f o)]):=by
 have hcnt:=Zue t f o
 have hpl:=Zkk t f o
 by_cases h0:ZN t f o=0
 ·obtain ⟨hp0,hmany⟩:=QI h0
  obtain ⟨k,w,h⟩:=Yz hp0
  have hall:ZX t f o=(Znp t f o).map λ ts=>⟨ZaF f o,ts⟩:=by rw [ZX,if_pos h0]
  have hseq:=λ bl hbl=>Ztc (ZaF f o) (QC f o) (YM t f o) h.all (by have:=h.bounds.2.2.2;omega) (bl:=bl) hbl
  have hTl:=ZcK t f o
  have hTe:ZeO 0 (QC f o::YM t f o)=Znp t f o:=rfl
  rw [hTe] at hseq
  rw [Zmd hp0,hp0] at hpl
  rw [h0] at hcnt
  rw [hall,h0]
  generalize Za7 t f o=cn at hcnt
  generalize Znp t f o=T at hseq hTl
  generalize ZaF f o=pw at hpl hseq
  generalize QC f o=fb at hpl hseq
  generalize YM t f o=pL at hpl hseq
  obtain ⟨b1,b2⟩:=fb
  obtain ⟨bl,hbl⟩:∃bl,bl=ZF pL:=⟨_,rfl⟩
  have hs2:=hseq bl hbl
  rw [<-hbl] at hpl
  have hmk:=ZuC pw b1 b2 bl
  clear hseq hall hTe h h0
  simp only at hpl hs2
  refine Zb (clo:=λ _=>false) (rows:=false) Zg Tryz.func16 rfl (enters_of Tryz.func16 (by kernel_rfl) rfl) (λ A q P Y hr hA hq=>?_)
  obtain ⟨ss,cs,ws,ms,ks,nv,hss,hcs,hws,hms,hks,hnv,htab⟩:=Qd t
  rw [htab] at hpl hcnt ⊢
  obtain ⟨f1,f2,f3,f4,f5,⟨f6,f7⟩,f8⟩:=f
  obtain ⟨fl,hfl⟩:∃fl,fl=Zd f5:=⟨_,rfl⟩
  rw [Zs _ hfl] at hpl hcnt ⊢
  obtain ⟨o1,o2,o3,o4⟩:=o
  simp only at hpl hcnt ⊢
  conv=>cbv
  refine Za hA (hcnt) ?_
  conv=>cbv
  split
  ·rename_i hc
   cases (neT hA hc rfl)
  conv=>cbv
  refine Za hA (hpl) ?_
  conv=>cbv
  refine Za hA (hmk) ?_
  conv=>cbv
  refine YU hA hs2 (λ x hx=>?_) (λ (L:List PV) s=>{ s with bx:=s.bx.set 3 (some [.own 0 2 L]),tk:=[(A.nLen L,49)] })
   (λ k L=>L=ZJ ((T.take k).map λ ts=>⟨pw,ts⟩)) [] (λ _=>rfl) ?_ ?_ ?_ ?_
  ·obtain ⟨o,_,rfl⟩:=Zyz.1 hx;rfl
  ·subst hA
   exact Wk.ownBx _ _ [] _ 3 0 0 2 [.lit 0 []] [] 49 rfl rfl (.inr rfl)
  ·rfl
  ·intro R k L x hx hL hR
   rw [Zyh,ZyG] at hx
   obtain ⟨ts,hts,rfl⟩:=hx
   have hkl:k<T.length:=(ZxZ.1 hts).1
   have hLl:L.length<=5000:=by rw [hL];simp [ZJ];omega
   obtain ⟨tp,htp⟩:∃tp,tp=Zd ts:=⟨_,rfl⟩
   have hnext:A.lApp L [.agg [.int .i64 pw,.list 1 tp]]=ZJ ((T.take (k+1)).map λ ts=>⟨pw,ts⟩):=by
    subst hA hL
    rw [ZyD,hts,htp]
    show ZJ _++_=_
    simp [ZJ,Yl]
   have htk:A.tkEq (A.nLen L) (A.nLen L):=by subst hA;rfl
   have hroom:A.room (A.nLen (A.lApp L [.agg [.int .i64 pw,.list 1 tp]])) 32:=by
    subst hA
    show (L++[_]).length*(32+1)<=140737488355328
    rw [Zyg,Zyt];omega
   rw [<-htp]
   conv=>cbv
   refine ⟨⟨htk,hroom⟩,hR (A.lApp L [.agg [.int .i64 pw,.list 1 tp]]) _ ?_ hnext⟩
   conv=>cbv
   exact Zk
  ·intro L hL
   rw [Zyl (by simp)] at hL
   conv=>cbv
   rw [<-hq,hL]
 ·have hall:ZX t f o=[]:=by rw [ZX,if_neg h0]
  rw [hall]
  generalize Za7 t f o=cn at hcnt
  generalize ZN t f o=ce at hcnt h0
  clear hpl hall
  refine Zc.le (p:=.tup [.list 0 [],.int .i64 ce]) (args':=[Zn t,Zx f,Z2 o]) ?_ (.cons (.refl _) (.cons (.refl _) (.cons (.refl _) .nil))) (.tup _ _ rfl λ i x y hx hy=>?_)
  ·refine Zb (clo:=λ _=>false) (rows:=false) Zg Tryz.func16 rfl (enters_of Tryz.func16 (by kernel_rfl) rfl) (λ A q P Y hr hA hq=>?_)
   obtain ⟨ss,cs,ws,ms,ks,nv,hss,hcs,hws,hms,hks,hnv,htab⟩:=Qd t
   rw [htab] at hcnt ⊢
   obtain ⟨f1,f2,f3,f4,f5,⟨f6,f7⟩,f8⟩:=f
   obtain ⟨fl,hfl⟩:∃fl,fl=Zd f5:=⟨_,rfl⟩
   rw [Zs _ hfl] at hcnt ⊢
   obtain ⟨o1,o2,o3,o4⟩:=o
   simp only at hcnt ⊢
   conv=>cbv
   refine Za hA (hcnt) ?_
   conv=>cbv
   split
   rotate_left
   ·rename_i hc
    cases ((h0 (neF hA hc)))
   conv=>cbv
   exact hq
  ·match i,hx,hy with
   | 0,hx,hy=>simp at hx hy;subst hx hy;exact .nil _ _
   | 1,hx,hy=>simp at hx hy;subst hx hy;exact .refl _
   | i+2,hx,hy=>simp at hx
def ZgL (t:Zh) (s:List Zr) (f:Flight) (ann o:Opt):PV :=
 .agg [.int .i64 (if o.Cancel then 120 else (ZL t f o).1),.int .i64 (if o.Cancel then 120*Y4 t f else (ZL t f o).2.1),.int .i64 (if o=ann then 0 else 1),if o.Cancel then .list 0 [] else .list 4 (ZP (Qu t s f.Class (ZX t f o)))]
theorem ZvK (t:Zh) (s:List Zr) (f:Flight) (ann o:Opt):LeP (ZgL t s f ann o) (YJ (ZaZ t s f ann o)):=by
 refine .agg _ _ rfl λ i x y hx hy=>?_
 match i,hx,hy with
 | 0,hx,hy=>simp [ZaZ] at hx hy;subst hx hy;exact .refl _
 | 1,hx,hy=>simp [ZaZ] at hx hy;subst hx hy;exact .refl _
 | 2,hx,hy=>simp [ZaZ] at hx hy;subst hx hy;exact .refl _
 | 3,hx,hy =>
  simp [ZaZ] at hx hy
  subst hx hy
  cases o.Cancel with
  | true=>exact .nil _ _
  | false=>exact .refl _
 | i+4,hx,hy=>simp at hx
theorem ZcR (nv:Int) (ss cs ws ms ks sc wl os:List PV) (f1 f2 f3 f6 f7:Int) (f4:ByteArray) (f8:Bool) (a1 a2 a3:Int) (a4:Bool) :
  Zc Tryz.prog 81 [.agg [.int .i64 nv,.list 5 ss,.list 3 cs,.list 3 ws,.list 1 ms,.list 6 ks],.agg [.list 3 sc],.agg [.int .i64 f1,.int .i64 f2,.int .i64 f3,.str f4,.list 1 wl,.int .i64 f6,.int .i64 f7,.bool f8],.agg [.int .i64 a1,.int .i64 a2,.int .i64 a3,.bool a4],.list 4 os]
   (.fn 149 [.ptr [.list 4 os] 0,.ptr [.int .i64 nv,.list 5 ss,.list 3 cs,.list 3 ws,.list 1 ms,.list 6 ks] 0,.ptr [.int .i64 f1,.int .i64 f2,.int .i64 f3,.str f4,.list 1 wl,.int .i64 f6,.int .i64 f7,.bool f8] 0,.ptr [.list 3 sc] 0,.ptr [.int .i64 a1,.int .i64 a2,.int .i64 a3,.bool a4] 0]):=by
 refine Zb (clo:=λ _=>false) (rows:=false) Zg Tryz.func81 rfl (enters_of Tryz.func81 (by kernel_rfl) rfl) (λ A q P Y hr hA hq=>?_)
 conv=>cbv
 exact hq
set_option maxRecDepth 10000 in
set_option maxHeartbeats 4000000 in
theorem Ztd (t:Zh) (s:List Zr) (f:Flight) (ann:Opt) (L:List Opt) (hc:Qj t s=0) (hf:Z8 t f=0) (hLp:∀o∈L,o.Cancel=true\/(ZX t f o).length<=150) (hLl:L.length<=1000000)
  {nv:Int} {ss cs ws ms ks sc wl os:List PV} (htab:Zn t=.agg [.int .i64 nv,.list 5 ss,.list 3 cs,.list 3 ws,.list 1 ms,.list 6 ks]) (hks:ks=ZY t.Kinds) (hsc:sc=Zz s) (hwl:wl=Zd f.Ways) (hos:os=Zq L) :
  Zde Tryz.prog 149 [.ptr [.list 4 os] 0,.ptr [.int .i64 nv,.list 5 ss,.list 3 cs,.list 3 ws,.list 1 ms,.list 6 ks] 0,.ptr [.int .i64 f.ID,.int .i64 f.Airline,.int .i64 f.Class,.str f.Call,.list 1 wl,.int .i64 f.Window.From,.int .i64 f.Window.To,.bool f.Cancel] 0,.ptr [.list 3 sc] 0,.ptr [.int .i64 ann.Delay,.int .i64 ann.Way,.int .i64 ann.Hold,.bool ann.Cancel] 0]
   (L.map λ o=>[Z2 o,ZgL t s f ann o]):=by
 refine Zch (clo:=λ n=>false) (rows:=false) Zg Tryz.func149 rfl (enters_of Tryz.func149 (by kernel_rfl) rfl) rfl (λ A P Y Y' y R hr hys hy hA hR=>?_)
 obtain ⟨k,hk,hk0,hL0,hL1,_,hW1,hW8,_⟩:=Qx hf
 have hkl:f.Class<t.Kinds.length:=by have:=(ZxZ.1 hk).1;omega
 have hwt:Y4 t f=k.Weight:=by rw [Y4,hk]
 have hall:=λ o=>Zn9 t f o
 have hdel:=λ o=>Zhu t f o
 have huse:=λ o (xs:List PV) (hx:xs=ZJ (ZX t f o)) (h:(ZX t f o).length<=150)=>ZrS t s f.Class (ZX t f o) hx h
 have hlr:∀o,Zct t s f.Class (ZX t f o) 1=.tup [.list 4 (ZP (Qu t s f.Class (ZX t f o))),.int .i64 0]:=λ o=>by
  have:=Zn7 (o:=o) hc hf
  unfold Zct Qu
  rw [if_neg (by rw [this];simp),if_pos this]
 have hyl:Y.ys.length=L.length:=by rw [hys];simp
 rw [Zys] at hR
 have hosl:os.length=L.length:=by rw [hos];simp [Zq]
 have hget:∀(i:Nat) (o:Opt),L[i]?=some o->Y.ys[i]?=some [Z2 o,ZgL t s f ann o]:=λ i o h=>by rw [hys,Zyh,h];rfl
 rw [htab,ZB hsc] at huse
 rw [htab] at hall hdel
 have hmul:A.iMul 120 k.Weight=120*k.Weight:=Zkb hA _ _
 obtain ⟨f1,f2,f3,f4,f5,⟨f6,f7⟩,f8⟩:=f
 rw [Zs _ hwl] at hall hdel
 obtain ⟨a1,a2,a3,a4⟩:=ann
 obtain ⟨k1,k2,k3,k4,k5,k6⟩:=k
 simp only at hk hk0 hkl hwt hW1 hW8 hall hdel huse hlr hmul ⊢
 conv=>cbv
 refine Zi hA (λ (k:Nat) s=>{ s.put (some 14) (.val (.int .i64 k)) with ax:=⟨s.ax.mp,k⟩ }) (λ k=>k<=L.length) (λ k=>L.length - k) 0 ?_ ?_ ?_
 ·conv=>cbv
  exact Zk
 ·exact ZyQ _
 intro R2 i hi0 hR2
 have hi0:i<=L.length:=hi0
 obtain ⟨j,hj⟩:∃j,j=(i:Int):=⟨_,rfl⟩
 rw [<-hj]
 conv=>cbv
 split
 rotate_left
 ·rename_i hc
  have hi:L.length<=i:=by have:=ZK hA rfl (Zl hA hosl) hc;omega
  conv=>cbv
  have h9:i=L.length:=Nat.le_antisymm hi0 hi
  exact hR _ (.inl h9)
 rename_i hc
 have hi:i<L.length:=by have:=ZE hA rfl (Zl hA hosl) hc;omega
 have hjs:A.iAdd j 1=((i+1:Nat):Int):=by rw [Z5 hA,hj];rfl
 have hjr:A.inR (A.iAdd j 1):=Zy hA hjs (by unfold Zj;omega)
 obtain ⟨o,ho⟩:∃o,L[i]?=some o:=⟨_,Zya hi⟩
 have hom:=hLp o (Zyb ho)
 have hgo:=hget i o ho
 have hallo:=hall o
 have hdelo:=hdel o
 have huseo:=huse o
 rw [hlr] at huseo
 unfold ZgL at hgo
 rw [hwt] at hgo
 clear hall hdel huse hlr hget
 generalize ZX t ⟨f1,f2,f3,f4,f5,⟨f6,f7⟩,f8⟩ o=PL at hallo huseo hom hgo
 generalize ZN t ⟨f1,f2,f3,f4,f5,⟨f6,f7⟩,f8⟩ o=ce at hallo
 generalize ZL t ⟨f1,f2,f3,f4,f5,⟨f6,f7⟩,f8⟩ o=dd at hdelo hgo
 obtain ⟨d1,d2,d3⟩:=dd
 obtain ⟨ps,hps⟩:∃ps,ps=ZJ PL:=⟨_,rfl⟩
 rw [<-hps] at hallo
 have huse2:=huseo ps hps
 clear huseo
 simp only at hdelo hgo
 generalize Qu t s f3 PL=UL at huse2 hgo
 obtain ⟨us,hus⟩:∃us,us=ZP UL:=⟨_,rfl⟩
 rw [<-hus] at huse2 hgo
 obtain ⟨o1,o2,o3,o4⟩:=o
 conv=>cbv
 refine Yn hA hos (by omega) (by omega) (λ z hz=>?_)
 rw [hj,ZyR] at hz
 obtain rfl:=Zyc (ho.symm.trans hz)
 clear hz
 conv=>cbv
 refine Q6 hA hks hk0 hkl (λ z v hz hv=>?_)
 obtain rfl:=Zyc (hk.symm.trans hz)
 clear hz hv
 conv=>cbv
 refine ⟨Zy hA hmul (by unfold Zj;omega),?_⟩
 have hfin:∀(st':St) (hw:Wk (0,0) st' _),R2 st':=λ st' hw=>hR2 (i+1) st' hw (by omega) (by omega)
 have hT:A.bNot true=false:=by subst hA;rfl
 have hF:A.bNot false=true:=by subst hA;rfl
 have hne:∀(x y:Opt) (b:Bool),b=A.bNot (A.bAnd (A.iEq x.Delay y.Delay) (A.bAnd (A.iEq x.Way y.Way) (A.bAnd (A.iEq x.Hold y.Hold) (A.bAnd (A.bEq x.Cancel y.Cancel) true))))->b=true->x≠y:=λ x y b h1 h2 e=>by
  subst hA
  rw [h1] at h2
  cases e
  simp [Ze] at h2
 have heq:∀(x y:Opt) (b:Bool),b=A.bNot (A.bAnd (A.iEq x.Delay y.Delay) (A.bAnd (A.iEq x.Way y.Way) (A.bAnd (A.iEq x.Hold y.Hold) (A.bAnd (A.bEq x.Cancel y.Cancel) true))))->b=false->x=y:=λ x y b h1 h2=>by
  subst hA
  rw [h1] at h2
  obtain ⟨x1,x2,x3,x4⟩:=x
  obtain ⟨y1,y2,y3,y4⟩:=y
  simp [Ze] at h2 ⊢
  exact h2
 have hne2:=hne ⟨o1,o2,o3,o4⟩ ⟨a1,a2,a3,a4⟩ _ rfl
 have heq2:=heq ⟨o1,o2,o3,o4⟩ ⟨a1,a2,a3,a4⟩ _ rfl
 clear hne heq
 cases o4 with
 | true =>
  rw [if_pos rfl,if_pos rfl,if_pos rfl,<-hmul] at hgo
  conv=>cbv
  split
  ·rename_i hc
   cases ((show False by have h9:true=false:=Yy hA hc;cases h9))
  conv=>cbv
  split
  ·rename_i hc
   rw [if_neg (hne2 hc)] at hgo
   conv=>cbv
   refine QE hA rfl hy hgo ?_ (λ n hn=>?_)
   ·conv=>cbv
    split
    ·rename_i hc
     cases ((show False by have h9:true=false:=Yy hA hc;cases h9))
    conv=>cbv
    refine ⟨hjr,hfin _ ?_⟩
    rw [<-hjs]
    (conv=>cbv)
    exact Zt (bx:=[]) (bx':=[_,_]) (mp:=[]) (mp':=[]) 
   ·conv=>cbv
    split
    rotate_left
    ·rename_i hc
     cases ((show False by have h9:false=true:=YP hA hc;cases h9))
    conv=>cbv
    exact hR _ (.inr (by rw [hn,hyl]))
  ·rename_i hc
   rw [if_pos (heq2 hc)] at hgo
   conv=>cbv
   refine QE hA rfl hy hgo ?_ (λ n hn=>?_)
   ·conv=>cbv
    split
    ·rename_i hc
     cases ((show False by have h9:true=false:=Yy hA hc;cases h9))
    conv=>cbv
    refine ⟨hjr,hfin _ ?_⟩
    rw [<-hjs]
    (conv=>cbv)
    exact Zt (bx:=[]) (bx':=[_,_]) (mp:=[]) (mp':=[]) 
   ·conv=>cbv
    split
    rotate_left
    ·rename_i hc
     cases ((show False by have h9:false=true:=YP hA hc;cases h9))
    conv=>cbv
    exact hR _ (.inr (by rw [hn,hyl]))
 | false =>
  have hP:PL.length<=150:=by
   rcases hom with h | h
   ·cases h
   ·exact h
  have huse:=huse2 hP
  simp only [Zzf,if_false] at hgo
  conv=>cbv
  split
  rotate_left
  ·rename_i hc
   cases ((show False by have h9:false=true:=YP hA hc;cases h9))
  conv=>cbv
  refine Za hA (hallo) ?_
  conv=>cbv
  refine Za hA (huse) ?_
  conv=>cbv
  refine Za hA (hdelo) ?_
  conv=>cbv
  split
  ·rename_i hc
   rw [if_neg (hne2 hc)] at hgo
   conv=>cbv
   refine QE hA rfl hy hgo ?_ (λ n hn=>?_)
   ·conv=>cbv
    split
    ·rename_i hc
     cases ((show False by have h9:true=false:=Yy hA hc;cases h9))
    conv=>cbv
    refine ⟨hjr,hfin _ ?_⟩
    rw [<-hjs]
    (conv=>cbv)
    exact Zt (bx:=[]) (bx':=[_,_]) (mp:=[]) (mp':=[]) 
   ·conv=>cbv
    split
    rotate_left
    ·rename_i hc
     cases ((show False by have h9:false=true:=YP hA hc;cases h9))
    conv=>cbv
    exact hR _ (.inr (by rw [hn,hyl]))
  ·rename_i hc
   rw [if_pos (heq2 hc)] at hgo
   conv=>cbv
   refine QE hA rfl hy hgo ?_ (λ n hn=>?_)
   ·conv=>cbv
    split
    ·rename_i hc
     cases ((show False by have h9:true=false:=Yy hA hc;cases h9))
    conv=>cbv
    refine ⟨hjr,hfin _ ?_⟩
    rw [<-hjs]
    (conv=>cbv)
    exact Zt (bx:=[]) (bx':=[_,_]) (mp:=[]) (mp':=[]) 
   ·conv=>cbv
    split
    rotate_left
    ·rename_i hc
     cases ((show False by have h9:false=true:=YP hA hc;cases h9))
    conv=>cbv
    exact hR _ (.inr (by rw [hn,hyl]))
end Go.Abs
namespace Go.Abs
open Go.RowKit
theorem Zp6 {E:Env} (hE:ZQ E) (hY:E.Y=.none) {f:FuncId} {fn:Func} {c:Code} (hf:E.P.funcs[f]?=some fn) (hb:fn.body=some c) (he:ZaJ E.P f) {args:List PV} {p:PV}
  (h:Qz args->wpC E c (0,0) ⟨args.map .val++List.replicate (fn.ntmps - args.length) .undef,[],[],⟨[],0⟩⟩ λ e st=>match e with | .exit _=>False | _=>∃st1,Wk (0,0) st st1/\Zgf E fn.results.toList st1 p):Zc E.P f args p:=by
 refine ⟨he,λ S w vs hS hv=>?_⟩
 rw [<-callsIn_wide (n:=0)]
 refine callsIn_of_wp_marks hf hb trivial ?_ rfl
 have R:=Rel.start (E:=E) hY S w args vs (fn.ntmps - args.length) hS hv
 have hlen:vs.toArray.size=args.length:=by simp [hv.1]
 rw [hlen]
 have hw:=ZmZ hE c (0,0) w.heap.size none 0 w.heap.size S w [] _ _ S w (by simp) ⟨by simp,λ _=>rfl⟩ _ _ _ S w _ [] (h ⟨S,w,vs,hS,hv⟩) R (Ext.refl _ _ _ _) ⟨⟨[],rfl,Z0C,by simp⟩,λ x hx=>(by cases hx),Zyp _⟩
 refine wpIn_mono hw λ e a' w' hq=>Zjl (Zyp _) (Zyp _) hq (λ i st h=>h) ?_
 intro e st G S' w' hr R' X'
 have fin0:∀(st:St) (G:Gh) (S':Addr->Prop),Zi3 E fn.results.toList st p->Rel E w.heap.size S w st G S' w' a'.tmps ->
   ∃v,(results fn a'.tmps).run E.P w'=.ok v w'/\∃v',Ending.returned v=.returned v'/\Below w.heap.size w w'/\RV (ZnS S w w') w' p v':=by
  intro st G S' hr R'
  obtain ⟨v,h1,h2⟩:=Zg5 hE R' hr
  refine ⟨v,h1,v,rfl,R'.below,RV.mono (λ a ha=>?_) (λ _ _=>Qq.refl _ _) h2⟩
  rcases R'.inv.s0 a ha with h | h
  ·exact .inl h
  ·exact .inr ⟨h,R'.inv.slt a ha⟩
 have hr':∃st1,Wk (0,0) st st1/\Zgf E fn.results.toList st1 p:=by cases e<;>first | exact hr | exact hr.elim
 obtain ⟨st1,hW,hr'⟩:=hr'
 obtain ⟨G1,R1,_,_⟩:=Rel.wk (nb:=(0,0)) (by simp) ⟨by simp,λ _=>rfl⟩ hW R' X'
 unfold Zgf at hr'
 split at hr'
 ·exact fin0 st1 G1 S' hr' R1
 ·obtain ⟨st',hF,hr'⟩:=hr'
  obtain ⟨S2,R2,_,_,_⟩:=hF.ok (vs:=[]) R1 (λ i s v h=>by simp at h)
  exact fin0 st' G1 S2 hr' R2
theorem Zf3 {P:Program} {T:TypeId->TD} {clo:FuncId->Bool} {rows:Bool} (hE:ZQ ⟨P,T,clo,rows,.none⟩) {f:FuncId} {fn:Func} {c:Code} (hf:P.funcs[f]?=some fn) (hb:fn.body=some c) (he:ZaJ P f) {args:List PV} {p:PV}
  (h:∀A q P' Y (R:St->Prop),Qz args->A=Ze ⟨P,T,clo,rows,.none⟩->p=q->(∀st st1,Wk (0,0) st st1->Zgf ⟨P',T,clo,rows,Y⟩ fn.results.toList st1 q->R st) ->
   QD A ⟨P',T,clo,rows,Y⟩ c (0,0) ⟨args.map .val++List.replicate (fn.ntmps - args.length) .undef,[],[],⟨[],0⟩⟩ λ e st=>match e with | .exit _=>False | _=>R st):Zc P f args p :=
 Zp6 (E:=⟨P,T,clo,rows,.none⟩) hE rfl hf hb he λ hr=>ZdL (E:=⟨P,T,clo,rows,.none⟩) (h _ _ P .none _ hr rfl rfl λ st st1 h1 h2=>⟨st1,h1,h2⟩)
open Go.Proofs
theorem Zte:Zc Tryz.prog 79 [.list 4 []] (.list 4 []):=by
 refine Zf3 (clo:=λ n=>n == 2000000+75) (rows:=true) Zg Tryz.func79 rfl (enters_of Tryz.func79 (by kernel_rfl) rfl) (λ A q P Y R hr hA hq hR=>?_)
 conv=>cbv
 refine ⟨λ _=>?_,?_⟩
 ·conv=>cbv
  refine hR _ ⟨[.val (.list 4 []),.undef,.val (.list 4 []),.val (.list 4 []),.val .any,.undef,.undef,.undef],[],[],⟨[],0⟩⟩ (Zk ⟨ZcF _,ZcF _,.inr (.inr ⟨rfl,0,rfl,λ _=>rfl⟩),ZcF _,trivial,ZcF _,ZcF _,ZcF _,trivial⟩) ⟨_,Frz.refl _ _,(by (conv=>cbv);exact hq)⟩
 ·conv=>cbv
  have hroom:A.room (A.nLen (A.lApp [] [])) 32:=by subst hA;show 0*(32+1)<=140737488355328;decide
  have hap:A.lApp [] []=[]:=by subst hA;rfl
  refine ⟨hroom,hR _ _ (Wk.refl _) ⟨_,Frz.refl _ _,(by (conv=>cbv);exact (congrArg (PV.list 4) hap).trans hq)⟩⟩
theorem Zl2 (caps:List PV):Zc Tryz.prog 148 [.list 4 [],.fn 80 caps] (.int .i64 (-1)):=by
 refine Zb (clo:=λ _=>false) (rows:=false) Zg Tryz.func148 rfl (enters_of Tryz.func148 (by kernel_rfl) rfl) (λ A q P Y hr hA hq=>?_)
 have hl:A.lLen []=0:=by subst hA;rfl
 conv=>cbv
 refine Zi hA (λ (i:Int) s=>s.put (some 8) (.val (.int .i64 i))) (λ i=>i=0) (λ i=>0) 0 ?_ ?_ ?_
 ·conv=>cbv
  exact Zk
 ·rfl
 rintro R i rfl hR
 conv=>cbv
 split
 ·rename_i hc
  cases ((show False by have:=ZE hA rfl hl hc;omega))
 conv=>cbv
 exact hq
theorem ZkE (caps:List PV):Zc Tryz.prog 78 [.list 4 [],.fn 80 caps] (.list 4 []):=by
 refine Zb (clo:=λ _=>false) (rows:=false) Zg Tryz.func78 rfl (enters_of Tryz.func78 (by kernel_rfl) rfl) (λ A q P Y hr hA hq=>?_)
 conv=>cbv
 refine Za hA ((Zl2 caps)) ?_
 conv=>cbv
 split
 rotate_left
 ·rename_i hc
  cases ((show False by exact eqF hA hc rfl))
 conv=>cbv
 exact hq
def ZxK:PV:=.agg [.any,.any,.any,.any]
def Ziq (l:List Opt) (k:Nat):List PV:=Zq l++List.replicate k ZxK
theorem ZnA (l:List Opt) (k:Nat):Yc l++List.replicate (k*4) (SV.val .any)=((Ziq l k).flatMap PV.cells).map SV.val:=by
 unfold Ziq
 rw [Zza,ZyX,Zp1]
 congr 1
 induction k with
 | zero=>rfl
 | succ k ih =>
  rw [List.replicate_succ,ZyW,ZyX,<-ih,Z0j,Zz2,<-List.replicate_append_replicate]
  rfl
theorem Zrr (l:List Opt) (k:Nat):∀x∈Ziq l k,x.cells.length=4:=by
 intro x hx
 rcases Zy4.1 hx with hx | hx
 ·obtain ⟨o,_,rfl⟩:=Zyz.1 hx
  rfl
 ·rw [(ZzG.1 hx).2];rfl
theorem Zrs (l:List Opt) (k id cap:Nat) {n:Nat} (hn:n=l.length):Zcw id 4 (Ziq l k) (.row id 0 4 n cap)=.val (.list 4 (Zq l)):=by
 unfold Zcw Ziq
 have hl:(Zq l).length=n:=by rw [hn];simp [Zq]
 simp only
 rw [if_pos ⟨trivial,trivial,trivial,by rw [Zyg];omega⟩,Zzx hl]
theorem ZfR {t:Zh} {f:Flight} {o:Opt} (h:o∈ZZ t f):Z8 t f=0/\Zj (f.Window.From+o.Delay):=by
 have hm:=(ZyB.1 h).1
 unfold ZC at hm
 split at hm
 ·rename_i hc
  obtain ⟨k,hk,hc0,hL0,hL1,_⟩:=Qx hc
  rw [Zat,hk] at hm
  have h1:=Zif hL0 hL1 hm
  have h2:=(ZaN hc).2
  simp only [YW,Zyi,Zzt] at h2
  obtain ⟨⟨⟨⟨⟨⟨⟨⟨_,_⟩,_⟩,_⟩,_⟩,_⟩,hw⟩,_⟩,_⟩:=h2
  simp at hw
  exact ⟨hc,by unfold Zj;omega⟩
 ·cases hm
theorem ZuD (t:Zh) (f:Flight) (now:Int):(ZZ t f).filter (λ o=>!!Zh7 f now o)=ZbL t f now:=by
 unfold ZbL
 congr 1
 funext o
 simp
open Go.Proofs
theorem Zrt (k:Y3) (a m:Int) (h0:0<=a):Zc Tryz.prog 93 [ZU k,.int .i64 a,.int .i64 m] (.bool (ZaY k a m)):=by
 refine Zb (clo:=λ _=>false) (rows:=false) Zg Tryz.func93 rfl (enters_of Tryz.func93 (by kernel_rfl) rfl) (λ A q P Y hr hA hq=>?_)
 obtain ⟨k1,k2,k3,k4,k5,cs⟩:=k
 obtain ⟨xs,hxs⟩:∃xs,xs=Z3 cs:=⟨_,rfl⟩
 have hxl:xs.length=cs.length:=by rw [hxs];simp [Z3]
 have he:ZU ⟨k1,k2,k3,k4,k5,cs⟩=.agg [.int .i64 k1,.int .i64 k2,.int .i64 k3,.int .i64 k4,.int .i64 k5,.list 1 xs]:=by rw [hxs];rfl
 rw [he]
 unfold ZaY at hq
 simp only at hq
 conv=>cbv
 split
 ·rename_i hc
  have g:a<cs.length:=ZE hA rfl (Zl hA hxl) hc
  conv=>cbv
  refine ZdP hA hxs h0 g (λ x v hx hv=>?_)
  rw [hx] at hq
  have hq:PV.bool (Zaj x m)=q:=hq
  have hh:=ZsJ x m hv
  generalize Zaj x m=b at hh hq
  conv=>cbv
  refine Za hA (hh) ?_
  conv=>cbv
  exact hq
 ·rename_i hc
  have g:(cs.length:Int)<=a:=ZK hA rfl (Zl hA hxl) hc
  rw [Zyw (by omega)] at hq
  conv=>cbv
  exact hq
theorem Zf4:∀(ls:List Leg) (ts:List Int),Zak ls ts=true↔∀(k:Nat) (x:Leg) (a b:Int),ls[k]?=some x->ts[k]?=some a->ts[k+1]?=some b->ZaI x.Minutes ⟨a,b⟩=true
 | [],ts=>by simp [Zak]
 | x::r,[]=>by simp [Zak]
 | x::r,[a]=>by
  simp only [Zak,true_iff]
  intro k y u v h1 h2 h3
  simp at h3
 | x::r,a::b::ts=>by
  simp only [Zak,Zyi,Zf4 r (b::ts)]
  constructor
  ·rintro ⟨h0,h⟩ k y u v h1 h2 h3
   cases k with
   | zero =>
    simp at h1 h2 h3
    subst h1 h2 h3
    exact h0
   | succ k=>exact h k y u v (by simpa using h1) (by simpa using h2) (by simpa using h3)
  ·intro h
   exact ⟨h 0 x a b rfl rfl rfl,λ k y u v h1 h2 h3=>h (k+1) y u v (by simpa using h1) (by simpa using h2) (by simpa using h3)⟩
theorem ZiQ:∀(ls:List Leg) (ts:List Int) (k:Nat) (r:List PV),(QL ls ts)[k]?=some r->∃(x:Leg) (a b:Int),r=[Zac x,Y8 ⟨a,b⟩]/\ls[k]?=some x/\ts[k]?=some a/\ts[k+1]?=some b
 | [],_,k,r,h=>by simp [QL] at h
 | _::_,[],k,r,h=>by simp [QL] at h
 | _::_,[_],k,r,h=>by simp [QL] at h
 | y::q,u::v::ts,0,r,h=>by simp [QL] at h;exact ⟨y,u,v,h.symm,rfl,rfl,rfl⟩
 | y::q,u::v::ts,k+1,r,h=>by
  simp only [QL,Zz5] at h ⊢
  exact ZiQ q (v::ts) k r h
def ZgM (t:Zh):Prop:=∀w∈t.Ways,∀x∈w.Legs,x.Minutes.length<=1000000
theorem Zp7 {t:Zh} (h:Qe t=true) {w:Way} (hw:w∈t.Ways):0<=w.From/\0<=w.To:=by
 unfold Qe at h
 simp only [Zyi,Zym] at h
 have:=h.1.1.2 w hw
 simp only [Zcj,inB,Zyi,Zyf] at this
 omega
set_option maxRecDepth 10000 in
set_option maxHeartbeats 4000000 in
theorem ZiR (t:Zh) (f:Flight) (o:Opt) (hfew:ZgM t):Zc Tryz.prog 37 [Zn t,Zx f,Z2 o] (.int .i64 (QP t f o)):=by
 refine Zb (clo:=λ n=>n == 1000011) (rows:=false) Zg Tryz.func37 rfl (enters_of Tryz.func37 (by kernel_rfl) rfl) (λ A q P Y hr hA hq=>?_)
 have hdel:=Zhu t f o
 have hall:=Zn9 t f o
 have hcv:=λ (x:Leg) (s:Y2) (xs:List PV) (hx:xs=Z4 x.Minutes) (hl:x.Minutes.length<=1000000)=>Zny x.Minutes s hx hl
 have hE:QP t f o=if (ZL t f o).2.2≠0 then (ZL t f o).2.2 else if o.Cancel then 0 else if ZN t f o≠0 then ZN t f o else if Zdu t f o then 0 else 170:=rfl
 have hflw:=λ (hc:ZN t f o=0) (p:Qo) (hp:p∈ZX t f o)=>ZcL hc hp
 have hpl:=λ (hc:ZN t f o=0)=>Yz (QI hc).1
 have hao:Zdu t f o=match t.Kinds[f.Class.toNat]? with | some k=>(ZX t f o).all (ZbF t k) | none=>false:=rfl
 have hdl:=λ (h:ZN t f o=0)=>show (ZL t f o).2.2=0/\o.Cancel=false by
  obtain ⟨k,w,hP⟩:=Yz (QI h).1
  exact ⟨hP.del,hP.can⟩
 generalize QP t f o=ae at hE hq
 generalize ZL t f o=dd at hdel hE hdl
 obtain ⟨d1,d2,d3⟩:=dd
 generalize ZN t f o=ce at hall hE hflw hpl hdl
 generalize Zdu t f o=ao at hao hE
 have hPl:(ZX t f o).length<=4096:=by
  unfold ZX
  split
  ·rw [Zys,ZcK]
   exact (QI (by assumption)).2
  ·simp
 obtain ⟨PL,hPL⟩:∃PL,PL=ZX t f o:=⟨_,rfl⟩
 rw [<-hPL] at hao hflw hall hPl
 obtain ⟨ps,hps⟩:∃ps,ps=ZJ PL:=⟨_,rfl⟩
 rw [<-hps] at hall
 have hpsl:ps.length=PL.length:=by rw [hps];simp [ZJ]
 simp only at hdel hE
 obtain ⟨ss,cs,ws,ms,ks,nv,hss,hcs,hws,hms,hks,hnv,htab⟩:=Qd t
 rw [htab] at hdel hall ⊢
 obtain ⟨f1,f2,f3,f4,f5,⟨f6,f7⟩,f8⟩:=f
 obtain ⟨fl,hfl⟩:∃fl,fl=Zd f5:=⟨_,rfl⟩
 rw [Zs _ hfl] at hdel hall ⊢
 obtain ⟨o1,o2,o3,o4⟩:=o
 simp only at hE hao hdel hall hpl hdl ⊢
 refine Zf (λ R hR=>?_)
 conv=>cbv
 refine hR _ ?_
 clear hR
 refine Zf (λ R hR=>?_)
 refine Zf (λ R0 hR0=>?_)
 conv=>cbv
 refine Za hA (hdel) ?_
 conv=>cbv
 refine hR0 _ ?_
 clear hR0
 conv=>cbv
 have hgood:∀n,ae=n->PV.int .i64 n=q:=λ n h=>by rw [<-hq,h]
 split
 ·rename_i hc
  have g:d3≠0:=neT hA hc
  rw [if_pos g] at hE
  conv=>cbv
  exact hgood _ hE
 rename_i hc
 have g:d3=0:=neF hA hc
 rw [if_neg (by rw [g];decide)] at hE
 conv=>cbv
 cases o4 with
 | true =>
  rw [if_pos rfl] at hE
  conv=>cbv
  exact hgood _ (hE.trans g.symm)
 | false =>
 rw [if_neg (by decide)] at hE
 conv=>cbv
 refine hR _ ?_
 clear hR hdel
 refine Zf (λ R hR=>?_)
 conv=>cbv
 refine Za hA (hall) ?_
 conv=>cbv
 refine hR _ ?_
 clear hR
 refine Zf (λ R hR=>?_)
 conv=>cbv
 split
 ·rename_i hc
  have g2:ce≠0:=neT hA hc
  rw [if_pos g2] at hE
  conv=>cbv
  exact hgood _ hE
 rename_i hc
 have g2:ce=0:=neF hA hc
 rw [if_neg (by rw [g2];decide)] at hE
 obtain ⟨k,w0,hP⟩:=hpl g2
 have hflw:=hflw g2
 have hk:=hP.hk
 have hk0:=hP.k0
 have hair:=(ZaN hP.chk).1
 have hf3:f3<t.Kinds.length:=by have:=(ZxZ.1 hk).1;simp only at this hk0;omega
 simp only at hk hk0
 rw [hk] at hao
 have hao:ao=PL.all (ZbF t k):=hao
 clear hP hpl hall
 refine hR _ ?_
 clear hR
 have hcur:=λ a m h=>Zrt k a m h
 have hop:∀p w,t.Ways[p.Way.toNat]?=some w->ZbF t k p=Zh6 k w p.Times:=λ p w h=>by unfold ZbF;rw [h]
 obtain ⟨k1,k2,k3,k4,k5,k6⟩:=k
 obtain ⟨cl,hcl⟩:∃cl,cl=Z3 k6:=⟨_,rfl⟩
 have hke2:ZU ⟨k1,k2,k3,k4,k5,k6⟩=.agg [.int .i64 k1,.int .i64 k2,.int .i64 k3,.int .i64 k4,.int .i64 k5,.list 1 cl]:=by rw [hcl];rfl
 have hke:∀v,v=Z3 k6->v=cl:=λ v h=>h.trans hcl.symm
 refine Zf (λ R hR=>?_)
 conv=>cbv
 refine Q6 hA hks hk0 hf3 (λ z v hz hv=>?_)
 obtain rfl:=Zyc (hk.symm.trans hz)
 obtain rfl:=hke v hv
 clear hz hv
 conv=>cbv
 refine hR _ ?_
 clear hR
 refine Zf (λ R hR=>?_)
 conv=>cbv
 refine hR _ ?_
 clear hR
 refine Zf (λ R hR=>?_)
 conv=>cbv
 refine Zi hA (λ (i:Int) s=>s.put (some 51) (.val (.int .i64 i))) (λ i=>0<=i/\i<=PL.length/\∀p∈PL.take i.toNat,ZbF t ⟨k1,k2,k3,k4,k5,k6⟩ p=true) (λ i=>(PL.length - i).toNat) 0 ?_ ?_ ?_
 ·conv=>cbv
  exact Zk
 ·exact ⟨Zyk _,by omega,by simp⟩
 rintro R2 i ⟨hi0,hi1,hi2⟩ hR2
 refine Zf (λ R3 hR3=>?_)
 conv=>cbv
 refine hR3 _ ?_
 clear hR3
 refine Zf (λ R3 hR3=>?_)
 conv=>cbv
 split
 rotate_left
 ·rename_i hc
  have hi:(PL.length:Int)<=i:=ZK hA rfl (Zl hA hpsl) hc
  rw [Zyl (by omega)] at hi2
  conv=>cbv
  refine hR _ ?_
  conv=>cbv
  exact hgood _ (by rw [hE,hao,Zym.2 hi2,g2];rfl)
 rename_i hc
 have hi:i<PL.length:=ZE hA rfl (Zl hA hpsl) hc
 have his:A.iAdd i 1=i+1:=Z5 hA _ _
 have hir:A.inR (A.iAdd i 1):=Zy hA his (by unfold Zj;omega)
 obtain ⟨p,hp⟩:∃p,PL[i.toNat]?=some p:=⟨_,Zya (show i.toNat<PL.length by omega)⟩
 have hpm:=Zyb hp
 obtain ⟨w,hw⟩:=hflw p hpm
 have hopp:=hop p w hw.hw
 have hbad:ZbF t ⟨k1,k2,k3,k4,k5,k6⟩ p=false->PV.int .i64 170=q:=λ h=>hgood _ (by
  rw [hE,hao]
  have:PL.all (ZbF t ⟨k1,k2,k3,k4,k5,k6⟩)=false:=by
   rw [Z0t]
   exact ⟨p,hpm,by rw [h];decide⟩
  rw [this];rfl)
 have hnx:ZbF t ⟨k1,k2,k3,k4,k5,k6⟩ p=true->0<=A.iAdd i 1/\A.iAdd i 1<=PL.length/\∀p∈PL.take (A.iAdd i 1).toNat,ZbF t ⟨k1,k2,k3,k4,k5,k6⟩ p=true:=λ h=>by
  rw [his]
  exact ⟨by omega,by omega,ZS (Zo hi0 hp) hi2 h⟩
 rw [hopp] at hbad hnx
 clear hop hgood hflw hopp hao hE
 refine hR3 _ ?_
 clear hR3
 refine Zf (λ R3 hR3=>?_)
 refine Zc9 (λ R4 hR4=>?_)
 conv=>cbv
 refine ZdQ hA hps hi0 hi (λ z ts hz hts=>?_)
 obtain rfl:=Zyc (hp.symm.trans hz)
 clear hz
 have htl:ts.length=p.Times.length:=by rw [hts];simp [Zd]
 have hll:A.iSub (A.lLen ts) 1=(w.Legs.length:Int):=by rw [ZbJ hA,Zl hA htl,hw.len];omega
 obtain ⟨m0,hm0⟩:∃m,p.Times[0]?=some m:=⟨_,Zya (show 0<p.Times.length by rw [hw.len];omega)⟩
 obtain ⟨m1,hm1⟩:∃m,p.Times[w.Legs.length]?=some m:=⟨_,Zya (show w.Legs.length<p.Times.length by rw [hw.len];omega)⟩
 have hh0:p.Times.headD 0=m0:=by rw [List.headD_eq_head?_getD,List.head?_eq_getElem?,hm0];rfl
 have hh1:p.Times.getLastD 0=m1:=by rw [Zzz,ZzC,hw.len,Nat.add_sub_cancel,hm1];rfl
 have hob:Zh6 ⟨k1,k2,k3,k4,k5,k6⟩ w p.Times=(decide (m1<1440)&&!ZaY ⟨k1,k2,k3,k4,k5,k6⟩ w.From m0&&!ZaY ⟨k1,k2,k3,k4,k5,k6⟩ w.To m1&&Zak w.Legs p.Times):=by
  unfold Zh6
  rw [hh0,hh1]
 rw [hob] at hbad hnx
 have hwm:=Zyb hw.hw
 have hft:=Zp7 hair hwm
 have hc0:=hcur w.From m0 hft.1
 have hc1:=hcur w.To m1 hft.2
 rw [hke2] at hc0 hc1
 have hlen:=hw.len
 have hw0:=hw.w0
 have hww:=hw.hw
 have hl8:=hw.l1
 have hsr:A.inR (A.iSub (A.lLen ts) 1):=Zy hA hll (by unfold Zj;omega)
 have hrows:=ZiQ w.Legs p.Times
 have hseq:=λ h0=>ZlY t p w h0 hww hlen hl8.2 (ss:=ss) (cs:=cs) (ms:=ms) (ks:=ks) hws hts
 have hlgs:=ZoG t.Volumes p.Way ss cs ws ms ks ts
 rw [<-hnv] at hlgs hseq
 have hcov:=Zf4 w.Legs p.Times
 have hmin:=hfew w hwm
 obtain ⟨way,T⟩:=p
 obtain ⟨w1,w2,wl⟩:=w
 simp only at *
 obtain ⟨lg,hlg⟩:∃lg,lg=Qp wl:=⟨_,rfl⟩
 conv=>cbv
 refine hR4 _ ?_
 clear hR4 hw
 refine Zf (λ R4 hR4=>?_)
 refine Zdm rfl [.box 0 3,.val (.list 3 ws),.box 5 0,.val (.int .i64 way),.val (.ptr [.int .i64 w1,.int .i64 w2,.list 4 lg] 0),.val (.agg [.int .i64 w1,.int .i64 w2,.list 4 lg]),.box 5 1,.val (.list 1 ts),.box 5 1,.val (.list 1 ts),.val (.int .i64 (A.lLen ts)),.val (.int .i64 (A.iSub (A.lLen ts) 1)),.val (.ptr [.int .i64 m1] 0),.val (.int .i64 m1),.box 6 0,.undef,.val (.int .i64 m1)]
  (λ L=>[some [.val (.int .i64 nv),.val (.list 5 ss),.val (.list 3 cs),.val (.list 3 ws),.val (.list 1 ms),.val (.list 6 ks)],some [.val (.int .i64 f1),.val (.int .i64 f2),.val (.int .i64 f3),.val (.str f4),.val (.list 1 fl),.val (.int .i64 f6),.val (.int .i64 f7),.val (.bool f8)],
   some [.val (.int .i64 o1),.val (.int .i64 o2),.val (.int .i64 o3),.val (.bool false)],some [.val (.int .i64 ce)],some [.val (.int .i64 k1),.val (.int .i64 k2),.val (.int .i64 k3),.val (.int .i64 k4),.val (.int .i64 k5),.val (.list 1 v)],some [.val (.int .i64 way),.val (.list 1 ts)]]++(match L 14 with | true=>[some [.val (.int .i64 (cond (L 15) w1 0)),.val (.int .i64 (cond (L 15) w2 0)),cond (L 15) (.val (.list 4 lg)) (.lit 0 [])]] | false=>[]))
  (by conv=>lhs;cbv) (λ L L' h=>by simp only [h 14 (by decide),h 15 (by decide)]) rfl ?_ ?_
 ·intro L i' o hi' hL hC he K' hK'
  rcases i' with _ | i'
  ·cases hi'
   conv=>cbv
   refine cast (congrArg K' ?_) hK'
   conv=>lhs;cbv
   rw [show QX L 0 15=L 15 from rfl]
  rcases i' with _ | i'
  ·cases hi'
   have h0:L 0=true:=he ⟨0,.data⟩ (by simp) rfl
   conv=>cbv
   simp only [h0]
   conv=>cbv
   refine cast (congrArg K' ?_) hK'
   conv=>lhs;cbv
   simp only [h0]
   rw [show QX L 1 15=L 15 from rfl]
  rcases i' with _ | i'
  ·cases hi'
   conv=>cbv
   refine cast (congrArg K' ?_) hK'
   conv=>lhs;cbv
   rw [show QX L 2 15=L 15 from rfl]
  rcases i' with _ | i'
  ·cases hi'
   have h2:L 2=true:=he ⟨2,.data⟩ (by simp) rfl
   conv=>cbv
   simp only [h2]
   conv=>cbv
   refine cast (congrArg K' ?_) hK'
   conv=>lhs;cbv
   simp only [h2]
   rw [show QX L 3 15=L 15 from rfl]
  rcases i' with _ | i'
  ·cases hi'
   have h1:L 1=true:=he ⟨1,.data⟩ (by simp) rfl
   have h3:L 3=true:=he ⟨3,.data⟩ (by simp) rfl
   conv=>cbv
   simp only [h1,h3]
   conv=>cbv
   refine Ym hA hws hw0.1 hw0.2 (λ z lg' hz hlg'=>?_)
   obtain rfl:=Zyc (hww.symm.trans hz)
   obtain rfl:=hlg.trans hlg'.symm
   conv=>cbv
   refine cast (congrArg K' ?_) hK'
   conv=>lhs;cbv
   simp only [h1,h3]
   rw [show QX L 4 15=L 15 from rfl]
  rcases i' with _ | i'
  ·cases hi'
   have h4:L 4=true:=he ⟨4,.data⟩ (by simp) rfl
   conv=>cbv
   simp only [h4]
   conv=>cbv
   refine cast (congrArg K' ?_) hK'
   conv=>lhs;cbv
   simp only [h4]
   rw [show QX L 5 15=L 15 from rfl]
  rcases i' with _ | i'
  ·cases hi'
   conv=>cbv
   refine cast (congrArg K' ?_) hK'
   conv=>lhs;cbv
   rw [show QX L 6 15=L 15 from rfl]
  rcases i' with _ | i'
  ·cases hi'
   have h6:L 6=true:=he ⟨6,.data⟩ (by simp) rfl
   conv=>cbv
   simp only [h6]
   conv=>cbv
   refine cast (congrArg K' ?_) hK'
   conv=>lhs;cbv
   simp only [h6]
   rw [show QX L 7 15=L 15 from rfl]
  rcases i' with _ | i'
  ·cases hi'
   conv=>cbv
   refine cast (congrArg K' ?_) hK'
   conv=>lhs;cbv
   rw [show QX L 8 15=L 15 from rfl]
  rcases i' with _ | i'
  ·cases hi'
   have h8:L 8=true:=he ⟨8,.data⟩ (by simp) rfl
   conv=>cbv
   simp only [h8]
   conv=>cbv
   refine cast (congrArg K' ?_) hK'
   conv=>lhs;cbv
   simp only [h8]
   rw [show QX L 9 15=L 15 from rfl]
  rcases i' with _ | i'
  ·cases hi'
   have h9:L 9=true:=he ⟨9,.data⟩ (by simp) rfl
   conv=>cbv
   simp only [h9]
   conv=>cbv
   refine cast (congrArg K' ?_) hK'
   conv=>lhs;cbv
   simp only [h9]
   rw [show QX L 10 15=L 15 from rfl]
  rcases i' with _ | i'
  ·cases hi'
   have h10:L 10=true:=he ⟨10,.data⟩ (by simp) rfl
   conv=>cbv
   simp only [h10]
   conv=>cbv
   refine ⟨hsr,?_⟩
   refine cast (congrArg K' ?_) hK'
   conv=>lhs;cbv
   simp only [h10]
   rw [show QX L 11 15=L 15 from rfl]
  rcases i' with _ | i'
  ·cases hi'
   have h7:L 7=true:=he ⟨7,.data⟩ (by simp) rfl
   have h11:L 11=true:=he ⟨11,.data⟩ (by simp) rfl
   conv=>cbv
   simp only [h7,h11]
   conv=>cbv
   refine Zw hA hts (n:=A.iSub (A.lLen ts) 1) (by rw [hll];omega) (by rw [hll,hlen];omega) (λ y hy=>?_)
   rw [hll,ZyR] at hy
   obtain rfl:=Zyc (hm1.symm.trans hy)
   conv=>cbv
   refine cast (congrArg K' ?_) hK'
   conv=>lhs;cbv
   simp only [h7,h11]
   rw [show QX L 12 15=L 15 from rfl]
  rcases i' with _ | i'
  ·cases hi'
   have h12:L 12=true:=he ⟨12,.data⟩ (by simp) rfl
   conv=>cbv
   simp only [h12]
   conv=>cbv
   refine cast (congrArg K' ?_) hK'
   conv=>lhs;cbv
   simp only [h12]
   rw [show QX L 13 15=L 15 from rfl]
  rcases i' with _ | i'
  ·cases hi'
   conv=>cbv
   have h15:L 15=false:=by
    cases h:L 15 with
    | false=>rfl
    | true =>
     have:=hC 15 _ rfl h ⟨14,.data⟩ (by simp) rfl
     rw [hL] at this
     cases this
   simp only [hL,h15]
   conv=>cbv
   refine cast (congrArg K' ?_) hK'
   conv=>lhs;cbv
   simp only [hL,show QX L 14 15=L 15 from rfl,h15,cond_false]
  rcases i' with _ | i'
  ·cases hi'
   have h14:L 14=true:=he ⟨14,.data⟩ (by simp) rfl
   have h5:L 5=true:=he ⟨5,.data⟩ (by simp) rfl
   conv=>cbv
   simp only [h14,h5]
   conv=>cbv
   refine cast (congrArg K' ?_) hK'
   conv=>lhs;cbv
   simp only [h14,h5]
   simp only [show QX L 15 15=true from rfl,cond_true]
  rcases i' with _ | i'
  ·cases hi'
   have h13:L 13=true:=he ⟨13,.data⟩ (by simp) rfl
   conv=>cbv
   simp only [h13]
   conv=>cbv
   refine cast (congrArg K' ?_) hK'
   conv=>lhs;cbv
   simp only [h13]
   rw [show QX L 16 15=L 15 from rfl]
  simp at hi'
 conv=>cbv
 refine hR4 _ ?_
 clear hR4
 refine Zf (λ R4 hR4=>?_)
 conv=>cbv
 refine ⟨Zm hA (by kernel_rfl),?_⟩
 split
 ·rename_i hc
  have g3:=leT hA hc
  conv=>cbv
  refine hR _ ?_
  conv=>cbv
  exact hbad (by rw [Zyr (show ¬m1<1440 by omega)];rfl)
 rename_i hc
 have g3:=leF hA hc
 rw [Zyq (show m1<1440 by omega),ZyL] at hbad hnx
 generalize ZaY ⟨k1,k2,k3,k4,k5,k6⟩ w1 m0=b0 at hc0 hbad hnx
 generalize ZaY ⟨k1,k2,k3,k4,k5,k6⟩ w2 m1=b1 at hc1 hbad hnx
 conv=>cbv
 refine Zw hA hts (n:=0) (Zyk 0) (by omega) (λ y hy=>?_)
 obtain rfl:=Zyc (hm0.symm.trans hy)
 clear hy
 conv=>cbv
 refine Za hA (hc0) ?_
 conv=>cbv
 cases b0 with
 | true =>
  conv=>cbv
  refine hR _ ?_
  conv=>cbv
  exact hbad rfl
 | false =>
 conv=>cbv
 refine Za hA (hc1) ?_
 conv=>cbv
 cases b1 with
 | true =>
  conv=>cbv
  refine hR _ ?_
  conv=>cbv
  exact hbad rfl
 | false =>
 have hbad:Zak wl T=false->PV.int .i64 170=q:=λ h=>hbad (by rw [h];rfl)
 have hnx:=λ (h:Zak wl T=true)=>hnx (by rw [h];rfl)
 conv=>cbv
 refine hR4 _ ?_
 clear hR4 hc0 hc1
 conv=>cbv
 refine Za hA (hlgs) ?_
 conv=>cbv
 refine YU hA (hseq hw0.1) (λ x hx=>?_) (λ (y:Unit) s=>s) (λ k y=>∀(j:Nat) (x:Leg) (a b:Int),j<k->wl[j]?=some x->T[j]?=some a->T[j+1]?=some b->ZaI x.Minutes ⟨a,b⟩=true) () (λ _=>rfl) ?_ ?_ ?_ ?_
 ·obtain ⟨j,hj⟩:=ZyO.1 hx
  obtain ⟨_,_,_,rfl,_⟩:=hrows j x hj
  rfl
 ·exact Wk.refl _
 ·intro j x a b hj;omega
 ·rintro R5 k y x hxk hinv hR5
  obtain ⟨lg0,a,b,rfl,q1,q2,q3⟩:=hrows k x hxk
  have hcv1:=hcv lg0 ⟨a,b⟩ (Z4 lg0.Minutes) rfl (hmin lg0 (Zyb q1))
  have hb2:ZaI lg0.Minutes ⟨a,b⟩=false->Zak wl T=false:=λ h=>by
   cases h2:Zak wl T with
   | false=>rfl
   | true =>
    have:=hcov.1 h2 k lg0 a b q1 q2 q3
    rw [h] at this;cases this
  have hn2:ZaI lg0.Minutes ⟨a,b⟩=true->∀(j:Nat) (x:Leg) (a b:Int),j<k+1->wl[j]?=some x->T[j]?=some a->T[j+1]?=some b->ZaI x.Minutes ⟨a,b⟩=true:=λ h j x a' b' hj h1 h2 h3=>by
   rcases Z0l (Z08 hj) with h4 | h4
   ·exact hinv j x a' b' h4 h1 h2 h3
   ·subst h4
    rw [q1] at h1;rw [q2] at h2;rw [q3] at h3
    cases h1;cases h2;cases h3
    exact h
  generalize ZaI lg0.Minutes ⟨a,b⟩=c at hcv1 hb2 hn2
  obtain ⟨l1,l2,l3,l4⟩:=lg0
  obtain ⟨ms4,hms4⟩:∃ms4,ms4=Z4 l4:=⟨_,rfl⟩
  rw [show Zac ⟨l1,l2,l3,l4⟩=.agg [.int .i64 l1,.int .i64 l2,.int .i64 l3,.list 2 ms4] by rw [hms4];rfl]
  simp only at hcv1
  rw [<-hms4] at hcv1
  conv=>cbv
  refine Za hA (hcv1) ?_
  conv=>cbv
  cases c with
  | true =>
   conv=>cbv
   split
   ·rename_i hc
    cases ((show False by have h9:true=false:=Yy hA hc;cases h9))
   conv=>cbv
   refine hR5 () _ ?_ (hn2 rfl)
   (conv=>cbv)
   exact Zt (bx:=[_,_,_,_,_,_,_]) (bx':=[_,_]) (mp:=[]) (mp':=[]) 
  | false =>
   conv=>cbv
   split
   rotate_left
   ·rename_i hc
    cases ((show False by have h9:false=true:=YP hA hc;cases h9))
   conv=>cbv
   refine hR _ ?_
   conv=>cbv
   exact hbad (hb2 rfl)
 ·intro y hinv
  rw [Zby wl T hlen] at hinv
  have h1:Zak wl T=true:=hcov.2 λ j x a b h1 h2 h3=>hinv j x a b (ZxZ.1 h1).1 h1 h2 h3
  conv=>cbv
  refine hR3 _ ?_
  conv=>cbv
  refine ⟨hir,hR2 (A.iAdd i 1) _ ?_ (hnx h1) (by rw [his];omega)⟩
  (conv=>cbv)
  exact Zt (bx:=[_,_,_,_,_]) (bx':=[_,_]) (mp:=[]) (mp':=[]) 
open Go.Proofs
theorem Ztf {t:Zh} {f:Flight} (h:Z8 t f=0):(Zat t f).length<=1000:=by
 obtain ⟨k,hk,hc0,hL0,hL1,_,_,_,hw1,hw4⟩:=Qx h
 rw [Zat,hk]
 simp only
 rw [ZdU]
 have h1:(k.Longest / 10+1).toNat<=7:=by omega
 have h2:(k.Longest / 10+1).toNat*(3*f.Ways.length)<=7*(3*4):=Z0E h1 (by omega)
 split<;>omega
theorem YF (t:Zh) (f:Flight):(ZC t f).length<=1000:=by
 unfold ZC
 split
 ·exact Ztf (by assumption)
 ·simp
set_option maxRecDepth 10000 in
set_option maxHeartbeats 1000000 in
theorem Zp8 (t:Zh) (f:Flight) (hfew:ZgM t):Zc Tryz.prog 77 [Zn t,Zx f] (.tup [.list 4 (Zq (ZZ t f)),.int .i64 (Z8 t f)]):=by
 have hmeas:=ZiC t f
 have hal:=λ o=>ZiR t f o hfew
 have hO:ZZ t f=(ZC t f).filter λ o=>decide (QP t f o=0):=rfl
 generalize ZZ t f=OL at hO
 generalize QP t f=g at hal hO
 have hml:=YF t f
 have hM0:Z8 t f≠0->ZC t f=[]:=λ h=>by rw [ZC,if_neg h]
 generalize ZC t f=M at hmeas hO hml hM0
 generalize Z8 t f=ck at hmeas hM0
 subst hO
 by_cases h0:ck=0
 ·subst h0
  refine Zb (clo:=λ _=>false) (rows:=false) Zg Tryz.func77 rfl (enters_of Tryz.func77 (by kernel_rfl) rfl) (λ A q P Y hr hA hq=>?_)
  obtain ⟨ss,cs,ws,ms,ks,nv,hss,hcs,hws,hms,hks,hnv,htab⟩:=Qd t
  rw [htab] at hmeas hal ⊢
  obtain ⟨f1,f2,f3,f4,f5,⟨f6,f7⟩,f8⟩:=f
  obtain ⟨fl,hfl⟩:∃fl,fl=Zd f5:=⟨_,rfl⟩
  rw [Zs _ hfl] at hmeas hal ⊢
  obtain ⟨xs,hxs⟩:∃xs,xs=Zq M:=⟨_,rfl⟩
  rw [<-hxs] at hmeas
  have hxl:xs.length=M.length:=by rw [hxs];simp [Zq]
  simp only at hmeas hal ⊢
  conv=>cbv
  refine Za hA (hmeas) ?_
  conv=>cbv
  split
  ·rename_i hc
   cases (neT hA hc rfl)
  conv=>cbv
  refine Zi hA (λ (z:Int × List PV) s=>{ (s.put (some 20) (.val (.int .i64 z.1))).put (some 4) (.own 0 4 z.2) with tk:=[(A.nLen z.2,35)] })
   (λ z=>0<=z.1/\z.1<=M.length/\z.2=Zq ((M.take z.1.toNat).filter λ o=>decide (g o=0))) (λ z=>(M.length - z.1).toNat) (0,[]) ?_ ?_ ?_
  ·subst hA
   (conv=>cbv)
   exact ZaM 4 0 4 [] 35 rfl (.inr rfl) (by repeat (first | refine Zv ?_ | refine ZH ?_ | exact Z9)) rfl
  ·exact ⟨Zyk _,by omega,rfl⟩
  rintro R ⟨i,L⟩ ⟨hi0,hi1,hL⟩ hR
  simp only at hi0 hi1 hL
  have hLl:L.length<=1000:=by
   have h1:=ZyH (λ o=>decide (g o=0)) (M.take i.toNat)
   rw [ZyE] at h1
   rw [hL];simp only [Zq,Zys];omega
  conv=>cbv
  split
  ·rename_i hc
   have hi:=ZE hA rfl (Zl hA hxl) hc
   have his:A.iAdd i 1=i+1:=Z5 hA _ _
   have hir:A.inR (A.iAdd i 1):=Zy hA his (by unfold Zj;omega)
   obtain ⟨o,ho⟩:∃o,M[i.toNat]?=some o:=⟨_,Zya (show i.toNat<M.length by omega)⟩
   have ht:=Zo hi0 ho
   have hao:=hal o
   have hnx:∀L',L'=(if g o=0 then L++[Z2 o] else L)->0<=A.iAdd i 1/\A.iAdd i 1<=M.length/\L'=Zq ((M.take (A.iAdd i 1).toNat).filter λ o=>decide (g o=0)):=λ L' h=>by
    rw [his,ht,h,hL,ZzH]
    refine ⟨by omega,by omega,?_⟩
    split<;>rename_i h2<;>simp [Zq,h2]
   have hmu:(M.length - A.iAdd i 1).toNat<(M.length - i).toNat:=by rw [his];omega
   generalize g o=e at hao hnx
   obtain ⟨o1,o2,o3,o4⟩:=o
   conv=>cbv
   refine Yn hA hxs hi0 hi (λ z hz=>?_)
   obtain rfl:=Zyc (ho.symm.trans hz)
   clear hz
   conv=>cbv
   refine Za hA (hao) ?_
   conv=>cbv
   split
   ·rename_i hc
    rw [if_pos (eqT hA hc)] at hnx
    have htk:A.tkEq (A.nLen L) (A.nLen L):=by subst hA;rfl
    have hroom:A.room (A.nLen (A.lApp L [Z2 ⟨o1,o2,o3,o4⟩])) 32:=by
     subst hA
     show (L++[_]).length*(32+1)<=140737488355328
     rw [Zyg,Zyt];omega
    conv=>cbv
    refine ⟨⟨htk,hroom⟩,hir,hR (A.iAdd i 1,A.lApp L [Z2 ⟨o1,o2,o3,o4⟩]) _ ?_ (hnx _ (by subst hA;rfl)) hmu⟩
    (conv=>cbv)
    exact Zt (bx:=[_,_]) (bx':=[_]) (mp:=[]) (mp':=[]) 
   ·rename_i hc
    rw [if_neg (eqF hA hc)] at hnx
    conv=>cbv
    refine ⟨hir,hR (A.iAdd i 1,L) _ ?_ (hnx _ rfl) hmu⟩
    (conv=>cbv)
    exact Zt (bx:=[_,_]) (bx':=[_]) (mp:=[]) (mp':=[]) 
  ·rename_i hc
   have hi:=ZK hA rfl (Zl hA hxl) hc
   rw [Zyl (by omega)] at hL
   conv=>cbv
   rw [<-hq,hL]
 ·have hm:=hM0 h0
  subst hm
  refine Zc.le (p:=.tup [.list 0 [],.int .i64 ck]) (args':=[Zn t,Zx f]) ?_ (.cons (.refl _) (.cons (.refl _) .nil)) (.tup _ _ rfl λ i x y hx hy=>?_)
  ·refine Zb (clo:=λ _=>false) (rows:=false) Zg Tryz.func77 rfl (enters_of Tryz.func77 (by kernel_rfl) rfl) (λ A q P Y hr hA hq=>?_)
   obtain ⟨ss,cs,ws,ms,ks,nv,hss,hcs,hws,hms,hks,hnv,htab⟩:=Qd t
   rw [htab] at hmeas ⊢
   obtain ⟨f1,f2,f3,f4,f5,⟨f6,f7⟩,f8⟩:=f
   obtain ⟨fl,hfl⟩:∃fl,fl=Zd f5:=⟨_,rfl⟩
   rw [Zs _ hfl] at hmeas ⊢
   simp only at hmeas ⊢
   conv=>cbv
   refine Za hA (hmeas) ?_
   conv=>cbv
   split
   ·conv=>cbv
    exact hq
   ·rename_i h
    exact absurd (neF hA h) h0
  ·match i,hx,hy with
   | 0,hx,hy=>simp at hx hy;subst hx hy;exact .nil _ _
   | 1,hx,hy=>simp at hx hy;subst hx hy;exact .refl _
   | i+2,hx,hy=>simp at hx
open Go.Proofs
def Zb4 (t:Zh) (s:List Zr) (f:Flight) (now:Int) (ann:Opt):PV :=
 if Qt t s f=0 then .tup [.list 4 ((Z1 t f now).map (ZgL t s f ann)),.list 4 (Zq (Z1 t f now)),.int .i64 0] else .tup [.list 0 [],.list 0 [],.int .i64 (Qt t s f)]
theorem Zh8 (t:Zh) (s:List Zr) (f:Flight) (now:Int) (ann:Opt):LeP (Zb4 t s f now ann) (ZcQ t s f now ann):=by
 unfold Zb4 ZcQ Q9
 split
 ·refine .tup _ _ rfl λ i x y hx hy=>?_
  match i,hx,hy with
  | 0,hx,hy =>
   simp at hx hy
   subst hx hy
   refine .list _ _ _ (by simp [Qa]) λ j a b ha hb=>?_
   rw [Zyh,ZyG] at ha
   obtain ⟨o,ho,rfl⟩:=ha
   unfold Qa at hb
   rw [Zyh,Zyh,ho] at hb
   simp at hb
   subst hb
   exact ZvK t s f ann o
  | 1,hx,hy=>simp at hx hy;subst hx hy;exact .refl _
  | 2,hx,hy=>simp at hx hy;subst hx hy;exact .refl _
  | i+3,hx,hy=>simp at hx
 ·exact .refl _
def Zxq (n:Nat):Bool:=n == 5000000+79 || n == 2000000+74 || n == 2000000+75 || n == 1000014
set_option maxRecDepth 10000 in
set_option maxHeartbeats 8000000 in
theorem Zje (t:Zh) (s:List Zr) (f:Flight) (now:Int) (ann:Opt) (hfew:ZgM t) (hLp:∀o∈ZZ t f,o.Cancel=true\/(ZX t f o).length<=150) :
  Zc Tryz.prog 25 [Zn t,ZD s,Zx f,.int .i64 now,Z2 ann] (Zb4 t s f now ann):=by
 refine Zb (clo:=Zxq) (rows:=true) Zg Tryz.func25 rfl (enters_of Tryz.func25 (by kernel_rfl) rfl) (λ A q P Y hr hA hq=>?_)
 have hcap:=Zik t s
 have hopt:=Zp8 t f hfew
 have hR0:Zb4 t s f now ann=if Qt t s f=0 then .tup [.list 4 ((Z1 t f now).map (ZgL t s f ann)),.list 4 (Zq (Z1 t f now)),.int .i64 0] else .tup [.list 0 [],.list 0 [],.int .i64 (Qt t s f)]:=rfl
 have hE:Qt t s f=if Qj t s≠0 then Qj t s else Z8 t f:=rfl
 have hO:Z1 t f now=if ZbL t f now=[] then [QM] else ZbL t f now:=rfl
 have hLL:=ZuD t f now
 have hlen:(ZZ t f).length<=1000:=Zy1 (ZyH _ _) (YF t f)
 have hdl:=λ o (h:o∈ZZ t f)=>(ZfR h).2
 have hch1:=λ (fl:List PV) (hfl:fl=Zd f.Ways) o (h:o∈ZZ t f)=>Zu8 f now o (hdl o h) hfl
 have hsub:∀o∈ZbL t f now,o∈ZZ t f:=λ o h=>(ZyB.1 h).1
 have hseq0:=λ (L:List Opt) (h1:Qj t s=0) (h2:Z8 t f=0) (h3:∀o∈L,o.Cancel=true\/(ZX t f o).length<=150) (h4:L.length<=1000000) (nv:Int) (ss cs ws ms ks sc wl os:List PV) (e1:Zn t=.agg [.int .i64 nv,.list 5 ss,.list 3 cs,.list 3 ws,.list 1 ms,.list 6 ks]) (e2:ks=ZY t.Kinds) (e3:sc=Zz s) (e4:wl=Zd f.Ways) (e5:os=Zq L)=>Ztd t s f ann L h1 h2 h3 h4 (nv:=nv) (ss:=ss) (cs:=cs) (ws:=ws) (ms:=ms) (ks:=ks) (sc:=sc) (wl:=wl) (os:=os) e1 e2 e3 e4 e5
 generalize Zb4 t s f now ann=r0 at hR0 hq
 generalize Qt t s f=e0 at hE hR0
 generalize Qj t s=ec at hcap hE hseq0
 generalize Z8 t f=ck at hopt hE hseq0
 generalize hLg:ZbL t f now=LL at hO hLL hsub
 generalize hOg:Z1 t f now=OO at hR0 hO
 generalize hOL:ZZ t f=OL at hopt hLL hlen hdl hch1 hsub hLp
 have hcg:∀o,∃(d w ch:Int) (m:Nat) (us:List PV),ZgL t s f ann o=.agg [.int .i64 d,.int .i64 w,.int .i64 ch,.list m us]:=λ o=>by
  unfold ZgL
  split
  ·exact ⟨_,_,_,_,_,rfl⟩
  ·exact ⟨_,_,_,_,_,rfl⟩
 generalize ZgL t s f ann=cg at hR0 hseq0 hcg
 have hOOl:OO.length<=1000:=by
  rw [hO]
  split
  ·simp
  ·rw [<-hLL];exact Zy1 (ZyH _ _) hlen
 have hOOp:∀o∈OO,o.Cancel=true\/(ZX t f o).length<=150:=λ o ho=>by
  rw [hO] at ho
  split at ho
  ·rw [Zy3] at ho;subst ho;exact .inl rfl
  ·exact hLp o (hsub o ho)
 have hseq1:=λ h1 h2=>hseq0 OO h1 h2 hOOp (Zy1 hOOl (by decide))
 clear hseq0
 obtain ⟨os,hos⟩:∃os,os=Zq OL:=⟨_,rfl⟩
 rw [<-hos] at hopt
 have hosl:os.length=OL.length:=by rw [hos];simp [Zq]
 obtain ⟨ss,cs,ws,ms,ks,nv,hss,hcs,hws,hms,hks,hnv,htab⟩:=Qd t
 obtain ⟨sc,hsc⟩:∃sc,sc=Zz s:=⟨_,rfl⟩
 rw [ZB hsc] at hcap ⊢
 rw [htab] at hcap hopt ⊢
 obtain ⟨f1,f2,f3,f4,f5,⟨f6,f7⟩,f8⟩:=f
 obtain ⟨fl,hfl⟩:∃fl,fl=Zd f5:=⟨_,rfl⟩
 rw [Zs _ hfl] at hopt ⊢
 have hch2:=hch1 fl hfl
 have hseq2:=λ h1 h2 oo hoo=>hseq1 h1 h2 nv ss cs ws ms ks sc fl oo htab hks hsc hfl hoo
 clear hch1 hseq1
 obtain ⟨a1,a2,a3,a4⟩:=ann
 simp only at hopt hcap hch2 hseq2 ⊢
 refine Zf (λ R hR=>?_)
 conv=>cbv
 refine hR _ ?_
 clear hR
 refine Zf (λ R hR=>?_)
 conv=>cbv
 refine Za hA (hcap) ?_
 conv=>cbv
 split
 ·rename_i hc
  have g:=neT hA hc
  rw [if_pos g] at hE
  rw [if_neg (by rw [hE];exact g),hE] at hR0
  conv=>cbv
  refine ⟨_,Frz.refl _ _,?_⟩
  conv=>cbv
  exact (hR0.symm.trans hq)
 rename_i hc
 have g:=neF hA hc
 rw [if_neg (by rw [g];simp)] at hE
 refine hR _ ?_
 clear hR hcap
 refine Zf (λ R hR=>?_)
 conv=>cbv
 refine Za hA (hopt) ?_
 conv=>cbv
 refine hR _ ?_
 clear hR hopt
 refine Zf (λ R hR=>?_)
 conv=>cbv
 split
 ·rename_i hc
  have g2:=neT hA hc
  rw [if_neg (by rw [hE];exact g2),hE] at hR0
  conv=>cbv
  refine ⟨_,Frz.refl _ _,?_⟩
  conv=>cbv
  exact (hR0.symm.trans hq)
 rename_i hc
 have g2:=neF hA hc
 rw [if_pos (hE.trans g2)] at hR0
 have hseq:=hseq2 g g2
 subst g g2
 clear hseq2 hE hfew
 refine hR _ ?_
 clear hR
 refine Zf (λ R hR=>?_)
 conv=>cbv
 by_cases hnil:OL=[]
 ·have hos0:os=[]:=by rw [hos,hnil];rfl
  have hLn:LL=[]:=by rw [<-hLL,hnil];rfl
  rw [if_pos hLn] at hO
  clear hos hosl hch2 hLL hsub
  subst hos0
  have hl0:A.lLen []=0:=by subst hA;rfl
  have hch:=ZcR nv ss cs ws ms ks sc fl [.agg [.int .i64 0,.int .i64 0,.int .i64 0,.bool true]] f1 f2 f3 f6 f7 f4 f8 a1 a2 a3 a4
  refine ZfI hA (Frz.refl _ _) rfl Zte ?_
  conv=>cbv
  refine Za hA ((ZkE _)) ?_
  conv=>cbv
  refine hR _ ?_
  clear hR
  refine Zf (λ R hR=>?_)
  conv=>cbv
  split
  rotate_left
  ·rename_i hc
   cases ((show False by exact ZeN hA hl0 rfl hc rfl))
  conv=>cbv
  refine hR _ ?_
  clear hR
  refine Zf (λ R hR=>?_)
  conv=>cbv
  refine Za hA hch ?_
  conv=>cbv
  refine YU hA (hseq _ (by rw [hO];rfl)) (λ x hx=>?_) (λ (z:List PV × List PV) s=>⟨[.val .any,.val .any,.val .any,.val .any,.val .any,.val .any,.val .any,.val .any,.val .any,.val .any,.box 5 0,.box 6 0,.val .any,.val .any,.val .any,.val .any,.val .any,.val .any,.val .any,.val .any,.val .any,.val .any,.val .any,.val .any,.val .any,.val .any,.val .any,.val .any,.val .any,.val .any,.val .any,.val .any,.val .any,.val .any,.val .any,.val .any,.val .any,.val .any,.val .any,.val .any,.val .any,.val .any,.val .any,.val .any,.val .any,.val .any,.val .any,.val .any,.val .any,.val .any,.val .any,.val .any,.val .any,.val .any,.val .any,.val .any,.val .any,.val .any,.val .any,.val .any],[some [.val (.int .i64 nv),.val (.list 5 ss),.val (.list 3 cs),.val (.list 3 ws),.val (.list 1 ms),.val (.list 6 ks)],some [.val (.list 3 sc)],none,none,some [.val (.int .i64 a1),.val (.int .i64 a2),.val (.int .i64 a3),.val (.bool a4)],some [.own 0 4 z.1],some [.own 1 4 z.2]],[(A.nLen z.1,83),(A.nLen z.2,35)],⟨[],0⟩⟩)
   (λ k z=>z.1=(OO.take k).map cg/\z.2=Zq (OO.take k)) ([],[]) (λ _=>rfl) ?_ ?_ ?_ ?_
  ·obtain ⟨o,_,rfl⟩:=Zyz.1 hx;rfl
  ·subst hA
   (conv=>cbv)
   refine Wk.trans _ _ _ (Wk.ownBx _ _ [] _ 5 0 0 4 [.lit 0 []] [] 83 rfl rfl (.inr rfl)) (Wk.trans _ _ _ (Wk.ownBx _ _ _ _ 6 0 0 4 [.lit 0 []] [] 35 rfl rfl (.inr rfl)) ?_)
   exact Zk
  ·exact ⟨rfl,rfl⟩
  ·rintro R1 k ⟨z1,z2⟩ x hxk ⟨hz1,hz2⟩ hR1
   rw [Zyh,ZyG] at hxk
   obtain ⟨o,ho,rfl⟩:=hxk
   simp only at hz1 hz2
   have hkl:k<OO.length:=(ZxZ.1 ho).1
   obtain ⟨d,w,ch,m,us,hcgo⟩:=hcg o
   have htk:OO.take (k+1)=OO.take k++[o]:=by rw [ZyD,ho];rfl
   have hl1:z1.length<=1000:=by rw [hz1];simp;omega
   have hl2:z2.length<=1000:=by rw [hz2];simp [Zq];omega
   have hn1:A.lApp z1 [.agg [.int .i64 d,.int .i64 w,.int .i64 ch,.list m us]]=(OO.take (k+1)).map cg:=by
    subst hA
    rw [htk,ZyX,<-hz1,<-hcgo];rfl
   have hn2:A.lApp z2 [Z2 o]=Zq (OO.take (k+1)):=by
    subst hA
    rw [htk,hz2]
    show Zq _++_=_
    simp [Zq]
   have ht1:A.tkEq (A.nLen z1) (A.nLen z1):=by subst hA;rfl
   have ht2:A.tkEq (A.nLen z2) (A.nLen z2):=by subst hA;rfl
   have hr1:A.room (A.nLen (A.lApp z1 [.agg [.int .i64 d,.int .i64 w,.int .i64 ch,.list m us]])) 48:=by
    subst hA
    show (z1++[_]).length*(48+1)<=140737488355328
    rw [Zyg,Zyt];omega
   have hr2:A.room (A.nLen (A.lApp z2 [Z2 o])) 32:=by
    subst hA
    show (z2++[_]).length*(32+1)<=140737488355328
    rw [Zyg,Zyt];omega
   rw [hcgo]
   obtain ⟨o1,o2,o3,o4⟩:=o
   conv=>cbv
   refine ⟨Zm hA (by kernel_rfl),?_⟩
   refine ⟨⟨ht2,hr2⟩,⟨ht1,hr1⟩,hR1 (A.lApp z1 [.agg [.int .i64 d,.int .i64 w,.int .i64 ch,.list m us]],A.lApp z2 [Z2 ⟨o1,o2,o3,o4⟩]) _ ?_ ⟨hn1,hn2⟩⟩
   (conv=>cbv)
   exact Zt (bx:=[_,_,_,_,_,_,_]) (bx':=[_,_]) (mp:=[]) (mp':=[]) 
  ·rintro ⟨z1,z2⟩ ⟨hz1,hz2⟩
   simp only at hz1 hz2
   rw [Zys,Zze] at hz1 hz2
   rw [<-hz1,<-hz2] at hR0
   have hqq:=hR0.symm.trans hq
   conv=>cbv
   refine hR _ ?_
   clear hR
   conv=>cbv
   repeat' first
    | exact ⟨_,Frz.refl _ _,(by (conv=>cbv);exact hqq)⟩
    | apply And.intro
 refine Qg hA (ZV.flags (Zta OL hnil (Zy1 hlen (by decide)) hos [_,_,_,_,_,_,_] (by simp))) (λ r bx' tk' ax' h=>?_)
 obtain ⟨cap,k,hr,hb,hck,rfl,rfl⟩:=h
 obtain ⟨n,hn⟩:∃n,n=OL.length:=⟨_,rfl⟩
 obtain ⟨C,hC⟩:∃C,C=Yc OL++List.replicate k (SV.val .any):=⟨_,rfl⟩
 rw [<-hn] at hr
 rw [<-hC] at hb
 subst hr hb
 conv=>cbv
 have hdel:=λ (pre:List (Option (List SV))) (hpre:ZwE pre) (hid:7=pre.length)=>ZkA _ OL (Zy1 hlen (by decide)) hch2 pre hpre hn hid hck
 simp only [hLL,<-hC] at hdel
 refine Qg hA (ZV.flags (hdel [_,_,_,_,_,_,_] (λ a b c=>rfl) rfl)) (λ r bx' tk' ax' h=>?_)
 obtain ⟨k2,n2,hr,hn2,hb,hk2,rfl,rfl⟩:=h
 obtain ⟨C2,hC2⟩:∃C2,C2=Yc LL++List.replicate k2 (SV.val .any):=⟨_,rfl⟩
 rw [<-hC2] at hb
 subst hr hb
 clear hdel hC
 conv=>cbv
 refine hR _ ?_
 clear hR
 refine Zf (λ R hR=>?_)
 conv=>cbv
 split
 ·rename_i hc
  have hz:LL.length=0:=by
   have:=ZdS hA (Zhq hA n2) rfl hc
   omega
  have hLn:LL=[]:=Zyy hz
  rw [if_pos hLn] at hO
  conv=>cbv
  refine hR _ ?_
  clear hR
  have hch:=ZcR nv ss cs ws ms ks sc fl [.agg [.int .i64 0,.int .i64 0,.int .i64 0,.bool true]] f1 f2 f3 f6 f7 f4 f8 a1 a2 a3 a4
  refine Zf (λ R hR=>?_)
  conv=>cbv
  refine Za hA hch ?_
  conv=>cbv
  refine YU hA (hseq _ (by rw [hO];rfl)) (λ x hx=>?_) (λ (z:List PV × List PV) s=>⟨[.val .any,.val .any,.val .any,.val .any,.val .any,.val .any,.val .any,.val .any,.val .any,.val .any,.box 5 0,.box 6 0,.val .any,.val .any,.val .any,.val .any,.val .any,.val .any,.val .any,.val .any,.val .any,.val .any,.val .any,.val .any,.val .any,.val .any,.val .any,.val .any,.val .any,.val .any,.val .any,.val .any,.val .any,.val .any,.val .any,.val .any,.val .any,.val .any,.val .any,.val .any,.val .any,.val .any,.val .any,.val .any,.val .any,.val .any,.val .any,.val .any,.val .any,.val .any,.val .any,.val .any,.val .any,.val .any,.val .any,.val .any,.val .any,.val .any,.val .any,.val .any],[some [.val (.int .i64 nv),.val (.list 5 ss),.val (.list 3 cs),.val (.list 3 ws),.val (.list 1 ms),.val (.list 6 ks)],some [.val (.list 3 sc)],none,none,some [.val (.int .i64 a1),.val (.int .i64 a2),.val (.int .i64 a3),.val (.bool a4)],some [.own 0 4 z.1],some [.own 1 4 z.2]],[(A.nLen z.1,83),(A.nLen z.2,35)],⟨[],0⟩⟩)
   (λ k z=>z.1=(OO.take k).map cg/\z.2=Zq (OO.take k)) ([],[]) (λ _=>rfl) ?_ ?_ ?_ ?_
  ·obtain ⟨o,_,rfl⟩:=Zyz.1 hx;rfl
  ·subst hA
   (conv=>cbv)
   refine Wk.trans _ _ _ (Wk.ownBx _ _ [] _ 5 0 0 4 [.lit 0 []] [] 83 rfl rfl (.inr rfl)) (Wk.trans _ _ _ (Wk.ownBx _ _ _ _ 6 0 0 4 [.lit 0 []] [] 35 rfl rfl (.inr rfl)) ?_)
   exact Zt (bx:=[_,_,_,_,_,_,_]) (bx':=[_]) (mp:=[]) (mp':=[]) 
  ·exact ⟨rfl,rfl⟩
  ·rintro R1 k ⟨z1,z2⟩ x hxk ⟨hz1,hz2⟩ hR1
   rw [Zyh,ZyG] at hxk
   obtain ⟨o,ho,rfl⟩:=hxk
   simp only at hz1 hz2
   have hkl:k<OO.length:=(ZxZ.1 ho).1
   obtain ⟨d,w,ch,m,us,hcgo⟩:=hcg o
   have htk:OO.take (k+1)=OO.take k++[o]:=by rw [ZyD,ho];rfl
   have hl1:z1.length<=1000:=by rw [hz1];simp;omega
   have hl2:z2.length<=1000:=by rw [hz2];simp [Zq];omega
   have hn1:A.lApp z1 [.agg [.int .i64 d,.int .i64 w,.int .i64 ch,.list m us]]=(OO.take (k+1)).map cg:=by
    subst hA
    rw [htk,ZyX,<-hz1,<-hcgo];rfl
   have hn2:A.lApp z2 [Z2 o]=Zq (OO.take (k+1)):=by
    subst hA
    rw [htk,hz2]
    show Zq _++_=_
    simp [Zq]
   have ht1:A.tkEq (A.nLen z1) (A.nLen z1):=by subst hA;rfl
   have ht2:A.tkEq (A.nLen z2) (A.nLen z2):=by subst hA;rfl
   have hr1:A.room (A.nLen (A.lApp z1 [.agg [.int .i64 d,.int .i64 w,.int .i64 ch,.list m us]])) 48:=by
    subst hA
    show (z1++[_]).length*(48+1)<=140737488355328
    rw [Zyg,Zyt];omega
   have hr2:A.room (A.nLen (A.lApp z2 [Z2 o])) 32:=by
    subst hA
    show (z2++[_]).length*(32+1)<=140737488355328
    rw [Zyg,Zyt];omega
   rw [hcgo]
   obtain ⟨o1,o2,o3,o4⟩:=o
   conv=>cbv
   refine ⟨Zm hA (by kernel_rfl),?_⟩
   refine ⟨⟨ht2,hr2⟩,⟨ht1,hr1⟩,hR1 (A.lApp z1 [.agg [.int .i64 d,.int .i64 w,.int .i64 ch,.list m us]],A.lApp z2 [Z2 ⟨o1,o2,o3,o4⟩]) _ ?_ ⟨hn1,hn2⟩⟩
   (conv=>cbv)
   exact Zt (bx:=[_,_,_,_,_,_,_]) (bx':=[_,_]) (mp:=[]) (mp':=[]) 
  ·rintro ⟨z1,z2⟩ ⟨hz1,hz2⟩
   simp only at hz1 hz2
   rw [Zys,Zze] at hz1 hz2
   rw [<-hz1,<-hz2] at hR0
   have hqq:=hR0.symm.trans hq
   conv=>cbv
   refine hR _ ?_
   clear hR
   conv=>cbv
   repeat' first
    | exact ⟨_,Frz.refl _ _,(by (conv=>cbv);exact hqq)⟩
    | apply And.intro
 ·rename_i hc
  have hLn:LL≠[]:=λ h=>by
   have:=ZeN hA (Zhq hA n2) rfl hc
   rw [h] at hn2
   simp at hn2
   omega
  rw [if_neg hLn] at hO
  conv=>cbv
  refine hR _ ?_
  clear hR
  obtain ⟨kk,hkk⟩:∃kk,k2=kk*4:=⟨cap - n2,by rw [Nat.sub_mul];omega⟩
  subst hkk
  obtain ⟨xs,hxs⟩:∃xs,xs=Ziq LL kk:=⟨_,rfl⟩
  obtain ⟨ol,hol⟩:∃ol,ol=Zq LL:=⟨_,rfl⟩
  have hx1:C2=(xs.flatMap PV.cells).map SV.val:=by rw [hC2,hxs];exact ZnA LL kk
  have hx2:∀x∈xs,x.cells.length=4:=by rw [hxs];exact Zrr LL kk
  have hx3:Zcw 7 4 xs (.row 7 0 4 n2 cap)=.val (.list 4 ol):=by rw [hxs,hol];exact Zrs LL kk 7 cap hn2
  obtain ⟨s2,hs2⟩:∃s2,Zcw 7 4 xs (.row 7 0 4 n cap)=s2:=⟨_,rfl⟩
  have hch:=ZcR nv ss cs ws ms ks sc fl ol f1 f2 f3 f6 f7 f4 f8 a1 a2 a3 a4
  clear hxs hC2
  refine Zf (λ R hR=>?_)
  conv=>cbv
  refine ZfI hA (Frz.row 7 4 C2 xs _ _ _ _ rfl hx1 hx2 (Frz.refl _ _)) (by simp only [Zzl,ZzW,hx3];rfl) hch ?_
  simp only [St.sealRow,Zzl,ZzW,hx3,hs2]
  conv=>cbv
  refine YU hA (hseq _ (by rw [hol,hO])) (λ x hx=>?_) (λ (z:List PV × List PV) s=>⟨[.val .any,.val .any,.val .any,.val .any,.val .any,.val .any,.val .any,.val .any,.val .any,.val .any,.box 5 0,.box 6 0,.val .any,.val .any,.val .any,.val .any,.val .any,.val .any,.val .any,.val .any,.val .any,.val .any,.val .any,.val .any,.val .any,.val .any,.val .any,.val .any,.val .any,.val .any,.val .any,.val .any,.val .any,.val .any,.val .any,.val .any,.val .any,.val .any,.val .any,.val .any,.val .any,.val .any,.val .any,.val .any,.val .any,.val .any,.val .any,.val .any,.val .any,.val .any,.val .any,.val .any,.val .any,.val .any,.val .any,.val .any,.val .any,.val .any,.val .any,.val .any],[some [.val (.int .i64 nv),.val (.list 5 ss),.val (.list 3 cs),.val (.list 3 ws),.val (.list 1 ms),.val (.list 6 ks)],some [.val (.list 3 sc)],none,none,some [.val (.int .i64 a1),.val (.int .i64 a2),.val (.int .i64 a3),.val (.bool a4)],some [.own 0 4 z.1],some [.own 1 4 z.2]],[(A.nLen z.1,83),(A.nLen z.2,35)],⟨[],0⟩⟩)
   (λ k z=>z.1=(OO.take k).map cg/\z.2=Zq (OO.take k)) ([],[]) (λ _=>rfl) ?_ ?_ ?_ ?_
  ·obtain ⟨o,_,rfl⟩:=Zyz.1 hx;rfl
  ·subst hA
   (conv=>cbv)
   refine Wk.trans _ _ _ (Wk.ownBx _ _ [] _ 5 0 0 4 [.lit 0 []] [] 83 rfl rfl (.inr rfl)) (Wk.trans _ _ _ (Wk.ownBx _ _ _ _ 6 0 0 4 [.lit 0 []] [] 35 rfl rfl (.inr rfl)) ?_)
   exact Zt (bx:=[_,_,_,_,_,_,_]) (bx':=[_]) (mp:=[]) (mp':=[]) 
  ·exact ⟨rfl,rfl⟩
  ·rintro R1 k ⟨z1,z2⟩ x hxk ⟨hz1,hz2⟩ hR1
   rw [Zyh,ZyG] at hxk
   obtain ⟨o,ho,rfl⟩:=hxk
   simp only at hz1 hz2
   have hkl:k<OO.length:=(ZxZ.1 ho).1
   obtain ⟨d,w,ch,m,us,hcgo⟩:=hcg o
   have htk:OO.take (k+1)=OO.take k++[o]:=by rw [ZyD,ho];rfl
   have hl1:z1.length<=1000:=by rw [hz1];simp;omega
   have hl2:z2.length<=1000:=by rw [hz2];simp [Zq];omega
   have hn1:A.lApp z1 [.agg [.int .i64 d,.int .i64 w,.int .i64 ch,.list m us]]=(OO.take (k+1)).map cg:=by
    subst hA
    rw [htk,ZyX,<-hz1,<-hcgo];rfl
   have hn2:A.lApp z2 [Z2 o]=Zq (OO.take (k+1)):=by
    subst hA
    rw [htk,hz2]
    show Zq _++_=_
    simp [Zq]
   have ht1:A.tkEq (A.nLen z1) (A.nLen z1):=by subst hA;rfl
   have ht2:A.tkEq (A.nLen z2) (A.nLen z2):=by subst hA;rfl
   have hr1:A.room (A.nLen (A.lApp z1 [.agg [.int .i64 d,.int .i64 w,.int .i64 ch,.list m us]])) 48:=by
    subst hA
    show (z1++[_]).length*(48+1)<=140737488355328
    rw [Zyg,Zyt];omega
   have hr2:A.room (A.nLen (A.lApp z2 [Z2 o])) 32:=by
    subst hA
    show (z2++[_]).length*(32+1)<=140737488355328
    rw [Zyg,Zyt];omega
   rw [hcgo]
   obtain ⟨o1,o2,o3,o4⟩:=o
   conv=>cbv
   refine ⟨Zm hA (by kernel_rfl),?_⟩
   refine ⟨⟨ht2,hr2⟩,⟨ht1,hr1⟩,hR1 (A.lApp z1 [.agg [.int .i64 d,.int .i64 w,.int .i64 ch,.list m us]],A.lApp z2 [Z2 ⟨o1,o2,o3,o4⟩]) _ ?_ ⟨hn1,hn2⟩⟩
   (conv=>cbv)
   exact Zt (bx:=[_,_,_,_,_,_,_]) (bx':=[_,_]) (mp:=[]) (mp':=[]) 
  ·rintro ⟨z1,z2⟩ ⟨hz1,hz2⟩
   simp only at hz1 hz2
   rw [Zys,Zze] at hz1 hz2
   rw [<-hz1,<-hz2] at hR0
   have hqq:=hR0.symm.trans hq
   conv=>cbv
   refine hR _ ?_
   clear hR
   conv=>cbv
   repeat' first
    | exact ⟨_,Frz.refl _ _,(by (conv=>cbv);exact hqq)⟩
    | apply And.intro
theorem YN (t:Zh) (s:List Zr) (f:Flight) (now:Int) (ann:Opt) (hfew:ZgM t) (hLp:∀o∈ZZ t f,o.Cancel=true\/(ZX t f o).length<=150) :
  Zc Tryz.prog 25 [Zn t,ZD s,Zx f,.int .i64 now,Z2 ann] (ZcQ t s f now ann) :=
 (Zje t s f now ann hfew hLp).le (LeL.refl _) (Zh8 t s f now ann)
end Go.Abs
