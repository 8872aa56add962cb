/-
  overflightlaw21.StagesLater: for all tables, schemes, flights and two times, later there are no other choices, and all are allowed and in order. No conditions.
-/
import Derived.Test.YtcafjndjnfdnpaaGreatT9
import Derived.Test.YtcafjndjnfdnpaaGreatRows
set_option linter.unusedVariables false
set_option linter.unusedSimpArgs false
namespace Go.Abs
open Go.RowKit
instance:Inhabited PV:=⟨.any⟩
instance:Inhabited TD:=⟨⟨.other,0,0,false,none,[]⟩⟩
instance:Inhabited YS:=⟨.none⟩
instance:Inhabited SV:=⟨.undef⟩
section
variable {E:Env} {S:Addr->Prop} {w:World}
section
variable {t k e:TypeId} {ks:List SK} {b:Nat} {arr:Array MapEntry} {clock:Nat} {es es0:List (PV × PV)} {key z:PV}
end
end
section
variable {A:Ops} {E:Env}
theorem ZxV (hA:A=Ze E) {a b:Bool} (h:A.bEq a b=true):a=b:=by subst hA;simpa [Ze] using h
theorem ZxW (hA:A=Ze E) {a b:Bool} (h:A.bEq a b=false):a≠b:=by subst hA;simpa [Ze] using h
theorem ZxX (hA:A=Ze E) {a b:Bool} (h:A.bNot (A.bEq a b)=true):a≠b:=ZxW hA (Yy hA h)
theorem ZxY (hA:A=Ze E) {a b:Bool} (h:A.bNot (A.bEq a b)=false):a=b:=ZxV hA (YP hA h)
end
open Go.Proofs
instance:DecidableEq Qo:=λ a b=>decidable_of_iff (a.Way=b.Way/\a.Times=b.Times) ⟨λ h=>by cases a;cases b;simp only at h;rw [h.1,h.2],λ h=>by rw [h];exact ⟨rfl,rfl⟩⟩
section
variable {P:Program} {t e:TypeId}
end
section
variable {P:Program} {ts:Array TypeId} {vs:Array Value} {t:TypeId} {w:World} {r:Reach} {b0:Nat} {v:Value} {H:Type} {en:TypeId × Value->H} {sp:Nat->Bool} {held:Bool} {d:DataW H} {ps:List MemPlace} {α:Type} {enc:α->PV} {ok:α->Prop}
end
open Go.Proofs
section
variable {κ α:Type} [DecidableEq κ]
variable {ek:κ->PV} {f:α->PV} (hk:∀a b,keq (ek a) (ek b)=decide (a=b))
include hk
end
open Go.Proofs
def Ziw (a b:Opt):Int :=
 if a.Cancel=b.Cancel then orI [Zcs a.Delay b.Delay,Zcs a.Way b.Way,Zcs a.Hold b.Hold] else if a.Cancel then 1 else -1
theorem Zr9 (a b:Opt):Zc Tryz.prog 38 [Z2 a,Z2 b] (.int .i64 (Ziw a b)):=by
 refine Zb (clo:=λ _=>false) (rows:=false) Zg Tryz.func38 rfl (enters_of Tryz.func38 (by kernel_rfl) rfl) (λ A q P Y hr hA hq=>?_)
 obtain ⟨a1,a2,a3,a4⟩:=a
 obtain ⟨b1,b2,b3,b4⟩:=b
 have hC:Ziw ⟨a1,a2,a3,a4⟩ ⟨b1,b2,b3,b4⟩=if a4=b4 then orI [Zcs a1 b1,Zcs a2 b2,Zcs a3 b3] else if a4 then 1 else -1:=rfl
 rw [hC] at hq
 have c1:=Zb3 a1 b1
 have c2:=Zb3 a2 b2
 have c3:=Zb3 a3 b3
 generalize Zcs a1 b1=n1 at c1 hq
 generalize Zcs a2 b2=n2 at c2 hq
 generalize Zcs a3 b3=n3 at c3 hq
 have c4:=Zuz [n1,n2,n3] rfl
 generalize orI [n1,n2,n3]=n4 at c4 hq
 conv=>cbv
 split
 ·rename_i h
  have h':=ZxX hA h
  rw [if_neg h'] at hq
  cases a4<;>(conv=>cbv)<;>exact hq
 ·rename_i h
  have h':=ZxY hA h
  rw [if_pos h'] at hq
  conv=>cbv
  refine ⟨Zm hA (by kernel_rfl),?_⟩
  refine Za hA c1 ?_
  conv=>cbv
  refine Za hA c2 ?_
  conv=>cbv
  refine Za hA c3 ?_
  conv=>cbv
  refine Za hA c4 ?_
  conv=>cbv
  exact hq
open Go.Lib Go.Proofs Go.Shelf Go.Sort
instance:Inhabited Cell:=⟨⟨false,0,0⟩⟩
open Go.Proofs
set_option maxRecDepth 4000 in
open Go.Proofs
open Go.Proofs
instance (a b:Cell):Decidable (ZM a b):=by unfold ZM;infer_instance
open Go.Proofs
def ltP (a b:Opt):Prop:=(a.Cancel=false/\b.Cancel=true)\/(a.Cancel=b.Cancel/\(a.Delay<b.Delay\/(a.Delay=b.Delay/\(a.Way<b.Way\/(a.Way=b.Way/\a.Hold<b.Hold)))))
theorem ZnR {a b:Int} (h:a<b):Zcs a b=-1:=by unfold Zcs;rw [if_pos h]
theorem Zix (a:Int):Zcs a a=0:=by unfold Zcs;simp
theorem Ztu {a b:Opt} (h:ltP a b):Ziw a b<0:=by
 obtain ⟨a1,a2,a3,a4⟩:=a
 obtain ⟨b1,b2,b3,b4⟩:=b
 unfold ltP at h
 unfold Ziw
 simp only at h ⊢
 rcases h with ⟨h1,h2⟩ | ⟨rfl,h⟩
 ·subst h1 h2
  simp
 ·rw [if_pos rfl]
  rcases h with h | ⟨rfl,h⟩
  ·rw [ZnR h];simp [orI]
  ·rcases h with h | ⟨rfl,h⟩
   ·rw [Zix,ZnR h];simp [orI]
   ·rw [Zix,Zix,ZnR h];simp [orI]
theorem Ztv {a b c:Opt} (h1:ltP a b) (h2:ltP b c):ltP a c:=by
 obtain ⟨a1,a2,a3,a4⟩:=a
 obtain ⟨b1,b2,b3,b4⟩:=b
 obtain ⟨c1,c2,c3,c4⟩:=c
 unfold ltP at *
 simp only at *
 cases a4<;>cases b4<;>cases c4<;>simp at *<;>omega
theorem ZkV {n:Nat} (hn:1<=n) (k:Nat):ltP (Zgh n k) (Zgh n (k+1)):=by
 have hB:0<3*n:=by omega
 have hk:=Nat.div_add_mod k (3*n)
 have hr:=Z0f k hB
 unfold ltP Zgh
 refine .inr ⟨rfl,?_⟩
 simp only
 generalize hq:k / (3*n)=q at hk ⊢
 generalize hr':k % (3*n)=r at hk hr ⊢
 have e3:k % 3=r % 3:=by rw [<-hr',Nat.mod_mul_right_mod]
 rcases Zy6 (r+1) (3*n) with h | h
 ·have e1:(k+1) / (3*n)=q:=by rw [<-hk,Zz6,Nat.mul_add_div hB,Nat.div_eq_of_lt h,Zzj]
  have e2:(k+1) % (3*n)=r+1:=by rw [<-hk,Zz6,Nat.mul_add_mod,ZzF h]
  rw [e1,e2,e3]
  refine .inr ⟨rfl,?_⟩
  omega
 ·have e1:(k+1) / (3*n)=q+1:=by
   rw [<-hk,Zz6,Nat.mul_add_div hB,show r+1=3*n by omega,Nat.div_self hB]
  rw [e1]
  refine .inl ?_
  omega
theorem Ztw {n:Nat} (hn:1<=n) {i j:Nat} (h:i<j):ltP (Zgh n i) (Zgh n j):=by
 induction j with
 | zero=>omega
 | succ j ih =>
  rcases Zy6 i j with h1 | h1
  ·exact Ztv (ih h1) (ZkV hn j)
  ·have e:i=j:=by omega
   subst e
   exact ZkV hn i
theorem Zva {L:Int} {n:Nat} {c:Bool} (hn:1<=n):(Zay L n c).Pairwise ltP:=by
 unfold Zay
 rw [List.pairwise_append]
 refine ⟨?_,?_,?_⟩
 ·rw [List.pairwise_map]
  exact List.pairwise_lt_range.imp λ h=>Ztw hn h
 ·cases c<;>simp
 ·intro a ha b hb
  obtain ⟨k,_,rfl⟩:=Zyz.1 ha
  cases c
  ·simp at hb
  ·simp at hb
   subst hb
   exact .inl ⟨rfl,rfl⟩
theorem ZvU (t:Zh) (f:Flight):(ZC t f).Pairwise ltP:=by
 unfold ZC
 split
 ·rename_i h
  obtain ⟨k,hk,_,_,_,_,_,_,hw,_⟩:=Qx h
  unfold Zat
  rw [hk]
  exact Zva (by omega)
 ·exact .nil
theorem Zqa {t:Zh} {f:Flight} (h:Z8 t f=0) (hx:f.Cancel=true) (now:Int):QM∈ZbL t f now:=by
 obtain ⟨k,hk,_⟩:=Qx h
 have hm:QM∈Zat t f:=by
  unfold Zat
  rw [hk]
  exact (Zie _).2 (.inl ⟨rfl,hx,rfl⟩)
 refine ZyB.2 ⟨ZyB.2 ⟨?_,?_⟩,rfl⟩
 ·unfold ZC
  rw [if_pos h]
  exact hm
 ·have hd:(ZL t f QM).2.2=0:=by
   unfold ZL
   rw [if_pos h,if_pos hm]
  have e:QP t f QM=0:=by
   unfold QP
   rw [if_neg (by simp [hd]),if_pos (show QM.Cancel=true from rfl)]
  simp [e]
def Zdy (f:Flight) (l:List Opt):Bool:=decide (l=[QM])&&!f.Cancel
theorem ZdA {t:Zh} {f:Flight} (h:Z8 t f=0) (now:Int):(Z1 t f now=[QM]/\Zdy f (Z1 t f now)=true)\/(Z1 t f now=ZbL t f now/\ZbL t f now≠[]):=by
 unfold Z1
 split
 ·rename_i h1
  refine .inl ⟨rfl,?_⟩
  have:f.Cancel=false:=by
   cases hx:f.Cancel with
   | false=>rfl
   | true=>have:=Zqa h hx now;rw [h1] at this;cases this
  unfold Zdy
  rw [this]
  simp
 ·rename_i h1
  exact .inr ⟨rfl,h1⟩
theorem choicesO_ne (t:Zh) (f:Flight) (now:Int):Z1 t f now≠[]:=by
 unfold Z1
 split
 ·simp
 ·assumption
theorem Zvb {t:Zh} {f:Flight} (h:Z8 t f=0) {now later:Int} (hl:now<=later):Zdy f (Z1 t f later)=true\/∀x∈Z1 t f later,x∈Z1 t f now:=by
 rcases ZdA h later with ⟨_,h1⟩ | ⟨h1,h2⟩
 ·exact .inl h1
 ·refine .inr λ x hx=>?_
  rw [h1] at hx
  have hx1:=ZyB.1 hx
  have hn:x∈ZbL t f now:=ZyB.2 ⟨hx1.1,by
   have:=hx1.2
   unfold Zh7 at this ⊢
   simp only [Zzd,Zyf] at this ⊢
   rcases this with h | h
   ·exact .inl h
   ·exact .inr (by omega)⟩
  unfold Z1
  rw [if_neg λ h=>by rw [h] at hn;cases hn]
  exact hn
theorem ZwM {t:Zh} {f:Flight} (h:Z8 t f=0) (now:Int):Zdy f (Z1 t f now)=true\/((Z1 t f now).Pairwise ltP/\∀x∈Z1 t f now,QP t f x=0/\(x.Cancel=true\/now<=f.Window.From+x.Delay)):=by
 rcases ZdA h now with ⟨_,h1⟩ | ⟨h1,h2⟩
 ·exact .inl h1
 ·refine .inr ⟨?_,λ x hx=>?_⟩
  ·rw [h1]
   exact ((ZvU t f).filter _).filter _
  ·rw [h1] at hx
   have hx1:=ZyB.1 hx
   have hx2:=ZyB.1 hx1.1
   refine ⟨ZyU hx2.2,?_⟩
   have:=hx1.2
   unfold Zh7 at this
   simpa using this
open Go.Proofs
theorem ZrV {nb:Nat × Nat} {sl sl':List SV} {bx bx':List (Option (List SV))} {tk:List (Nat × TypeId)} {mp:List ZaK} {yk:Nat} (h:leL sl sl':=by repeat (first | refine Zv ?_ | refine ZH ?_ | exact Z9)) (hb:bx.dropLast=bx':=by exact rfl) (hne:bx≠[]:=by simp) (hnb:nb.1<=bx'.length:=by simp)
  (h1:sl'.all (SV.within bx'.length mp.length tk.length)=true:=by exact rfl) (h2:bx'.all (λ o=>match o with | none=>true | some cs=>cs.all (SV.within bx'.length mp.length tk.length))=true:=by exact rfl) :
  Wk nb ⟨sl,bx,tk,⟨mp,yk⟩⟩ ⟨sl',bx',tk,⟨mp,yk⟩⟩:=by
 subst hb
 have:=Zt (nb:=nb) (bx:=bx.dropLast) (bx':=[bx.getLast hne]) (mp:=mp) (mp':=[]) (tk:=tk) (yk:=yk) h hnb (.inl rfl) h1 h2
 rw [List.dropLast_concat_getLast,Zzp] at this
 exact this
theorem ZhH (l:List Opt) (hl:l.length<=1000000) {xs wl:List PV} (hx:xs=Zq l) (f1 f2 f3 f6 f7:Int) (f4:ByteArray) (f8:Bool) :
  Zc Tryz.prog 36 [.list 4 xs,.ptr [.int .i64 f1,.int .i64 f2,.int .i64 f3,.str f4,.list 1 wl,.int .i64 f6,.int .i64 f7,.bool f8] 0] (.bool (decide (l=[QM])&&!f8)):=by
 refine Zb (clo:=λ _=>false) (rows:=false) Zg Tryz.func36 rfl (enters_of Tryz.func36 (by kernel_rfl) rfl) (λ A q P Y hr hA hq=>?_)
 have hxl:xs.length=l.length:=by rw [hx];simp [Zq]
 conv=>cbv
 split
 rotate_left
 ·rename_i hc
  have h1:¬l=[QM]:=λ h=>by
   have:=ZeN hA (Zl hA hxl) rfl hc
   rw [h] at this
   exact this rfl
  rw [Zyr h1] at hq
  conv=>cbv
  exact hq
 rename_i hc
 have h1:(l.length:Int)=1:=ZdS hA (Zl hA hxl) rfl hc
 conv=>cbv
 refine Yn hA hx (Zyk 0) (by omega) (λ o ho=>?_)
 have he:l=[QM]↔o=QM:=by
  match l,h1,ho with
  | [a],_,ho =>
   simp at ho
   subst ho
   simp
  | [],h1,_=>simp at h1
  | a::b::r,h1,_=>simp at h1;omega
 obtain ⟨o1,o2,o3,o4⟩:=o
 conv=>cbv
 split
 ·rename_i hc
  have h2:(⟨o1,o2,o3,o4⟩:Opt)=QM:=by
   subst hA
   simp [Ze] at hc
   obtain ⟨rfl,rfl,rfl,rfl⟩:=hc
   rfl
  rw [Zyq (he.2 h2)] at hq
  conv=>cbv
  rw [<-hq]
  subst hA
  rfl
 ·rename_i hc
  have h2:¬(⟨o1,o2,o3,o4⟩:Opt)=QM:=λ h=>by
   cases h
   subst hA
   simp [Ze] at hc
  rw [Zyr λ h=>h2 (he.1 h)] at hq
  conv=>cbv
  exact hq
def resL (e:Int) (C:List Q8) (O:List Opt):PV:=if e=0 then .tup [.list 4 (Qa C),.list 4 (Zq O),.int .i64 0] else .tup [.list 0 [],.list 0 [],.int .i64 e]
theorem choicesO_len (t:Zh) (f:Flight) (n:Int):(Z1 t f n).length<=1000:=by
 unfold Z1
 split
 ·simp
 ·exact Zy1 (ZyH _ _) (Zy1 (ZyH _ _) (YF t f))
open Go.Proofs
structure ZrW (t:Zh) (f:Flight) (ann:Opt) (n1:Int) (O1 O2:List Opt) (C1:List Q8):Prop where
 ne1:0<O1.length
 ne2:0<O2.length
 l1:O1.length<=1000
 l2:O2.length<=1000
 lc:C1.length=O1.length
 ch:∀(i:Nat) (x:Opt) (c:Q8),O1[i]?=some x->C1[i]?=some c->(c.Changes=0↔x=ann)
 now:Zdy f O1=true\/(O1.Pairwise ltP/\∀x∈O1,QP t f x=0/\(x.Cancel=false->n1<=f.Window.From+x.Delay)/\Zj (f.Window.From+x.Delay))
 lat:Zdy f O2=true\/∀x∈O2,x∈O1
theorem ZrA (t:Zh) (s:List Zr) (f:Flight) (ann:Opt) {n1 n2:Int} (h:n1<=n2) (hl:Zal t s f=true) :
  ∃(e:Int) (O1 O2:List Opt) (C1 C2:List Q8),Zc Tryz.prog 25 [Zn t,ZD s,Zx f,.int .i64 n1,Z2 ann] (resL e C1 O1) /\
   Zc Tryz.prog 25 [Zn t,ZD s,Zx f,.int .i64 n2,Z2 ann] (resL e C2 O2)/\(e=0->ZrW t f ann n1 O1 O2 C1):=by
 have hlf:ZbH t f=true:=by unfold Zal at hl;rw [Zyi] at hl;exact hl.1
 obtain ⟨g1,g2⟩:=Zcp hlf
 refine ⟨Qt t s f,Z1 t f n1,Z1 t f n2,Q9 t s f n1 ann,Q9 t s f n2 ann,YN t s f n1 ann g1 g2,YN t s f n2 ann g1 g2,λ he=>?_⟩
 have hck:Z8 t f=0:=by
  unfold Qt at he
  split at he
  ·rename_i h1;exact absurd he h1
  ·exact he
 refine ⟨Zz0.2 (choicesO_ne _ _ _),Zz0.2 (choicesO_ne _ _ _),choicesO_len _ _ _,choicesO_len _ _ _,by simp [Q9],λ i x c hx hc=>?_,?_,Zvb hck h⟩
 ·unfold Q9 at hc
  rw [Zyh,hx] at hc
  simp at hc
  subst hc
  simp only [ZaZ]
  by_cases h:x=ann
  ·simp [h]
  ·simp [h]
 ·rcases ZdA hck n1 with ⟨_,h1⟩ | ⟨h1,_⟩
  ·exact .inl h1
  ·rcases ZwM hck n1 with h2 | ⟨h2,h3⟩
   ·exact .inl h2
   ·refine .inr ⟨h2,λ x hx=>?_⟩
    obtain ⟨h4,h5⟩:=h3 x hx
    refine ⟨h4,λ h6=>?_,?_⟩
    ·rcases h5 with h5 | h5
     ·rw [h6] at h5;cases h5
     ·exact h5
    ·rw [h1] at hx
     exact (ZfR (ZyB.1 hx).1).2
set_option maxRecDepth 10000 in
set_option maxHeartbeats 8000000 in
theorem Zjh (t:Zh) (s:List Zr) (f:Flight) (now later:Int) (ann:Opt) (_:Zfr t) (_:Zf9 s) (_:Zfs f) (_:okI now) (_:okI later) (_:Zup ann) :
  Zc Tryz.prog 9 [Zn t,ZD s,Zx f,.int .i64 now,.int .i64 later,Z2 ann] (.bool true):=by
 refine Zb (clo:=λ _=>false) (rows:=false) Zg Tryz.func9 rfl (enters_of Tryz.func9 (by kernel_rfl) rfl) (λ A q P Y hr hA hq=>?_)
 have hlt:=Zdw t s f
 have hpk:=λ {n1 n2:Int} (h:n1<=n2) hl=>ZrA t s f ann (n1:=n1) (n2:=n2) h hl
 have hmin:=λ (hl:Zal t s f=true)=>(Zcp (t:=t) (f:=f) (by unfold Zal at hl;rw [Zyi] at hl;exact hl.1)).1
 have hal:=λ o h=>ZiR t f o h
 generalize Zal t s f=lb at hlt hpk hmin
 obtain ⟨ss,cs,ws,ms,ks,nv,hss,hcs,hws,hms,hks,hnv,htab⟩:=Qd t
 obtain ⟨sc,hsc⟩:∃sc,sc=Zz s:=⟨_,rfl⟩
 rw [ZB hsc] at hlt hpk ⊢
 rw [htab] at hlt hpk hal ⊢
 have hfb:∀l,Zdy f l=(decide (l=[QM])&&!f.Cancel):=λ l=>rfl
 obtain ⟨aE,haE⟩:∃aE,aE=QP t f:=⟨_,rfl⟩
 have hpk2:=λ {n1 n2:Int} (h:n1<=n2) hl=>hpk h hl
 rw [<-haE] at hal
 have hLO:∀{n1:Int} {O1 O2:List Opt} {C1:List Q8},ZrW t f ann n1 O1 O2 C1->(Zdy f O1=true\/(O1.Pairwise ltP/\∀x∈O1,aE x=0/\(x.Cancel=false->n1<=f.Window.From+x.Delay)/\Zj (f.Window.From+x.Delay))):=λ h=>by rw [haE];exact h.now
 clear haE
 obtain ⟨f1,f2,f3,f4,f5,⟨f6,f7⟩,f8⟩:=f
 obtain ⟨fl,hfl⟩:∃fl,fl=Zd f5:=⟨_,rfl⟩
 rw [Zs _ hfl] at hlt hpk hal ⊢
 obtain ⟨a1,a2,a3,a4⟩:=ann
 simp only at hlt hpk hal hLO hfb ⊢
 clear hpk2
 refine Zf (λ R hR=>?_)
 conv=>cbv
 refine hR _ ?_
 clear hR
 refine Zf (λ R hR=>?_)
 conv=>cbv
 refine Za hA (ZeB) ?_
 conv=>cbv
 split
 ·rename_i hc
  cases ((show False by have h9:true=false:=Yy hA hc;cases h9))
 conv=>cbv
 refine hR _ ?_
 clear hR
 refine Zf (λ R hR=>?_)
 conv=>cbv
 refine Za hA (hlt) ?_
 conv=>cbv
 split
 ·conv=>cbv
  exact hq
 rename_i hc
 have g:=YP hA hc
 have hpk:=λ {n1 n2:Int} (h:n1<=n2)=>hpk h g
 have hal:=λ o=>hal o (hmin g)
 conv=>cbv
 refine hR _ ?_
 clear hR hmin hlt
 refine Zf (λ R hR=>?_)
 conv=>cbv
 split
 case' h_1 =>
  rename_i hc
  have g1:=ltT hA hc
  obtain ⟨n1,hn1⟩:∃n1,n1=later:=⟨_,rfl⟩
  obtain ⟨e,O1,O2,C1,C2,c1,c2,hok⟩:=hpk (show n1<=now by omega)
  have hok0:=λ h=>hLO (hok h)
  rw [hn1] at c1
  conv=>cbv
 case' h_2 =>
  rename_i hc
  have g1:=ltF hA hc
  obtain ⟨n1,hn1⟩:∃n1,n1=now:=⟨_,rfl⟩
  obtain ⟨e,O1,O2,C1,C2,c1,c2,hok⟩:=hpk (show n1<=later by omega)
  have hok0:=λ h=>hLO (hok h)
  rw [hn1] at c1
  conv=>cbv
 all_goals
  clear hpk hLO
  refine hR _ ?_
  clear hR
  unfold resL at c1 c2
  by_cases h0:e=0
  rotate_left
  ·rw [if_neg h0] at c1 c2
   have hl0:A.lLen []=0:=by subst hA;rfl
   have he0:A.iEq (A.lLen []) 0=true:=by subst hA;rfl
   refine Zf (λ R hR=>?_)
   conv=>cbv
   refine Za hA (c1) ?_
   conv=>cbv
   refine hR _ ?_
   clear hR
   refine Zf (λ R hR=>?_)
   conv=>cbv
   refine Za hA (c2) ?_
   conv=>cbv
   refine hR _ ?_
   clear hR
   refine Zf (λ R hR=>?_)
   conv=>cbv
   split
   rotate_left
   ·rename_i hc
    cases ((show False by exact h0 (neF hA hc)))
   conv=>cbv
   split
   rotate_left
   ·rename_i hc
    cases ((show False by exact eqF hA hc rfl))
   conv=>cbv
   split
   rotate_left
   ·rename_i hc
    cases ((show False by exact ZeN hA hl0 rfl hc rfl))
   conv=>cbv
   exact (congrArg PV.bool he0).trans hq
  rw [if_pos h0] at c1 c2
  obtain ⟨ne1,ne2,l1,l2,lc,hch,_,hlat⟩:=hok h0
  have hnow:=hok0 h0
  clear hok hok0
  rw [hfb] at hnow hlat
  clear hfb
  obtain ⟨os1,hos1⟩:∃xs,xs=Zq O1:=⟨_,rfl⟩
  obtain ⟨os2,hos2⟩:∃xs,xs=Zq O2:=⟨_,rfl⟩
  obtain ⟨cs1,hcs1⟩:∃xs,xs=Qa C1:=⟨_,rfl⟩
  rw [<-hos1,<-hcs1] at c1
  rw [<-hos2] at c2
  have hl1:os1.length=O1.length:=by rw [hos1];simp [Zq]
  have hl2:os2.length=O2.length:=by rw [hos2];simp [Zq]
  have hlc1:cs1.length=O1.length:=by rw [hcs1,<-lc];simp [Qa]
  have k1:=ZhH O1 (by omega) hos1 (wl:=fl) f1 f2 f3 f6 f7 f4 f8
  have k2:=ZhH O2 (by omega) hos2 (wl:=fl) f1 f2 f3 f6 f7 f4 f8
  generalize (decide (O1=[QM])&&!f8)=b1 at k1 hnow
  generalize (decide (O2=[QM])&&!f8)=b2 at k2 hlat
  refine Zf (λ R hR=>?_)
  conv=>cbv
  refine Za hA (c1) ?_
  conv=>cbv
  refine hR _ ?_
  clear hR c1
  refine Zf (λ R hR=>?_)
  conv=>cbv
  refine Za hA (c2) ?_
  conv=>cbv
  refine hR _ ?_
  clear hR c2
  refine Zf (λ R hR=>?_)
  conv=>cbv
  split
  ·rename_i hc
   cases ((show False by exact neT hA hc rfl))
  conv=>cbv
  split
  ·rename_i hc
   cases ((show False by exact neT hA hc rfl))
  conv=>cbv
  refine hR _ ?_
  clear hR
  refine Zf (λ R hR=>?_)
  conv=>cbv
  refine hR _ ?_
  clear hR
  refine Zf (λ R hR=>?_)
  conv=>cbv
  split
  ·rename_i hc
   cases ((show False by exact Zew hA (Zl hA hlc1) (Zl hA hl1) hc rfl))
  conv=>cbv
  split
  ·rename_i hc
   cases ((show False by have:=ZdS hA (Zl hA hl1) rfl hc;omega))
  conv=>cbv
  split
  ·rename_i hc
   cases ((show False by have:=ZdS hA (Zl hA hl2) rfl hc;omega))
  conv=>cbv
  refine hR _ ?_
  clear hR
  refine Zf (λ R hR=>?_)
  refine Zf (λ R0 hR0=>?_)
  conv=>cbv
  refine hR0 _ ?_
  clear hR0
  cases b1
  case' true =>
   refine Zi hA (λ (i:Int) s=>s.put (some 96) (.val (.int .i64 i))) (λ i=>i=0) (λ _=>0) 0 ?_ ?_ ?_
   ·conv=>cbv
    exact Zk
   ·rfl
   rintro R1 i hi0 hR1
   subst hi0
   clear hR1
   conv=>cbv
   split
   rotate_left
   ·rename_i hc
    cases ((show False by have:=ZK hA rfl (Zl hA hl1) hc;omega))
   conv=>cbv
   refine Yn hA hos1 (Zyk 0) (by omega) (λ o ho=>?_)
   obtain ⟨o1,o2,o3,o4⟩:=o
   conv=>cbv
   refine Za hA (k1) ?_
   conv=>cbv
   refine hR _ ?_
   clear hR hnow
  case' false =>
   have hnow:O1.Pairwise ltP/\∀x∈O1,aE x=0/\(x.Cancel=false->n1<=f6+x.Delay)/\Zj (f6+x.Delay):=by
    rcases hnow with h | h
    ·cases h
    ·exact h
   refine Zi hA (λ (i:Int) s=>s.put (some 96) (.val (.int .i64 i))) (λ i=>0<=i/\i<=O1.length) (λ i=>(O1.length - i).toNat) 0 ?_ ?_ ?_
   ·conv=>cbv
    exact Zk
   ·exact ⟨Zyk _,by omega⟩
   rintro R1 i ⟨hi0,hi1⟩ hR1
   conv=>cbv
   split
   case' h_2 =>
    conv=>cbv
    refine hR _ ?_
    clear hR hnow hR1
   case' h_1 =>
    clear hR
    rename_i hc
    have hi:i<O1.length:=ZE hA rfl (Zl hA hl1) hc
    have his:A.iAdd i 1=i+1:=Z5 hA _ _
    have hir:A.inR (A.iAdd i 1):=Zy hA his (by unfold Zj;omega)
    obtain ⟨o,ho⟩:∃o,O1[i.toNat]?=some o:=⟨_,Zya (show i.toNat<O1.length by omega)⟩
    obtain ⟨h1,h2,h3⟩:=hnow.2 o (Zyb ho)
    have hal:=hal o
    rw [h1] at hal
    have hcmp:=λ b=>Zr9 b o
    have hprev:∀b,0<i->O1[(i - 1).toNat]?=some b->Ziw b o<0:=λ b h4 h5=>by
     obtain ⟨a1,a2⟩:=ZxZ.1 h5
     obtain ⟨b1,b2⟩:=ZxZ.1 ho
     have:=Zzn.1 hnow.1 (i - 1).toNat i.toNat a1 b1 (by omega)
     rw [a2,b2] at this
     exact Ztu this
    have hcho:=λ c=>hch i.toNat o c ho
    obtain ⟨o1,o2,o3,o4⟩:=o
    simp only at h2 h3
    have hfin:∀s',Wk (0,0) s' _->R1 s':=λ s' hw=>hR1 (A.iAdd i 1) s' hw ⟨by show 0<=A.iAdd i 1;omega,by show A.iAdd i 1<=_;omega⟩ (by show (O1.length - A.iAdd i 1).toNat < _;rw [his];omega)
    clear hR1
    conv=>cbv
    refine Yn hA hos1 hi0 hi (λ z hz=>?_)
    obtain rfl:=Zyc (ho.symm.trans hz)
    clear hz
    conv=>cbv
    refine Za hA (k1) ?_
    conv=>cbv
    refine ⟨Zm hA (by kernel_rfl),?_⟩
    refine Za hA (hal) ?_
    conv=>cbv
    split
    ·rename_i hc
     cases ((show False by exact neT hA hc rfl))
    conv=>cbv
    split
    case' h_1 =>
     rename_i hc
     have g5:o4=false:=Yy hA hc
     have hsum:A.iAdd f6 o1=f6+o1:=Z5 hA _ _
     have h4:=h2 g5
     conv=>cbv
     refine ⟨Zy hA hsum h3,?_⟩
     split
     ·rename_i hc
      cases ((show False by have:=ZE hA hsum rfl hc;omega))
     conv=>cbv
    case' h_2 =>
     rename_i hc
     conv=>cbv
    all_goals
     split
     case' h_1 =>
      rename_i hc
      have hip:=ltT hA hc
      have hsb:A.iSub i 1=i - 1:=ZbJ hA _ _
      obtain ⟨b,hb⟩:∃b,O1[(i - 1).toNat]?=some b:=⟨_,Zya (show (i - 1).toNat<O1.length by omega)⟩
      have hcb:=hcmp b
      have hpv:=hprev b hip hb
      generalize Ziw b ⟨o1,o2,o3,o4⟩=cm at hcb hpv
      obtain ⟨b1,b2,b3,b4⟩:=b
      conv=>cbv
      refine ⟨Zy hA hsb (by unfold Zj;omega),?_⟩
      refine Yn hA hos1 (n:=A.iSub i 1) (by rw [hsb];omega) (by rw [hsb];omega) (λ z hz=>?_)
      rw [hsb] at hz
      obtain rfl:=Zyc (hb.symm.trans hz)
      clear hz
      conv=>cbv
      refine Za hA (hcb) ?_
      conv=>cbv
      split
      ·rename_i hc
       cases ((show False by have:=leT hA hc;omega))
      conv=>cbv
     case' h_2 =>
      rename_i hc
      conv=>cbv
     all_goals
      refine ⟨Zm hA (by kernel_rfl),?_⟩
      refine ZbV hA hcs1 hi0 (by omega) (λ c v hc0 hv=>?_)
      have hcc:=hcho c hc0
      obtain ⟨d1,d2,d3,d4⟩:=c
      simp only at hcc
      conv=>cbv
      split
      ·rename_i hc
       cases (show False by
        subst hA
        simp [Ze] at hc
        simp at hcc
        exact hc (by rw [ZyA];simp;exact hcc))
      conv=>cbv
      refine ⟨hir,hfin _ ?_⟩
      (conv=>cbv)
      exact Zt (bx:=[_,_,_,_]) (bx':=[_]) (mp:=[]) (mp':=[]) 
  all_goals
   refine Zf (λ R hR=>?_)
   refine Zf (λ R0 hR0=>?_)
   conv=>cbv
   refine hR0 _ ?_
   clear hR0
   refine Zi hA (λ (i:Int) s=>s.put (some 151) (.val (.int .i64 i))) (λ i=>0<=i/\i<=O2.length) (λ i=>(O2.length - i).toNat) 0 ?_ ?_ ?_
   ·conv=>cbv
    exact Zk
   ·exact ⟨Zyk _,by omega⟩
   rintro R1 i ⟨hi0,hi1⟩ hR1
   conv=>cbv
   split
   rotate_left
   ·conv=>cbv
    refine hR _ ?_
    conv=>cbv
    exact hq
   rename_i hc
   clear hR
   have hi:i<O2.length:=ZE hA rfl (Zl hA hl2) hc
   have his:A.iAdd i 1=i+1:=Z5 hA _ _
   have hir:A.inR (A.iAdd i 1):=Zy hA his (by unfold Zj;omega)
   obtain ⟨o,ho⟩:∃o,O2[i.toNat]?=some o:=⟨_,Zya (show i.toNat<O2.length by omega)⟩
   have hin:b2=true\/o∈O1:=by
    rcases hlat with h | h
    ·exact .inl h
    ·exact .inr (h o (Zyb ho))
   have hfin:∀s',Wk (0,0) s' _->R1 s':=λ s' hw=>hR1 (A.iAdd i 1) s' hw ⟨by show 0<=A.iAdd i 1;omega,by show A.iAdd i 1<=_;omega⟩ (by show (O2.length - A.iAdd i 1).toNat < _;rw [his];omega)
   clear hR1
   obtain ⟨o1,o2,o3,o4⟩:=o
   conv=>cbv
   refine Yn hA hos2 hi0 hi (λ z hz=>?_)
   obtain rfl:=Zyc (ho.symm.trans hz)
   clear hz
   conv=>cbv
   refine Za hA (k2) ?_
   conv=>cbv
   refine Zi hA (λ (z:Int × Bool) s=>(s.put (some 160) (.val (.int .i64 z.1))).put (some 24) (.val (.bool z.2))) (λ z=>0<=z.1/\z.1<=O1.length/\(b2=true\/(⟨o1,o2,o3,o4⟩:Opt)∈O1.take z.1.toNat->z.2=true)) (λ z=>(O1.length - z.1).toNat) (0,b2) ?_ ?_ ?_
   ·conv=>cbv
    exact Zk
   ·refine ⟨Zyk _,by omega,λ h=>?_⟩
    rcases h with h | h
    ·exact h
    ·simp at h
   rintro R3 ⟨k,bb⟩ ⟨hk0,hk1,hbb⟩ hR3
   simp only at hk0 hk1 hbb
   conv=>cbv
   split
   rotate_left
   ·rename_i hc
    have hge:=ZK hA rfl (Zl hA hl1) hc
    rw [Zyl (by omega)] at hbb
    have hbt:bb=true:=hbb hin
    subst hbt
    clear hR3
    conv=>cbv
    split
    ·rename_i hc
     cases ((show False by have h9:true=false:=Yy hA hc;cases h9))
    conv=>cbv
    refine ⟨hir,hfin _ ?_⟩
    (conv=>cbv)
    exact ZrV
   rename_i hc
   have hk:k<O1.length:=ZE hA rfl (Zl hA hl1) hc
   have hks:A.iAdd k 1=k+1:=Z5 hA _ _
   have hkr:A.inR (A.iAdd k 1):=Zy hA hks (by unfold Zj;omega)
   have hmu:(O1.length - A.iAdd k 1).toNat<(O1.length - k).toNat:=by rw [hks];omega
   clear hfin
   conv=>cbv
   refine Yn hA hos1 hk0 hk (λ x hx=>?_)
   have htk:=Zo hk0 hx
   obtain ⟨x1,x2,x3,x4⟩:=x
   cases bb
   case' true =>
    have hnx:b2=true\/(⟨o1,o2,o3,o4⟩:Opt)∈O1.take (A.iAdd k 1).toNat->true=true:=λ _=>rfl
    conv=>cbv
    refine ⟨hkr,hR3 (A.iAdd k 1,true) _ ?_ ⟨by show 0<=A.iAdd k 1;omega,by show A.iAdd k 1<=_;omega,hnx⟩ hmu⟩
   case' false =>
    have hnx:b2=true\/(⟨o1,o2,o3,o4⟩:Opt)∈O1.take (A.iAdd k 1).toNat->A.bAnd (A.iEq o1 x1) (A.bAnd (A.iEq o2 x2) (A.bAnd (A.iEq o3 x3) (A.bAnd (A.bEq o4 x4) true)))=true:=λ h=>by
     rw [hks,htk,Zy4,Zy3] at h
     have h9:(⟨o1,o2,o3,o4⟩:Opt)=⟨x1,x2,x3,x4⟩:=by
      rcases h with h | h | h
      ·cases hbb (.inl h)
      ·cases hbb (.inr h)
      ·exact h
     cases h9
     subst hA
     simp [Ze]
    conv=>cbv
    refine ⟨hkr,hR3 (A.iAdd k 1,A.bAnd (A.iEq o1 x1) (A.bAnd (A.iEq o2 x2) (A.bAnd (A.iEq o3 x3) (A.bAnd (A.bEq o4 x4) true)))) _ ?_ ⟨by show 0<=A.iAdd k 1;omega,by show A.iAdd k 1<=_;omega,hnx⟩ hmu⟩
   all_goals
    (conv=>cbv)
    exact ZrV
end Go.Abs
namespace Go.Proofs.YtcafjndjnfdnpaaGreat
open Go.ChangeShapes Go.WideShapes Go.ChangeAt Go.RowKit Go.Abs
namespace StagesLaterP
theorem own : ownKnob Tryz.prog.godebug = none := by kernel_rfl
theorem laid : laidOutB Tryz.prog = true := by kernel_rfl
set_option maxRecDepth 100000 in
theorem contract (H : Type) (enc : TypeId × Value -> H) (W : World) (base : Nat) (args : Array Value) (ds gs : List (DataW H)) (before : List MemPlace)
    (hval : ∀ (j : Nat) t v, Tryz.f9.params[j]? = some t -> args[j]? = some v -> Value.okWide Tryz.prog W .any base t v)
    (hW : DataW.Whole enc Tryz.prog Tryz.f9.params.toList Rows.stagesLaterSpec.vars false W args.toList ds gs before) :
    Calls Tryz.prog 9 args W λ e W' => ∃ v, e = .returned v /\ Rows.stagesLaterSpec.post enc Tryz.prog Tryz.f9 false true false false W args v W' := by
  have hW0 := hW
  obtain ⟨p, q, hA, _⟩ := hW
  rw [Tryz.params9] at hA hval
  obtain ⟨v0, vs0, d0, ds0, p0, q0, e0, rfl, rfl, h0, hA⟩ := trodAll_cons hA
  obtain ⟨v1, vs1, d1, ds1, p1, q1, rfl, rfl, rfl, h1, hA⟩ := trodAll_cons hA
  obtain ⟨v2, vs2, d2, ds2, p2, q2, rfl, rfl, rfl, h2, hA⟩ := trodAll_cons hA
  obtain ⟨v3, vs3, d3, ds3, p3, q3, rfl, rfl, rfl, h3, hA⟩ := trodAll_cons hA
  obtain ⟨v4, vs4, d4, ds4, p4, q4, rfl, rfl, rfl, h4, hA⟩ := trodAll_cons hA
  obtain ⟨v5, vs5, d5, ds5, p5, q5, rfl, rfl, rfl, h5, hA⟩ := trodAll_cons hA
  obtain ⟨rfl, rfl, rfl⟩ := trodAll_nil hA
  obtain rfl : args = #[v0, v1, v2, v3, v4, v5] := by cases args; simp_all
  obtain ⟨a0, k0, r0⟩ := QV Tryz.underlying28 hval 0 rfl rfl Zhx (λ _ => rfl) h0
  obtain ⟨a1, k1, r1⟩ := QV Tryz.underlying72 hval 1 rfl rfl ZhF (λ _ => rfl) h1
  obtain ⟨a2, k2, r2⟩ := QV Tryz.underlying33 hval 2 rfl rfl Zhy (λ _ => rfl) h2
  obtain ⟨a3, k3, r3⟩ := Zdr Tryz.underlying3 hval 3 rfl rfl h3
  obtain ⟨a4, k4, r4⟩ := Zdr Tryz.underlying3 hval 4 rfl rfl h4
  obtain ⟨a5, k5, r5⟩ := QV Tryz.underlying35 hval 5 rfl rfl Zwe (λ _ => rfl) h5
  exact Zc0 laid (by rw [Tryz.params9]; decide +kernel) rfl
    (λ ds h => by rw [Tryz.params9] at h; match ds, h with | [_, _, _, _, _, _], _ => rfl) rfl Tryz.underlying4 hW0 (Zjh a0 a1 a2 a3 a4 a5 k0 k1 k2 k3 k4 k5)
    (.cons r0 (.cons r1 (.cons r2 (.cons r3 (.cons r4 (.cons r5 .nil))))))
set_option maxRecDepth 100000 in
theorem lifted (os : Os) (started : os.Started) (H : Type) (enc : TypeId × Value -> H) :
    ReturnsInHanded {} Tryz.checked os 9 .any (Rows.stagesLaterSpec.pre6 enc Tryz.prog Tryz.f9 Rows.stagesLaterRow.domain false) (Rows.stagesLaterSpec.post enc Tryz.prog Tryz.f9 false true false false) := by
  refine returnsInHanded_of_change (C := Tryz.checked) own started (by kernel_rfl) Tryz.func9
    (ChangeSpec.witness6 (enc := enc) (C := Tryz.checked) false ⟨#[], #[.agg #[.int .i64 0, .slice none 0 0, .slice none 0 0, .slice none 0 0, .slice none 0 0, .slice none 0 0], .agg #[.slice none 0 0], .agg #[.int .i64 0, .int .i64 0, .int .i64 0, .string .empty, .slice none 0 0, .int .i64 0, .int .i64 0, .bool false], .int .i64 0, .int .i64 0, .agg #[.int .i64 0, .int .i64 0, .int .i64 0, .bool false]], []⟩ 8 (by kernel_rfl) (by kernel_rfl) (by kernel_rfl) (by kernel_rfl)) ?_
  intro W base args ds gs before hval hW _ _
  exact contract H enc W base args ds gs before hval hW
end StagesLaterP
theorem and_tt {a b : Bool} (ha : a = true) (hb : b = true) : (a && b) = true := by rw [ha, hb]; rfl
set_option maxHeartbeats 4000000 in
theorem closed_stagesLater : joinedFacts Tryz.prog 9 Tryz.f9 Rows.stagesLaterSpec Rows.stagesLaterRow = true := by
  unfold joinedFacts
  repeat' (with_reducible apply and_tt)
  all_goals (as_aux_lemma => kernel_rfl)
theorem stagesLater_holds : Rows.StagesLaterSaid :=
  OpenClaim.holds_of_wide 9 Tryz.f9 rfl rfl rfl rfl rfl rfl rfl ⟨rfl, rfl, rfl, rfl, rfl⟩ rfl rfl rfl rfl rfl (by kernel_rfl) Tryz.func9 closed_stagesLater
    (ZyU (by kernel_rfl)) (by unfold Func.isWrapper; first | (rw [if_pos (by decide +kernel)]; kernel_rfl) | (rw [if_neg (by decide +kernel)]; exact ⟨rfl, rfl⟩))
    (λ os started H enc _ => StagesLaterP.lifted os started H enc)
end Go.Proofs.YtcafjndjnfdnpaaGreat
