/-
  overflightlaw21.StagesFixed: for all tables, schemes and flights, a fixed flight uses what its choice uses. No conditions.
-/
import Derived.Test.YtcafjndjnfdnpaaGreatT9
import Derived.Test.YtcafjndjnfdnpaaGreatRows
set_option linter.unusedVariables false
set_option linter.unusedSimpArgs false
namespace Go.Abs
open Go.RowKit
instance:Inhabited PV:=⟨.any⟩
instance:Inhabited TD:=⟨⟨.other,0,0,false,none,[]⟩⟩
instance:Inhabited YS:=⟨.none⟩
instance:Inhabited SV:=⟨.undef⟩
section
variable {E:Env} {S:Addr->Prop} {w:World}
section
variable {t k e:TypeId} {ks:List SK} {b:Nat} {arr:Array MapEntry} {clock:Nat} {es es0:List (PV × PV)} {key z:PV}
end
end
open Go.Proofs
instance:DecidableEq Qo:=λ a b=>decidable_of_iff (a.Way=b.Way/\a.Times=b.Times) ⟨λ h=>by cases a;cases b;simp only at h;rw [h.1,h.2],λ h=>by rw [h];exact ⟨rfl,rfl⟩⟩
section
variable {P:Program} {t e:TypeId}
end
section
variable {P:Program} {ts:Array TypeId} {vs:Array Value} {t:TypeId} {w:World} {r:Reach} {b0:Nat} {v:Value} {H:Type} {en:TypeId × Value->H} {sp:Nat->Bool} {held:Bool} {d:DataW H} {ps:List MemPlace} {α:Type} {enc:α->PV} {ok:α->Prop}
end
open Go.Proofs
section
variable {κ α:Type} [DecidableEq κ]
variable {ek:κ->PV} {f:α->PV} (hk:∀a b,keq (ek a) (ek b)=decide (a=b))
include hk
end
open Go.Lib Go.Proofs Go.Shelf Go.Sort
instance:Inhabited Cell:=⟨⟨false,0,0⟩⟩
open Go.Proofs
set_option maxRecDepth 4000 in
open Go.Proofs
theorem capErr_zero {t:Zh} {s:List Zr} (h:Qj t s=0):Qe t=true/\QO t.Configs.length t.Modes s=true:=by
 unfold Qj at h
 split at h
 ·split at h
  ·exact ⟨‹_›,‹_›⟩
  ·cases h
 ·cases h
open Go.Proofs
open Go.Proofs
instance (a b:Cell):Decidable (ZM a b):=by unfold ZM;infer_instance
open Go.Proofs
theorem leastNodup (css:List (List Cell)) (many:Int):(css.flatten.eraseDups.filter λ c=>decide (many<=(ZaW css c:Int))).Nodup:=Z04 Z0b (ZaA _ _ (Zyp _))
theorem mem_least {css:List (List Cell)} {many:Int} {c:Cell}:c∈(css.flatten.eraseDups.filter λ c=>decide (many<=(ZaW css c:Int)))↔c∈css.flatten/\many<=(ZaW css c:Int):=by
 rw [ZyB,Z06,Zyf]
open Go.Proofs
theorem ZkW {P:Zr->Prop} {m:Int}:∀(l:List Zr) (o:Option Zr),(∀c,o=some c->P c)->(∀x∈l,P x)->(o.isSome=true\/∃x∈l,x.From<=m)->∃c,l.foldl (QQ m) o=some c/\P c
 | [],o,h1,_,h3=>by
  rcases h3 with h | ⟨x,hx,_⟩
  ·obtain ⟨c,hc⟩:=Option.isSome_iff_exists.1 h
   exact ⟨c,hc,h1 c hc⟩
  ·cases hx
 | x::r,o,h1,h2,h3=>by
  have hx:=h2 x (by simp)
  refine ZkW r (QQ m o x) (λ c hc=>?_) (λ y hy=>h2 y (by simp [hy])) ?_
  ·unfold QQ at hc
   split at hc
   ·cases o with
    | none=>cases hc;exact hx
    | some d =>
     simp only at hc
     split at hc
     ·cases hc;exact hx
     ·cases hc;exact h1 _ rfl
   ·exact h1 c hc
  ·rcases h3 with h | ⟨y,hy,hm⟩
   ·left
    unfold QQ
    cases o with
    | none=>cases h
    | some d =>
     simp only
     split
     ·split<;>rfl
     ·rfl
   ·rcases ZyJ.1 hy with rfl | hy
    ·left
     unfold QQ
     rw [if_pos hm]
     cases o with
     | none=>rfl
     | some d=>simp only;split<;>rfl
    ·exact .inr ⟨y,hy,hm⟩
theorem secAt_some {t:Zh} {s:List Zr} (ha:Qe t=true) (hs:QO t.Configs.length t.Modes s=true) {v m:Int} (hv:0<=v/\v<t.Volumes) (hm:0<=m):∃i,ZcN t s v m=some i:=by
 obtain ⟨c,hc,hP⟩:∃c,inS s m=some c/\(0<=c.Config/\c.Config<t.Configs.length):=by
  cases s with
  | nil=>cases hs
  | cons x r =>
   simp only [QO,Zyi,Zyf,Zym] at hs
   refine ZkW (P:=λ c:Zr=>0<=c.Config/\c.Config<t.Configs.length) (x::r) none (by simp) (λ y hy=>?_) (.inr ⟨x,by simp,by omega⟩)
   have:=hs.1.2 y hy
   simp only [YX,Zyi,Zyf] at this
   omega
 unfold ZcN
 rw [hc]
 simp only
 unfold Yh
 rw [if_pos hP.1]
 have hlt:c.Config.toNat<t.Configs.length:=by omega
 rw [Zya hlt]
 simp only
 have hd:Zar t.Volumes.toNat t.Sectors t.Configs=true:=by
  unfold Qe at ha
  simp only [Zyi] at ha
  exact ha.1.1.1.1.1.1.1.2
 have h1:=((ZfN _ _ _).1 hd).2.2.2.2.2.2 _ (Zzg hlt)
 unfold Zlw at h1
 simp only [Zyi,Zym,Zyf] at h1
 have h2:=h1.2 v.toNat (ZyP.2 (by omega))
 rw [show ((v.toNat:Nat):Int)=v by omega] at h2
 unfold YQ at h2
 obtain ⟨i,hi⟩:=List.exists_mem_of_length_pos (l:=(t.Configs[c.Config.toNat].Sectors.filter (ZeK t.Sectors v))) (by omega)
 rw [ZyB] at hi
 have h3:=h1.1
 refine Option.isSome_iff_exists.1 (List.find?_isSome.2 ⟨i,hi.1,?_⟩)
 unfold Zbi
 have h4:0<=i:=by
  simp only [ZdV,Zyi,Zym,Zyf] at h3
  exact (h3.1 i hi.1).1
 rw [Zyq h4,ZyL]
 exact hi.2
theorem mem_leastD {css:List (List Cell)} {many:Int} {c:Cell}:c∈Zbs css many↔c∈css.flatten/\many<=(ZaW css c:Int):=by
 unfold Zbs
 rw [(Yj _).mem_iff,mem_least]
theorem leastD_nodup (css:List (List Cell)) (many:Int):(Zbs css many).Nodup:=(Yj _).nodup_iff.2 (leastNodup css many)
def useC:List Use->Cell->Int
 | [],_=>0
 | u::r,c=>(if u.Cell=c then u.Places else 0)+useC r c
theorem useC_snoc (l:List Use) (u:Use) (c:Cell):useC (l++[u]) c=useC l c+if u.Cell=c then u.Places else 0:=by
 induction l with
 | nil=>simp [useC]
 | cons a r ih=>simp only [Zzq,useC,ih];omega
theorem useC_map {L:List Cell} (hn:L.Nodup) (pl:Int) (c:Cell):useC (L.map λ d=>⟨d,pl⟩) c=if c∈L then pl else 0:=by
 induction L with
 | nil=>rfl
 | cons x l ih =>
  obtain ⟨h1,h2⟩:=Z01.1 hn
  rw [Zzl,useC,ih h2]
  by_cases e:x=c
  ·subst e
   rw [if_pos rfl,if_neg h1,if_pos (by simp)]
   exact ZzQ _
  ·rw [if_neg e]
   by_cases hm:c∈l
   ·rw [if_pos hm,if_pos (by simp [hm])];omega
   ·rw [if_neg hm,if_neg (by simp [hm,Z0B e])];omega
theorem useC_least (css:List (List Cell)) (pl:Int) (c:Cell):useC (Yk css 1 pl) c=if c∈css.flatten then pl else 0:=by
 unfold Yk
 rw [useC_map (leastD_nodup css 1)]
 by_cases h:c∈css.flatten
 ·have:=Zf1.2 h
  rw [if_pos h,if_pos (mem_leastD.2 ⟨h,by omega⟩)]
 ·rw [if_neg h,if_neg λ h1=>h (mem_leastD.1 h1).1]
theorem cnt_sub {t:Zh} {s:List Zr} {f:Flight} {o:Opt} {l:List Qo} (hc:Qj t s=0) (hf:Z8 t f=0) (hl:∀p∈l,p∈ZX t f o):Ql t s f.Class l=0:=by
 unfold Ql
 rw [if_neg (by rw [hc];simp)]
 obtain ⟨k,hk,hk0,_⟩:=Qx hf
 rw [if_neg (by have:=(ZxZ.1 hk).1;omega)]
 refine ZfQ λ p hp=>?_
 obtain ⟨w,hw⟩:=ZcL (Zjr (hl p hp)) (hl p hp)
 exact hw.err
theorem usesL_eq {t:Zh} {s:List Zr} {f:Flight} {o:Opt} {l:List Qo} (hc:Qj t s=0) (hf:Z8 t f=0) (hl:∀p∈l,p∈ZX t f o):Qu t s f.Class l=Yk (l.map (ZG t s)) 1 (Q4 t f.Class):=by
 unfold Qu
 rw [if_pos (cnt_sub hc hf hl)]
theorem useC_uses {t:Zh} {s:List Zr} {f:Flight} {o:Opt} (hc:Qj t s=0) (hf:Z8 t f=0) {p:Qo} (hp:p∈ZX t f o) {c:Cell} (h:c∈ZG t s p):useC (Qu t s f.Class (ZX t f o)) c=Q4 t f.Class:=by
 rw [usesL_eq hc hf λ p h=>h,useC_least,if_pos (Z0G.2 ⟨_,ZzO hp,h⟩)]
theorem Zty {t:Zh} {s:List Zr} {f:Flight} {o:Opt} {l:List Qo} (hc:Qj t s=0) (hf:Z8 t f=0) (hl:∀p∈l,p∈ZX t f o) {u:Use} (hu:u∈Qu t s f.Class l):useC (Qu t s f.Class (ZX t f o)) u.Cell=u.Places:=by
 rw [usesL_eq hc hf hl] at hu
 unfold Yk at hu
 obtain ⟨c,h,rfl⟩:=Zyz.1 hu
 obtain ⟨L,h1,h2⟩:=Z0G.1 (mem_leastD.1 h).1
 obtain ⟨p,h3,rfl⟩:=Zyz.1 h1
 exact useC_uses hc hf (hl p h3) h2
theorem Ztz (t:Zh) (s:List Zr) (cl:Int):Qu t s cl []=[]:=by
 unfold Qu
 split
 ·simp [Yk,Zbs,YE]
 ·rfl
theorem leastU_le (css:List (List Cell)) (pl:Int):(Yk css 1 pl).length<=css.flatten.length:=by
 unfold Yk
 rw [Zys]
 exact (leastD_nodup css 1).length_le_of_subset λ c hc=>(mem_leastD.1 hc).1
theorem usesL_len (t:Zh) (s:List Zr) (cl:Int) (l:List Qo):(Qu t s cl l).length<=14400*l.length:=by
 unfold Qu
 split
 ·rename_i h
  exact Zy1 (leastU_le _ _) (Zn4 h)
 ·simp
theorem places_in {t:Zh} (ha:Qe t=true) (cl:Int):0<=Q4 t cl/\Q4 t cl<=4096:=by
 unfold Q4
 split
 ·rename_i k hk
  unfold Qe at ha
  simp only [Zyi,Zym] at ha
  have h1:=(ha.2 _ (Zyb hk)).1
  unfold Y9 at h1
  simp only [QU,Zyi,Zzt,ZzV,Zzm] at h1
  omega
 ·omega
theorem uses_places {t:Zh} {s:List Zr} {cl:Int} {l:List Qo} (ha:Qe t=true):∀u∈Qu t s cl l,0<=u.Places/\u.Places<=4096:=λ u hu=>by
 unfold Qu at hu
 split at hu
 ·unfold Yk at hu
  obtain ⟨c,_,rfl⟩:=Zyz.1 hu
  exact places_in ha cl
 ·cases hu
theorem choicesO_ne (t:Zh) (f:Flight) (now:Int):Z1 t f now≠[]:=by
 unfold Z1
 split
 ·simp
 ·assumption
theorem choice_flies {t:Zh} {f:Flight} {now:Int} {o:Opt} (h:o∈Z1 t f now) (hn:o.Cancel=false):o∈ZZ t f/\ZN t f o=0/\1<=(ZX t f o).length/\(ZL t f o).2.2=0:=by
 have hm:o∈ZZ t f:=by
  unfold Z1 at h
  split at h
  ·rw [Zy3] at h
   subst h
   cases hn
  ·exact (ZyB.1 h).1
 have he:=ZyU (ZyB.1 hm).2
 unfold QP at he
 split at he
 ·rename_i h1;exact absurd he h1
 rename_i h1
 rw [hn] at he
 simp only [Zzf,if_false] at he
 split at he
 ·rename_i h2;exact absurd he h2
 rename_i h2
 refine ⟨hm,Z0u.1 h2,?_,Z0u.1 h1⟩
 rcases Zft t f o with ⟨h3,_⟩ | ⟨_,_,_,_,h3,_⟩
 ·exact absurd h3 h2
 ·exact h3
open Go.Proofs
theorem useC_le {us:List Use} (hp:∀u∈us,0<=u.Places/\u.Places<=4096) (c:Cell):0<=useC us c/\useC us c<=4096*(us.length:Int):=by
 induction us with
 | nil=>simp [useC]
 | cons a r ih =>
  have h1:=ih λ u hu=>hp u (by simp [hu])
  have h2:=hp a (by simp)
  simp only [useC,ZyM]
  split<;>omega
theorem law21_uses (us:List Use) (c:Cell) (hl:us.length<=100000000) (hp:∀u∈us,0<=u.Places/\u.Places<=4096) {xs:List PV} (hx:xs=ZP us) :
  Zc Tryz.prog 30 [.list 4 xs,Zu c] (.int .i64 (useC us c)):=by
 refine Zb (clo:=λ _=>false) (rows:=false) Zg Tryz.func30 rfl (enters_of Tryz.func30 (by kernel_rfl) rfl) (λ A q P Y hr hA hq=>?_)
 have hxl:xs.length=us.length:=by rw [hx,Zcm]
 obtain ⟨c1,c2,c3⟩:=c
 conv=>cbv
 refine Zi hA (λ (z:Int × Int) s=>(s.put (some 9) (.val (.int .i64 z.1))).put (some 4) (.val (.int .i64 z.2))) (λ z=>0<=z.1/\z.1<=us.length/\z.2=useC (us.take z.1.toNat) ⟨c1,c2,c3⟩) (λ z=>(us.length - z.1).toNat) (0,0) ?_ ?_ ?_
 ·conv=>cbv
  exact Zk
 ·exact ⟨Zyk _,by omega,rfl⟩
 rintro R ⟨i,n⟩ ⟨hi0,hi1,hn⟩ hR
 simp only at hi0 hi1 hn
 conv=>cbv
 split
 rotate_left
 ·rename_i hc
  have hge:(us.length:Int)<=i:=ZK hA rfl (Zl hA hxl) hc
  rw [Zyl (by omega)] at hn
  conv=>cbv
  rw [<-hq,hn]
 rename_i hc
 have hi:i<us.length:=ZE hA rfl (Zl hA hxl) hc
 have his:A.iAdd i 1=i+1:=Z5 hA _ _
 have hir:A.inR (A.iAdd i 1):=Zy hA his (by unfold Zj;omega)
 have hnb:=useC_le (us:=us.take i.toNat) (λ u hu=>hp u (Z0w hu)) ⟨c1,c2,c3⟩
 rw [<-hn,ZyE] at hnb
 conv=>cbv
 refine ZfP hA hx hi0 hi (λ x hx0=>?_)
 have htk:=Zo hi0 hx0
 have hpx:=hp x (Zyb hx0)
 have hsn:useC (us.take (i+1).toNat) ⟨c1,c2,c3⟩=n+if x.Cell=⟨c1,c2,c3⟩ then x.Places else 0:=by rw [htk,useC_snoc,hn]
 obtain ⟨⟨x1,x2,x3⟩,x4⟩:=x
 simp only at hpx hsn
 conv=>cbv
 split
 ·rename_i hc
  have he:(⟨x1,x2,x3⟩:Cell)=⟨c1,c2,c3⟩:=by
   subst hA
   simp [Ze] at hc
   obtain ⟨rfl,rfl,rfl⟩:=hc
   rfl
  rw [if_pos he] at hsn
  have ha:A.iAdd n x4=n+x4:=Z5 hA _ _
  conv=>cbv
  refine ⟨Zy hA ha (by unfold Zj;omega),hir,hR (A.iAdd i 1,A.iAdd n x4) _ ?_ ⟨by show 0<=A.iAdd i 1;omega,by show A.iAdd i 1<=_;omega,by show A.iAdd n x4=useC (us.take (A.iAdd i 1).toNat) _;rw [ha,his,hsn]⟩ (by show (us.length - A.iAdd i 1).toNat < _;rw [his];omega)⟩
  (conv=>cbv)
  exact Zt (bx:=[_]) (bx':=[_]) (mp:=[]) (mp':=[]) 
 ·rename_i hc
  have he:(⟨x1,x2,x3⟩:Cell)≠⟨c1,c2,c3⟩:=λ h=>by
   cases h
   subst hA
   simp [Ze] at hc
  rw [if_neg he] at hsn
  conv=>cbv
  refine ⟨hir,hR (A.iAdd i 1,n) _ ?_ ⟨by show 0<=A.iAdd i 1;omega,by show A.iAdd i 1<=_;omega,by show n=useC (us.take (A.iAdd i 1).toNat) _;rw [his,hsn];omega⟩ (by show (us.length - A.iAdd i 1).toNat < _;rw [his];omega)⟩
  (conv=>cbv)
  exact Zt (bx:=[_]) (bx':=[_]) (mp:=[]) (mp':=[]) 
def resL (e:Int) (C:List Q8) (O:List Opt):PV:=if e=0 then .tup [.list 4 (Qa C),.list 4 (Zq O),.int .i64 0] else .tup [.list 0 [],.list 0 [],.int .i64 e]
theorem choicesO_len (t:Zh) (f:Flight) (n:Int):(Z1 t f n).length<=1000:=by
 unfold Z1
 split
 ·simp
 ·exact Zy1 (ZyH _ _) (Zy1 (ZyH _ _) (YF t f))
open Go.Proofs
structure Zwn (t:Zh) (s:List Zr) (f:Flight) (O:List Opt) (C:List Q8):Prop where
 ne:0<O.length
 l1:O.length<=1000
 lc:C.length=O.length
 fly:∀(i:Nat) (o:Opt) (c:Q8),O[i]?=some o->C[i]?=some c->o.Cancel=false->ZN t f o=0/\(ZX t f o).length<=150/\c.Uses=Qu t s f.Class (ZX t f o)/\c.Uses.length<=100000000/\(∀u∈c.Uses,0<=u.Places/\u.Places<=4096) /\
  ∀l,(∀p∈l,p∈ZX t f o)->Zf2 t s f o l=.tup [YJ ⟨c.Delay,c.Cost,0,Qu t s f.Class l⟩,.int .i64 0]/\(Qu t s f.Class l).length<=14400*l.length/\∀u∈Qu t s f.Class l,useC c.Uses u.Cell=u.Places
theorem Zvd (t:Zh) (s:List Zr) (f:Flight) (now:Int) (ann:Opt) (hl:Zal t s f=true) :
  ∃(e:Int) (O:List Opt) (C:List Q8),Zc Tryz.prog 25 [Zn t,ZD s,Zx f,.int .i64 now,Z2 ann] (resL e C O)/\(e=0->Zwn t s f O C):=by
 have hlf:ZbH t f=true:=by unfold Zal at hl;rw [Zyi] at hl;exact hl.1
 obtain ⟨g1,g2⟩:=Zcp hlf
 refine ⟨Qt t s f,Z1 t f now,Q9 t s f now ann,YN t s f now ann g1 g2,λ he=>?_⟩
 have h2:Qj t s=0/\Z8 t f=0:=by
  unfold Qt at he
  split at he
  ·rename_i h1;exact absurd he h1
  ·rename_i h1;exact ⟨Z0u.1 h1,he⟩
 obtain ⟨hcap,hck⟩:=h2
 have hair:=(capErr_zero hcap).1
 have hget:∀(i:Nat) (o:Opt) (c:Q8),(Z1 t f now)[i]?=some o->(Q9 t s f now ann)[i]?=some c->c=ZaZ t s f ann o:=λ i o c h1 h2=>by
  unfold Q9 at h2
  rw [Zyh,h1] at h2
  simpa using h2.symm
 refine ⟨Zz0.2 (choicesO_ne _ _ _),choicesO_len _ _ _,by simp [Q9],λ i o c h1 h2 h3=>?_⟩
 obtain ⟨m1,m2,m3,m0⟩:=choice_flies (Zyb h1) h3
 have m4:(ZX t f o).length<=150:=by
  rcases g2 o m1 with h | h
  ·rw [h3] at h;cases h
  ·exact h
 have hof:o≠QM:=λ h=>by rw [h] at h3;cases h3
 rw [hget i o c h1 h2]
 simp only [ZaZ,h3,Zzf,if_false]
 refine ⟨m2,m4,trivial,?_,uses_places hair,λ l hl=>⟨?_,usesL_len _ _ _ _,λ u hu=>Zty hcap hck hl hu⟩⟩
 ·have:=usesL_len t s f.Class (ZX t f o)
  omega
 ·have hcs:=cnt_sub hcap hck hl
  have hE:Zd8 t s f o l=0:=by
   unfold Zd8 ZbG
   rw [if_neg (by simp [hcap]),if_neg (by simp [hck]),if_neg hof,if_neg (by simp [m0]),hcs]
  unfold Zf2
  rw [if_pos hE]
  unfold Zk8 ZbG
  rw [if_neg hof]
set_option maxRecDepth 10000 in
set_option maxHeartbeats 8000000 in
theorem Zji (t:Zh) (s:List Zr) (f:Flight) (choice keep:Int) (_:Zfr t) (_:Zf9 s) (_:Zfs f) (k4:(Lit.int .u8 choice).wf=true) (_:(Lit.int .u32 keep).wf=true) :
  Zc Tryz.prog 7 [Zn t,ZD s,Zx f,.int .u8 choice,.int .u32 keep] (.bool true):=by
 have hab:0<=choice/\choice<=255:=by
  simp [Lit.wf,IntKind.min,IntKind.max,IntKind.signed,IntKind.bits] at k4
  omega
 refine Zb (clo:=λ n=>n == 1000019 || n == 1000020) (rows:=false) Zg Tryz.func7 rfl (enters_of Tryz.func7 (by kernel_rfl) rfl) (λ A q P Y hr hA hq=>?_)
 have hlt:=Zdw t s f
 have hpk:=λ hl=>Zvd t s f 0 ⟨0,0,0,false⟩ hl
 have hall:=λ o=>Zn9 t f o
 have hfx:=λ o l {xs:List PV} (hx:xs=ZJ l) (hl:l.length<=150)=>Zh9 t s f o l hx hl
 have hfly:=λ {O:List Opt} {C:List Q8} (h:Zwn t s f O C)=>h.fly
 generalize Zal t s f=lb at hlt hpk
 have hmodf:∀(c n:Int) (xs:List PV) (m:Nat),0<=c->c<=255->A.lLen xs=(m:Int)->0<m->A.nz (A.lLen xs)/\0<=A.iMod (A.wrap .i64 c) (A.lLen xs)/\A.iMod (A.wrap .i64 c) (A.lLen xs)<m:=λ c n xs m h1 h2 h3 h4=>by
  have hwr:A.wrap .i64 c=c:=by subst hA;exact Zdg (by unfold Zj;omega)
  rw [h3,hwr]
  have e:A.iMod c (m:Int)=c % (m:Int):=by
   subst hA
   show c.tmod _=_
   exact Zzv h1
  rw [e]
  refine ⟨?_,Int.emod_nonneg _ (by omega),Int.emod_lt_of_pos _ (by omega)⟩
  subst hA
  show (m:Int)≠0
  omega
 obtain ⟨ss,cs,ws,ms,ks,nv,hss,hcs,hws,hms,hks,hnv,htab⟩:=Qd t
 obtain ⟨sc,hsc⟩:∃sc,sc=Zz s:=⟨_,rfl⟩
 rw [ZB hsc] at hlt hpk hfx ⊢
 rw [htab] at hlt hpk hall hfx ⊢
 obtain ⟨f1,f2,f3,f4,f5,⟨f6,f7⟩,f8⟩:=f
 obtain ⟨fl,hfl⟩:∃fl,fl=Zd f5:=⟨_,rfl⟩
 rw [Zs _ hfl] at hlt hpk hall hfx ⊢
 simp only at hlt hpk hall hfx hfly ⊢
 refine Zf (λ R hR=>?_)
 conv=>cbv
 refine hR _ ?_
 clear hR
 refine Zf (λ R hR=>?_)
 conv=>cbv
 refine Za hA (ZeB) ?_
 conv=>cbv
 split
 ·rename_i hc
  cases ((show False by have h9:true=false:=Yy hA hc;cases h9))
 conv=>cbv
 refine hR _ ?_
 clear hR
 refine Zf (λ R hR=>?_)
 conv=>cbv
 refine Za hA (hlt) ?_
 conv=>cbv
 split
 ·conv=>cbv
  exact hq
 rename_i hc
 obtain ⟨e,O,C,c1,hok⟩:=hpk (YP hA hc)
 conv=>cbv
 refine hR _ ?_
 clear hR hpk hlt
 unfold resL at c1
 by_cases h0:e=0
 rotate_left
 ·rw [if_neg h0] at c1
  have he0:A.bNot (A.iEq e 0)=true:=by subst hA;simp [Ze];exact h0
  refine Zf (λ R hR=>?_)
  conv=>cbv
  refine Za hA (c1) ?_
  conv=>cbv
  refine hR _ ?_
  clear hR
  refine Zf (λ R hR=>?_)
  conv=>cbv
  split
  rotate_left
  ·rename_i hc
   cases ((show False by exact h0 (neF hA hc)))
  conv=>cbv
  exact (congrArg PV.bool he0).trans hq
 rw [if_pos h0] at c1
 have hfly:=hfly (hok h0)
 obtain ⟨ne,l1,lc,_⟩:=hok h0
 clear hok
 obtain ⟨os,hos⟩:∃os,os=Zq O:=⟨_,rfl⟩
 obtain ⟨cs1,hcs1⟩:∃cs1,cs1=Qa C:=⟨_,rfl⟩
 rw [<-hos,<-hcs1] at c1
 have hosl:os.length=O.length:=by rw [hos];simp [Zq]
 have hcsl:cs1.length=O.length:=by rw [hcs1,<-lc];simp [Qa]
 obtain ⟨hnz,hi0,hi1⟩:=hmodf choice 0 os O.length hab.1 hab.2 (Zl hA hosl) ne
 clear hmodf
 obtain ⟨o,ho⟩:∃o,O[(A.iMod (A.wrap .i64 choice) (A.lLen os)).toNat]?=some o:=⟨_,Zya (show _<O.length by omega)⟩
 obtain ⟨c,hcc⟩:∃c,C[(A.iMod (A.wrap .i64 choice) (A.lLen os)).toNat]?=some c:=⟨_,Zya (show _<C.length by omega)⟩
 have hfly:=hfly _ o c ho hcc
 obtain ⟨us,hus⟩:∃us,us=ZP c.Uses:=⟨_,rfl⟩
 have hall:=hall o
 have hfx:=λ l {xs:List PV} (hx:xs=ZJ l) (hl:l.length<=150)=>hfx o l hx hl
 have hidO:∀K:List PV->Prop,K [.int .i64 o.Delay,.int .i64 o.Way,.int .i64 o.Hold,.bool o.Cancel]->A.idx os (A.iMod (A.wrap .i64 choice) (A.lLen os)) K:=λ K hK=>Yn hA hos hi0 hi1 (λ z hz=>by
  rw [ho] at hz
  cases hz
  exact hK)
 have hidC:∀K:List PV->Prop,K [.int .i64 c.Delay,.int .i64 c.Cost,.int .i64 c.Changes,.list 4 us]->A.idx cs1 (A.iMod (A.wrap .i64 choice) (A.lLen os)) K:=λ K hK=>ZbV hA hcs1 hi0 (by omega) (λ z v hz hv=>by
  rw [hcc] at hz
  cases hz
  rw [hv,<-hus]
  exact hK)
 obtain ⟨o1,o2,o3,o4⟩:=o
 obtain ⟨d1,d2,d3,U⟩:=c
 simp only at hidO hidC hfly hall hus hfx
 clear hcc ho
 refine Zf (λ R hR=>?_)
 conv=>cbv
 refine Za hA (c1) ?_
 conv=>cbv
 refine hR _ ?_
 clear hR c1
 refine Zf (λ R hR=>?_)
 conv=>cbv
 split
 ·rename_i hc
  cases ((show False by exact neT hA hc rfl))
 conv=>cbv
 split
 ·rename_i hc
  cases ((show False by have:=ZdS hA (Zl hA hosl) rfl hc;omega))
 conv=>cbv
 split
 ·rename_i hc
  cases ((show False by exact Zew hA (Zl hA hcsl) (Zl hA hosl) hc rfl))
 conv=>cbv
 refine hR _ ?_
 clear hR
 refine Zf (λ R hR=>?_)
 conv=>cbv
 refine ⟨hnz,?_⟩
 refine hR _ ?_
 clear hR
 refine Zf (λ R hR=>?_)
 conv=>cbv
 refine hidO _ ?_
 conv=>cbv
 cases o4 with
 | true =>
  conv=>cbv
  exact hq
 | false =>
  obtain ⟨hce,hp2,hU,hul,hup,hfly⟩:=hfly rfl
  rw [hce] at hall
  have huses:=λ c=>law21_uses U c hul hup hus
  have hsame:=Zf7 U U hus hus
  rw [Zyq rfl] at hsame
  generalize hPL:ZX t ⟨f1,f2,f3,f4,f5,⟨f6,f7⟩,f8⟩ ⟨o1,o2,o3,false⟩=PL at hall hp2 hU hfly
  clear hPL
  have hU0:∀l,l=[]->Qu t s f3 l=[]:=λ l h=>by rw [h];exact Ztz t s f3
  generalize Qu t s f3=uL at hU hfly hU0
  generalize Zf2 t s ⟨f1,f2,f3,f4,f5,⟨f6,f7⟩,f8⟩ ⟨o1,o2,o3,false⟩=fR at hfx hfly
  obtain ⟨ps,hps⟩:∃ps,ps=ZJ PL:=⟨_,rfl⟩
  rw [<-hps] at hall
  have hpsl:ps.length=PL.length:=by rw [hps];simp [ZJ]
  conv=>cbv
  refine hR _ ?_
  clear hR
  refine Zf (λ R hR=>?_)
  conv=>cbv
  refine ⟨Zm hA (by kernel_rfl),?_⟩
  refine hidO _ ?_
  conv=>cbv
  refine Za hA (hall) ?_
  conv=>cbv
  refine hR _ ?_
  clear hR hall
  refine Zf (λ R hR=>?_)
  conv=>cbv
  refine hR _ ?_
  clear hR
  refine Zf (λ R hR=>?_)
  refine Zf (λ R0 hR0=>?_)
  conv=>cbv
  refine hR0 _ ?_
  clear hR0
  refine Zi hA (λ (z:Int × List PV) s=>{ (s.put (some 80) (.val (.int .i64 z.1))).put (some 17) (.own 0 2 z.2) with tk:=[(A.nLen z.2,49)] })
   (λ z=>0<=z.1/\z.1<=PL.length/\∃l:List Qo,z.2=ZJ l/\(∀p∈l,p∈PL)/\(l.length:Int)<=z.1) (λ z=>(PL.length - z.1).toNat) (0,[]) ?_ ?_ ?_
  ·conv=>cbv
   exact ZaM 17 0 2 [] 49 rfl (.inr rfl) (by repeat (first | refine Zv ?_ | refine ZH ?_ | exact Z9)) (by subst hA;rfl)
  ·exact ⟨Zyk _,by omega,[],rfl,by simp,by simp⟩
  rintro R1 ⟨i,L⟩ ⟨hn0,hn1,l,hL,hlm,hll⟩ hR1
  simp only at hn0 hn1 hL hll
  conv=>cbv
  split
  rotate_left
  ·rename_i hc
   clear hR1
   have hLl:L.length=l.length:=by rw [hL];simp [ZJ]
   have x1:=hfx PL hps hp2
   have x2:=hfx l hL (by omega)
   rw [(hfly PL λ p h=>h).1,<-hU,ZaX _ hus] at x1
   obtain ⟨us2,hus2⟩:∃us2,us2=ZP (uL l):=⟨_,rfl⟩
   have hfl3:=(hfly l hlm).2.1
   have hfl2:=(hfly l hlm).2.2
   have hl0:=hU0 l
   rw [(hfly l hlm).1,ZaX _ hus2] at x2
   generalize uL l=U2 at hus2 hfl2 hfl3 hl0
   have hu2l:us2.length=U2.length:=by rw [hus2,Zcm]
   simp only at x1 x2
   clear hfx hfly hU0
   conv=>cbv
   refine hR _ ?_
   clear hR
   refine Zf (λ R hR=>?_)
   refine Zdm rfl [.val (.agg [.int .i64 nv,.list 5 ss,.list 3 cs,.list 3 ws,.list 1 ms,.list 6 ks]),.val (.agg [.list 3 sc]),.val (.agg [.int .i64 f1,.int .i64 f2,.int .i64 f3,.str f4,.list 1 fl,.int .i64 f6,.int .i64 f7,.bool f8]),.val (.list 4 os),.val (.int .i64 (A.iMod (A.wrap .i64 choice) (A.lLen os))),.val (.ptr [.int .i64 o1,.int .i64 o2,.int .i64 o3,.bool false] 0),.val (.agg [.int .i64 o1,.int .i64 o2,.int .i64 o3,.bool false]),.val (.list 2 ps),.val (.tup [.agg [.int .i64 d1,.int .i64 d2,.int .i64 0,.list 4 us],.int .i64 0]),.val (.tup [.agg [.int .i64 d1,.int .i64 d2,.int .i64 0,.list 4 us],.int .i64 0]),.val (.agg [.int .i64 d1,.int .i64 d2,.int .i64 0,.list 4 us]),.val (.int .i64 0),.box 3 0,.undef,.val (.int .i64 0)]
    (λ L=>[some [.val (.int .i64 nv),.val (.list 5 ss),.val (.list 3 cs),.val (.list 3 ws),.val (.list 1 ms),.val (.list 6 ks)],some [.val (.list 3 sc)],some [.val (.int .i64 f1),.val (.int .i64 f2),.val (.int .i64 f3),.val (.str f4),.val (.list 1 fl),.val (.int .i64 f6),.val (.int .i64 f7),.val (.bool f8)]]++(match L 12 with | true=>[some [.val (.int .i64 (cond (L 13) d1 0)),.val (.int .i64 (cond (L 13) d2 0)),.val (.int .i64 0),cond (L 13) (.val (.list 4 us)) (.lit 0 [])]] | false=>[]))
    (by conv=>lhs;cbv) (λ L L' h=>by simp only [h 12 (by decide),h 13 (by decide)]) rfl ?_ ?_
   ·intro L i' o hi' hL hC he K' hK'
    rcases i' with _ | i'
    ·cases hi'
     conv=>cbv
     refine cast (congrArg K' ?_) hK'
     conv=>lhs;cbv
     rw [show QX L 0 13=L 13 from rfl]
    rcases i' with _ | i'
    ·cases hi'
     conv=>cbv
     refine cast (congrArg K' ?_) hK'
     conv=>lhs;cbv
     rw [show QX L 1 13=L 13 from rfl]
    rcases i' with _ | i'
    ·cases hi'
     conv=>cbv
     refine cast (congrArg K' ?_) hK'
     conv=>lhs;cbv
     rw [show QX L 2 13=L 13 from rfl]
    rcases i' with _ | i'
    ·cases hi'
     conv=>cbv
     refine cast (congrArg K' ?_) hK'
     conv=>lhs;cbv
     rw [show QX L 3 13=L 13 from rfl]
    rcases i' with _ | i'
    ·cases hi'
     conv=>cbv
     refine cast (congrArg K' ?_) hK'
     conv=>lhs;cbv
     rw [show QX L 4 13=L 13 from rfl]
    rcases i' with _ | i'
    ·cases hi'
     have h3:L 3=true:=he ⟨3,.data⟩ (by simp) rfl
     have h4:L 4=true:=he ⟨4,.data⟩ (by simp) rfl
     conv=>cbv
     simp only [h3,h4]
     conv=>cbv
     refine hidO _ ?_
     conv=>cbv
     refine cast (congrArg K' ?_) hK'
     conv=>lhs;cbv
     simp only [h3,h4]
     rw [show QX L 5 13=L 13 from rfl]
    rcases i' with _ | i'
    ·cases hi'
     have h5:L 5=true:=he ⟨5,.data⟩ (by simp) rfl
     conv=>cbv
     simp only [h5]
     conv=>cbv
     refine cast (congrArg K' ?_) hK'
     conv=>lhs;cbv
     simp only [h5]
     rw [show QX L 6 13=L 13 from rfl]
    rcases i' with _ | i'
    ·cases hi'
     conv=>cbv
     refine cast (congrArg K' ?_) hK'
     conv=>lhs;cbv
     rw [show QX L 7 13=L 13 from rfl]
    rcases i' with _ | i'
    ·cases hi'
     have h0:L 0=true:=he ⟨0,.data⟩ (by simp) rfl
     have h1:L 1=true:=he ⟨1,.data⟩ (by simp) rfl
     have h2:L 2=true:=he ⟨2,.data⟩ (by simp) rfl
     have h6:L 6=true:=he ⟨6,.data⟩ (by simp) rfl
     have h7:L 7=true:=he ⟨7,.data⟩ (by simp) rfl
     conv=>cbv
     simp only [h0,h1,h2,h6,h7]
     conv=>cbv
     refine Za hA x1 ?_
     conv=>cbv
     refine cast (congrArg K' ?_) hK'
     conv=>lhs;cbv
     simp only [h0,h1,h2,h6,h7]
     rw [show QX L 8 13=L 13 from rfl]
    rcases i' with _ | i'
    ·cases hi'
     have h8:L 8=true:=he ⟨8,.data⟩ (by simp) rfl
     conv=>cbv
     simp only [h8]
     conv=>cbv
     refine cast (congrArg K' ?_) hK'
     conv=>lhs;cbv
     simp only [h8]
     rw [show QX L 9 13=L 13 from rfl]
    rcases i' with _ | i'
    ·cases hi'
     have h9:L 9=true:=he ⟨9,.data⟩ (by simp) rfl
     conv=>cbv
     simp only [h9]
     conv=>cbv
     refine cast (congrArg K' ?_) hK'
     conv=>lhs;cbv
     simp only [h9]
     rw [show QX L 10 13=L 13 from rfl]
    rcases i' with _ | i'
    ·cases hi'
     have h9:L 9=true:=he ⟨9,.data⟩ (by simp) rfl
     conv=>cbv
     simp only [h9]
     conv=>cbv
     refine cast (congrArg K' ?_) hK'
     conv=>lhs;cbv
     simp only [h9]
     rw [show QX L 11 13=L 13 from rfl]
    rcases i' with _ | i'
    ·cases hi'
     conv=>cbv
     have h13:L 13=false:=by
      cases h:L 13 with
      | false=>rfl
      | true =>
       have:=hC 13 _ rfl h ⟨12,.data⟩ (by simp) rfl
       rw [hL] at this
       cases this
     simp only [hL,h13]
     conv=>cbv
     refine cast (congrArg K' ?_) hK'
     conv=>lhs;cbv
     simp only [hL,show QX L 12 13=L 13 from rfl,h13,cond_false]
    rcases i' with _ | i'
    ·cases hi'
     have h12:L 12=true:=he ⟨12,.data⟩ (by simp) rfl
     have h10:L 10=true:=he ⟨10,.data⟩ (by simp) rfl
     conv=>cbv
     simp only [h12,h10]
     conv=>cbv
     refine cast (congrArg K' ?_) hK'
     conv=>lhs;cbv
     simp only [h12,h10]
     simp only [show QX L 13 13=true from rfl,cond_true]
    rcases i' with _ | i'
    ·cases hi'
     have h11:L 11=true:=he ⟨11,.data⟩ (by simp) rfl
     conv=>cbv
     simp only [h11]
     conv=>cbv
     refine cast (congrArg K' ?_) hK'
     conv=>lhs;cbv
     simp only [h11]
     rw [show QX L 14 13=L 13 from rfl]
    simp at hi'
   conv=>cbv
   (conv=>arg 1;cbv)
   refine hR _ ?_
   clear hR x1
   refine Zf (λ R hR=>?_)
   refine Zdm rfl [.val (.agg [.int .i64 nv,.list 5 ss,.list 3 cs,.list 3 ws,.list 1 ms,.list 6 ks]),.val (.agg [.list 3 sc]),.val (.agg [.int .i64 f1,.int .i64 f2,.int .i64 f3,.str f4,.list 1 fl,.int .i64 f6,.int .i64 f7,.bool f8]),.val (.list 4 os),.val (.int .i64 (A.iMod (A.wrap .i64 choice) (A.lLen os))),.val (.ptr [.int .i64 o1,.int .i64 o2,.int .i64 o3,.bool false] 0),.val (.agg [.int .i64 o1,.int .i64 o2,.int .i64 o3,.bool false]),.own 0 2 L,.val (.tup [.agg [.int .i64 d1,.int .i64 d2,.int .i64 0,.list 4 us2],.int .i64 0]),.val (.tup [.agg [.int .i64 d1,.int .i64 d2,.int .i64 0,.list 4 us2],.int .i64 0]),.val (.agg [.int .i64 d1,.int .i64 d2,.int .i64 0,.list 4 us2]),.val (.int .i64 0),.box 4 0,.undef,.val (.int .i64 0)]
    (λ L=>[some [.val (.int .i64 nv),.val (.list 5 ss),.val (.list 3 cs),.val (.list 3 ws),.val (.list 1 ms),.val (.list 6 ks)],some [.val (.list 3 sc)],some [.val (.int .i64 f1),.val (.int .i64 f2),.val (.int .i64 f3),.val (.str f4),.val (.list 1 fl),.val (.int .i64 f6),.val (.int .i64 f7),.val (.bool f8)],some [.val (.int .i64 d1),.val (.int .i64 d2),.val (.int .i64 0),.val (.list 4 us)]]++(match L 12 with | true=>[some [.val (.int .i64 (cond (L 13) d1 0)),.val (.int .i64 (cond (L 13) d2 0)),.val (.int .i64 0),cond (L 13) (.val (.list 4 us2)) (.lit 0 [])]] | false=>[]))
    (by conv=>lhs;cbv) (λ L L' h=>by simp only [h 12 (by decide),h 13 (by decide)]) rfl ?_ ?_
   ·intro L i' o hi' hL hC he K' hK'
    rcases i' with _ | i'
    ·cases hi'
     conv=>cbv
     refine cast (congrArg K' ?_) hK'
     conv=>lhs;cbv
     rw [show QX L 0 13=L 13 from rfl]
    rcases i' with _ | i'
    ·cases hi'
     conv=>cbv
     refine cast (congrArg K' ?_) hK'
     conv=>lhs;cbv
     rw [show QX L 1 13=L 13 from rfl]
    rcases i' with _ | i'
    ·cases hi'
     conv=>cbv
     refine cast (congrArg K' ?_) hK'
     conv=>lhs;cbv
     rw [show QX L 2 13=L 13 from rfl]
    rcases i' with _ | i'
    ·cases hi'
     conv=>cbv
     refine cast (congrArg K' ?_) hK'
     conv=>lhs;cbv
     rw [show QX L 3 13=L 13 from rfl]
    rcases i' with _ | i'
    ·cases hi'
     conv=>cbv
     refine cast (congrArg K' ?_) hK'
     conv=>lhs;cbv
     rw [show QX L 4 13=L 13 from rfl]
    rcases i' with _ | i'
    ·cases hi'
     have h3:L 3=true:=he ⟨3,.data⟩ (by simp) rfl
     have h4:L 4=true:=he ⟨4,.data⟩ (by simp) rfl
     conv=>cbv
     simp only [h3,h4]
     conv=>cbv
     refine hidO _ ?_
     conv=>cbv
     refine cast (congrArg K' ?_) hK'
     conv=>lhs;cbv
     simp only [h3,h4]
     rw [show QX L 5 13=L 13 from rfl]
    rcases i' with _ | i'
    ·cases hi'
     have h5:L 5=true:=he ⟨5,.data⟩ (by simp) rfl
     conv=>cbv
     simp only [h5]
     conv=>cbv
     refine cast (congrArg K' ?_) hK'
     conv=>lhs;cbv
     simp only [h5]
     rw [show QX L 6 13=L 13 from rfl]
    rcases i' with _ | i'
    ·cases hi'
     conv=>cbv
     refine cast (congrArg K' ?_) hK'
     conv=>lhs;cbv
     rw [show QX L 7 13=L 13 from rfl]
    rcases i' with _ | i'
    ·cases hi'
     have h0:L 0=true:=he ⟨0,.data⟩ (by simp) rfl
     have h1:L 1=true:=he ⟨1,.data⟩ (by simp) rfl
     have h2:L 2=true:=he ⟨2,.data⟩ (by simp) rfl
     have h6:L 6=true:=he ⟨6,.data⟩ (by simp) rfl
     have h7:L 7=true:=he ⟨7,.data⟩ (by simp) rfl
     conv=>cbv
     simp only [h0,h1,h2,h6,h7]
     conv=>cbv
     refine Za hA x2 ?_
     conv=>cbv
     refine cast (congrArg K' ?_) hK'
     conv=>lhs;cbv
     simp only [h0,h1,h2,h6,h7]
     rw [show QX L 8 13=L 13 from rfl]
    rcases i' with _ | i'
    ·cases hi'
     have h8:L 8=true:=he ⟨8,.data⟩ (by simp) rfl
     conv=>cbv
     simp only [h8]
     conv=>cbv
     refine cast (congrArg K' ?_) hK'
     conv=>lhs;cbv
     simp only [h8]
     rw [show QX L 9 13=L 13 from rfl]
    rcases i' with _ | i'
    ·cases hi'
     have h9:L 9=true:=he ⟨9,.data⟩ (by simp) rfl
     conv=>cbv
     simp only [h9]
     conv=>cbv
     refine cast (congrArg K' ?_) hK'
     conv=>lhs;cbv
     simp only [h9]
     rw [show QX L 10 13=L 13 from rfl]
    rcases i' with _ | i'
    ·cases hi'
     have h9:L 9=true:=he ⟨9,.data⟩ (by simp) rfl
     conv=>cbv
     simp only [h9]
     conv=>cbv
     refine cast (congrArg K' ?_) hK'
     conv=>lhs;cbv
     simp only [h9]
     rw [show QX L 11 13=L 13 from rfl]
    rcases i' with _ | i'
    ·cases hi'
     conv=>cbv
     have h13:L 13=false:=by
      cases h:L 13 with
      | false=>rfl
      | true =>
       have:=hC 13 _ rfl h ⟨12,.data⟩ (by simp) rfl
       rw [hL] at this
       cases this
     simp only [hL,h13]
     conv=>cbv
     refine cast (congrArg K' ?_) hK'
     conv=>lhs;cbv
     simp only [hL,show QX L 12 13=L 13 from rfl,h13,cond_false]
    rcases i' with _ | i'
    ·cases hi'
     have h12:L 12=true:=he ⟨12,.data⟩ (by simp) rfl
     have h10:L 10=true:=he ⟨10,.data⟩ (by simp) rfl
     conv=>cbv
     simp only [h12,h10]
     conv=>cbv
     refine cast (congrArg K' ?_) hK'
     conv=>lhs;cbv
     simp only [h12,h10]
     simp only [show QX L 13 13=true from rfl,cond_true]
    rcases i' with _ | i'
    ·cases hi'
     have h11:L 11=true:=he ⟨11,.data⟩ (by simp) rfl
     conv=>cbv
     simp only [h11]
     conv=>cbv
     refine cast (congrArg K' ?_) hK'
     conv=>lhs;cbv
     simp only [h11]
     rw [show QX L 14 13=L 13 from rfl]
    simp at hi'
   conv=>cbv
   (conv=>arg 1;cbv)
   refine hR _ ?_
   clear hR x2
   refine Zf (λ R hR=>?_)
   conv=>cbv
   refine ⟨Zm hA (by kernel_rfl),?_⟩
   split
   ·rename_i hc
    cases ((show False by exact neT hA hc rfl))
   conv=>cbv
   split
   ·rename_i hc
    cases ((show False by exact neT hA hc rfl))
   conv=>cbv
   split
   ·rename_i hc
    cases ((show False by exact neT hA hc rfl))
   conv=>cbv
   split
   ·rename_i hc
    cases ((show False by exact neT hA hc rfl))
   conv=>cbv
   split
   ·rename_i hc
    cases ((show False by exact neT hA hc rfl))
   conv=>cbv
   refine hidC _ ?_
   conv=>cbv
   split
   ·rename_i hc
    cases ((show False by exact neT hA hc rfl))
   conv=>cbv
   refine hidC _ ?_
   conv=>cbv
   split
   ·rename_i hc
    cases ((show False by exact neT hA hc rfl))
   conv=>cbv
   refine hidC _ ?_
   conv=>cbv
   refine Za hA (hsame) ?_
   conv=>cbv
   split
   ·rename_i hc
    cases ((show False by have h9:true=false:=Yy hA hc;cases h9))
   conv=>cbv
   refine hR _ ?_
   clear hR hsame
   refine Zf (λ R hR=>?_)
   refine Zf (λ R0 hR0=>?_)
   conv=>cbv
   refine hR0 _ ?_
   clear hR0
   refine Zi hA (λ (k:Int) s=>s.put (some 174) (.val (.int .i64 k))) (λ k=>0<=k/\k<=U2.length) (λ k=>(U2.length - k).toNat) 0 ?_ ?_ ?_
   ·conv=>cbv
    exact Zk
   ·exact ⟨Zyk _,by omega⟩
   rintro R1 k ⟨hk0,hk1⟩ hR1
   conv=>cbv
   split
   rotate_left
   ·clear hR1
    conv=>cbv
    refine hR _ ?_
    clear hR
    conv=>cbv
    split
    ·conv=>cbv
     exact hq
    ·rename_i hc
     have hz:(l.length:Int)=0:=by have:=ZK hA rfl (Zl hA hLl) hc;omega
     have hu0:us2=[]:=by rw [hus2,hl0 (Zyy (by omega))];rfl
     subst hu0
     have he0:A.iEq (A.lLen []) 0=true:=by subst hA;rfl
     conv=>cbv
     exact (congrArg PV.bool he0).trans hq
   rename_i hc
   clear hR
   have hk:k<U2.length:=ZE hA rfl (Zl hA hu2l) hc
   have hks:A.iAdd k 1=k+1:=Z5 hA _ _
   have hkr:A.inR (A.iAdd k 1):=Zy hA hks (by unfold Zj;omega)
   obtain ⟨u,hu⟩:∃u,U2[k.toNat]?=some u:=⟨_,Zya (show k.toNat<U2.length by omega)⟩
   have hcu:=huses u.Cell
   rw [hfl2 u (Zyb hu)] at hcu
   obtain ⟨⟨u1,u2,u3⟩,u4⟩:=u
   simp only at hcu
   conv=>cbv
   refine ZfP hA hus2 hk0 hk (λ z hz=>?_)
   obtain rfl:=Zyc (hu.symm.trans hz)
   clear hz
   conv=>cbv
   refine ⟨Zm hA (by kernel_rfl),?_⟩
   refine Za hA (hcu) ?_
   conv=>cbv
   split
   ·rename_i hc
    cases ((show False by exact neT hA hc rfl))
   conv=>cbv
   refine ⟨hkr,hR1 (A.iAdd k 1) _ ?_ ⟨by show 0<=A.iAdd k 1;omega,by show A.iAdd k 1<=_;omega⟩ (by show (U2.length - A.iAdd k 1).toNat < _;rw [hks];omega)⟩
   (conv=>cbv)
   exact Zt (bx:=[_,_,_,_,_]) (bx':=[_]) (mp:=[]) (mp':=[]) 
  rename_i hc
  clear hR hfx hfly hidC
  have hi:i<PL.length:=ZE hA rfl (Zl hA hpsl) hc
  have his:A.iAdd i 1=i+1:=Z5 hA _ _
  have hir:A.inR (A.iAdd i 1):=Zy hA his (by unfold Zj;omega)
  have hmu:(PL.length - A.iAdd i 1).toNat<(PL.length - i).toNat:=by rw [his];omega
  have hnz32:A.nz 32:=by subst hA;show (32:Int)≠0;omega
  have hw32:A.within (A.iMod i 32) 32:=by
   subst hA
   show 0<=i.tmod 32/\i.tmod 32<32
   rw [Zzv hn0]
   omega
  have hLl:L.length=l.length:=by rw [hL];simp [ZJ]
  have htk:A.tkEq (A.nLen L) (A.nLen L):=by subst hA;rfl
  conv=>cbv
  refine ZdQ hA hps hn0 hi (λ p v hp hv=>?_)
  have hpm:=Zyb hp
  have hap:A.lApp L [.agg [.int .i64 p.Way,.list 1 v]]=ZJ (l++[p]):=by
   subst hA
   rw [hL,hv]
   show ZJ l++_=_
   simp [ZJ,Yl]
  have hroom:A.room (A.nLen (A.lApp L [.agg [.int .i64 p.Way,.list 1 v]])) 32:=by
   subst hA
   show (L++[_]).length*(32+1)<=140737488355328
   rw [Zyg,Zyt];omega
  have hyes:∀s',Wk (0,0) s' _->R1 s':=λ s' hw=>hR1 (A.iAdd i 1,A.lApp L [.agg [.int .i64 p.Way,.list 1 v]]) s' hw ⟨by show 0<=A.iAdd i 1;omega,by show A.iAdd i 1<=_;omega,l++[p],hap,λ q h=>by
   rcases Zy4.1 h with h | h
   ·exact hlm q h
   ·rw [Zy3] at h;subst h;exact hpm,by show ((l++[p]).length:Int)<=A.iAdd i 1;rw [Zyg,Zyt];omega⟩ hmu
  have hnot:∀s',Wk (0,0) s' _->R1 s':=λ s' hw=>hR1 (A.iAdd i 1,L) s' hw ⟨by show 0<=A.iAdd i 1;omega,by show A.iAdd i 1<=_;omega,l,hL,hlm,by show (l.length:Int)<=A.iAdd i 1;omega⟩ hmu
  clear hR1
  obtain ⟨p1,p2⟩:=p
  conv=>cbv
  refine ⟨hnz32,hw32,?_⟩
  split
  ·conv=>cbv
   refine ⟨⟨htk,hroom⟩,hir,hyes _ ?_⟩
   (conv=>cbv)
   exact Zt (bx:=[_,_,_]) (bx':=[_]) (mp:=[]) (mp':=[]) 
  ·conv=>cbv
   refine ⟨hir,hnot _ ?_⟩
   (conv=>cbv)
   exact Zt (bx:=[_,_,_]) (bx':=[_]) (mp:=[]) (mp':=[]) 
end Go.Abs
namespace Go.Proofs.YtcafjndjnfdnpaaGreat
open Go.ChangeShapes Go.WideShapes Go.ChangeAt Go.RowKit Go.Abs
namespace StagesFixedP
theorem own : ownKnob Tryz.prog.godebug = none := by kernel_rfl
theorem laid : laidOutB Tryz.prog = true := by kernel_rfl
set_option maxRecDepth 100000 in
theorem contract (H : Type) (enc : TypeId × Value -> H) (W : World) (base : Nat) (args : Array Value) (ds gs : List (DataW H)) (before : List MemPlace)
    (hval : ∀ (j : Nat) t v, Tryz.f7.params[j]? = some t -> args[j]? = some v -> Value.okWide Tryz.prog W .any base t v)
    (hW : DataW.Whole enc Tryz.prog Tryz.f7.params.toList Rows.stagesFixedSpec.vars false W args.toList ds gs before) :
    Calls Tryz.prog 7 args W λ e W' => ∃ v, e = .returned v /\ Rows.stagesFixedSpec.post enc Tryz.prog Tryz.f7 false true false false W args v W' := by
  have hW0 := hW
  obtain ⟨p, q, hA, _⟩ := hW
  rw [Tryz.params7] at hA hval
  obtain ⟨v0, vs0, d0, ds0, p0, q0, e0, rfl, rfl, h0, hA⟩ := trodAll_cons hA
  obtain ⟨v1, vs1, d1, ds1, p1, q1, rfl, rfl, rfl, h1, hA⟩ := trodAll_cons hA
  obtain ⟨v2, vs2, d2, ds2, p2, q2, rfl, rfl, rfl, h2, hA⟩ := trodAll_cons hA
  obtain ⟨v3, vs3, d3, ds3, p3, q3, rfl, rfl, rfl, h3, hA⟩ := trodAll_cons hA
  obtain ⟨v4, vs4, d4, ds4, p4, q4, rfl, rfl, rfl, h4, hA⟩ := trodAll_cons hA
  obtain ⟨rfl, rfl, rfl⟩ := trodAll_nil hA
  obtain rfl : args = #[v0, v1, v2, v3, v4] := by cases args; simp_all
  obtain ⟨a0, k0, r0⟩ := QV Tryz.underlying28 hval 0 rfl rfl Zhx (λ _ => rfl) h0
  obtain ⟨a1, k1, r1⟩ := QV Tryz.underlying72 hval 1 rfl rfl ZhF (λ _ => rfl) h1
  obtain ⟨a2, k2, r2⟩ := QV Tryz.underlying33 hval 2 rfl rfl Zhy (λ _ => rfl) h2
  obtain ⟨a3, k3, r3⟩ := Zdr Tryz.underlying5 hval 3 rfl rfl h3
  obtain ⟨a4, k4, r4⟩ := Zdr Tryz.underlying95 hval 4 rfl rfl h4
  exact Zc0 laid (by rw [Tryz.params7]; decide +kernel) rfl
    (λ ds h => by rw [Tryz.params7] at h; match ds, h with | [_, _, _, _, _], _ => rfl) rfl Tryz.underlying4 hW0 (Zji a0 a1 a2 a3 a4 k0 k1 k2 k3 k4)
    (.cons r0 (.cons r1 (.cons r2 (.cons r3 (.cons r4 .nil)))))
set_option maxRecDepth 100000 in
theorem lifted (os : Os) (started : os.Started) (H : Type) (enc : TypeId × Value -> H) :
    ReturnsInHanded {} Tryz.checked os 7 .any (Rows.stagesFixedSpec.pre6 enc Tryz.prog Tryz.f7 Rows.stagesFixedRow.domain false) (Rows.stagesFixedSpec.post enc Tryz.prog Tryz.f7 false true false false) := by
  refine returnsInHanded_of_change (C := Tryz.checked) own started (by kernel_rfl) Tryz.func7
    (ChangeSpec.witness6 (enc := enc) (C := Tryz.checked) false ⟨#[], #[.agg #[.int .i64 0, .slice none 0 0, .slice none 0 0, .slice none 0 0, .slice none 0 0, .slice none 0 0], .agg #[.slice none 0 0], .agg #[.int .i64 0, .int .i64 0, .int .i64 0, .string .empty, .slice none 0 0, .int .i64 0, .int .i64 0, .bool false], .int .u8 0, .int .u32 0], []⟩ 8 (by kernel_rfl) (by kernel_rfl) (by kernel_rfl) (by kernel_rfl)) ?_
  intro W base args ds gs before hval hW _ _
  exact contract H enc W base args ds gs before hval hW
end StagesFixedP
theorem and_tt {a b : Bool} (ha : a = true) (hb : b = true) : (a && b) = true := by rw [ha, hb]; rfl
set_option maxHeartbeats 4000000 in
theorem closed_stagesFixed : joinedFacts Tryz.prog 7 Tryz.f7 Rows.stagesFixedSpec Rows.stagesFixedRow = true := by
  unfold joinedFacts
  repeat' (with_reducible apply and_tt)
  all_goals (as_aux_lemma => kernel_rfl)
theorem stagesFixed_holds : Rows.StagesFixedSaid :=
  OpenClaim.holds_of_wide 7 Tryz.f7 rfl rfl rfl rfl rfl rfl rfl ⟨rfl, rfl, rfl, rfl, rfl⟩ rfl rfl rfl rfl rfl (by kernel_rfl) Tryz.func7 closed_stagesFixed
    (ZyU (by kernel_rfl)) (by unfold Func.isWrapper; first | (rw [if_pos (by decide +kernel)]; kernel_rfl) | (rw [if_neg (by decide +kernel)]; exact ⟨rfl, rfl⟩))
    (λ os started H enc _ => StagesFixedP.lifted os started H enc)
end Go.Proofs.YtcafjndjnfdnpaaGreat
