/- Contracts of the functions, and what they rest on: part 7. -/
import Derived.Test.YtcafjndjnfdnpaaGreatT6
set_option linter.unusedVariables false
set_option linter.unusedSimpArgs false
namespace Go.Abs
open Go.Lib
theorem Zmc (l:List Int):Zmb l=true↔l.Nodup:=by
 obtain ⟨s,hs⟩:∃s,s=l.mergeSort λ x y=>decide (x<=y):=⟨_,rfl⟩
 have hl:s.length=l.length:=by rw [hs,List.length_mergeSort]
 have hp:List.Pairwise (λ x y=>decide (x<=y)=true) s:=by
  rw [hs]
  exact List.pairwise_mergeSort (λ a b c h1 h2=>by simp at h1 h2 ⊢;omega) (λ a b=>by simp;omega) l
 have hn:s.Nodup↔l.Nodup:=by rw [hs];exact (List.mergeSort_perm l _).nodup_iff
 have hget:∀j (h:j<s.length),s.toArray[j]! = s[j]:=λ j h=>by simp [h]
 have hO:Zmb l=true↔∀j,j<s.length->(j=0\/s.toArray[j]!≠s.toArray[j - 1]!):=by
  unfold Zmb
  rw [<-hs,decide_eq_true_iff,<-hl]
  unfold compactUpTo
  rw [Zys]
  have h:=List.length_filter_eq_length_iff (p:=keeps s.toArray) (l:=List.range s.length)
  rw [List.length_range] at h
  rw [h]
  simp only [ZyP,keeps,decide_eq_true_iff]
 rw [hO,<-hn]
 constructor
 ·intro h
  refine (Zzn.2 λ i j hi hj hij=>?_:List.Pairwise (· < ·) s).imp (λ hab=>by omega)
  have h1:s[i]<=s[j - 1]'(by omega):=by
   rcases Z0l (Nat.le_sub_one_of_lt hij) with h2 | h2
   ·simpa using Zzn.1 hp i (j - 1) hi (by omega) h2
   ·simp [h2]
  have h3:s[j - 1]'(by omega)<=s[j]:=by simpa using Zzn.1 hp (j - 1) j (by omega) hj (by omega)
  have h4:=h j hj
  rw [hget j hj,hget (j - 1) (by omega)] at h4
  rcases h4 with h4 | h4
  ·omega
  ·omega
 ·intro h j hj
  rcases ZzE j with h0 | h0
  ·exact .inl h0
  ·refine .inr ?_
   rw [hget j hj,hget (j - 1) (by omega)]
   intro e
   exact Zzn.1 h (j - 1) j (by omega) hj (by omega) e.symm
end Go.Abs
namespace Go.Abs
open Go.RowKit Go.Proofs
def Zat (t:Zh) (f:Flight):List Opt :=
 match t.Kinds[f.Class.toNat]? with
 | some k=>Zay k.Longest f.Ways.length f.Cancel
 | none=>[]
def ZC (t:Zh) (f:Flight):List Opt:=if Z8 t f=0 then Zat t f else []
theorem ZaN {t:Zh} {f:Flight} (h:Z8 t f=0):Qe t=true/\YW t f=true:=by
 unfold Z8 at h
 split at h
 ·split at h
  ·exact ⟨‹_›,‹_›⟩
  ·cases h
 ·cases h
theorem Qx {t:Zh} {f:Flight} (h:Z8 t f=0):∃k,t.Kinds[f.Class.toNat]?=some k/\0<=f.Class/\0<=k.Longest/\k.Longest<=60/\k.Longest.tmod 10=0/\1<=k.Weight/\k.Weight<=8/\1<=f.Ways.length/\f.Ways.length<=4:=by
 obtain ⟨h1,h2⟩:=ZaN h
 simp only [YW,Zyi,Zzt] at h2
 obtain ⟨⟨⟨⟨⟨⟨⟨⟨_,_⟩,hc⟩,_⟩,hw⟩,_⟩,_⟩,_⟩,_⟩:=h2
 simp [Zcr] at hc hw
 have hlt:f.Class.toNat<t.Kinds.length:=by omega
 refine ⟨t.Kinds[f.Class.toNat],Zya hlt,hc.1,?_⟩
 simp only [Qe,Zyi,Zym,Zyf] at h1
 have hk:=(h1.2 _ (Zzg hlt)).1
 generalize t.Kinds[f.Class.toNat]=k at hk ⊢
 simp [Y9,QU] at hk
 refine ⟨by omega,by omega,by omega,by omega,by omega,by omega,by omega⟩
theorem ZiC (t:Zh) (f:Flight):Zc Tryz.prog 147 [Zn t,Zx f] (.tup [.list 4 (Zq (ZC t f)),.int .i64 (Z8 t f)]):=by
 have hchk:=ZoS t f
 obtain ⟨ck,hck⟩:∃ck,ck=Z8 t f:=⟨_,rfl⟩
 by_cases h0:ck=0
 ·obtain ⟨k,hk,hc0,hL0,hL1,_,_,_,hw1,hw4⟩:=Qx (hck▸h0)
  have hml:ZC t f=Zay k.Longest f.Ways.length f.Cancel:=by
   rw [ZC,if_pos (hck▸h0),Zat,hk]
  rw [hml,<-hck,h0]
  rw [<-hck,h0] at hchk
  refine Zb (clo:=λ _=>false) (rows:=false) Zg Tryz.func147 rfl (enters_of Tryz.func147 (by kernel_rfl) rfl) (λ A q P Y hr hA hq=>?_)
  obtain ⟨ss,cs,ws,ms,ks,nv,hss,hcs,hws,hms,hks,hnv,htab⟩:=Qd t
  have hseq:=λ wl (hwl:wl=Zd f.Ways)=>Znl t.Kinds f k hc0 hk hL0 hL1 (by omega) nv ss cs ws ms ks wl hks hwl
  have hmk:=λ wl=>ZoJ nv ss cs ws ms ks f.ID f.Airline f.Class f.Window.From f.Window.To f.Call wl f.Cancel
  rw [htab] at hchk ⊢
  have hlen:(Zay k.Longest f.Ways.length f.Cancel).length<=1000:=by
   rw [ZdU]
   have h1:(k.Longest / 10+1).toNat<=7:=by omega
   have h2:(k.Longest / 10+1).toNat*(3*f.Ways.length)<=7*(3*4):=Z0E h1 (by omega)
   split<;>omega
  generalize Zay k.Longest f.Ways.length f.Cancel=M at hseq hq hlen
  obtain ⟨f1,f2,f3,f4,f5,⟨f6,f7⟩,f8⟩:=f
  obtain ⟨fl,hfl⟩:∃fl,fl=Zd f5:=⟨_,rfl⟩
  rw [Zs _ hfl] at hchk ⊢
  have hs:=hseq fl hfl
  have hm:=hmk fl
  simp only at hchk hs hm ⊢
  clear hseq hmk
  conv=>cbv
  refine Za hA hchk ?_
  conv=>cbv
  split
  ·rename_i h
   cases (neT hA h rfl)
  conv=>cbv
  refine Za hA hm ?_
  conv=>cbv
  refine YU hA hs (λ x hx=>?_) (λ (L:List PV) s=>{ s with bx:=s.bx.set 2 (some [.own 0 4 L]),tk:=[(A.nLen L,35)] })
   (λ k L=>L=Zq (M.take k)) [] (λ _=>rfl) ?_ ?_ ?_ ?_
  ·obtain ⟨o,_,rfl⟩:=Zyz.1 hx;rfl
  ·subst hA
   exact Wk.ownBx _ _ [] _ 2 0 0 4 [.lit 0 []] [] 35 rfl rfl (.inr rfl)
  ·rfl
  ·intro R k L x hx hL hR
   rw [Zyh,ZyG] at hx
   obtain ⟨o,ho,rfl⟩:=hx
   have hkl:k<M.length:=(ZxZ.1 ho).1
   have hLl:L.length<=1000:=by rw [hL];simp [Zq];omega
   obtain ⟨o1,o2,o3,o4⟩:=o
   have hnext:A.lApp L [Z2 ⟨o1,o2,o3,o4⟩]=Zq (M.take (k+1)):=by
    subst hA hL
    rw [ZyD,ho]
    show Zq _++_=_
    simp [Zq]
   have htk:A.tkEq (A.nLen L) (A.nLen L):=by subst hA;rfl
   have hroom:A.room (A.nLen (A.lApp L [Z2 ⟨o1,o2,o3,o4⟩])) 32:=by
    subst hA
    show (L++[_]).length*(32+1)<=140737488355328
    rw [Zyg,Zyt];omega
   conv=>cbv
   refine ⟨⟨htk,hroom⟩,hR (A.lApp L [.agg [.int .i64 o1,.int .i64 o2,.int .i64 o3,.bool o4]]) _ ?_ hnext⟩
   conv=>cbv
   exact Zt (bx:=[_,_,_]) (bx':=[_]) (mp:=[]) (mp':=[]) 
  ·intro L hL
   rw [Zyl (by simp)] at hL
   conv=>cbv
   rw [<-hq,hL]
 ·have hml:ZC t f=[]:=by rw [ZC,if_neg (hck▸h0)]
  rw [hml,<-hck]
  rw [<-hck] at hchk
  refine Zc.le (p:=.tup [.list 0 [],.int .i64 ck]) (args':=[Zn t,Zx f]) ?_ (.cons (.refl _) (.cons (.refl _) .nil)) (.tup _ _ rfl λ i x y hx hy=>?_)
  ·refine Zb (clo:=λ _=>false) (rows:=false) Zg Tryz.func147 rfl (enters_of Tryz.func147 (by kernel_rfl) rfl) (λ A q P Y hr hA hq=>?_)
   obtain ⟨ss,cs,ws,ms,ks,nv,hss,hcs,hws,hms,hks,hnv,htab⟩:=Qd t
   rw [htab] at hchk ⊢
   obtain ⟨f1,f2,f3,f4,f5,⟨f6,f7⟩,f8⟩:=f
   obtain ⟨fl,hfl⟩:∃fl,fl=Zd f5:=⟨_,rfl⟩
   rw [Zs _ hfl] at hchk ⊢
   simp only at hchk ⊢
   conv=>cbv
   refine Za hA hchk ?_
   conv=>cbv
   split
   ·conv=>cbv
    exact hq
   ·rename_i h
    exact absurd (neF hA h) h0
  ·match i,hx,hy with
   | 0,hx,hy=>simp at hx hy;subst hx hy;exact .nil _ _
   | 1,hx,hy=>simp at hx hy;subst hx hy;exact .refl _
   | i+2,hx,hy=>simp at hx
end Go.Abs
namespace Go.Abs
theorem ZqO {t:Zh} {f:Flight} (h:Z8 t f=0):∃(x:Int) (w0:Way),f.Ways[0]?=some x/\0<=x/\x<t.Ways.length/\t.Ways[x.toNat]?=some w0/\Zfj t f=w0 /\
  ∀n:Int,n∈f.Ways->0<=n/\n<t.Ways.length/\∃v,t.Ways[n.toNat]?=some v/\v.From=w0.From/\v.To=w0.To:=by
 obtain ⟨_,h2⟩:=ZaN h
 simp only [YW,Zyi,Zzt] at h2
 obtain ⟨⟨⟨⟨⟨⟨⟨⟨_,_⟩,_⟩,_⟩,hl⟩,hr⟩,_⟩,he⟩,_⟩:=h2
 have hl':1<=f.Ways.length:=by simp [Zcr] at hl;omega
 have hin:∀n∈f.Ways,0<=n/\n<t.Ways.length:=λ n hn=>by
  rw [Zz1] at hr
  have:=hr n hn
  simp [Zcr] at this
  omega
 obtain ⟨x,hx⟩:∃x,f.Ways[0]?=some x:=⟨f.Ways[0]'(by omega),Zya (by omega)⟩
 have hx1:=hin x (Zyb hx)
 obtain ⟨w0,hw0⟩:∃w0,t.Ways[x.toNat]?=some w0:=⟨t.Ways[x.toNat]'(by omega),Zya (by omega)⟩
 have hhd:Zfj t f=w0:=by
  have:f.Ways.headD 0=x:=by
   cases hf:f.Ways with
   | nil=>rw [hf] at hx;simp at hx
   | cons a r=>rw [hf] at hx;simpa using hx
  simp only [Zfj,this,hw0]
  rfl
 refine ⟨x,w0,hx,hx1.1,hx1.2,hw0,hhd,λ n hn=>⟨(hin n hn).1,(hin n hn).2,?_⟩⟩
 have hn1:=hin n hn
 rw [Zz1] at he
 have:=he n hn
 rw [hhd] at this
 unfold QW at this
 rw [Zya (by omega)] at this ⊢
 simp at this
 exact ⟨_,rfl,this⟩
open Go.Proofs Go.RowKit
def Y4 (t:Zh) (f:Flight):Int:=match t.Kinds[f.Class.toNat]? with | some k=>k.Weight | none=>0
def Zbz (o:Opt):Int:=if o.Cancel then 120 else o.Delay+o.Hold
def ZL (t:Zh) (f:Flight) (o:Opt):Int × Int × Int :=
 if Z8 t f=0 then if o∈Zat t f then (Zbz o,Zbz o*Y4 t f,0) else (0,0,150) else (0,0,Z8 t f)
theorem Zif {L:Int} {n:Nat} {c:Bool} (hL0:0<=L) (hL:L<=60) {o:Opt} (h:o∈Zay L n c):0<=o.Delay/\o.Delay<=60/\0<=o.Hold/\o.Hold<=10:=by
 unfold Zay at h
 rcases Zy4.1 h with h | h
 ·obtain ⟨k,hk,rfl⟩:=Zyz.1 h
  have hk':=ZyP.1 hk
  have hB:0<3*n:=by
   rcases ZzE n with h0 | h0
   ·subst h0;simp at hk'
   ·omega
  have h1:k / (3*n)<(L / 10+1).toNat:=(Nat.div_lt_iff_lt_mul hB).2 hk'
  have h2:k % 3<3:=Z0f _ (by omega)
  simp only [Zgh]
  omega
 ·cases c
  ·simp at h
  ·simp at h;subst h;simp
theorem Zhu (t:Zh) (f:Flight) (o:Opt):Zc Tryz.prog 87 [Zn t,Zx f,Z2 o] (.tup [.int .i64 (ZL t f o).1,.int .i64 (ZL t f o).2.1,.int .i64 (ZL t f o).2.2]):=by
 have hmeas:=ZiC t f
 obtain ⟨ck,hck⟩:∃ck,ck=Z8 t f:=⟨_,rfl⟩
 rw [<-hck] at hmeas
 by_cases h0:ck=0
 ·obtain ⟨k,hk,hc0,hL0,hL1,_,hW1,hW8,hw1,hw4⟩:=Qx (hck▸h0)
  have hml:ZC t f=Zat t f:=by rw [ZC,if_pos (hck▸h0)]
  have hmO:Zat t f=Zay k.Longest f.Ways.length f.Cancel:=by rw [Zat,hk]
  have hwt:Y4 t f=k.Weight:=by rw [Y4,hk]
  have hin:o∈Zat t f->0<=o.Delay/\o.Delay<=60/\0<=o.Hold/\o.Hold<=10:=λ h=>Zif hL0 hL1 (hmO▸h)
  have hcon:=λ xs (hx:xs=Zq (Zat t f))=>Znm o (Zat t f) hx
  rw [hml,h0] at hmeas
  have hcf:Z8 t f=0:=hck▸h0
  have hD:ZL t f o=if o∈Zat t f then (Zbz o,Zbz o*k.Weight,0) else (0,0,150):=by rw [ZL,if_pos hcf,hwt]
  rw [hD]
  refine Zb (clo:=λ _=>false) (rows:=false) Zg Tryz.func87 rfl (enters_of Tryz.func87 (by kernel_rfl) rfl) (λ A q P Y hr hA hq=>?_)
  have hkl0:f.Class.toNat<t.Kinds.length:=(ZxZ.1 hk).1
  obtain ⟨ss,cs,ws,ms,ks,nv,hss,hcs,hws,hms,hks,hnv,htab⟩:=Qd t
  rw [htab] at hmeas ⊢
  generalize Zat t f=M at hmeas hcon hin hq
  clear hml hmO hwt hcf hD
  obtain ⟨xs,hxs⟩:∃xs,xs=Zq M:=⟨_,rfl⟩
  rw [<-hxs] at hmeas
  have hco:=hcon xs hxs
  obtain ⟨f1,f2,f3,f4,f5,⟨f6,f7⟩,f8⟩:=f
  obtain ⟨fl,hfl⟩:∃fl,fl=Zd f5:=⟨_,rfl⟩
  rw [Zs _ hfl] at hmeas ⊢
  obtain ⟨o1,o2,o3,o4⟩:=o
  simp only at hmeas hco hk hkl0 hc0 hin hq ⊢
  clear hcon
  conv=>cbv
  refine Za hA hmeas ?_
  conv=>cbv
  split
  ·rename_i h
   cases (neT hA h rfl)
  conv=>cbv
  refine Qk hA hco rfl (λ r hr=>?_)
  conv=>cbv
  split
  ·rename_i h
   have h':=Yy hA h
   have hno:(⟨o1,o2,o3,o4⟩:Opt)∉M:=by rw [h'] at hr;exact of_decide_eq_false hr.symm
   rw [if_neg hno] at hq
   conv=>cbv
   exact hq
  rename_i h
  have h':=YP hA h
  have hyes:(⟨o1,o2,o3,o4⟩:Opt)∈M:=by rw [h'] at hr;exact ZyU hr.symm
  rw [if_pos hyes] at hq
  have hb:=hin hyes
  have hadd:A.iAdd o1 o3=o1+o3:=Z5 hA _ _
  clear h
  conv=>cbv
  refine ⟨Zy hA hadd (by unfold Zj;omega),?_⟩
  obtain ⟨k1,k2,k3,k4,k5,k6⟩:=k
  simp only at hW1 hW8 hq
  cases o4 with
  | true =>
   have hm:A.iMul 120 k4=120*k4:=Zkb hA _ _
   conv=>cbv
   refine ⟨Zm hA (by kernel_rfl),?_⟩
   refine Q6 hA hks hc0 (by omega) (λ z v hz hv=>?_)
   obtain rfl:=Zyc (hk.symm.trans hz)
   conv=>cbv
   refine ⟨Zy hA hm (by unfold Zj;omega),?_⟩
   show PV.tup [_,.int .i64 (A.iMul 120 k4),_]=_
   rw [<-hq,hm]
   rfl
  | false =>
   have hm:A.iMul (A.iAdd o1 o3) k4=(o1+o3)*k4:=by rw [Zkb hA,hadd]
   have hu:(o1+o3)*k4<=70*8:=Z0y (by omega) hW8 (by omega) (by omega)
   have hl:0<=(o1+o3)*k4:=Int.mul_nonneg (by omega) (by omega)
   conv=>cbv
   refine ⟨Zm hA (by kernel_rfl),?_⟩
   refine Q6 hA hks hc0 (by omega) (λ z v hz hv=>?_)
   obtain rfl:=Zyc (hk.symm.trans hz)
   conv=>cbv
   refine ⟨Zy hA hm (by unfold Zj;omega),?_⟩
   show PV.tup [.int .i64 (A.iAdd o1 o3),.int .i64 (A.iMul (A.iAdd o1 o3) k4),_]=_
   rw [<-hq,hm,hadd]
   rfl
 ·have hD:ZL t f o=(0,0,ck):=by rw [ZL,if_neg (hck▸h0),hck]
  have hml:ZC t f=[]:=by rw [ZC,if_neg (hck▸h0)]
  rw [hml] at hmeas
  rw [hD]
  refine Zb (clo:=λ _=>false) (rows:=false) Zg Tryz.func87 rfl (enters_of Tryz.func87 (by kernel_rfl) rfl) (λ A q P Y hr hA hq=>?_)
  obtain ⟨ss,cs,ws,ms,ks,nv,hss,hcs,hws,hms,hks,hnv,htab⟩:=Qd t
  rw [htab] at hmeas ⊢
  obtain ⟨f1,f2,f3,f4,f5,⟨f6,f7⟩,f8⟩:=f
  obtain ⟨fl,hfl⟩:∃fl,fl=Zd f5:=⟨_,rfl⟩
  rw [Zs _ hfl] at hmeas ⊢
  obtain ⟨o1,o2,o3,o4⟩:=o
  simp only at hmeas ⊢
  conv=>cbv
  refine Za hA hmeas ?_
  conv=>cbv
  split
  ·conv=>cbv
   exact hq
  ·rename_i h
   exact absurd (neF hA h) h0
def Qb (len speed:Int):Int:=(len+speed - 1).tdiv speed
def Zbd (k:Y3) (len hold:Int):QN:=⟨Qb len k.Fast+hold,Qb len k.Slow+hold⟩
def ZeJ (k:Y3) (hold:Int) (ls:List Leg):List QN:=ls.mapIdx λ i x=>Zbd k x.Length (if i+1=ls.length then hold else 0)
theorem YD {len speed:Int} (h0:1<=len) (h1:1<=speed):1<=Qb len speed/\Qb len speed<=len/\len<=Qb len speed*speed/\(Qb len speed - 1)*speed<len:=by
 unfold Qb
 rw [Int.tdiv_eq_ediv_of_nonneg (by omega)]
 have e1:=Int.mul_ediv_add_emod (len+speed - 1) speed
 have e2:=Int.emod_nonneg (len+speed - 1) (show speed≠0 by omega)
 have e3:=Int.emod_lt_of_pos (len+speed - 1) (show 0<speed by omega)
 generalize hq:(len+speed - 1) / speed=q at e1 ⊢
 generalize (len+speed - 1) % speed=r at e1 e2 e3
 have e4:(q - 1)*speed=speed*q - speed:=by rw [Int.sub_mul,Int.mul_comm];omega
 have e5:q*speed=speed*q:=Int.mul_comm _ _
 have hq1:1<=q:=by
  rw [<-hq,Int.le_ediv_iff_mul_le (by omega)];omega
 have hq2:q<=len:=by
  rw [<-hq]
  refine Int.lt_add_one_iff.1 (Int.ediv_lt_of_lt_mul (by omega) ?_)
  have:(len+1)*speed=len*speed+speed:=by rw [Int.add_mul];omega
  have h2:len*1<=len*speed:=Int.mul_le_mul_of_nonneg_left h1 (by omega)
  omega
 exact ⟨hq1,hq2,by omega,by omega⟩
theorem ZoT {len a b:Int} (h0:1<=len) (ha:1<=a) (hab:a<=b):Qb len b<=Qb len a:=by
 have h1:=YD h0 ha
 have h2:=YD h0 (show 1<=b by omega)
 rcases Int.lt_or_le (Qb len a) (Qb len b) with h | h
 ·exfalso
  have h3:Qb len a*a<=Qb len a*b:=Int.mul_le_mul_of_nonneg_left hab (by omega)
  have h4:Qb len a*b<=(Qb len b - 1)*b:=ZzD (by omega) (by omega)
  omega
 ·exact h
theorem Zb0 (k:Y3) (hold:Int) (ls:List Leg):(ZeJ k hold ls).length=ls.length:=by simp [ZeJ]
theorem ZfM {k:Y3} {hold:Int} {ls:List Leg} {i:Nat} {x:Leg} (h:ls[i]?=some x):(ZeJ k hold ls)[i]?=some (Zbd k x.Length (if i+1=ls.length then hold else 0)):=by
 unfold ZeJ
 rw [List.getElem?_mapIdx,h];rfl
def ZgF (ls:List Leg):Prop:=1<=ls.length/\ls.length<=8/\∀x∈ls,1<=x.Length/\x.Length<=4096
structure ZcJ (k:Y3):Prop where
 ok:Y9 k=true
 s1:1<=k.Slow
 s2:k.Slow<=k.Fast
 s3:k.Fast<=64
theorem Zlv {k:Y3} (h:Y9 k=true):ZcJ k:=by
 have h':=h
 simp [Y9,QU] at h'
 exact ⟨h,by omega,by omega,by omega⟩
theorem Zdq {k:Y3} (hk:ZcJ k) {len hold:Int} (h0:1<=len) (h1:len<=4096) (h2:0<=hold) (h3:hold<=10):1<=(Zbd k len hold).Lo/\(Zbd k len hold).Lo<=(Zbd k len hold).Hi/\(Zbd k len hold).Hi<=4106:=by
 have a:=YD h0 hk.s1
 have b:=YD h0 (show 1<=k.Fast by have:=hk.s1;have:=hk.s2;omega)
 have c:=ZoT h0 hk.s1 hk.s2
 unfold Zbd
 simp only
 omega
theorem ZoU {k:Y3} (hk:ZcJ k) {hold:Int} {ls:List Leg} (hl:ZgF ls) (h2:0<=hold) (h3:hold<=10):∀b∈ZeJ k hold ls,1<=b.Lo/\b.Lo<=b.Hi/\b.Hi<=4106:=by
 intro b hb
 obtain ⟨i,hi⟩:=ZyF hb
 cases h:ls[i]? with
 | none =>
  have:ls.length<=i:=List.getElem?_eq_none_iff.1 h
  rw [Zyw (by rw [Zb0];exact this)] at hi
  cases hi
 | some x =>
  rw [ZfM h] at hi
  obtain rfl:=Zyc hi
  obtain ⟨c1,c2⟩:=hl.2.2 x (Zyb h)
  split
  ·exact Zdq hk c1 c2 h2 h3
  ·exact Zdq hk c1 c2 (Zyk _) (by omega)
def Zaf (t:Zh) (f:Flight) (o:Opt):Int:=if (ZL t f o).2.2=0 then if o.Cancel then 160 else 0 else (ZL t f o).2.2
def ZaF (f:Flight) (o:Opt):Int:=(f.Ways[o.Way.toNat]?).getD 0
def QC (f:Flight) (o:Opt):QN:=⟨f.Window.From+o.Delay,f.Window.To - 1+o.Delay⟩
def YM (t:Zh) (f:Flight) (o:Opt):List QN :=
 match t.Kinds[f.Class.toNat]?,t.Ways[(ZaF f o).toNat]? with
 | some k,some w=>ZeJ k o.Hold w.Legs
 | _,_=>[]
structure Zfk (t:Zh) (f:Flight) (o:Opt) (k:Y3) (w:Way):Prop where
 chk:Z8 t f=0
 del:(ZL t f o).2.2=0
 can:o.Cancel=false
 k0:0<=f.Class
 hk:t.Kinds[f.Class.toNat]?=some k
 kok:ZcJ k
 d0:0<=o.Delay/\o.Delay<=60/\o.Delay<=k.Longest/\o.Delay.tmod 10=0
 w0:0<=o.Way/\o.Way<f.Ways.length
 hw:f.Ways[o.Way.toNat]?=some (ZaF f o)
 p0:0<=ZaF f o/\ZaF f o<t.Ways.length
 hl:t.Ways[(ZaF f o).toNat]?=some w
 lok:ZgF w.Legs
 h0:0<=o.Hold/\o.Hold<=10/\o.Hold.tmod 5=0
 win:0<=f.Window.From/\f.Window.From<f.Window.To/\f.Window.To<=1440/\f.Window.To - f.Window.From<=16
 leg:YM t f o=ZeJ k o.Hold w.Legs
theorem Zud {t:Zh} (h:Qe t=true) {w:Way} (hw:w∈t.Ways):ZgF w.Legs:=by
 unfold Qe at h
 simp only [Zyi,Zym] at h
 have:=h.1.1.2 w hw
 simp only [Zcj,ZcE,inB,Zyi,Zyf,Zym] at this
 exact ⟨by omega,by omega,λ x hx=>by have:=this.2 x hx;omega⟩
theorem Yz {t:Zh} {f:Flight} {o:Opt} (h:Zaf t f o=0):∃k w,Zfk t f o k w:=by
 unfold Zaf at h
 split at h
 ·rename_i hd
  split at h
  ·cases h
  ·rename_i hc
   have hc':o.Cancel=false:=by simpa using hc
   have hd':=hd
   unfold ZL at hd'
   split at hd'
   ·rename_i hck
    split at hd'
    ·rename_i hm
     obtain ⟨k,hk,hk0,hL0,hL1,_,_,_,hw1,hw4⟩:=Qx hck
     have hm':=hm
     rw [Zat,hk] at hm'
     rcases (Zie o).1 hm' with ⟨h1,_⟩ | ⟨_,h1,h2,h3,h4,h5,h6,h7,h8⟩
     ·rw [hc'] at h1;cases h1
     obtain ⟨x,w0,hx0,_,_,_,_,hin⟩:=ZqO hck
     have hlt:o.Way.toNat<f.Ways.length:=by omega
     have hw:f.Ways[o.Way.toNat]?=some (ZaF f o):=by
      unfold ZaF
      rw [Zya hlt];rfl
     obtain ⟨p0,p1,v,hv,_⟩:=hin _ (Zyb hw)
     obtain ⟨ha,hb⟩:=ZaN hck
     have hkok:ZcJ k:=by
      simp only [Qe,Zyi,Zym,Zyf] at ha
      exact Zlv (ha.2 k (Zyb hk)).1
     have hwin:0<=f.Window.From/\f.Window.From<f.Window.To/\f.Window.To<=1440/\f.Window.To - f.Window.From<=16:=by
      simp only [YW,Zyi,Zzt] at hb
      obtain ⟨⟨⟨⟨⟨⟨⟨⟨_,_⟩,_⟩,_⟩,_⟩,_⟩,hw⟩,_⟩,_⟩:=hb
      simp at hw
      omega
     exact ⟨k,v,⟨hck,hd,hc',hk0,hk,hkok,⟨h1,by omega,h3,h2⟩,⟨h4,h5⟩,hw,⟨p0,p1⟩,hv,Zud ha (Zyb hv),⟨h6,h8,h7⟩,hwin,by rw [YM,hk,hv]⟩⟩
    ·cases hd'
   ·rename_i hne
    exact absurd hd' hne
 ·rename_i hne
  exact absurd h hne
theorem Zfk.bounds {t:Zh} {f:Flight} {o:Opt} {k:Y3} {w:Way} (h:Zfk t f o k w):(∀b∈YM t f o,1<=b.Lo/\b.Lo<=b.Hi/\b.Hi<=4106)/\(YM t f o).length=w.Legs.length/\1<=(YM t f o).length/\(YM t f o).length<=8:=by
 have h1:=h.leg
 have h2:=h.lok
 refine ⟨λ b hb=>ZoU h.kok h2 h.h0.1 h.h0.2.1 b (h1▸hb),?_,?_,?_⟩
 ·rw [h1,Zb0]
 ·rw [h1,Zb0];exact h2.1
 ·rw [h1,Zb0];exact h2.2.1
theorem Zfk.first {t:Zh} {f:Flight} {o:Opt} {k:Y3} {w:Way} (h:Zfk t f o k w):0<=(QC f o).Lo/\(QC f o).Lo<=(QC f o).Hi/\(QC f o).Hi<=1499/\(QC f o).Hi - (QC f o).Lo+1=f.Window.To - f.Window.From/\ZcG (QC f o)<=16:=by
 have:=h.d0
 have:=h.win
 unfold ZcG QC
 simp only
 omega
def Zfl (t:Zh) (f:Flight) (o:Opt):Nat:=QH (QC f o::YM t f o)
def ZN (t:Zh) (f:Flight) (o:Opt):Int:=if Zaf t f o=0 then if Zfl t f o<=4096 then 0 else 160 else Zaf t f o
def Za7 (t:Zh) (f:Flight) (o:Opt):Int:=if ZN t f o=0 then Zfl t f o else 0
def Znp (t:Zh) (f:Flight) (o:Opt):List (List Int):=ZeO 0 (QC f o::YM t f o)
def ZX (t:Zh) (f:Flight) (o:Opt):List Qo:=if ZN t f o=0 then (Znp t f o).map λ ts=>⟨ZaF f o,ts⟩ else []
open Classical in
noncomputable def ZqP (t:Zh) (f:Flight) (o:Opt) (p:Qo):Bool:=decide (Zaf t f o=0/\p.Way=ZaF f o/\ZbT 0 (QC f o::YM t f o) p.Times)
theorem QI {t:Zh} {f:Flight} {o:Opt} (h:ZN t f o=0):Zaf t f o=0/\Zfl t f o<=4096:=by
 unfold ZN at h
 split at h
 ·rename_i h1
  split at h
  ·exact ⟨h1,‹_›⟩
  ·cases h
 ·exact absurd h ‹_›
theorem ZcK (t:Zh) (f:Flight) (o:Opt):(Znp t f o).length=Zfl t f o:=Zkd _ _
open Go.Proofs Go.RowKit
theorem Zgi (len speed:Int) (h0:1<=len/\len<=4096) (h1:1<=speed/\speed<=64):Zc Tryz.prog 284 [.int .i64 len,.int .i64 speed] (.int .i64 (Qb len speed)):=by
 refine Zb (clo:=λ _=>false) (rows:=false) Zg Tryz.func284 rfl (enters_of Tryz.func284 (by kernel_rfl) rfl) (λ A q P Y hr hA hq=>?_)
 have e1:A.iAdd len speed=len+speed:=Z5 hA _ _
 have e2:A.iSub (A.iAdd len speed) 1=len+speed - 1:=by rw [ZbJ hA,e1]
 have e3:A.iDiv (A.iSub (A.iAdd len speed) 1) speed=Qb len speed:=by rw [ZxB hA,e2];rfl
 have hm:=YD h0.1 h1.1
 have nz:A.nz speed:=by subst hA;show speed≠0;omega
 conv=>cbv
 refine ⟨Zy hA e1 (by unfold Zj;omega),Zy hA e2 (by unfold Zj;omega),⟨nz,Zy hA e3 (by unfold Zj;omega)⟩,?_⟩
 rw [<-hq,<-e3]
theorem ZqQ (k:Y3) (hk:ZcJ k) (len:Int) (h0:1<=len/\len<=4096):Zc Tryz.prog 255 [ZU k,.int .i64 len] (Zap (Zbd k len 0)):=by
 refine Zb (clo:=λ _=>false) (rows:=false) Zg Tryz.func255 rfl (enters_of Tryz.func255 (by kernel_rfl) rfl) (λ A q P Y hr hA hq=>?_)
 have c1:=Zgi len k.Fast h0 ⟨by have:=hk.s1;have:=hk.s2;omega,hk.s3⟩
 have c2:=Zgi len k.Slow h0 ⟨hk.s1,by have:=hk.s2;have:=hk.s3;omega⟩
 simp only [Zbd,Zap,ZzQ] at hq
 generalize Qb len k.Fast=n1 at c1 hq
 generalize Qb len k.Slow=n2 at c2 hq
 obtain ⟨k1,k2,k3,k4,k5,k6⟩:=k
 simp only [ZU] at c1 c2 hq ⊢
 obtain ⟨cs,hcs⟩:∃cs,cs=Z3 k6:=⟨_,rfl⟩
 rw [<-hcs]
 conv=>cbv
 refine ⟨Zm hA (by kernel_rfl),?_⟩
 refine Za hA (c1) ?_
 conv=>cbv
 refine Za hA (c2) ?_
 conv=>cbv
 exact hq
theorem Znq (n:Int):Zc Tryz.prog 253 [.int .i64 n] (.bool (decide (1<=n)&&decide (n<=4096))):=by
 refine Zb (clo:=λ _=>false) (rows:=false) Zg Tryz.func253 rfl (enters_of Tryz.func253 (by kernel_rfl) rfl) (λ A q P Y hr hA hq=>?_)
 have h:=Zey [n,1,4096] rfl (by simp)
 have e:QU [n,1,4096]=(decide (1<=n)&&decide (n<=4096)):=by
  rw [ZyA];simp [QU]
 rw [e] at h
 generalize (decide (1<=n)&&decide (n<=4096))=b at h hq
 conv=>cbv
 refine Za hA (h) ?_
 conv=>cbv
 exact hq
theorem Znr (x:Leg):Zc Tryz.prog 252 [Zac x] (.bool (!(decide (1<=x.Length)&&decide (x.Length<=4096)))):=by
 refine Zb (clo:=λ _=>false) (rows:=false) Zg Tryz.func252 rfl (enters_of Tryz.func252 (by kernel_rfl) rfl) (λ A q P Y hr hA hq=>?_)
 obtain ⟨x1,x2,x3,x4⟩:=x
 have h:=Znq x3
 simp only at hq
 generalize (decide (1<=x3)&&decide (x3<=4096))=b at h hq
 simp only [Zac]
 obtain ⟨ms,hms⟩:∃ms,ms=Z4 x4:=⟨_,rfl⟩
 rw [<-hms]
 conv=>cbv
 refine Za hA (h) ?_
 conv=>cbv
 refine Eq.trans ?_ hq
 show PV.bool (A.bNot b)=_
 subst hA;rfl
theorem ZoV (k:Y3) (hk:ZcJ k) (hkl:k.Curfews.length<=9223372036854775807) (ls:List Leg) (hl:ZgF ls) (hold:Int) (h0:0<=hold/\hold<=10) {lg:List PV} (hlg:lg=Qp ls) :
  Zc Tryz.prog 191 [ZU k,.list 4 lg,.int .i64 hold] (.int .i64 0):=by
 refine Zb (clo:=λ _=>false) (rows:=false) Zg Tryz.func191 rfl (enters_of Tryz.func191 (by kernel_rfl) rfl) (λ A q P Y hr hA hq=>?_)
 have h1:=Zi8 k hkl
 rw [hk.ok] at h1
 have hll:lg.length=ls.length:=by rw [hlg];simp [Qp]
 have h2:=Zey [A.lLen lg,1,8,hold,0,10] rfl (by simp)
 have e:QU [A.lLen lg,1,8,hold,0,10]=true:=by
  rw [Zl hA hll]
  have:=hl.1;have:=hl.2.1
  simp [QU];omega
 rw [e] at h2
 have h3:=ZdR (λ x=>!(decide (1<=x.Length)&&decide (x.Length<=4096))) ls hlg (λ x _=>Znr x)
 rw [Zwd (l:=ls) (λ x hx=>by have:=hl.2.2 x hx;simp [this.1,this.2])] at h3
 obtain ⟨k1,k2,k3,k4,k5,k6⟩:=k
 simp only [ZU] at h1 ⊢
 obtain ⟨cs,hcs⟩:∃cs,cs=Z3 k6:=⟨_,rfl⟩
 rw [<-hcs] at h1 ⊢
 conv=>cbv
 refine Za hA (h1) ?_
 conv=>cbv
 split
 ·rename_i hc
  cases (neT hA hc rfl)
 conv=>cbv
 refine Za hA (h2) ?_
 conv=>cbv
 split
 ·rename_i hc
  cases (nT hA hc)
 conv=>cbv
 refine Za hA (h3) ?_
 conv=>cbv
 exact hq
set_option maxHeartbeats 1000000 in
theorem ZqR (k:Y3) (hk:ZcJ k) (ls:List Leg) (hl:ZgF ls) (hold:Int) (h0:0<=hold/\hold<=10) {lg cs:List PV} (hlg:lg=Qp ls) (hcs:cs=Z3 k.Curfews) :
  Zde Tryz.prog 254 [.ptr [.list 4 lg] 0,.ptr [.int .i64 k.Slow,.int .i64 k.Fast,.int .i64 k.Places,.int .i64 k.Weight,.int .i64 k.Longest,.list 1 cs] 0,.ptr [.int .i64 hold] 0]
   ((ZeJ k hold ls).map λ b=>[Zap b]):=by
 refine Zch (clo:=λ _=>false) (rows:=false) Zg Tryz.func254 rfl (enters_of Tryz.func254 (by kernel_rfl) rfl) rfl (λ A P Y Y' y R hr hys hy hA hR=>?_)
 have hR':=λ q (h:q=Y.ys.length\/q=Y.ys.length+1)=>hR q (by rw [hys] at h;exact h)
 have hll:lg.length=ls.length:=by rw [hlg];simp [Qp]
 have hyl:Y.ys.length=ls.length:=by rw [hys,Zys,Zb0]
 have hl8:=hl.2.1
 have hyk:∀(i:Nat) (x:Leg),ls[i]?=some x->Y.ys[i]?=some [Zap (Zbd k x.Length (if i+1=ls.length then hold else 0))]:=λ i x h=>by
  rw [hys,Zyh,ZfM h];rfl
 have hbd:=λ (x:Leg) (hx:x∈ls)=>ZqQ k hk x.Length (hl.2.2 x hx)
 have hbf:=λ (x:Leg) (hx:x∈ls)=>Zdq hk (hl.2.2 x hx).1 (hl.2.2 x hx).2 (Zyk 0) (by omega)
 have hbK:∀n h,Zap (Zbd k n h)=.agg [.int .i64 (Qb n k.Fast+h),.int .i64 (Qb n k.Slow+h)]:=λ n h=>rfl
 obtain ⟨k1,k2,k3,k4,k5,k6⟩:=k
 simp only at hcs hbK ⊢
 simp only [ZU,<-hcs] at hbd
 conv=>cbv
 refine Zi hA (λ (z:Int × Nat) s=>{ s.put (some 10) (.val (.int .i64 z.1)) with ax:=⟨s.ax.mp,z.2⟩ }) (λ z=>z.1=(z.2:Int)/\z.2<=ls.length) (λ z=>(ls.length - z.2)) (0,0) ?_ ?_ ?_
 ·conv=>cbv
  exact Zk
 ·exact ⟨rfl,ZyQ _⟩
 rintro R2 ⟨i,kk⟩ ⟨hik,hkl⟩ hR2
 simp only at hik hkl
 conv=>cbv
 split
 ·rename_i hc
  have hi:i<ls.length:=ZE hA rfl (Zl hA hll) hc
  have his:A.iAdd i 1=i+1:=Z5 hA _ _
  have hir:A.inR (A.iAdd i 1):=Zy hA his (by unfold Zj;omega)
  have hls1:A.iSub (A.lLen lg) 1=(ls.length:Int) - 1:=by rw [ZbJ hA,Zl hA hll]
  have hlsr:A.inR (A.iSub (A.lLen lg) 1):=Zy hA hls1 (by unfold Zj;omega)
  conv=>cbv
  refine Zdl hA hlg (by omega) hi (λ x ms hx hms=>?_)
  have hxm:=Zyb hx
  have h1:=hbd x hxm
  have h2:=hbf x hxm
  have h3:=hyk i.toNat x hx
  rw [show i.toNat=kk by omega] at h3
  rw [hbK] at h1 h3
  simp only [Zbd] at h2
  obtain ⟨x1,x2,x3,x4⟩:=x
  simp only at h1 h2 h3 hms
  generalize Qb x3 k2=m1 at h1 h2 h3
  generalize Qb x3 k1=m2 at h1 h2 h3
  rw [ZzQ,ZzQ] at h1
  conv=>cbv
  refine Za hA (h1) ?_
  conv=>cbv
  refine ⟨hlsr,?_⟩
  split
  ·rename_i hc
   have hl1:i=(ls.length:Int) - 1:=ZdS hA rfl hls1 hc
   rw [if_pos (by omega)] at h3
   have a1:A.iAdd m1 hold=m1+hold:=Z5 hA _ _
   have a2:A.iAdd m2 hold=m2+hold:=Z5 hA _ _
   rw [<-a1,<-a2] at h3
   conv=>cbv
   refine ⟨Zy hA a1 (by unfold Zj;omega),Zy hA a2 (by unfold Zj;omega),?_⟩
   refine QE hA rfl hy h3 ?_ (λ n' hn'=>?_)
   ·conv=>cbv
    split
    ·rename_i hc
     cases (nT hA hc)
    conv=>cbv
    refine ⟨hir,hR2 (A.iAdd i 1,kk+1) _ ?_ ?_ ?_⟩
    ·conv=>cbv
     exact Zt (bx:=[]) (bx':=[_,_]) (mp:=[]) (mp':=[]) 
    ·exact ⟨by show A.iAdd i 1=_;rw [his];omega,by show kk+1<=_;omega⟩
    ·show ls.length - (kk+1)<ls.length - kk
     omega
   ·conv=>cbv
    split
    rotate_left
    ·rename_i hc
     cases (nF hA hc)
    conv=>cbv
    exact hR' _ (.inr hn')
  ·rename_i hc
   have hl1:i≠(ls.length:Int) - 1:=ZeN hA rfl hls1 hc
   rw [if_neg (by omega),ZzQ,ZzQ] at h3
   conv=>cbv
   refine QE hA rfl hy h3 ?_ (λ n' hn'=>?_)
   ·conv=>cbv
    split
    ·rename_i hc
     cases (nT hA hc)
    conv=>cbv
    refine ⟨hir,hR2 (A.iAdd i 1,kk+1) _ ?_ ?_ ?_⟩
    ·conv=>cbv
     exact Zt (bx:=[]) (bx':=[_,_]) (mp:=[]) (mp':=[]) 
    ·exact ⟨by show A.iAdd i 1=_;rw [his];omega,by show kk+1<=_;omega⟩
    ·show ls.length - (kk+1)<ls.length - kk
     omega
   ·conv=>cbv
    split
    rotate_left
    ·rename_i hc
     cases (nF hA hc)
    conv=>cbv
    exact hR' _ (.inr hn')
 ·rename_i hc
  have hi:i=ls.length:=by have:=ZK hA rfl (Zl hA hll) hc;omega
  conv=>cbv
  exact hR' _ (.inl (by show kk=_;rw [hyl];omega))
theorem ZsD (c1 c2 c3 c4 c5:Int) (cs lg:List PV) (hold:Int):Zc Tryz.prog 192 [.agg [.int .i64 c1,.int .i64 c2,.int .i64 c3,.int .i64 c4,.int .i64 c5,.list 1 cs],.list 4 lg,.int .i64 hold]
  (.fn 254 [.ptr [.list 4 lg] 0,.ptr [.int .i64 c1,.int .i64 c2,.int .i64 c3,.int .i64 c4,.int .i64 c5,.list 1 cs] 0,.ptr [.int .i64 hold] 0]):=by
 refine Zb (clo:=λ _=>false) (rows:=false) Zg Tryz.func192 rfl (enters_of Tryz.func192 (by kernel_rfl) rfl) (λ A q P Y hr hA hq=>?_)
 conv=>cbv
 rw [<-hq]
set_option maxHeartbeats 1000000 in
theorem ZqS (k:Y3) (hk:ZcJ k) (ls:List Leg) (hl:ZgF ls) (hold:Int) (h0:0<=hold/\hold<=10) {lg:List PV} (hlg:lg=Qp ls) :
  Zc Tryz.prog 131 [ZU k,.list 4 lg,.int .i64 hold] (.tup [.list 2 (ZF (ZeJ k hold ls)),.int .i64 0]):=by
 refine Zb (clo:=λ _=>false) (rows:=false) Zg Tryz.func131 rfl (enters_of Tryz.func131 (by kernel_rfl) rfl) (λ A q P Y hr hA hq=>?_)
 have hkl:k.Curfews.length<=9223372036854775807:=by
  have h1:=Qz.cell (show Qz [.agg _] from hr.mem (p:=ZU k) (by simp)) (c:=.list 1 (Z3 k.Curfews)) (by simp)
  have:=h1.len;simpa [Z3] using this
 have hask:=ZoV k hk hkl ls hl hold h0 hlg
 obtain ⟨cs,hcs⟩:∃cs,cs=Z3 k.Curfews:=⟨_,rfl⟩
 have hseq:=ZqR k hk ls hl hold h0 hlg hcs
 have hbl:=Zb0 k hold ls
 have hl8:=hl.2.1
 generalize ZeJ k hold ls=M at hseq hq hbl
 obtain ⟨k1,k2,k3,k4,k5,k6⟩:=k
 simp only at hcs hseq
 simp only [ZU,<-hcs] at hask ⊢
 have hmk:=ZsD k1 k2 k3 k4 k5 cs lg hold
 conv=>cbv
 refine Za hA (hask) ?_
 conv=>cbv
 split
 ·rename_i hc
  cases (neT hA hc rfl)
 conv=>cbv
 refine Za hA (hmk) ?_
 conv=>cbv
 refine YU hA hseq (λ x hx=>?_) (λ (L:List PV) s=>{ s with bx:=s.bx.set 1 (some [.own 0 2 L]),tk:=[(A.nLen L,148)] })
  (λ k L=>L=ZF (M.take k)) [] (λ _=>rfl) ?_ ?_ ?_ ?_
 ·obtain ⟨o,_,rfl⟩:=Zyz.1 hx;rfl
 ·subst hA
  exact Wk.ownBx _ _ [] _ 1 0 0 2 [.lit 0 []] [] 148 rfl rfl (.inr rfl)
 ·rfl
 ·intro R k L x hx hL hR
  rw [Zyh,ZyG] at hx
  obtain ⟨o,ho,rfl⟩:=hx
  have hkl:k<M.length:=(ZxZ.1 ho).1
  have hLl:L.length<=1000:=by rw [hL];simp [ZF];omega
  obtain ⟨o1,o2⟩:=o
  have hnext:A.lApp L [Zap ⟨o1,o2⟩]=ZF (M.take (k+1)):=by
   subst hA hL
   rw [ZyD,ho]
   show ZF _++_=_
   simp [ZF]
  have htk:A.tkEq (A.nLen L) (A.nLen L):=by subst hA;rfl
  have hroom:A.room (A.nLen (A.lApp L [Zap ⟨o1,o2⟩])) 16:=by
   subst hA
   show (L++[_]).length*(16+1)<=140737488355328
   rw [Zyg,Zyt];omega
  conv=>cbv
  refine ⟨⟨htk,hroom⟩,hR (A.lApp L [.agg [.int .i64 o1,.int .i64 o2]]) _ ?_ hnext⟩
  conv=>cbv
  exact Zt (bx:=[_,_]) (bx':=[_]) (mp:=[]) (mp':=[]) 
 ·intro L hL
  rw [Zyl (by simp)] at hL
  conv=>cbv
  rw [<-hq,hL]
open Go.Proofs Go.RowKit
def ZgG (t:Zh) (f:Flight) (o:Opt):PV:=if Zaf t f o=0 then .agg [.int .i64 (ZaF f o),.int .i64 (QC f o).Lo,.int .i64 (QC f o).Hi,.list 2 (ZF (YM t f o))] else .agg [.int .i64 0,.int .i64 0,.int .i64 0,.list 0 []]
set_option maxHeartbeats 2000000 in
theorem Zkk (t:Zh) (f:Flight) (o:Opt):Zc Tryz.prog 57 [Zn t,Zx f,Z2 o] (.tup [ZgG t f o,.int .i64 (Zaf t f o)]):=by
 have hdel:=Zhu t f o
 by_cases h0:Zaf t f o=0
 ·obtain ⟨k,w,h⟩:=Yz h0
  have h1:=h.del
  have h2:=h.can
  have h3:=h.k0
  have h4:=h.hk
  have h5:=h.d0
  have h6:=h.w0
  have h7:=h.hw
  have h8:=h.p0
  have h9:=h.hl
  have h10:=h.win
  have h11:=h.h0
  have hkl:=(ZxZ.1 h4).1
  have hlegs:∀lg v,lg=Qp w.Legs->v=Z3 k.Curfews->Zc Tryz.prog 131 [.agg [.int .i64 k.Slow,.int .i64 k.Fast,.int .i64 k.Places,.int .i64 k.Weight,.int .i64 k.Longest,.list 1 v],.list 4 lg,.int .i64 o.Hold] (.tup [.list 2 (ZF (YM t f o)),.int .i64 0]):=λ lg v e1 e2=>by
   have:=ZqS k h.kok w.Legs h.lok o.Hold ⟨h11.1,h11.2.1⟩ e1
   rw [h.leg,e2];exact this
  rw [h1] at hdel
  rw [ZgG,if_pos h0,h0]
  generalize (ZL t f o).1=d1 at hdel
  generalize (ZL t f o).2.1=d2 at hdel
  generalize ZaF f o=pw at h7 h8 h9
  simp only [QC]
  generalize ZF (YM t f o)=bl at hlegs
  clear h h0 h1
  refine Zb (clo:=λ _=>false) (rows:=false) Zg Tryz.func57 rfl (enters_of Tryz.func57 (by kernel_rfl) rfl) (λ A q P Y hr hA hq=>?_)
  obtain ⟨ss,cs,ws,ms,ks,nv,hss,hcs,hws,hms,hks,hnv,htab⟩:=Qd t
  rw [htab] at hdel ⊢
  obtain ⟨f1,f2,f3,f4,f5,⟨f6,f7⟩,f8⟩:=f
  obtain ⟨fl,hfl⟩:∃fl,fl=Zd f5:=⟨_,rfl⟩
  rw [Zs _ hfl] at hdel ⊢
  obtain ⟨o1,o2,o3,o4⟩:=o
  simp only at hdel h2 h3 h4 h5 h6 h7 h10 h11 hkl hlegs hq ⊢
  subst h2
  obtain ⟨k1,k2,k3,k4,k5,k6⟩:=k
  obtain ⟨w1,w2,w3⟩:=w
  simp only at hlegs
  have e1:A.iAdd f6 o1=f6+o1:=Z5 hA _ _
  have e2:A.iSub f7 1=f7 - 1:=ZbJ hA _ _
  have e3:A.iAdd (A.iSub f7 1) o1=f7 - 1+o1:=by rw [Z5 hA,e2]
  conv=>cbv
  refine Za hA (hdel) ?_
  conv=>cbv
  split
  ·rename_i hc
   cases (neT hA hc rfl)
  conv=>cbv
  refine Zw hA hfl h6.1 h6.2 (λ x hx=>?_)
  obtain rfl:=Zyc (h7.symm.trans hx)
  conv=>cbv
  refine ⟨Zy hA e1 (by unfold Zj;omega),Zy hA e2 (by unfold Zj;omega),Zy hA e3 (by unfold Zj;omega),?_⟩
  refine ⟨Zm hA (by kernel_rfl),?_⟩
  refine Q6 hA hks h3 (by omega) (λ z v hz hv=>?_)
  obtain rfl:=Zyc (h4.symm.trans hz)
  conv=>cbv
  refine Ym hA hws h8.1 h8.2 (λ z lg hz hlg=>?_)
  obtain rfl:=Zyc (h9.symm.trans hz)
  conv=>cbv
  refine Za hA (hlegs lg v hlg hv) ?_
  conv=>cbv
  refine Eq.trans ?_ hq
  show PV.tup [.agg [_,.int .i64 (A.iAdd f6 o1),.int .i64 (A.iAdd (A.iSub f7 1) o1),_],_]=_
  rw [e1,e3]
 ·rw [ZgG,if_neg h0]
  have hE:Zaf t f o=if (ZL t f o).2.2=0 then if o.Cancel then 160 else 0 else (ZL t f o).2.2:=rfl
  generalize (ZL t f o).1=d1 at hdel
  generalize (ZL t f o).2.1=d2 at hdel
  generalize (ZL t f o).2.2=d3 at hdel hE
  generalize Zaf t f o=pe at h0 hE
  refine Zb (clo:=λ _=>false) (rows:=false) Zg Tryz.func57 rfl (enters_of Tryz.func57 (by kernel_rfl) rfl) (λ A q P Y hr hA hq=>?_)
  obtain ⟨ss,cs,ws,ms,ks,nv,hss,hcs,hws,hms,hks,hnv,htab⟩:=Qd t
  rw [htab] at hdel ⊢
  obtain ⟨f1,f2,f3,f4,f5,⟨f6,f7⟩,f8⟩:=f
  obtain ⟨fl,hfl⟩:∃fl,fl=Zd f5:=⟨_,rfl⟩
  rw [Zs _ hfl] at hdel ⊢
  obtain ⟨o1,o2,o3,o4⟩:=o
  simp only at hdel hE ⊢
  conv=>cbv
  refine Za hA (hdel) ?_
  conv=>cbv
  split
  ·rename_i hc
   have h1:=neT hA hc
   rw [if_neg h1] at hE
   conv=>cbv
   rw [<-hq,hE]
  rename_i hc
  have h1:=neF hA hc
  rw [if_pos h1] at hE
  cases o4 with
  | true =>
   conv=>cbv
   rw [<-hq,hE];rfl
  | false =>
   exact absurd hE h0
def ZaG:List Int->Int
 | []=>1
 | x::r=>x*ZaG r
theorem Ze3:∀(a b:List Int),ZaG (a++b)=ZaG a*ZaG b
 | [],b=>by simp [ZaG]
 | x::a,b=>by rw [Zzq,ZaG,Ze3 a b,ZaG,Int.mul_assoc]
theorem Zig:∀{l:List Int},(∀x∈l,1<=x)->1<=ZaG l
 | [],_=>by simp [ZaG]
 | x::r,h=>by
  have h1:=h x (by simp)
  have h2:=Zig λ y hy=>h y (ZyN x hy)
  rw [ZaG]
  have:1*1<=x*ZaG r:=Z0y h1 h2 (by omega) (by omega)
  omega
theorem ZqT (l:List Int) {xs:List PV} (hx:xs=Zd l) (hl:∀x∈l,1<=x/\x<=1000000):Zc Tryz.prog 132 [.list 1 xs] (.int .i64 (if ZaG l<=4096 then ZaG l else 4097)):=by
 refine Zb (clo:=λ _=>false) (rows:=false) Zg Tryz.func132 rfl (enters_of Tryz.func132 (by kernel_rfl) rfl) (λ A q P Y hr hA hq=>?_)
 have hll:xs.length=l.length:=by rw [hx];simp [Zd]
 have hlen:l.length<=9223372036854775807:=by have:=(hr.mem (p:=.list 1 xs) (by simp)).len;omega
 conv=>cbv
 refine Zi hA (λ (z:Int × Int) s=>(s.put (some 8) (.val (.int .i64 z.1))).put (some 3) (.val (.int .i64 z.2))) (λ z=>0<=z.1/\z.1<=l.length/\z.2=ZaG (l.take z.1.toNat)/\z.2<=4096) (λ z=>((l.length:Int) - z.1).toNat) (0,1) ?_ ?_ ?_
 ·conv=>cbv
  exact Zk
 ·exact ⟨Zyk _,by omega,by simp [ZaG],by omega⟩
 rintro R ⟨i,n⟩ ⟨hi0,hi1,hn,hn4⟩ hR
 simp only at hi0 hi1 hn hn4
 have hn1:1<=n:=by rw [hn];exact Zig λ x hx=>(hl x (Z0w hx)).1
 conv=>cbv
 split
 ·rename_i hc
  have hi:i<l.length:=ZE hA rfl (Zl hA hll) hc
  have his:A.iAdd i 1=i+1:=Z5 hA _ _
  have hir:A.inR (A.iAdd i 1):=Zy hA his (by unfold Zj;omega)
  conv=>cbv
  refine Zw hA hx hi0 hi (λ x hx0=>?_)
  have ht:=Zo hi0 hx0
  have hxb:=hl x (Zyb hx0)
  have e:A.iMul n x=n*x:=Zkb hA _ _
  have hu:n*x<=4096*1000000:=Z0y hn4 hxb.2 (by omega) (by omega)
  have hlo:1*1<=n*x:=Z0y hn1 hxb.1 (by omega) (by omega)
  have hp:n*x=ZaG (l.take (i+1).toNat):=by rw [ht,Ze3,hn];simp [ZaG]
  have hdvd:ZaG l=n*x*ZaG (l.drop (i+1).toNat):=by
   rw [hp,<-Ze3,ZyI]
  have hdp:1<=ZaG (l.drop (i+1).toNat):=Zig λ y hy=>(hl y (List.mem_of_mem_drop hy)).1
  conv=>cbv
  refine ⟨Zy hA e (by unfold Zj;omega),?_⟩
  split
  ·rename_i hc
   have h1:=ZE hA rfl e hc
   have h2:n*x*1<=n*x*ZaG (l.drop (i+1).toNat):=Int.mul_le_mul_of_nonneg_left hdp (by omega)
   conv=>cbv
   rw [<-hq,if_neg (by omega)]
  ·rename_i hc
   have h1:=ZK hA rfl e hc
   conv=>cbv
   refine ⟨hir,hR (A.iAdd i 1,A.iMul n x) _ ?_ ?_ ?_⟩
   ·conv=>cbv
    exact Zk
   ·show 0<=A.iAdd i 1/\A.iAdd i 1<=l.length/\A.iMul n x=ZaG (l.take (A.iAdd i 1).toNat)/\A.iMul n x<=4096
    rw [his,e]
    exact ⟨by omega,by omega,hp,h1⟩
   ·show ((l.length:Int) - A.iAdd i 1).toNat<((l.length:Int) - i).toNat
    rw [his];omega
 ·rename_i hc
  have hi:l.length<=i:=ZK hA rfl (Zl hA hll) hc
  rw [Zyl (by omega)] at hn
  conv=>cbv
  rw [<-hq,<-hn,if_pos hn4]
def Zfm (b:QN):Int:=b.Hi - b.Lo+1
theorem ZiD:∀{bs:List QN},(∀b∈bs,b.Lo<=b.Hi)->ZaG (bs.map Zfm)=QH bs
 | [],_=>rfl
 | b::r,h=>by
  have h1:=h b (by simp)
  rw [Zzl,ZaG,QH,ZiD λ c hc=>h c (by simp [hc]),Int.natCast_mul]
  congr 1
  unfold Zfm ZcG
  omega
set_option maxHeartbeats 1000000 in
theorem Zv7 (way:Int) (first:QN) (legs:List QN) (hb:∀b∈first::legs,-10000<=b.Lo/\b.Lo<=b.Hi/\b.Hi<=10000) (hl:legs.length<=100) {bl:List PV} (hbl:bl=ZF legs) :
  Zc Tryz.prog 58 [.agg [.int .i64 way,.int .i64 first.Lo,.int .i64 first.Hi,.list 2 bl]] (.int .i64 (if QH (first::legs)<=4096 then QH (first::legs) else 4097)):=by
 have hprod:=λ xs (hx:xs=Zd ((first::legs).map Zfm))=>ZqT _ hx (λ x hx=>by
  obtain ⟨b,hb1,rfl⟩:=Zyz.1 hx
  have:=hb b hb1
  unfold Zfm;omega)
 rw [ZiD (λ b h=>(hb b h).2.1)] at hprod
 have hif:(if (QH (first::legs):Int)<=4096 then (QH (first::legs):Int) else 4097)=(if QH (first::legs)<=4096 then (QH (first::legs):Int) else 4097):=by
  split<;>split<;>omega
 rw [hif] at hprod
 generalize (if QH (first::legs)<=4096 then (QH (first::legs):Int) else 4097)=r at hprod ⊢
 refine Zb (clo:=λ _=>false) (rows:=false) Zg Tryz.func58 rfl (enters_of Tryz.func58 (by kernel_rfl) rfl) (λ A q P Y hr hA hq=>?_)
 have hbll:bl.length=legs.length:=by rw [hbl];simp [ZF]
 have hbf:=hb first (by simp)
 obtain ⟨f1,f2⟩:=first
 simp only at hbf hprod ⊢
 have e1:A.iSub f2 f1=f2 - f1:=ZbJ hA _ _
 have e2:A.iAdd (A.iSub f2 f1) 1=f2 - f1+1:=by rw [Z5 hA,e1]
 conv=>cbv
 refine ⟨Zy hA e1 (by unfold Zj;omega),Zy hA e2 (by unfold Zj;omega),?_⟩
 refine Zi hA (λ (z:Int × List PV) s=>{ (s.put (some 18) (.val (.int .i64 z.1))).put (some 3) (.own 0 1 z.2) with tk:=[(A.nLen z.2,3)] }) (λ z=>0<=z.1/\z.1<=legs.length/\z.2=Zd ((⟨f1,f2⟩::legs.take z.1.toNat).map Zfm)) (λ z=>((legs.length:Int) - z.1).toNat) (0,[.int .i64 (A.iAdd (A.iSub f2 f1) 1)]) ?_ ?_ ?_
 ·conv=>cbv
  exact ZaM 3 1 1 _ _ rfl (.inl rfl) (by repeat (first | refine Zv ?_ | refine ZH ?_ | exact Z9)) (by subst hA;rfl)
 ·refine ⟨Zyk _,by omega,?_⟩
  show [PV.int .i64 (A.iAdd (A.iSub f2 f1) 1)]=_
  rw [e2];rfl
 rintro R ⟨i,L⟩ ⟨hi0,hi1,hL⟩ hR
 simp only at hi0 hi1 hL
 conv=>cbv
 split
 ·rename_i hc
  have hi:i<legs.length:=ZE hA rfl (Zl hA hbll) hc
  have his:A.iAdd i 1=i+1:=Z5 hA _ _
  have hir:A.inR (A.iAdd i 1):=Zy hA his (by unfold Zj;omega)
  conv=>cbv
  refine Zc8 hA hbl hi0 hi (λ b hb0=>?_)
  have ht:=Zo hi0 hb0
  have hbb:=hb b (ZyN _ (Zyb hb0))
  obtain ⟨b1,b2⟩:=b
  simp only at hbb
  have g1:A.iSub b2 b1=b2 - b1:=ZbJ hA _ _
  have g2:A.iAdd (A.iSub b2 b1) 1=b2 - b1+1:=by rw [Z5 hA,g1]
  have hLl:L.length<=1000:=by rw [hL];simp [Zd];omega
  have hnext:A.lApp L [.int .i64 (A.iAdd (A.iSub b2 b1) 1)]=Zd ((⟨f1,f2⟩::legs.take (i+1).toNat).map Zfm):=by
   rw [ht,g2,hL]
   subst hA
   show Zd _++_=_
   simp [Zd,Z7,Zfm]
  have htk:A.tkEq (A.nLen L) (A.nLen L):=by subst hA;rfl
  have hroom:A.room (A.nLen (A.lApp L [.int .i64 (A.iAdd (A.iSub b2 b1) 1)])) 8:=by
   subst hA
   show (L++[_]).length*(8+1)<=140737488355328
   rw [Zyg,Zyt];omega
  conv=>cbv
  refine ⟨Zy hA g1 (by unfold Zj;omega),Zy hA g2 (by unfold Zj;omega),⟨htk,hroom⟩,hir,hR (A.iAdd i 1,A.lApp L [.int .i64 (A.iAdd (A.iSub b2 b1) 1)]) _ ?_ ?_ ?_⟩
  ·conv=>cbv
   exact Zt (bx:=[_]) (bx':=[_]) (mp:=[]) (mp':=[]) (by repeat (first | refine Zv ?_ | refine ZH ?_ | refine Za6 ?_ | exact Z9)) (by simp) (by simp) rfl rfl
  ·show 0<=A.iAdd i 1/\A.iAdd i 1<=legs.length/\_=Zd ((⟨f1,f2⟩::legs.take (A.iAdd i 1).toNat).map Zfm)
   rw [his]
   exact ⟨by omega,by omega,hnext⟩
  ·show ((legs.length:Int) - A.iAdd i 1).toNat<((legs.length:Int) - i).toNat
   rw [his];omega
 ·rename_i hc
  have hi:legs.length<=i:=ZK hA rfl (Zl hA hbll) hc
  rw [Zyl (by omega)] at hL
  conv=>cbv
  refine Za hA (hprod L hL) ?_
  conv=>cbv
  exact hq
open Go.Proofs Go.RowKit
theorem Zmd {t:Zh} {f:Flight} {o:Opt} (h:Zaf t f o=0):ZgG t f o=.agg [.int .i64 (ZaF f o),.int .i64 (QC f o).Lo,.int .i64 (QC f o).Hi,.list 2 (ZF (YM t f o))]:=by rw [ZgG,if_pos h]
theorem ZsE {t:Zh} {f:Flight} {o:Opt} (h:Zaf t f o≠0):ZgG t f o=.agg [.int .i64 0,.int .i64 0,.int .i64 0,.list 0 []]:=by rw [ZgG,if_neg h]
theorem Zfk.all {t:Zh} {f:Flight} {o:Opt} {k:Y3} {w:Way} (h:Zfk t f o k w):∀b∈QC f o::YM t f o,-10000<=b.Lo/\b.Lo<=b.Hi/\b.Hi<=10000:=by
 intro b hb
 rcases ZyJ.1 hb with rfl | hb
 ·have:=h.first;omega
 ·have:=h.bounds.1 b hb;omega
theorem Zue (t:Zh) (f:Flight) (o:Opt):Zc Tryz.prog 15 [Zn t,Zx f,Z2 o] (.tup [.int .i64 (Za7 t f o),.int .i64 (ZN t f o)]):=by
 have hpl:=Zkk t f o
 by_cases h0:Zaf t f o=0
 ·obtain ⟨k,w,h⟩:=Yz h0
  have hmany:=λ bl hbl=>Zv7 (ZaF f o) (QC f o) (YM t f o) h.all (by have:=h.bounds.2.2.2;omega) (bl:=bl) hbl
  rw [Zmd h0,h0] at hpl
  have hN:ZN t f o=if Zfl t f o<=4096 then 0 else 160:=by rw [ZN,if_pos h0]
  have hC:Za7 t f o=if ZN t f o=0 then (Zfl t f o:Int) else 0:=rfl
  rw [hC,hN]
  have hm:QH (QC f o::YM t f o)=Zfl t f o:=rfl
  rw [hm] at hmany
  generalize Zfl t f o=n at hmany
  generalize ZaF f o=pw at hpl hmany
  generalize QC f o=fb at hpl hmany
  generalize YM t f o=pL at hpl hmany
  obtain ⟨b1,b2⟩:=fb
  obtain ⟨bl,hbl⟩:∃bl,bl=ZF pL:=⟨_,rfl⟩
  have hm2:=hmany bl hbl
  rw [<-hbl] at hpl
  obtain ⟨r,hr⟩:∃r:Int,r=if n<=4096 then (n:Int) else 4097:=⟨_,rfl⟩
  rw [<-hr] at hm2
  have hr2:(n<=4096/\r=n)\/(4096<n/\r=4097):=by rw [hr];split<;>omega
  clear hr
  clear hmany hN hC hm h h0
  refine Zb (clo:=λ _=>false) (rows:=false) Zg Tryz.func15 rfl (enters_of Tryz.func15 (by kernel_rfl) rfl) (λ A q P Y hr hA hq=>?_)
  obtain ⟨ss,cs,ws,ms,ks,nv,hss,hcs,hws,hms,hks,hnv,htab⟩:=Qd t
  rw [htab] at hpl ⊢
  obtain ⟨f1,f2,f3,f4,f5,⟨f6,f7⟩,f8⟩:=f
  obtain ⟨fl,hfl⟩:∃fl,fl=Zd f5:=⟨_,rfl⟩
  rw [Zs _ hfl] at hpl ⊢
  obtain ⟨o1,o2,o3,o4⟩:=o
  simp only at hpl hm2 ⊢
  conv=>cbv
  refine Za hA (hpl) ?_
  conv=>cbv
  split
  ·rename_i hc
   cases (neT hA hc rfl)
  conv=>cbv
  refine Za hA (hm2) ?_
  conv=>cbv
  split
  ·rename_i hc
   have h1:=ltT hA hc
   conv=>cbv
   rw [<-hq,if_neg (show ¬n<=4096 by omega)];rfl
  ·rename_i hc
   have h1:=ltF hA hc
   have h2:n<=4096:=by omega
   have h3:r=n:=by omega
   rw [if_pos h2] at hq
   conv=>cbv
   rw [<-hq,h3];rfl
 ·rw [ZsE h0] at hpl
  have hE:ZN t f o=Zaf t f o:=by rw [ZN,if_neg h0]
  have hN:Za7 t f o=0:=by rw [Za7,hE,if_neg h0]
  rw [hE,hN]
  generalize Zaf t f o=e at hpl h0
  refine Zb (clo:=λ _=>false) (rows:=false) Zg Tryz.func15 rfl (enters_of Tryz.func15 (by kernel_rfl) rfl) (λ A q P Y hr hA hq=>?_)
  obtain ⟨ss,cs,ws,ms,ks,nv,hss,hcs,hws,hms,hks,hnv,htab⟩:=Qd t
  rw [htab] at hpl ⊢
  obtain ⟨f1,f2,f3,f4,f5,⟨f6,f7⟩,f8⟩:=f
  obtain ⟨fl,hfl⟩:∃fl,fl=Zd f5:=⟨_,rfl⟩
  rw [Zs _ hfl] at hpl ⊢
  obtain ⟨o1,o2,o3,o4⟩:=o
  simp only at hpl ⊢
  conv=>cbv
  refine Za hA (hpl) ?_
  conv=>cbv
  split
  rotate_left
  ·rename_i hc
   cases ((h0 (neF hA hc)))
  conv=>cbv
  exact hq
theorem ZsF {first:QN} {legs:List QN} {ts:List Int}:ZbT 0 (first::legs) ts↔ts.length=legs.length+1/\(∀x,ts[0]?=some x->first.Lo<=x/\x<=first.Hi)/\∀(i:Nat) (b:QN) (x y:Int),legs[i]?=some b->ts[i]?=some x->ts[i+1]?=some y->x+b.Lo<=y/\y<=x+b.Hi:=by
 rw [Zke]
 constructor
 ·rintro ⟨h1,h2⟩
  refine ⟨h1,λ x hx=>by have:=h2 0 first x 0 rfl hx rfl;omega,λ i b x y hb hx hy=>h2 (i+1) b y x (by simpa using hb) hy (by simpa using hx)⟩
 ·rintro ⟨h1,h2,h3⟩
  refine ⟨h1,λ k b t p hb ht hp=>?_⟩
  cases k with
  | zero =>
   simp at hb hp
   subst hb hp
   have:=h2 t ht
   omega
  | succ k=>exact h3 k b p t (by simpa using hb) (by simpa using hp) ht
open Classical in
theorem Zme {t:Zh} {f:Flight} {o:Opt} {p:Qo} (h:Zaf t f o=0):ZqP t f o p=true↔p.Way=ZaF f o/\ZbT 0 (QC f o::YM t f o) p.Times:=by
 unfold ZqP
 rw [decide_eq_true_iff]
 exact ⟨λ x=>x.2,λ x=>⟨h,x⟩⟩
open Go.Proofs Go.RowKit
theorem ZiE {xs:List PV} (l:List Y2) (hx:xs=Z4 l):Zc Tryz.prog 261 [.list 2 xs] (.int .i64 (if Yt l then 0 else 50)):=by
 refine Zb (clo:=λ _=>false) (rows:=false) Zg Tryz.func261 rfl (enters_of Tryz.func261 (by kernel_rfl) rfl) (λ A q P Y hr hA hq=>?_)
 have hll:xs.length=l.length:=by rw [hx];simp [Z4]
 have hlen:l.length<=9223372036854775807:=by have:=(hr.mem (p:=.list 2 xs) (by simp)).len;omega
 have hbad:∀x∈l,ZaE x=true->PV.int .i64 50=q:=λ x hx h=>by
  rw [<-hq,show Yt l=false by unfold Yt;rw [Zzy.2 ⟨x,hx,h⟩];rfl];rfl
 conv=>cbv
 refine Zi hA (λ (i:Int) s=>s.put (some 3) (.val (.int .i64 i))) (λ i=>0<=i/\i<=(l.length:Int)/\(λ i=>∀x∈l.take i.toNat,ZaE x=false) i) (λ i=>((l.length:Int) - i).toNat) 0 ?_ ?_ ?_
 ·conv=>cbv
  exact Zk
 ·exact ⟨Zyk _,by omega,by simp⟩
 ·rintro R i ⟨hi0,hi1,hi2⟩ hRi
  conv=>cbv
  split
  ·rename_i hc
   have hi:i<(l.length:Int):=ZE hA rfl (Zl hA hll) hc
   have his:A.iAdd i 1=i+1:=Z5 hA _ _
   have hir:A.inR (A.iAdd i 1):=Zy hA his (by unfold Zj;omega)
   have him:((l.length:Int) - A.iAdd i 1).toNat<((l.length:Int) - i).toNat:=by rw [his];omega
   have hin:(λ i=>∀x∈l.take i.toNat,ZaE x=false) (i+1)->0<=A.iAdd i 1/\A.iAdd i 1<=(l.length:Int)/\(λ i=>∀x∈l.take i.toNat,ZaE x=false) (A.iAdd i 1):=λ h=>by rw [his];exact ⟨by omega,by omega,h⟩
   simp only at hin
   conv=>cbv
   refine ⟨Zm hA (by kernel_rfl),?_⟩
   refine Zci hA hx hi0 hi (λ x hx0=>?_)
   have hm:=Zyb hx0
   have ht:=Zo hi0 hx0
   obtain ⟨x1,x2⟩:=x
   conv=>cbv
   split
   ·rename_i hc
    conv=>cbv
    exact hbad _ hm (by have:=ltT hA hc;unfold ZaE;simp;omega)
   rename_i c1
   conv=>cbv
   refine Zci hA hx hi0 hi (λ z hz=>?_)
   obtain rfl:=Zyc ((hx0).symm.trans hz)
   conv=>cbv
   refine Zci hA hx hi0 hi (λ z hz=>?_)
   obtain rfl:=Zyc ((hx0).symm.trans hz)
   conv=>cbv
   split
   ·rename_i hc
    conv=>cbv
    exact hbad _ hm (by have:=leT hA hc;unfold ZaE;simp;omega)
   rename_i c2
   conv=>cbv
   refine Zci hA hx hi0 hi (λ z hz=>?_)
   obtain rfl:=Zyc ((hx0).symm.trans hz)
   conv=>cbv
   split
   ·rename_i hc
    conv=>cbv
    exact hbad _ hm (by have:=ltT hA hc;unfold ZaE;simp;omega)
   rename_i c3
   conv=>cbv
   exact ⟨hir,hRi (A.iAdd i 1) _ (by (conv=>cbv);exact Zk) (hin (ZS ht hi2 (by have:=ltF hA c1;have:=leF hA c2;have:=ltF hA c3;unfold ZaE;simp;omega))) him⟩
  ·rename_i hc
   have hi:i=(l.length:Int):=by have:=ZK hA rfl (Zl hA hll) hc;omega
   conv=>cbv
   rw [<-hq,show Yt l=true by unfold Yt;rw [Zwd (Q7 hi hi2)];rfl];rfl
theorem Zkl (k:Y3):Y9 k=true↔(1<=k.Slow/\k.Slow<=64/\k.Slow<=k.Fast/\k.Fast<=64/\1<=k.Places/\k.Places<=8/\1<=k.Weight/\k.Weight<=8/\0<=k.Longest/\k.Longest<=60/\(k.Curfews.length:Int)<=16)/\k.Longest.tmod 10=0/\∀l∈k.Curfews,Yt l=true:=by
 unfold Y9
 simp only [QU,Zyi,Zzt,ZzV,Zzm,Zyf,Zz1,Bool.not_eq_false,and_true,and_assoc]
 constructor
 ·rintro ⟨h1,h2,h3,h4,h5,h6,h7,h8,h9,h10,h11,h12,h13,h14⟩
  refine ⟨by omega,by omega,by omega,by omega,by omega,by omega,by omega,by omega,by omega,by omega,by omega,h13,λ l hl=>?_⟩
  have:=h14 l hl;simpa using this
 ·rintro ⟨h1,h2,h3,h4,h5,h6,h7,h8,h9,h10,h11,h12,h13⟩
  refine ⟨by omega,by omega,by omega,by omega,by omega,by omega,by omega,by omega,by omega,by omega,by omega,by omega,h12,λ l hl=>?_⟩
  simp [h13 l hl]
theorem Zfn (k:Y3):Zc Tryz.prog 205 [ZU k] (.int .i64 (if Y9 k then 0 else 120)):=by
 refine Zb (clo:=λ _=>false) (rows:=false) Zg Tryz.func205 rfl (enters_of Tryz.func205 (by kernel_rfl) rfl) (λ A q P Y hr hA hq=>?_)
 have hbad:¬Y9 k=true->PV.int .i64 120=q:=λ h=>by rw [<-hq,if_neg h]
 have hK:=(Zkl k).1
 have hK2:=(Zkl k).2
 generalize Y9 k=kb at hbad hK hK2 hq
 obtain ⟨cu,hcu⟩:∃cu,cu=Z3 k.Curfews:=⟨_,rfl⟩
 have hcl:cu.length=k.Curfews.length:=by rw [hcu];simp [Z3]
 have hlen:k.Curfews.length<=9223372036854775807:=by
  have:=(Qz.cell (show Qz [.agg _] from hr) (c:=.list 1 (Z3 k.Curfews)) (by simp)).len
  rw [<-hcu,hcl] at this;exact this
 rw [show ZU k=.agg [.int .i64 k.Slow,.int .i64 k.Fast,.int .i64 k.Places,.int .i64 k.Weight,.int .i64 k.Longest,.list 1 cu] by rw [hcu];rfl]
 obtain ⟨k1,k2,k3,k4,k5,k6⟩:=k
 simp only at hK hK2 hcu hcl hlen ⊢
 conv=>cbv
 split
 ·rename_i hc
  conv=>cbv
  exact hbad (λ h=>by have:=hK h;have:=ltT hA hc;omega)
 rename_i c1;replace c1:=ltF hA c1
 conv=>cbv
 split
 ·rename_i hc
  conv=>cbv
  exact hbad (λ h=>by have:=hK h;have:=ltT hA hc;omega)
 rename_i c2;replace c2:=ltF hA c2
 conv=>cbv
 split
 ·rename_i hc
  conv=>cbv
  exact hbad (λ h=>by have:=hK h;have:=ltT hA hc;omega)
 rename_i c3;replace c3:=ltF hA c3
 conv=>cbv
 split
 ·rename_i hc
  conv=>cbv
  exact hbad (λ h=>by have:=hK h;have:=ltT hA hc;omega)
 rename_i c4;replace c4:=ltF hA c4
 conv=>cbv
 split
 ·rename_i hc
  conv=>cbv
  exact hbad (λ h=>by have:=hK h;have:=ltT hA hc;omega)
 rename_i c5;replace c5:=ltF hA c5
 conv=>cbv
 split
 ·rename_i hc
  conv=>cbv
  exact hbad (λ h=>by have:=hK h;have:=ltT hA hc;omega)
 rename_i c6;replace c6:=ltF hA c6
 conv=>cbv
 split
 ·rename_i hc
  conv=>cbv
  exact hbad (λ h=>by have:=hK h;have:=ltT hA hc;omega)
 rename_i c7;replace c7:=ltF hA c7
 conv=>cbv
 split
 ·rename_i hc
  conv=>cbv
  exact hbad (λ h=>by have:=hK h;have:=ltT hA hc;omega)
 rename_i c8;replace c8:=ltF hA c8
 conv=>cbv
 split
 ·rename_i hc
  conv=>cbv
  exact hbad (λ h=>by have:=hK h;have:=ltT hA hc;omega)
 rename_i c9;replace c9:=ltF hA c9
 conv=>cbv
 split
 ·rename_i hc
  conv=>cbv
  exact hbad (λ h=>by have:=hK h;have:=ltT hA hc;omega)
 rename_i c10;replace c10:=ltF hA c10
 conv=>cbv
 refine ⟨by subst hA;show (10:Int)≠0;omega,?_⟩
 split
 ·rename_i hc
  conv=>cbv
  exact hbad (λ h=>by have:=hK h;have:=Zew hA (Zvz hA k5 10) rfl hc;exact this (hK h).2.1)
 rename_i c11;replace c11:=Zka hA (Zvz hA k5 10) rfl c11
 conv=>cbv
 split
 ·rename_i hc
  conv=>cbv
  exact hbad (λ h=>by have:=hK h;have:=ZE hA rfl (Zl hA hcl) hc;omega)
 rename_i c12;replace c12:=ZK hA rfl (Zl hA hcl) c12
 conv=>cbv
 refine Zi hA (λ (i:Int) s=>s.put (some 3) (.val (.int .i64 i))) (λ i=>0<=i/\i<=(k6.length:Int)/\(λ i=>∀x∈k6.take i.toNat,Yt x=true) i) (λ i=>((k6.length:Int) - i).toNat) 0 ?_ ?_ ?_
 ·conv=>cbv
  exact Zk
 ·exact ⟨Zyk _,by omega,by simp⟩
 ·rintro R i ⟨hi0,hi1,hi2⟩ hRi
  conv=>cbv
  split
  ·rename_i hc
   have hi:i<(k6.length:Int):=ZE hA rfl (Zl hA hcl) hc
   have his:A.iAdd i 1=i+1:=Z5 hA _ _
   have hir:A.inR (A.iAdd i 1):=Zy hA his (by unfold Zj;omega)
   have him:((k6.length:Int) - A.iAdd i 1).toNat<((k6.length:Int) - i).toNat:=by rw [his];omega
   have hin:(λ i=>∀x∈k6.take i.toNat,Yt x=true) (i+1)->0<=A.iAdd i 1/\A.iAdd i 1<=(k6.length:Int)/\(λ i=>∀x∈k6.take i.toNat,Yt x=true) (A.iAdd i 1):=λ h=>by rw [his];exact ⟨by omega,by omega,h⟩
   simp only at hin
   conv=>cbv
   refine ZdP hA hcu hi0 hi (λ x v hx0 hv=>?_)
   have hm:=Zyb hx0
   have ht:=Zo hi0 hx0
   have hcall:=ZiE x hv
   conv=>cbv
   cases hb:Yt x with
   | false =>
    rw [hb,if_neg (by simp)] at hcall
    refine Za hA (hcall) ?_
    conv=>cbv
    split
    rotate_left
    ·rename_i hc
     cases ((show False by have:=neF hA hc;omega))
    conv=>cbv
    exact hbad (λ h=>by have:=(hK h).2.2 x hm;rw [hb] at this;cases this)
   | true =>
    rw [hb,if_pos rfl] at hcall
    refine Za hA (hcall) ?_
    conv=>cbv
    split
    ·rename_i hc
     cases (neT hA hc rfl)
    conv=>cbv
    exact ⟨hir,hRi (A.iAdd i 1) _ (by (conv=>cbv);exact Zk) (hin (ZS ht hi2 hb)) him⟩
  ·rename_i hc
   have hi:i=(k6.length:Int):=by have:=ZK hA rfl (Zl hA hcl) hc;omega
   conv=>cbv
   rw [<-hq,if_pos (hK2 ⟨by omega,c11,Q7 hi hi2⟩)]
open Go.Proofs Go.RowKit
def ZdV (n:Int) (l:List Int):Bool:=l.all (λ x=>decide (0<=x)&&decide (x<n))&&decide l.Nodup
def ZeK (ss:List Qy) (v:Int) (s:Int):Bool:=match ss[s.toNat]? with | some x=>decide (v∈x.Volumes) | none=>false
def YQ (ss:List Qy) (c:List Int) (v:Int):Nat:=(c.filter (ZeK ss v)).length
def Zlw (n:Nat) (ss:List Qy) (c:Config):Bool:=ZdV ss.length c.Sectors&&(List.range n).all λ v=>decide (YQ ss c.Sectors (v:Int)=1)
theorem ZqU (x i:Nat):x &&& 2 ^ i=0↔x.testBit i=false:=by
 constructor
 ·intro h
  have:=congrArg (λ y=>Nat.testBit y i) h
  simpa [Z02,Nat.testBit_two_pow_self] using this
 ·intro h
  apply Z0x
  intro j
  rw [Z02,Z0a,ZzT]
  by_cases e:i=j
  ·subst e;simp [h]
  ·simp [e]
theorem ZiF (n:Nat):∀(l:List Int) (x:Nat),ZaU n x l=true↔(∀v∈l,0<=v/\v<n/\x.testBit v.toNat=false)/\l.Nodup
 | [],x=>by simp [ZaU]
 | v::r,x=>by
  simp only [ZaU,Zyi,Zyf,ZqU,ZiF n r,ZyJ,Z01,Z0d,Z0a,ZzV,Zzm]
  constructor
  ·rintro ⟨⟨⟨h1,h2⟩,h3⟩,h4,h5⟩
   refine ⟨?_,?_,h5⟩
   ·rintro w (rfl | hw)
    ·exact ⟨h1,h2,h3⟩
    ·exact ⟨(h4 w hw).1,(h4 w hw).2.1,(h4 w hw).2.2.1⟩
   ·intro hv
    exact (h4 v hv).2.2.2 rfl
  ·rintro ⟨h1,h2,h3⟩
   refine ⟨⟨⟨(h1 v (.inl rfl)).1,(h1 v (.inl rfl)).2.1⟩,(h1 v (.inl rfl)).2.2⟩,λ w hw=>⟨(h1 w (.inr hw)).1,(h1 w (.inr hw)).2.1,(h1 w (.inr hw)).2.2,λ e=>?_⟩,h3⟩
   have a:=(h1 v (.inl rfl)).1
   have b:=(h1 w (.inr hw)).1
   exact h2 (by rw [show v=w by omega];exact hw)
theorem Zns (n:Nat) (l:List Int):ZaU n 0 l=ZdV n l:=by
 rw [ZyA,ZiF]
 simp only [ZdV,Zyi,Zym,Zyf,ZzT,and_true]
theorem Ze4:∀(l:List Int) (x i:Nat),(Zaq x l).testBit i=(x.testBit i || l.any λ v=>decide (v.toNat=i))
 | [],x,i=>by simp [Zaq]
 | v::r,x,i=>by
  have:=Ze4 r (x ||| 2 ^ v.toNat) i
  unfold Zaq at this ⊢
  rw [List.foldl_cons,this,Z0d,Z0a,List.any_cons,Bool.or_assoc]
theorem Zck (n:Nat) (s:Qy):Yb n s=(!decide (s.Volumes.length=0)&&ZdV n s.Volumes):=by
 unfold Yb
 rw [Zns]
 cases hv:s.Volumes with
 | nil=>simp [Zaq]
 | cons v r =>
  have h:Zaq 0 (v::r)≠0:=by
   intro h
   have:=Ze4 (v::r) 0 v.toNat
   rw [h] at this
   simp at this
  simp [h]
def Zhv (l:List Nat) (i:Nat) (s:Int):Bool:=(l.getD s.toNat 0).testBit i
def Znt (l:List Nat) (c:List Int) (i:Nat):Nat:=(c.filter (Zhv l i)).length
theorem Zmf (l:List Nat) (s:Int) (r:List Int) (i:Nat):Znt l (s::r) i=(if Zhv l i s then 1 else 0)+Znt l r i:=by
 unfold Znt
 rw [List.filter_cons]
 split<;>simp;omega
theorem Zkm (l:List Nat):∀(c:List Int) (x:Nat),Zd4 l x c=true↔(∀s∈c,0<=s/\s<l.length)/\∀i,(if x.testBit i then 1 else 0)+Znt l c i<=1
 | [],x=>by
  simp only [Zd4,true_iff]
  exact ⟨by simp,λ i=>by unfold Znt;simp;split<;>omega⟩
 | s::r,x=>by
  simp only [Zd4,Zyi,Zyf,Zkm l r,ZyJ,Z0d,Zmf]
  have hand:(x &&& l.getD s.toNat 0)=0↔∀i,¬(x.testBit i=true/\Zhv l i s=true):=by
   constructor
   ·intro h i hi
    have:=congrArg (λ y=>Nat.testBit y i) h
    simp only [Z02,ZzT,Bool.and_eq_false_iff] at this
    unfold Zhv at hi
    rcases this with h' | h'<;>rw [h'] at hi<;>simp at hi
   ·intro h
    apply Z0x
    intro i
    rw [Z02,ZzT]
    have:=h i
    unfold Zhv at this
    cases hx:x.testBit i<;>cases hy:(l.getD s.toNat 0).testBit i<;>simp_all
  rw [hand]
  constructor
  ·rintro ⟨⟨⟨h1,h2⟩,h3⟩,h4,h5⟩
   refine ⟨?_,λ i=>?_⟩
   ·rintro w (rfl | hw)
    ·exact ⟨h1,h2⟩
    ·exact h4 w hw
   ·have a:=h5 i
    have b:=h3 i
    have e:(l.getD s.toNat 0).testBit i=Zhv l i s:=rfl
    rw [e] at a
    cases hx:x.testBit i<;>cases hy:Zhv l i s<;>rw [hx,hy] at a b<;>simp at a b ⊢<;>omega
  ·rintro ⟨h1,h2⟩
   refine ⟨⟨h1 s (.inl rfl),λ i hi=>?_⟩,λ w hw=>h1 w (.inr hw),λ i=>?_⟩
   ·have:=h2 i
    rw [hi.1,hi.2] at this
    simp at this
    omega
   ·have a:=h2 i
    have e:(l.getD s.toNat 0).testBit i=Zhv l i s:=rfl
    rw [e]
    cases hx:x.testBit i<;>cases hy:Zhv l i s<;>rw [hx,hy] at a<;>simp at a ⊢<;>omega
theorem ZgH (l:List Nat):∀(c:List Int) (x i:Nat),(Zd5 l x c).testBit i=(x.testBit i || decide (0<Znt l c i))
 | [],x,i=>by simp [Zd5,Znt]
 | s::r,x,i=>by
  have:=ZgH l r (x ||| l.getD s.toNat 0) i
  unfold Zd5 at this ⊢
  rw [List.foldl_cons,this,Z0d,Zmf]
  have e:(l.getD s.toNat 0).testBit i=Zhv l i s:=rfl
  rw [e]
  cases x.testBit i<;>cases Zhv l i s<;>simp<;>omega
theorem ZoW {ss:List Qy} {n:Nat} (h:ss.all (Yb n)=true) {s:Int} (i:Nat):Zhv (Qn ss) i s=ZeK ss (i:Int) s:=by
 unfold Zhv ZeK Qn
 rw [Zyj,Zyh]
 cases hs:ss[s.toNat]? with
 | none=>simp
 | some x =>
  have hx:=Zym.1 h x (Zyb hs)
  rw [Zck] at hx
  simp only [ZdV,Zyi,Zym,Zyf] at hx
  simp only [Zy5,Zy0,Ze4,ZzT,ZzY]
  rw [ZyA,Zzy,Zyf]
  constructor
  ·rintro ⟨v,hv,e⟩
   have e:=ZyU e
   have:=(hx.2.1 v hv).1
   rw [show (i:Int)=v by omega];exact hv
  ·intro hv
   exact ⟨_,hv,by simp⟩
theorem ZiG {ss:List Qy} {n:Nat} (h:ss.all (Yb n)=true) (c:Config):Za8 n (Qn ss) c=Zlw n ss c:=by
 have hc:∀i,Znt (Qn ss) c.Sectors i=YQ ss c.Sectors (i:Int):=λ i=>by
  unfold Znt YQ
  rw [show Zhv (Qn ss) i=ZeK ss (i:Int) from funext λ s=>ZoW h i]
 have hbig:∀i,n<=i->YQ ss c.Sectors (i:Int)=0:=λ i hi=>by
  unfold YQ
  rw [List.length_eq_zero_iff,List.filter_eq_nil_iff]
  intro s _ hs
  unfold ZeK at hs
  cases hx:ss[s.toNat]? with
  | none=>rw [hx] at hs;cases hs
  | some x =>
   rw [hx] at hs
   have hs:=ZyU hs
   have hy:=Zym.1 h x (Zyb hx)
   rw [Zck] at hy
   simp only [ZdV,Zyi,Zym,Zyf] at hy
   have:=(hy.2.1 _ hs).2
   omega
 rw [ZyA]
 unfold Za8 Zlw
 simp only [Zyi,Zkm,Zyf,ZzT,Zzf,if_false,ZyK,hc,Zym,ZyP]
 have hl:(Qn ss).length=ss.length:=by simp [Qn]
 rw [hl]
 have hj:Zd5 (Qn ss) 0 c.Sectors=2 ^ n - 1↔∀i:Nat,decide (0<YQ ss c.Sectors (i:Int))=decide (i<n):=by
  constructor
  ·intro e i
   have:=ZgH (Qn ss) c.Sectors 0 i
   rw [e,Z0m,ZzT,ZzY,hc] at this
   exact this.symm
  ·intro e
   apply Z0x
   intro i
   rw [ZgH,Z0m,ZzT,ZzY,hc,e]
 rw [hj]
 constructor
 ·rintro ⟨⟨h1,h2⟩,h3⟩
  refine ⟨?_,λ v hv=>?_⟩
  ·simp only [ZdV,Zyi,Zym,Zyf]
   refine ⟨h1,?_⟩
   rw [List.nodup_iff_count]
   intro s
   by_cases hs:s∈c.Sectors
   ·obtain ⟨a,b⟩:=h1 s hs
    have hx:ss[s.toNat]?=some ss[s.toNat]:=Zya (by omega)
    have hy:=Zym.1 h _ (Zyb hx)
    rw [Zck] at hy
    simp only [ZdV,Zyi,Zzt,Zzm,Zym,Zyf] at hy
    obtain ⟨v,hv⟩:=List.exists_mem_of_length_pos (Nat.pos_of_ne_zero hy.1)
    have hv0:=(hy.2.1 v hv).1
    have h4:=h2 v.toNat
    unfold YQ at h4
    refine Zy1 ?_ h4
    have e:List.count s c.Sectors=List.count s (c.Sectors.filter (ZeK ss (v.toNat:Int))):=by
     rw [List.count_filter]
     unfold ZeK
     rw [hx]
     simp only [Zyf]
     rw [show ((v.toNat:Nat):Int)=v by omega]
     exact hv
    rw [e]
    exact List.count_le_length
   ·rw [List.count_eq_zero.2 hs];omega
  ·have a:=h2 v
   have b:=h3 v
   simp only [hv,decide_true,Zyf] at b
   omega
 ·rintro ⟨h1,h2⟩
  simp only [ZdV,Zyi,Zym,Zyf] at h1
  refine ⟨⟨h1.1,λ i=>?_⟩,λ i=>?_⟩
  ·by_cases hi:i<n
   ·rw [h2 i hi];omega
   ·rw [hbig i (by omega)];omega
  ·by_cases hi:i<n
   ·rw [h2 i hi];simp [hi]
   ·rw [hbig i (by omega)];simp [hi]
open Go.Proofs Go.RowKit
theorem Zih {xs:List PV} (l:List Int) (hx:xs=Zd l) (n:Int):Zc Tryz.prog 286 [.list 1 xs,.int .i64 n] (.bool (decide (n∈l))):=by
 refine Zb (clo:=λ _=>false) (rows:=false) Zg Tryz.func286 rfl (enters_of Tryz.func286 (by kernel_rfl) rfl) (λ A q P Y hr hA hq=>?_)
 have hll:xs.length=l.length:=by rw [hx];simp [Zd]
 have hlen:l.length<=9223372036854775807:=by have:=(hr.mem (p:=.list 1 xs) (by simp)).len;omega
 conv=>cbv
 refine Zi hA (λ (i:Int) s=>s.put (some 5) (.val (.int .i64 i))) (λ i=>0<=i/\i<=(l.length:Int)/\(λ i=>∀x∈l.take i.toNat,x≠n) i) (λ i=>((l.length:Int) - i).toNat) 0 ?_ ?_ ?_
 ·conv=>cbv
  exact Zk
 ·exact ⟨Zyk _,by omega,by simp⟩
 ·rintro R i ⟨hi0,hi1,hi2⟩ hRi
  conv=>cbv
  split
  ·rename_i hc
   have hi:i<(l.length:Int):=ZE hA rfl (Zl hA hll) hc
   have his:A.iAdd i 1=i+1:=Z5 hA _ _
   have hir:A.inR (A.iAdd i 1):=Zy hA his (by unfold Zj;omega)
   have him:((l.length:Int) - A.iAdd i 1).toNat<((l.length:Int) - i).toNat:=by rw [his];omega
   have hin:(λ i=>∀x∈l.take i.toNat,x≠n) (i+1)->0<=A.iAdd i 1/\A.iAdd i 1<=(l.length:Int)/\(λ i=>∀x∈l.take i.toNat,x≠n) (A.iAdd i 1):=λ h=>by rw [his];exact ⟨by omega,by omega,h⟩
   simp only at hin
   conv=>cbv
   refine Zw hA hx hi0 hi (λ x hx0=>?_)
   have ht:=Zo hi0 hx0
   conv=>cbv
   split
   ·rename_i hc
    conv=>cbv
    rw [<-hq,show decide (n∈l)=true from Zyq (by rw [<-eqT hA hc];exact Zyb hx0)]
   rename_i c1
   conv=>cbv
   exact ⟨hir,hRi (A.iAdd i 1) _ (by (conv=>cbv);exact Zk) (hin (ZS ht hi2 (eqF hA c1))) him⟩
  ·rename_i hc
   have hi:i=(l.length:Int):=by have:=ZK hA rfl (Zl hA hll) hc;omega
   conv=>cbv
   rw [<-hq,show decide (n∈l)=false from Zyr (λ h=>Q7 hi hi2 n h rfl)]
theorem Zfo (n:Int) (l:List Int):ZdV n l=true↔(∀x∈l,0<=x/\x<n)/\l.Nodup:=by
 simp only [ZdV,Zyi,Zym,Zyf]
theorem Zgj {xs:List PV} (l:List Int) (hx:xs=Zd l) (n:Int):Zc Tryz.prog 259 [.list 1 xs,.int .i64 n] (.bool (ZdV n l)):=by
 refine Zb (clo:=λ _=>false) (rows:=false) Zg Tryz.func259 rfl (enters_of Tryz.func259 (by kernel_rfl) rfl) (λ A q P Y hr hA hq=>?_)
 have hll:xs.length=l.length:=by rw [hx];simp [Zd]
 have hlen:l.length<=9223372036854775807:=by have:=(hr.mem (p:=.list 1 xs) (by simp)).len;omega
 have hbad:¬ZdV n l=true->PV.bool false=q:=λ h=>by rw [<-hq,Zzh.2 h]
 conv=>cbv
 refine Zi hA (λ (i:Int) s=>s.put (some 5) (.val (.int .i64 i))) (λ i=>0<=i/\i<=(l.length:Int)/\(λ i=>(∀x∈l.take i.toNat,0<=x/\x<n)/\(l.take i.toNat).Nodup) i) (λ i=>((l.length:Int) - i).toNat) 0 ?_ ?_ ?_
 ·conv=>cbv
  exact Zk
 ·exact ⟨Zyk _,by omega,by simp⟩
 ·rintro R i ⟨hi0,hi1,hi2⟩ hRi
  conv=>cbv
  split
  ·rename_i hc
   have hi:i<(l.length:Int):=ZE hA rfl (Zl hA hll) hc
   have his:A.iAdd i 1=i+1:=Z5 hA _ _
   have hir:A.inR (A.iAdd i 1):=Zy hA his (by unfold Zj;omega)
   have him:((l.length:Int) - A.iAdd i 1).toNat<((l.length:Int) - i).toNat:=by rw [his];omega
   have hin:(λ i=>(∀x∈l.take i.toNat,0<=x/\x<n)/\(l.take i.toNat).Nodup) (i+1)->0<=A.iAdd i 1/\A.iAdd i 1<=(l.length:Int)/\(λ i=>(∀x∈l.take i.toNat,0<=x/\x<n)/\(l.take i.toNat).Nodup) (A.iAdd i 1):=λ h=>by rw [his];exact ⟨by omega,by omega,h⟩
   simp only at hin
   conv=>cbv
   refine ⟨Zm hA (by kernel_rfl),?_⟩
   refine Zw hA hx hi0 hi (λ x hx0=>?_)
   have ht:=Zo hi0 hx0
   have hm:=Zyb hx0
   have hsub:A.lSub xs 0 i=Zd (l.take i.toNat):=by subst hA;show (xs.take i.toNat).drop (0:Int).toNat=_;rw [hx];simp [Zd,List.map_take]
   have hhas:=Zih (xs:=A.lSub xs 0 i) (l.take i.toNat) hsub x
   conv=>cbv
   split
   ·rename_i hc
    conv=>cbv
    exact hbad (λ h=>by have:=((Zfo n l).1 h).1 x hm;have:=ltT hA hc;omega)
   rename_i c1
   conv=>cbv
   refine Zw hA hx hi0 hi (λ z hz=>?_)
   obtain rfl:=Zyc ((hx0).symm.trans hz)
   conv=>cbv
   split
   ·rename_i hc
    conv=>cbv
    exact hbad (λ h=>by have:=((Zfo n l).1 h).1 x hm;have:=leT hA hc;omega)
   rename_i c2
   conv=>cbv
   refine ⟨by subst hA;show (0:Int)<=0/\0<=i/\i<=(xs.length:Int);omega,?_⟩
   refine Zw hA hx hi0 hi (λ z hz=>?_)
   obtain rfl:=Zyc ((hx0).symm.trans hz)
   conv=>cbv
   refine Qk hA hhas rfl (λ b hb=>?_)
   conv=>cbv
   cases b with
   | true =>
    conv=>cbv
    exact hbad (λ h=>by
     have hn:=((Zfo n l).1 h).2
     have e:l=l.take (i+1).toNat++l.drop (i+1).toNat:=(ZyI _ _).symm
     rw [e,ht,Zy9,ZzA] at hn
     exact hn.2.2 x (ZyU hb.symm) x (by simp) rfl)
   | false =>
    conv=>cbv
    exact ⟨hir,hRi (A.iAdd i 1) _ (by (conv=>cbv);exact Zk) (hin (by rw [ht];refine ⟨ZS rfl hi2.1 ⟨ltF hA c1,leF hA c2⟩,?_⟩;rw [ZzA];refine ⟨hi2.2,by simp,?_⟩;intro a ha b hb' e;rw [Zy3] at hb';subst hb' e;exact of_decide_eq_false hb.symm ha)) him⟩
  ·rename_i hc
   have hi:i=(l.length:Int):=by have:=ZK hA rfl (Zl hA hll) hc;omega
   conv=>cbv
   rw [<-hq,(Zfo n l).2]
   rw [Zyl (by omega)] at hi2
   exact hi2
theorem ZoX (S:List Qy) (a:List Int) (x v:Int):YQ S (a++[x]) v=YQ S a v+if ZeK S v x then 1 else 0:=by
 unfold YQ
 rw [ZzH,Zyg,List.filter_cons,List.filter_nil]
 split<;>simp_all
theorem ZsG (S:List Qy) (a:List Int) (v:Int):YQ S a v<=a.length:=ZyH _ _
theorem Ze5 (c:Config) {ns xs:List PV} (h1:ns=ZbW c.Names) (h2:xs=Zd c.Sectors):Zao c=.agg [.str c.Name,.list 1 ns,.list 1 xs]:=by rw [h1,h2];rfl
set_option maxHeartbeats 1000000 in
theorem Zlx {vs ss cs:List PV} (mv n:Nat) (hv:vs.length=n) (S:List Qy) (hS:ss=ZI S) (c:Config) (hsl:S.length<=64) (hn:n<=64) :
  Zc Tryz.prog 260 [ZgD mv vs ss cs,Zao c] (.bool (Zlw n S c)):=by
 refine Zb (clo:=λ _=>false) (rows:=false) Zg Tryz.func260 rfl (enters_of Tryz.func260 (by kernel_rfl) rfl) (λ A q P Y hr hA hq=>?_)
 obtain ⟨ns,hns⟩:∃ns,ns=ZbW c.Names:=⟨_,rfl⟩
 obtain ⟨xs,hxs⟩:∃xs,xs=Zd c.Sectors:=⟨_,rfl⟩
 have hxl:xs.length=c.Sectors.length:=by rw [hxs];simp [Zd]
 have hssl:ss.length=S.length:=by rw [hS];simp [ZI]
 have hlen:c.Sectors.length<=9223372036854775807:=by
  have:=(Qz.cell (cs:=[.str c.Name,.list 1 ns,.list 1 xs]) (by rw [<-Ze5 c hns hxs];exact Qz.mem hr (by simp)) (c:=.list 1 xs) (by simp)).len
  omega
 have hcall:=Zgj c.Sectors hxs (A.lLen ss)
 rw [Zl hA hssl] at hcall
 have hD:Zlw n S c=(ZdV S.length c.Sectors&&(List.range n).all λ v=>decide (YQ S c.Sectors (v:Int)=1)):=rfl
 have hbad:∀v:Nat,v<n->YQ S c.Sectors (v:Int)≠1->PV.bool false=q:=λ v hv h=>by
  rw [<-hq,hD,show ((List.range n).all λ v=>decide (YQ S c.Sectors (v:Int)=1))=false by rw [Z0t];exact ⟨v,ZyP.2 hv,by simp [h]⟩];simp
 rw [Ze5 c hns hxs]
 obtain ⟨c1,c2,C⟩:=c
 simp only at hns hxs hxl hlen hcall hD hbad ⊢
 conv=>cbv
 refine Qk hA hcall (by subst hA;show [_,PV.int _ ((ss.length:Nat):Int)]=_;rw [hssl]) (λ b hb=>?_)
 rw [<-hb] at hD
 have hix:=(Zfo S.length C).1
 rw [<-hb] at hix
 conv=>cbv
 cases b with
 | false =>
  split
  rotate_left
  ·rename_i hc
   cases (nF hA hc)
  conv=>cbv
  rw [<-hq,hD];rfl
 | true =>
 split
 ·rename_i hc
  cases (nT hA hc)
 conv=>cbv
 obtain ⟨hix,_⟩:=hix rfl
 refine Zi hA (λ (i:Int) s=>s.put (some 5) (.val (.int .i64 i))) (λ i=>0<=i/\i<=(n:Int)/\(λ i=>∀v:Nat,v<i.toNat->YQ S C (v:Int)=1) i) (λ i=>((n:Int) - i).toNat) 0 ?_ ?_ ?_
 ·conv=>cbv
  exact Zk
 ·exact ⟨Zyk _,by omega,(by intro v hv;simp at hv)⟩
 ·rintro R i ⟨hi0,hi1,hi2⟩ hRi
  conv=>cbv
  split
  ·rename_i hc
   have hi:i<(n:Int):=ZE hA rfl (Zl hA hv) hc
   have his:A.iAdd i 1=i+1:=Z5 hA _ _
   have hir:A.inR (A.iAdd i 1):=Zy hA his (by unfold Zj;omega)
   have him:((n:Int) - A.iAdd i 1).toNat<((n:Int) - i).toNat:=by rw [his];omega
   have hin:(λ i=>∀v:Nat,v<i.toNat->YQ S C (v:Int)=1) (i+1)->0<=A.iAdd i 1/\A.iAdd i 1<=(n:Int)/\(λ i=>∀v:Nat,v<i.toNat->YQ S C (v:Int)=1) (A.iAdd i 1):=λ h=>by rw [his];exact ⟨by omega,by omega,h⟩
   simp only at hin
   conv=>cbv
   refine Zi hA (λ (z:Int × Int) s=>(s.put (some 7) (.val (.int .i64 z.1))).put (some 6) (.val (.int .i64 z.2))) (λ z=>0<=z.1/\z.1<=C.length/\z.2=YQ S (C.take z.1.toNat) i) (λ z=>(C.length - z.1).toNat) (0,0) ?_ ?_ ?_
   ·conv=>cbv
    exact Zk
   ·exact ⟨Zyk _,by omega,by simp [YQ]⟩
   rintro R2 ⟨k,m⟩ ⟨hk0,hk1,hk2⟩ hR2
   simp only at hk0 hk1 hk2
   conv=>cbv
   split
   ·rename_i hc
    have hk:k<C.length:=ZE hA rfl (Zl hA hxl) hc
    have hks:A.iAdd k 1=k+1:=Z5 hA _ _
    have hkr:A.inR (A.iAdd k 1):=Zy hA hks (by unfold Zj;omega)
    have hkm:(C.length - A.iAdd k 1).toNat<(C.length - k).toNat:=by rw [hks];omega
    conv=>cbv
    refine ⟨Zm hA (by kernel_rfl),?_⟩
    refine Zw hA hxs hk0 hk (λ s hs0=>?_)
    have ht:=Zo hk0 hs0
    have hsr:=hix s (Zyb hs0)
    have hcs:=ZoX S (C.take k.toNat) s i
    have hcl:=ZsG S (C.take k.toNat) i
    have htl:((C.take k.toNat).length:Int)<=k:=by rw [ZyE];omega
    conv=>cbv
    refine Zad hA hS hsr.1 hsr.2 (λ x u1 u2 hx0 hu1 hu2=>?_)
    conv=>cbv
    refine Qk hA (Zih x.Volumes hu2 i) rfl (λ b hb=>?_)
    have hin:ZeK S i s=b:=by unfold ZeK;rw [hx0,hb]
    rw [hin] at hcs
    conv=>cbv
    cases b with
    | true =>
     have hms:A.iAdd m 1=m+1:=Z5 hA _ _
     conv=>cbv
     refine ⟨Zy hA hms (by unfold Zj;omega),hkr,hR2 (A.iAdd k 1,A.iAdd m 1) _ ?_ ?_ hkm⟩
     ·conv=>cbv
      exact Zk
     ·show 0<=A.iAdd k 1/\A.iAdd k 1<=C.length/\A.iAdd m 1=_
      rw [hks,hms,ht,hcs];simp;omega
    | false =>
     conv=>cbv
     refine ⟨hkr,hR2 (A.iAdd k 1,m) _ ?_ ?_ hkm⟩
     ·conv=>cbv
      exact Zk
     ·show 0<=A.iAdd k 1/\A.iAdd k 1<=C.length/\m=_
      rw [hks,ht,hcs];simp;omega
   ·rename_i hc
    have hk:C.length<=k:=ZK hA rfl (Zl hA hxl) hc
    rw [Zyl (by omega)] at hk2
    conv=>cbv
    have hiN:((i.toNat:Nat):Int)=i:=by omega
    split
    ·rename_i hc2
     have:=neT hA hc2
     conv=>cbv
     exact hbad i.toNat (by omega) (λ e=>this (by rw [hk2,<-hiN,e];rfl))
    ·rename_i hc2
     have h1:=neF hA hc2
     conv=>cbv
     exact ⟨hir,hRi (A.iAdd i 1) _ (by (conv=>cbv);exact Zk) (hin (by intro v hv';by_cases e:v<i.toNat;exact hi2 v e;rw [show (v:Int)=i by omega];omega)) him⟩
  ·rename_i hc
   have hi:i=(n:Int):=by have:=ZK hA rfl (Zl hA hv) hc;omega
   conv=>cbv
   rw [<-hq,hD,show ((List.range n).all λ v=>decide (YQ S C (v:Int)=1))=true by rw [Zym];intro v hv';rw [ZyP] at hv';exact Zyq (hi2 v (by omega))]
   rfl
open Go.Proofs Go.RowKit
theorem ZfN (n:Nat) (S:List Qy) (C:List Config):Zar n S C=true↔1<=n/\n<=64/\S.length<=64/\1<=C.length/\C.length<=32/\(∀s∈S,s.Volumes.length≠0/\ZdV n s.Volumes=true)/\∀c∈C,Zlw n S c=true:=by
 unfold Zar
 simp only [Zyi,Zyf,and_assoc]
 constructor
 ·rintro ⟨h1,h2,h3,h4,h5,h6,h7⟩
  refine ⟨h1,h2,h3,h4,h5,λ s hs=>?_,λ c hc=>?_⟩
  ·have:=Zym.1 h6 s hs
   rw [Zck] at this
   simpa using this
  ·rw [<-ZiG h6];exact Zym.1 h7 c hc
 ·rintro ⟨h1,h2,h3,h4,h5,h6,h7⟩
  have h6':S.all (Yb n)=true:=by
   rw [Zym]
   intro s hs
   rw [Zck]
   have:=h6 s hs
   simp [this]
  refine ⟨h1,h2,h3,h4,h5,h6',?_⟩
  rw [Zym]
  intro c hc
  rw [ZiG h6'];exact h7 c hc
set_option maxHeartbeats 1000000 in
theorem ZoY {vs ss cs:List PV} (mv n:Nat) (hv:vs.length=n) (S:List Qy) (hS:ss=ZI S) (C:List Config) (hC:cs=Qh C) :
  Zc Tryz.prog 201 [ZgD mv vs ss cs] (.int .i64 (if Zar n S C then 0 else 100)):=by
 refine Zb (clo:=λ _=>false) (rows:=false) Zg Tryz.func201 rfl (enters_of Tryz.func201 (by kernel_rfl) rfl) (λ A q P Y hr hA hq=>?_)
 have hssl:ss.length=S.length:=by rw [hS];simp [ZI]
 have hcsl:cs.length=C.length:=by rw [hC];simp [Qh]
 have hK:=(ZfN n S C).1
 have hK2:=(ZfN n S C).2
 have hbad:¬Zar n S C=true->PV.int .i64 100=q:=λ h=>by rw [<-hq,if_neg h]
 generalize Zar n S C=kb at hbad hK hK2 hq
 have hlv:A.lLen vs=n:=Zl hA hv
 conv=>cbv
 split
 ·rename_i hc
  conv=>cbv
  exact hbad (λ h=>by have:=hK h;have:=ZE hA (Zl hA hv) rfl hc;omega)
 rename_i c1;replace c1:=ZK hA (Zl hA hv) rfl c1
 conv=>cbv
 split
 ·rename_i hc
  conv=>cbv
  exact hbad (λ h=>by have:=hK h;have:=ZE hA rfl (Zl hA hv) hc;omega)
 rename_i c2;replace c2:=ZK hA rfl (Zl hA hv) c2
 conv=>cbv
 split
 ·rename_i hc
  conv=>cbv
  exact hbad (λ h=>by have:=hK h;have:=ZE hA rfl (Zl hA hssl) hc;omega)
 rename_i c3;replace c3:=ZK hA rfl (Zl hA hssl) c3
 conv=>cbv
 split
 ·rename_i hc
  conv=>cbv
  exact hbad (λ h=>by have:=hK h;have:=ZE hA (Zl hA hcsl) rfl hc;omega)
 rename_i c4;replace c4:=ZK hA (Zl hA hcsl) rfl c4
 conv=>cbv
 split
 ·rename_i hc
  conv=>cbv
  exact hbad (λ h=>by have:=hK h;have:=ZE hA rfl (Zl hA hcsl) hc;omega)
 rename_i c5;replace c5:=ZK hA rfl (Zl hA hcsl) c5
 conv=>cbv
 refine Zi hA (λ (i:Int) s=>s.put (some 3) (.val (.int .i64 i))) (λ i=>0<=i/\i<=(S.length:Int)/\(λ i=>∀s∈S.take i.toNat,s.Volumes.length≠0/\ZdV n s.Volumes=true) i) (λ i=>((S.length:Int) - i).toNat) 0 ?_ ?_ ?_
 ·conv=>cbv
  exact Zk
 ·exact ⟨Zyk _,by omega,by simp⟩
 ·rintro R i ⟨hi0,hi1,hi2⟩ hRi
  conv=>cbv
  split
  ·rename_i hc
   have hi:i<(S.length:Int):=ZE hA rfl (Zl hA hssl) hc
   have his:A.iAdd i 1=i+1:=Z5 hA _ _
   have hir:A.inR (A.iAdd i 1):=Zy hA his (by unfold Zj;omega)
   have him:((S.length:Int) - A.iAdd i 1).toNat<((S.length:Int) - i).toNat:=by rw [his];omega
   have hin:(λ i=>∀s∈S.take i.toNat,s.Volumes.length≠0/\ZdV n s.Volumes=true) (i+1)->0<=A.iAdd i 1/\A.iAdd i 1<=(S.length:Int)/\(λ i=>∀s∈S.take i.toNat,s.Volumes.length≠0/\ZdV n s.Volumes=true) (A.iAdd i 1):=λ h=>by rw [his];exact ⟨by omega,by omega,h⟩
   simp only at hin
   conv=>cbv
   refine ⟨Zm hA (by kernel_rfl),?_⟩
   refine Zad hA hS hi0 hi (λ x u1 u2 hx0 hu1 hu2=>?_)
   have hm:=Zyb hx0
   have ht:=Zo hi0 hx0
   have hul:u2.length=x.Volumes.length:=by rw [hu2];simp [Zd]
   obtain ⟨x1,x2,x3,x4,x5⟩:=x
   simp only at hu1 hu2 hul
   conv=>cbv
   split
   ·rename_i hc
    conv=>cbv
    exact hbad (λ h=>by have h1:=((hK h).2.2.2.2.2.1 _ hm).1;have:=ZdS hA (Zl hA hul) rfl hc;simp only at h1;omega)
   rename_i d1;replace d1:=ZeN hA (Zl hA hul) rfl d1
   conv=>cbv
   refine Zad hA hS hi0 hi (λ z w1 w2 hz hw1 hw2=>?_)
   obtain rfl:=Zyc ((hx0).symm.trans hz)
   conv=>cbv
   refine Qk hA (Zgj x3 (xs:=w2) hw2 (A.lLen vs)) rfl (λ b hb=>?_)
   rw [hlv] at hb
   conv=>cbv
   cases b with
   | false =>
    split
    rotate_left
    ·rename_i hc
     cases (nF hA hc)
    conv=>cbv
    exact hbad (λ h=>by have h1:=((hK h).2.2.2.2.2.1 _ hm).2;simp only at h1;rw [h1] at hb;cases hb)
   | true =>
    split
    ·rename_i hc
     cases (nT hA hc)
    conv=>cbv
    exact ⟨hir,hRi (A.iAdd i 1) _ (by (conv=>cbv);exact Zk) (hin (ZS ht hi2 ⟨by simp only;omega,hb.symm⟩)) him⟩
  ·rename_i hc
   have hi:i=(S.length:Int):=by have:=ZK hA rfl (Zl hA hssl) hc;omega
   conv=>cbv
   have hS2:=Q7 hi hi2
   refine Zi hA (λ (i:Int) s=>s.put (some 4) (.val (.int .i64 i))) (λ i=>0<=i/\i<=(C.length:Int)/\(λ i=>∀s∈C.take i.toNat,Zlw n S s=true) i) (λ i=>((C.length:Int) - i).toNat) 0 ?_ ?_ ?_
   ·conv=>cbv
    exact Zk
   ·exact ⟨Zyk _,by omega,by simp⟩
   ·rintro R j ⟨hj0,hj1,hj2⟩ hRj
    conv=>cbv
    split
    ·rename_i hc
     have hj:j<(C.length:Int):=ZE hA rfl (Zl hA hcsl) hc
     have hjs:A.iAdd j 1=j+1:=Z5 hA _ _
     have hjr:A.inR (A.iAdd j 1):=Zy hA hjs (by unfold Zj;omega)
     have hjm:((C.length:Int) - A.iAdd j 1).toNat<((C.length:Int) - j).toNat:=by rw [hjs];omega
     have hjn:(λ i=>∀s∈C.take i.toNat,Zlw n S s=true) (j+1)->0<=A.iAdd j 1/\A.iAdd j 1<=(C.length:Int)/\(λ i=>∀s∈C.take i.toNat,Zlw n S s=true) (A.iAdd j 1):=λ h=>by rw [hjs];exact ⟨by omega,by omega,h⟩
     simp only at hjn
     conv=>cbv
     refine ⟨Zm hA (by kernel_rfl),?_⟩
     refine Zet hA hC hj0 hj (λ x u1 u2 hx0 hu1 hu2=>?_)
     have hm:=Zyb hx0
     have ht:=Zo hj0 hx0
     have hcall:=Zlx (cs:=cs) mv n hv S hS x (by omega) (by omega)
     rw [Ze5 x hu1 hu2] at hcall
     conv=>cbv
     refine Qk hA hcall rfl (λ b hb=>?_)
     conv=>cbv
     cases b with
     | false =>
      split
      rotate_left
      ·rename_i hc
       cases (nF hA hc)
      conv=>cbv
      exact hbad (λ h=>by have h1:=(hK h).2.2.2.2.2.2 _ hm;rw [h1] at hb;cases hb)
     | true =>
      split
      ·rename_i hc
       cases (nT hA hc)
      conv=>cbv
      exact ⟨hjr,hRj (A.iAdd j 1) _ (by (conv=>cbv);exact Zk) (hjn (ZS ht hj2 hb.symm)) hjm⟩
    ·rename_i hc
     have hj:j=(C.length:Int):=by have:=ZK hA rfl (Zl hA hcsl) hc;omega
     conv=>cbv
     rw [<-hq,if_pos (hK2 ⟨by omega,by omega,by omega,by omega,by omega,hS2,Q7 hj hj2⟩)]
theorem ZaO (n lo hi:Int):Zc Tryz.prog 202 [.int .i64 n,.int .i64 lo,.int .i64 hi] (.bool (inB n lo hi)):=by
 refine Zb (clo:=λ _=>false) (rows:=false) Zg Tryz.func202 rfl (enters_of Tryz.func202 (by kernel_rfl) rfl) (λ A q P Y hr hA hq=>?_)
 conv=>cbv
 split<;>(rename_i h;conv=>cbv)<;>(subst hA;subst hq;simp_all [Ze,inB];try omega)
theorem Znu {xs:List PV} (l:List Int) (hx:xs=Zd l):Zc Tryz.prog 203 [.list 1 xs] (.bool (Zd6 l)):=by
 refine Zb (clo:=λ _=>false) (rows:=false) Zg Tryz.func203 rfl (enters_of Tryz.func203 (by kernel_rfl) rfl) (λ A q P Y hr hA hq=>?_)
 have hll:xs.length=l.length:=by rw [hx];simp [Zd]
 have hlen:l.length<=9223372036854775807:=by have:=(hr.mem (p:=.list 1 xs) (by simp)).len;omega
 have hM:Zd6 l=(inB l.length 1 16&&l.all λ n=>inB n 0 64):=rfl
 conv=>cbv
 refine Zi hA (λ (i:Int) s=>s.put (some 3) (.val (.int .i64 i))) (λ i=>0<=i/\i<=(l.length:Int)/\(λ i=>∀x∈l.take i.toNat,inB x 0 64=true) i) (λ i=>((l.length:Int) - i).toNat) 0 ?_ ?_ ?_
 ·conv=>cbv
  exact Zk
 ·exact ⟨Zyk _,by omega,by simp⟩
 ·rintro R i ⟨hi0,hi1,hi2⟩ hRi
  conv=>cbv
  split
  ·rename_i hc
   have hi:i<(l.length:Int):=ZE hA rfl (Zl hA hll) hc
   have his:A.iAdd i 1=i+1:=Z5 hA _ _
   have hir:A.inR (A.iAdd i 1):=Zy hA his (by unfold Zj;omega)
   have him:((l.length:Int) - A.iAdd i 1).toNat<((l.length:Int) - i).toNat:=by rw [his];omega
   have hin:(λ i=>∀x∈l.take i.toNat,inB x 0 64=true) (i+1)->0<=A.iAdd i 1/\A.iAdd i 1<=(l.length:Int)/\(λ i=>∀x∈l.take i.toNat,inB x 0 64=true) (A.iAdd i 1):=λ h=>by rw [his];exact ⟨by omega,by omega,h⟩
   simp only at hin
   conv=>cbv
   refine Zw hA hx hi0 hi (λ x hx0=>?_)
   have ht:=Zo hi0 hx0
   conv=>cbv
   refine Qk hA (ZaO x 0 64) rfl (λ b hb=>?_)
   conv=>cbv
   cases b with
   | false =>
    split
    rotate_left
    ·rename_i hc
     cases (nF hA hc)
    conv=>cbv
    rw [<-hq,hM,show (l.all λ n=>inB n 0 64)=false by rw [Z0t];exact ⟨x,Zyb hx0,by rw [<-hb];simp⟩,Bool.and_false]
   | true =>
    split
    ·rename_i hc
     cases (nT hA hc)
    conv=>cbv
    exact ⟨hir,hRi (A.iAdd i 1) _ (by (conv=>cbv);exact Zk) (hin (ZS ht hi2 hb.symm)) him⟩
  ·rename_i hc
   have hi:i=(l.length:Int):=by have:=ZK hA rfl (Zl hA hll) hc;omega
   conv=>cbv
   refine Qk hA (ZaO (A.lLen xs) 1 16) rfl (λ b hb=>?_)
   rw [Zl hA hll] at hb
   conv=>cbv
   rw [<-hq,hM,Zxh (Q7 hi hi2),Bool.and_true,hb]
theorem Zii (x:Way) {ls:List PV} (h1:ls=Qp x.Legs):Zb8 x=.agg [.int .i64 x.From,.int .i64 x.To,.list 4 ls]:=by rw [h1];rfl
theorem ZqV (x:Y3) {ls:List PV} (h1:ls=Z3 x.Curfews):ZU x=.agg [.int .i64 x.Slow,.int .i64 x.Fast,.int .i64 x.Places,.int .i64 x.Weight,.int .i64 x.Longest,.list 1 ls]:=by rw [h1];rfl
theorem Zmg (nv:Int) (x:Leg):ZcE nv x=true↔inB x.Segment 0 127=true/\inB x.Volume 0 (nv - 1)=true/\inB x.Length 1 4096=true/\x.Minutes.length≠0/\Yt x.Minutes=true:=by
 unfold ZcE
 simp only [Zyi,Zyf,and_assoc,Nat.pos_iff_ne_zero]
theorem Zmh (nv nm:Int) (w:Way):Zcj nv nm w=true↔inB w.From 0 (nm - 1)=true/\inB w.To 0 (nm - 1)=true/\inB w.Legs.length 1 8=true/\∀x∈w.Legs,ZcE nv x=true:=by
 unfold Zcj
 simp only [Zyi,and_assoc,Zym]
set_option maxHeartbeats 2000000 in
theorem ZoZ (nv:Int) (hnv:Zj (nv - 1)) (ss cs ws ms ks:List PV) (hms:ms.length<=1000) (w:Way) :
  Zc Tryz.prog 204 [.agg [.int .i64 nv,.list 5 ss,.list 3 cs,.list 3 ws,.list 1 ms,.list 6 ks],Zb8 w] (.bool (Zcj nv ms.length w)):=by
 refine Zb (clo:=λ _=>false) (rows:=false) Zg Tryz.func204 rfl (enters_of Tryz.func204 (by kernel_rfl) rfl) (λ A q P Y hr hA hq=>?_)
 obtain ⟨ls,hls⟩:∃ls,ls=Qp w.Legs:=⟨_,rfl⟩
 have hll:ls.length=w.Legs.length:=by rw [hls];simp [Qp]
 have hlen:w.Legs.length<=9223372036854775807:=by
  have:=(Qz.cell (cs:=[.int .i64 w.From,.int .i64 w.To,.list 4 ls]) (by rw [<-Zii w hls];exact Qz.mem hr (by simp)) (c:=.list 4 ls) (by simp)).len
  omega
 have hK:=(Zmh nv ms.length w).1
 have hK2:=(Zmh nv ms.length w).2
 have hbad:¬Zcj nv ms.length w=true->PV.bool false=q:=λ h=>by rw [<-hq,Zzh.2 h]
 generalize Zcj nv ms.length w=kb at hbad hK hK2 hq
 have hsm:A.iSub (A.lLen ms) 1=(ms.length:Int) - 1:=by rw [ZbJ hA,Zl hA rfl]
 have hsr:A.inR (A.iSub (A.lLen ms) 1):=Zy hA hsm (by unfold Zj;omega)
 have hsv:A.iSub nv 1=nv - 1:=ZbJ hA _ _
 rw [Zii w hls]
 obtain ⟨w1,w2,L⟩:=w
 simp only at hls hll hlen hK hK2 ⊢
 conv=>cbv
 refine ⟨hsr,?_⟩
 refine Qk hA (ZaO w1 0 (A.iSub (A.lLen ms) 1)) rfl (λ b hb=>?_)
 rw [hsm] at hb
 conv=>cbv
 cases b with
 | false =>
  split
  rotate_left
  ·rename_i hc
   cases (nF hA hc)
  conv=>cbv
  exact hbad (λ h=>by have:=(hK h).1;rw [this] at hb;cases hb)
 | true =>
 split
 ·rename_i hc
  cases (nT hA hc)
 conv=>cbv
 refine ⟨hsr,?_⟩
 refine Qk hA (ZaO w2 0 (A.iSub (A.lLen ms) 1)) rfl (λ b hb2=>?_)
 rw [hsm] at hb2
 conv=>cbv
 cases b with
 | false =>
  split
  rotate_left
  ·rename_i hc
   cases (nF hA hc)
  conv=>cbv
  exact hbad (λ h=>by have:=(hK h).2.1;rw [this] at hb2;cases hb2)
 | true =>
 split
 ·rename_i hc
  cases (nT hA hc)
 conv=>cbv
 refine Qk hA (ZaO (A.lLen ls) 1 8) rfl (λ b hb3=>?_)
 rw [Zl hA hll] at hb3
 conv=>cbv
 cases b with
 | false =>
  split
  rotate_left
  ·rename_i hc
   cases (nF hA hc)
  conv=>cbv
  exact hbad (λ h=>by have:=(hK h).2.2.1;rw [this] at hb3;cases hb3)
 | true =>
 split
 ·rename_i hc
  cases (nT hA hc)
 conv=>cbv
 refine Zi hA (λ (i:Int) s=>s.put (some 5) (.val (.int .i64 i))) (λ i=>0<=i/\i<=(L.length:Int)/\(λ i=>∀x∈L.take i.toNat,ZcE nv x=true) i) (λ i=>((L.length:Int) - i).toNat) 0 ?_ ?_ ?_
 ·conv=>cbv
  exact Zk
 ·exact ⟨Zyk _,by omega,by simp⟩
 ·rintro R i ⟨hi0,hi1,hi2⟩ hRi
  conv=>cbv
  split
  ·rename_i hc
   have hi:i<(L.length:Int):=ZE hA rfl (Zl hA hll) hc
   have his:A.iAdd i 1=i+1:=Z5 hA _ _
   have hir:A.inR (A.iAdd i 1):=Zy hA his (by unfold Zj;omega)
   have him:((L.length:Int) - A.iAdd i 1).toNat<((L.length:Int) - i).toNat:=by rw [his];omega
   have hin:(λ i=>∀x∈L.take i.toNat,ZcE nv x=true) (i+1)->0<=A.iAdd i 1/\A.iAdd i 1<=(L.length:Int)/\(λ i=>∀x∈L.take i.toNat,ZcE nv x=true) (A.iAdd i 1):=λ h=>by rw [his];exact ⟨by omega,by omega,h⟩
   simp only at hin
   conv=>cbv
   refine Zdl hA hls hi0 hi (λ x v hx0 hv=>?_)
   have ht:=Zo hi0 hx0
   have hm:=Zyb hx0
   have hvl:v.length=x.Minutes.length:=by rw [hv];simp [Z4]
   have hQ:=(Zmg nv x).1
   have hQ2:=(Zmg nv x).2
   have hbad2:¬ZcE nv x=true->PV.bool false=q:=λ h=>hbad (λ h'=>h ((hK h').2.2.2 x hm))
   have hnx:ZcE nv x=true->∀y∈L.take (i+1).toNat,ZcE nv y=true:=λ h=>ZS ht hi2 h
   have hcall:=ZiE x.Minutes hv
   obtain ⟨x1,x2,x3,x4⟩:=x
   simp only at hvl hQ hQ2 hcall
   conv=>cbv
   refine Qk hA (ZaO x1 0 127) rfl (λ b e1=>?_)
   conv=>cbv
   cases b with
   | false =>
    split
    rotate_left
    ·rename_i hc
     cases (nF hA hc)
    conv=>cbv
    exact hbad2 (λ h=>by have:=(hQ h).1;rw [this] at e1;cases e1)
   | true =>
   split
   ·rename_i hc
    cases (nT hA hc)
   conv=>cbv
   refine ⟨Zy hA hsv hnv,?_⟩
   refine Qk hA (ZaO x2 0 (A.iSub nv 1)) rfl (λ b e2=>?_)
   rw [hsv] at e2
   conv=>cbv
   cases b with
   | false =>
    split
    rotate_left
    ·rename_i hc
     cases (nF hA hc)
    conv=>cbv
    exact hbad2 (λ h=>by have:=(hQ h).2.1;rw [this] at e2;cases e2)
   | true =>
   split
   ·rename_i hc
    cases (nT hA hc)
   conv=>cbv
   refine Qk hA (ZaO x3 1 4096) rfl (λ b e3=>?_)
   conv=>cbv
   cases b with
   | false =>
    split
    rotate_left
    ·rename_i hc
     cases (nF hA hc)
    conv=>cbv
    exact hbad2 (λ h=>by have:=(hQ h).2.2.1;rw [this] at e3;cases e3)
   | true =>
   split
   ·rename_i hc
    cases (nT hA hc)
   conv=>cbv
   split
   ·rename_i hc
    conv=>cbv
    exact hbad2 (λ h=>by have:=(hQ h).2.2.2.1;have:=ZdS hA (Zl hA hvl) rfl hc;omega)
   rename_i e4;replace e4:=ZeN hA (Zl hA hvl) rfl e4
   conv=>cbv
   cases e5:Yt x4 with
   | false =>
    rw [e5,if_neg (by simp)] at hcall
    refine Za hA (hcall) ?_
    conv=>cbv
    split
    rotate_left
    ·rename_i hc
     cases ((show False by have:=neF hA hc;omega))
    conv=>cbv
    exact hbad2 (λ h=>by have:=(hQ h).2.2.2.2;rw [e5] at this;cases this)
   | true =>
   rw [e5,if_pos rfl] at hcall
   refine Za hA (hcall) ?_
   conv=>cbv
   split
   ·rename_i hc
    cases (neT hA hc rfl)
   conv=>cbv
   exact ⟨hir,hRi (A.iAdd i 1) _ (by (conv=>cbv);exact Zt (bx:=[_,_]) (bx':=[_]) (mp:=[]) (mp':=[]) ) (hin (hnx (hQ2 ⟨e1.symm,e2.symm,e3.symm,by omega,e5⟩))) him⟩
  ·rename_i hc
   have hi:i=(L.length:Int):=by have:=ZK hA rfl (Zl hA hll) hc;omega
   conv=>cbv
   rw [<-hq,hK2 ⟨hb.symm,hb2.symm,hb3.symm,Q7 hi hi2⟩]
open Go.Proofs Go.RowKit
def ZxF:PV:=.agg [.list 0 [],.list 0 [],.list 0 [],.list 0 [],.list 0 [],.list 0 [],.list 0 [],.list 0 []]
theorem Zly (nv:Int) (ss cs ws ms ks:List PV):Zc Tryz.prog 200 [.agg [.int .i64 nv,.list 5 ss,.list 3 cs,.list 3 ws,.list 1 ms,.list 6 ks]]
  (if inB nv 1 64 then .tup [ZgD 2 (List.replicate nv.toNat ZcH) ss cs,.bool true] else .tup [ZxF,.bool false]):=by
 refine Zb (clo:=λ _=>false) (rows:=false) Zg Tryz.func200 rfl (enters_of Tryz.func200 (by kernel_rfl) rfl) (λ A q P Y hr hA hq=>?_)
 conv=>cbv
 refine Qk hA (ZaO nv 1 64) rfl (λ b hb=>?_)
 rw [<-hb] at hq
 conv=>cbv
 cases b with
 | false =>
  split
  rotate_left
  ·rename_i hc
   cases (nF hA hc)
  conv=>cbv
  exact hq
 | true =>
  have hn:1<=nv/\nv<=64:=by simpa [inB] using hb.symm
  split
  ·rename_i hc
   cases (nT hA hc)
  conv=>cbv
  refine ⟨Zm hA (by kernel_rfl),?_⟩
  refine ⟨by subst hA;show (0<=nv/\nv=nv/\nv*_<=_/\nv<=_);omega,?_⟩
  rw [<-hq]
  subst hA
  rfl
theorem Zmi (t:Zh):Qe t=true↔inB t.Volumes 1 64=true/\Zar t.Volumes.toNat t.Sectors t.Configs=true/\t.Modes.length<=16/\t.Ways.length<=64/\t.Kinds.length<=8 /\
  (∀s∈t.Sectors,Zb9 s=true)/\(∀m∈t.Modes,Zd6 m=true)/\(∀w∈t.Ways,Zcj t.Volumes t.Modes.length w=true)/\∀k∈t.Kinds,Y9 k=true/\k.Curfews.length=t.Modes.length:=by
 unfold Qe
 simp only [Zyi,Zyf,Zym,and_assoc]
 constructor
 ·rintro ⟨a,b,c,d,e,f,g,h,i⟩;exact ⟨a,b,d,f,h,c,e,g,i⟩
 ·rintro ⟨a,b,d,f,h,c,e,g,i⟩;exact ⟨a,b,c,d,e,f,g,h,i⟩
set_option maxHeartbeats 4000000 in
theorem Zfp (t:Zh):Zc Tryz.prog 150 [Zn t] (.int .i64 (if Qe t then 0 else 140)):=by
 refine Zb (clo:=λ _=>false) (rows:=false) Zg Tryz.func150 rfl (enters_of Tryz.func150 (by kernel_rfl) rfl) (λ A q P Y hr hA hq=>?_)
 have hlw:t.Ways.length<=9223372036854775807:=by
  have:=(Qz.cell (show Qz [.agg _] from hr) (c:=.list 3 (Q3 t.Ways)) (by simp)).len
  simpa [Q3] using this
 have hlk:t.Kinds.length<=9223372036854775807:=by
  have:=(Qz.cell (show Qz [.agg _] from hr) (c:=.list 6 (ZY t.Kinds)) (by simp)).len
  simpa [ZY] using this
 have hlm:t.Modes.length<=9223372036854775807:=by
  have:=(Qz.cell (show Qz [.agg _] from hr) (c:=.list 1 (Z0 t.Modes)) (by simp)).len
  simpa [Z0] using this
 have hls:t.Sectors.length<=9223372036854775807:=by
  have:=(Qz.cell (show Qz [.agg _] from hr) (c:=.list 5 (ZI t.Sectors)) (by simp)).len
  simpa [ZI] using this
 obtain ⟨ss,cs,ws,ms,ks,nv,hss,hcs,hws,hms,hks,hnv,htab⟩:=Qd t
 rw [htab]
 have lss:ss.length=t.Sectors.length:=by rw [hss];simp [ZI]
 have lcs:cs.length=t.Configs.length:=by rw [hcs];simp [Qh]
 have lws:ws.length=t.Ways.length:=by rw [hws];simp [Q3]
 have lms:ms.length=t.Modes.length:=by rw [hms];simp [Z0]
 have lks:ks.length=t.Kinds.length:=by rw [hks];simp [ZY]
 have hK:=(Zmi t).1
 have hK2:=(Zmi t).2
 have hbad:¬Qe t=true->PV.int .i64 140=q:=λ h=>by rw [<-hq,if_neg h]
 generalize Qe t=kb at hbad hK hK2 hq
 have hdiv:=Zly nv ss cs ws ms ks
 have hchk:=ZoY (vs:=List.replicate nv.toNat ZcH) (ss:=ss) (cs:=cs) 2 nv.toNat (by simp) t.Sectors hss t.Configs hcs
 rw [<-hnv] at hK hK2
 conv=>cbv
 cases hin:inB nv 1 64 with
 | false =>
  rw [hin] at hdiv
  refine Za hA hdiv ?_
  conv=>cbv
  split
  rotate_left
  ·rename_i hc
   cases (nF hA hc)
  conv=>cbv
  exact hbad (λ h=>by have:=(hK h).1;rw [hin] at this;cases this)
 | true =>
 have hn:1<=nv/\nv<=64:=by simpa [inB] using hin
 rw [hin,if_pos rfl] at hdiv
 obtain ⟨vl,hvl⟩:∃vl,vl=List.replicate nv.toNat ZcH:=⟨_,rfl⟩
 rw [<-hvl] at hdiv hchk
 refine Za hA hdiv ?_
 conv=>cbv
 split
 ·rename_i hc
  cases (nT hA hc)
 conv=>cbv
 cases hd:Zar nv.toNat t.Sectors t.Configs with
 | false =>
  rw [hd,if_neg (by simp)] at hchk
  refine Za hA (hchk) ?_
  conv=>cbv
  split
  rotate_left
  ·rename_i hc
   cases ((show False by have:=neF hA hc;omega))
  conv=>cbv
  exact hbad (λ h=>by have:=(hK h).2.1;rw [hd] at this;cases this)
 | true =>
 rw [hd,if_pos rfl] at hchk
 refine Za hA (hchk) ?_
 conv=>cbv
 split
 ·rename_i hc
  cases (neT hA hc rfl)
 conv=>cbv
 split
 ·rename_i hc
  conv=>cbv
  exact hbad (λ h=>by have:=hK h;have:=ZE hA rfl (Zl hA lms) hc;omega)
 rename_i c3;replace c3:=ZK hA rfl (Zl hA lms) c3
 conv=>cbv
 split
 ·rename_i hc
  conv=>cbv
  exact hbad (λ h=>by have:=hK h;have:=ZE hA rfl (Zl hA lws) hc;omega)
 rename_i c4;replace c4:=ZK hA rfl (Zl hA lws) c4
 conv=>cbv
 split
 ·rename_i hc
  conv=>cbv
  exact hbad (λ h=>by have:=hK h;have:=ZE hA rfl (Zl hA lks) hc;omega)
 rename_i c5;replace c5:=ZK hA rfl (Zl hA lks) c5
 conv=>cbv
 refine Zi hA (λ (i:Int) s=>s.put (some 5) (.val (.int .i64 i))) (λ i=>0<=i/\i<=(t.Sectors.length:Int)/\(λ i=>∀s∈t.Sectors.take i.toNat,Zb9 s=true) i) (λ i=>((t.Sectors.length:Int) - i).toNat) 0 ?_ ?_ ?_
 ·conv=>cbv
  exact Zk
 ·exact ⟨Zyk _,by omega,by simp⟩
 rintro R i ⟨hi0,hi1,hi2⟩ hRi
 conv=>cbv
 split
 · rename_i hc
   have hi:i<(t.Sectors.length:Int):=ZE hA rfl (Zl hA lss) hc
   have his:A.iAdd i 1=i+1:=Z5 hA _ _
   have hir:A.inR (A.iAdd i 1):=Zy hA his (by unfold Zj;omega)
   have him:((t.Sectors.length:Int) - A.iAdd i 1).toNat<((t.Sectors.length:Int) - i).toNat:=by rw [his];omega
   have hin:(λ i=>∀s∈t.Sectors.take i.toNat,Zb9 s=true) (i+1)->0<=A.iAdd i 1/\A.iAdd i 1<=(t.Sectors.length:Int)/\(λ i=>∀s∈t.Sectors.take i.toNat,Zb9 s=true) (A.iAdd i 1):=λ h=>by rw [his];exact ⟨by omega,by omega,h⟩
   simp only at hin
   conv=>cbv
   refine ⟨Zm hA (by kernel_rfl),?_⟩
   refine Zad hA hss hi0 hi (λ x u1 u2 hx0 hu1 hu2=>?_)
   have hm:=Zyb hx0
   have ht:=Zo hi0 hx0
   have hS:Zb9 x=(inB x.Radar 0 64&&inB x.Procedural 0 x.Radar):=rfl
   obtain ⟨x1,x2,x3,x4,x5⟩:=x
   simp only at hu1 hu2 hS
   conv=>cbv
   refine Qk hA (ZaO x4 0 64) rfl (λ b e1=>?_)
   conv=>cbv
   cases b with
   | false =>
    split
    rotate_left
    ·rename_i hc
     cases (nF hA hc)
    conv=>cbv
    exact hbad (λ h=>by have:=(hK h).2.2.2.2.2.1 _ hm;rw [hS,<-e1] at this;cases this)
   | true =>
   split
   ·rename_i hc
    cases (nT hA hc)
   conv=>cbv
   refine Zad hA hss hi0 hi (λ z w1 w2 hz hw1 hw2=>?_)
   obtain rfl:=Zyc ((hx0).symm.trans hz)
   conv=>cbv
   refine Zad hA hss hi0 hi (λ z y1 y2 hz hy1 hy2=>?_)
   obtain rfl:=Zyc ((hx0).symm.trans hz)
   conv=>cbv
   refine Qk hA (ZaO x5 0 x4) rfl (λ b e2=>?_)
   conv=>cbv
   cases b with
   | false =>
    split
    rotate_left
    ·rename_i hc
     cases (nF hA hc)
    conv=>cbv
    exact hbad (λ h=>by have:=(hK h).2.2.2.2.2.1 _ hm;rw [hS,<-e1,<-e2] at this;cases this)
   | true =>
   split
   ·rename_i hc
    cases (nT hA hc)
   conv=>cbv
   exact ⟨hir,hRi (A.iAdd i 1) _ (by (conv=>cbv);exact Zk) (hin (ZS ht hi2 (by rw [hS,<-e1,<-e2];rfl))) him⟩
 rename_i hc
 have hi:i=(t.Sectors.length:Int):=by have:=ZK hA rfl (Zl hA lss) hc;omega
 conv=>cbv
 have hS2:=Q7 hi hi2
 refine Zi hA (λ (i:Int) s=>s.put (some 6) (.val (.int .i64 i))) (λ i=>0<=i/\i<=(t.Modes.length:Int)/\(λ i=>∀s∈t.Modes.take i.toNat,Zd6 s=true) i) (λ i=>((t.Modes.length:Int) - i).toNat) 0 ?_ ?_ ?_
 ·conv=>cbv
  exact Zk
 ·exact ⟨Zyk _,by omega,by simp⟩
 rintro R j ⟨hj0,hj1,hj2⟩ hRj
 conv=>cbv
 split
 · rename_i hc
   have hj:j<(t.Modes.length:Int):=ZE hA rfl (Zl hA lms) hc
   have hjs:A.iAdd j 1=j+1:=Z5 hA _ _
   have hjr:A.inR (A.iAdd j 1):=Zy hA hjs (by unfold Zj;omega)
   have hjm:((t.Modes.length:Int) - A.iAdd j 1).toNat<((t.Modes.length:Int) - j).toNat:=by rw [hjs];omega
   have hjn:(λ i=>∀s∈t.Modes.take i.toNat,Zd6 s=true) (j+1)->0<=A.iAdd j 1/\A.iAdd j 1<=(t.Modes.length:Int)/\(λ i=>∀s∈t.Modes.take i.toNat,Zd6 s=true) (A.iAdd j 1):=λ h=>by rw [hjs];exact ⟨by omega,by omega,h⟩
   simp only at hjn
   conv=>cbv
   refine Zbh hA hms hj0 hj (λ x v hx0 hv=>?_)
   have hm:=Zyb hx0
   have ht:=Zo hj0 hx0
   conv=>cbv
   refine Qk hA (Znu x hv) rfl (λ b e1=>?_)
   conv=>cbv
   cases b with
   | false =>
    split
    rotate_left
    ·rename_i hc
     cases (nF hA hc)
    conv=>cbv
    exact hbad (λ h=>by have:=(hK h).2.2.2.2.2.2.1 _ hm;rw [<-e1] at this;cases this)
   | true =>
   split
   ·rename_i hc
    cases (nT hA hc)
   conv=>cbv
   exact ⟨hjr,hRj (A.iAdd j 1) _ (by (conv=>cbv);exact Zk) (hjn (ZS ht hj2 e1.symm)) hjm⟩
 rename_i hc
 have hj:j=(t.Modes.length:Int):=by have:=ZK hA rfl (Zl hA lms) hc;omega
 conv=>cbv
 have hM2:=Q7 hj hj2
 refine Zi hA (λ (i:Int) s=>s.put (some 7) (.val (.int .i64 i))) (λ i=>0<=i/\i<=(t.Ways.length:Int)/\(λ i=>∀s∈t.Ways.take i.toNat,Zcj nv t.Modes.length s=true) i) (λ i=>((t.Ways.length:Int) - i).toNat) 0 ?_ ?_ ?_
 ·conv=>cbv
  exact Zk
 ·exact ⟨Zyk _,by omega,by simp⟩
 rintro R k ⟨hk0,hk1,hk2⟩ hRk
 conv=>cbv
 split
 · rename_i hc
   have hk:k<(t.Ways.length:Int):=ZE hA rfl (Zl hA lws) hc
   have hks:A.iAdd k 1=k+1:=Z5 hA _ _
   have hkr:A.inR (A.iAdd k 1):=Zy hA hks (by unfold Zj;omega)
   have hkm:((t.Ways.length:Int) - A.iAdd k 1).toNat<((t.Ways.length:Int) - k).toNat:=by rw [hks];omega
   have hkn:(λ i=>∀s∈t.Ways.take i.toNat,Zcj nv t.Modes.length s=true) (k+1)->0<=A.iAdd k 1/\A.iAdd k 1<=(t.Ways.length:Int)/\(λ i=>∀s∈t.Ways.take i.toNat,Zcj nv t.Modes.length s=true) (A.iAdd k 1):=λ h=>by rw [hks];exact ⟨by omega,by omega,h⟩
   simp only at hkn
   conv=>cbv
   refine ⟨Zm hA (by kernel_rfl),?_⟩
   refine Ym hA hws hk0 hk (λ x v hx0 hv=>?_)
   have hm:=Zyb hx0
   have ht:=Zo hk0 hx0
   have hcall:=ZoZ nv (by unfold Zj;omega) ss cs ws ms ks (by omega) x
   rw [Zii x hv] at hcall
   conv=>cbv
   refine Qk hA hcall rfl (λ b e1=>?_)
   rw [lms] at e1
   conv=>cbv
   cases b with
   | false =>
    split
    rotate_left
    ·rename_i hc
     cases (nF hA hc)
    conv=>cbv
    exact hbad (λ h=>by have:=(hK h).2.2.2.2.2.2.2.1 _ hm;rw [<-e1] at this;cases this)
   | true =>
   split
   ·rename_i hc
    cases (nT hA hc)
   conv=>cbv
   exact ⟨hkr,hRk (A.iAdd k 1) _ (by (conv=>cbv);exact Zk) (hkn (ZS ht hk2 e1.symm)) hkm⟩
 rename_i hc
 have hk:k=(t.Ways.length:Int):=by have:=ZK hA rfl (Zl hA lws) hc;omega
 conv=>cbv
 have hW2:=Q7 hk hk2
 refine Zi hA (λ (i:Int) s=>s.put (some 8) (.val (.int .i64 i))) (λ i=>0<=i/\i<=(t.Kinds.length:Int)/\(λ i=>∀s∈t.Kinds.take i.toNat,Y9 s=true/\s.Curfews.length=t.Modes.length) i) (λ i=>((t.Kinds.length:Int) - i).toNat) 0 ?_ ?_ ?_
 ·conv=>cbv
  exact Zk
 ·exact ⟨Zyk _,by omega,by simp⟩
 rintro R l ⟨hl0,hl1,hl2⟩ hRl
 conv=>cbv
 split
 · rename_i hc
   have hl:l<(t.Kinds.length:Int):=ZE hA rfl (Zl hA lks) hc
   have hls:A.iAdd l 1=l+1:=Z5 hA _ _
   have hlr:A.inR (A.iAdd l 1):=Zy hA hls (by unfold Zj;omega)
   have hlm:((t.Kinds.length:Int) - A.iAdd l 1).toNat<((t.Kinds.length:Int) - l).toNat:=by rw [hls];omega
   have hln:(λ i=>∀s∈t.Kinds.take i.toNat,Y9 s=true/\s.Curfews.length=t.Modes.length) (l+1)->0<=A.iAdd l 1/\A.iAdd l 1<=(t.Kinds.length:Int)/\(λ i=>∀s∈t.Kinds.take i.toNat,Y9 s=true/\s.Curfews.length=t.Modes.length) (A.iAdd l 1):=λ h=>by rw [hls];exact ⟨by omega,by omega,h⟩
   simp only at hln
   conv=>cbv
   refine ⟨Zm hA (by kernel_rfl),?_⟩
   refine Q6 hA hks hl0 hl (λ x v hx0 hv=>?_)
   have hm:=Zyb hx0
   have ht:=Zo hl0 hx0
   have hcall:=Zfn x
   have hvl:v.length=x.Curfews.length:=by rw [hv];simp [Z3]
   rw [ZqV x hv] at hcall
   conv=>cbv
   cases hk:Y9 x with
   | false =>
    rw [hk,if_neg (by simp)] at hcall
    refine Za hA (hcall) ?_
    conv=>cbv
    split
    rotate_left
    ·rename_i hc
     cases ((show False by have:=neF hA hc;omega))
    conv=>cbv
    exact hbad (λ h=>by have:=((hK h).2.2.2.2.2.2.2.2 _ hm).1;rw [hk] at this;cases this)
   | true =>
   rw [hk,if_pos rfl] at hcall
   refine Za hA (hcall) ?_
   conv=>cbv
   split
   ·rename_i hc
    cases (neT hA hc rfl)
   conv=>cbv
   refine Q6 hA hks hl0 hl (λ z w hz hw=>?_)
   obtain rfl:=Zyc ((hx0).symm.trans hz)
   conv=>cbv
   have hwl:w.length=x.Curfews.length:=by rw [hw];simp [Z3]
   split
   ·rename_i hc
    conv=>cbv
    exact hbad (λ h=>by have:=((hK h).2.2.2.2.2.2.2.2 _ hm).2;have:=Zew hA (Zl hA hwl) (Zl hA lms) hc;omega)
   rename_i d1;replace d1:=Zka hA (Zl hA hwl) (Zl hA lms) d1
   conv=>cbv
   exact ⟨hlr,hRl (A.iAdd l 1) _ (by (conv=>cbv);exact Zk) (hln (ZS ht hl2 ⟨hk,by omega⟩)) hlm⟩
 rename_i hc
 have hl:l=(t.Kinds.length:Int):=by have:=ZK hA rfl (Zl hA lks) hc;omega
 conv=>cbv
 rw [<-hq,if_pos (hK2 ⟨hin,hd,by omega,by omega,by omega,hS2,hM2,hW2,Q7 hl hl2⟩)]
open Go.Proofs Go.RowKit
structure Zau (t:Zh) (f:Flight):Prop where
 id:0<=f.ID/\f.ID<=4095
 air:0<=f.Airline/\f.Airline<=7
 cls:0<=f.Class/\f.Class<t.Kinds.length
 name:ZcI f.Call=true
 len:1<=f.Ways.length/\f.Ways.length<=4
 win:0<=f.Window.From/\f.Window.From<f.Window.To/\f.Window.To<=1440/\f.Window.To - f.Window.From<=16
 rng:∀n∈f.Ways,0<=n/\n<t.Ways.length
 same:∀n∈f.Ways,QW t.Ways (Zfj t f) n=false
 once:f.Ways.Nodup
theorem Zuf (lo hi n:Int):Zcr lo hi n=false↔lo<=n/\n<=hi:=by
 simp [Zcr]
theorem Zpa (t:Zh) (f:Flight):YW t f=true↔Zau t f:=by
 unfold YW
 simp only [Zyi,Zzt,Zz1,Bool.not_eq_true,Zuf,ZzV,Zzm,Zmc]
 constructor
 ·rintro ⟨⟨⟨⟨⟨⟨⟨⟨h1,h2⟩,h3⟩,h4⟩,h5⟩,h6⟩,⟨⟨w1,w2⟩,w3⟩,w4⟩,h7⟩,h8⟩
  exact ⟨h1,h2,by omega,h4,by omega,by omega,λ n hn=>by have:=h6 n hn;omega,h7,h8⟩
 ·intro h
  have:=h.win
  have:=h.cls
  have:=h.len
  exact ⟨⟨⟨⟨⟨⟨⟨⟨h.id,h.air⟩,by omega⟩,h.name⟩,by omega⟩,λ n hn=>by have:=h.rng n hn;omega⟩,by omega⟩,h.same⟩,h.once⟩
set_option maxRecDepth 4000 in
set_option maxHeartbeats 4000000 in
theorem Zpb (t:Zh) (f:Flight):Zc Tryz.prog 257 [Zn t,Zx f] (.bool (YW t f)):=by
 have hiff:=Zpa t f
 have hname:=ZqK f.Call
 obtain ⟨fb,hfb⟩:∃fb,fb=YW t f:=⟨_,rfl⟩
 rw [<-hfb] at hiff ⊢
 clear hfb
 refine Zb (clo:=λ _=>false) (rows:=false) Zg Tryz.func257 rfl (enters_of Tryz.func257 (by kernel_rfl) rfl) (λ A q P Y hr hA hq=>?_)
 have hlW:t.Ways.length<=9223372036854775807:=by
  have h1:=Qz.cell (show Qz [.agg _] from hr.mem (p:=Zn t) (by simp)) (c:=.list 3 (Q3 t.Ways)) (by simp)
  have:=h1.len;simpa [Q3] using this
 have hlK:t.Kinds.length<=9223372036854775807:=by
  have h1:=Qz.cell (show Qz [.agg _] from hr.mem (p:=Zn t) (by simp)) (c:=.list 6 (ZY t.Kinds)) (by simp)
  have:=h1.len;simpa [ZY] using this
 have bad:¬Zau t f->PV.bool false=q:=λ h=>by
  rw [<-hq]
  cases fb with
  | false=>rfl
  | true=>exact absurd (hiff.1 rfl) h
 have good:Zau t f->PV.bool true=q:=λ h=>by rw [<-hq,hiff.2 h]
 clear hq hiff
 obtain ⟨ss,cs,ws,ms,ks,nv,hss,hcs,hws,hms,hks,hnv,htab⟩:=Qd t
 rw [htab]
 have hwl:ws.length=t.Ways.length:=by rw [hws];simp [Q3]
 have hkl:ks.length=t.Kinds.length:=by rw [hks];simp [ZY]
 obtain ⟨f1,f2,f3,f4,f5,⟨f6,f7⟩,f8⟩:=f
 obtain ⟨fl,hfl⟩:∃fl,fl=Zd f5:=⟨_,rfl⟩
 have hfl':fl.length=f5.length:=by rw [hfl];simp [Zd]
 rw [Zs _ hfl]
 obtain ⟨hd,hhd⟩:∃hd,hd=Zfj t ⟨f1,f2,f3,f4,f5,⟨f6,f7⟩,f8⟩:=⟨_,rfl⟩
 have hd0:∀(x:Int) (w:Way),f5[0]?=some x->t.Ways[x.toNat]?=some w->hd=w:=λ x w h1 h2=>by
  have:f5.headD 0=x:=by
   cases f5 with
   | nil=>simp at h1
   | cons a r=>simpa using h1
  rw [hhd];simp only [Zfj,this,h2];rfl
 have bd:∀(p:Prop),(Zau t ⟨f1,f2,f3,f4,f5,⟨f6,f7⟩,f8⟩->p)->¬p->PV.bool false=q:=λ p h1 h2=>bad λ h=>h2 (h1 h)
 have b1:=bd _ Zau.id
 have b2:=bd _ Zau.air
 have b3:=bd _ Zau.cls
 have b4:=bd _ Zau.name
 have b5:=bd _ Zau.len
 have b6:=bd _ Zau.win
 have b7:=bd _ Zau.rng
 have b8:=bd _ Zau.same
 have b9:=bd _ Zau.once
 have gd:=λ a b c d e g h (i:∀n∈f5,QW t.Ways (Zfj t ⟨f1,f2,f3,f4,f5,⟨f6,f7⟩,f8⟩) n=false) j=>good ⟨a,b,c,d,e,g,h,i,j⟩
 rw [<-hhd] at b8 gd
 simp only at b1 b2 b3 b4 b5 b6 b7 b8 b9 gd hname
 clear bad good bd hhd
 conv=>cbv
 split
 ·rename_i hc
  have:=ltT hA hc
  conv=>cbv
  exact b1 (by omega)
 rename_i hc
 have c1:=ltF hA hc
 conv=>cbv
 split
 ·rename_i hc
  have:=ltT hA hc
  conv=>cbv
  exact b1 (by omega)
 rename_i hc
 have c2:=ltF hA hc
 conv=>cbv
 split
 ·rename_i hc
  have:=ltT hA hc
  conv=>cbv
  exact b2 (by omega)
 rename_i hc
 have c3:=ltF hA hc
 conv=>cbv
 split
 ·rename_i hc
  have:=leT hA hc
  conv=>cbv
  exact b2 (by omega)
 rename_i hc
 have c4:=leF hA hc
 conv=>cbv
 split
 ·rename_i hc
  have:=ltT hA hc
  conv=>cbv
  exact b3 (by omega)
 rename_i hc
 have c5:=ltF hA hc
 conv=>cbv
 split
 ·rename_i hc
  have:=Zhp hA (Zl hA hkl) rfl hc
  conv=>cbv
  exact b3 (by omega)
 rename_i hc
 have c6:=Zia hA (Zl hA hkl) rfl hc
 conv=>cbv
 refine Qk hA (hname) rfl (λ nb hnb=>?_)
 conv=>cbv
 split
 ·rename_i hc
  have h1:=Yy hA hc
  conv=>cbv
  exact b4 (by rw [<-hnb,h1];simp)
 rename_i hc
 have c7:=YP hA hc
 rw [hnb] at c7
 conv=>cbv
 split
 ·rename_i hc
  have:=ZE hA (Zl hA hfl') rfl hc
  conv=>cbv
  exact b5 (by omega)
 rename_i hc
 have c8:=ZK hA (Zl hA hfl') rfl hc
 conv=>cbv
 split
 ·rename_i hc
  have:=ZE hA rfl (Zl hA hfl') hc
  conv=>cbv
  exact b5 (by omega)
 rename_i hc
 have c9:=ZK hA rfl (Zl hA hfl') hc
 conv=>cbv
 split
 ·rename_i hc
  have:=ltT hA hc
  conv=>cbv
  exact b6 (by omega)
 rename_i hc
 have d1:=ltF hA hc
 conv=>cbv
 split
 ·rename_i hc
  have:=leT hA hc
  conv=>cbv
  exact b6 (by omega)
 rename_i hc
 have d2:=leF hA hc
 conv=>cbv
 split
 ·rename_i hc
  have:=ltT hA hc
  conv=>cbv
  exact b6 (by omega)
 rename_i hc
 have d3:=ltF hA hc
 have e76:A.iSub f7 f6=f7 - f6:=ZbJ hA _ _
 conv=>cbv
 refine ⟨Zy hA e76 (by unfold Zj;omega),?_⟩
 conv=>cbv
 split
 ·rename_i hc
  have:=ZE hA rfl e76 hc
  conv=>cbv
  exact b6 (by omega)
 rename_i hc
 have d4:=ZK hA rfl e76 hc
 conv=>cbv
 refine Zi hA (λ (i:Int) s=>s.put (some 5) (.val (.int .i64 i))) (λ i=>0<=i/\i<=(f5.length:Int)/\(λ i=>(∀n∈f5.take i.toNat,(0<=n/\n<t.Ways.length)/\QW t.Ways hd n=false)/\(f5.take i.toNat).Nodup) i) (λ i=>((f5.length:Int) - i).toNat) 0 ?_ ?_ ?_
 ·conv=>cbv
  exact Zk
 ·exact ⟨Zyk _,by omega,⟨by simp,by simp⟩⟩
 rintro R i ⟨hi0,hi1,hi2⟩ hRi
 conv=>cbv
 split
 · rename_i hc
   have hi:i<(f5.length:Int):=ZE hA rfl (Zl hA hfl') hc
   have his:A.iAdd i 1=i+1:=Z5 hA _ _
   have hir:A.inR (A.iAdd i 1):=Zy hA his (by unfold Zj;omega)
   have him:((f5.length:Int) - A.iAdd i 1).toNat<((f5.length:Int) - i).toNat:=by rw [his];omega
   have hin:(λ i=>(∀n∈f5.take i.toNat,(0<=n/\n<t.Ways.length)/\QW t.Ways hd n=false)/\(f5.take i.toNat).Nodup) (i+1)->0<=A.iAdd i 1/\A.iAdd i 1<=(f5.length:Int)/\(λ i=>(∀n∈f5.take i.toNat,(0<=n/\n<t.Ways.length)/\QW t.Ways hd n=false)/\(f5.take i.toNat).Nodup) (A.iAdd i 1):=λ h=>by rw [his];exact ⟨by omega,by omega,h⟩
   simp only at hin
   conv=>cbv
   refine ⟨Zm hA (by kernel_rfl),?_⟩
   refine Zw hA hfl hi0 hi (λ x hx=>?_)
   have ht:=Zo hi0 hx
   have hxm:=Zyb hx
   conv=>cbv
   split
   ·rename_i hc
    have:=ltT hA hc
    conv=>cbv
    exact b7 (λ h=>by have:=h x hxm;omega)
   rename_i hc
   have x1:=ltF hA hc
   conv=>cbv
   refine Zw hA hfl hi0 hi (λ z hz=>?_)
   obtain rfl:=Zyc ((hx).symm.trans hz)
   conv=>cbv
   split
   ·rename_i hc
    have:=Zhp hA (Zl hA hwl) rfl hc
    conv=>cbv
    exact b7 (λ h=>by have:=h x hxm;omega)
   rename_i hc
   have x2:=Zia hA (Zl hA hwl) rfl hc
   obtain ⟨x0,hx0⟩:∃x0,f5[0]?=some x0:=⟨f5[0]'(by omega),Zya (by omega)⟩
   have hx0r:0<=x0/\x0<t.Ways.length:=by
    rcases Int.lt_or_le 0 i with h | h
    ·refine (hi2.1 x0 ?_).1
     rw [List.mem_take_iff_getElem]
     exact ⟨0,by omega,(ZxZ.1 hx0).2⟩
    ·have h0:i=0:=by omega
     rw [h0] at hx
     have:=Zyc (hx0.symm.trans hx)
     omega
   obtain ⟨v,hv⟩:∃v,t.Ways[x.toNat]?=some v:=⟨t.Ways[x.toNat]'(by omega),Zya (by omega)⟩
   obtain ⟨w0,hw0⟩:∃w0,t.Ways[x0.toNat]?=some w0:=⟨t.Ways[x0.toNat]'(by omega),Zya (by omega)⟩
   have hdw:=hd0 x0 w0 hx0 hw0
   have hel:QW t.Ways hd x=(!decide (v.From=w0.From) || !decide (v.To=w0.To)):=by simp only [QW,hv,hdw]
   obtain ⟨v1,v2,v3⟩:=v
   obtain ⟨w1,w2,w3⟩:=w0
   simp only at hel
   conv=>cbv
   refine Zw hA hfl hi0 hi (λ z hz=>?_)
   obtain rfl:=Zyc ((hx).symm.trans hz)
   conv=>cbv
   refine Ym hA hws x1 x2 (λ z lg1 hz hlg1=>?_)
   obtain rfl:=Zyc ((hv).symm.trans hz)
   conv=>cbv
   refine Zw hA hfl (Zyk 0) (by omega) (λ z hz=>?_)
   obtain rfl:=Zyc ((hx0).symm.trans hz)
   conv=>cbv
   refine Ym hA hws hx0r.1 hx0r.2 (λ z lg2 hz hlg2=>?_)
   obtain rfl:=Zyc ((hw0).symm.trans hz)
   conv=>cbv
   split
   ·rename_i hc
    have h1:=neT hA hc
    conv=>cbv
    exact b8 (λ h=>by have:=h x hxm;rw [hel,Zyr h1] at this;cases this)
   rename_i hc
   have x3:=neF hA hc
   conv=>cbv
   refine Zw hA hfl hi0 hi (λ z hz=>?_)
   obtain rfl:=Zyc ((hx).symm.trans hz)
   conv=>cbv
   refine Ym hA hws x1 x2 (λ z lg3 hz hlg3=>?_)
   obtain rfl:=Zyc ((hv).symm.trans hz)
   conv=>cbv
   refine Zw hA hfl (Zyk 0) (by omega) (λ z hz=>?_)
   obtain rfl:=Zyc ((hx0).symm.trans hz)
   conv=>cbv
   refine Ym hA hws hx0r.1 hx0r.2 (λ z lg4 hz hlg4=>?_)
   obtain rfl:=Zyc ((hw0).symm.trans hz)
   conv=>cbv
   split
   ·rename_i hc
    have h1:=neT hA hc
    conv=>cbv
    exact b8 (λ h=>by have:=h x hxm;rw [hel,Zyr h1,Bool.or_comm] at this;cases this)
   rename_i hc
   have x4:=neF hA hc
   conv=>cbv
   refine Zi hA (λ (i':Int) s=>s.put (some 6) (.val (.int .i64 i'))) (λ i'=>0<=i'/\i'<=i/\(λ k=>∀y∈f5.take k.toNat,y≠x) i') (λ i'=>(i - i').toNat) 0 ?_ ?_ ?_
   ·conv=>cbv
    exact Zk
   ·exact ⟨Zyk _,by omega,by simp⟩
   rintro R k ⟨hk0,hk1,hk2⟩ hRk
   conv=>cbv
   split
   · rename_i hc
     have hk:k<i:=ZE hA rfl rfl hc
     have hks:A.iAdd k 1=k+1:=Z5 hA _ _
     have hkr:A.inR (A.iAdd k 1):=Zy hA hks (by unfold Zj;omega)
     have hkm:(i - A.iAdd k 1).toNat<(i - k).toNat:=by rw [hks];omega
     have hkn:(λ k=>∀y∈f5.take k.toNat,y≠x) (k+1)->0<=A.iAdd k 1/\A.iAdd k 1<=i/\(λ k=>∀y∈f5.take k.toNat,y≠x) (A.iAdd k 1):=λ h=>by rw [hks];exact ⟨by omega,by omega,h⟩
     simp only at hkn
     conv=>cbv
     refine ⟨Zm hA (by kernel_rfl),?_⟩
     refine Zw hA hfl hk0 (by omega) (λ y hy=>?_)
     have htk:=Zo hk0 hy
     conv=>cbv
     refine Zw hA hfl hi0 hi (λ z hz=>?_)
     obtain rfl:=Zyc ((hx).symm.trans hz)
     conv=>cbv
     split
     ·rename_i hc
      have h1:=eqT hA hc
      conv=>cbv
      refine b9 (λ h=>?_)
      have:=(ZzM (i:=k.toNat) (j:=i.toNat) (by omega) h).1 ((hy.trans (by rw [h1])).trans hx.symm)
      omega
     rename_i hc
     have h1:=eqF hA hc
     conv=>cbv
     exact ⟨hkr,hRk (A.iAdd k 1) _ (by (conv=>cbv);exact Zk) (hkn (ZS htk hk2 h1)) hkm⟩
   rename_i hc
   have hk:k=i:=by have:=ZK hA rfl rfl hc;omega
   conv=>cbv
   rw [hk] at hk2
   have nx:(∀n∈f5.take (i+1).toNat,(0<=n/\n<t.Ways.length)/\QW t.Ways hd n=false)/\(f5.take (i+1).toNat).Nodup:=by
    refine ⟨ZS ht hi2.1 ⟨⟨x1,by omega⟩,by rw [hel,Zyq x3,Zyq x4];rfl⟩,?_⟩
    rw [ht,ZzA]
    exact ⟨hi2.2,by simp,λ a ha b hb=>by rw [Zy3] at hb;subst hb;exact hk2 a ha⟩
   exact ⟨hir,hRi (A.iAdd i 1) _ (by (conv=>cbv);exact Zk) (hin nx) him⟩
 rename_i hc
 have hi:i=(f5.length:Int):=by have:=ZK hA rfl (Zl hA hfl') hc;omega
 conv=>cbv
 rw [Zyl (by omega)] at hi2
 exact gd ⟨c1,c2⟩ ⟨c3,by omega⟩ ⟨c5,by omega⟩ c7 ⟨by omega,by omega⟩ ⟨d1,d2,d3,d4⟩ (λ n hn=>(hi2.1 n hn).1) (λ n hn=>(hi2.1 n hn).2) hi2.2
open Go.Proofs Go.RowKit
theorem ZiH (t:Zh) (f:Flight):Zc Tryz.prog 196 [Zn t,Zx f] (.int .i64 (Z8 t f)):=by
 refine Zb (clo:=λ _=>false) (rows:=false) Zg Tryz.func196 rfl (enters_of Tryz.func196 (by kernel_rfl) rfl) (λ A q P Y hr hA hq=>?_)
 have h1:=Zfp t
 have h2:=Zpb t f
 have hC:Z8 t f=if Qe t then if YW t f then 0 else 150 else 140:=rfl
 rw [hC] at hq
 generalize Qe t=b1 at h1 hq
 generalize YW t f=b2 at h2 hq
 clear hC
 obtain ⟨ss,cs,ws,ms,ks,nv,hss,hcs,hws,hms,hks,hnv,htab⟩:=Qd t
 rw [htab] at h1 h2 ⊢
 obtain ⟨f1,f2,f3,f4,f5,⟨f6,f7⟩,f8⟩:=f
 obtain ⟨fl,hfl⟩:∃fl,fl=Zd f5:=⟨_,rfl⟩
 rw [Zs _ hfl] at h2 ⊢
 simp only at h2 ⊢
 conv=>cbv
 cases b1 with
 | false =>
  refine Za hA (h1) ?_
  conv=>cbv
  split
  rotate_left
  ·rename_i hc
   cases ((show False by have:=neF hA hc;omega))
  conv=>cbv
  rw [<-hq];rfl
 | true =>
  refine Za hA (h1) ?_
  conv=>cbv
  split
  ·rename_i hc
   cases (neT hA hc rfl)
  conv=>cbv
  cases b2 with
  | false =>
   refine Za hA (h2) ?_
   conv=>cbv
   split
   rotate_left
   ·rename_i hc
    cases (nF hA hc)
   conv=>cbv
   rw [<-hq];rfl
  | true =>
   refine Za hA (h2) ?_
   conv=>cbv
   split
   ·rename_i hc
    cases (nT hA hc)
   conv=>cbv
   rw [<-hq];rfl
open Go.Proofs Go.RowKit
theorem ZxG {A:Ops} {E:Env} (hA:A=Ze E) (x1 x2 x3:Int) (x4:Bool) (o1 o2 o3:Int) (o4:Bool) :
  A.bAnd (A.iEq x1 o1) (A.bAnd (A.iEq x2 o2) (A.bAnd (A.iEq x3 o3) (A.bAnd (A.bEq x4 o4) true)))=decide ((⟨x1,x2,x3,x4⟩:Opt)=⟨o1,o2,o3,o4⟩):=by
 subst hA
 rw [ZyA]
 simp [Ze]
theorem Zug (t:Zh) (f:Flight) (o:Opt) (k:Y3) (hc0:0<=f.Class) (hk:t.Kinds[f.Class.toNat]?=some k) (b:Bool) (hb:b=true↔isO k.Longest f.Ways.length f.Cancel o) :
  Zc Tryz.prog 208 [Zn t,Zx f,Z2 o] (.bool b):=by
 have hcl:=(ZxZ.1 hk).1
 refine Zb (clo:=λ _=>false) (rows:=false) Zg Tryz.func208 rfl (enters_of Tryz.func208 (by kernel_rfl) rfl) (λ A q P Y hr hA hq=>?_)
 have fin:∀r:Bool,(r=true↔isO k.Longest f.Ways.length f.Cancel o)->PV.bool r=q:=λ r h=>by
  rw [<-hq];congr 1;rw [ZyA,h,hb]
 clear hq hb
 obtain ⟨ss,cs,ws,ms,ks,nv,hss,hcs,hws,hms,hks,hnv,htab⟩:=Qd t
 rw [htab]
 obtain ⟨f1,f2,f3,f4,f5,⟨f6,f7⟩,f8⟩:=f
 obtain ⟨fl,hfl⟩:∃fl,fl=Zd f5:=⟨_,rfl⟩
 have hfl':fl.length=f5.length:=by rw [hfl];simp [Zd]
 rw [Zs _ hfl]
 obtain ⟨k1,k2,k3,k4,k5,k6⟩:=k
 obtain ⟨o1,o2,o3,o4⟩:=o
 simp only at hk hcl hc0 fin ⊢
 have nz10:A.nz 10:=by subst hA;show (10:Int)≠0;decide
 have nz5:A.nz 5:=by subst hA;show (5:Int)≠0;decide
 have m10:A.iMod o1 10=o1.tmod 10:=Zvz hA _ _
 have m5:A.iMod o3 5=o3.tmod 5:=Zvz hA _ _
 cases o4 with
 | true =>
  have fin':∀r:Bool,(r=true↔f8=true/\(⟨o1,o2,o3,true⟩:Opt)=⟨0,0,0,true⟩)->PV.bool r=q:=λ r h=>fin r (by simp only [isO];rw [h];simp)
  conv=>cbv
  cases f8 with
  | true =>
   conv=>cbv
   refine fin' (A.bAnd (A.iEq o1 0) (A.bAnd (A.iEq o2 0) (A.bAnd (A.iEq o3 0) (A.bAnd (A.bEq true true) true)))) ?_
   rw [ZxG hA,decide_eq_true_iff];simp
  | false =>
   conv=>cbv
   exact fin' false (by simp)
 | false =>
  have fin':∀r:Bool,(r=true↔0<=o1/\o1.tmod 10=0/\o1<=k5/\0<=o2/\o2<f5.length/\0<=o3/\o3.tmod 5=0/\o3<=10)->PV.bool r=q:=λ r h=>fin r (by simp only [isO];rw [h];simp)
  have no:¬(0<=o1/\o1.tmod 10=0/\o1<=k5/\0<=o2/\o2<f5.length/\0<=o3/\o3.tmod 5=0/\o3<=10)->PV.bool false=q:=λ h=>fin' false ⟨λ h1=>Bool.noConfusion h1,λ h1=>absurd h1 h⟩
  clear fin
  conv=>cbv
  refine ⟨Zm hA (by kernel_rfl),?_⟩
  split
  rotate_left
  ·rename_i hc
   have:=leF hA hc
   conv=>cbv
   exact no (by omega)
  rename_i hc
  have c1:=leT hA hc
  conv=>cbv
  refine ⟨nz10,?_⟩
  conv=>cbv
  split
  rotate_left
  ·rename_i hc
   have:=ZeN hA m10 rfl hc
   conv=>cbv
   exact no (by omega)
  rename_i hc
  have c2:=ZdS hA m10 rfl hc
  conv=>cbv
  refine Q6 hA hks hc0 (by omega) (λ z v hz hv=>?_)
  obtain rfl:=Zyc (hk.symm.trans hz)
  conv=>cbv
  split
  rotate_left
  ·rename_i hc
   have:=leF hA hc
   conv=>cbv
   exact no (by omega)
  rename_i hc
  have c3:=leT hA hc
  conv=>cbv
  split
  rotate_left
  ·rename_i hc
   have:=leF hA hc
   conv=>cbv
   exact no (by omega)
  rename_i hc
  have c4:=leT hA hc
  conv=>cbv
  split
  rotate_left
  ·rename_i hc
   have:=ZK hA rfl (Zl hA hfl') hc
   conv=>cbv
   exact no (by omega)
  rename_i hc
  have c5:=ZE hA rfl (Zl hA hfl') hc
  conv=>cbv
  split
  rotate_left
  ·rename_i hc
   have:=leF hA hc
   conv=>cbv
   exact no (by omega)
  rename_i hc
  have c6:=leT hA hc
  conv=>cbv
  refine ⟨nz5,?_⟩
  conv=>cbv
  split
  rotate_left
  ·rename_i hc
   have:=ZeN hA m5 rfl hc
   conv=>cbv
   exact no (by omega)
  rename_i hc
  have c7:=ZdS hA m5 rfl hc
  conv=>cbv
  refine fin' (A.iLe o3 10) ?_
  rw [Zv2 hA,decide_eq_true_iff]
  exact ⟨λ h=>⟨c1,c2,c3,c4,c5,c6,c7,h⟩,λ h=>h.2.2.2.2.2.2.2⟩
theorem Zfq (t:Zh) (f:Flight) (o:Opt):Zc Tryz.prog 153 [Zn t,Zx f,Z2 o] (.tup [.int .i64 (ZL t f o).1,.int .i64 (ZL t f o).2.1,.int .i64 (ZL t f o).2.2]):=by
 have hchk:=ZiH t f
 obtain ⟨ck,hck⟩:∃ck,ck=Z8 t f:=⟨_,rfl⟩
 rw [<-hck] at hchk
 by_cases h0:ck=0
 ·obtain ⟨k,hk,hc0,hL0,hL1,_,hW1,hW8,hw1,hw4⟩:=Qx (hck▸h0)
  have hmO:Zat t f=Zay k.Longest f.Ways.length f.Cancel:=by rw [Zat,hk]
  have hwt:Y4 t f=k.Weight:=by rw [Y4,hk]
  have hin:o∈Zat t f->0<=o.Delay/\o.Delay<=60/\0<=o.Hold/\o.Hold<=10:=λ h=>Zif hL0 hL1 (hmO▸h)
  have his:=Zug t f o k hc0 hk (decide (o∈Zat t f)) (by rw [decide_eq_true_iff,hmO];exact Zie o)
  rw [h0] at hchk
  have hcf:Z8 t f=0:=hck▸h0
  have hD:ZL t f o=if o∈Zat t f then (Zbz o,Zbz o*k.Weight,0) else (0,0,150):=by rw [ZL,if_pos hcf,hwt]
  rw [hD]
  refine Zb (clo:=λ _=>false) (rows:=false) Zg Tryz.func153 rfl (enters_of Tryz.func153 (by kernel_rfl) rfl) (λ A q P Y hr hA hq=>?_)
  have hkl0:f.Class.toNat<t.Kinds.length:=(ZxZ.1 hk).1
  obtain ⟨ss,cs,ws,ms,ks,nv,hss,hcs,hws,hms,hks,hnv,htab⟩:=Qd t
  rw [htab] at hchk his ⊢
  generalize Zat t f=M at his hin hq
  clear hmO hwt hcf hD
  obtain ⟨f1,f2,f3,f4,f5,⟨f6,f7⟩,f8⟩:=f
  obtain ⟨fl,hfl⟩:∃fl,fl=Zd f5:=⟨_,rfl⟩
  rw [Zs _ hfl] at hchk his ⊢
  obtain ⟨o1,o2,o3,o4⟩:=o
  simp only at hchk his hk hkl0 hc0 hin hq ⊢
  conv=>cbv
  refine Za hA (hchk) ?_
  conv=>cbv
  split
  ·rename_i hc
   cases (neT hA hc rfl)
  conv=>cbv
  refine Qk hA his rfl (λ r hr=>?_)
  conv=>cbv
  split
  ·rename_i h
   have h':=Yy hA h
   have hno:(⟨o1,o2,o3,o4⟩:Opt)∉M:=by rw [h'] at hr;exact of_decide_eq_false hr.symm
   rw [if_neg hno] at hq
   conv=>cbv
   exact hq
  rename_i h
  have h':=YP hA h
  have hyes:(⟨o1,o2,o3,o4⟩:Opt)∈M:=by rw [h'] at hr;exact ZyU hr.symm
  rw [if_pos hyes] at hq
  have hb:=hin hyes
  have hadd:A.iAdd o1 o3=o1+o3:=Z5 hA _ _
  clear h
  conv=>cbv
  refine ⟨Zy hA hadd (by unfold Zj;omega),?_⟩
  obtain ⟨k1,k2,k3,k4,k5,k6⟩:=k
  simp only at hW1 hW8 hq
  cases o4 with
  | true =>
   have hm:A.iMul 120 k4=120*k4:=Zkb hA _ _
   conv=>cbv
   refine ⟨Zm hA (by kernel_rfl),?_⟩
   refine Q6 hA hks hc0 (by omega) (λ z v hz hv=>?_)
   obtain rfl:=Zyc (hk.symm.trans hz)
   conv=>cbv
   refine ⟨Zy hA hm (by unfold Zj;omega),?_⟩
   show PV.tup [_,.int .i64 (A.iMul 120 k4),_]=_
   rw [<-hq,hm]
   rfl
  | false =>
   have hm:A.iMul (A.iAdd o1 o3) k4=(o1+o3)*k4:=by rw [Zkb hA,hadd]
   have hu:(o1+o3)*k4<=70*8:=Z0y (by omega) hW8 (by omega) (by omega)
   have hl:0<=(o1+o3)*k4:=Int.mul_nonneg (by omega) (by omega)
   conv=>cbv
   refine ⟨Zm hA (by kernel_rfl),?_⟩
   refine Q6 hA hks hc0 (by omega) (λ z v hz hv=>?_)
   obtain rfl:=Zyc (hk.symm.trans hz)
   conv=>cbv
   refine ⟨Zy hA hm (by unfold Zj;omega),?_⟩
   show PV.tup [.int .i64 (A.iAdd o1 o3),.int .i64 (A.iMul (A.iAdd o1 o3) k4),_]=_
   rw [<-hq,hm,hadd]
   rfl
 ·have hD:ZL t f o=(0,0,ck):=by rw [ZL,if_neg (hck▸h0),hck]
  rw [hD]
  refine Zb (clo:=λ _=>false) (rows:=false) Zg Tryz.func153 rfl (enters_of Tryz.func153 (by kernel_rfl) rfl) (λ A q P Y hr hA hq=>?_)
  obtain ⟨ss,cs,ws,ms,ks,nv,hss,hcs,hws,hms,hks,hnv,htab⟩:=Qd t
  rw [htab] at hchk ⊢
  obtain ⟨f1,f2,f3,f4,f5,⟨f6,f7⟩,f8⟩:=f
  obtain ⟨fl,hfl⟩:∃fl,fl=Zd f5:=⟨_,rfl⟩
  rw [Zs _ hfl] at hchk ⊢
  obtain ⟨o1,o2,o3,o4⟩:=o
  simp only at hchk ⊢
  conv=>cbv
  refine Za hA (hchk) ?_
  conv=>cbv
  split
  rotate_left
  ·rename_i hc
   cases ((h0 (neF hA hc)))
  conv=>cbv
  exact hq
open Go.Proofs Go.RowKit
theorem Znv (n:Int) (h:1<=n/\n<=4096):Zc Tryz.prog 299 [.int .i64 n] (.bool true):=by
 refine Zb (clo:=λ _=>false) (rows:=false) Zg Tryz.func299 rfl (enters_of Tryz.func299 (by kernel_rfl) rfl) (λ A q P Y hr hA hq=>?_)
 conv=>cbv
 split
 rotate_left
 ·rename_i hc
  cases ((show False by have:=leF hA hc;omega))
 conv=>cbv
 refine Eq.trans ?_ hq
 show PV.bool (A.iLe n 4096)=_
 subst hA
 show PV.bool (decide (n<=4096))=_
 rw [Zyq h.2]
theorem Zgk (len speed:Int) (h0:1<=len/\len<=4096) (h1:1<=speed/\speed<=64):Zc Tryz.prog 300 [.int .i64 len,.int .i64 speed] (.int .i64 (Qb len speed)):=by
 refine Zb (clo:=λ _=>false) (rows:=false) Zg Tryz.func300 rfl (enters_of Tryz.func300 (by kernel_rfl) rfl) (λ A q P Y hr hA hq=>?_)
 have hm:=YD h0.1 h1.1
 generalize Qb len speed=M at hm hq
 conv=>cbv
 refine Zi hA (λ (z:Int) s=>s.put (some 5) (.val (.int .i64 z))) (λ z=>0<=z/\z<=M) (λ z=>(M - z).toNat) 0 ?_ ?_ ?_
 ·conv=>cbv
  exact Zk
 ·exact ⟨Zyk _,by omega⟩
 rintro R z ⟨hz0,hz1⟩ hR
 have e1:A.iMul z speed=z*speed:=Zkb hA _ _
 have hu:z*speed<=4096*64:=Z0y (by omega) h1.2 (by omega) (by omega)
 have hl:0<=z*speed:=Int.mul_nonneg hz0 (by omega)
 conv=>cbv
 refine ⟨Zy hA e1 (by unfold Zj;omega),?_⟩
 split
 ·rename_i hc
  have hlt:=ZE hA e1 rfl hc
  have hzM:z<M:=by
   rcases Int.lt_or_le z M with h | h
   ·exact h
   ·have:M*speed<=z*speed:=ZzD h (by omega)
    omega
  have hzs:A.iAdd z 1=z+1:=Z5 hA _ _
  conv=>cbv
  refine ⟨Zy hA hzs (by unfold Zj;omega),hR (A.iAdd z 1) _ ?_ ?_ ?_⟩
  ·conv=>cbv
   exact Zk
  ·show 0<=A.iAdd z 1/\A.iAdd z 1<=M
   rw [hzs];omega
  ·show (M - A.iAdd z 1).toNat<(M - z).toNat
   rw [hzs];omega
 ·rename_i hc
  have hge:=ZK hA e1 rfl hc
  have hzM:z=M:=by
   rcases Int.lt_or_le z M with h | h
   ·have:z*speed<=(M - 1)*speed:=ZzD (by omega) (by omega)
    omega
   ·omega
  conv=>cbv
  rw [<-hq,hzM]
theorem Zpc (k:Y3) (hk:ZcJ k) (len:Int) (h0:1<=len/\len<=4096):Zc Tryz.prog 287 [ZU k,.int .i64 len] (.tup [Zap (Zbd k len 0),.int .i64 0]):=by
 refine Zb (clo:=λ _=>false) (rows:=false) Zg Tryz.func287 rfl (enters_of Tryz.func287 (by kernel_rfl) rfl) (λ A q P Y hr hA hq=>?_)
 have hchk:=Zfn k
 rw [hk.ok] at hchk
 have hlen:=Znv len h0
 have c1:=Zgk len k.Fast h0 ⟨by have:=hk.s1;have:=hk.s2;omega,hk.s3⟩
 have c2:=Zgk len k.Slow h0 ⟨hk.s1,by have:=hk.s2;have:=hk.s3;omega⟩
 simp only [Zbd,Zap,ZzQ] at hq
 generalize Qb len k.Fast=n1 at c1 hq
 generalize Qb len k.Slow=n2 at c2 hq
 obtain ⟨k1,k2,k3,k4,k5,k6⟩:=k
 simp only [ZU] at c1 c2 hq hchk ⊢
 obtain ⟨cs,hcs⟩:∃cs,cs=Z3 k6:=⟨_,rfl⟩
 rw [<-hcs] at hchk ⊢
 conv=>cbv
 refine Za hA (hchk) ?_
 conv=>cbv
 split
 ·rename_i hc
  cases (neT hA hc rfl)
 conv=>cbv
 refine Za hA (hlen) ?_
 conv=>cbv
 split
 ·rename_i hc
  cases (nT hA hc)
 conv=>cbv
 refine ⟨Zm hA (by kernel_rfl),?_⟩
 refine Za hA (c1) ?_
 conv=>cbv
 refine Za hA (c2) ?_
 conv=>cbv
 exact hq
set_option maxHeartbeats 1000000 in
theorem ZqW (k:Y3) (hk:ZcJ k) (ls:List Leg) (hl:ZgF ls) (hold:Int) (h0:0<=hold/\hold<=10) {lg:List PV} (hlg:lg=Qp ls) :
  Zc Tryz.prog 264 [ZU k,.list 4 lg,.int .i64 hold] (.tup [.list 2 (ZF (ZeJ k hold ls)),.int .i64 0]):=by
 refine Zb (clo:=λ n=>n == 1000010) (rows:=false) Zg Tryz.func264 rfl (enters_of Tryz.func264 (by kernel_rfl) rfl) (λ A q P Y hr hA hq=>?_)
 have hchk:=Zfn k
 rw [hk.ok] at hchk
 have hll:lg.length=ls.length:=by rw [hlg];simp [Qp]
 have hbd:=λ (x:Leg) (hx:x∈ls)=>Zpc k hk x.Length (hl.2.2 x hx)
 have hbf:=λ (x:Leg) (hx:x∈ls)=>Zdq hk (hl.2.2 x hx).1 (hl.2.2 x hx).2 (Zyk 0) (by omega)
 have hget:=λ (i:Nat) (x:Leg) (h:ls[i]?=some x)=>ZfM (k:=k) (hold:=hold) h
 have hbl:=Zb0 k hold ls
 have hbK:∀n h,Zbd k n h=⟨Qb n k.Fast+h,Qb n k.Slow+h⟩:=λ n h=>rfl
 generalize ZeJ k hold ls=M at hget hq hbl
 have hl1:=hl.1
 have hl8:=hl.2.1
 obtain ⟨k1,k2,k3,k4,k5,k6⟩:=k
 simp only at hbK
 simp only [ZU] at hchk hbd ⊢
 obtain ⟨cs,hcs⟩:∃cs,cs=Z3 k6:=⟨_,rfl⟩
 rw [<-hcs] at hchk hbd ⊢
 conv=>cbv
 refine Za hA (hchk) ?_
 conv=>cbv
 split
 ·rename_i hc
  cases (neT hA hc rfl)
 conv=>cbv
 split
 ·rename_i hc
  cases ((show False by have:=ZE hA (Zl hA hll) rfl hc;omega))
 conv=>cbv
 split
 ·rename_i hc
  cases ((show False by have:=ZE hA rfl (Zl hA hll) hc;omega))
 conv=>cbv
 split
 ·rename_i hc
  cases ((show False by have:=ltT hA hc;omega))
 conv=>cbv
 split
 ·rename_i hc
  cases ((show False by have:=ltT hA hc;omega))
 conv=>cbv
 refine Zi hA (λ (z:Int × List PV) s=>{ (s.put (some 10) (.val (.int .i64 z.1))).put (some 9) (.own 0 2 z.2) with tk:=[(A.nLen z.2,148)] }) (λ z=>0<=z.1/\z.1<=ls.length/\z.2=ZF (M.take z.1.toNat)) (λ z=>((ls.length:Int) - z.1).toNat) (0,[]) ?_ ?_ ?_
 ·conv=>cbv
  exact ZaM 9 0 2 _ _ rfl (.inr rfl) (by repeat (first | refine Zv ?_ | refine ZH ?_ | exact Z9)) (by subst hA;rfl)
 ·exact ⟨Zyk _,by omega,by simp [ZF]⟩
 rintro R ⟨i,L⟩ ⟨hi0,hi1,hL⟩ hR
 simp only at hi0 hi1 hL
 conv=>cbv
 split
 ·rename_i hc
  have hi:i<ls.length:=ZE hA rfl (Zl hA hll) hc
  have his:A.iAdd i 1=i+1:=Z5 hA _ _
  have hir:A.inR (A.iAdd i 1):=Zy hA his (by unfold Zj;omega)
  have hls1:A.iSub (A.lLen lg) 1=(ls.length:Int) - 1:=by rw [ZbJ hA,Zl hA hll]
  have hlsr:A.inR (A.iSub (A.lLen lg) 1):=Zy hA hls1 (by unfold Zj;omega)
  have hLl:L.length<=1000:=by rw [hL];simp [ZF];omega
  have htk:A.tkEq (A.nLen L) (A.nLen L):=by subst hA;rfl
  obtain ⟨x,hx⟩:∃x,ls[i.toNat]?=some x:=⟨ls[i.toNat]'(by omega),Zya (by omega)⟩
  have hxm:=Zyb hx
  have g1:=hbd x hxm
  have g2:=hbf x hxm
  have g3:=hget i.toNat x hx
  rw [hbK] at g1 g2 g3
  obtain ⟨x1,x2,x3,x4⟩:=x
  simp only [Zap,ZzQ] at g1 g2 g3
  generalize Qb x3 k2=m1 at g1 g2 g3
  generalize Qb x3 k1=m2 at g1 g2 g3
  have fin:∀(u v:Int),M[i.toNat]?=some ⟨u,v⟩->A.lApp L [.agg [.int .i64 u,.int .i64 v]]=ZF (M.take (i+1).toNat)/\A.room (A.nLen (A.lApp L [.agg [.int .i64 u,.int .i64 v]])) 16:=λ u v huv=>by
   refine ⟨?_,?_⟩
   ·rw [Zo hi0 huv,hL]
    subst hA
    show ZF _++_=_
    simp [ZF,Zap]
   ·subst hA
    show (L++[_]).length*(16+1)<=140737488355328
    rw [Zyg,Zyt];omega
  have hmm:((ls.length:Int) - A.iAdd i 1).toNat<((ls.length:Int) - i).toNat:=by rw [his];omega
  obtain ⟨ms,hms⟩:∃ms,ms=Z4 x4:=⟨_,rfl⟩
  refine ZqB (hQ:=λ _=>rfl) ?_
  refine Zdm rfl [.val (.agg [.int .i64 k1,.int .i64 k2,.int .i64 k3,.int .i64 k4,.int .i64 k5,.list 1 cs]),.val (.list 4 lg),.val (.int .i64 i),.val (.ptr [.int .i64 x1,.int .i64 x2,.int .i64 x3,.list 2 ms] 0),.val (.ptr [.int .i64 x1,.int .i64 x2,.int .i64 x3,.list 2 ms] 2),.val (.int .i64 x3),.val (.tup [.agg [.int .i64 m1,.int .i64 m2],.int .i64 0]),.val (.tup [.agg [.int .i64 m1,.int .i64 m2],.int .i64 0]),
    .val (.agg [.int .i64 m1,.int .i64 m2]),.val (.int .i64 0),.box 1 0,.undef,.val (.int .i64 0)]
   (λ L=>some [.val (.int .i64 k1),.val (.int .i64 k2),.val (.int .i64 k3),.val (.int .i64 k4),.val (.int .i64 k5),.val (.list 1 cs)]::(match L 10 with | true=>[some [.val (.int .i64 (cond (L 11) m1 0)),.val (.int .i64 (cond (L 11) m2 0))]] | false=>[]))
   rfl (λ L L' h=>by simp only [h 10 (by decide),h 11 (by decide)]) rfl ?_ ?_
  ·intro L i' o hi' hL hC he K' hK
   rcases i' with _ | i'
   ·cases hi'
    conv=>cbv
    exact hK
   rcases i' with _ | i'
   ·cases hi'
    conv=>cbv
    exact hK
   rcases i' with _ | i'
   ·cases hi'
    conv=>cbv
    exact hK
   rcases i' with _ | i'
   ·cases hi'
    have h1:L 1=true:=he ⟨1,.data⟩ (by simp) rfl
    have h2:L 2=true:=he ⟨2,.data⟩ (by simp) rfl
    conv=>cbv
    simp only [h1,h2]
    conv=>cbv
    refine Zdl hA hlg hi0 hi (λ z v hz hv=>?_)
    obtain rfl:=Zyc (hx.symm.trans hz)
    obtain rfl:=hms.trans hv.symm
    conv=>cbv
    refine cast (congrArg K' ?_) hK
    conv=>lhs;cbv
    simp only [h1,h2]<;>rfl
   rcases i' with _ | i'
   ·cases hi'
    have h3:L 3=true:=he ⟨3,.data⟩ (by simp) rfl
    conv=>cbv
    simp only [h3]
    conv=>cbv
    refine cast (congrArg K' ?_) hK
    conv=>lhs;cbv
    simp only [h3]<;>rfl
   rcases i' with _ | i'
   ·cases hi'
    have h4:L 4=true:=he ⟨4,.data⟩ (by simp) rfl
    conv=>cbv
    simp only [h4]
    conv=>cbv
    refine cast (congrArg K' ?_) hK
    conv=>lhs;cbv
    simp only [h4]<;>rfl
   rcases i' with _ | i'
   ·cases hi'
    have h0:L 0=true:=he ⟨0,.data⟩ (by simp) rfl
    have h5:L 5=true:=he ⟨5,.data⟩ (by simp) rfl
    conv=>cbv
    simp only [h0,h5]
    conv=>cbv
    refine Za hA g1 ?_
    conv=>cbv
    refine cast (congrArg K' ?_) hK
    conv=>lhs;cbv
    simp only [h0,h5]<;>rfl
   rcases i' with _ | i'
   ·cases hi'
    have h6:L 6=true:=he ⟨6,.data⟩ (by simp) rfl
    conv=>cbv
    simp only [h6]
    conv=>cbv
    refine cast (congrArg K' ?_) hK
    conv=>lhs;cbv
    simp only [h6]<;>rfl
   rcases i' with _ | i'
   ·cases hi'
    have h7:L 7=true:=he ⟨7,.data⟩ (by simp) rfl
    conv=>cbv
    simp only [h7]
    conv=>cbv
    refine cast (congrArg K' ?_) hK
    conv=>lhs;cbv
    simp only [h7]<;>rfl
   rcases i' with _ | i'
   ·cases hi'
    have h7:L 7=true:=he ⟨7,.data⟩ (by simp) rfl
    conv=>cbv
    simp only [h7]
    conv=>cbv
    refine cast (congrArg K' ?_) hK
    conv=>lhs;cbv
    simp only [h7]<;>rfl
   rcases i' with _ | i'
   ·cases hi'
    conv=>cbv
    have h11:L 11=false:=by
     cases h:L 11 with
     | false=>rfl
     | true=>exact absurd (hC 11 _ rfl h ⟨10,.data⟩ (by simp) rfl) (by rw [hL];simp)
    simp only [hL,h11]
    conv=>cbv
    refine cast (congrArg K' ?_) hK
    conv=>lhs;cbv
    simp only [h11]<;>rfl
   rcases i' with _ | i'
   ·cases hi'
    have h10:L 10=true:=he ⟨10,.data⟩ (by simp) rfl
    have h8:L 8=true:=he ⟨8,.data⟩ (by simp) rfl
    conv=>cbv
    simp only [h10,h8]
    conv=>cbv
    refine cast (congrArg K' ?_) hK
    conv=>lhs;cbv
    simp only [h10,h8]<;>rfl
   rcases i' with _ | i'
   ·cases hi'
    have h9:L 9=true:=he ⟨9,.data⟩ (by simp) rfl
    conv=>cbv
    simp only [h9]
    conv=>cbv
    refine cast (congrArg K' ?_) hK
    conv=>lhs;cbv
    simp only [h9]<;>rfl
   simp at hi'
  conv=>cbv
  split
  ·rename_i hc
   cases (neT hA hc rfl)
  conv=>cbv
  refine ⟨hlsr,?_⟩
  split
  ·rename_i hc
   have hl1:i=(ls.length:Int) - 1:=ZdS hA rfl hls1 hc
   rw [if_pos (by omega)] at g3
   have a1:A.iAdd m1 hold=m1+hold:=Z5 hA _ _
   have a2:A.iAdd m2 hold=m2+hold:=Z5 hA _ _
   rw [<-a1,<-a2] at g3
   obtain ⟨hnext,hroom⟩:=fin _ _ g3
   conv=>cbv
   refine ⟨Zy hA a1 (by unfold Zj;omega),Zy hA a2 (by unfold Zj;omega),⟨htk,hroom⟩,hir,hR (A.iAdd i 1,A.lApp L [.agg [.int .i64 (A.iAdd m1 hold),.int .i64 (A.iAdd m2 hold)]]) _ ?_ ?_ hmm⟩
   ·conv=>cbv
    exact Zt (bx:=[_]) (bx':=[_]) (mp:=[]) (mp':=[]) (by repeat (first | refine Zv ?_ | refine ZH ?_ | refine Za6 ?_ | exact Z9)) (by simp) (by simp) rfl rfl
   ·show 0<=A.iAdd i 1/\A.iAdd i 1<=ls.length/\_=ZF (M.take (A.iAdd i 1).toNat)
    rw [his];exact ⟨by omega,by omega,hnext⟩
  ·rename_i hc
   have hl1:i≠(ls.length:Int) - 1:=ZeN hA rfl hls1 hc
   rw [if_neg (by omega),ZzQ,ZzQ] at g3
   obtain ⟨hnext,hroom⟩:=fin _ _ g3
   conv=>cbv
   refine ⟨⟨htk,hroom⟩,hir,hR (A.iAdd i 1,A.lApp L [.agg [.int .i64 m1,.int .i64 m2]]) _ ?_ ?_ hmm⟩
   ·conv=>cbv
    exact Zt (bx:=[_]) (bx':=[_]) (mp:=[]) (mp':=[]) (by repeat (first | refine Zv ?_ | refine ZH ?_ | refine Za6 ?_ | exact Z9)) (by simp) (by simp) rfl rfl
   ·show 0<=A.iAdd i 1/\A.iAdd i 1<=ls.length/\_=ZF (M.take (A.iAdd i 1).toNat)
    rw [his];exact ⟨by omega,by omega,hnext⟩
 ·rename_i hc
  have hi:ls.length<=i:=ZK hA rfl (Zl hA hll) hc
  rw [Zyl (by omega)] at hL
  conv=>cbv
  rw [<-hq,hL]
open Go.Proofs Go.RowKit
def Zmj (t:Zh) (f:Flight) (o:Opt):List QN:=if Zaf t f o=0 then YM t f o else []
set_option maxHeartbeats 2000000 in
theorem Zkn (t:Zh) (f:Flight) (o:Opt):Zc Tryz.prog 209 [Zn t,Zx f,Z2 o] (.tup [.list 2 (ZF (Zmj t f o)),.int .i64 (Zaf t f o)]):=by
 have hdel:=Zfq t f o
 by_cases h0:Zaf t f o=0
 ·obtain ⟨k,w,h⟩:=Yz h0
  have h1:=h.del
  have h2:=h.can
  have h3:=h.k0
  have h4:=h.hk
  have h6:=h.w0
  have h7:=h.hw
  have h8:=h.p0
  have h9:=h.hl
  have h11:=h.h0
  have hkl:=(ZxZ.1 h4).1
  have hlegs:∀lg v,lg=Qp w.Legs->v=Z3 k.Curfews->Zc Tryz.prog 264 [.agg [.int .i64 k.Slow,.int .i64 k.Fast,.int .i64 k.Places,.int .i64 k.Weight,.int .i64 k.Longest,.list 1 v],.list 4 lg,.int .i64 o.Hold] (.tup [.list 2 (ZF (YM t f o)),.int .i64 0]):=λ lg v e1 e2=>by
   have:=ZqW k h.kok w.Legs h.lok o.Hold ⟨h11.1,h11.2.1⟩ e1
   rw [h.leg,e2];exact this
  rw [h1] at hdel
  rw [Zmj,if_pos h0,h0]
  generalize (ZL t f o).1=d1 at hdel
  generalize (ZL t f o).2.1=d2 at hdel
  generalize ZaF f o=pw at h7 h8 h9
  generalize ZF (YM t f o)=bl at hlegs
  clear h h0 h1
  refine Zb (clo:=λ _=>false) (rows:=false) Zg Tryz.func209 rfl (enters_of Tryz.func209 (by kernel_rfl) rfl) (λ A q P Y hr hA hq=>?_)
  obtain ⟨ss,cs,ws,ms,ks,nv,hss,hcs,hws,hms,hks,hnv,htab⟩:=Qd t
  rw [htab] at hdel ⊢
  obtain ⟨f1,f2,f3,f4,f5,⟨f6,f7⟩,f8⟩:=f
  obtain ⟨fl,hfl⟩:∃fl,fl=Zd f5:=⟨_,rfl⟩
  rw [Zs _ hfl] at hdel ⊢
  obtain ⟨o1,o2,o3,o4⟩:=o
  simp only at hdel h2 h3 h4 h6 h7 h11 hkl hlegs hq ⊢
  subst h2
  obtain ⟨k1,k2,k3,k4,k5,k6⟩:=k
  obtain ⟨w1,w2,w3⟩:=w
  simp only at hlegs
  conv=>cbv
  refine Za hA (hdel) ?_
  conv=>cbv
  split
  ·rename_i hc
   cases (neT hA hc rfl)
  conv=>cbv
  refine ⟨Zm hA (by kernel_rfl),?_⟩
  refine Q6 hA hks h3 (by omega) (λ z v hz hv=>?_)
  obtain rfl:=Zyc (h4.symm.trans hz)
  conv=>cbv
  refine Zw hA hfl h6.1 h6.2 (λ x hx=>?_)
  obtain rfl:=Zyc (h7.symm.trans hx)
  conv=>cbv
  refine Ym hA hws h8.1 h8.2 (λ z lg hz hlg=>?_)
  obtain rfl:=Zyc (h9.symm.trans hz)
  conv=>cbv
  refine Za hA (hlegs lg v hlg hv) ?_
  conv=>cbv
  exact hq
 ·rw [Zmj,if_neg h0]
  have hE:Zaf t f o=if (ZL t f o).2.2=0 then if o.Cancel then 160 else 0 else (ZL t f o).2.2:=rfl
  generalize (ZL t f o).1=d1 at hdel
  generalize (ZL t f o).2.1=d2 at hdel
  generalize (ZL t f o).2.2=d3 at hdel hE
  generalize Zaf t f o=pe at h0 hE
  refine Zc.le (p:=.tup [.list 0 [],.int .i64 pe]) (args':=[Zn t,Zx f,Z2 o]) ?_ (.cons (.refl _) (.cons (.refl _) (.cons (.refl _) .nil))) (.tup _ _ rfl λ i x y hx hy=>?_)
  ·refine Zb (clo:=λ _=>false) (rows:=false) Zg Tryz.func209 rfl (enters_of Tryz.func209 (by kernel_rfl) rfl) (λ A q P Y hr hA hq=>?_)
   obtain ⟨ss,cs,ws,ms,ks,nv,hss,hcs,hws,hms,hks,hnv,htab⟩:=Qd t
   rw [htab] at hdel ⊢
   obtain ⟨f1,f2,f3,f4,f5,⟨f6,f7⟩,f8⟩:=f
   obtain ⟨fl,hfl⟩:∃fl,fl=Zd f5:=⟨_,rfl⟩
   rw [Zs _ hfl] at hdel ⊢
   obtain ⟨o1,o2,o3,o4⟩:=o
   simp only at hdel hE ⊢
   conv=>cbv
   refine Za hA (hdel) ?_
   conv=>cbv
   split
   ·rename_i hc
    have h1:=neT hA hc
    rw [if_neg h1] at hE
    conv=>cbv
    rw [<-hq,hE]
   rename_i hc
   have h1:=neF hA hc
   rw [if_pos h1] at hE
   cases o4 with
   | true =>
    conv=>cbv
    rw [<-hq,hE];rfl
   | false =>
    exact absurd hE h0
  ·match i,hx,hy with
   | 0,hx,hy=>simp at hx hy;subst hx hy;exact .nil _ _
   | 1,hx,hy=>simp at hx hy;subst hx hy;exact .refl _
   | i+2,hx,hy=>simp at hx
open Go.Proofs Go.RowKit
set_option maxHeartbeats 1000000 in
theorem ZiI (t:Zh) (f:Flight) (o:Opt):Zc Tryz.prog 197 [Zn t,Zx f,Z2 o] (.tup [.int .i64 (Za7 t f o),.int .i64 (ZN t f o)]):=by
 have hpl:=Zkn t f o
 by_cases h0:Zaf t f o=0
 ·obtain ⟨k,w,h⟩:=Yz h0
  rw [Zmj,if_pos h0,h0] at hpl
  have hN:ZN t f o=if Zfl t f o<=4096 then 0 else 160:=by rw [ZN,if_pos h0]
  have hC:Za7 t f o=if ZN t f o=0 then (Zfl t f o:Int) else 0:=rfl
  rw [hC,hN]
  have hwin:=h.win
  have hfw:((ZcG (QC f o):Nat):Int)=f.Window.To - f.Window.From:=by have:=h.first;unfold ZcG;omega
  have hlb:=h.bounds
  have hall:=h.all
  have hm:Zfl t f o=QH (QC f o::YM t f o):=rfl
  rw [hm]
  generalize YM t f o=pL at hpl hlb hall
  generalize QC f o=fb at hfw hall
  obtain ⟨bl,hbl⟩:∃bl,bl=ZF pL:=⟨_,rfl⟩
  have hbl':bl.length=pL.length:=by rw [hbl];simp [ZF]
  rw [<-hbl] at hpl
  clear h h0 hN hC hm
  refine Zb (clo:=λ _=>false) (rows:=false) Zg Tryz.func197 rfl (enters_of Tryz.func197 (by kernel_rfl) rfl) (λ A q P Y hr hA hq=>?_)
  obtain ⟨ss,cs,ws,ms,ks,nv,hss,hcs,hws,hms,hks,hnv,htab⟩:=Qd t
  rw [htab] at hpl ⊢
  obtain ⟨f1,f2,f3,f4,f5,⟨f6,f7⟩,f8⟩:=f
  obtain ⟨fl,hfl⟩:∃fl,fl=Zd f5:=⟨_,rfl⟩
  rw [Zs _ hfl] at hpl ⊢
  obtain ⟨o1,o2,o3,o4⟩:=o
  simp only at hpl hwin hfw ⊢
  have e1:A.iSub f7 f6=f7 - f6:=ZbJ hA _ _
  have bad:¬QH (fb::pL)<=4096->PV.tup [.int .i64 0,.int .i64 160]=q:=λ hn=>by rw [<-hq,if_neg hn];rfl
  have good:∀n:Int,n=(QH (fb::pL):Nat)->n<=4096->PV.tup [.int .i64 n,.int .i64 0]=q:=λ n h1 h2=>by
   have h3:QH (fb::pL)<=4096:=by omega
   rw [<-hq,h1]
   simp [h3]
  clear hq
  conv=>cbv
  refine Za hA (hpl) ?_
  conv=>cbv
  split
  ·rename_i hc
   cases (neT hA hc rfl)
  conv=>cbv
  refine ⟨Zy hA e1 (by unfold Zj;omega),?_⟩
  refine Zi hA (λ (z:Int × Int) s=>(s.put (some 11) (.val (.int .i64 z.1))).put (some 10) (.val (.int .i64 z.2))) (λ z=>0<=z.1/\z.1<=pL.length/\z.2=(QH (fb::pL.take z.1.toNat):Nat)/\z.2<=4096) (λ z=>((pL.length:Int) - z.1).toNat) (0,A.iSub f7 f6) ?_ ?_ ?_
  ·conv=>cbv
   exact Zk
  ·refine ⟨Zyk _,by omega,?_,?_⟩
   ·show A.iSub f7 f6=_
    rw [e1];simp [QH];omega
   ·show A.iSub f7 f6<=4096
    rw [e1];omega
  rintro R ⟨i,n⟩ ⟨hi0,hi1,hn,hn4⟩ hR
  simp only at hi0 hi1 hn hn4
  conv=>cbv
  split
  ·rename_i hc
   have hi:i<pL.length:=ZE hA rfl (Zl hA hbl') hc
   have his:A.iAdd i 1=i+1:=Z5 hA _ _
   have hir:A.inR (A.iAdd i 1):=Zy hA his (by unfold Zj;omega)
   obtain ⟨b,hb0⟩:∃b,pL[i.toNat]?=some b:=⟨pL[i.toNat]'(by omega),Zya (by omega)⟩
   have hbb:=hlb.1 b (Zyb hb0)
   have ht:=Zo hi0 hb0
   have hwb:((ZcG b:Nat):Int)=b.Hi - b.Lo+1:=by unfold ZcG;omega
   have hp:QH (fb::pL.take (i+1).toNat)=QH (fb::pL.take i.toNat)*ZcG b:=by
    rw [ht,<-Zzq,Zex];simp [QH]
   have hd:QH (fb::pL)=QH (fb::pL.take (i+1).toNat)*QH (pL.drop (i+1).toNat):=by
    rw [<-Zex,Zzq,ZyI]
   have hdp:1<=QH (pL.drop (i+1).toNat):=Zic λ c hc=>(hlb.1 c (List.mem_of_mem_drop hc)).2.1
   obtain ⟨c1,c2⟩:=b
   simp only at hbb hwb
   have a1:A.iSub c2 c1=c2 - c1:=ZbJ hA _ _
   have a2:A.iAdd (A.iSub c2 c1) 1=c2 - c1+1:=by rw [Z5 hA,a1]
   have a3:A.iMul n (A.iAdd (A.iSub c2 c1) 1)=(QH (fb::pL.take (i+1).toNat):Nat):=by
    rw [Zkb hA,a2,hp,Int.natCast_mul,<-hn,hwb]
   have hn0:0<=n:=by rw [hn];omega
   have hu:n*(c2 - c1+1)<=4096*5000:=Z0y hn4 (by omega) (by omega) (by omega)
   have a4:A.iMul n (A.iAdd (A.iSub c2 c1) 1)=n*(c2 - c1+1):=by rw [Zkb hA,a2]
   have hl:0<=n*(c2 - c1+1):=Int.mul_nonneg hn0 (by omega)
   conv=>cbv
   refine ⟨Zm hA (by kernel_rfl),?_⟩
   refine Zc8 hA hbl hi0 hi (λ z hz=>?_)
   obtain rfl:=Zyc ((hb0).symm.trans hz)
   conv=>cbv
   refine Zc8 hA hbl hi0 hi (λ z hz=>?_)
   obtain rfl:=Zyc ((hb0).symm.trans hz)
   conv=>cbv
   refine ⟨Zy hA a1 (by unfold Zj;omega),Zy hA a2 (by unfold Zj;omega),Zy hA a4 (by unfold Zj;omega),?_⟩
   split
   ·rename_i hc
    have h1:=ZE hA rfl a3 hc
    conv=>cbv
    refine bad ?_
    rw [hd]
    have h2:QH (fb::pL.take (i+1).toNat)*1<=QH (fb::pL.take (i+1).toNat)*QH (pL.drop (i+1).toNat):=Nat.mul_le_mul_left _ hdp
    omega
   ·rename_i hc
    have h1:=ZK hA rfl a3 hc
    conv=>cbv
    refine ⟨hir,hR (A.iAdd i 1,A.iMul n (A.iAdd (A.iSub c2 c1) 1)) _ ?_ ?_ ?_⟩
    ·conv=>cbv
     exact Zk
    ·show 0<=A.iAdd i 1/\A.iAdd i 1<=pL.length/\A.iMul n (A.iAdd (A.iSub c2 c1) 1)=(QH (fb::pL.take (A.iAdd i 1).toNat):Nat)/\A.iMul n (A.iAdd (A.iSub c2 c1) 1)<=4096
     rw [his]
     exact ⟨by omega,by omega,a3,by rw [a3];exact h1⟩
    ·show ((pL.length:Int) - A.iAdd i 1).toNat<((pL.length:Int) - i).toNat
     rw [his];omega
  ·rename_i hc
   have hi:pL.length<=i:=ZK hA rfl (Zl hA hbl') hc
   rw [Zyl (by omega)] at hn
   conv=>cbv
   exact good n hn hn4
 ·rw [Zmj,if_neg h0] at hpl
  have hE:ZN t f o=Zaf t f o:=by rw [ZN,if_neg h0]
  have hN:Za7 t f o=0:=by rw [Za7,hE,if_neg h0]
  rw [hE,hN]
  generalize Zaf t f o=e at hpl h0
  refine Zb (clo:=λ _=>false) (rows:=false) Zg Tryz.func197 rfl (enters_of Tryz.func197 (by kernel_rfl) rfl) (λ A q P Y hr hA hq=>?_)
  obtain ⟨ss,cs,ws,ms,ks,nv,hss,hcs,hws,hms,hks,hnv,htab⟩:=Qd t
  rw [htab] at hpl ⊢
  obtain ⟨f1,f2,f3,f4,f5,⟨f6,f7⟩,f8⟩:=f
  obtain ⟨fl,hfl⟩:∃fl,fl=Zd f5:=⟨_,rfl⟩
  rw [Zs _ hfl] at hpl ⊢
  obtain ⟨o1,o2,o3,o4⟩:=o
  simp only at hpl ⊢
  conv=>cbv
  refine Za hA (hpl) ?_
  conv=>cbv
  split
  rotate_left
  ·rename_i hc
   cases ((h0 (neF hA hc)))
  conv=>cbv
  exact hq
open Go.Proofs Go.RowKit
instance:DecidableEq Qo:=λ a b=>decidable_of_iff (a.Way=b.Way/\a.Times=b.Times) ⟨λ h=>by cases a;cases b;simp only at h;rw [h.1,h.2],λ h=>by rw [h];exact ⟨rfl,rfl⟩⟩
theorem Zpd (t:Zh) (f:Flight) (o:Opt) (most:Int):Zc Tryz.prog 145 [Zn t,Zx f,Z2 o,.int .i64 most] (.bool (!decide (ZN t f o=0) || decide (Za7 t f o<=most))):=by
 have hcnt:=ZiI t f o
 generalize Za7 t f o=n at hcnt
 generalize ZN t f o=e at hcnt
 refine Zb (clo:=λ _=>false) (rows:=false) Zg Tryz.func145 rfl (enters_of Tryz.func145 (by kernel_rfl) rfl) (λ A q P Y hr hA hq=>?_)
 obtain ⟨ss,cs,ws,ms,ks,nv,hss,hcs,hws,hms,hks,hnv,htab⟩:=Qd t
 rw [htab] at hcnt ⊢
 obtain ⟨f1,f2,f3,f4,f5,⟨f6,f7⟩,f8⟩:=f
 obtain ⟨fl,hfl⟩:∃fl,fl=Zd f5:=⟨_,rfl⟩
 rw [Zs _ hfl] at hcnt ⊢
 obtain ⟨o1,o2,o3,o4⟩:=o
 simp only at hcnt ⊢
 conv=>cbv
 refine Za hA (hcnt) ?_
 conv=>cbv
 split
 ·rename_i hc
  have h1:=neT hA hc
  conv=>cbv
  rw [<-hq,Zyr h1];rfl
 ·rename_i hc
  have h1:=neF hA hc
  conv=>cbv
  refine Eq.trans ?_ hq
  show PV.bool (A.iLe n most)=_
  rw [Zyq h1]
  subst hA;rfl
open Go.RowKit
def Old (w:World) (a:Addr):Prop:=a.block<w.heap.size
def Rd {α:Type} (P:Program) (t:TypeId) (enc:α->PV) (ok:α->Prop):Prop :=
 ∀(H:Type) (en:TypeId × Value->H) (w:World) (sp:Nat->Bool) (held:Bool) (fuel:Nat) (cs:List Value) (x:DataW H × List MemPlace),
  DataW.trod en P w 0 sp held fuel t cs=some x->∃a,ok a/\RVs (Old w) w (enc a).cells cs/\∀v∈cs,v.oneCell'=true
theorem Zv8 (a:Addr) (i j:Nat):(a.add i).add j=a.add (i+j):=by
 obtain ⟨b,o,sp⟩:=a
 simp only [Addr.add]
 by_cases hi:i=0
 ·subst hi;simp
 ·by_cases hj:j=0
  ·subst hj;simp [hi]
  ·simp [hi,hj,Zz6]
theorem RVs.one {S:Addr->Prop} {w:World} {p:PV} {v:Value} (h:RV S w p v):RVs S w [p] [v]:=RVs.cons h RVs.nil
theorem RVs.of_one {S:Addr->Prop} {w:World} {p:PV} {v:Value} (h:RVs S w [p] [v]):RV S w p v:=h.2 0 p v rfl rfl
section
variable {P:Program} {t e:TypeId}
theorem Zuh {k:IntKind} (ht:P.underlying t=some (.int k)):Rd P t (PV.int k) λ n=>(Lit.int k n).wf=true:=by
 intro H en w sp held fuel cs x h
 obtain ⟨n,rfl,_,hw⟩:=DataW.trod_int ht h
 exact ⟨n,hw,RVs.one (.int _ _),by simp [Value.oneCell']⟩
theorem Zv9 (ht:P.underlying t=some .bool):Rd P t PV.bool λ _=>True:=by
 intro H en w sp held fuel cs x h
 obtain ⟨b,rfl,_⟩:=DataW.trod_bool ht h
 exact ⟨b,trivial,RVs.one (.bool _),by simp [Value.oneCell']⟩
theorem Zw9 (ht:P.underlying t=some .string):Rd P t PV.str λ s=>s.size<=maxLen:=by
 intro H en w sp held fuel cs x h
 obtain ⟨s,rfl,_,hw⟩:=DataW.trod_string ht h
 exact ⟨s,hw,RVs.one (.str _),by simp [Value.oneCell']⟩
theorem Zmk {α:Type} {Q:Nat->α->Prop}:∀(n:Nat),(∀i,i<n->∃a,Q i a)->∃l:List α,l.length=n/\∀i a,l[i]?=some a->Q i a
 | 0,_=>⟨[],rfl,λ i a h=>by simp at h⟩
 | n+1,h=>by
  obtain ⟨l,h1,h2⟩:=Zmk n λ i hi=>h i (by omega)
  obtain ⟨a,ha⟩:=h n (by omega)
  refine ⟨l++[a],by simp [h1],λ i b hb=>?_⟩
  by_cases hi:i<l.length
  ·rw [Zye hi] at hb
   exact h2 i b hb
  ·rw [Zyd (by omega)] at hb
   have:i - l.length=0:=by
    by_cases h0:i - l.length=0
    ·exact h0
    ·rw [Zyw (by simp;omega)] at hb;cases hb
   rw [this] at hb
   simp at hb
   subst hb
   have:i=n:=by omega
   subst this
   exact ha
theorem ZaP {α:Type} {enc:α->PV} {ok:α->Prop} {m:Nat} (ht:P.underlying t=some (.slice e)) (hm:P.cellsOf e=m) (hm0:0<m) (hr:Rd P e enc ok) :
  Rd P t (λ l:List α=>.list m (l.map enc)) λ l=>∀x∈l,ok x:=by
 intro H en w sp held fuel cs x h
 rcases DataW.trod_slice ht h with ⟨rfl,_⟩ | ⟨a,len,cap,elems,rest,n,_,rfl,_,_,h1,h2,h3,h4,_⟩
 ·refine ⟨[],by simp,RVs.one ?_,by simp [Value.oneCell']⟩
  exact .list m [] none ⟨0,0,none⟩ 0 (λ _ _=>.int .i64 0) (by simp) (by simp) (by decide) (by simp) (by simp) (by simp) (λ _=>rfl)
 ·have hel:∀i,i<len->∃y:α × List Value,ok y.1/\RVs (Old w) w (enc y.1).cells y.2/\(∀v∈y.2,v.oneCell'=true)/\w.cells? 0 (a.add (i*P.cellsOf e)) (P.cellsOf e)=some y.2:=by
   intro i hi
   have h5:=h4 i hi
   rw [Zya (by omega),Option.bind_eq_some_iff] at h5
   obtain ⟨cs',h6,h7⟩:=h5
   obtain ⟨y,k1,k2,k3⟩:=hr H en w sp held n cs' _ h7
   exact ⟨(y,cs'),k1,k2,k3,h6⟩
  obtain ⟨l,hl,hq⟩:=Zmk len hel
  subst hm
  have hcell:∀(i:Nat) (y:α × List Value) (j:Nat) (c:PV),l[i]?=some y->(enc y.1).cells[j]?=some c->∃v,y.2[j]?=some v/\RV (Old w) w c v/\v.oneCell'=true/\w.cell? (a.add (i*P.cellsOf e+j))=some v:=by
   intro i y j c hy hc
   obtain ⟨q1,q2,q3,q4⟩:=hq i y hy
   obtain ⟨_,q5,q6⟩:=World.cells?_some q4
   have hj:j<y.2.length:=by rw [<-q2.1];exact (ZxZ.1 hc).1
   refine ⟨y.2[j],Zya hj,q2.2 j c _ hc (Zya hj),q3 _ (Zzg hj),?_⟩
   rw [<-Zv8,q6 j (by omega),Zya hj]
  have hget:∀(i:Nat) (p:PV),((l.map (·.1)).map enc)[i]?=some p->∃y,l[i]?=some y/\p=enc y.1:=by
   intro i p hp
   rw [Zz8,Zyh,ZyG] at hp
   obtain ⟨y,hy,rfl⟩:=hp
   exact ⟨y,hy,rfl⟩
  refine ⟨l.map (·.1),?_,RVs.one ?_,by simp [Value.oneCell']⟩
  ·intro y hy
   rw [Zyz] at hy
   obtain ⟨z,hz,rfl⟩:=hy
   obtain ⟨i,hi⟩:=ZyF hz
   exact (hq i z hi).1
  ·have hlen:((l.map (·.1)).map enc).length=len:=by simp [hl]
   rw [<-hlen]
   refine .list _ _ _ a cap (λ i j=>((l[i]?.map (·.2)).getD []).getD j (.int .i64 0)) (λ _=>rfl) (by omega) h2 ?_ ?_ ?_ (λ h=>absurd h (Nat.ne_of_gt hm0))
   ·intro i p hp
    obtain ⟨y,hy,rfl⟩:=hget i p hp
    obtain ⟨q1,q2,q3,q4⟩:=hq i y hy
    rw [q2.1]
    exact (World.cells?_some q4).2.1
   ·intro i p j c hp hc
    obtain ⟨y,hy,rfl⟩:=hget i p hp
    obtain ⟨v,v1,v2,v3,v4⟩:=hcell i y j c hy hc
    have e1:((l[i]?.map (·.2)).getD []).getD j (.int .i64 0)=v:=by rw [hy];simp [v1]
    rw [e1]
    refine ⟨?_,v4,v3⟩
    have:=World.block_lt_of_cell? w _ v4
    simpa [Old] using this
   ·intro i p j c hp hc
    obtain ⟨y,hy,rfl⟩:=hget i p hp
    obtain ⟨v,v1,v2,v3,v4⟩:=hcell i y j c hy hc
    have e1:((l[i]?.map (·.2)).getD []).getD j (.int .i64 0)=v:=by rw [hy];simp [v1]
    rw [e1]
    exact v2
def Zml (P:Program):Nat->List Field->Nat->Bool
 | o,[],n=>decide (o=n)
 | o,f::r,n=>decide (f.offset=o)&&Zml P (o+P.cellsOf f.type) r n
theorem Zhw:∀{l:List Field} {o n:Nat} {cs:List Value},Zml P o l n=true->cs.length=n->∃ps:List (List Value),ps.length=l.length/\cs.drop o=ps.flatten/\∀(i:Nat) (f:Field),l[i]?=some f->ps[i]?=some ((cs.drop f.offset).take (P.cellsOf f.type))
 | [],o,n,cs,h,hl=>by
  simp [Zml] at h
  exact ⟨[],rfl,by rw [ZzP (by omega)];rfl,by simp⟩
 | f::r,o,n,cs,h,hl=>by
  simp only [Zml,Zyi,Zyf] at h
  obtain ⟨ps,h1,h2,h3⟩:=Zhw h.2 hl
  refine ⟨((cs.drop f.offset).take (P.cellsOf f.type))::ps,by simp [h1],?_,λ i g hg=>?_⟩
  ·rw [ZzL,<-h2,<-h.1,<-List.drop_drop,ZyI]
  ·cases i with
   | zero=>simp at hg;subst hg;rfl
   | succ i=>simpa using h3 i g (by simpa using hg)
theorem Zpe {fs:Array Field} (ht:P.underlying t=some (.struct fs)) (hti:Zml P 0 fs.toList (P.cellsOf t)=true) {H:Type} {en:TypeId × Value->H} {w:World} {sp:Nat->Bool} {held:Bool} {fuel:Nat} {cs:List Value} {x:DataW H × List MemPlace}
  (h:DataW.trod en P w 0 sp held fuel t cs=some x):∃(ps:List (List Value)) (n:Nat),ps.length=fs.toList.length/\cs=ps.flatten/\∀(i:Nat) (f:Field),fs.toList[i]?=some f->∃p y,ps[i]?=some p/\DataW.trod en P w 0 sp held n f.type p=some y:=by
 obtain ⟨xs,n,_,_,h1,h2,h3⟩:=DataW.trod_struct ht h
 obtain ⟨ps,k1,k2,k3⟩:=Zhw hti h1
 refine ⟨ps,n,k1,by simpa using k2,λ i f hf=>?_⟩
 have hi:i<fs.toList.length:=(ZxZ.1 hf).1
 have hx:i<xs.length:=by rw [h2];simpa using hi
 refine ⟨_,xs[i],k3 i f hf,?_⟩
 rw [h3 i f (by simpa using hf),Zya hx]
def RdL {α:Type} (P:Program) (ts:List Field) (enc:α->List PV) (ok:α->Prop):Prop :=
 ∀(H:Type) (en:TypeId × Value->H) (w:World) (sp:Nat->Bool) (held:Bool) (n:Nat) (ps:List (List Value)),ps.length=ts.length ->
  (∀(i:Nat) (f:Field),ts[i]?=some f->∃p y,ps[i]?=some p/\DataW.trod en P w 0 sp held n f.type p=some y) ->
  ∃a,ok a/\RVs (Old w) w (enc a) ps.flatten/\∀v∈ps.flatten,v.oneCell'=true
theorem ZbB:RdL P [] (λ _:Unit=>[]) λ _=>True:=by
 intro H en w sp held n ps h1 h2
 match ps,h1 with
 | [],_=>exact ⟨(),trivial,RVs.nil,by simp⟩
theorem ZA {A B:Type} {a:A->PV} {oka:A->Prop} {b:B->List PV} {okb:B->Prop} {f:Field} {r:List Field} (ra:Rd P f.type a oka) (rb:RdL P r b okb) :
  RdL P (f::r) (λ x:A × B=>(a x.1).cells++b x.2) λ x=>oka x.1/\okb x.2:=by
 intro H en w sp held n ps h1 h2
 match ps,h1 with
 | p::ps,h1 =>
  obtain ⟨p0,y0,e0,t0⟩:=h2 0 f rfl;simp at e0;subst e0
  obtain ⟨a0,o0,r0,s0⟩:=ra H en w sp held n _ _ t0
  obtain ⟨b0,o1,r1,s1⟩:=rb H en w sp held n ps (by simpa using h1) λ i g hg=>by simpa using h2 (i+1) g (by simpa using hg)
  refine ⟨(a0,b0),⟨o0,o1⟩,?_,?_⟩
  ·rw [ZzL];exact r0.append r1
  ·intro v hv
   rw [ZzL,Zy4] at hv
   rcases hv with hv | hv
   ·exact s0 v hv
   ·exact s1 v hv
theorem Zav {α B:Type} {enc:α->PV} {ok:α->Prop} {b:B->List PV} {okb:B->Prop} {fs:Array Field} (ht:P.underlying t=some (.struct fs)) (hti:Zml P 0 fs.toList (P.cellsOf t)=true)
  (rb:RdL P fs.toList b okb) (mk:∀x,okb x->∃y,ok y/\(enc y).cells=b x):Rd P t enc ok:=by
 intro H en w sp held fuel cs x h
 obtain ⟨ps,n,h1,rfl,h3⟩:=Zpe ht hti h
 obtain ⟨z,k1,k2,k3⟩:=rb H en w sp held n ps h1 h3
 obtain ⟨y,y1,y2⟩:=mk z k1
 exact ⟨y,y1,by rw [y2];exact k2,k3⟩
end
section
variable {P:Program} {ts:Array TypeId} {vs:Array Value} {t:TypeId} {w:World} {r:Reach} {b0:Nat} {v:Value} {H:Type} {en:TypeId × Value->H} {sp:Nat->Bool} {held:Bool} {d:DataW H} {ps:List MemPlace} {α:Type} {enc:α->PV} {ok:α->Prop}
theorem Zmm (hv:v.cells.toList=[v]) (h1:∀a,(enc a).cells=[enc a]) (hr:Rd P t enc ok) (h:DataW.Trod en P w 0 sp held t v d ps):∃a,ok a/\RV (Old w) w (enc a) v:=by
 obtain ⟨fuel,hf⟩:=h
 obtain ⟨a,k1,k2,_⟩:=hr H en w sp held fuel _ _ hf
 rw [hv,h1] at k2
 exact ⟨a,k1,k2.of_one⟩
theorem Zdr {k:IntKind} (ht:P.underlying t=some (.int k)) (hval:∀(j:Nat) t v,ts[j]?=some t->vs[j]?=some v->Value.okWide P w r b0 t v) (j:Nat) (h1t:ts[j]?=some t) (h1v:vs[j]?=some v) (h:DataW.Trod en P w 0 sp held t v d ps):∃n,(Lit.int k n).wf=true/\RV (Old w) w (.int k n) v:=by
 obtain ⟨n,rfl⟩:=WideShapes.okWide_int ht (hval j _ _ h1t h1v)
 exact Zmm rfl (λ _=>rfl) (Zuh ht) h
theorem ZwN {e:TypeId} (ht:P.underlying t=some (.slice e)) (hval:∀(j:Nat) t v,ts[j]?=some t->vs[j]?=some v->Value.okWide P w r b0 t v) (j:Nat) (h1t:ts[j]?=some t) (h1v:vs[j]?=some v) (hr:Rd P t enc ok) (h1:∀a,(enc a).cells=[enc a]) (h:DataW.Trod en P w 0 sp held t v d ps):∃a,ok a/\RV (Old w) w (enc a) v:=by
 obtain ⟨a,len,cap,rfl⟩:=WideShapes.okWide_slice ht (hval j _ _ h1t h1v)
 exact Zmm rfl h1 hr h
theorem QV {fs:Array Field} (ht:P.underlying t=some (.struct fs)) (hval:∀(j:Nat) t v,ts[j]?=some t->vs[j]?=some v->Value.okWide P w r b0 t v) (j:Nat) (h1t:ts[j]?=some t) (h1v:vs[j]?=some v) (hr:Rd P t enc ok) (h1:∀a,enc a=.agg (enc a).cells) (h:DataW.Trod en P w 0 sp held t v d ps):∃a,ok a/\RV (Old w) w (enc a) v:=by
 obtain ⟨cs,rfl,_⟩:=WideShapes.okWide_struct ht (hval j _ _ h1t h1v)
 obtain ⟨fuel,hf⟩:=h
 obtain ⟨a,k1,k2,_⟩:=hr H en w sp held fuel _ _ hf
 refine ⟨a,k1,?_⟩
 rw [h1]
 exact .agg _ cs.toList k2.1 k2.2
end
open Go.Proofs Go.RowKit
def okI (n:Int):Prop:=(Lit.int .i64 n).wf=true
def ZqX (l:List Int):Prop:=∀x∈l,okI x
def okS (s:ByteArray):Prop:=s.size<=maxLen
def ZwA (l:List ByteArray):Prop:=∀x∈l,okS x
def Zij (s:Y2):Prop:=okI s.From/\okI s.To/\True
def Zko (s:Qy):Prop:=okS s.Name/\ZwA s.Names/\ZqX s.Volumes/\okI s.Radar/\okI s.Procedural/\True
def Zkp (s:Config):Prop:=okS s.Name/\ZwA s.Names/\ZqX s.Sectors/\True
def Zui (s:Leg):Prop:=okI s.Segment/\okI s.Volume/\okI s.Length/\(∀x∈s.Minutes,Zij x)/\True
def Zuj (s:Way):Prop:=okI s.From/\okI s.To/\(∀x∈s.Legs,Zui x)/\True
def ZqY (s:Y3):Prop:=okI s.Slow/\okI s.Fast/\okI s.Places/\okI s.Weight/\okI s.Longest/\(∀x∈s.Curfews,∀y∈x,Zij y)/\True
def Zfr (t:Zh):Prop:=okI t.Volumes/\(∀x∈t.Sectors,Zko x)/\(∀x∈t.Configs,Zkp x)/\(∀x∈t.Ways,Zuj x)/\(∀x∈t.Modes,ZqX x)/\(∀x∈t.Kinds,ZqY x)/\True
theorem ZaH:Rd Tryz.prog 3 Z7 okI:=Zuh Tryz.underlying3
theorem ZrM:Rd Tryz.prog 9 ZtR okS:=Zw9 Tryz.underlying9
theorem Zkq:Rd Tryz.prog 29 ZbX ZqX:=ZaP Tryz.underlying29 (by kernel_rfl) (by decide) ZaH
theorem ZvA:Rd Tryz.prog 25 (λ l=>.list 1 (Z0 l)) λ l=>∀x∈l,ZqX x:=ZaP Tryz.underlying25 (by kernel_rfl) (by decide) Zkq
theorem Zuk:Rd Tryz.prog 208 (λ l=>.list 1 (ZbW l)) ZwA:=ZaP Tryz.underlying208 (by kernel_rfl) (by decide) ZrM
theorem Zul:Rd Tryz.prog 31 Y8 Zij :=
 Zav Tryz.underlying31 (by kernel_rfl) (ZA ZaH (ZA ZaH ZbB)) λ ⟨a,b,()⟩ h=>⟨⟨a,b⟩,h,rfl⟩
theorem ZrN:Rd Tryz.prog 58 ZdO λ l=>∀x∈l,Zij x:=ZaP Tryz.underlying58 (by kernel_rfl) (by decide) Zul
theorem Zum:Rd Tryz.prog 91 (λ l=>.list 1 (Z3 l)) λ l=>∀x∈l,∀y∈x,Zij y:=ZaP Tryz.underlying91 (by kernel_rfl) (by decide) ZrN
theorem Zun:Rd Tryz.prog 210 Ys Zko :=
 Zav Tryz.underlying210 (by kernel_rfl) (ZA ZrM (ZA Zuk (ZA Zkq (ZA ZaH (ZA ZaH ZbB))))) λ ⟨a,b,c,d,e,()⟩ h=>⟨⟨a,b,c,d,e⟩,h,rfl⟩
theorem ZsH:Rd Tryz.prog 22 (λ l=>.list 5 (ZI l)) λ l=>∀x∈l,Zko x:=ZaP Tryz.underlying22 (by kernel_rfl) (by decide) Zun
theorem Zuo:Rd Tryz.prog 212 Zao Zkp :=
 Zav Tryz.underlying212 (by kernel_rfl) (ZA ZrM (ZA Zuk (ZA Zkq ZbB))) λ ⟨a,b,c,()⟩ h=>⟨⟨a,b,c⟩,h,rfl⟩
theorem ZsI:Rd Tryz.prog 23 (λ l=>.list 3 (Qh l)) λ l=>∀x∈l,Zkp x:=ZaP Tryz.underlying23 (by kernel_rfl) (by decide) Zuo
theorem Zxi:Rd Tryz.prog 60 Zac Zui :=
 Zav Tryz.underlying60 (by kernel_rfl) (ZA ZaH (ZA ZaH (ZA ZaH (ZA ZrN ZbB)))) λ ⟨a,b,c,d,()⟩ h=>⟨⟨a,b,c,d⟩,h,rfl⟩
theorem ZwB:Rd Tryz.prog 53 (λ l=>.list 4 (Qp l)) λ l=>∀x∈l,Zui x:=ZaP Tryz.underlying53 (by kernel_rfl) (by decide) Zxi
theorem Zxj:Rd Tryz.prog 55 Zb8 Zuj :=
 Zav Tryz.underlying55 (by kernel_rfl) (ZA ZaH (ZA ZaH (ZA ZwB ZbB))) λ ⟨a,b,c,()⟩ h=>⟨⟨a,b,c⟩,h,rfl⟩
theorem ZwC:Rd Tryz.prog 24 (λ l=>.list 3 (Q3 l)) λ l=>∀x∈l,Zuj x:=ZaP Tryz.underlying24 (by kernel_rfl) (by decide) Zxj
theorem ZwD:Rd Tryz.prog 93 ZU ZqY :=
 Zav Tryz.underlying93 (by kernel_rfl) (ZA ZaH (ZA ZaH (ZA ZaH (ZA ZaH (ZA ZaH (ZA Zum ZbB)))))) λ ⟨a,b,c,d,e,f,()⟩ h=>⟨⟨a,b,c,d,e,f⟩,h,rfl⟩
theorem ZvB:Rd Tryz.prog 26 (λ l=>.list 6 (ZY l)) λ l=>∀x∈l,ZqY x:=ZaP Tryz.underlying26 (by kernel_rfl) (by decide) ZwD
theorem Zhx:Rd Tryz.prog 28 Zn Zfr :=
 Zav Tryz.underlying28 (by kernel_rfl) (ZA ZaH (ZA ZsH (ZA ZsI (ZA ZwC (ZA ZvA (ZA ZvB ZbB)))))) λ ⟨a,b,c,d,e,f,()⟩ h=>⟨⟨a,b,c,d,e,f⟩,h,rfl⟩
open Go.ChangeShapes Go.RowKit
section
variable {H:Type} {enc:TypeId × Value->H} {P:Program} {W W':World}
theorem Zgl (hl:laidOutB P=true) (hb:Below W.heap.size W W') {sp:Nat->Bool}:∀{ts:List TypeId} {vs:List Value} {ds:List (DataW H)} {ps:List MemPlace},(∀t∈ts,P.readableRec t=true/\t<P.types.size) ->
  DataW.TrodAll enc P W 0 (λ _=>true) true ts vs ds ps->(∀x∈ps,x.block<W.heap.size)->(∀x∈ps,sp x.block=true)->DataW.TrodAll enc P W' 0 sp true ts vs ds ps
 | [],_,_,_,_,h,_,_=>by
  obtain ⟨rfl,rfl,rfl⟩:=trodAll_nil h
  exact trodAll_mk0
 | t::ts,_,_,_,ht,h,hlt,hs=>by
  obtain ⟨v,vs,d,ds,p,q,rfl,rfl,rfl,h1,h2⟩:=trodAll_cons h
  have k:=ht t (by simp)
  exact trodAll_cons_mk (WideElems.Trod_stays hl k.1 k.2 h1 (λ x hx=>hb.same (hlt x (by simp [hx]))) λ x hx=>hs x (by simp [hx]))
   (Zgl hl hb (λ t' h'=>ht t' (by simp [h'])) h2 (λ x hx=>hlt x (by simp [hx])) λ x hx=>hs x (by simp [hx]))
theorem ZiJ {sp:Nat->Bool} {held:Bool} {b:Nat}:∀{ts:List TypeId} {vs:List Value} {ds:List (DataW H)} {ps:List MemPlace},DataW.TrodAll enc P W b sp held ts vs ds ps->ds.length=ts.length
 | [],_,_,_,h=>by obtain ⟨_,rfl,_⟩:=trodAll_nil h;rfl
 | _::_,_,_,_,h=>by
  obtain ⟨v,vs,d,ds,p,q,rfl,rfl,rfl,h1,h2⟩:=trodAll_cons h
  simp [ZiJ h2]
theorem Zc0 {f:FuncId} {fn:Func} {s:ChangeSpec} {tb:TypeId} (hl:laidOutB P=true) (hpar:∀t∈fn.params.toList,P.readableRec t=true/\t<P.types.size) (hvars:s.vars=[])
  (hfn:∀ds:List (DataW H),ds.length=fn.params.toList.length->s.fn H ds={ results:=[.lit (.bool true)],args:=ds }) (hres:fn.resultTypes=#[tb]) (htb:P.underlying tb=some .bool)
  {args:Array Value} {ds gs:List (DataW H)} {before:List MemPlace} (hW:DataW.Whole enc P fn.params.toList s.vars false W args.toList ds gs before)
  {ps:List PV} (hc:Zc P f ps (.bool true)) (hr:RVs (Old W) W ps args.toList) :
  Calls P f args W λ e W'=>∃v,e=.returned v/\s.post enc P fn false true false false W args v W':=by
 have hcalls:=hc.2 (Old W) W args.toList (λ _ h=>h) hr
 rw [ZzJ] at hcalls
 refine hcalls.mono λ e W1 h=>?_
 obtain ⟨v,rfl,hb,hv⟩:=h
 cases hv
 refine ⟨_,rfl,?_⟩
 have hlt:∀x∈before,x.block<W.heap.size:=λ x hx=>hW.lt x hx
 have hW0:=hW
 obtain ⟨p,q,hA,hV,rfl,hz,_⟩:=hW
 rw [hvars] at hV
 obtain ⟨rfl,rfl⟩:=trodVars_none hV
 have hf:s.fn H (ds++[])={ results:=[.lit (.bool true)],args:=ds }:=by rw [Zzp];exact hfn ds (ZiJ hA)
 have hargs:∀sp:Nat->Bool,(∀x∈p++[],sp x.block=true)->DataW.TrodAll enc P W1 0 sp true fn.params.toList args.toList ds p:=λ sp hs =>
  Zgl hl hb hpar hA (λ x hx=>hlt x (by simp [hx])) λ x hx=>hs x (by simp [hx])
 have hresT:∀(b:Nat) (sp:Nat->Bool) (hd:Bool),DataW.TrodAll enc P W1 b sp hd fn.resultTypes.toList ((Value.bool true).resultList fn.resultTypes.size) [.lit (.bool true)] []:=λ b sp hd=>by
  rw [hres]
  exact trodAll_cons_mk (shut_bool htb _) trodAll_mk0
 have hva:∀sp:Nat->Bool,DataW.TrodVars enc P W1 sp s.vars [] []:=λ sp=>by rw [hvars];rfl
 have hold:∀x∈p++[],(λ b=>decide (b<W.heap.size)) x.block=true:=λ x hx=>by simpa using hlt x hx
 refine ⟨ds,[],p++[],[],p,[],hW0,?_,?_,?_,World.keptBut_mono (λ x hx=>⟨hx,.inr (by simpa using hx)⟩) (hb.frame (·∈p++[])),λ _=>?_⟩
 ·rw [hf];exact hresT _ _ _
 ·rw [hf];exact hargs _ hold
 ·rw [hf];exact hva _
 ·refine ⟨ok_one hres rfl (okWide_bool_mk htb _),_,_,([]++p)++[],⟨[]++p,[],trodAll_append (hargs _ λ _ _=>rfl) (hresT _ _ _),hva _,rfl,?_,?_⟩,?_⟩
  ·intro b off hp
   have hin:MemPlace.cell b off∈p++[]:=by simpa using hp
   rw [hb.kit.frozen (hlt _ hin)]
   exact hz b off hin
  ·intro h;cases h
  ·intro x hx _
   simpa using hx
end
open Go.Proofs Go.RowKit
def ZvC (b:Bool):PV:=.bool b
def Zfs (f:Flight):Prop:=okI f.ID/\okI f.Airline/\okI f.Class/\okS f.Call/\ZqX f.Ways/\Zij f.Window/\True/\True
def Zup (o:Opt):Prop:=okI o.Delay/\okI o.Way/\okI o.Hold/\True/\True
theorem Zuq:Rd Tryz.prog 4 ZvC λ _=>True:=Zv9 Tryz.underlying4
theorem Zhy:Rd Tryz.prog 33 Zx Zfs :=
 Zav Tryz.underlying33 (by kernel_rfl) (ZA ZaH (ZA ZaH (ZA ZaH (ZA ZrM (ZA Zkq (ZA Zul (ZA Zuq ZbB))))))) λ ⟨a,b,c,d,e,f,g,()⟩ h=>⟨⟨a,b,c,d,e,f,g⟩,h,rfl⟩
theorem Zwe:Rd Tryz.prog 35 Z2 Zup :=
 Zav Tryz.underlying35 (by kernel_rfl) (ZA ZaH (ZA ZaH (ZA ZaH (ZA Zuq ZbB)))) λ ⟨a,b,c,d,()⟩ h=>⟨⟨a,b,c,d⟩,h,rfl⟩
open Go.Proofs Go.RowKit
theorem Zft (t:Zh) (f:Flight) (o:Opt):(ZN t f o≠0/\ZX t f o=[]/\Za7 t f o=0) \/
  (ZN t f o=0/\Zaf t f o=0/\ZX t f o=(Znp t f o).map (λ ts=>⟨ZaF f o,ts⟩)/\Za7 t f o=((ZX t f o).length:Int)/\1<=(ZX t f o).length/\(ZX t f o).length<=4096):=by
 rcases Decidable.em (ZN t f o=0) with h | h
 ·refine .inr ⟨h,(QI h).1,by rw [ZX,if_pos h],?_,?_,?_⟩
  ·rw [Za7,if_pos h,ZX,if_pos h,Zys,ZcK]
  ·rw [ZX,if_pos h,Zys,ZcK]
   obtain ⟨k,w,hp⟩:=Yz (QI h).1
   exact Zic λ b hb=>(hp.all b hb).2.1
  ·rw [ZX,if_pos h,Zys,ZcK]
   exact (QI h).2
 ·exact .inl ⟨h,by rw [ZX,if_neg h],by rw [Za7,if_neg h]⟩
theorem Zur {t:Zh} {f:Flight} {o:Opt} (h:ZN t f o=0) {p:Qo}:p∈ZX t f o↔ZqP t f o p=true:=by
 rw [ZX,if_pos h,Zme (QI h).1,Zyz]
 constructor
 ·rintro ⟨ts,h1,rfl⟩
  exact ⟨rfl,Zhr.1 h1⟩
 ·rintro ⟨h1,h2⟩
  refine ⟨p.Times,Zhr.2 h2,?_⟩
  obtain ⟨w,T⟩:=p
  simp only at h1 ⊢
  rw [h1]
open Go.Proofs Go.RowKit
theorem Zkr {t:Zh} {f:Flight} {o:Opt} (h:ZN t f o=0) {p:Qo} (hp:p∈ZX t f o):p.Way=ZaF f o/\ZbT 0 (QC f o::YM t f o) p.Times :=
 (Zme (QI h).1).1 ((Zur h).1 hp)
theorem Zpf {t:Zh} {f:Flight} {o:Opt} (h:ZN t f o=0):∃k w,Zfk t f o k w/\∀p∈ZX t f o,p.Way=ZaF f o/\p.Times.length=w.Legs.length+1 /\
  ∀(n:Nat) (l:Leg) (x y:Int),w.Legs[n]?=some l->p.Times[n]?=some x->p.Times[n+1]?=some y ->
   1<=y - x - (if n+1=w.Legs.length then o.Hold else 0)/\l.Length<=(y - x - (if n+1=w.Legs.length then o.Hold else 0))*k.Fast/\(y - x - (if n+1=w.Legs.length then o.Hold else 0) - 1)*k.Slow<l.Length /\
   y - x - (if n+1=w.Legs.length then o.Hold else 0)<=4096:=by
 obtain ⟨k,w,hp⟩:=Yz (QI h).1
 refine ⟨k,w,hp,λ p hm=>?_⟩
 obtain ⟨h1,h2⟩:=Zkr h hm
 have h3:=ZsF.1 h2
 rw [hp.leg,Zb0] at h3
 refine ⟨h1,h3.1,λ n l x y hl hx hy=>?_⟩
 have h4:=h3.2.2 n _ x y (ZfM hl) hx hy
 obtain ⟨c1,c2⟩:=hp.lok.2.2 l (Zyb hl)
 have k1:=hp.kok.s1
 have k2:=hp.kok.s2
 unfold Zbd at h4
 simp only at h4
 generalize (if n+1=w.Legs.length then o.Hold else 0)=g at h4 ⊢
 obtain ⟨s1,s2,s3,s4⟩:=YD c1 (show 1<=k.Fast by omega)
 obtain ⟨r1,r2,r3,r4⟩:=YD c1 (show 1<=k.Slow by omega)
 refine ⟨by omega,?_,?_,by omega⟩
 ·refine Int.le_trans s3 (ZzD (by omega) (by omega))
 ·refine Int.lt_of_le_of_lt (ZzD (b:=Qb l.Length k.Slow - 1) (by omega) (by omega)) r4
open Go.Proofs Go.RowKit
theorem Zpg {t:Zh} {f:Flight} {o:Opt} (h:ZN t f o=0) {p:Qo} (hp:p∈ZX t f o):2<=p.Times.length/\p.Times.length<=9/\∀(k:Nat) (x:Int),p.Times[k]?=some x->0<=x/\x<=1600+5000*(k:Int):=by
 obtain ⟨k,w,hP,hd⟩:=Zpf h
 obtain ⟨_,hlen,hd⟩:=hd p hp
 have hlk:=hP.lok
 have hl8:=hlk.2.1
 have hl1:=hlk.1
 refine ⟨by omega,by omega,λ i=>?_⟩
 induction i with
 | zero =>
  intro x hx
  have h2:=(Zkr h hp).2
  have hw:=hP.win
  have hd0:=hP.d0
  cases hT:p.Times with
  | nil=>rw [hT] at hx;cases hx
  | cons y r =>
   rw [hT] at h2 hx
   simp only [ZzZ,Zyu] at hx
   subst hx
   have h3:=h2.1
   simp only [QC] at h3
   omega
 | succ i ih =>
  intro y hy
  have hi1:i+1<p.Times.length:=(ZxZ.1 hy).1
  have hi:i<w.Legs.length:=by omega
  have hx:p.Times[i]?=some p.Times[i]:=Zya (by omega)
  have h1:=ih _ hx
  have h2:=hd i w.Legs[i] p.Times[i] y (Zya hi) hx hy
  have h3:=hP.h0
  push_cast
  split at h2<;>omega
open Go.Proofs Go.RowKit
structure Zus (t:Zh) (p:Qo) (w:Way):Prop where
 w0:0<=p.Way/\p.Way<t.Ways.length
 hw:t.Ways[p.Way.toNat]?=some w
 len:p.Times.length=w.Legs.length+1
 l1:1<=w.Legs.length/\w.Legs.length<=8
 err:QB t p=0
 sty:Yo t p=Zbm w p.Times
 up:∀(i:Nat) (x y:Int),p.Times[i]?=some x->p.Times[i+1]?=some y->x<y
 big:∀x∈p.Times,0<=x/\x<=65535
theorem Zhz:∀(l:List Int) (q:Int),(∀x∈l,0<=x/\x<=65535)->(∀(i:Nat) (x y:Int),l[i]?=some x->l[i+1]?=some y->x<y)->(∀x,l[0]?=some x->q<x)->Qc q l=true
 | [],_,_,_,_=>rfl
 | x::r,q,h1,h2,h3=>by
  have hx:=h1 x (by simp)
  have hq:=h3 x rfl
  simp only [Qc,Zyi,Zyf]
  exact ⟨⟨⟨hx.1,hx.2⟩,hq⟩,Zhz r x (λ y hy=>h1 y (ZyN _ hy)) (λ i a b ha hb=>h2 (i+1) a b (by simpa using ha) (by simpa using hb)) (λ y hy=>h2 0 x y rfl (by simpa using hy))⟩
theorem ZcL {t:Zh} {f:Flight} {o:Opt} (h:ZN t f o=0) {p:Qo} (hp:p∈ZX t f o):∃w,Zus t p w:=by
 obtain ⟨k,w,hP,hd⟩:=Zpf h
 obtain ⟨hway,hlen,hd⟩:=hd p hp
 have hsm:=Zpg h hp
 have hl:=hP.lok
 have hair:=(ZaN hP.chk).1
 have hp0:=hP.p0
 have hhold:=hP.h0
 have up:∀(i:Nat) (x y:Int),p.Times[i]?=some x->p.Times[i+1]?=some y->x<y:=by
  intro i x y hx hy
  have hi:i+1<p.Times.length:=(ZxZ.1 hy).1
  have:=hd i w.Legs[i] x y (Zya (by omega)) hx hy
  have h0:0<=(if i+1=w.Legs.length then o.Hold else 0):=by split<;>omega
  omega
 have big:∀x∈p.Times,0<=x/\x<=65535:=by
  intro x hx
  obtain ⟨i,hi⟩:=ZyO.1 hx
  have h1:=hsm.2.2 i x hi
  have h2:i<p.Times.length:=(ZxZ.1 hi).1
  have h3:=hsm.2.1
  omega
 have hw0:0<=p.Way/\p.Way<t.Ways.length:=by rw [hway];exact hp0
 have hww:t.Ways[p.Way.toNat]?=some w:=by rw [hway];exact hP.hl
 have hok:Yx t.Ways p=true:=by
  unfold Yx
  rw [if_pos hw0.1,hww]
  simp only [Zyi,Zyf]
  exact ⟨hlen,Zhz _ _ big up (λ x hx=>by have:=big x (Zyb hx);omega)⟩
 refine ⟨w,hw0,hww,hlen,⟨hl.1,hl.2.1⟩,by rw [QB,if_pos hair,if_pos hok],?_,up,big⟩
 unfold Yo
 rw [if_pos hw0.1,hww]
open Go.Proofs Go.RowKit
def Zah (m:Int) (s:Y2):Bool:=decide (s.From<=m)&&decide (m<s.To)
def Zaj (l:List Y2) (m:Int):Bool:=decide (0<=m)&&decide (m<1440)&&l.any (Zah m)
theorem ZqZ (m:Int) (s:Y2):Zc Tryz.prog 228 [Y8 s,.ptr [.int .i64 m] 0] (.bool (Zah m s)):=by
 refine Zb (clo:=λ _=>false) (rows:=false) Zg Tryz.func228 rfl (enters_of Tryz.func228 (by kernel_rfl) rfl) (λ A q P Y hr hA hq=>?_)
 obtain ⟨a,b⟩:=s
 conv=>cbv
 split
 ·rename_i h
  conv=>cbv
  rw [<-hq,Zah,Zyq (leT hA h)]
  show PV.bool (A.iLt m b)=_
  subst hA;rfl
 ·rename_i h
  conv=>cbv
  rw [<-hq,Zah,Zyr (show ¬a<=m by have:=leF hA h;omega)];rfl
theorem ZsJ (l:List Y2) (m:Int) {xs:List PV} (hx:xs=Z4 l):Zc Tryz.prog 162 [.list 2 xs,.int .i64 m] (.bool (Zaj l m)):=by
 refine Zb (clo:=λ _=>false) (rows:=false) Zg Tryz.func162 rfl (enters_of Tryz.func162 (by kernel_rfl) rfl) (λ A q P Y hr hA hq=>?_)
 have hc:=Zdn (Zah m) l hx (λ x _=>ZqZ m x)
 have hh:Zaj l m=(decide (0<=m)&&decide (m<1440)&&l.any (Zah m)):=rfl
 generalize l.any (Zah m)=b at hc hh
 conv=>cbv
 split
 ·rename_i h
  conv=>cbv
  split
  ·rename_i h2
   conv=>cbv
   refine Za hA hc ?_
   conv=>cbv
   rw [<-hq,hh,Zyq (leT hA h),Zyq (ltT hA h2)];rfl
  ·rename_i h2
   conv=>cbv
   rw [<-hq,hh,Zyr (show ¬m<1440 by have:=ltF hA h2;omega)];simp
 ·rename_i h
  conv=>cbv
  rw [<-hq,hh,Zyr (show ¬0<=m by have:=leF hA h;omega)];rfl
theorem Zph {α:Type} (f:α->Bool) {l:List α} {i:Int} (h0:0<=i) {x:α} (hx:l[i.toNat]?=some x):(l.take (i+1).toNat).any f=((l.take i.toNat).any f || f x):=by
 rw [show (i+1).toNat=i.toNat+1 by omega,ZyD,hx]
 simp
open Go.Proofs Go.RowKit
def Yf (g:Nat->Bool):List SV:=(List.range 1440).map λ i=>.val (.bool (g i))
theorem Zbq (g:Nat->Bool):(Yf g).length=1440:=by simp [Yf]
theorem ZbU (g:Nat->Bool) {i:Nat} (h:i<1440):(Yf g)[i]?=some (.val (.bool (g i))):=by
 unfold Yf
 rw [Zyh,ZzN h];rfl
theorem ZaV {g h:Nat->Bool} (e:∀i,i<1440->g i=h i):Yf g=Yf h:=by
 unfold Yf
 refine Zzr λ i hi=>?_
 rw [e i (by simpa using hi)]
theorem Zks (g:Nat->Bool) (j:Nat) (b:Bool):(Yf g).set j (.val (.bool b))=Yf λ i=>if i=j then b else g i:=by
 apply ZyS
 intro i
 rw [ZyC]
 by_cases hi:i<1440
 ·rw [ZbU _ hi]
  split
  ·rename_i h
   subst h
   rw [if_pos (by rw [Zbq];exact hi),ZbU _ hi,if_pos rfl]
  ·rename_i h
   rw [ZbU _ hi,if_neg (λ e=>h e.symm)]
 ·rw [Zyw (show (Yf λ i=>if i=j then b else g i).length<=i by rw [Zbq];omega)]
  split
  ·rw [if_neg (by rw [Zbq];omega)]
  ·rw [Zyw (by rw [Zbq];omega)]
theorem Zgm (g:Nat->Bool) (a b c:Nat):(Yf g).all (SV.within a b c)=true:=by
 rw [Zym]
 intro x hx
 obtain ⟨i,_,rfl⟩:=Zyz.1 hx
 rfl
theorem Zpi:(List.replicate 1440 (PV.bool false)).map Zju=Yf λ _=>false:=by
 apply ZyS
 intro i
 by_cases hi:i<1440
 ·rw [ZbU _ hi,Zyh,List.getElem?_replicate,if_pos hi];rfl
 ·rw [Zyw (by rw [Zys,Z0p];omega),Zyw (by rw [Zbq];omega)]
theorem ZsK {A:Ops} {E:Env} (hA:A=Ze E) {t:TypeId} {id off i m k:Nat} {st:St} {K:SV->St->Prop} {C:List SV} {v:SV} (hb:st.bx[id]?=some (some C)) (ha:(E.T t).agg=false) (hs:(E.T t).size=1) (hv:v.one=true) (hc:off+i*m+k<C.length)
  (h:∀B,B=st.bx.set id (some (C.set (off+i*m+k) v))->K .undef { st with bx:=B }):A.rst t (.rbx id off i m k) v st K :=
 ZoI hA (C:=C) (by rw [Zyj,hb];rfl) ha hs hv hc rfl (h _ rfl)
def Zra (n:Nat):Bool:=n == 10000000
def ZwE (pre:List (Option (List SV))):Prop:=∀a b c,pre.all (λ o=>match o with | none=>true | some cs=>cs.all (SV.within a b c))=true
set_option maxRecDepth 4000 in
set_option maxHeartbeats 1000000 in
theorem Zpj (l:List Y2) {xs:List PV} (hx:xs=Z4 l) (hlen:l.length<=1000000) (pre:List (Option (List SV))) (hpre:ZwE pre) :
  ZV ⟨Tryz.prog,tab,Zra,true,.none⟩ 276 [.val (.list 2 xs)] pre [] ⟨[],0⟩
   (λ r bx' tk' ax'=>r=.box pre.length 0/\bx'=pre++[some (Yf λ i=>l.any (Zah i))]/\tk'=[]/\ax'=⟨[],0⟩):=by
 refine YH (clo:=Zra) (rows:=true) Zg Tryz.func276 rfl (enters_of Tryz.func276 (by kernel_rfl) rfl) (by intro h;rfl) (λ A P' Y' nb R hA hnb hR=>?_)
 have hxl:xs.length=l.length:=by rw [hx];simp [Z4]
 conv=>cbv
 refine ZgA hA (z:=List.replicate 1440 (.bool false)) rfl (by rw [Z0p];rfl) (by rw [Z0p];decide) (λ n B1 hn hB1=>?_)
 rw [Zpi] at hB1
 simp only at hn hB1
 conv=>cbv
 refine Zi hA (λ (z:Int × List (Option (List SV))) s=>{ s.put (some 9) (.val (.int .i64 z.1)) with bx:=z.2 })
  (λ z=>0<=z.1/\z.1<=l.length/\z.2=pre++[some (Yf λ m=>(l.take z.1.toNat).any (Zah m))]) (λ z=>(l.length - z.1).toNat) (0,B1) ?_ ?_ ?_
 ·conv=>cbv
  exact Zk
 ·exact ⟨Zyk _,by omega,hB1⟩
 ·rintro R ⟨i,B⟩ ⟨hi0,hi1,hB⟩ hR1
  simp only at hi0 hi1 hB
  conv=>cbv
  split
  ·rename_i hc
   have hi:=ZE hA rfl (Zl hA hxl) hc
   have his:A.iAdd i 1=i+1:=Z5 hA _ _
   have hir:A.inR (A.iAdd i 1):=Zy hA his (by unfold Zj;omega)
   obtain ⟨⟨a,b⟩,hx0⟩:∃x,l[i.toNat]?=some x:=⟨_,Zya (show i.toNat<l.length by omega)⟩
   have ht:=λ m=>Zph (Zah m) hi0 hx0
   conv=>cbv
   refine Zci hA hx hi0 hi (λ z hz=>?_)
   obtain rfl:=Zyc ((hx0).symm.trans hz)
   clear hz
   conv=>cbv
   refine ZgA hA (z:=[.int .i64 0,.int .i64 0]) rfl rfl (by decide) (λ n2 B2 hn2 hB2=>?_)
   simp only at hn2 hB2
   have hn2':n2=pre.length+1:=by rw [hn2,hB];simp
   have hB2':B2=pre++[some (Yf λ m=>(l.take i.toNat).any (Zah m)),some [.val (.int .i64 0),.val (.int .i64 0)]]:=by rw [hB2,hB];simp;rfl
   conv=>cbv
   refine ZfJ hA (cs:=[.val (.int .i64 0),.val (.int .i64 0)]) (by rw [hB2',hn2',Zyd (by omega)];simp) rfl rfl rfl (Zyp 2) (λ B3 hB3=>?_)
   have hB3':B3=pre++[some (Yf λ m=>(l.take i.toNat).any (Zah m)),some [.val (.int .i64 a),.val (.int .i64 b)]]:=by rw [hB3,hB2',hn2'];simp
   have hg:∀C,(pre++[some C,some [.val (.int .i64 a),.val (.int .i64 b)]])[n2]?=some (some [.val (.int .i64 a),.val (.int .i64 b)]):=λ C=>by rw [hn2',Zyd (by omega)];simp
   conv=>cbv
   refine ZhU hA (cs:=[.val (.int .i64 a),.val (.int .i64 b)]) (c:=.val (.int .i64 a)) (by rw [hB3'];exact hg _) rfl rfl rfl ?_
   conv=>cbv
   have hmx:A.iMax a 0=max a 0:=by subst hA;rfl
   have hmn:A.iMin b 1440=min b 1440:=by subst hA;rfl
   refine Zi hA (λ (z:Int × List (Option (List SV))) s=>{ s.put (some 6) (.val (.int .i64 z.1)) with bx:=z.2 })
    (λ z=>max a 0<=z.1/\z.1<=max (max a 0) (min b 1440)/\z.2=pre++[some (Yf λ k=>(l.take i.toNat).any (Zah k) || (decide (a<=(k:Int))&&decide ((k:Int)<z.1))),some [.val (.int .i64 a),.val (.int .i64 b)]]) (λ z=>(max (max a 0) (min b 1440) - z.1).toNat) (A.iMax a 0,B3) ?_ ?_ ?_
   ·conv=>cbv
    exact Zk
   ·refine ⟨by rw [hmx];exact Zyk _,by rw [hmx];omega,?_⟩
    rw [hB3']
    simp only
    rw [ZaV (h:=λ k=>(l.take i.toNat).any (Zah k) || (decide (a<=(k:Int))&&decide ((k:Int)<A.iMax a 0))) (λ k _=>by
     rw [hmx]
     rw [show (decide (a<=(k:Int))&&decide ((k:Int)<max a 0))=false by rw [Bool.and_eq_false_iff,Zzm,Zzm];omega,Bool.or_false])]
   ·rintro R2 ⟨m,B4⟩ ⟨hm0,hm1,hB4⟩ hR2
    simp only at hm0 hm1 hB4
    conv=>cbv
    refine ZhU hA (cs:=[.val (.int .i64 a),.val (.int .i64 b)]) (c:=.val (.int .i64 b)) (by rw [hB4];exact hg _) rfl rfl rfl ?_
    conv=>cbv
    split
    ·rename_i hc2
     have hm:=ZE hA rfl hmn hc2
     have hms:A.iAdd m 1=m+1:=Z5 hA _ _
     have hmr:A.inR (A.iAdd m 1):=Zy hA hms (by unfold Zj;omega)
     conv=>cbv
     refine ⟨by subst hA;exact (show 0<=m/\m<1440 from ⟨by omega,by omega⟩),?_⟩
     conv=>cbv
     have hnn:A.nNat m=m.toNat:=by subst hA;rfl
     refine ZsK hA (t:=4) (v:=.val (.bool true)) (C:=Yf λ k=>(l.take i.toNat).any (Zah k) || (decide (a<=(k:Int))&&decide ((k:Int)<m))) ?_ rfl rfl rfl ?_ (λ B6 hB6=>?_)
     ·show B4[n]?=_
      rw [hB4,hn,Zyd (Zyp _),Zzw];rfl
     ·rw [Zbq]
      show 0+A.nNat m*1+0<1440
      rw [hnn];omega
     have hB6:B6=B4.set n (some ((Yf λ k=>(l.take i.toNat).any (Zah k) || (decide (a<=(k:Int))&&decide ((k:Int)<m))).set (0+A.nNat m*1+0) (.val (.bool true)))):=hB6
     rw [hnn,show 0+m.toNat*1+0=m.toNat by omega] at hB6
     have hB6':B6=pre++[some (Yf λ k=>(l.take i.toNat).any (Zah k) || (decide (a<=(k:Int))&&decide ((k:Int)<m+1))),some [.val (.int .i64 a),.val (.int .i64 b)]]:=by
      rw [hB6]
      simp only [hB4,hn]
      rw [ZyT _ _ (Zyp _),Zzw,List.set_cons_zero,Zks,ZaV λ k hk=>?_]
      split
      ·rename_i hk2
       rw [show decide (a<=(k:Int))=true by rw [Zyf];omega,show decide ((k:Int)<m+1)=true by rw [Zyf];omega];simp
      ·rename_i hk2
       rw [show decide ((k:Int)<m+1)=decide ((k:Int)<m) by rw [Z0e];omega]
     conv=>cbv
     exact ⟨hmr,hR2 (A.iAdd m 1,B6) _ (by (conv=>cbv);exact Zk) ⟨by rw [hms];omega,by rw [hms];omega,by rw [hms];exact hB6'⟩ (by rw [hms];omega)⟩
    ·rename_i hc2
     have hm:=ZK hA rfl hmn hc2
     conv=>cbv
     obtain ⟨B5,hB5⟩:∃B5,B5=pre++[some (Yf λ m=>(l.take (i+1).toNat).any (Zah m))]:=⟨_,rfl⟩
     have hend:B4=B5++[some [.val (.int .i64 a),.val (.int .i64 b)]]:=by
      rw [hB4,hB5,Zy9]
      simp only [List.singleton_append]
      rw [ZaV λ k hk=>?_]
      rw [ht]
      simp only [Zah]
      congr 1
      rw [ZyA]
      simp only [Zyi,Zyf]
      omega
     have hB5l:B5.length=pre.length+1:=by rw [hB5];simp
     refine ⟨hir,hR1 (A.iAdd i 1,B5) _ ?_ ⟨by rw [his];omega,by rw [his];omega,by rw [his];exact hB5⟩ (by rw [his];omega)⟩
     (conv=>cbv)
     rw [hend]
     refine Zt (bx:=B5) (bx':=[_]) (mp:=[]) (mp':=[]) (by repeat (first | refine Zv ?_ | refine ZH ?_ | exact Z9)) (by rw [hnb,hB5l];exact Nat.le_succ _) (.inl rfl) ?_ ?_
     ·simp [SV.within,hB5l,hn]
     ·rw [hB5,Z0q]
      refine Bool.and_eq_true_iff.2 ⟨hpre _ _ _,?_⟩
      rw [Z0s,List.all_nil,Bool.and_true]
      exact Zgm _ _ _ _
  ·rename_i hc
   have hi:=ZK hA rfl (Zl hA hxl) hc
   conv=>cbv
   refine hR _ ⟨_,.box n 0,Wk.refl _,.inr (.inl ⟨2,rfl,rfl⟩),by rw [hn],?_,rfl,rfl⟩
   show B=_
   rw [hB,show i=(l.length:Int) by omega,ZyR,Zze]
open Go.RowKit
theorem Zf {A:Ops} {E:Env} {a c:Code} {nb:Nat × Nat} {st:St} {Q:AX->St->Prop}
  (h:∀R3:St->Prop,(∀s,QD A E c nb s Q->R3 s)->QD A E a nb st λ e s=>match e with
   | .normal=>R3 s
   | .exit i=>Q (.exit i) s
   | .ret=>Q .ret s):QD A E (.seq a c) nb st Q:=by
 unfold QD
 exact h _ λ s h=>h
theorem Zrb {A:Ops} {E:Env} {id b:Nat} {ops:Array Oper} {a:Code} {nb:Nat × Nat} {st:St} {Q0:AX->St->Prop}
  (h:∀R3:St->Prop,(∀s,QD A E (.region id ops true) nb s (λ e st'=>match e with
   | .normal=>Q0 .normal st'
   | .exit i=>if i=b then Q0 .normal st' else Q0 (.exit i) st'
   | .ret=>Q0 .ret st')->R3 s)->QD A E a nb st λ e s=>match e with
   | .normal=>R3 s
   | .exit i=>if i=b then Q0 .normal s else Q0 (.exit i) s
   | .ret=>Q0 .ret s):QD A E (.block b (.seq a (.region id ops true))) nb st Q0:=by
 unfold QD
 have h2:=h _ λ s h=>h
 unfold QD
 exact h2
theorem Zc9 {A:Ops} {E:Env} {b:Nat} {a c:Code} {nb:Nat × Nat} {st:St} {Q0:AX->St->Prop}
  (h:∀R3:St->Prop,(∀s,QD A E c nb s (λ e st'=>match e with
   | .normal=>Q0 .normal st'
   | .exit i=>if i=b then Q0 .normal st' else Q0 (.exit i) st'
   | .ret=>Q0 .ret st')->R3 s)->QD A E a nb st λ e s=>match e with
   | .normal=>R3 s
   | .exit i=>if i=b then Q0 .normal s else Q0 (.exit i) s
   | .ret=>Q0 .ret s):QD A E (.block b (.seq a c)) nb st Q0:=by
 unfold QD
 exact Zf h
open Go.Proofs Go.RowKit
def ZcM (g:Nat->Bool):Nat->Nat->Nat
 | 0,i=>i
 | k+1,i=>if i<1440/\g i=true then ZcM g k (i+1) else i
def Zbe (g:Nat->Bool):Nat->Nat->List Y2
 | 0,_=>[]
 | k+1,i=>if i<1440 then (if g i then ⟨i,(ZcM g 1441 (i+1):Nat)⟩::Zbe g k (ZcM g 1441 (i+1)+1) else Zbe g k (i+1)) else []
theorem Zkt (g:Nat->Bool) (k i:Nat):ZcM g (k+1) i=if i<1440/\g i=true then ZcM g k (i+1) else i:=rfl
theorem Zcl (g:Nat->Bool) (k i:Nat):Zbe g (k+1) i=if i<1440 then (if g i then ⟨i,(ZcM g 1441 (i+1):Nat)⟩::Zbe g k (ZcM g 1441 (i+1)+1) else Zbe g k (i+1)) else []:=rfl
theorem Znw (g:Nat->Bool):∀(k i:Nat),i<=ZcM g k i
 | 0,_=>Zyp _
 | k+1,i=>by
  unfold ZcM
  split
  ·exact Zy1 (Nat.le_succ i) (Znw g k (i+1))
  ·exact Zyp _
theorem Zmn (g:Nat->Bool):∀(k i:Nat),1440<=k+i->ZcM g (k+1) i=ZcM g k i
 | 0,i,h=>by
  rw [Zkt,if_neg (by omega)]
  rfl
 | k+1,i,h=>by
  rw [Zkt g (k+1) i,Zkt g k i]
  split
  ·exact Zmn g k (i+1) (by omega)
  ·rfl
theorem ZsL (g:Nat->Bool) {i:Nat} (h:i<1440) (hg:g i=true):ZcM g 1441 i=ZcM g 1441 (i+1):=by
 rw [Zkt,if_pos ⟨h,hg⟩,Zmn g 1440 (i+1) (by omega)]
theorem Zmo (g:Nat->Bool) {i:Nat} (h:¬(i<1440/\g i=true)):ZcM g 1441 i=i:=by
 rw [Zkt,if_neg h]
theorem Zds (g:Nat->Bool):∀(k i:Nat),1440<=k+i->Zbe g (k+1) i=Zbe g k i
 | 0,i,h=>by
  rw [Zcl,if_neg (by omega)];rfl
 | k+1,i,h=>by
  rw [Zcl g (k+1) i,Zcl g k i]
  split
  ·split
   ·have:=Znw g 1441 (i+1)
    rw [Zds g k _ (by omega)]
   ·exact Zds g k (i+1) (by omega)
  ·rfl
theorem Zku (g:Nat->Bool):∀(k i:Nat),1440<=k+i->(Zbe g k i=[]↔∀j,i<=j->j<1440->g j=false)
 | 0,i,h=>by
  constructor
  ·intro _ j h1 h2;omega
  ·intro _;rfl
 | k+1,i,h=>by
  rw [Zcl]
  split
  ·rename_i hi
   split
   ·rename_i hg
    constructor
    ·intro h;cases h
    ·intro h;rw [h i (Zyp _) hi] at hg;cases hg
   ·rename_i hg
    rw [Zku g k (i+1) (by omega)]
    constructor
    ·intro h1 j h2 h3
     rcases Nat.eq_or_lt_of_le h2 with rfl | h4
     ·simpa using hg
     ·exact h1 j h4 h3
    ·intro h1 j h2 h3
     exact h1 j (by omega) h3
  ·constructor
   ·intro _ j h1 h2;omega
   ·intro _;rfl
def YR (g:Nat->Bool):List Y2:=Zbe g 1441 0
theorem Zrc (g:Nat->Bool):YR g=[]↔∀j,j<1440->g j=false:=by
 rw [YR,Zku g 1441 0 (by omega)]
 constructor
 ·intro h j hj;exact h j (ZyQ _) hj
 ·intro h j _ hj;exact h j hj
theorem Zpk (g:Nat->Bool) {i:Nat} (h:i<1440) (hg:g i=true):Zbe g 1441 i=⟨i,(ZcM g 1441 (i+1):Nat)⟩::Zbe g 1441 (ZcM g 1441 (i+1)+1):=by
 rw [Zcl,if_pos h,if_pos hg]
 have:=Znw g 1441 (i+1)
 rw [Zds g 1440 _ (by omega)]
theorem Zpl (g:Nat->Bool) {i:Nat} (h:i<1440) (hg:g i=false):Zbe g 1441 i=Zbe g 1441 (i+1):=by
 rw [Zcl,if_pos h,if_neg (by rw [hg];decide)]
 rw [Zds g 1440 _ (by omega)]
theorem Zrd (g:Nat->Bool) {i:Nat} (h:1440<=i):Zbe g 1441 i=[]:=by
 rw [Zcl,if_neg (by omega)]
def Zpm (g:Nat->Bool):List PV:=(List.range 1440).map λ i=>.bool (g i)
theorem Zpn (g:Nat->Bool) {i:Nat} (h:i<1440):(Zpm g)[i]?=some (.bool (g i)):=by
 unfold Zpm
 rw [Zyh,ZzN h];rfl
theorem ZvD (g:Nat->Bool):(Zpm g).map SV.val=Yf g:=by
 unfold Zpm Yf
 rw [Zz8];rfl
theorem Zkv:∀{cs:List PV} {o:Nat} {p:PV},cs[o]?=some p->ZjQ cs o=some p
 | [],o,p,h=>by simp at h
 | x::r,0,p,h=>by simp at h;subst h;rfl
 | x::r,o+1,p,h=>Zkv (cs:=r) (by simpa using h)
theorem Za9 {A:Ops} {E:Env} {dr:Bool} {ops rest:List Oper} {o:Oper} {st:St} {K:St->Prop} (hg:o.guard=none) (h:Zcg A E dr o.op st λ v st'=>QT A E dr ops rest (st'.put o.dst v) K):QT A E dr ops (o::rest) st K:=by
 unfold QT
 rw [hg]
 exact h
theorem Zfu {A:Ops} {E:Env} {dr:Bool} {ops rest:List Oper} {o:Oper} {j t:Nat} {b:Bool} {st:St} {K:St->Prop} (hg:o.guard=some (j,true)) (hd:ZgY ops j=some t) (hv:st.sl.getD t .undef=.val (.bool b))
  (h1:b=true->Zcg A E dr o.op (st.put (some t) (.val (.bool true))) λ v st'=>QT A E dr ops rest (st'.put o.dst v) K) (h2:b=false->QT A E dr ops rest ((st.put (some t) (.val (.bool false))).put o.dst .undef) K):QT A E dr ops (o::rest) st K:=by
 unfold QT
 rw [hg]
 simp only [hd,hv]
 cases b with
 | true=>exact h1 rfl
 | false=>exact h2 rfl
theorem Zut {A:Ops} {E:Env} (hrows:E.rows=false) {t e:TypeId} {x i:Operand} {n:Int} {cnt:Nat} {cs:List PV} {st:St} {K:SV->St->Prop} (hx:Zp st x=.val (.ptr cs 0)) (hi:Zp st i=.val (.int .i64 n)) (hk:(E.T t).k=.array cnt e) (hs:(E.T e).size=1) (h0:0<=n) (h1:n<cnt)
  (h:∀j,j=n.toNat->K (.val (.ptr cs j)) st):Zcg A E false (.indexAddr t x i) st K:=by
 unfold Zcg
 simp only [hx]
 unfold QS
 simp only [hx]
 unfold Za4
 rw [hrows]
 simp only [Q5,hi,Zdc,hk,hs]
 refine ⟨⟨h0,h1⟩,?_⟩
 exact h _ (by simp)
theorem Znx {A:Ops} {E:Env} {t:TypeId} {a:Operand} {cs:List PV} {j:Nat} {p:PV} {st:St} {K:SV->St->Prop} (ha:Zp st a=.val (.ptr cs j)) (hg:(E.T t).agg=false) (hs:(E.T t).size=1) (hp:cs[j]?=some p) (h:K (.val p) st):Zcg A E false (.load t a) st K:=by
 unfold Zcg
 simp only [ha]
 unfold QS
 simp only [ha]
 unfold Zjm
 simp only [hg,hs,Zkv hp]
 exact ⟨trivial,h⟩
theorem Zfv {A:Ops} {E:Env} {id:Nat} {ops:Array Oper} {nb:Nat × Nat} {st:St} {Q:AX->St->Prop} (h:QT A E false ops.toList ops.toList st (Q .normal)):QD A E (.region id ops false) nb st Q:=by
 unfold QD
 have e:Zbf E false id ops.size=.text:=by unfold Zbf;rfl
 rw [e]
 exact ⟨trivial,h⟩
theorem ZfO {A:Ops} {E:Env} {dr:Bool} {x:Operand} {st:St} {K:SV->St->Prop} (h:K (Zp st x) st):Zcg A E dr (.move x) st K:=by
 unfold Zcg
 exact ⟨trivial,h⟩
theorem Zuu {A:Ops} {E:Env} {dr:Bool} {x:Operand} {cs:List PV} {o:Nat} {st:St} {K:SV->St->Prop} (hx:Zp st x=.val (.ptr cs o)) (h:K (.val (.ptr cs o)) st):Zcg A E dr (.nilCheck x) st K:=by
 unfold Zcg
 simp only [QS,hx]
 exact ⟨trivial,h⟩
set_option maxRecDepth 4000 in
set_option maxHeartbeats 1000000 in
theorem Zre (g:Nat->Bool):Zde Tryz.prog 295 [.ptr [.ptr (Zpm g) 0] 0] ((YR g).map λ s=>[Y8 s]):=by
 refine Zch (clo:=λ _=>false) (rows:=false) Zg Tryz.func295 rfl (enters_of Tryz.func295 (by kernel_rfl) rfl) rfl (λ A P Y Y' y R hr hys hy hA hR=>?_)
 have hR':=λ q (h:q=Y.ys.length\/q=Y.ys.length+1)=>hR q (by rw [hys] at h;exact h)
 obtain ⟨cs,hcs⟩:∃cs,cs=Zpm g:=⟨_,rfl⟩
 rw [<-hcs]
 conv=>cbv
 refine Zi hA (λ (z:Int × Nat) s=>{ s.put (some 3) (.val (.int .i64 z.1)) with ax:=⟨s.ax.mp,z.2⟩ }) (λ z=>∃j:Nat,z.1=(j:Int)/\j<=1441/\(YR g).drop z.2=Zbe g 1441 j/\z.2<=(YR g).length) (λ z=>(1441 - z.1).toNat) (0,0) ?_ ?_ ?_
 ·conv=>cbv
  exact Zk
 ·exact ⟨0,rfl,by omega,rfl,ZyQ _⟩
 rintro R2 ⟨i,kk⟩ ⟨j,hj,hj2,hdr,hkl⟩ hR2
 simp only at hj hdr hkl
 refine Zf (λ Ra hRa=>?_)
 conv=>cbv
 split
 ·rename_i hc
  have hi:i<1440:=ltT hA hc
  refine hRa _ ?_
  clear hRa
  refine Zf (λ Rb hRb=>?_)
  refine Zc9 (λ Rc hRc=>?_)
  refine Zf (λ Rd hRd=>?_)
  refine Zfv ?_
  refine Za9 rfl (Znx (cs:=[.ptr cs 0]) (j:=0) rfl rfl rfl rfl ?_)
  refine Za9 rfl (ZfO ?_)
  refine Za9 rfl (Zuu (cs:=cs) (o:=0) rfl ?_)
  refine Za9 rfl (Zut (n:=i) (cs:=cs) (cnt:=1440) rfl rfl rfl rfl rfl (by omega) hi (λ j' hj'=>?_))
  have hjj:j'=j:=by rw [hj',hj];rfl
  subst hjj
  refine Za9 rfl (Znx (cs:=cs) (j:=j') (p:=.bool (g j')) rfl rfl rfl (by rw [hcs];exact Zpn g (by omega)) ?_)
  conv=>cbv
  refine hRd _ ?_
  clear hRd
  have his:A.iAdd i 1=i+1:=Z5 hA _ _
  have hir:A.inR (A.iAdd i 1):=Zy hA his (by unfold Zj;omega)
  conv=>cbv
  split
  ·rename_i hc2
   have hg:g j'=false:=Yy hA hc2
   refine hRb _ ?_
   clear hRb hRc
   conv=>cbv
   refine ⟨hir,hR2 (A.iAdd i 1,kk) _ ?_ ⟨j'+1,by rw [his,hj];rfl,by omega,?_,hkl⟩ ?_⟩
   ·conv=>cbv
    exact Zk
   ·rw [<-Zpl g (by omega) hg];exact hdr
   ·show (1441 - A.iAdd i 1).toNat<(1441 - i).toNat
    rw [his];omega
  ·rename_i hc2
   have hg:g j'=true:=YP hA hc2
   refine hRc _ ?_
   clear hRc
   refine Zf (λ Rd hRd=>?_)
   conv=>cbv
   refine ⟨hir,?_⟩
   refine hRd _ ?_
   clear hRd
   rw [Zpk g (by omega) hg] at hdr
   refine Zf (λ Rd hRd=>?_)
   conv=>cbv
   refine Zi hA (λ (z:Int) s=>s.put (some 4) (.val (.int .i64 z))) (λ z=>∃k:Nat,z=(k:Int)/\j'+1<=k/\k<=1440/\ZcM g 1441 k=ZcM g 1441 (j'+1)) (λ z=>(1441 - z).toNat) (A.iAdd i 1) ?_ ?_ ?_
   ·conv=>cbv
    exact Zk
   ·exact ⟨j'+1,by rw [his,hj];rfl,Zyp _,by omega,rfl⟩
   rintro R3 k' ⟨k,hk',hk1,hk2,hke⟩ hR3
   refine Zf (λ Re hRe=>?_)
   refine Zf (λ Rf hRf=>?_)
   refine Zfv ?_
   refine Za9 rfl (ZfO ?_)
   refine Za9 rfl ?_
   refine ⟨trivial,?_⟩
   refine Za9 rfl (ZfO ?_)
   refine Zfu (j:=2) (t:=19) (b:=A.iLt k' 1440) rfl rfl rfl ?_ ?_
   ·intro hb
    have hk:k'<1440:=ltT hA hb
    have hks:A.iAdd k' 1=k'+1:=Z5 hA _ _
    have hkr:A.inR (A.iAdd k' 1):=Zy hA hks (by unfold Zj;omega)
    conv=>arg 5;cbv
    refine Znx (cs:=[.ptr cs 0]) (j:=0) rfl rfl rfl rfl ?_
    conv=>arg 6;cbv
    refine Zfu (j:=2) (t:=19) (b:=true) rfl rfl rfl (λ _=>?_) (λ h=>by cases h)
    conv=>arg 5;cbv
    refine ZfO ?_
    conv=>arg 6;cbv
    refine Zfu (j:=2) (t:=19) (b:=true) rfl rfl rfl (λ _=>?_) (λ h=>by cases h)
    conv=>arg 5;cbv
    refine Zuu (cs:=cs) (o:=0) rfl ?_
    conv=>arg 6;cbv
    refine Zfu (j:=2) (t:=19) (b:=true) rfl rfl rfl (λ _=>?_) (λ h=>by cases h)
    conv=>arg 5;cbv
    refine Zut (n:=k') (cs:=cs) (cnt:=1440) rfl rfl rfl rfl rfl (by omega) hk (λ jk hjk=>?_)
    have hjk2:jk=k:=by rw [hjk,hk'];rfl
    subst hjk2
    conv=>arg 6;cbv
    refine Zfu (j:=2) (t:=19) (b:=true) rfl rfl rfl (λ _=>?_) (λ h=>by cases h)
    conv=>arg 5;cbv
    refine Znx (cs:=cs) (j:=jk) (p:=.bool (g jk)) rfl rfl rfl (by rw [hcs];exact Zpn g (by omega)) ?_
    conv=>cbv
    refine hRf _ ?_
    clear hRf
    conv=>cbv
    split
    ·rename_i hgk
     refine hRe _ ?_
     clear hRe
     conv=>cbv
     refine ⟨hkr,hR3 (A.iAdd k' 1) _ ?_ ⟨jk+1,by rw [hks,hk'];rfl,by omega,by omega,?_⟩ ?_⟩
     ·conv=>cbv
      exact Zk
     ·rw [<-hke];exact (ZsL g (by omega) hgk).symm
     ·rw [hks];omega
    ·rename_i hgk
     have hend:ZcM g 1441 (j'+1)=jk:=by rw [<-hke];exact Zmo g (by rw [hgk];simp)
     refine hRd _ ?_
     clear hRd hRe hR3
     conv=>cbv
     have hyk:Y.ys[kk]?=some [.agg [.int .i64 i,.int .i64 k']]:=by
      have h1:(YR g)[kk]?=some ⟨(j':Int),((jk:Nat):Int)⟩:=by
       have h2:((YR g).drop kk)[0]?=some ⟨(j':Int),((ZcM g 1441 (j'+1):Nat):Int)⟩:=by rw [hdr];rfl
       rw [Zy8,Zzj,hend] at h2
       exact h2
      rw [hys,Zyh,h1,hj,hk']
      rfl
     have hkl2:kk+1<=(YR g).length:=by
      have:=(ZxZ.1 hyk).1
      rw [hys,Zys] at this;omega
     refine QE hA rfl hy hyk ?_ (λ n' hn'=>?_)
     ·conv=>cbv
      split
      ·rename_i hc
       cases (nT hA hc)
      conv=>cbv
      refine hRb _ ?_
      clear hRb
      conv=>cbv
      have hks2:A.iAdd k' 1=k'+1:=Z5 hA _ _
      refine ⟨Zy hA hks2 (by unfold Zj;omega),hR2 (A.iAdd k' 1,kk+1) _ ?_ ⟨jk+1,by rw [hks2,hk'];rfl,by omega,?_,hkl2⟩ ?_⟩
      ·conv=>cbv
       exact Zk
      ·have h3:=congrArg List.tail hdr
       rw [List.tail_drop,List.tail_cons,hend] at h3
       exact h3
      ·show (1441 - A.iAdd k' 1).toNat<(1441 - i).toNat
       rw [hks2];omega
     ·conv=>cbv
      split
      ·conv=>cbv
       exact hR' _ (.inr hn')
      ·rename_i hc
       have hf:False:=nF hA hc
       cases hf
   ·intro hb
    have hk:1440<=k':=ltF hA hb
    have hend:ZcM g 1441 (j'+1)=k:=by rw [<-hke];exact Zmo g (by omega)
    conv=>cbv
    refine hRf _ ?_
    clear hRf
    conv=>cbv
    refine hRd _ ?_
    clear hRd hRe hR3
    conv=>cbv
    have hyk:Y.ys[kk]?=some [.agg [.int .i64 i,.int .i64 k']]:=by
     have h1:(YR g)[kk]?=some ⟨(j':Int),((k:Nat):Int)⟩:=by
      have h2:((YR g).drop kk)[0]?=some ⟨(j':Int),((ZcM g 1441 (j'+1):Nat):Int)⟩:=by rw [hdr];rfl
      rw [Zy8,Zzj,hend] at h2
      exact h2
     rw [hys,Zyh,h1,hj,hk']
     rfl
    have hkl2:kk+1<=(YR g).length:=by
     have:=(ZxZ.1 hyk).1
     rw [hys,Zys] at this;omega
    refine QE hA rfl hy hyk ?_ (λ n' hn'=>?_)
    ·conv=>cbv
     split
     ·rename_i hc
      cases (nT hA hc)
     conv=>cbv
     refine hRb _ ?_
     clear hRb
     conv=>cbv
     have hks2:A.iAdd k' 1=k'+1:=Z5 hA _ _
     refine ⟨Zy hA hks2 (by unfold Zj;omega),hR2 (A.iAdd k' 1,kk+1) _ ?_ ⟨k+1,by rw [hks2,hk'];rfl,by omega,?_,hkl2⟩ ?_⟩
     ·conv=>cbv
      exact Zk
     ·have h3:=congrArg List.tail hdr
      rw [List.tail_drop,List.tail_cons,hend] at h3
      exact h3
     ·show (1441 - A.iAdd k' 1).toNat<(1441 - i).toNat
      rw [hks2];omega
    ·conv=>cbv
     split
     ·conv=>cbv
      exact hR' _ (.inr hn')
     ·rename_i hc
      have hf:False:=nF hA hc
      cases hf
 ·rename_i hc
  have hi:1440<=i:=ltF hA hc
  conv=>cbv
  refine hR' kk (.inl ?_)
  have h1:(YR g).drop kk=[]:=by rw [hdr,Zrd g (by omega)]
  have h2:=List.drop_eq_nil_iff.1 h1
  rw [hys,Zys]
  omega
open Go.Proofs Go.RowKit
theorem Zc.nil_to {P:Program} {f:FuncId} {args:List PV} {m m':Nat} (h:Zc P f args (.list m [])) (h0:m'≠0):Zc P f args (.list m' []):=by
 refine ⟨h.1,λ S w vs hS hv=>(h.2 S w vs hS hv).mono ?_⟩
 rintro e w' ⟨v,rfl,hb,hr⟩
 refine ⟨v,rfl,hb,?_⟩
 obtain ⟨a,ad,cap,g,rfl,h1,h2,h3,h4,h5,h6⟩:=RV.slice_iff hr
 exact RV.list_nil m' a cap h3 (λ h=>absurd h h0)
def Zc1 (l:List Y2):PV:=if l=[] then .list 0 [] else .list 2 (Z4 l)
theorem Zrf {f:FuncId} {caps:List PV} (l:List Y2) (hlen:l.length<=1000000) (hseq:Zde Tryz.prog f caps (l.map λ c=>[Y8 c])) :
  Zc Tryz.prog 294 [.list 0 [],.fn f caps] (Zc1 l):=by
 refine Zb (clo:=λ _=>false) (rows:=false) Zg Tryz.func294 rfl (enters_of Tryz.func294 (by kernel_rfl) rfl) (λ A q P Y hr hA hq=>?_)
 conv=>cbv
 refine YU hA hseq (λ x hx=>?_) (λ (y:SV × List (Nat × TypeId)) s=>{ s with bx:=s.bx.set 0 (some [y.1]),tk:=y.2 })
  (λ k y=>(k=0/\y=(.val (.list 0 []),[]))\/(k≠0/\y=(.own 0 2 (Z4 (l.take k)),[((Z4 (l.take k)).length,31)]))) (.val (.list 0 []),[]) (λ _=>rfl) ?_ ?_ ?_ ?_
 ·obtain ⟨o,_,rfl⟩:=Zyz.1 hx;rfl
 ·conv=>cbv
  exact Zk
 ·exact .inl ⟨rfl,rfl⟩
 ·intro R k y x hx hy hR
  rw [Zyh,ZyG] at hx
  obtain ⟨⟨a,b⟩,hs,rfl⟩:=hx
  have hkl:k<l.length:=(ZxZ.1 hs).1
  rcases hy with ⟨rfl,rfl⟩ | ⟨hk,rfl⟩
  ·have hroom:A.room (A.nLen [.agg [.int .i64 a,.int .i64 b]]) 16:=by
    subst hA
    show 1*(16+1)<=140737488355328
    omega
   conv=>cbv
   refine ⟨hroom,hR (.own 0 2 [.agg [.int .i64 a,.int .i64 b]],[(A.nLen [.agg [.int .i64 a,.int .i64 b]],31)]) _ ?_ (.inr ⟨by omega,?_⟩)⟩
   ·(conv=>cbv)
    exact Zt (bx:=[_]) (bx':=[_]) (mp:=[]) (mp':=[]) (by repeat (first | refine Zv ?_ | refine ZH ?_ | exact Z9)) (Zyp _) (.inl rfl) rfl rfl
   ·rw [ZyD,hs]
    subst hA
    rfl
  ·obtain ⟨L,hL⟩:∃L,L=Z4 (l.take k):=⟨_,rfl⟩
   have hLl:L.length<=1000000:=by rw [hL];simp [Z4];omega
   have hn0:L.length=A.nLen L:=by subst hA;rfl
   have htk:A.tkEq (A.nLen L) (A.nLen L):=by subst hA;rfl
   have hroom:A.room (A.nLen (A.lApp L [.agg [.int .i64 a,.int .i64 b]])) 16:=by
    subst hA
    show (L++[_]).length*(16+1)<=140737488355328
    rw [Zyg,Zyt];omega
   rw [<-hL,hn0]
   conv=>cbv
   refine ⟨⟨htk,hroom⟩,hR (.own 0 2 (A.lApp L [.agg [.int .i64 a,.int .i64 b]]),[(A.nLen (A.lApp L [.agg [.int .i64 a,.int .i64 b]]),31)]) _ ?_ (.inr ⟨by omega,?_⟩)⟩
   ·(conv=>cbv)
    exact Zt (bx:=[_]) (bx':=[_]) (mp:=[]) (mp':=[]) (by repeat (first | refine Zv ?_ | refine ZH ?_ | exact Z9)) (Zyp _) (.inl rfl) rfl rfl
   ·have e:A.lApp L [.agg [.int .i64 a,.int .i64 b]]=Z4 (l.take (k+1)):=by
     rw [hL,ZyD,hs]
     subst hA
     show Z4 _++_=_
     simp [Z4,Y8]
    rw [e]
    subst hA
    rfl
 ·intro y hy
  rw [Zys] at hy
  rcases hy with ⟨h0,rfl⟩ | ⟨h0,rfl⟩
  ·conv=>cbv
   rw [<-hq,Zc1,if_pos (Zyy h0)]
  ·rw [Zze]
   obtain ⟨L,hL⟩:∃L,L=Z4 l:=⟨_,rfl⟩
   rw [<-hL]
   conv=>cbv
   rw [<-hq,Zc1,if_neg (by intro h;rw [h] at h0;exact h0 rfl),hL]
theorem Zuv {f:FuncId} {caps:List PV} (l:List Y2) (hlen:l.length<=1000000) (hseq:Zde Tryz.prog f caps (l.map λ c=>[Y8 c])) :
  Zc Tryz.prog 277 [.fn f caps] (Zc1 l):=by
 refine Zb (clo:=λ _=>false) (rows:=false) Zg Tryz.func277 rfl (enters_of Tryz.func277 (by kernel_rfl) rfl) (λ A q P Y hr hA hq=>?_)
 have h:=Zrf l hlen hseq
 generalize Zc1 l=r at h hq
 conv=>cbv
 refine Za hA (h) ?_
 conv=>cbv
 rw [<-hq]
theorem ZsM (cs:List PV):Zc Tryz.prog 278 [.ptr cs 0] (.fn 295 [.ptr [.ptr cs 0] 0]):=by
 refine Zb (clo:=λ _=>false) (rows:=false) Zg Tryz.func278 rfl (enters_of Tryz.func278 (by kernel_rfl) rfl) (λ A q P Y hr hA hq=>?_)
 conv=>cbv
 rw [<-hq]
theorem ZwF (a b:Bool):Zc Tryz.prog 230 [.bool a,.bool b] (.bool (a&&!b)):=by
 refine Zb (clo:=λ _=>false) (rows:=false) Zg Tryz.func230 rfl (enters_of Tryz.func230 (by kernel_rfl) rfl) (λ A q P Y hr hA hq=>?_)
 cases a with
 | true =>
  conv=>cbv
  rw [<-hq];subst hA;rfl
 | false =>
  conv=>cbv
  rw [<-hq];rfl
open Go.Proofs Go.RowKit
theorem Zkw:∀(l:List PV),Zam (l.map SV.val)=some l
 | []=>rfl
 | p::r=>by
  show (match (SV.val p).pv,Zam (r.map SV.val) with | some p,some l=>some (p::l) | _,_=>none)=_
  rw [Zkw r];rfl
theorem ZgI (g:Nat->Bool):∀(k i:Nat),(Zbe g k i).length<=k
 | 0,_=>Zyp _
 | k+1,i=>by
  rw [Zcl]
  split
  ·split
   ·have:=ZgI g k (ZcM g 1441 (i+1)+1)
    simp only [ZyM];omega
   ·have:=ZgI g k (i+1)
    omega
  ·exact ZyQ _
theorem Zrg (g:Nat->Bool):(YR g).length<=1000000:=by
 have:=ZgI g 1441 0
 unfold YR
 omega
def Zxk (n:Nat):Bool:=n == 10000000 || n == 5000000+276
set_option maxRecDepth 4000 in
set_option maxHeartbeats 1000000 in
theorem Zlz (a b:List Y2) {xa xb:List PV} (ha:xa=Z4 a) (hb:xb=Z4 b) (hla:a.length<=1000000) (hlb:b.length<=1000000) :
  Zc Tryz.prog 229 [.list 2 xa,.list 2 xb,.fn 230 []] (Zc1 (YR λ i=>a.any (Zah i)&&!b.any (Zah i))):=by
 refine Zb (clo:=Zxk) (rows:=true) Zg Tryz.func229 rfl (enters_of Tryz.func229 (by kernel_rfl) rfl) (λ A q P Y hr hA hq=>?_)
 obtain ⟨g1,hg1⟩:∃g1:Nat->Bool,g1=λ i:Nat=>a.any (Zah i):=⟨_,rfl⟩
 obtain ⟨g2,hg2⟩:∃g2:Nat->Bool,g2=λ i:Nat=>b.any (Zah i):=⟨_,rfl⟩
 have hof1:=Zpj a ha hla [] (λ _ _ _=>rfl)
 have hof2:=Zpj b hb hlb [some (Yf g1)] (λ x y z=>by
  rw [Z0s,List.all_nil,Bool.and_true];exact Zgm _ _ _ _)
 have hcol:=λ (g:Nat->Bool) (hl:(YR g).length<=1000000)=>Zuv (YR g) hl (Zre g)
 obtain ⟨qq,hqq⟩:∃qq:(Nat->Bool)->PV,∀g,qq g=Zc1 (YR g):=⟨λ g=>Zc1 (YR g),λ _=>rfl⟩
 obtain ⟨F,hF⟩:∃F:Bool->Bool->Bool,F=λ x y=>x&&!y:=⟨_,rfl⟩
 have hf:∀x y,Zc Tryz.prog 230 [.bool x,.bool y] (.bool (F x y)):=λ x y=>by rw [hF];exact ZwF x y
 rw [<-hqq,show (λ i:Nat=>a.any (Zah i)&&!b.any (Zah i))=λ i=>F (g1 i) (g2 i) by rw [hF,hg1,hg2]] at hq
 clear hF
 rw [show (λ i:Nat=>a.any (Zah i))=g1 from hg1.symm] at hof1
 rw [show (λ i:Nat=>b.any (Zah i))=g2 from hg2.symm] at hof2
 clear hg1 hg2
 obtain ⟨C1,hC1⟩:∃C1,C1=Yf g1:=⟨_,rfl⟩
 obtain ⟨C2,hC2⟩:∃C2,C2=Yf g2:=⟨_,rfl⟩
 rw [<-hC1] at hof1 hof2
 rw [<-hC2] at hof2
 conv=>cbv
 refine Qg hA (ZV.flags hof1) (λ r bx' tk' ax' h=>?_)
 obtain ⟨rfl,rfl,rfl,rfl⟩:=h
 conv=>cbv
 refine Qg hA (ZV.flags hof2) (λ r bx' tk' ax' h=>?_)
 obtain ⟨rfl,rfl,rfl,rfl⟩:=h
 conv=>cbv
 refine Zi hA (λ (z:Int × List SV) s=>{ s.put (some 14) (.val (.int .i64 z.1)) with bx:=[some z.2,some C2] })
  (λ z=>0<=z.1/\z.1<=1440/\z.2=Yf λ (k:Nat)=>if (k:Int)<z.1 then F (g1 k) (g2 k) else g1 k) (λ z=>(1440 - z.1).toNat) (0,C1) ?_ ?_ ?_
 ·conv=>cbv
  exact Zk
 ·refine ⟨Zyk _,by omega,?_⟩
  simp only
  rw [hC1]
  refine ZaV λ k _=>?_
  rw [if_neg (by omega)]
 rintro R ⟨i,C⟩ ⟨hi0,hi1,hC⟩ hR
 simp only at hi0 hi1 hC
 conv=>cbv
 split
 ·rename_i hc
  have hi:i<1440:=ltT hA hc
  have his:A.iAdd i 1=i+1:=Z5 hA _ _
  have hir:A.inR (A.iAdd i 1):=Zy hA his (by unfold Zj;omega)
  conv=>cbv
  refine ⟨Zm hA (by kernel_rfl),?_⟩
  have hin:A.within i (A.iNat 1440):=by subst hA;exact ⟨hi0,hi⟩
  have hnn:A.nNat i=i.toNat:=by subst hA;rfl
  have hidx:0+A.nNat i*1+0=i.toNat:=by rw [hnn];omega
  refine ⟨hin,?_⟩
  obtain ⟨v1,hv1⟩:∃v1,v1=g1 i.toNat:=⟨_,rfl⟩
  obtain ⟨v2,hv2⟩:∃v2,v2=g2 i.toNat:=⟨_,rfl⟩
  refine ZoH hA (C:=C) (c:=.val (.bool v1)) rfl rfl rfl (by rw [hidx,hC,ZbU _ (by omega),if_neg (by omega),hv1]) ?_
  conv=>cbv
  refine ⟨hin,?_⟩
  refine ZoH hA (C:=C2) (c:=.val (.bool v2)) rfl rfl rfl (by rw [hidx,hC2,ZbU _ (by omega),hv2]) ?_
  conv=>cbv
  have hfv:=hf v1 v2
  obtain ⟨v3,hv3⟩:∃v3,v3=F v1 v2:=⟨_,rfl⟩
  rw [<-hv3] at hfv
  refine Za hA (hfv) ?_
  conv=>cbv
  refine ⟨hin,?_⟩
  obtain ⟨D,hD⟩:∃D,D=C.set (0+A.nNat i*1+0) (.val (.bool v3)):=⟨_,rfl⟩
  refine ZoI hA (C:=C) rfl rfl rfl rfl (by rw [hidx,hC,Zbq];omega) hD ?_
  rw [hidx] at hD
  conv=>cbv
  refine ⟨hir,hR (A.iAdd i 1,D) _ ?_ ⟨by rw [his];omega,by rw [his];omega,?_⟩ (by rw [his];omega)⟩
  ·conv=>cbv
   exact Zk
  ·simp only
   rw [hD,hC,Zks,his]
   refine ZaV λ k hk=>?_
   split
   ·rename_i hk2
    rw [if_pos (by omega),hv3,hv1,hv2,hk2]
   ·rename_i hk2
    by_cases hk3:(k:Int)<i
    ·rw [if_pos hk3,if_pos (by omega)]
    ·rw [if_neg hk3,if_neg (by omega)]
 ·rename_i hc
  have hi:1440<=i:=ltF hA hc
  have hCe:C=(Zpm λ k=>F (g1 k) (g2 k)).map SV.val:=by
   rw [hC,ZvD]
   exact ZaV λ k hk=>if_pos (by omega)
  have hsl:(YR λ k=>F (g1 k) (g2 k)).length<=1000000:=Zrg _
  have hc1:=hcol _ hsl
  obtain ⟨ps,hps⟩:∃ps,ps=Zpm λ k=>F (g1 k) (g2 k):=⟨_,rfl⟩
  rw [<-hps] at hCe hc1
  rw [<-hqq] at hc1
  rw [hq] at hc1
  conv=>cbv
  refine ZfI hA (Frz.still 0 C ps _ _ _ _ rfl (by rw [hCe];exact Zkw _) (Frz.refl _ _)) rfl (ZsM ps) ?_
  conv=>cbv
  refine Za hA (hc1) ?_
  conv=>cbv
  exact ⟨_,Frz.refl _ _,trivial,rfl⟩
def ZgJ (a b:List Y2):List Y2:=YR λ i=>a.any (Zah i)&&!b.any (Zah i)
theorem Zpo (a b:List Y2) {xa xb:List PV} (ha:xa=Z4 a) (hb:xb=Z4 b) (hla:a.length<=1000000) (hlb:b.length<=1000000) :
  Zc Tryz.prog 164 [.list 2 xa,.list 2 xb] (.list 2 (Z4 (ZgJ a b))):=by
 have hc:=Zlz a b ha hb hla hlb
 rw [show (YR λ i:Nat=>a.any (Zah i)&&!b.any (Zah i))=ZgJ a b from rfl] at hc
 generalize ZgJ a b=L at hc
 unfold Zc1 at hc
 by_cases h0:L=[]
 ·subst h0
  rw [if_pos rfl] at hc
  refine Zc.nil_to (m:=0) ?_ (by decide)
  refine Zb (clo:=λ _=>false) (rows:=false) Zg Tryz.func164 rfl (enters_of Tryz.func164 (by kernel_rfl) rfl) (λ A q P Y hr hA hq=>?_)
  conv=>cbv
  refine Za hA (hc) ?_
  conv=>cbv
  rw [<-hq]
 ·rw [if_neg h0] at hc
  refine Zb (clo:=λ _=>false) (rows:=false) Zg Tryz.func164 rfl (enters_of Tryz.func164 (by kernel_rfl) rfl) (λ A q P Y hr hA hq=>?_)
  obtain ⟨r,hr2⟩:∃r,r=Z4 L:=⟨_,rfl⟩
  rw [<-hr2] at hc hq
  conv=>cbv
  refine Za hA (hc) ?_
  conv=>cbv
  rw [<-hq]
def ZaI (l:List Y2) (s:Y2):Bool:=decide (s.To<=s.From) || (decide (0<=s.From)&&decide (s.To<=1440)&&decide ((ZgJ [s] l).length=0))
theorem Zfw (l:List Y2) (s:Y2):ZaI l s=true↔(s.To<=s.From\/(0<=s.From/\s.To<=1440/\∀m,s.From<=m->m<s.To->Zaj l m=true)):=by
 unfold ZaI ZgJ
 simp only [Zzd,Zyi,Zyf,List.length_eq_zero_iff,Zrc]
 constructor
 ·rintro (h | ⟨⟨h1,h2⟩,h3⟩)
  ·exact .inl h
  ·refine .inr ⟨h1,h2,λ m hm1 hm2=>?_⟩
   have h4:=h3 m.toNat (by omega)
   rw [show ((m.toNat:Nat):Int)=m by omega] at h4
   simp only [List.any_cons,List.any_nil,Bool.or_false,Zah,Zyq hm1,Zyq hm2,Bool.and_true,ZyL,Bool.not_eq_false'] at h4
   unfold Zaj
   rw [Zyq (show 0<=m by omega),Zyq (show m<1440 by omega)]
   exact h4
 ·rintro (h | ⟨h1,h2,h3⟩)
  ·exact .inl h
  ·refine .inr ⟨⟨h1,h2⟩,λ j hj=>?_⟩
   by_cases hin:s.From<=(j:Int)/\(j:Int)<s.To
   ·have h4:=h3 j hin.1 hin.2
    unfold Zaj at h4
    simp only [Zyi] at h4
    rw [h4.2]
    simp
   ·rw [Bool.and_eq_false_iff]
    left
    simp only [List.any_cons,List.any_nil,Bool.or_false,Zah,Bool.and_eq_false_iff,Zzm]
    omega
theorem Zny (l:List Y2) (s:Y2) {xs:List PV} (hx:xs=Z4 l) (hl:l.length<=1000000):Zc Tryz.prog 95 [.list 2 xs,Y8 s] (.bool (ZaI l s)):=by
 have hm:=Zpo [s] l (xa:=[Y8 s]) rfl hx (by simp) hl
 have hcv:ZaI l s=(decide (s.To<=s.From) || (decide (0<=s.From)&&decide (s.To<=1440)&&decide ((ZgJ [s] l).length=0))):=rfl
 generalize ZgJ [s] l=L at hm hcv
 obtain ⟨r,hr2⟩:∃r,r=Z4 L:=⟨_,rfl⟩
 have hrl:r.length=L.length:=by rw [hr2];simp [Z4]
 rw [<-hr2] at hm
 refine Zb (clo:=λ _=>false) (rows:=false) Zg Tryz.func95 rfl (enters_of Tryz.func95 (by kernel_rfl) rfl) (λ A q P Y hr hA hq=>?_)
 obtain ⟨a,b⟩:=s
 simp only at hcv
 rw [hcv] at hq
 conv=>cbv
 split
 ·rename_i hc
  conv=>cbv
  rw [<-hq,Zyq (leT hA hc)];rfl
 rename_i hc
 have h0:=leF hA hc
 rw [Zyr (show ¬b<=a by omega),ZzY] at hq
 conv=>cbv
 split
 ·rename_i hc
  rw [Zyq (show 0<=a from leT hA hc),ZyL] at hq
  conv=>cbv
  split
  ·rename_i hc
   rw [Zyq (show b<=1440 from leT hA hc),ZyL] at hq
   conv=>cbv
   refine Za hA (hm) ?_
   conv=>cbv
   rw [<-hq]
   have h9:A.iEq (A.lLen r) 0=decide (L.length=0):=by
    rw [Zl hA hrl];subst hA
    show decide ((L.length:Int)=0)=_
    rw [Z0e];omega
   exact congrArg PV.bool h9
  ·rename_i hc
   conv=>cbv
   rw [<-hq,Zyr (show ¬b<=1440 by have:=leF hA hc;omega)];rfl
 ·rename_i hc
  conv=>cbv
  rw [<-hq,Zyr (show ¬0<=a by have:=leF hA hc;omega)];rfl
open Go.Proofs Go.RowKit
structure Cell where
 Airport:Bool
 Index:Int
 Minute:Int
deriving DecidableEq
structure Use where
 Cell:Cell
 Places:Int
deriving DecidableEq
structure Zr where
 From:Int
 Config:Int
 Modes:List Int
deriving DecidableEq
def Zu (c:Cell):PV:=.agg [.bool c.Airport,.int .i64 c.Index,.int .i64 c.Minute]
def Z6 (l:List Cell):List PV:=l.map Zu
def Znz (u:Use):PV:=.agg [.bool u.Cell.Airport,.int .i64 u.Cell.Index,.int .i64 u.Cell.Minute,.int .i64 u.Places]
def ZP (l:List Use):List PV:=l.map Znz
def Zaw (c:Zr):PV:=.agg [.int .i64 c.From,.int .i64 c.Config,.list 1 (Zd c.Modes)]
def Zz (l:List Zr):List PV:=l.map Zaw
def ZD (l:List Zr):PV:=.agg [.list 3 (Zz l)]
section
variable {A:Ops} {E:Env}
theorem Zfx (hA:A=Ze E) {l:List Cell} {xs:List PV} (hx:xs=Z6 l) {n:Int} {K:List PV->Prop} (h0:0<=n) (h1:n<l.length)
  (hk:∀x,l[n.toNat]?=some x->K [.bool x.Airport,.int .i64 x.Index,.int .i64 x.Minute]):A.idx xs n K :=
 Ya hA (l:=l) (enc:=Zu) hx.symm h0 h1 λ x h=>hk x h
theorem ZfP (hA:A=Ze E) {l:List Use} {xs:List PV} (hx:xs=ZP l) {n:Int} {K:List PV->Prop} (h0:0<=n) (h1:n<l.length)
  (hk:∀x,l[n.toNat]?=some x->K [.bool x.Cell.Airport,.int .i64 x.Cell.Index,.int .i64 x.Cell.Minute,.int .i64 x.Places]):A.idx xs n K :=
 Ya hA (l:=l) (enc:=Znz) hx.symm h0 h1 λ x h=>hk x h
theorem Yg (hA:A=Ze E) {l:List Zr} {xs:List PV} (hx:xs=Zz l) {n:Int} {K:List PV->Prop} (h0:0<=n) (h1:n<l.length)
  (hk:∀x v,l[n.toNat]?=some x->v=Zd x.Modes->K [.int .i64 x.From,.int .i64 x.Config,.list 1 v]):A.idx xs n K :=
 Ya hA (l:=l) (enc:=Zaw) hx.symm h0 h1 λ x h=>hk x _ h rfl
end
def Zcx (p:Int × List Int):Bool:=decide (0<=p.1)&&decide (p.1<p.2.length)
def YX (nc:Nat) (M:List (List Int)) (c:Zr):Bool :=
 decide (0<=c.From)&&decide (c.From<1440)&&decide (0<=c.Config)&&decide (c.Config<nc)&&decide (c.Modes.length=M.length)&&(c.Modes.zip M).all Zcx
def Zdt:Int->List Zr->Bool
 | _,[]=>true
 | p,c::r=>decide (p<c.From)&&Zdt c.From r
def QO (nc:Nat) (M:List (List Int)):List Zr->Bool
 | []=>false
 | c::r=>decide (c.From=0)&&(c::r).all (YX nc M)&&Zdt c.From r
def Qj (t:Zh) (s:List Zr):Int:=if Qe t then (if QO t.Configs.length t.Modes s then 0 else 190) else 140
def QQ (m:Int) (o:Option Zr) (x:Zr):Option Zr :=
 if x.From<=m then match o with | none=>some x | some c=>if c.From<=x.From then some x else some c else o
def inS (s:List Zr) (m:Int):Option Zr:=s.foldl (QQ m) none
def Zbi (ss:List Qy) (v i:Int):Bool:=decide (0<=i)&&(match ss[i.toNat]? with | some s=>decide (v∈s.Volumes) | none=>false)
def Yh (ss:List Qy) (cs:List Config) (c v:Int):Option Int :=
 if 0<=c then match cs[c.toNat]? with | some k=>k.Sectors.find? (Zbi ss v) | none=>none else none
def ZcN (t:Zh) (s:List Zr) (v m:Int):Option Int :=
 match inS s m with | some c=>Yh t.Sectors t.Configs c.Config v | none=>none
theorem Zkx {α β:Type} (f:β->α->β) (b:β) (l:List α) (x:α):(l++[x]).foldl f b=f (l.foldl f b) x:=by simp
theorem Zh0:∀(l:List Zr) (p:Int) (i:Nat) (x y:Zr),Zdt p l=true->l[i]?=some x->l[i+1]?=some y->x.From<y.From
 | [],_,_,_,_,_,h,_=>by simp at h
 | [c],_,i,_,_,_,_,h=>by simp at h
 | c::d::r,p,0,x,y,h,hx,hy=>by
  simp at hx hy;subst hx hy
  simp [Zdt] at h;exact h.2.1
 | c::d::r,p,i+1,x,y,h,hx,hy=>Zh0 (d::r) c.From i x y (by unfold Zdt at h;simp only [Zyi] at h;exact h.2) (by simpa using hx) (by simpa using hy)
theorem Zky:∀(l:List Zr) (p:Int),(∀c r,l=c::r->p<c.From)->(∀(i:Nat) (x y:Zr),l[i]?=some x->l[i+1]?=some y->x.From<y.From)->Zdt p l=true
 | [],_,_,_=>rfl
 | c::r,p,h0,h=>by
  unfold Zdt
  rw [Zyi,Zyf]
  refine ⟨h0 c r rfl,Zky r c.From (λ d q e=>?_) λ i x y hx hy=>h (i+1) x y (by simpa using hx) (by simpa using hy)⟩
  subst e
  exact h 0 c d rfl rfl
theorem Zc2 {nc:Nat} {M:List (List Int)} {s:List Zr}:QO nc M s=true↔(∃c,s[0]?=some c/\c.From=0)/\(∀x∈s,YX nc M x=true)/\∀(i:Nat) (x y:Zr),s[i]?=some x->s[i+1]?=some y->x.From<y.From:=by
 cases s with
 | nil=>simp [QO]
 | cons c r =>
  unfold QO
  rw [Zyi,Zyi,Zyf,Zym]
  constructor
  ·rintro ⟨⟨h1,h2⟩,h3⟩
   refine ⟨⟨c,rfl,h1⟩,h2,λ i x y hx hy=>?_⟩
   exact Zh0 (c::r) (c.From - 1) i x y (by unfold Zdt;rw [h3];simp;omega) hx hy
  ·rintro ⟨⟨d,h1,h2⟩,h3,h4⟩
   cases h1
   refine ⟨⟨h2,h3⟩,Zky r c.From (λ d q e=>?_) λ i x y hx hy=>h4 (i+1) x y (by simpa using hx) (by simpa using hy)⟩
   subst e
   exact h4 0 c d rfl rfl
def Y5 (b:Bool):Int:=if b then 1 else 0
open Go.Proofs Go.RowKit
section
variable {κ α:Type} [DecidableEq κ]
def YT (ek:κ->PV) (f:α->PV) (es:List (κ × α)):List (PV × PV):=es.map λ p=>(ek p.1,f p.2)
def QA (es:List (κ × α)) (c:κ):Option α:=(es.find? λ p=>decide (c=p.1)).map (·.2)
def Zbr (es:List (κ × α)) (c:κ):Bool:=es.any λ p=>decide (c=p.1)
def ZbC (es:List (κ × α)) (c:κ) (v:α):List (κ × α):=if Zbr es c then es.map λ p=>if decide (c=p.1) then (p.1,v) else p else es++[(c,v)]
def ZsN (es:List (κ × α)) (c:κ):List (κ × α):=es.filter λ p=>!decide (c=p.1)
def ZsO (es:List (κ × α)) (c:κ) (z:α):List (κ × α):=if Zbr es c then es else es++[(c,z)]
def Zda (es:List (κ × α)):Prop:=(es.map (·.1)).Nodup
variable {ek:κ->PV} {f:α->PV} (hk:∀a b,keq (ek a) (ek b)=decide (a=b))
include hk
theorem Zkz (es:List (κ × α)) (c:κ):ZeS (YT ek f es) (ek c)=Zbr es c:=by
 unfold ZeS YT Zbr
 rw [List.any_map]
 simp only [Zzu,hk]
theorem Zb1 (es:List (κ × α)) (c:κ):QG (YT ek f es) (ek c)=(QA es c).map f:=by
 unfold QG YT QA
 rw [List.find?_map]
 simp only [Zzu,hk,Option.map_map]
theorem ZdW (es:List (κ × α)) (c:κ) (v:α):Zdz (YT ek f es) (ek c) (f v)=YT ek f (ZbC es c v):=by
 unfold Zdz ZbC
 rw [Zkz hk]
 split
 ·unfold YT
  rw [Zz8,Zz8]
  refine Zzr λ p _=>?_
  simp only [Zzu,hk]
  split<;>rfl
 ·unfold YT;simp
theorem Zk0 (es:List (κ × α)) (c:κ) (v:α):ZkX (YT ek f es) (ek c) (f v)=YT ek f (ZsO es c v):=by
 unfold ZkX ZsO
 rw [Zkz hk]
 split
 ·rfl
 ·unfold YT;simp
theorem Zuw (es:List (κ × α)) (c:κ):ZiZ (YT ek f es) (ek c)=YT ek f (ZsN es c):=by
 unfold ZiZ ZsN YT
 rw [List.filter_map]
 simp only [Zzu,hk]
omit hk
theorem ZbD {es:List (κ × α)} {c:κ}:Zbr es c=true↔c∈es.map (·.1):=by
 unfold Zbr
 simp only [Zzy,Zyf,Zyz]
 constructor
 ·rintro ⟨p,h,e⟩;exact ⟨p,h,e.symm⟩
 ·rintro ⟨p,h,e⟩;exact ⟨p,h,e.symm⟩
theorem Zmp (es:List (κ × α)) (c:κ) (v:α):(ZbC es c v).map (·.1)=if Zbr es c then es.map (·.1) else es.map (·.1)++[c]:=by
 unfold ZbC
 split
 ·rw [Zz8]
  refine Zzr λ p _=>?_
  simp only [Zzu]
  split<;>rfl
 ·simp
theorem Zda.put {es:List (κ × α)} (h:Zda es) (c:κ) (v:α):Zda (ZbC es c v):=by
 unfold Zda
 rw [Zmp]
 split
 ·exact h
 ·rename_i hn
  rw [ZbD] at hn
  rw [ZzA]
  refine ⟨h,by simp,λ a ha b hb e=>?_⟩
  simp at hb
  subst hb e
  exact hn ha
theorem Zda.del {es:List (κ × α)} (h:Zda es) (c:κ):Zda (ZsN es c):=Z04 (List.Sublist.map _ (Z0b)) h
theorem QF {es:List (κ × α)} {c:κ}:QA es c=none↔Zbr es c=false:=by
 unfold QA Zbr
 rw [Z0g,Z0i,Zz1]
theorem ZcA {es:List (κ × α)} {c d:κ} {v:α}:QA (ZbC es c v) d=if d=c then some v else QA es d:=by
 unfold ZbC
 cases hh:Zbr es c with
 | true =>
  rw [if_pos rfl]
  induction es with
  | nil=>cases hh
  | cons p r ih =>
   unfold QA
   rw [Zzl,Z05,Z05]
   by_cases e1:c=p.1
   ·rw [Zyq e1,if_pos rfl]
    by_cases e2:d=p.1
    ·rw [Zyq e2,if_pos (e2.trans e1.symm)];rfl
    ·rw [Zyr e2,if_neg (λ e=>e2 (e.trans e1))]
     simp only
     have:∀q∈r,(λ q:κ × α=>decide (d=q.1)) ((λ p=>if decide (c=p.1)=true then (p.1,v) else p) q)=(λ q:κ × α=>decide (d=q.1)) q:=λ q _=>by
      simp only;split<;>rfl
     clear ih hh
     induction r with
     | nil=>rfl
     | cons q r ih =>
      rw [Zzl,Z05,Z05]
      by_cases e3:d=q.1
      ·have e4:¬c=q.1:=λ e=>e2 (e3.trans (e.symm.trans e1))
       rw [Zyr e4,if_neg (by simp),Zyq e3]
      ·have e5:decide (d=(if decide (c=q.1)=true then (q.1,v) else q).1)=false:=by split<;>simp [e3]
       rw [e5,Zyr e3]
       exact ih λ x hx=>this x (ZyN _ hx)
   ·rw [Zyr e1,if_neg (by simp)]
    by_cases e2:d=p.1
    ·rw [Zyq e2,if_neg (λ e=>e1 (e.symm.trans e2))]
    ·rw [Zyr e2]
     have hr:Zbr r c=true:=by unfold Zbr at hh ⊢;rw [List.any_cons,Zyr e1,ZzY] at hh;exact hh
     exact ih hr
 | false =>
  rw [if_neg (by simp)]
  unfold QA
  rw [List.find?_append]
  by_cases e:d=c
  ·subst e
   rw [if_pos rfl]
   have h0:=QF.2 hh
   unfold QA at h0
   rw [Z0g] at h0
   rw [h0];simp
  ·rw [if_neg e,List.find?_singleton]
   simp [e]
theorem ZsP {es:List (κ × α)} (c:κ) (z:α):QA (ZsO es c z) c=some ((QA es c).getD z):=by
 unfold ZsO
 cases hh:Zbr es c with
 | true =>
  rw [if_pos rfl]
  cases hl:QA es c with
  | none=>rw [QF.1 hl] at hh;cases hh
  | some v=>rfl
 | false =>
  have h0:=QF.2 hh
  rw [if_neg (by simp),h0]
  unfold QA at h0 ⊢
  rw [Z0g] at h0
  rw [List.find?_append,h0]
  simp
theorem Zux {es:List (κ × α)} (c:κ) (z v:α):ZbC (ZsO es c z) c v=ZbC es c v:=by
 unfold ZsO
 cases hh:Zbr es c with
 | true=>rw [if_pos rfl]
 | false =>
  rw [if_neg (by simp)]
  have h1:ZbC es c v=es++[(c,v)]:=by unfold ZbC;rw [hh,if_neg (by simp)]
  have h2:ZbC (es++[(c,z)]) c v=(es++[(c,z)]).map λ p=>if decide (c=p.1) then (p.1,v) else p:=by
   unfold ZbC
   rw [show Zbr (es++[(c,z)]) c=true by unfold Zbr;simp,if_pos rfl]
  have h3:es.map (λ p=>if decide (c=p.1) then (p.1,v) else p)=es:=by
   conv=>rhs;rw [<-List.map_id es]
   refine Zzr λ p hp=>?_
   have:decide (c=p.1)=false:=by
    unfold Zbr at hh
    rw [Zz1] at hh
    simpa using hh p hp
   rw [this];rfl
  rw [h1,h2,ZyX,h3]
  simp
end
theorem QJ (a b:Cell):keq (Zu a) (Zu b)=decide (a=b):=by
 obtain ⟨a1,a2,a3⟩:=a
 obtain ⟨b1,b2,b3⟩:=b
 simp [Zu,keq,ZnT,Zjy]
theorem Zh1 (a b:Int):keq (Z7 a) (Z7 b)=decide (a=b):=by
 simp [Z7,keq,Zjy]
theorem Zb2 {α:Type} {f:α->PV} (es:List (Cell × α)) (c:Cell):Yu true [.bool,.int,.int] (YT Zu f es) (Zu c):=by
 refine ⟨⟨rfl,rfl⟩,rfl,λ p hp=>?_⟩
 unfold YT at hp
 obtain ⟨q,_,rfl⟩:=Zyz.1 hp
 refine ⟨rfl,?_⟩
 simp only [QJ]
 obtain ⟨⟨q1,q2,q3⟩,_⟩:=q
 obtain ⟨c1,c2,c3⟩:=c
 simp [Zu,PV.cells,Qm,Zjw]
open Go.Proofs Go.RowKit
theorem Zrh {A:Ops} {E:Env} {ops:Array Oper} {J:(Nat->Bool)->St->Prop} {K:St->Prop}
  (hlt:∀(i:Nat) (o:Oper),ops[i]?=some o->∀e∈o.after,Region.binds .any e=true->e.on<i)
  (hJ:∀L L',(∀i,i<ops.size->L i=L' i)->∀st,J L st->J L' st)
  (hstep:∀(L:Nat->Bool) (i:Nat) (o:Oper),ops[i]?=some o->L i=false->(∀(j:Nat) (o':Oper),ops[j]?=some o'->L j=true->∀e∈o'.after,Region.binds .any e=true->L e.on=true)->(∀e∈o.after,Region.binds .any e=true->L e.on=true)->∀K':St->Prop,(∀st',J (QX L i) st'->K' st')->∀st,J L st->QT A E false ops.toList [o] st K')
  (hend:∀st,J (λ _=>true) st->K st):∀(fuel:Nat) (listed:Array Bool),listed.size=ops.size->listed.toList.count false<=fuel->(∀(j:Nat) (o':Oper),ops[j]?=some o'->listed.getD j true=true->∀e∈o'.after,Region.binds .any e=true->listed.getD e.on true=true)->∀st,J (λ i=>listed.getD i true) st->Za5 A E ops fuel listed st K:=by
 have hall:∀(listed:Array Bool),listed.size=ops.size->(∀i,i<ops.size->listed.getD i true=true)->∀st,J (λ i=>listed.getD i true) st->K st:=λ listed h1 h2 st h=>hend st (hJ _ (λ _=>true) h2 st h)
 have hnone:∀(listed:Array Bool),listed.size=ops.size->Region.ready .any ops listed=[]->∀i,i<ops.size->listed.getD i true=true:=λ listed hs h i=>by
  induction i using Nat.strongRecOn with
  | ind i ih =>
   intro hi
   cases hq:listed.getD i true with
   | true=>rfl
   | false =>
    have hmem:i∈Region.ready .any ops listed:=mem_ready.2 ⟨hq,ops[i],Zyn hi,λ e he hb=>by
     have h3:=hlt i ops[i] (Zyn hi) e he hb
     have h4:=ih e.on h3 (by omega)
     simp only [Zyo,Zyn (show e.on<listed.size by omega),Zy0] at h4 ⊢
     exact h4⟩
    rw [h] at hmem
    cases hmem
 intro fuel
 induction fuel with
 | zero =>
  intro listed h1 h2 _ st hst
  have h3:∀i,i<ops.size->listed.getD i true=true:=λ i hi=>by
   have hm:false∉listed.toList:=List.count_eq_zero.1 (by omega)
   have hl:i<listed.size:=by omega
   simp only [Zyo,Zyn hl,Zy0]
   cases hb:listed[i]
   ·exact absurd (by rw [<-hb];simp) hm
   ·rfl
  unfold Za5
  cases hr:Region.ready .any ops listed with
  | nil=>exact hall listed h1 h3 st hst
  | cons i r =>
   have hmem:i∈Region.ready .any ops listed:=by rw [hr];simp
   obtain ⟨h4,o,ho,_⟩:=mem_ready.1 hmem
   have h5:=h3 i (Zyv.1 ho).1
   rw [h5] at h4
   cases h4
 | succ fuel ih =>
  intro listed h1 h2 hC st hst
  unfold Za5
  cases hr:Region.ready .any ops listed with
  | nil=>exact hall listed h1 (hnone listed h1 hr) st hst
  | cons i r =>
   have hone:∀j∈i::r,(match ops[j]? with | none=>False | some o=>QT A E false ops.toList [o] st λ st'=>Za5 A E ops fuel (listed.setIfInBounds j true) st' K):=λ j hj=>by
    obtain ⟨h4,o,ho,h5⟩:=mem_ready.1 (by rw [hr];exact hj)
    rw [ho]
    have hjl:j<ops.size:=(Zyv.1 ho).1
    refine hstep _ j o ho h4 hC (λ e he hb=>?_) _ (λ st' hst'=>?_) st hst
    ·have h6:=h5 e he hb
     have h7:=hlt j o ho e he hb
     simp only [Zyo,Zyn (show e.on<listed.size by omega),Zy0] at h6 ⊢
     exact h6
    ·have hup:J (λ i=>(listed.setIfInBounds j true).getD i true) st':=hJ _ _ (λ k hk=>by
      unfold QX
      simp only [Zyo,ZyV]
      by_cases hkj:k=j
      ·subst hkj
       simp [show k<listed.size by omega]
      ·simp [hkj,Z0B hkj]) st' hst'
     refine ih _ (by simp [h1]) ?_ ?_ st' hup
     rotate_left
     ·intro k o' ho' hk e he hb
      have hkl:k<ops.size:=(Zyv.1 ho').1
      have hek:=hlt k o' ho' e he hb
      have key:listed.getD e.on true=true:=by
       by_cases hkj:k=j
       ·subst hkj
        rw [ho] at ho'
        cases ho'
        have h6:=h5 e he hb
        simp only [Zyo,Zyn (show e.on<listed.size by omega),Zy0] at h6 ⊢
        exact h6
       ·refine hC k o' ho' ?_ e he hb
        simp only [Zyo,ZyV] at hk ⊢
        simpa [Z0B hkj] using hk
      simp only [Zyo,ZyV] at key ⊢
      by_cases hej:j=e.on
      ·simp [hej,show e.on<listed.size by omega]
      ·simpa [hej] using key
     have hcnt:(listed.setIfInBounds j true).toList.count false+1<=listed.toList.count false:=by
      have hl2:j<listed.toList.length:=by rw [Zzk];omega
      have hb:listed.toList[j]=false:=by
       simp only [Zyo,Zyn (show j<listed.size by omega),Zy0] at h4
       simpa using h4
      rw [Zz7,List.count_set hl2,hb]
      have:0<listed.toList.count false:=Z0k.2 (by rw [<-hb];exact Zzg hl2)
      show listed.toList.count false - 1+0+1<=_
      omega
     omega
   have hL:∀(l:List Nat) (f:Nat->Prop),(∀j∈l,f j)->ZmJ l f:=by
    intro l f h
    induction l with
    | nil=>trivial
    | cons a t iht =>
     cases t with
     | nil=>exact h a (by simp)
     | cons b u=>exact ⟨h a (by simp),iht λ j hj=>h j (ZyN _ hj)⟩
   exact hL _ _ hone
def Zh2 {ι:Type} (st:St) (ops:Array Oper) (vs:ι->List SV) (bxf:(Nat->Bool)->ι->List (Option (List SV))) (mpf:(Nat->Bool)->ι->List ZaK) (L:Nat->Bool) (n:ι):St :=
 ⟨Zsw L st.sl (vs n) ops.toList 0 st.sl,bxf L n,st.tk,⟨mpf L n,st.ax.yk⟩⟩
theorem Zpp {A:Ops} {E:Env} {id:Nat} {ops:Array Oper} {nb:Nat × Nat} {st:St} {Q:AX->St->Prop} (hm:Zbf E true id ops.size=.each) {ι:Type} (n0:ι) (vs:ι->List SV) (bxf:(Nat->Bool)->ι->List (Option (List SV))) (mpf:(Nat->Bool)->ι->List ZaK)
  (h0:Zh2 st ops vs bxf mpf (λ _=>false) n0=st) (hbx:∀L L',(∀i,i<ops.size->L i=L' i)->∀n,bxf L n=bxf L' n) (hmp:∀L L',(∀i,i<ops.size->L i=L' i)->∀n,mpf L n=mpf L' n)
  (hlt':ZtS ops=true)
  (hstep:∀(L:Nat->Bool) (i:Nat) (o:Oper),ops[i]?=some o->L i=false->(∀(j:Nat) (o':Oper),ops[j]?=some o'->L j=true->∀e∈o'.after,Region.binds .any e=true->L e.on=true)->(∀e∈o.after,Region.binds .any e=true->L e.on=true)->∀(K':St->Prop) (n:ι),(∀n',K' (Zh2 st ops vs bxf mpf (QX L i) n'))->QT A E false ops.toList [o] (Zh2 st ops vs bxf mpf L n) K')
  (hend:∀n,Q .normal (Zh2 st ops vs bxf mpf (λ _=>true) n)):QD A E (.region id ops true) nb st Q:=by
 have hlt:=ZhX hlt'
 unfold QD
 rw [hm]
 have hJ:∀L L',(∀i,i<ops.size->L i=L' i)->∀n,Zh2 st ops vs bxf mpf L n=Zh2 st ops vs bxf mpf L' n:=λ L L' h n=>by
  unfold Zh2
  rw [hbx L L' h,hmp L L' h,Zev (L:=L) (L':=L') λ j _ h2=>h j (by simpa using h2)]
 have e:Zh2 st ops vs bxf mpf (λ i=>(Array.replicate ops.size false).getD i true) n0=st:=by
  refine (hJ _ (λ _=>false) (λ i hi=>?_) n0).trans h0
  simp [Zyo,hi]
 refine Zrh (A:=A) (E:=E) (K:=Q .normal) (J:=λ L s=>∃n,s=Zh2 st ops vs bxf mpf L n) hlt ?_ ?_ ?_ ops.size (Array.replicate ops.size false) (by simp) (by simp [List.count_replicate]) (λ j o' ho' hj=>by
  have:=(Zyv.1 ho').1
  simp [Zyo,this] at hj) st ⟨n0,e.symm⟩
 ·rintro L L' h s ⟨n,rfl⟩
  exact ⟨n,hJ L L' h n⟩
 ·rintro L i o ho hL hC he K' hK s ⟨n,rfl⟩
  exact hstep L i o ho hL hC he K' n λ n'=>hK _ ⟨n',rfl⟩
 ·rintro s ⟨n,rfl⟩
  exact hend n
def Zxl {α:Type} (a b:Bool) (x y z:α):α:=match a with | true=>x | false=>match b with | true=>y | false=>z
end Go.Abs
