/- Contracts of the functions, and what they rest on: part 9. -/
import Derived.Test.YtcafjndjnfdnpaaGreatT8
set_option linter.unusedVariables false
set_option linter.unusedSimpArgs false
namespace Go.Abs
open Go.Proofs Go.RowKit
set_option maxRecDepth 10000 in
set_option maxHeartbeats 4000000 in
theorem Zh9 (t:Zh) (s:List Zr) (f:Flight) (o:Opt) (l:List Qo) {xs:List PV} (hx:xs=ZJ l) (hl:l.length<=150) :
  Zc Tryz.prog 31 [Zn t,ZD s,Zx f,Z2 o,.list 2 xs] (Zf2 t s f o l):=by
 refine Zb (clo:=λ _=>false) (rows:=false) Zg Tryz.func31 rfl (enters_of Tryz.func31 (by kernel_rfl) rfl) (λ A q P Y hr hA hq=>?_)
 have hcap:=Zik t s
 have hchk:=ZoS t f
 have hdel:=Zhu t f o
 have huse:=ZrS t s f.Class l hx hl
 have hR0:Zf2 t s f o l=if Zd8 t s f o l=0 then .tup [YJ (Zk8 t s f o l),.int .i64 0] else .tup [.agg [.int .i64 0,.int .i64 0,.int .i64 0,.list 0 []],.int .i64 (Zd8 t s f o l)]:=rfl
 have hE:Zd8 t s f o l=if Qj t s≠0 then Qj t s else if Z8 t f≠0 then Z8 t f else if (ZbG t f o).2.2≠0 then (ZbG t f o).2.2 else Ql t s f.Class l:=rfl
 have hC:YJ (Zk8 t s f o l)=.agg [.int .i64 (ZbG t f o).1,.int .i64 (ZbG t f o).2.1,.int .i64 0,.list 4 (ZP (Qu t s f.Class l))]:=rfl
 have hD:ZbG t f o=if o=QM then (120,120*Y4 t f,0) else ZL t f o:=rfl
 have hU:Qu t s f.Class l=if Ql t s f.Class l=0 then Yk (l.map (ZG t s)) 1 (Q4 t f.Class) else []:=rfl
 have hlr:Zct t s f.Class l 1=if Ql t s f.Class l≠0 then .tup [.list 0 [],.int .i64 (Ql t s f.Class l)] else .tup [.list 4 (ZP (Yk (l.map (ZG t s)) 1 (Q4 t f.Class))),.int .i64 0]:=rfl
 rw [hC] at hR0
 rw [hlr] at huse
 have hkk:=λ (h:Z8 t f=0)=>Qx h
 have hww:∀k,t.Kinds[f.Class.toNat]?=some k->Y4 t f=k.Weight:=λ k h=>by rw [Y4,h]
 generalize Zf2 t s f o l=r0 at hR0 hq
 generalize Zd8 t s f o l=e0 at hE hR0
 generalize ZbG t f o=fd at hE hR0 hD
 generalize ZL t f o=dd at hdel hD
 generalize Y4 t f=wt at hD hww
 generalize Qj t s=ec at hcap hE
 generalize Z8 t f=ck at hchk hE hkk
 generalize Qu t s f.Class l=UL at hR0 hU
 generalize Yk (l.map (ZG t s)) 1 (Q4 t f.Class)=LU at hU huse
 generalize Ql t s f.Class l=ce at hE hU huse
 obtain ⟨d1,d2,d3⟩:=dd
 obtain ⟨ss,cs,ws,ms,ks,nv,hss,hcs,hws,hms,hks,hnv,htab⟩:=Qd t
 obtain ⟨sc,hsc⟩:∃sc,sc=Zz s:=⟨_,rfl⟩
 rw [ZB hsc] at hcap huse ⊢
 rw [htab] at hcap hchk hdel huse ⊢
 obtain ⟨f1,f2,f3,f4,f5,⟨f6,f7⟩,f8⟩:=f
 obtain ⟨fl,hfl⟩:∃fl,fl=Zd f5:=⟨_,rfl⟩
 rw [Zs _ hfl] at hchk hdel ⊢
 obtain ⟨us,hus⟩:∃us,us=ZP UL:=⟨_,rfl⟩
 rw [<-hus] at hR0
 obtain ⟨o1,o2,o3,o4⟩:=o
 simp only at hcap hchk hdel huse hkk hww ⊢
 have hbad:∀n,n≠0->e0=n->PV.tup [.agg [.int .i64 0,.int .i64 0,.int .i64 0,.list 0 []],.int .i64 n]=q:=λ n h1 h2=>by
  rw [<-hq,hR0,if_neg (by rw [h2];exact h1),h2]
 refine Zf (λ R hR=>?_)
 conv=>cbv
 refine hR _ ?_
 clear hR
 refine Zf (λ R hR=>?_)
 conv=>cbv
 refine Za hA (hcap) ?_
 conv=>cbv
 split
 ·rename_i hc
  have g:=neT hA hc
  rw [if_pos g] at hE
  conv=>cbv
  exact hbad _ g hE
 rename_i hc
 have g:=neF hA hc
 rw [if_neg (by rw [g];simp)] at hE
 refine hR _ ?_
 clear hR hcap
 refine Zf (λ R hR=>?_)
 conv=>cbv
 refine Za hA (hchk) ?_
 conv=>cbv
 split
 ·rename_i hc
  have g2:=neT hA hc
  rw [if_pos g2] at hE
  conv=>cbv
  exact hbad _ g2 hE
 rename_i hc
 have g2:=neF hA hc
 rw [if_neg (by rw [g2];simp)] at hE
 obtain ⟨k,hk,hk0,_,_,_,hW1,hW8,_⟩:=hkk g2
 have hkl:f3<t.Kinds.length:=by have:=(ZxZ.1 hk).1;omega
 rw [hww k hk] at hD
 have hmul:A.iMul 120 k.Weight=120*k.Weight:=Zkb hA _ _
 obtain ⟨k1,k2,k3,k4,k5,k6⟩:=k
 simp only at hW1 hW8 hmul hD
 refine hR _ ?_
 clear hR hchk hkk hww
 refine Zf (λ R hR=>?_)
 conv=>cbv
 refine ⟨Zm hA (by kernel_rfl),?_⟩
 refine Q6 hA hks hk0 hkl (λ z v hz hv=>?_)
 obtain rfl:=Zyc (hk.symm.trans hz)
 clear hz hv
 conv=>cbv
 refine ⟨Zy hA hmul (by unfold Zj;omega),?_⟩
 refine hR _ ?_
 clear hR
 have hne:∀(x y:Opt) (b:Bool),b=A.bNot (A.bAnd (A.iEq x.Delay y.Delay) (A.bAnd (A.iEq x.Way y.Way) (A.bAnd (A.iEq x.Hold y.Hold) (A.bAnd (A.bEq x.Cancel y.Cancel) true))))->b=true->x≠y:=λ x y b h1 h2 e=>by
  subst hA
  rw [h1] at h2
  cases e
  simp [Ze] at h2
 have heq:∀(x y:Opt) (b:Bool),b=A.bNot (A.bAnd (A.iEq x.Delay y.Delay) (A.bAnd (A.iEq x.Way y.Way) (A.bAnd (A.iEq x.Hold y.Hold) (A.bAnd (A.bEq x.Cancel y.Cancel) true))))->b=false->x=y:=λ x y b h1 h2=>by
  subst hA
  rw [h1] at h2
  obtain ⟨x1,x2,x3,x4⟩:=x
  obtain ⟨y1,y2,y3,y4⟩:=y
  simp [Ze] at h2 ⊢
  exact h2
 have hne2:=hne ⟨o1,o2,o3,o4⟩ QM _ rfl
 have heq2:=heq ⟨o1,o2,o3,o4⟩ QM _ rfl
 clear hne heq
 refine Zf (λ R hR=>?_)
 conv=>cbv
 split
 case' h_1 =>
  rename_i hc
  rw [if_neg (hne2 hc)] at hD
  conv=>cbv
  refine Za hA (hdel) ?_
  conv=>cbv
  split
  case' h_1 =>
   rename_i hc
   have g3:=neT hA hc
   rw [hD,if_pos g3] at hE
   conv=>cbv
   exact hbad _ g3 hE
  rename_i hc
  have g3:=neF hA hc
 case' h_2 =>
  rename_i hc
  rw [if_pos (heq2 hc)] at hD
  have g3:(0:Int)=0:=rfl
  rw [<-hmul] at hD
  conv=>cbv
 all_goals
  rw [hD,if_neg (λ h=>h g3)] at hE
  rw [hD] at hR0
  refine hR _ ?_
  clear hR
  refine Zf (λ R hR=>?_)
  conv=>cbv
  by_cases hce:ce=0
  ·rw [if_neg (by rw [hce];simp)] at huse
   rw [if_pos hce] at hU
   rw [if_pos (by rw [hE];exact hce)] at hR0
   rw [<-hU,<-hus] at huse
   refine Za hA huse ?_
   conv=>cbv
   refine hR _ ?_
   conv=>cbv
   split
   ·rename_i hc
    cases (neT hA hc rfl)
   conv=>cbv
   exact hR0.symm.trans hq
  ·rw [if_pos hce] at huse
   refine Za hA huse ?_
   conv=>cbv
   refine hR _ ?_
   conv=>cbv
   split
   rotate_left
   ·rename_i hc
    cases ((show False by exact hce (neF hA hc)))
   conv=>cbv
   exact hbad _ hce hE
structure Zl3 where
 Airport:Bool
 Index:Int
 Minutes:Y2
 Less:Int
deriving DecidableEq
structure ZO where
 Parent:Int
 From:Int
 Cuts:List Zl3
deriving DecidableEq
def Zir (c:Zl3):PV:=.agg [.bool c.Airport,.int .i64 c.Index,.int .i64 c.Minutes.From,.int .i64 c.Minutes.To,.int .i64 c.Less]
def Zca (l:List Zl3):List PV:=l.map Zir
def Ze8 (n:ZO):PV:=.agg [.int .i64 n.Parent,.int .i64 n.From,.list 5 (Zca n.Cuts)]
def YO (l:List ZO):List PV:=l.map Ze8
theorem Zru (n:ZO) {cs:List PV} (h:cs=Zca n.Cuts):Ze8 n=.agg [.int .i64 n.Parent,.int .i64 n.From,.list 5 cs]:=by rw [h];rfl
section
variable {A:Ops} {E:Env}
theorem ZvL (hA:A=Ze E) {l:List Zl3} {xs:List PV} (hx:xs=Zca l) {n:Int} {K:List PV->Prop} (h0:0<=n) (h1:n<l.length)
  (hk:∀x,l[n.toNat]?=some x->K [.bool x.Airport,.int .i64 x.Index,.int .i64 x.Minutes.From,.int .i64 x.Minutes.To,.int .i64 x.Less]):A.idx xs n K :=
 Ya hA (l:=l) (enc:=Zir) hx.symm h0 h1 λ x h=>hk x h
theorem ZcS (hA:A=Ze E) {l:List ZO} {xs:List PV} (hx:xs=YO l) {n:Int} {K:List PV->Prop} (h0:0<=n) (h1:n<l.length)
  (hk:∀x v,l[n.toNat]?=some x->v=Zca x.Cuts->K [.int .i64 x.Parent,.int .i64 x.From,.list 5 v]):A.idx xs n K :=
 Ya hA (l:=l) (enc:=Ze8) hx.symm h0 h1 λ x h=>hk x _ h rfl
end
def ZgN (from_:Int) (c:Zl3):Bool :=
 inB c.Index 0 (if c.Airport then 15 else 63)&&inB c.Less 0 64&&decide (from_<=c.Minutes.From)&&decide (c.Minutes.From<c.Minutes.To)&&decide (c.Minutes.To<=1440)
def ZkF (n:ZO):Bool:=n.Cuts.all (ZgN n.From)&&decide (n.Cuts.length<=64)
def Zmu (l:List ZO) (i:Nat) (n:ZO):Bool :=
 inB n.Parent 0 ((i:Int) - 1)&&inB n.From ((((l[n.Parent.toNat]?).map (·.From)).getD 0)+1) 1439&&(List.range i).all λ k=>match l[k]? with | some m=>decide (k=0) || decide (m.Parent≠n.Parent) || decide (m.From=n.From) | none=>true
def Zf5 (l:List ZO) (i:Nat) (n:ZO):Bool:=ZkF n&&(decide (i=0) || Zmu l i n)
def Zaz (l:List ZO):Bool :=
 inB l.length 1 32&&(match l with | n::_=>decide (n.Parent=-1)&&decide (n.From=0) | []=>false)&&(List.range l.length).all λ i=>match l[i]? with | some n=>Zf5 l i n | none=>true
def Zp9 (l:List ZO):Int:=if Zaz l then 0 else 180
def ZcT (l:List ZO) (n:Int):Bool:=inB n 0 ((l.length:Int) - 1)&&!l.any λ x=>decide (x.Parent=n)
def YB (l:List ZO):List Int:=((List.range l.length).map λ i:Nat=>(i:Int)).filter (ZcT l)
def Zd9 (l:List ZO):Nat->Int->List Int
 | 0,_=>[]
 | k+1,n=>if n<0 then [] else n::(match l[n.toNat]? with | some x=>Zd9 l k x.Parent | none=>[])
def ZcU (l:List ZO) (n:Int):Int:=((l[n.toNat]?).map (·.From)).getD 0
def atL (l:List ZO) (leaf minute:Int):Int:=((Zd9 l 33 leaf).find? λ n=>decide (ZcU l n<=minute)).getD 0
def atE (l:List ZO) (leaf minute:Int):Int:=if Zaz l&&ZcT l leaf&&decide (0<=minute) then 0 else 180
theorem ZkG {α:Type} {P:List α->Prop} (h0:P []) (h1:∀l a,P l->P (l++[a])) (l:List α):P l:=by
 have h:∀l:List α,P l.reverse:=λ l=>by
  induction l with
  | nil=>exact h0
  | cons x r ih=>rw [List.reverse_cons];exact h1 _ _ ih
 have:=h l.reverse
 rwa [List.reverse_reverse] at this
def ZcV (nd:Int->Int) (s:List Int × List (List Int)) (n:Int):List Int × List (List Int) :=
 if nd n∈s.1 then (s.1,s.2.modify (s.1.idxOf (nd n)) (·++[n])) else (s.1++[nd n],s.2++[[n]])
def Zcv (nd:Int->Int) (l:List Int):List Int × List (List Int):=l.foldl (ZcV nd) ([],[])
theorem Zis (nd:Int->Int) (l:List Int) (n:Int):Zcv nd (l++[n])=ZcV nd (Zcv nd l) n:=by simp [Zcv,List.foldl_append]
theorem Zrv {nd:Int->Int} {s:List Int × List (List Int)} {n:Int} (h:s.1.length=s.2.length):(ZcV nd s n).1.length=(ZcV nd s n).2.length:=by
 unfold ZcV
 split
 ·simp [h]
 ·simp [h]
theorem ZpA (nd:Int->Int) (l:List Int):(Zcv nd l).1.length=(Zcv nd l).2.length:=by
 unfold Zcv
 have:∀(l:List Int) (s:List Int × List (List Int)),s.1.length=s.2.length->(l.foldl (ZcV nd) s).1.length=(l.foldl (ZcV nd) s).2.length:=by
  intro l
  induction l with
  | nil=>intro s h;exact h
  | cons x r ih=>intro s h;exact ih _ (Zrv h)
 exact this l _ rfl
theorem ZvM (nd:Int->Int) (l:List Int):(Zcv nd l).2.length<=l.length/\∀g∈(Zcv nd l).2,g.length<=l.length:=by
 refine ZkG (P:=λ l=>(Zcv nd l).2.length<=l.length/\∀g∈(Zcv nd l).2,g.length<=l.length) ?_ ?_ l
 ·simp [Zcv]
 ·intro l n ih
  rw [Zis]
  unfold ZcV
  split
  ·simp only [List.length_modify,Zyg,Zyt]
   refine ⟨by omega,λ g hg=>?_⟩
   obtain ⟨k,hk⟩:=ZyO.1 hg
   rw [List.getElem?_modify,Option.map_eq_map,ZyG] at hk
   obtain ⟨x,hx,rfl⟩:=hk
   have:=ih.2 x (Zyb hx)
   split<;>simp<;>omega
  ·simp only [Zyg,Zyt]
   refine ⟨by omega,λ g hg=>?_⟩
   rcases Zy4.1 hg with h | h
   ·have:=ih.2 g h;omega
   ·rw [Zy3] at h;subst h;simp
def ZaQ (l:List ZO) (leaves:List Int):Bool:=!leaves.isEmpty&&(leaves.all λ n=>decide (n∈YB l))&&decide (leaves.Pairwise (· < ·))
def Zc4 (l:List ZO) (leaves:List Int):Int:=if Zaz l then (if ZaQ l leaves then 0 else 210) else 180
def ZcW (from_:Int):Int:=if from_<30 then 0 else from_ - 30
def ZnB (l:List ZO) (d now:Int) (n:Int):Int:=if now<d then (if atE l n d=0 then atL l n d else 0) else 0
def ZfS (l:List ZO) (leaves:List Int) (d now:Int):List (List Int):=(Zcv (ZnB l d now) leaves).2
theorem ZkH (l:List ZO):(YB l).Pairwise (· < ·):=by
 unfold YB
 refine List.Pairwise.sublist Z0b ?_
 rw [List.pairwise_map]
 exact List.pairwise_lt_range.imp λ h=>Int.ofNat_lt.2 h
theorem ZiS {l:List ZO} {n:Int}:n∈YB l↔ZcT l n=true:=by
 unfold YB
 rw [ZyB,Zyz]
 constructor
 ·exact λ h=>h.2
 ·intro h
  refine ⟨?_,h⟩
  have h2:=h
  unfold ZcT at h2
  simp only [Zyi,inB,Zyf] at h2
  exact ⟨n.toNat,ZyP.2 (by omega),by omega⟩
theorem ZpB (l:List ZO):(YB l).length<=l.length:=by
 unfold YB
 refine Zy1 (ZyH _ _) ?_
 simp
theorem ZkI:∀{l:List Int} {a b:Int},a<=b->l.Pairwise (· < ·)->(∀x∈l,a<=x/\x<b)->(l.length:Int)<=b - a
 | [],a,b,h,_,_=>by simp;omega
 | x::r,a,b,hab,h,hm=>by
  have h1:=ZzI.1 h
  have h3:=hm x (by simp)
  have h2:=ZkI (a:=x+1) (b:=b) (by omega) h1.2 λ y hy=>⟨by have:=h1.1 y hy;omega,(hm y (by simp [hy])).2⟩
  rw [ZyM]
  omega
def Ztg (b:List Cell) (c:Cell):List Cell:=if c∈b then b else b++[c]
def Zbk (l:List Cell):List Cell:=l.foldl Ztg []
theorem ZgO (l:List Cell) (c:Cell):Zbk (l++[c])=Ztg (Zbk l) c:=by simp [Zbk,List.foldl_append]
theorem Zmv (l:List Cell):(Zbk l).length<=l.length:=by
 refine ZkG (P:=λ l=>(Zbk l).length<=l.length) ?_ ?_ l
 ·simp [Zbk]
 ·intro l c ih
  rw [ZgO]
  unfold Ztg
  split<;>simp<;>omega
theorem ZpC (l:List Cell):(Zbk l).Nodup:=by
 refine ZkG (P:=λ l=>(Zbk l).Nodup) ?_ ?_ l
 ·simp [Zbk]
 ·intro l c ih
  rw [ZgO]
  unfold Ztg
  split
  ·exact ih
  ·rename_i h
   rw [ZzA]
   exact ⟨ih,by simp,λ a ha b hb e=>by rw [Zy3] at hb;subst hb;subst e;exact h ha⟩
def ZcX (us:List Use):List Cell:=us.map (·.Cell)
def ZcY (cs:List Q8):List Cell:=cs.flatMap λ y=>ZcX y.Uses
def Zbt (v:List Zu4):List Cell:=v.flatMap λ x=>ZcY x.Choices
structure YY (b:List Cell) (arg:SV) (B:List (Option (List SV))) (m:List (PV × PV)):Prop where
 arg:Zn3 pvC 3 0 b B arg
 map:∃hs:List (Cell × Unit),m=YT Zu (λ _=>.bool true) hs/\Zda hs/\∀c,Zbr hs c=decide (c∈b)
theorem YY.nil:YY [] (.lit 0 []) [] []:=⟨.inl ⟨rfl,rfl⟩,[],rfl,by simp [Zda],λ c=>by simp [Zbr]⟩
theorem YY.more {b:List Cell} {arg:SV} {B:List (Option (List SV))} {m:List (PV × PV)} (h:YY b arg B m) (ex:List (Option (List SV))):YY b arg (B++ex) m:=⟨h.arg.more ex,h.map⟩
theorem YY.look {b:List Cell} {arg:SV} {B:List (Option (List SV))} {m:List (PV × PV)} (h:YY b arg B m) (c:Cell):Yu true [.bool,.int,.int] m (Zu c)/\(QG m (Zu c)).getD (.bool false)=.bool (decide (c∈b)):=by
 obtain ⟨hs,h1,h2,h3⟩:=h.map
 refine ⟨by rw [h1];exact Zb2 _ _,?_⟩
 rw [h1,Zb1 QJ (f:=λ _:Unit=>PV.bool true),<-h3]
 cases hl:QA hs c with
 | none=>rw [QF.1 hl];rfl
 | some u =>
  have:Zbr hs c=true:=by
   cases hh:Zbr hs c with
   | true=>rfl
   | false=>rw [QF.2 hh] at hl;cases hl
  rw [this];rfl
theorem ZuE {l l':List SV} (h:leL l l'):leL (.lit 0 []::l) (SV.val (.list 3 [])::l'):=⟨.inr (.inr ⟨rfl,0,rfl,λ _=>rfl⟩),h⟩
theorem YY.put {b:List Cell} {arg:SV} {B:List (Option (List SV))} {m:List (PV × PV)} (h:YY b arg B m) (c:Cell) {j cap id n:Nat} {rs:List (Option (List SV))} (hrow:ZvH pvC 3 (b++[c]) rs j cap) (hid:id=0+j) (hn:n=b.length+1):YY (b++[c]) (.row id 0 3 n cap) rs (Zdz m (Zu c) (.bool true)):=by
 obtain ⟨hs,h1,h2,h3⟩:=h.map
 refine ⟨.inr ⟨by simp,j,cap,by rw [hid,hn];simp,hrow⟩,ZbC hs c (),by rw [h1];exact ZdW QJ (f:=λ _:Unit=>PV.bool true) hs c (),h2.put _ _,λ d=>?_⟩
 rw [ZyA,ZbD,Zmp,Zyf,Zy4,Zy3]
 have h4:∀d,d∈hs.map (·.1)↔d∈b:=λ d=>by rw [<-ZbD,h3 d,Zyf]
 split
 ·rename_i hh
  rw [h4]
  have h5:c∈b:=(h4 c).1 (ZbD.1 hh)
  constructor
  ·exact .inl
  ·rintro (h | rfl)
   ·exact h
   ·exact h5
 ·rw [Zy4,Zy3,h4]
theorem ZfT {B:List (Option (List SV))} {x:Option (List SV)} {n:Nat} (hn:n=B.length):(B++[x])[n]?=some x:=by
 rw [hn,Zyd (Zyp _),Zzw];rfl
theorem ZnC {B:List (Option (List SV))} {x y:Option (List SV)} {n:Nat} (hn:n=B.length):(B++[x]).set n y=B++[y]:=by
 rw [hn,ZyT _ _ (Zyp _),Zzw];rfl
def Zwh (n:Nat):Bool:=n == 10000000 || n == 9000000
set_option maxRecDepth 10000 in
set_option maxHeartbeats 8000000 in
theorem ZhA (v:List Zu4) {xs:List PV} (hx:xs=Zn6 v) (hlen:(Zbt v).length<=1000000) (hl1:v.length<=1000000) (hl2:∀x∈v,x.Choices.length<=1000000) (hl3:∀x∈v,∀y∈x.Choices,y.Uses.length<=1000000) :
  Zc Tryz.prog 34 [.list 4 xs] (.list 3 (Z6 (YE (Zbk (Zbt v))))):=by
 refine Zf3 (clo:=Zwh) (rows:=true) Zg Tryz.func34 rfl (enters_of Tryz.func34 (by kernel_rfl) rfl) (λ A q P Y R hr hA hq hR=>?_)
 have hxl:xs.length=v.length:=by rw [hx];simp [Zn6]
 refine Zf (λ R0 hR0=>?_)
 conv=>cbv
 refine hR0 _ ?_
 clear hR0
 refine Zf (λ R0 hR0=>?_)
 conv=>cbv
 refine hR0 _ ?_
 clear hR0
 refine Zf (λ R0 hR0=>?_)
 conv=>cbv
 refine Zi hA (λ (z:Int × SV × List (Option (List SV)) × List (PV × PV)) s=>{ (s.put (some 13) (.val (.int .i64 z.1))).put (some 2) z.2.1 with bx:=z.2.2.1,ax:=⟨[.ents z.2.2.2 none],s.ax.yk⟩ })
  (λ z=>0<=z.1/\z.1<=v.length/\YY (Zbk (Zbt (v.take z.1.toNat))) z.2.1 z.2.2.1 z.2.2.2) (λ z=>(v.length - z.1).toNat) (0,.lit 0 [],[],[]) ?_ ?_ ?_
 ·conv=>cbv
  exact Zk
 ·exact ⟨Zyk _,by omega,YY.nil⟩
 rintro R1 ⟨i,arg,B,m⟩ ⟨hi0,hi1,hJ⟩ hR1
 simp only at hi0 hi1 hJ
 refine Zf (λ R2 hR2=>?_)
 conv=>cbv
 refine hR2 _ ?_
 clear hR2
 refine Zf (λ R2 hR2=>?_)
 conv=>cbv
 split
 rotate_left
 ·rename_i hc
  have hge:=ZK hA rfl (Zl hA hxl) hc
  rw [Zyl (by omega)] at hJ
  conv=>cbv
  refine hR0 _ ?_
  clear hR0 hR1 hR2
  have hnod:=ZpC (Zbt v)
  have hbl:=Zmv (Zbt v)
  generalize Zbk (Zbt v)=b at hJ hq hnod hbl
  rcases hJ.arg with ⟨hb,rfl⟩ | ⟨hb0,j,cap,harg,hrow⟩
  ·subst hb
   rw [show Z6 (YE [])=[] by simp [Z6,YE]] at hq
   conv=>cbv
   refine Za hA (Zgp) ?_
   conv=>cbv
   refine hR _ _ (Zk (Zv (Zv (ZuE (ZdJ _))))) ⟨_,Frz.refl _ _,(by (conv=>cbv);exact hq)⟩
  ·obtain ⟨id,hid⟩:∃id,id=0+j:=⟨_,rfl⟩
   obtain ⟨n,hn'⟩:∃n,n=b.length:=⟨_,rfl⟩
   rw [<-hid,<-hn'] at harg
   subst harg
   obtain ⟨junk,h1,h2,h3,h4⟩:=hrow
   have hc:B[id]?=some (some ((b.flatMap pvC).map SV.val++(junk.flatten).map SV.val)):=by
    rw [hid,ZyK,h1,Yp]
   have hs:=Zgo (rows:=true) (clo:=Zwh) (Y:=.none) (tk:=[]) (ax:=⟨[.ents m none],0⟩) (cap:=cap) hc hn' (by omega)
   conv=>cbv
   refine Qg hA hs (λ r bx2 tk2 ax2 h=>?_)
   obtain ⟨rfl,hbx2,rfl,rfl⟩:=h
   conv=>cbv
   have hget:bx2[id]?=some (some (Y6 pvC (YE b) junk)):=by
    rw [hbx2,Zzc (ZxZ.1 hc).1,Yp]
   have hx9:Zcw id 3 (((YE b).map pvC++junk).map PV.agg) (.row id 0 3 n cap)=.val (.list 3 (Z6 (YE b))):=by
    unfold Zcw
    have hsl:(YE b).length=b.length:=(Yj b).length_eq
    simp only
    rw [if_pos ⟨trivial,trivial,trivial,by simp;omega⟩,ZyX,Zzx (by simp;omega),Zz8]
    rfl
   generalize Z6 (YE b)=zs at hx9 hq
   refine hR _ _ (Wk.refl _) ⟨_,Frz.row id 3 _ (((YE b).map pvC++junk).map PV.agg) _ _ _ _ (by rw [Zyj,hget];rfl) (Zh4 _ _ _) (λ x hx=>?_) (Frz.refl _ _),?_⟩
   ·obtain ⟨y,hy,rfl⟩:=Zyz.1 hx
    rcases Zy4.1 hy with h | h
    ·obtain ⟨z,_,rfl⟩:=Zyz.1 h;rfl
    ·exact h2 y h
   ·simp only [St.sealRow,Zzl,ZzW,hx9]
    (conv=>cbv)
    exact hq
 rename_i hc
 have hi:i<v.length:=ZE hA rfl (Zl hA hxl) hc
 have his:A.iAdd i 1=i+1:=Z5 hA _ _
 have hir:A.inR (A.iAdd i 1):=Zy hA his (by unfold Zj;omega)
 obtain ⟨x,hx0⟩:∃x,v[i.toNat]?=some x:=⟨_,Zya (show i.toNat<v.length by omega)⟩
 have hxm:=Zyb hx0
 have hlx:=hl2 x hxm
 have htk:=Zo hi0 hx0
 have hpre:(Zbt (v.take i.toNat)).length+(ZcY x.Choices).length<=1000000:=by
  have e:v=v.take i.toNat++(x::v.drop (i.toNat+1)):=by
   rw [<-(ZxZ.1 hx0).2,ZzR,ZyI]
  have h:=hlen
  rw [e] at h
  unfold Zbt at h ⊢
  rw [Zza,ZyW,Zyg,Zyg] at h
  omega
 have hnxt:Zbt (v.take (i+1).toNat)=Zbt (v.take i.toNat)++ZcY x.Choices:=by
  rw [show (i+1).toNat=i.toNat+1 by omega,ZyD,hx0]
  unfold Zbt
  rw [Zza]
  simp
 generalize hp1:Zbt (v.take i.toNat)=pre1 at hJ hpre hnxt
 refine hR2 _ ?_
 clear hR2
 refine Zf (λ R2 hR2=>?_)
 refine Zc9 (λ R3 hR3=>?_)
 conv=>cbv
 refine ZvJ hA hx hi0 hi (λ x' lv chs hx' hlv hch=>?_)
 obtain rfl:=Zyc (hx0.symm.trans hx')
 clear hx'
 have hchl:chs.length=x.Choices.length:=by rw [hch];simp [Qa]
 conv=>cbv
 refine ZgA hA (z:=[.int .i64 0,.int .i64 0,.list 0 [],.list 0 []]) rfl rfl (by decide) (λ n1 B1 hn1 hB1=>?_)
 have hn1:n1=B.length:=hn1
 have hB1:B1=B++[some [.val (.int .i64 0),.val (.int .i64 0),.lit 0 [],.lit 0 []]]:=hB1
 conv=>cbv
 refine ZfJ hA (cs:=[.val (.int .i64 0),.val (.int .i64 0),.lit 0 [],.lit 0 []]) (by rw [hB1];exact ZfT hn1) rfl rfl rfl (Zyp 4) (λ B2 hB2=>?_)
 have hB2:B2=B++[some [.val (.int .i64 x.Flight),.val (.int .i64 x.Node),.val (.list 1 lv),.val (.list 4 chs)]]:=by
  rw [hB2,hB1];exact ZnC hn1
 have hJ:=hJ.more [some [.val (.int .i64 x.Flight),.val (.int .i64 x.Node),.val (.list 1 lv),.val (.list 4 chs)]]
 have hB2g:B2[n1]?=some (some [.val (.int .i64 x.Flight),.val (.int .i64 x.Node),.val (.list 1 lv),.val (.list 4 chs)]):=by rw [hB2];exact ZfT hn1
 rw [<-hB2] at hJ
 clear hB1 hB2
 conv=>cbv
 refine hR3 _ ?_
 clear hR3
 refine Zf (λ R3 hR3=>?_)
 conv=>cbv
 refine ZhU hA (cs:=[.val (.int .i64 x.Flight),.val (.int .i64 x.Node),.val (.list 1 lv),.val (.list 4 chs)]) (c:=.val (.list 4 chs)) hB2g rfl rfl rfl ?_
 conv=>cbv
 refine hR3 _ ?_
 clear hR3 hB2g hx0 hlv
 refine Zi hA (λ (z:Int × SV × List (Option (List SV)) × List (PV × PV)) s=>{ (s.put (some 20) (.val (.int .i64 z.1))).put (some 2) z.2.1 with bx:=z.2.2.1,ax:=⟨[.ents z.2.2.2 none],s.ax.yk⟩ })
  (λ z=>0<=z.1/\z.1<=x.Choices.length/\YY (Zbk (pre1++ZcY (x.Choices.take z.1.toNat))) z.2.1 z.2.2.1 z.2.2.2) (λ z=>(x.Choices.length - z.1).toNat) (0,arg,B2,m) ?_ ?_ ?_
 ·conv=>cbv
  exact Zk
 ·exact ⟨Zyk _,by omega,by simpa [ZcY] using hJ⟩
 rintro R4 ⟨j,arg2,B3,m2⟩ ⟨hj0,hj1,hJ2⟩ hR4
 simp only at hj0 hj1 hJ2
 refine Zf (λ R3 hR3=>?_)
 conv=>cbv
 refine hR3 _ ?_
 clear hR3
 refine Zf (λ R3 hR3=>?_)
 conv=>cbv
 split
 rotate_left
 ·rename_i hc
  have hge:=ZK hA rfl (Zl hA hchl) hc
  rw [Zyl (by omega),<-hnxt] at hJ2
  conv=>cbv
  refine hR2 _ ?_
  clear hR2 hR3 hR4
  conv=>cbv
  refine ⟨hir,hR1 (A.iAdd i 1,arg2,B3,m2) _ ?_ ⟨by show 0<=A.iAdd i 1;omega,by show A.iAdd i 1<=_;omega,by rw [his];exact hJ2⟩ (by show (v.length - A.iAdd i 1).toNat < _;rw [his];omega)⟩
  conv=>cbv
  exact Zk
 rename_i hc
 have hj:j<x.Choices.length:=ZE hA rfl (Zl hA hchl) hc
 have hjs:A.iAdd j 1=j+1:=Z5 hA _ _
 have hjr:A.inR (A.iAdd j 1):=Zy hA hjs (by unfold Zj;omega)
 obtain ⟨y,hy0⟩:∃y,x.Choices[j.toNat]?=some y:=⟨_,Zya (show j.toNat<x.Choices.length by omega)⟩
 have hym:=Zyb hy0
 have hly:=hl3 x hxm y hym
 have hpre2:(pre1++ZcY (x.Choices.take j.toNat)).length+(ZcX y.Uses).length<=1000000:=by
  have e:x.Choices=x.Choices.take j.toNat++(y::x.Choices.drop (j.toNat+1)):=by
   rw [<-(ZxZ.1 hy0).2,ZzR,ZyI]
  have h:=hpre
  rw [e] at h
  unfold ZcY at h ⊢
  rw [Zza,ZyW,Zyg,Zyg] at h
  rw [Zyg]
  omega
 have hnxt2:pre1++ZcY (x.Choices.take (j+1).toNat)=pre1++ZcY (x.Choices.take j.toNat)++ZcX y.Uses:=by
  rw [show (j+1).toNat=j.toNat+1 by omega,ZyD,hy0]
  unfold ZcY
  rw [Zza,Zy9]
  simp
 generalize hp2:pre1++ZcY (x.Choices.take j.toNat)=pre2 at hJ2 hpre2 hnxt2
 refine hR3 _ ?_
 clear hR3
 refine Zf (λ R3 hR3=>?_)
 refine Zc9 (λ R5 hR5=>?_)
 conv=>cbv
 refine ZbV hA hch hj0 hj (λ y' us hy' hus=>?_)
 obtain rfl:=Zyc (hy0.symm.trans hy')
 clear hy'
 have husl:us.length=y.Uses.length:=by rw [hus];simp [ZP]
 conv=>cbv
 refine ZgA hA (z:=[.int .i64 0,.int .i64 0,.int .i64 0,.list 0 []]) rfl rfl (by decide) (λ n2 B4 hn2 hB4=>?_)
 have hn2:n2=B3.length:=hn2
 have hB4:B4=B3++[some [.val (.int .i64 0),.val (.int .i64 0),.val (.int .i64 0),.lit 0 []]]:=hB4
 conv=>cbv
 refine ZfJ hA (cs:=[.val (.int .i64 0),.val (.int .i64 0),.val (.int .i64 0),.lit 0 []]) (by rw [hB4];exact ZfT hn2) rfl rfl rfl (Zyp 4) (λ B5 hB5=>?_)
 have hB5:B5=B3++[some [.val (.int .i64 y.Delay),.val (.int .i64 y.Cost),.val (.int .i64 y.Changes),.val (.list 4 us)]]:=by
  rw [hB5,hB4];exact ZnC hn2
 have hJ2:=hJ2.more [some [.val (.int .i64 y.Delay),.val (.int .i64 y.Cost),.val (.int .i64 y.Changes),.val (.list 4 us)]]
 have hB5g:B5[n2]?=some (some [.val (.int .i64 y.Delay),.val (.int .i64 y.Cost),.val (.int .i64 y.Changes),.val (.list 4 us)]):=by rw [hB5];exact ZfT hn2
 rw [<-hB5] at hJ2
 clear hB4 hB5
 conv=>cbv
 refine hR5 _ ?_
 clear hR5
 refine Zf (λ R5 hR5=>?_)
 conv=>cbv
 refine ZhU hA (cs:=[.val (.int .i64 y.Delay),.val (.int .i64 y.Cost),.val (.int .i64 y.Changes),.val (.list 4 us)]) (c:=.val (.list 4 us)) hB5g rfl rfl rfl ?_
 conv=>cbv
 refine hR5 _ ?_
 clear hR5 hB5g hy0
 refine Zi hA (λ (z:Int × SV × List (Option (List SV)) × List (PV × PV)) s=>{ (s.put (some 27) (.val (.int .i64 z.1))).put (some 2) z.2.1 with bx:=z.2.2.1,ax:=⟨[.ents z.2.2.2 none],s.ax.yk⟩ })
  (λ z=>0<=z.1/\z.1<=y.Uses.length/\YY (Zbk (pre2++ZcX (y.Uses.take z.1.toNat))) z.2.1 z.2.2.1 z.2.2.2) (λ z=>(y.Uses.length - z.1).toNat) (0,arg2,B5,m2) ?_ ?_ ?_
 ·conv=>cbv
  exact Zk
 ·exact ⟨Zyk _,by omega,by simpa [ZcX] using hJ2⟩
 rintro R6 ⟨k,arg3,B6,m3⟩ ⟨hk0,hk1,hJ3⟩ hR6
 simp only at hk0 hk1 hJ3
 refine Zf (λ R5 hR5=>?_)
 conv=>cbv
 refine hR5 _ ?_
 clear hR5
 refine Zf (λ R5 hR5=>?_)
 conv=>cbv
 split
 rotate_left
 ·rename_i hc
  have hge:=ZK hA rfl (Zl hA husl) hc
  rw [Zyl (by omega),<-hnxt2] at hJ3
  conv=>cbv
  refine hR3 _ ?_
  clear hR2 hR3 hR5 hR6
  conv=>cbv
  refine ⟨hjr,hR4 (A.iAdd j 1,arg3,B6,m3) _ ?_ ⟨by show 0<=A.iAdd j 1;omega,by show A.iAdd j 1<=_;omega,by rw [hjs];exact hJ3⟩ (by show (x.Choices.length - A.iAdd j 1).toNat < _;rw [hjs];omega)⟩
  conv=>cbv
  exact Zk
 rename_i hc
 have hk:k<y.Uses.length:=ZE hA rfl (Zl hA husl) hc
 have hks:A.iAdd k 1=k+1:=Z5 hA _ _
 have hkr:A.inR (A.iAdd k 1):=Zy hA hks (by unfold Zj;omega)
 have hmu:(y.Uses.length - A.iAdd k 1).toNat<(y.Uses.length - k).toNat:=by rw [hks];omega
 obtain ⟨u,hu0⟩:∃u,y.Uses[k.toNat]?=some u:=⟨_,Zya (show k.toNat<y.Uses.length by omega)⟩
 have hnxt3:Zbk (pre2++ZcX (y.Uses.take (k+1).toNat))=Ztg (Zbk (pre2++ZcX (y.Uses.take k.toNat))) u.Cell:=by
  rw [show (k+1).toNat=k.toNat+1 by omega,ZyD,hu0,<-ZgO]
  unfold ZcX
  simp
 have hb3:(Zbk (pre2++ZcX (y.Uses.take k.toNat))).length<=1000000:=by
  refine Zy1 (Zmv _) (Zy1 ?_ hpre2)
  unfold ZcX
  simp
  omega
 generalize Zbk (pre2++ZcX (y.Uses.take k.toNat))=b at hJ3 hnxt3 hb3
 refine hR5 _ ?_
 clear hR5
 refine Zf (λ R5 hR5=>?_)
 refine Zc9 (λ R7 hR7=>?_)
 conv=>cbv
 refine ZfP hA hus hk0 hk (λ u' hu'=>?_)
 obtain rfl:=Zyc (hu0.symm.trans hu')
 clear hu'
 obtain ⟨⟨u1,u2,u3⟩,u4⟩:=u
 conv=>cbv
 refine ZgA hA (z:=[.bool false,.int .i64 0,.int .i64 0,.int .i64 0]) rfl rfl (by decide) (λ n3 B7 hn3 hB7=>?_)
 have hn3:n3=B6.length:=hn3
 have hB7:B7=B6++[some [.val (.bool false),.val (.int .i64 0),.val (.int .i64 0),.val (.int .i64 0)]]:=hB7
 conv=>cbv
 refine ZfJ hA (cs:=[.val (.bool false),.val (.int .i64 0),.val (.int .i64 0),.val (.int .i64 0)]) (by rw [hB7];exact ZfT hn3) rfl rfl rfl (Zyp 4) (λ B8 hB8=>?_)
 have hB8:B8=B6++[some [.val (.bool u1),.val (.int .i64 u2),.val (.int .i64 u3),.val (.int .i64 u4)]]:=by
  rw [hB8,hB7];exact ZnC hn3
 have hJ3:=hJ3.more [some [.val (.bool u1),.val (.int .i64 u2),.val (.int .i64 u3),.val (.int .i64 u4)]]
 have hB8g:B8[n3]?=some (some [.val (.bool u1),.val (.int .i64 u2),.val (.int .i64 u3),.val (.int .i64 u4)]):=by rw [hB8];exact ZfT hn3
 rw [<-hB8] at hJ3
 clear hB7 hB8
 conv=>cbv
 refine hR7 _ ?_
 clear hR7
 obtain ⟨hko,hlo⟩:=hJ3.look ⟨u1,u2,u3⟩
 have hld:∀(K:SV->St->Prop) (st:St),st.bx=B8->K (.val (.agg [.bool u1,.int .i64 u2,.int .i64 u3])) st->A.rld 87 (.box n3 0) st K:=λ K st hst h=>Zjo hA (cs:=[.val (.bool u1),.val (.int .i64 u2),.val (.int .i64 u3),.val (.int .i64 u4)]) (l:=[.bool u1,.int .i64 u2,.int .i64 u3]) (by rw [hst];exact hB8g) rfl rfl (by show 0+3<=4;omega) h
 have hadd:Ztg b ⟨u1,u2,u3⟩=if (⟨u1,u2,u3⟩:Cell)∈b then b else b++[⟨u1,u2,u3⟩]:=rfl
 refine Zf (λ R7 hR7=>?_)
 conv=>cbv
 refine hld _ _ rfl ?_
 conv=>cbv
 by_cases hmem:(⟨u1,u2,u3⟩:Cell)∈b
 ·rw [Zyq hmem] at hlo
  rw [if_pos hmem] at hadd
  refine ⟨Q1 hA hko,Yv hA (b:=_) hlo rfl ?_⟩
  conv=>cbv
  refine hR7 _ ?_
  clear hR7
  conv=>cbv
  split
  ·rename_i hc
   cases ((show False by have h9:true=false:=Yy hA hc;cases h9))
  conv=>cbv
  refine hR5 _ ?_
  conv=>cbv
  refine ⟨hkr,hR6 (A.iAdd k 1,arg3,B8,m3) _ ?_ ⟨by show 0<=A.iAdd k 1;omega,by show A.iAdd k 1<=_;omega,by rw [hks,hnxt3,hadd];exact hJ3⟩ hmu⟩
  conv=>cbv
  exact Zk
 ·rw [Zyr hmem] at hlo
  rw [if_neg hmem] at hadd
  refine ⟨Q1 hA hko,Yv hA (b:=_) hlo rfl ?_⟩
  conv=>cbv
  refine hR7 _ ?_
  clear hR7
  have hput:=λ {jj cap id n:Nat} {rs:List (Option (List SV))} (h1:ZvH pvC 3 (b++[⟨u1,u2,u3⟩]) rs jj cap) (h2:id=0+jj) (h3:n=b.length+1)=>hJ3.put ⟨u1,u2,u3⟩ h1 h2 h3
  have hep:A.ePut m3 (Zu ⟨u1,u2,u3⟩) (.bool true)=Zdz m3 (Zu ⟨u1,u2,u3⟩) (.bool true):=by subst hA;rfl
  rw [<-hep] at hput
  conv=>cbv
  split
  rotate_left
  ·rename_i hc
   cases ((show False by have h9:false=true:=YP hA hc;cases h9))
  conv=>cbv
  refine hld _ _ rfl ?_
  conv=>cbv
  refine ⟨⟨Q1 hA hko,trivial⟩,?_⟩
  conv=>cbv
  refine hld _ _ rfl ?_
  conv=>cbv
  refine Zxn hA (pv:=pvC) (m:=3) (ts:=104) (e:=87) rfl rfl rfl (by decide) (by decide) (λ _=>rfl) (bx0:=[]) (k0:=0) rfl hJ3.arg (by omega) ⟨u1,u2,u3⟩ _ _ _ _ (λ jj cap rs' hrow=>?_)
  obtain ⟨id,hid⟩:∃id,id=0+jj:=⟨_,rfl⟩
  obtain ⟨nn,hnn⟩:∃nn,nn=b.length+1:=⟨_,rfl⟩
  rw [<-hid,<-hnn]
  have hnew:=hput hrow hid hnn
  conv=>cbv
  refine hR5 _ ?_
  conv=>cbv
  refine ⟨hkr,hR6 (A.iAdd k 1,.row id 0 3 nn cap,rs',A.ePut m3 (Zu ⟨u1,u2,u3⟩) (.bool true)) _ ?_ ⟨by show 0<=A.iAdd k 1;omega,by show A.iAdd k 1<=_;omega,by rw [hks,hnxt3,hadd];exact hnew⟩ hmu⟩
  conv=>cbv
  exact Zk
theorem ZkJ {g:FuncId} {caps xs:List PV} (p:Zl3->Bool) (l:List Zl3) (hxs:xs=Zca l) (hg:∀x∈l,Zc Tryz.prog g (Zir x::caps) (.bool (p x))) :
  Zc Tryz.prog 231 [.list 5 xs,.fn g caps] (.int .i64 (QY p l)):=by
 refine Zb (clo:=λ _=>false) (rows:=false) Zg Tryz.func231 rfl (enters_of Tryz.func231 (by kernel_rfl) rfl) (λ A q P Y hr hA hq=>?_)
 have hlen:=(hr.mem (p:=.list 5 xs) (by simp)).len
 have hll:xs.length=l.length:=by rw [hxs];simp [Zca]
 conv=>cbv
 refine Zi hA (λ (i:Int) s=>s.put (some 8) (.val (.int .i64 i))) (λ i=>0<=i/\i<=l.length/\∀x∈l.take i.toNat,p x=false) (λ i=>(l.length - i).toNat) 0 ?_ ?_ ?_
 ·conv=>cbv
  exact Zk (by simp [leL,leS])
 ·exact ⟨Zyk _,by omega,by simp⟩
 ·intro R i hi hR
  conv=>cbv
  split
  ·rename_i h1
   have h1':i<l.length:=by subst hA;rw [<-hll];simpa [Ze] using h1
   conv=>cbv
   refine ZvL hA hxs hi.1 h1' (λ x hx =>?_)
   conv=>cbv
   refine YC hA (hg x (Zyb hx)) (by simp [Zir]) ?_
   have htake:=Zo hi.1 hx
   conv=>cbv
   split
   ·rename_i h2
    conv=>cbv
    rw [<-hq,YI hi.1 hx h2 hi.2.2]
   ·rename_i h2
    conv=>cbv
    refine ⟨by subst hA;show Zj (i+1);unfold Zj;omega,hR (A.iAdd i 1) _ (by (conv=>cbv);exact Zk (by simp [leL,leS])) ?_ ?_⟩
    ·subst hA
     show 0<=i+1/\i+1<=l.length/\∀x∈l.take (i+1).toNat,p x=false
     refine ⟨by omega,by omega,λ y hy=>?_⟩
     rw [htake,Zy4] at hy
     rcases hy with hy | hy
     ·exact hi.2.2 y hy
     ·rw [Zy3.1 hy];exact h2
    ·subst hA
     show (l.length - (i+1)).toNat<(l.length - i).toNat
     omega
  ·rename_i h1
   have h1':¬i<l.length:=by subst hA;rw [<-hll];simpa [Ze] using h1
   conv=>cbv
   rw [<-hq,Yd]
   intro y hy
   refine hi.2.2 y ?_
   rw [Zyl (by omega)]
   exact hy
theorem ZhB {g:FuncId} {caps xs:List PV} (p:Zl3->Bool) (l:List Zl3) (hxs:xs=Zca l) (hg:∀x∈l,Zc Tryz.prog g (Zir x::caps) (.bool (p x))) :
  Zc Tryz.prog 166 [.list 5 xs,.fn g caps] (.bool (l.any p)):=by
 refine Zb (clo:=λ _=>false) (rows:=false) Zg Tryz.func166 rfl (enters_of Tryz.func166 (by kernel_rfl) rfl) (λ A q P Y hr hA hq=>?_)
 conv=>cbv
 refine Za hA (ZkJ p l hxs hg) ?_
 obtain ⟨r,hr⟩:∃r,r=QY p l:=⟨_,rfl⟩
 rw [<-hr]
 conv=>cbv
 rw [<-hq,<-YV,<-hr]
 subst hA
 rfl
theorem Zjf {g:FuncId} {caps xs:List PV} (p:ZO->Bool) (l:List ZO) (hxs:xs=YO l) (hg:∀x∈l,Zc Tryz.prog g (Ze8 x::caps) (.bool (p x))) :
  Zc Tryz.prog 232 [.list 3 xs,.fn g caps] (.int .i64 (QY p l)):=by
 refine Zb (clo:=λ _=>false) (rows:=false) Zg Tryz.func232 rfl (enters_of Tryz.func232 (by kernel_rfl) rfl) (λ A q P Y hr hA hq=>?_)
 have hlen:=(hr.mem (p:=.list 3 xs) (by simp)).len
 have hll:xs.length=l.length:=by rw [hxs];simp [YO]
 conv=>cbv
 refine Zi hA (λ (i:Int) s=>s.put (some 8) (.val (.int .i64 i))) (λ i=>0<=i/\i<=l.length/\∀x∈l.take i.toNat,p x=false) (λ i=>(l.length - i).toNat) 0 ?_ ?_ ?_
 ·conv=>cbv
  exact Zk (by simp [leL,leS])
 ·exact ⟨Zyk _,by omega,by simp⟩
 ·intro R i hi hR
  conv=>cbv
  split
  ·rename_i h1
   have h1':i<l.length:=by subst hA;rw [<-hll];simpa [Ze] using h1
   conv=>cbv
   refine ZcS hA hxs hi.1 h1' (λ x v0 hx hv0=>?_)
   conv=>cbv
   refine YC hA (hg x (Zyb hx)) (by simp [Ze8,hv0]) ?_
   have htake:=Zo hi.1 hx
   conv=>cbv
   split
   ·rename_i h2
    conv=>cbv
    rw [<-hq,YI hi.1 hx h2 hi.2.2]
   ·rename_i h2
    conv=>cbv
    refine ⟨by subst hA;show Zj (i+1);unfold Zj;omega,hR (A.iAdd i 1) _ (by (conv=>cbv);exact Zk (by simp [leL,leS])) ?_ ?_⟩
    ·subst hA
     show 0<=i+1/\i+1<=l.length/\∀x∈l.take (i+1).toNat,p x=false
     refine ⟨by omega,by omega,λ y hy=>?_⟩
     rw [htake,Zy4] at hy
     rcases hy with hy | hy
     ·exact hi.2.2 y hy
     ·rw [Zy3.1 hy];exact h2
    ·subst hA
     show (l.length - (i+1)).toNat<(l.length - i).toNat
     omega
  ·rename_i h1
   have h1':¬i<l.length:=by subst hA;rw [<-hll];simpa [Ze] using h1
   conv=>cbv
   rw [<-hq,Yd]
   intro y hy
   refine hi.2.2 y ?_
   rw [Zyl (by omega)]
   exact hy
theorem ZgP {g:FuncId} {caps xs:List PV} (p:ZO->Bool) (l:List ZO) (hxs:xs=YO l) (hg:∀x∈l,Zc Tryz.prog g (Ze8 x::caps) (.bool (p x))) :
  Zc Tryz.prog 168 [.list 3 xs,.fn g caps] (.bool (l.any p)):=by
 refine Zb (clo:=λ _=>false) (rows:=false) Zg Tryz.func168 rfl (enters_of Tryz.func168 (by kernel_rfl) rfl) (λ A q P Y hr hA hq=>?_)
 conv=>cbv
 refine Za hA (Zjf p l hxs hg) ?_
 obtain ⟨r,hr⟩:∃r,r=QY p l:=⟨_,rfl⟩
 rw [<-hr]
 conv=>cbv
 rw [<-hq,<-YV,<-hr]
 subst hA
 rfl
theorem ZiT (n a b:Int):Zc Tryz.prog 165 [.int .i64 n,.int .i64 a,.int .i64 b] (.bool (inB n a b)):=by
 refine Zb (clo:=λ _=>false) (rows:=false) Zg Tryz.func165 rfl (enters_of Tryz.func165 (by kernel_rfl) rfl) (λ A q P Y hr hA hq=>?_)
 have hb:inB n a b=(decide (a<=n)&&decide (n<=b)):=rfl
 conv=>cbv
 split
 ·rename_i h
  conv=>cbv
  rw [<-hq,hb,Zyq (leT hA h)]
  show PV.bool (A.iLe n b)=_
  subst hA;rfl
 ·rename_i h
  conv=>cbv
  rw [<-hq,hb,Zyr (show ¬a<=n by have:=leF hA h;omega)];rfl
theorem ZuF (n:Int) (x:ZO):Zc Tryz.prog 169 [Ze8 x,.ptr [.int .i64 n] 0] (.bool (decide (x.Parent=n))):=by
 refine Zb (clo:=λ _=>false) (rows:=false) Zg Tryz.func169 rfl (enters_of Tryz.func169 (by kernel_rfl) rfl) (λ A q P Y hr hA hq=>?_)
 obtain ⟨cs,hcs⟩:∃cs,cs=Zca x.Cuts:=⟨_,rfl⟩
 rw [Zru x hcs]
 obtain ⟨p,f,c⟩:=x
 simp only at hq ⊢
 conv=>cbv
 rw [<-hq]
 subst hA;rfl
theorem Zmw (l:List ZO) (n:Int) {xs:List PV} (hx:xs=YO l) (hl:l.length<=1000000):Zc Tryz.prog 97 [.list 3 xs,.int .i64 n] (.bool (ZcT l n)):=by
 refine Zb (clo:=λ _=>false) (rows:=false) Zg Tryz.func97 rfl (enters_of Tryz.func97 (by kernel_rfl) rfl) (λ A q P Y hr hA hq=>?_)
 have hxl:xs.length=l.length:=by rw [hx];simp [YO]
 have hc:=ZgP (λ x=>decide (x.Parent=n)) l hx (λ x _=>ZuF n x)
 have hb:ZcT l n=(inB n 0 ((l.length:Int) - 1)&&!l.any λ x=>decide (x.Parent=n)):=rfl
 generalize (l.any λ x=>decide (x.Parent=n))=b at hc hb
 have hs:A.iSub (A.lLen xs) 1=(l.length:Int) - 1:=by rw [ZbJ hA,Zl hA hxl]
 have hi:=ZiT n 0 (A.iSub (A.lLen xs) 1)
 rw [hs] at hi
 obtain ⟨b2,hb2⟩:∃b2,b2=inB n 0 ((l.length:Int) - 1):=⟨_,rfl⟩
 rw [<-hb2] at hi hb
 rw [<-hs] at hi
 conv=>cbv
 refine ⟨Zy hA hs (by unfold Zj;omega),?_⟩
 refine Za hA (hi) ?_
 conv=>cbv
 cases b2 with
 | true =>
  conv=>cbv
  refine Za hA hc ?_
  conv=>cbv
  rw [<-hq,hb];subst hA;rfl
 | false =>
  conv=>cbv
  rw [<-hq,hb];rfl
theorem Zrw (n:Int):Zc Tryz.prog 138 [.int .i64 n] (.bool true):=by
 refine Zb (clo:=λ _=>false) (rows:=false) Zg Tryz.func138 rfl (enters_of Tryz.func138 (by kernel_rfl) rfl) (λ A q P Y hr hA hq=>?_)
 conv=>cbv
 rw [<-hq]
theorem ZdY {l:List ZO} (h:Zaz l=true):1<=l.length/\l.length<=32/\(∀x,l[0]?=some x->x.Parent=-1/\x.From=0)/\∀(i:Nat) (x:ZO),l[i]?=some x->Zf5 l i x=true:=by
 unfold Zaz at h
 simp only [Zyi,inB,Zyf,Zym] at h
 obtain ⟨⟨h1,h2⟩,h3⟩:=h
 refine ⟨by omega,by omega,λ x hx=>?_,λ i x hx=>?_⟩
 ·cases l with
  | nil=>cases hx
  | cons a r =>
   simp only [ZzZ,Zyu] at hx
   subst hx
   simpa using h2
 ·have:=h3 i (ZyP.2 (ZxZ.1 hx).1)
  rw [hx] at this
  exact this
theorem Zco {l:List ZO} (h:Zaz l=true) {i:Nat} {x:ZO} (hx:l[i]?=some x):-1<=x.Parent/\x.Parent<i/\(i≠0->0<=x.Parent):=by
 obtain ⟨_,_,h0,h1⟩:=ZdY h
 rcases ZzE i with rfl | hp
 ·have:=(h0 x hx).1;omega
 ·have h2:=h1 i x hx
  unfold Zf5 at h2
  simp only [Zyi,Zzd,Zyf] at h2
  rcases h2.2 with h3 | h3
  ·omega
  ·unfold Zmu at h3
   simp only [Zyi,inB,Zyf] at h3
   omega
theorem Zit (l:List ZO) (k:Nat) (n:Int):Zd9 l (k+1) n=if n<0 then [] else n::(match l[n.toNat]? with | some x=>Zd9 l k x.Parent | none=>[]):=rfl
theorem Zmx {l:List ZO} (h:Zaz l=true):∀(k:Nat) (n:Int),n<k->n<l.length->Zd9 l (k+1) n=Zd9 l k n
 | 0,n,hn,_=>by rw [Zit,if_pos (by omega)];rfl
 | k+1,n,hn,hl=>by
  rw [Zit l (k+1) n,Zit l k n]
  split
  ·rfl
  ·rename_i h0
   obtain ⟨x,hx⟩:∃x,l[n.toNat]?=some x:=⟨_,Zya (show n.toNat<l.length by omega)⟩
   have hp:=Zco h hx
   rw [hx]
   simp only
   rw [Zmx h k x.Parent (by omega) (by omega)]
theorem ZpD {l:List ZO} (h:Zaz l=true) {n:Int} (h0:0<=n) {x:ZO} (hx:l[n.toNat]?=some x):Zd9 l 33 n=n::Zd9 l 33 x.Parent:=by
 have hl:=(ZdY h).2.1
 have hn:n.toNat<l.length:=(ZxZ.1 hx).1
 have hp:=Zco h hx
 rw [Zit,if_neg (by omega),hx]
 simp only
 rw [Zmx h 32 x.Parent (by omega) (by omega)]
theorem ZvN (l:List ZO) {n:Int} (h0:n<0):Zd9 l 33 n=[]:=by rw [Zit,if_pos h0]
theorem ZvO (l:List ZO) (h:Zaz l=true) (n:Int) (hn:n<l.length) {xs:List PV} (hx:xs=YO l) :
  Zde Tryz.prog 170 [.ptr [.int .i64 n] 0,.ptr [.list 3 xs] 0] ((Zd9 l 33 n).map λ n=>[.int .i64 n]):=by
 refine Zch (clo:=λ _=>false) (rows:=false) Zg Tryz.func170 rfl (enters_of Tryz.func170 (by kernel_rfl) rfl) rfl (λ A P Y Y' y R hr hys hy hA hR=>?_)
 have hR':=λ q (h:q=Y.ys.length\/q=Y.ys.length+1)=>hR q (by rw [hys] at h;exact h)
 conv=>cbv
 refine Zi hA (λ (z:Int × Nat) s=>{ s.put (some 4) (.val (.int .i64 z.1)) with ax:=⟨s.ax.mp,z.2⟩ }) (λ z=>z.1<l.length/\(Zd9 l 33 n).drop z.2=Zd9 l 33 z.1/\z.2<=(Zd9 l 33 n).length) (λ z=>(z.1+1).toNat) (n,0) ?_ ?_ ?_
 ·conv=>cbv
  exact Zk
 ·exact ⟨hn,rfl,ZyQ _⟩
 rintro R2 ⟨m,kk⟩ ⟨hm,hdr,hkl⟩ hR2
 simp only at hm hdr hkl
 conv=>cbv
 split
 ·rename_i hc
  have h0:0<=m:=leT hA hc
  obtain ⟨x,hx0⟩:∃x,l[m.toNat]?=some x:=⟨_,Zya (show m.toNat<l.length by omega)⟩
  have hp:=Zco h hx0
  rw [ZpD h h0 hx0] at hdr
  have hyk:Y.ys[kk]?=some [.int .i64 m]:=by
   have h1:(Zd9 l 33 n)[kk]?=some m:=by
    have h2:((Zd9 l 33 n).drop kk)[0]?=some m:=by rw [hdr];rfl
    rw [Zy8,Zzj] at h2
    exact h2
   rw [hys,Zyh,h1];rfl
  have hkl2:kk+1<=(Zd9 l 33 n).length:=by
   have:=(ZxZ.1 hyk).1
   rw [hys,Zys] at this;omega
  conv=>cbv
  refine QE hA rfl hy hyk ?_ (λ n' hn'=>?_)
  ·conv=>cbv
   refine ZcS hA hx h0 hm (λ z cv hz hcv=>?_)
   obtain rfl:=Zyc (hx0.symm.trans hz)
   clear hz
   conv=>cbv
   refine hR2 (x.Parent,kk+1) _ ?_ ⟨by omega,?_,hkl2⟩ ?_
   ·conv=>cbv
    exact Zk
   ·have h3:=congrArg List.tail hdr
    rw [List.tail_drop,List.tail_cons] at h3
    exact h3
   ·show (x.Parent+1).toNat<(m+1).toNat
    omega
  ·conv=>cbv
   exact hR' _ (.inr hn')
 ·rename_i hc
  have h0:m<0:=leF hA hc
  conv=>cbv
  refine hR' kk (.inl ?_)
  have h2:=List.drop_eq_nil_iff.1 (hdr.trans (ZvN l h0))
  rw [hys,Zys]
  omega
theorem ZwI (n:Int) (xs:List PV):Zc Tryz.prog 98 [.list 3 xs,.int .i64 n] (.fn 170 [.ptr [.int .i64 n] 0,.ptr [.list 3 xs] 0]):=by
 refine Zb (clo:=λ _=>false) (rows:=false) Zg Tryz.func98 rfl (enters_of Tryz.func98 (by kernel_rfl) rfl) (λ A q P Y hr hA hq=>?_)
 conv=>cbv
 rw [<-hq]
def ZdZ (l:List ZO) (k:Nat):List Int:=((List.range k).map λ i:Nat=>(i:Int)).filter (ZcT l)
theorem Zl4 (l:List ZO) (k:Nat):ZdZ l (k+1)=ZdZ l k++if ZcT l k then [(k:Int)] else []:=by
 unfold ZdZ
 rw [List.range_succ,ZyX,ZzH]
 congr 1
 simp only [Zzl,ZzW,List.filter_cons,List.filter_nil]
theorem ZnD (l:List ZO) (k:Nat):(ZdZ l k).length<=k:=by
 unfold ZdZ
 refine Zy1 (ZyH _ _) ?_
 simp
set_option maxRecDepth 4000 in
theorem Zth (l:List ZO) {xs:List PV} (hx:xs=YO l) (hl:l.length<=1000000):Zc Tryz.prog 137 [.list 3 xs,.fn 138 []] (.list 1 (Zd (YB l))):=by
 refine Zb (clo:=λ _=>false) (rows:=false) Zg Tryz.func137 rfl (enters_of Tryz.func137 (by kernel_rfl) rfl) (λ A q P Y hr hA hq=>?_)
 have hxl:xs.length=l.length:=by rw [hx];simp [YO]
 have hlf:=λ n=>Zmw l n hx hl
 conv=>cbv
 refine Zi hA (λ (z:Int × List PV) s=>{ (s.put (some 8) (.val (.int .i64 z.1))).put (some 4) (.own 0 1 z.2) with tk:=[(A.nLen z.2,3)] })
  (λ z=>0<=z.1/\z.1<=l.length/\z.2=Zd (ZdZ l z.1.toNat)) (λ z=>(l.length - z.1).toNat) (0,[]) ?_ ?_ ?_
 ·subst hA
  (conv=>cbv)
  exact ZaM 4 0 1 [] 3 rfl (.inr rfl) (by repeat (first | refine Zv ?_ | refine ZH ?_ | exact Z9)) rfl
 ·exact ⟨Zyk _,by omega,rfl⟩
 rintro R ⟨i,L⟩ ⟨hi0,hi1,hL⟩ hR
 simp only at hi0 hi1 hL
 have hLl:L.length<=1000000:=by
  have:=ZnD l i.toNat
  rw [hL];simp only [Zd,Zys];omega
 conv=>cbv
 split
 ·rename_i hc
  have hi:=ZE hA rfl (Zl hA hxl) hc
  have his:A.iAdd i 1=i+1:=Z5 hA _ _
  have hir:A.inR (A.iAdd i 1):=Zy hA his (by unfold Zj;omega)
  have hsu:=Zl4 l i.toNat
  rw [show ((i.toNat:Nat):Int)=i by omega] at hsu
  have hlfi:=hlf i
  obtain ⟨b,hb⟩:∃b,b=ZcT l i:=⟨_,rfl⟩
  rw [<-hb] at hlfi hsu
  conv=>cbv
  refine Za hA (hlfi) ?_
  conv=>cbv
  cases b with
  | true =>
   conv=>cbv
   refine Za hA (Zrw i) ?_
   conv=>cbv
   have htk:A.tkEq (A.nLen L) (A.nLen L):=by subst hA;rfl
   have hroom:A.room (A.nLen (A.lApp L [.int .i64 i])) 8:=by
    subst hA
    show (L++[_]).length*(8+1)<=140737488355328
    rw [Zyg,Zyt];omega
   refine ⟨⟨htk,hroom⟩,?_⟩
   refine ⟨hir,hR (A.iAdd i 1,A.lApp L [.int .i64 i]) _ ?_ ⟨by rw [his];omega,by rw [his];omega,?_⟩ (by rw [his];omega)⟩
   ·conv=>cbv
    exact Zk
   ·simp only
    rw [his,show (i+1).toNat=i.toNat+1 by omega,hsu,hL]
    subst hA
    show Zd _++_=_
    simp [Zd,Z7]
  | false =>
   conv=>cbv
   refine ⟨hir,hR (A.iAdd i 1,L) _ ?_ ⟨by rw [his];omega,by rw [his];omega,?_⟩ (by rw [his];omega)⟩
   ·conv=>cbv
    exact Zk
   ·simp only
    rw [his,show (i+1).toNat=i.toNat+1 by omega,hsu,hL]
    simp
 ·rename_i hc
  have hi:=ZK hA rfl (Zl hA hxl) hc
  conv=>cbv
  rw [<-hq,hL,show i.toNat=l.length by omega];rfl
theorem ZpE {α:Type} {f:α->PV} (es:List (Int × α)) (c:Int):Yu false [.int] (YT Z7 f es) (Z7 c):=by
 refine ⟨⟨rfl,rfl⟩,rfl,λ p hp=>?_⟩
 unfold YT at hp
 obtain ⟨q,_,rfl⟩:=Zyz.1 hp
 refine ⟨rfl,?_⟩
 simp only [Zh1]
 simp [Z7,PV.cells,Qm,Zjw]
theorem Zti (c:Zl3) (p f:Int) (cs:List PV):Zc Tryz.prog 167 [Zir c,.ptr [.int .i64 p,.int .i64 f,.list 5 cs] 0] (.bool (!ZgN f c)):=by
 refine Zb (clo:=λ _=>false) (rows:=false) Zg Tryz.func167 rfl (enters_of Tryz.func167 (by kernel_rfl) rfl) (λ A q P Y hr hA hq=>?_)
 obtain ⟨ap,ix,⟨a,b⟩,ls⟩:=c
 have hk:ZgN f ⟨ap,ix,⟨a,b⟩,ls⟩=(inB ix 0 (if ap then 15 else 63)&&(inB ls 0 64&&(decide (f<=a)&&(decide (a<b)&&decide (b<=1440))))):=by
  simp only [ZgN,Bool.and_assoc]
 cases ap with
 | true =>
  rw [if_pos rfl] at hk
  conv=>cbv
  refine Qk hA ((ZiT ix 0 15)) rfl (λ b1 hb1=>?_)
  conv=>cbv
  split
  ·rename_i hc
   have h':=Yy hA hc
   conv=>cbv
   rw [<-hq,hk,<-hb1,h'];rfl
  rename_i hc
  have h1:=YP hA hc
  rw [h1] at hb1
  rw [<-hb1,ZyL] at hk
  conv=>cbv
  refine Qk hA ((ZiT ls 0 64)) rfl (λ b2 hb2=>?_)
  conv=>cbv
  split
  ·rename_i hc
   have h':=Yy hA hc
   conv=>cbv
   rw [<-hq,hk,<-hb2,h'];rfl
  rename_i hc
  have h2:=YP hA hc
  rw [h2] at hb2
  rw [<-hb2,ZyL] at hk
  conv=>cbv
  split
  ·rename_i hc
   conv=>cbv
   rw [<-hq,hk,Zyr (show ¬f<=a by have:=ltT hA hc;omega)];rfl
  rename_i hc
  rw [Zyq (show f<=a from ltF hA hc),ZyL] at hk
  conv=>cbv
  split
  ·rename_i hc
   conv=>cbv
   rw [<-hq,hk,Zyr (show ¬a<b by have:=leT hA hc;omega)];rfl
  rename_i hc
  rw [Zyq (show a<b from leF hA hc),ZyL] at hk
  conv=>cbv
  rw [<-hq,hk]
  have h9:A.iLt 1440 b=!decide (b<=1440):=by
   subst hA
   show decide (1440<b)=_
   rw [<-decide_not,Z0e];omega
  exact congrArg PV.bool h9
 | false =>
  rw [if_neg (by decide)] at hk
  conv=>cbv
  refine Qk hA ((ZiT ix 0 63)) rfl (λ b1 hb1=>?_)
  conv=>cbv
  split
  ·rename_i hc
   have h':=Yy hA hc
   conv=>cbv
   rw [<-hq,hk,<-hb1,h'];rfl
  rename_i hc
  have h1:=YP hA hc
  rw [h1] at hb1
  rw [<-hb1,ZyL] at hk
  conv=>cbv
  refine Qk hA ((ZiT ls 0 64)) rfl (λ b2 hb2=>?_)
  conv=>cbv
  split
  ·rename_i hc
   have h':=Yy hA hc
   conv=>cbv
   rw [<-hq,hk,<-hb2,h'];rfl
  rename_i hc
  have h2:=YP hA hc
  rw [h2] at hb2
  rw [<-hb2,ZyL] at hk
  conv=>cbv
  split
  ·rename_i hc
   conv=>cbv
   rw [<-hq,hk,Zyr (show ¬f<=a by have:=ltT hA hc;omega)];rfl
  rename_i hc
  rw [Zyq (show f<=a from ltF hA hc),ZyL] at hk
  conv=>cbv
  split
  ·rename_i hc
   conv=>cbv
   rw [<-hq,hk,Zyr (show ¬a<b by have:=leT hA hc;omega)];rfl
  rename_i hc
  rw [Zyq (show a<b from leF hA hc),ZyL] at hk
  conv=>cbv
  rw [<-hq,hk]
  have h9:A.iLt 1440 b=!decide (b<=1440):=by
   subst hA
   show decide (1440<b)=_
   rw [<-decide_not,Z0e];omega
  exact congrArg PV.bool h9
def ZfU (l:List ZO) (es:List (Int × Int)) (i:Nat):Prop :=
 Zda es/\∀p v,QA es p=some v↔∃(k:Nat) (x:ZO),1<=k/\k<i/\l[k]?=some x/\x.Parent=p/\x.From=v
theorem ZuG {l:List ZO} {es:List (Int × Int)} {i:Nat} {n:ZO} (h:ZfU l es i) (hi:i<=l.length) :
  Zmu l i n=(inB n.Parent 0 ((i:Int) - 1)&&inB n.From (ZcU l n.Parent+1) 1439&&match QA es n.Parent with | some v=>decide (v=n.From) | none=>true):=by
 unfold Zmu ZcU
 congr 1
 rw [ZyA,Zym]
 constructor
 ·intro h1
  cases hl:QA es n.Parent with
  | none=>rfl
  | some v =>
   obtain ⟨k,x,hk1,hk2,hx,hp,hf⟩:=(h.2 _ _).1 hl
   have h2:=h1 k (ZyP.2 hk2)
   rw [hx] at h2
   simp only [Zzd,Zyf] at h2 ⊢
   rcases h2 with (h2 | h2) | h2
   ·omega
   ·exact absurd hp h2
   ·rw [<-hf];exact h2
 ·intro h1 k hk
  have hk2:=ZyP.1 hk
  obtain ⟨m,hm⟩:∃m,l[k]?=some m:=⟨_,Zya (show k<l.length by omega)⟩
  rw [hm]
  simp only [Zzd,Zyf]
  by_cases hk0:k=0
  ·exact .inl (.inl hk0)
  ·by_cases hp:m.Parent=n.Parent
   ·right
    have h3:=(h.2 n.Parent m.From).2 ⟨k,m,by omega,hk2,hm,hp,rfl⟩
    rw [h3] at h1
    simpa using h1
   ·exact .inl (.inr hp)
theorem Ztj {l:List ZO} {es:List (Int × Int)} {i:Nat} {n:ZO} (h:ZfU l es i) (hn:l[i]?=some n) (h1:1<=i) (hl:∀v,QA es n.Parent=some v->v=n.From):ZfU l (ZbC es n.Parent n.From) (i+1):=by
 refine ⟨h.1.put _ _,λ p v=>?_⟩
 rw [ZcA]
 split
 ·rename_i hp
  subst hp
  constructor
  ·intro hv
   cases hv
   exact ⟨i,n,h1,Nat.lt_succ_self _,hn,rfl,rfl⟩
  ·rintro ⟨k,x,hk1,hk2,hx,hp,hf⟩
   rcases Zy6 k i with hk | hk
   ·have:=hl v ((h.2 _ _).2 ⟨k,x,hk1,hk,hx,hp,hf⟩)
    rw [this]
   ·obtain rfl:k=i:=by omega
    rw [hn] at hx
    cases hx
    rw [hf]
 ·rename_i hp
  rw [h.2]
  constructor
  ·rintro ⟨k,x,hk1,hk2,hx⟩
   exact ⟨k,x,hk1,by omega,hx⟩
  ·rintro ⟨k,x,hk1,hk2,hx,hpp,hf⟩
   rcases Zy6 k i with hk | hk
   ·exact ⟨k,x,hk1,hk,hx,hpp,hf⟩
   ·obtain rfl:k=i:=by omega
    rw [hn] at hx
    cases hx
    exact absurd hpp.symm hp
theorem Ztk (l:List ZO):ZfU l [] 1:=by
 refine ⟨by simp [Zda],λ p v=>?_⟩
 constructor
 ·intro h;cases h
 ·rintro ⟨k,x,h1,h2,_⟩;omega
theorem ZuH {l:List ZO} {x0:ZO} (h0:l[0]?=some x0):Zaz l=(inB l.length 1 32&&(decide (x0.Parent=-1)&&decide (x0.From=0))&&(List.range l.length).all λ i=>match l[i]? with | some n=>Zf5 l i n | none=>true):=by
 unfold Zaz
 cases l with
 | nil=>cases h0
 | cons a r =>
  simp only [ZzZ,Zyu] at h0
  subst h0
  rfl
theorem Ztl {l:List ZO} {i:Nat} {n:ZO} (hn:l[i]?=some n) (h:Zf5 l i n=false):Zaz l=false:=by
 cases ht:Zaz l with
 | false=>rfl
 | true =>
  have:=(ZdY ht).2.2.2 i n hn
  rw [h] at this;cases this
theorem Zrx {l:List ZO} {i:Int} {x0:ZO} (h0:l[0]?=some x0) (hf:x0.From=0) (hok:∀(k:Nat) (x:ZO),(k:Int)<i->l[k]?=some x->Zf5 l k x=true):∀(k:Nat) (x:ZO),(k:Int)<i->l[k]?=some x->0<=x.From/\x.From<=1439:=by
 intro k
 induction k using Nat.strongRecOn with
 | _ k ih =>
  intro x hk hx
  by_cases hk0:k=0
  ·subst hk0
   rw [h0] at hx
   cases hx
   omega
  ·have h1:=hok k x hk hx
   unfold Zf5 at h1
   rw [Zyr hk0,ZzY,Zyi] at h1
   have h2:=h1.2
   unfold Zmu at h2
   simp only [Zyi,inB,Zyf] at h2
   obtain ⟨⟨⟨p0,p1⟩,f0,f1⟩,_⟩:=h2
   have hkl:k<l.length:=(ZxZ.1 hx).1
   obtain ⟨px,hpx⟩:∃px,l[x.Parent.toNat]?=some px:=⟨_,Zya (show x.Parent.toNat<l.length by omega)⟩
   have h3:=ih x.Parent.toNat (by omega) px (by omega) hpx
   rw [hpx] at f0
   simp only [Zy5,Zy0] at f0
   omega
set_option maxRecDepth 4000 in
set_option maxHeartbeats 2000000 in
theorem ZpF (l:List ZO) {xs:List PV} (hx:xs=YO l) (hl:l.length<=1000000):Zc Tryz.prog 96 [.list 3 xs] (.int .i64 (Zp9 l)):=by
 refine Zb (clo:=λ n=>n == 9000000) (rows:=false) Zg Tryz.func96 rfl (enters_of Tryz.func96 (by kernel_rfl) rfl) (λ A q P Y hr hA hq=>?_)
 have hxl:xs.length=l.length:=by rw [hx];simp [YO]
 have hll:A.lLen xs=(l.length:Int):=Zl hA hxl
 have hbad:Zaz l=false->PV.int .i64 180=q:=λ h=>by rw [<-hq,Zp9,h];rfl
 have hgood:Zaz l=true->PV.int .i64 0=q:=λ h=>by rw [<-hq,Zp9,h];rfl
 clear hq
 conv=>cbv
 refine Qk hA ((ZiT (A.lLen xs) 1 32)) rfl (λ b1 hb1=>?_)
 conv=>cbv
 rw [hll] at hb1
 split
 ·rename_i hc
  have h':=Yy hA hc
  conv=>cbv
  exact hbad (by unfold Zaz;rw [<-hb1,h'];rfl)
 rename_i hc
 have h1:=YP hA hc
 rw [h1] at hb1
 have hlen:1<=l.length/\l.length<=32:=by
  have:=hb1.symm
  simp only [inB,Zyi,Zyf] at this;omega
 obtain ⟨x0,hx0⟩:∃x0,l[0]?=some x0:=⟨_,Zya (show 0<l.length by omega)⟩
 have htb:=ZuH hx0
 rw [<-hb1,ZyL] at htb
 conv=>cbv
 refine ZcS hA hx (n:=0) (by omega) (by omega) (λ z cv hz hcv=>?_)
 obtain rfl:=Zyc (hx0.symm.trans hz)
 clear hz
 conv=>cbv
 split
 ·rename_i hc
  conv=>cbv
  exact hbad (by rw [htb,Zyr (neT hA hc)];simp)
 rename_i hc
 have e1:x0.Parent=-1:=neF hA hc
 conv=>cbv
 refine ZcS hA hx (n:=0) (by omega) (by omega) (λ z cv hz hcv=>?_)
 obtain rfl:=Zyc (hx0.symm.trans hz)
 clear hz
 conv=>cbv
 split
 ·rename_i hc
  conv=>cbv
  exact hbad (by rw [htb,Zyr (neT hA hc)];simp)
 rename_i hc
 have e2:x0.From=0:=neF hA hc
 rw [Zyq e1,Zyq e2,ZyL,ZyL] at htb
 conv=>cbv
 refine Zi hA (λ (z:Int × List (PV × PV)) s=>{ (s.put (some 30) (.val (.int .i64 z.1))) with ax:=⟨[.ents z.2 none],s.ax.yk⟩ })
  (λ z=>0<=z.1/\z.1<=l.length/\(∀(k:Nat) (x:ZO),(k:Int)<z.1->l[k]?=some x->Zf5 l k x=true)/\∃es:List (Int × Int),z.2=YT Z7 Z7 es/\(z.1=0->es=[])/\(1<=z.1->ZfU l es z.1.toNat)) (λ z=>(l.length - z.1).toNat) (0,[]) ?_ ?_ ?_
 ·conv=>cbv
  exact Zk
 ·exact ⟨Zyk _,by omega,λ k x hk=>by omega,[],rfl,λ _=>rfl,λ h=>by omega⟩
 rintro R ⟨i,m⟩ ⟨hi0,hi1,hok,es,hm,hes0,hes⟩ hR
 simp only at hi0 hi1 hok hm hes0 hes
 conv=>cbv
 split
 rotate_left
 ·rename_i hc
  have hi:=ZK hA rfl hll hc
  conv=>cbv
  refine hgood ?_
  rw [htb,Zym]
  intro k hk
  have hk2:=ZyP.1 hk
  obtain ⟨x,hxk⟩:∃x,l[k]?=some x:=⟨_,Zya hk2⟩
  rw [hxk]
  exact hok k x (by omega) hxk
 rename_i hc
 have hi:=ZE hA rfl hll hc
 have his:A.iAdd i 1=i+1:=Z5 hA _ _
 have hir:A.inR (A.iAdd i 1):=Zy hA his (by unfold Zj;omega)
 obtain ⟨n,hn0⟩:∃n,l[i.toNat]?=some n:=⟨_,Zya (show i.toNat<l.length by omega)⟩
 have hbn:=λ h=>hbad (Ztl hn0 h)
 have hany:=λ (cv:List PV) (h:cv=Zca n.Cuts)=>ZhB (λ c=>!ZgN n.From c) n.Cuts h (λ c _=>Zti c n.Parent n.From cv)
 have hco:ZkF n=(!(n.Cuts.any λ c=>!ZgN n.From c)&&decide (n.Cuts.length<=64)):=by
  unfold ZkF
  congr 1
  rw [List.all_eq_not_any_not]
 generalize (n.Cuts.any λ c=>!ZgN n.From c)=bc at hany hco
 have hnb:Zf5 l i.toNat n=(ZkF n&&(decide (i.toNat=0) || Zmu l i.toNat n)):=rfl
 conv=>cbv
 refine ZcS hA hx hi0 hi (λ z cv hz hcv=>?_)
 obtain rfl:=Zyc (hn0.symm.trans hz)
 clear hz
 have hcl:cv.length=n.Cuts.length:=by rw [hcv];simp [Zca]
 have hany:=hany cv hcv
 conv=>cbv
 refine Za hA hany ?_
 conv=>cbv
 cases bc with
 | true =>
  conv=>cbv
  exact hbn (by rw [hnb,hco];rfl)
 | false =>
  conv=>cbv
  split
  ·rename_i hc
   have g:64<(n.Cuts.length:Int):=ZE hA rfl (Zl hA hcl) hc
   conv=>cbv
   exact hbn (by rw [hnb,hco,Zyr (show ¬n.Cuts.length<=64 by omega)];rfl)
  rename_i hc
  have g:(n.Cuts.length:Int)<=64:=ZK hA rfl (Zl hA hcl) hc
  rw [Zyq (show n.Cuts.length<=64 by omega)] at hco
  have hco:ZkF n=true:=hco
  rw [hco,ZyL] at hnb
  conv=>cbv
  split
  ·rename_i hc
   have he:i=0:=eqT hA hc
   conv=>cbv
   refine ⟨hir,hR (A.iAdd i 1,m) _ ?_ ⟨by rw [his];omega,by rw [his];omega,λ k x hk hx=>?_,es,hm,λ h=>by rw [his] at h;omega,λ _=>?_⟩ (by rw [his];omega)⟩
   ·(conv=>cbv)
    exact Zt (bx:=[]) (bx':=[_]) (mp:=[_]) (mp':=[]) (by repeat (first | refine Zv ?_ | refine ZH ?_ | exact Z9)) (Zyp _) (.inl rfl) rfl rfl
   ·rw [his] at hk
    have hk0:k=i.toNat:=by omega
    rw [hk0,hn0] at hx
    cases hx
    rw [hk0,hnb,Zyq (show i.toNat=0 by omega)];rfl
   ·rw [hes0 he,his,he]
    exact Ztk l
  rename_i hc
  have he:i≠0:=eqF hA hc
  have hk:=hes (by omega)
  have hfi:=ZuG (n:=n) hk (by omega)
  rw [Zyr (show ¬i.toNat=0 by omega),ZzY,hfi,show ((i.toNat:Nat):Int)=i by omega] at hnb
  have hsub:A.iSub i 1=i - 1:=ZbJ hA _ _
  have hin2:Zc Tryz.prog 165 [.int .i64 n.Parent,.int .i64 0,.int .i64 (A.iSub i 1)] (.bool (inB n.Parent 0 (i - 1))):=by
   have:=ZiT n.Parent 0 (A.iSub i 1)
   rw [hsub] at this ⊢
   exact this
  conv=>cbv
  refine ⟨Zm hA (by kernel_rfl),?_⟩
  refine ⟨Zy hA hsub (by unfold Zj;omega),?_⟩
  refine Qk hA (hin2) rfl (λ b2 hb2=>?_)
  conv=>cbv
  split
  ·rename_i hc
   have g2:b2=false:=Yy hA hc
   conv=>cbv
   exact hbn (by rw [hnb,<-hb2,g2];rfl)
  rename_i hc
  have g2:b2=true:=YP hA hc
  rw [g2] at hb2
  have hp:0<=n.Parent/\n.Parent<=i - 1:=by
   have:=hb2.symm
   simpa [inB] using this
  rw [<-hb2,ZyL] at hnb
  obtain ⟨px,hpx⟩:∃px,l[n.Parent.toNat]?=some px:=⟨_,Zya (show n.Parent.toNat<l.length by omega)⟩
  have hfo:ZcU l n.Parent=px.From:=by unfold ZcU;rw [hpx];rfl
  rw [hfo] at hnb
  have hpf:=Zrx (l:=l) (i:=i) hx0 e2 hok n.Parent.toNat px (by omega) hpx
  have hadd:A.iAdd px.From 1=px.From+1:=Z5 hA _ _
  have hin3:Zc Tryz.prog 165 [.int .i64 n.From,.int .i64 (A.iAdd px.From 1),.int .i64 1439] (.bool (inB n.From (px.From+1) 1439)):=by
   have:=ZiT n.From (A.iAdd px.From 1) 1439
   rw [hadd] at this ⊢
   exact this
  conv=>cbv
  refine ZcS hA hx hp.1 (show n.Parent<(l.length:Int) by omega) (λ z v hz hv=>?_)
  obtain rfl:=Zyc (hpx.symm.trans hz)
  clear hz hv
  conv=>cbv
  refine ⟨Zy hA hadd (by unfold Zj;omega),?_⟩
  refine Qk hA (hin3) rfl (λ b3 hb3=>?_)
  conv=>cbv
  split
  ·rename_i hc
   have g3:b3=false:=Yy hA hc
   conv=>cbv
   exact hbn (by rw [hnb,<-hb3,g3];rfl)
  rename_i hc
  have g3:b3=true:=YP hA hc
  rw [g3] at hb3
  rw [<-hb3,ZyL] at hnb
  have hlk:QG m (.int .i64 n.Parent)=(QA es n.Parent).map Z7:=by rw [hm];exact Zb1 Zh1 es n.Parent
  have hkk:Yu false [.int] m (.int .i64 n.Parent):=by rw [hm];exact ZpE (f:=Z7) es n.Parent
  have hpt:A.ePut m (.int .i64 n.Parent) (.int .i64 n.From)=YT Z7 Z7 (ZbC es n.Parent n.From):=by
   subst hA
   show Zdz m _ _=_
   rw [hm]
   exact ZdW Zh1 (f:=Z7) es n.Parent n.From
  have hnext:Zf5 l i.toNat n=true->(∀v,QA es n.Parent=some v->v=n.From)->0<=A.iAdd i 1/\A.iAdd i 1<=l.length/\(∀(k:Nat) (x:ZO),(k:Int)<A.iAdd i 1->l[k]?=some x->Zf5 l k x=true)/\∃es2:List (Int × Int),A.ePut m (.int .i64 n.Parent) (.int .i64 n.From)=YT Z7 Z7 es2/\(A.iAdd i 1=0->es2=[])/\(1<=A.iAdd i 1->ZfU l es2 (A.iAdd i 1).toNat):=λ h1 h2=>by
   rw [his]
   refine ⟨by omega,by omega,λ k x hk2 hx2=>?_,_,hpt,λ h=>by omega,λ _=>?_⟩
   ·by_cases hki:(k:Int)<i
    ·exact hok k x hki hx2
    ·rw [show k=i.toNat by omega,hn0] at hx2
     cases hx2
     rw [show k=i.toNat by omega];exact h1
   ·rw [show (i+1).toNat=i.toNat+1 by omega]
    exact Ztj hk hn0 (by omega) h2
  cases hl2:QA es n.Parent with
  | none =>
   rw [hl2] at hlk hnb hnext
   conv=>cbv
   refine ⟨Q1 hA hkk,Yv hA (v:=.int .i64 0) (b:=false) (by rw [hlk];rfl) (by rw [hlk];rfl) ?_⟩
   conv=>cbv
   refine ⟨⟨Q1 hA hkk,trivial⟩,hir,hR (A.iAdd i 1,A.ePut m (.int .i64 n.Parent) (.int .i64 n.From)) _ ?_ (hnext hnb (λ v h=>by cases h)) ?_⟩
   ·(conv=>cbv)
    exact Zt (bx:=[]) (bx':=[_]) (mp:=[_]) (mp':=[]) (by repeat (first | refine Zv ?_ | refine ZH ?_ | exact Z9)) (Zyp _) (.inl rfl) rfl rfl
   ·show (l.length - A.iAdd i 1).toNat<(l.length - i).toNat
    rw [his];omega
  | some v0 =>
   rw [hl2] at hlk hnb hnext
   conv=>cbv
   refine ⟨Q1 hA hkk,Yv hA (v:=.int .i64 v0) (b:=true) (by rw [hlk];rfl) (by rw [hlk];rfl) ?_⟩
   conv=>cbv
   split
   ·rename_i hc
    have g4:¬v0=n.From:=neT hA hc
    conv=>cbv
    exact hbn (by rw [hnb];exact Zyr g4)
   rename_i hc
   have g4:v0=n.From:=neF hA hc
   conv=>cbv
   refine ⟨⟨Q1 hA hkk,trivial⟩,hir,hR (A.iAdd i 1,A.ePut m (.int .i64 n.Parent) (.int .i64 n.From)) _ ?_ (hnext (by rw [hnb];exact Zyq g4) (λ v h=>by cases h;exact g4)) ?_⟩
   ·(conv=>cbv)
    exact Zt (bx:=[]) (bx':=[_]) (mp:=[_]) (mp':=[]) (by repeat (first | refine Zv ?_ | refine ZH ?_ | exact Z9)) (Zyp _) (.inl rfl) rfl rfl
   ·show (l.length - A.iAdd i 1).toNat<(l.length - i).toNat
    rw [his];omega
theorem Ztm (l:List ZO) {xs:List PV} (hx:xs=YO l) (hl:l.length<=1000000):Zc Tryz.prog 68 [.list 3 xs] (if Zaz l then .tup [.list 1 (Zd (YB l)),.int .i64 0] else .tup [.list 0 [],.int .i64 180]):=by
 refine Zb (clo:=λ _=>false) (rows:=false) Zg Tryz.func68 rfl (enters_of Tryz.func68 (by kernel_rfl) rfl) (λ A q P Y hr hA hq=>?_)
 have hck:=ZpF l hx hl
 unfold Zp9 at hck
 have hlv:=Zth l hx hl
 obtain ⟨L,hL⟩:∃L,L=Zd (YB l):=⟨_,rfl⟩
 rw [<-hL] at hlv hq
 cases hb:Zaz l with
 | false =>
  rw [hb] at hck hq
  have hck:Zc Tryz.prog 96 [.list 3 xs] (.int .i64 180):=hck
  conv=>cbv
  refine Za hA (hck) ?_
  conv=>cbv
  split
  rotate_left
  ·rename_i hc
   cases ((show False by have h9:(180:Int)=0:=neF hA hc;omega))
  conv=>cbv
  rw [<-hq];rfl
 | true =>
  rw [hb] at hck hq
  have hck:Zc Tryz.prog 96 [.list 3 xs] (.int .i64 0):=hck
  conv=>cbv
  refine Za hA (hck) ?_
  conv=>cbv
  split
  ·rename_i hc
   cases (neT hA hc rfl)
  conv=>cbv
  refine Za hA (hlv) ?_
  conv=>cbv
  rw [<-hq];rfl
theorem ZpG {l:List ZO} (h:Zaz l=true):∀(k:Nat) (n:Int),0<=n->n.toNat<k->n<l.length->∃m∈Zd9 l 33 n,ZcU l m=0
 | 0,n,h0,hk,_=>by omega
 | k+1,n,h0,hk,hn=>by
  obtain ⟨x,hx⟩:∃x,l[n.toNat]?=some x:=⟨_,Zya (show n.toNat<l.length by omega)⟩
  have hp:=Zco h hx
  rw [ZpD h h0 hx]
  by_cases hn0:n=0
  ·refine ⟨n,ZzU,?_⟩
   have:=(ZdY h).2.2.1 x (by rw [hn0] at hx;exact hx)
   unfold ZcU
   rw [hx]
   exact this.2
  ·have hp2:=hp.2.2 (by omega)
   obtain ⟨m,hm,hf⟩:=ZpG h k x.Parent hp2 (by omega) (by omega)
   exact ⟨m,ZyN _ hm,hf⟩
theorem ZuI {l:List ZO} (h:Zaz l=true):∀(k:Nat) (n:Int),n<l.length->∀m∈Zd9 l k n,0<=m/\m<l.length
 | 0,n,_,m,hm=>by cases hm
 | k+1,n,hn,m,hm=>by
  rw [Zit] at hm
  split at hm
  ·cases hm
  ·rename_i h0
   rcases ZyJ.1 hm with rfl | hm
   ·exact ⟨by omega,hn⟩
   ·obtain ⟨x,hx⟩:∃x,l[n.toNat]?=some x:=⟨_,Zya (show n.toNat<l.length by omega)⟩
    have hp:=Zco h hx
    rw [hx] at hm
    exact ZuI h k x.Parent (by omega) m hm
theorem ZvP {l:List ZO} {n:Int} (h:ZcT l n=true):0<=n/\n<l.length:=by
 unfold ZcT at h
 simp only [Zyi,inB,Zyf] at h
 omega
theorem Zmy {α:Type} (p:α->Bool):∀(L:List α) (k:Nat) (x:α),L[k]?=some x->p x=true->(∀y∈L.take k,p y=false)->L.find? p=some x
 | [],k,x,h,_,_=>by simp at h
 | a::r,0,x,h,hp,_=>by
  simp at h
  subst h
  rw [Z05,hp]
 | a::r,k+1,x,h,hp,ha=>by
  rw [Z05,ha a (by simp)]
  exact Zmy p r k x (by simpa using h) hp (λ y hy=>ha y (by rw [List.take_succ_cons];exact ZyN _ hy))
set_option maxRecDepth 4000 in
theorem Zxr (l:List ZO) (leaf minute:Int) {xs:List PV} (hx:xs=YO l) (hl:l.length<=1000000):Zc Tryz.prog 41 [.list 3 xs,.int .i64 leaf,.int .i64 minute] (.tup [.int .i64 (if atE l leaf minute=0 then atL l leaf minute else 0),.int .i64 (atE l leaf minute)]):=by
 refine Zb (clo:=λ _=>false) (rows:=false) Zg Tryz.func41 rfl (enters_of Tryz.func41 (by kernel_rfl) rfl) (λ A q P Y hr hA hq=>?_)
 have hck:=ZpF l hx hl
 unfold Zp9 at hck
 have hlf:=Zmw l leaf hx hl
 have hway:=ZwI leaf xs
 have hat:atE l leaf minute=if Zaz l&&ZcT l leaf&&decide (0<=minute) then 0 else 180:=rfl
 have hbad:atE l leaf minute=180->PV.tup [.int .i64 0,.int .i64 180]=q:=λ h=>by rw [<-hq,h];rfl
 cases hb:Zaz l with
 | false =>
  rw [hb] at hck hat
  have hck:Zc Tryz.prog 96 [.list 3 xs] (.int .i64 180):=hck
  conv=>cbv
  refine Za hA (hck) ?_
  conv=>cbv
  split
  rotate_left
  ·rename_i hc
   cases ((show False by have h9:(180:Int)=0:=neF hA hc;omega))
  conv=>cbv
  exact hbad hat
 | true =>
  rw [hb,ZyL] at hat
  rw [hb] at hck
  have hck:Zc Tryz.prog 96 [.list 3 xs] (.int .i64 0):=hck
  obtain ⟨b,hb2⟩:∃b,b=ZcT l leaf:=⟨_,rfl⟩
  rw [<-hb2] at hlf hat
  conv=>cbv
  refine Za hA (hck) ?_
  conv=>cbv
  split
  ·rename_i hc
   cases (neT hA hc rfl)
  conv=>cbv
  refine Za hA (hlf) ?_
  conv=>cbv
  split
  ·rename_i hc
   have hbf:b=false:=Yy hA hc
   conv=>cbv
   exact hbad (by rw [hat,hbf];rfl)
  rename_i hc
  have hbt:b=true:=YP hA hc
  rw [hbt] at hb2 hat
  have hlin:=ZvP hb2.symm
  conv=>cbv
  split
  ·rename_i hc
   have g:minute<0:=ltT hA hc
   conv=>cbv
   exact hbad (by rw [hat,Zyr (show ¬0<=minute by omega)];rfl)
  rename_i hc
  have g:0<=minute:=ltF hA hc
  rw [Zyq g] at hat
  have hat:atE l leaf minute=0:=hat
  have hgood:∀n,(Zd9 l 33 leaf).find? (λ n=>decide (ZcU l n<=minute))=some n->PV.tup [.int .i64 n,.int .i64 0]=q:=λ n h=>by
   rw [<-hq,hat,if_pos rfl]
   unfold atL
   rw [h];rfl
  have hroot:=ZpG hb (leaf.toNat+1) leaf hlin.1 (by omega) hlin.2
  have hseq:=ZvO l hb leaf hlin.2 hx
  have hin:∀m∈Zd9 l 33 leaf,0<=m/\m<l.length:=λ m hm=>ZuI hb 33 leaf hlin.2 m hm
  conv=>cbv
  refine Za hA (hway) ?_
  conv=>cbv
  refine YU hA hseq (λ x hx=>?_) (λ (y:Unit) s=>s) (λ k y=>∀m∈(Zd9 l 33 leaf).take k,decide (ZcU l m<=minute)=false) () (λ _=>rfl) ?_ ?_ ?_ ?_
  ·obtain ⟨o,_,rfl⟩:=Zyz.1 hx;rfl
  ·exact Wk.refl _
  ·intro m hm;simp at hm
  ·intro R k y x hxk hinv hR
   rw [Zyh,ZyG] at hxk
   obtain ⟨m,hm,rfl⟩:=hxk
   have hmi:=hin m (Zyb hm)
   obtain ⟨n,hn0⟩:∃n,l[m.toNat]?=some n:=⟨_,Zya (show m.toNat<l.length by omega)⟩
   have hfo:ZcU l m=n.From:=by unfold ZcU;rw [hn0];rfl
   conv=>cbv
   refine ⟨Zm hA (by kernel_rfl),?_⟩
   refine ZcS hA hx hmi.1 hmi.2 (λ z v hz hv=>?_)
   obtain rfl:=Zyc (hn0.symm.trans hz)
   clear hz hv
   conv=>cbv
   split
   ·rename_i hc
    have g2:n.From<=minute:=leT hA hc
    conv=>cbv
    exact hgood m (Zmy _ _ k m hm (by rw [hfo];exact Zyq g2) hinv)
   ·rename_i hc
    have g2:minute<n.From:=leF hA hc
    conv=>cbv
    refine hR () _ (Wk.refl _) (λ y hy=>?_)
    rw [ZyD,hm,Zy4] at hy
    rcases hy with hy | hy
    ·exact hinv y hy
    ·simp at hy
     subst hy
     rw [hfo]
     exact Zyr (by omega)
  ·intro y hinv
   rw [Zys,Zze] at hinv
   obtain ⟨m,hm,hf⟩:=hroot
   have:=hinv m hm
   rw [hf,Zyq g] at this
   cases this
theorem ZpH (n:Int):Zc Tryz.prog 161 [.int .i64 n] (.bool false):=by
 refine Zb (clo:=λ _=>false) (rows:=false) Zg Tryz.func161 rfl (enters_of Tryz.func161 (by kernel_rfl) rfl) (λ A q P Y hr hA hq=>?_)
 conv=>cbv
 rw [<-hq]
 have h:A.bNot (A.iEq n n)=false:=by subst hA;simp [Ze]
 exact congrArg PV.bool h
theorem ZuJ (n:Int):Zc Tryz.prog 140 [.int .i64 n] (.bool false):=by
 refine Zb (clo:=λ _=>false) (rows:=false) Zg Tryz.func140 rfl (enters_of Tryz.func140 (by kernel_rfl) rfl) (λ A q P Y hr hA hq=>?_)
 conv=>cbv
 rw [<-hq]
 have h:A.bNot (A.iEq n n)=false:=by subst hA;simp [Ze]
 exact congrArg PV.bool h
theorem ZuK (a b:Int):Zc Tryz.prog 139 [.int .i64 a,.int .i64 b] (.bool (decide (a<b))):=by
 refine Zb (clo:=λ _=>false) (rows:=false) Zg Tryz.func139 rfl (enters_of Tryz.func139 (by kernel_rfl) rfl) (λ A q P Y hr hA hq=>?_)
 conv=>cbv
 refine Za hA (ZpH a) ?_
 conv=>cbv
 rw [<-hq]
 subst hA;rfl
def ZuL (l:List Int) (t:Int):Int:=((l.countP λ x=>decide (x<t):Nat):Int)
theorem ZvQ {l:List Int} {t:Int} {i:Nat} (hi:i<=l.length) (h1:∀(k:Nat) (x:Int),k<i->l[k]?=some x->x<t) (h2:∀(k:Nat) (x:Int),i<=k->l[k]?=some x->t<=x):ZuL l t=i:=by
 unfold ZuL
 have e:l=l.take i++l.drop i:=(ZyI i l).symm
 have c1:(l.take i).countP (λ x=>decide (x<t))=i:=by
  rw [List.countP_eq_length.2,ZyE,Z00 hi]
  intro x hx
  obtain ⟨k,hk⟩:=ZyO.1 hx
  rw [Zyx] at hk
  split at hk
  ·exact Zyq (h1 k x (by assumption) hk)
  ·cases hk
 have c2:(l.drop i).countP (λ x=>decide (x<t))=0:=by
  rw [List.countP_eq_zero]
  intro x hx
  obtain ⟨k,hk⟩:=ZyO.1 hx
  rw [Zy8] at hk
  have:=h2 (i+k) x (by omega) hk
  simp;omega
 conv=>lhs;rw [e]
 rw [List.countP_append,c1,c2];rfl
theorem ZgQ {l:List Int} (h:l.Pairwise (· < ·)) {a b:Nat} {x y:Int} (ha:l[a]?=some x) (hb:l[b]?=some y) (hab:a<=b):x<=y:=by
 rcases Nat.eq_or_lt_of_le hab with rfl | hlt
 ·rw [ha] at hb;cases hb;exact Zyk _
 ·have h1:=(ZxZ.1 ha)
  have h2:=(ZxZ.1 hb)
  obtain ⟨ha1,rfl⟩:=h1
  obtain ⟨hb1,rfl⟩:=h2
  exact Int.le_of_lt (Zzn.1 h a b ha1 hb1 hlt)
set_option maxRecDepth 20000 in
set_option maxHeartbeats 2000000 in
theorem Ztn (l:List Int) (t:Int) (hs:l.Pairwise (· < ·)) {xs:List PV} (hx:xs=Zd l) (hl:l.length<=1000000):Zc Tryz.prog 69 [.list 1 xs,.int .i64 t] (.tup [.int .i64 (ZuL l t),.bool (decide (t∈l))]):=by
 refine Zb (clo:=λ _=>false) (rows:=false) Zg Tryz.func69 rfl (enters_of Tryz.func69 (by kernel_rfl) rfl) (λ A q P Y hr hA hq=>?_)
 have hxl:xs.length=l.length:=by rw [hx];simp [Zd]
 have hll:A.lLen xs=(l.length:Int):=Zl hA hxl
 conv=>cbv
 refine Zi hA (λ (z:Int × Int) s=>(s.put (some 7) (.val (.int .i64 z.1))).put (some 8) (.val (.int .i64 z.2)))
  (λ z=>0<=z.1/\z.1<=z.2/\z.2<=l.length/\(∀(k:Nat) (x:Int),(k:Int)<z.1->l[k]?=some x->x<t)/\(∀(k:Nat) (x:Int),z.2<=k->l[k]?=some x->t<=x)) (λ z=>(z.2 - z.1).toNat) (0,A.lLen xs) ?_ ?_ ?_
 ·conv=>cbv
  exact Zk
 ·refine ⟨Zyk _,by rw [hll];omega,by rw [hll];exact Zyk _,λ k x hk=>by omega,λ k x hk hx2=>?_⟩
  have:=(ZxZ.1 hx2).1
  rw [hll] at hk
  omega
 rintro R ⟨i,j⟩ ⟨h0,h1,h2,hlo,hhi⟩ hR
 simp only at h0 h1 h2 hlo hhi
 conv=>cbv
 split
 ·rename_i hc
  have hij:i<j:=ltT hA hc
  have had:A.iAdd i j=i+j:=Z5 hA _ _
  have hw1:A.wrap .u64 (A.iAdd i j)=i+j:=by
   rw [had];subst hA
   obtain ⟨k,hk⟩:∃k:Nat,i+j=k:=⟨(i+j).toNat,by omega⟩
   rw [hk]
   exact Zho (Nat.lt_of_le_of_lt (show k<=2000000 by omega) (by decide))
  obtain ⟨h,hh⟩:∃h,h=A.wrap .i64 (A.wShr (A.wrap .u64 (A.iAdd i j)) 1):=⟨_,rfl⟩
  have hh2:h=(i+j) / 2:=by
   rw [hh,hw1];subst hA
   show IntKind.i64.wrap ((i+j).fdiv (2 ^ (1:Int).toNat))=_
   rw [show ((2:Int) ^ (1:Int).toNat)=2 from rfl,Int.fdiv_eq_ediv_of_nonneg _ (by omega)]
   exact Zdg (by unfold Zj;omega)
  obtain ⟨x,hx0⟩:∃x,l[h.toNat]?=some x:=⟨_,Zya (show h.toNat<l.length by omega)⟩
  have hls:=ZuK x t
  obtain ⟨b,hb⟩:∃b,b=decide (x<t):=⟨_,rfl⟩
  rw [<-hb] at hls
  conv=>cbv
  refine ⟨Zy hA had (by unfold Zj;omega),?_⟩
  conv=>cbv
  refine ⟨by subst hA;exact ⟨by decide,by decide⟩,Zw hA hx (n:=A.wrap .i64 (A.wShr (A.wrap .u64 (A.iAdd i j)) 1)) (by rw [<-hh];omega) (by rw [<-hh];omega) (λ y hy=>?_)⟩
  rw [<-hh] at hy
  rw [hx0] at hy
  obtain rfl:=Zyc hy
  conv=>cbv
  refine Za hA (hls) ?_
  conv=>cbv
  have hH:A.iAdd (A.wrap .i64 (A.wShr (A.wrap .u64 (A.iAdd i j)) 1)) 1=h+1:=by rw [<-hh];exact Z5 hA _ _
  cases b with
  | true =>
   have hxt:x<t:=ZyU hb.symm
   conv=>cbv
   refine ⟨Zy hA hH (by unfold Zj;omega),hR (A.iAdd (A.wrap .i64 (A.wShr (A.wrap .u64 (A.iAdd i j)) 1)) 1,j) _ (by (conv=>cbv);exact Zk) ?_ ?_⟩
   ·rw [hH]
    exact ⟨by omega,by omega,h2,λ k y hk hy=>Int.lt_of_le_of_lt (ZgQ hs hy hx0 (by omega)) hxt,hhi⟩
   ·rw [hH];omega
  | false =>
   have hxt:t<=x:=Int.not_lt.1 (of_decide_eq_false hb.symm)
   conv=>cbv
   refine hR (i,A.wrap .i64 (A.wShr (A.wrap .u64 (A.iAdd i j)) 1)) _ (by (conv=>cbv);exact Zk) ?_ ?_
   ·rw [<-hh]
    exact ⟨h0,by omega,by omega,hlo,λ k y hk hy=>Int.le_trans hxt (ZgQ hs hx0 hy (by omega))⟩
   ·rw [<-hh];omega
 rename_i hc
 have hij:i=j:=by have:=ltF hA hc;omega
 subst hij
 clear hR
 obtain ⟨n,rfl⟩:∃n:Nat,i=n:=⟨i.toNat,by omega⟩
 have hpos:ZuL l t=n:=ZvQ (by omega) (λ k x hk=>hlo k x (by omega)) (λ k x hk=>hhi k x (by omega))
 rw [hpos] at hq
 have hll2:A.lLen xs=(l.length:Int):=hll
 obtain ⟨b,hb⟩:∃b,b=decide (t∈l):=⟨_,rfl⟩
 rw [<-hb] at hq
 conv=>cbv
 split
 ·rename_i hc2
  have hnl:n<l.length:=Int.ofNat_lt.1 (ZE hA rfl (Zl hA hxl) hc2)
  obtain ⟨x,hx0⟩:∃x,l[n]?=some x:=⟨_,Zya hnl⟩
  have htx:t<=x:=hhi n x (by omega) hx0
  conv=>cbv
  refine Zw hA hx (Int.natCast_nonneg n) (Int.ofNat_lt.2 hnl) (λ y hy=>?_)
  obtain rfl:=Zyc (hx0.symm.trans hy)
  conv=>cbv
  split
  ·rename_i hc3
   have hxe:x=t:=eqT hA hc3
   conv=>cbv
   rw [hb,Zyq (show t∈l from hxe▸Zyb hx0)] at hq
   exact hq
  ·rename_i hc3
   have hxe:x≠t:=eqF hA hc3
   have hbf:b=false:=by
    rw [hb]
    refine Zyr (λ hm=>?_)
    obtain ⟨k,hk⟩:=ZyO.1 hm
    rcases Zzs k n with h3 | h3 | h3
    ·exact Int.lt_irrefl _ (hlo k t (by omega) hk)
    ·rw [h3,hx0] at hk
     exact hxe (Zyc hk)
    ·have:=ZgQ hs hx0 hk (by omega)
     omega
   subst hbf
   conv=>cbv
   refine Zw hA hx (Int.natCast_nonneg n) (Int.ofNat_lt.2 hnl) (λ y hy=>?_)
   conv=>cbv
   refine Za hA (ZuJ y) ?_
   conv=>cbv
   exact hq
 ·rename_i hc2
  have hnl:l.length<=n:=Int.ofNat_le.1 (ZK hA rfl (Zl hA hxl) hc2)
  have hbf:b=false:=by
   rw [hb]
   refine Zyr (λ hm=>?_)
   obtain ⟨k,hk⟩:=ZyO.1 hm
   have h3:=(ZxZ.1 hk).1
   exact Int.lt_irrefl _ (hlo k t (by omega) hk)
  subst hbf
  conv=>cbv
  exact hq
def Zf6 (rs:List (Option (List SV))) (j:Nat) (cs:List SV) (cap:Nat):Prop :=
 ∃n,rs[j]?=some (some (cs++List.replicate n (SV.val .any)))/\cs.length+n=cap/\cap<=maxLen
def ZuM (k0:Nat) (rs:List (Option (List SV))) (cs:List SV) (arg:SV):Prop :=
 (cs=[]/\∃m,arg=.lit m [])\/∃id n j cap,arg=.row id 0 1 n cap/\id=k0+j/\n=cs.length/\Zf6 rs j cs cap
section
variable {E:Env} {A:Ops}
theorem Zxs (hA:A=Ze E) {ts e:TypeId} (hk:(E.T ts).k=.slice e) (hs:(E.T e).size=1) (hz:(E.T e).zero.length=1) (hby:(E.T e).bytes+1<=10000000) {p:PV} (hp:p.cells=[p])
  {cs:List SV} {arg:SV} {rs:List (Option (List SV))} {bx0:List (Option (List SV))} {k0:Nat} (hbx:bx0.length=k0) (harg:ZuM k0 rs cs arg) (hb:cs.length<=10000000) (sl:List SV) (tk:List (Nat × TypeId)) (ax:Ax) (K:SV->St->Prop)
  (hK':∀(id n j cap:Nat) (rs':List (Option (List SV))),id=k0+j->n=cs.length+1->Zf6 rs' j (cs++[.val p]) cap->K (.row id 0 1 n cap) ⟨sl,bx0++rs',tk,ax⟩) :
  A.appR [ts,ts] [arg,.lit 1 [p]] ⟨sl,bx0++rs,tk,ax⟩ K:=by
 have hK:∀(j cap:Nat) (rs':List (Option (List SV))),Zf6 rs' j (cs++[.val p]) cap->K (.row (k0+j) 0 1 (cs.length+1) cap) ⟨sl,bx0++rs',tk,ax⟩:=λ j cap rs'=>hK' _ _ j cap rs' rfl rfl
 refine Zer hA ?_
 unfold Zcq
 simp only [hk,SV.elems,hs]
 refine ⟨trivial,trivial,by simp,by decide,hz,?_⟩
 have hbig:(cs.length+1)*((E.T e).bytes+1)<=140737488355328:=Zy1 (Z0E (Nat.succ_le_succ hb) hby) (by decide)
 have hpx:([p].flatMap PV.cells).map SV.val=[SV.val p]:=by simp [hp]
 have hfresh:∀(cap:Nat),cs.length+1<=cap->cap<=maxLen->K (.row (bx0++rs).length 0 1 (cs.length+1) cap) ⟨sl,bx0++(rs++[some (cs++[.val p]++List.replicate (cap - (cs.length+1)) (SV.val .any))]),tk,ax⟩:=by
  intro cap hc1 hc2
  rw [Zyg,hbx]
  exact hK _ cap _ ⟨cap - (cs.length+1),by simp,by simp;omega,hc2⟩
 rcases harg with ⟨rfl,m,rfl⟩ | ⟨_,_,j,cap,rfl,rfl,rfl,n,h3,h4,h5⟩
 ·refine ⟨.inr rfl,by simpa using hbig,λ cap hc1 hc2=>?_⟩
  have:=hfresh cap (by simpa using hc1) hc2
  simp only [St.newBx,Z03,Zz3,ZyK,Zyt,hpx,Zz4,Zy9] at this ⊢
  exact this
 ·have htake:(cs++List.replicate n (SV.val .any)).take (cs.length*1)=cs:=by rw [Zz4];exact Zzx rfl
  have htake':(cs++List.replicate n (SV.val .any)).take cs.length=cs:=Zzx rfl
  refine ⟨rfl,by simpa using hbig,cs++List.replicate n (SV.val .any),?_,by simp;omega,λ hin=>?_,λ hout cap' hc1 hc2=>?_⟩
  ·show (bx0++rs).getD (k0+j) none=_
   rw [Zyj,Zyd (by omega)]
   simp [hbx,h3]
  ·simp only [Zyt] at hin
   obtain ⟨n,rfl⟩:∃k,n=k+1:=⟨n - 1,by omega⟩
   have hdrop:(cs++List.replicate (n+1) (SV.val .any)).drop (cs.length+1)=List.replicate n (SV.val .any):=by
    rw [List.drop_append,ZzP (by omega)]
    simp
   have e1:(St.mk sl (bx0++rs) tk ax).setBx (k0+j) (some ((cs++List.replicate (n+1) (SV.val .any)).take (0+cs.length*1)++(([p].flatMap PV.cells).map SV.val++(cs++List.replicate (n+1) (SV.val .any)).drop (0+cs.length*1+[p].length*1))))=⟨sl,bx0++rs.set j (some (cs++[.val p]++List.replicate n (SV.val .any))),tk,ax⟩:=by
    simp only [St.setBx,St.mk.injEq,true_and,and_true,hpx,ZyK,Zyt]
    rw [ZyT _ _ (by omega),htake,Zz4,hdrop]
    simp [hbx]
   rw [e1]
   have hjl:j<rs.length:=(ZxZ.1 h3).1
   exact hK j cap _ ⟨n,Zzc hjl,by simp at h4 ⊢;omega,h5⟩
  ·simp only [Zyt] at hout hc1 ⊢
   have:=hfresh cap' hc1 hc2
   simp only [St.newBx,List.drop_zero,hpx,htake',Zz4,Zy9] at this ⊢
   exact this
theorem ZwJ (hA:A=Ze E) {t:TypeId} (ha:(E.T t).agg=false) (hs:(E.T t).size=1) {cs:List SV} {rs:List (Option (List SV))} {bx0:List (Option (List SV))} {k0 id j cap n i:Nat} (hbx:bx0.length=k0) (hid:id=k0+j) (h:Zf6 rs j cs cap) (hn:n=i) {c:SV} (hc:cs[i]?=some c)
  {sl:List SV} {tk:List (Nat × TypeId)} {ax:Ax} {K:SV->St->Prop} (hK:K c ⟨sl,bx0++rs,tk,ax⟩):A.rld t (.rbx id 0 n 1 0) ⟨sl,bx0++rs,tk,ax⟩ K:=by
 subst hid
 obtain ⟨r,h1,h2,h3⟩:=h
 subst hn
 refine ZdM hA ?_
 show Res.go (YZ E t (.box (k0+j) (0+n*1+0)) _) K
 have hil:n<cs.length:=(ZxZ.1 hc).1
 have hb:(bx0++rs)[k0+j]?=some (some (cs++List.replicate r (SV.val .any))):=by
  rw [Zyd (by omega)]
  simp [hbx,h1]
 have hd:(cs++List.replicate r (SV.val .any))[n]?=some c:=by rw [Zye hil];exact hc
 unfold YZ
 simp only [Zyj,hb,Zy0,ha,hs,if_true,Zzf,if_false,ZyK,Zz4,Zzj,hd]
 exact ⟨(ZxZ.1 hd).1,hK⟩
theorem ZwK (hA:A=Ze E) {t:TypeId} (ha:(E.T t).agg=false) (hs:(E.T t).size=1) {cs:List SV} {rs:List (Option (List SV))} {bx0:List (Option (List SV))} {k0 id j cap n i:Nat} (hbx:bx0.length=k0) (hid:id=k0+j) (h:Zf6 rs j cs cap) (hn:n=i) (hi:i<cs.length) {v:SV} (hv:v.one=true)
  {sl:List SV} {tk:List (Nat × TypeId)} {ax:Ax} {K:SV->St->Prop} (hK:∀rs',Zf6 rs' j (cs.set i v) cap->K .undef ⟨sl,bx0++rs',tk,ax⟩):A.rst t (.rbx id 0 n 1 0) v ⟨sl,bx0++rs,tk,ax⟩ K:=by
 subst hid
 obtain ⟨r,h1,h2,h3⟩:=h
 subst hn
 refine ZdN hA ?_
 show Res.go (Zai E t (.box (k0+j) (0+n*1+0)) v _) K
 have hb:(bx0++rs)[k0+j]?=some (some (cs++List.replicate r (SV.val .any))):=by
  rw [Zyd (by omega)]
  simp [hbx,h1]
 have hjl:j<rs.length:=(ZxZ.1 h1).1
 unfold Zai
 simp only [Zyj,hb,Zy0,ha,hs,hv,if_true,Zzf,if_false,ZyK,Zz4,Zzj,and_self]
 refine ⟨by simp;omega,?_⟩
 have e1:(St.mk sl (bx0++rs) tk ax).setBx (k0+j) (some ((cs++List.replicate r (SV.val .any)).set n v))=⟨sl,bx0++rs.set j (some (cs.set n v++List.replicate r (SV.val .any))),tk,ax⟩:=by
  simp only [St.setBx,St.mk.injEq,true_and,and_true]
  rw [ZyT _ _ (by omega),List.set_append_left _ _ hi]
  simp [hbx]
 rw [e1]
 exact hK _ ⟨r,Zzc hjl,by simpa using h2,h3⟩
end
structure ZaR (tb:Nat) (e:TypeId) (tk:List (Nat × TypeId)) (G:List (List Int)) (cs:List SV):Prop where
 len:cs.length=G.length
 cell:∀(i:Nat) (g:List Int),G[i]?=some g->∃k,tb<=k/\cs[i]?=some (.own k 1 (Zd g))/\tk[k]?=some (g.length,e)
 dist:∀(i j k m m':Nat) (xs ys:List PV),cs[i]?=some (.own k m xs)->cs[j]?=some (.own k m' ys)->i=j
theorem ZaR.nil (tb:Nat) (e:TypeId) (tk:List (Nat × TypeId)):ZaR tb e tk [] []:=⟨rfl,λ i g h=>by simp at h,λ i j k m m' xs ys h=>by simp at h⟩
theorem ZaR.own {tb:Nat} {e:TypeId} {tk:List (Nat × TypeId)} {G:List (List Int)} {cs:List SV} (h:ZaR tb e tk G cs) {i:Nat} {s:SV} (hs:cs[i]?=some s):∃k g,G[i]?=some g/\s=.own k 1 (Zd g)/\tb<=k/\tk[k]?=some (g.length,e):=by
 have hil:i<G.length:=by rw [<-h.len];exact (ZxZ.1 hs).1
 obtain ⟨k,h1,h2,h3⟩:=h.cell i _ (Zya hil)
 rw [hs] at h2
 exact ⟨k,_,Zya hil,Zyc h2,h1,h3⟩
theorem ZaR.put {tb:Nat} {e:TypeId} {tk:List (Nat × TypeId)} {G:List (List Int)} {cs:List SV} (h:ZaR tb e tk G cs) {i k:Nat} {g:List Int} (hg:G[i]?=some g) (hc:cs[i]?=some (.own k 1 (Zd g))) (x:Int) {ys:List PV} {p:Nat × TypeId} (hy:ys=Zd (g++[x])) (hp:p=(g.length+1,e)) :
  ZaR tb e (tk.set k p) (G.modify i (·++[x])) (cs.set i (.own k 1 ys)):=by
 subst hy hp
 have hil:i<cs.length:=(ZxZ.1 hc).1
 refine ⟨by simp [h.len],λ a y hy=>?_,λ a b t m m' xs ys h1 h2=>?_⟩
 ·rw [List.getElem?_modify,Option.map_eq_map,ZyG] at hy
  obtain ⟨y0,hy0,rfl⟩:=hy
  by_cases hia:i=a
  ·subst hia
   rw [hg] at hy0
   cases hy0
   obtain ⟨k2,t1,t2,t3⟩:=h.cell i g hg
   rw [hc] at t2
   cases t2
   refine ⟨k,t1,?_,?_⟩
   ·rw [Zzc hil];simp
   ·rw [Zzc (ZxZ.1 t3).1];simp
  ·obtain ⟨k2,t1,t2,t3⟩:=h.cell a y0 hy0
   rw [if_neg hia]
   refine ⟨k2,t1,by rw [List.getElem?_set_ne hia];exact t2,?_⟩
   have hk:k≠k2:=λ e=>hia (by subst e;exact h.dist i a k 1 1 _ _ hc t2)
   rw [List.getElem?_set_ne hk]
   exact t3
 ·have hold:∀(z n:Nat) (zs:List PV),(cs.set i (.own k 1 (Zd (g++[x]))))[z]?=some (.own t n zs)->∃n' zs',cs[z]?=some (.own t n' zs'):=by
   intro z n zs hz
   by_cases hiz:i=z
   ·subst hiz
    rw [Zzc hil] at hz
    cases hz
    exact ⟨_,_,hc⟩
   ·rw [List.getElem?_set_ne hiz] at hz
    exact ⟨_,_,hz⟩
  obtain ⟨_,_,q1⟩:=hold a m xs h1
  obtain ⟨_,_,q2⟩:=hold b m' ys h2
  exact h.dist a b t _ _ _ _ q1 q2
theorem ZaR.snoc {tb:Nat} {e:TypeId} {tk:List (Nat × TypeId)} {G:List (List Int)} {cs:List SV} (h:ZaR tb e tk G cs) (hb:tb<=tk.length) (x:Int) {ys:List PV} {p:Nat × TypeId} (hy:ys=Zd [x]) (hp:p=(1,e)) :
  ZaR tb e (tk++[p]) (G++[[x]]) (cs++[.own tk.length 1 ys]):=by
 subst hy hp
 have hlt:∀(z t n:Nat) (zs:List PV),cs[z]?=some (.own t n zs)->t<tk.length:=λ z t n zs hz=>by
  obtain ⟨k,g,_,h2,_,h3⟩:=h.own hz
  cases h2
  exact (ZxZ.1 h3).1
 have hl:=h.len
 refine ⟨by simp [hl],λ a y hy=>?_,λ a b t m m' xs ys h1 h2=>?_⟩
 ·rcases Zy6 a G.length with ha | ha
  ·rw [Zye ha] at hy
   obtain ⟨k2,t1,t2,t3⟩:=h.cell a y hy
   refine ⟨k2,t1,by rw [Zye (by omega)];exact t2,?_⟩
   rw [Zye (ZxZ.1 t3).1]
   exact t3
  ·have hal:=(ZxZ.1 hy).1
   simp at hal
   obtain rfl:a=G.length:=by omega
   simp at hy
   subst hy
   exact ⟨tk.length,hb,by rw [<-hl];simp,by simp⟩
 ·have hold:∀(z n:Nat) (zs:List PV),(cs++[.own tk.length 1 (Zd [x])])[z]?=some (.own t n zs)->(cs[z]?=some (.own t n zs)/\t<tk.length)\/(z=cs.length/\t=tk.length):=by
   intro z n zs hz
   rcases Zy6 z cs.length with ha | ha
   ·rw [Zye ha] at hz
    exact .inl ⟨hz,hlt z t n zs hz⟩
   ·have hal:=(ZxZ.1 hz).1
    simp at hal
    obtain rfl:z=cs.length:=by omega
    simp at hz
    exact .inr ⟨rfl,hz.1.symm⟩
  rcases hold a m xs h1 with ⟨q1,r1⟩ | ⟨q1,r1⟩<;>rcases hold b m' ys h2 with ⟨q2,r2⟩ | ⟨q2,r2⟩
  ·exact h.dist a b t _ _ _ _ q1 q2
  ·omega
  ·omega
  ·omega
theorem ZnE:∀{rs:List (Option (List SV))} {j:Nat} {cs cs':List SV},rs[j]?=some (some cs)->leL cs cs'->leB rs (rs.set j (some cs'))
 | [],j,_,_,h,_=>by simp at h
 | some a::r,0,cs,cs',h,hl=>by
  simp at h
  subst h
  exact ⟨hl,leB_rf r⟩
 | none::r,0,cs,cs',h,hl=>by simp at h
 | some a::r,j+1,cs,cs',h,hl=>⟨ZdJ a,ZnE (by simpa using h) hl⟩
 | none::r,j+1,cs,cs',h,hl=>ZnE (rs:=r) (by simpa using h) hl
where
 leB_rf:∀r:List (Option (List SV)),leB r r
 | []=>trivial
 | some a::r=>⟨ZdJ a,leB_rf r⟩
 | none::r=>leB_rf r
theorem ZvR {tb:Nat} {e:TypeId} {tk:List (Nat × TypeId)}:∀{G:List (List Int)} {cs:List SV} (n:Nat),ZaR tb e tk G cs->leL (cs++List.replicate n (SV.val .any)) ((Z0 G).map SV.val++List.replicate n (SV.val .any)):=by
 intro G cs n h
 have key:∀(G:List (List Int)) (cs:List SV),cs.length=G.length->(∀(i:Nat) (g:List Int),G[i]?=some g->∃k,cs[i]?=some (.own k 1 (Zd g)))->leL (cs++List.replicate n (SV.val .any)) ((Z0 G).map SV.val++List.replicate n (SV.val .any)):=by
  intro G
  induction G with
  | nil =>
   intro cs hl _
   obtain rfl:=Zyy hl
   exact ZdJ _
  | cons g r ih =>
   intro cs hl hc
   cases cs with
   | nil=>simp at hl
   | cons c q =>
    obtain ⟨k,hk⟩:=hc 0 g rfl
    simp at hk
    subst hk
    refine ⟨.inr (.inl rfl),ih q (by simpa using hl) λ i y hy=>?_⟩
    obtain ⟨k,hk⟩:=hc (i+1) y (by simpa using hy)
    exact ⟨k,by simpa using hk⟩
 exact key G cs h.len λ i g hg=>let ⟨k,_,h2,_⟩:=h.cell i g hg;⟨k,h2⟩
theorem ZvS {tb:Nat} {e:TypeId} {st:St} {q:PV} {rs:List (Option (List SV))} {bx0:List (Option (List SV))} {k0 id j cap n:Nat} {G:List (List Int)} {cs:List SV} {E:Env} {rsv:List ResultVar} {R:St->Prop} (hR:∀st st1,Wk (0,0) st st1->Zgf E rsv st1 q->R st) (hrows:E.rows=true)
  (hbx:bx0.length=k0) (hst:st.bx=bx0++rs) (hid:id=k0+j) (hn:n=cs.length) (h:Zf6 rs j cs cap) (hg:ZaR tb e st.tk G cs) (hK:∀xs:List PV,Zcw id 1 xs (.row id 0 1 n cap)=.val (.list 1 (Z0 G))->Zi3 E rsv ((⟨st.sl,bx0++rs.set j (some (xs.map SV.val)),st.tk,st.ax⟩:St).sealRow id 1 xs) q):R st:=by
 subst hid
 obtain ⟨r,h1,h2,h3⟩:=h
 obtain ⟨sl,bx,tk,ax⟩:=st
 simp only at hst hg hK
 subst hst
 have hjl:j<rs.length:=(ZxZ.1 h1).1
 have hvals:(Z0 G).map SV.val++List.replicate r (SV.val .any)=(Z0 G++List.replicate r PV.any).map SV.val:=by simp
 have hle:leB (bx0++rs) (bx0++rs.set j (some ((Z0 G++List.replicate r PV.any).map SV.val))):=by
  have hb:(bx0++rs)[k0+j]?=some (some (cs++List.replicate r (SV.val .any))):=by
   rw [Zyd (by omega)]
   simp [hbx,h1]
  have:=ZnE hb (ZvR r hg)
  rw [ZyT _ _ (by omega),hvals] at this
  simpa [hbx] using this
 refine hR _ ⟨sl,bx0++rs.set j (some ((Z0 G++List.replicate r PV.any).map SV.val)),tk,ax⟩ (Wk.forgetBx _ _ _ _ _ hle) ?_
 unfold Zgf
 rw [hrows]
 have hone:∀x∈(Z0 G++List.replicate r PV.any),x.cells=[x]:=by
  intro x hx
  rcases Zy4.1 hx with hx | hx
  ·obtain ⟨g,_,rfl⟩:=Zyz.1 hx
   rfl
  ·rw [(ZzG.1 hx).2];rfl
 have hfl:∀l:List PV,(∀x∈l,x.cells=[x])->l.flatMap PV.cells=l:=by
  intro l
  induction l with
  | nil=>intro _;rfl
  | cons x r ih =>
   intro hx
   rw [ZyW,hx x (by simp),ih λ y hy=>hx y (by simp [hy])]
   rfl
 refine ⟨_,Frz.row (k0+j) 1 ((Z0 G++List.replicate r PV.any).map SV.val) (Z0 G++List.replicate r PV.any) _ _ _ _ ?_ ?_ (λ x hx=>by rw [hone x hx];rfl) (Frz.refl _ _),hK _ ?_⟩
 ·show (bx0++rs.set j _).getD (k0+j) none=some ((Z0 G++List.replicate r PV.any).map SV.val)
  rw [Zyj,Zyd (by omega)]
  simp [hbx,hjl]
 ·rw [hfl _ hone]
 ·unfold Zcw
  have hgl:(Z0 G).length=G.length:=by simp [Z0]
  simp only
  rw [if_pos ⟨trivial,trivial,trivial,by rw [Zyg,hgl,hn,hg.len];omega⟩,Zzx (by rw [hgl,hn,hg.len])]
theorem Zry {n:Int} (h:Zj n):Zj (n - 30)\/n<30:=by unfold Zj at *;omega
def ZhC (l:List ZO) (leaves:List Int) (k:Nat):Prop:=(∀n∈leaves.take k,n∈YB l)/\(leaves.take k).Pairwise (· < ·)
theorem ZhC.next {l:List ZO} {leaves:List Int} {k:Nat} {n:Int} (h:ZhC l leaves k) (hn:leaves[k]?=some n) (h1:n∈YB l) (h2:∀m,0<k->leaves[k - 1]?=some m->m<n):ZhC l leaves (k+1):=by
 have e:leaves.take (k+1)=leaves.take k++[n]:=by rw [ZyD,hn];rfl
 refine ⟨λ x hx=>?_,?_⟩
 ·rw [e] at hx
  rcases Zy4.1 hx with hx | hx
  ·exact h.1 x hx
  ·rw [Zy3] at hx;subst hx;exact h1
 ·rw [e,List.pairwise_append]
  refine ⟨h.2,by simp,λ a ha b hb=>?_⟩
  rw [Zy3] at hb
  subst hb
  obtain ⟨i,hi⟩:=ZyO.1 ha
  have hik:i<k:=by have:=(ZxZ.1 hi).1;rw [ZyE] at this;omega
  have hkl:=(ZxZ.1 hn).1
  obtain ⟨m,hm⟩:∃m,leaves[k - 1]?=some m:=⟨_,Zya (show k - 1<leaves.length by omega)⟩
  have hmb:=h2 m (by omega) hm
  rcases Zy6 i (k - 1) with hl | hl
  ·have hmt:(leaves.take k)[k - 1]?=some m:=by rw [Zyx,if_pos (by omega)];exact hm
   obtain ⟨p1,q1⟩:=ZxZ.1 hi
   obtain ⟨p2,q2⟩:=ZxZ.1 hmt
   have:=Zzn.1 h.2 i (k - 1) p1 p2 hl
   rw [q1,q2] at this
   omega
  ·have hit:leaves[i]?=some a:=by rw [Zyx,if_pos hik] at hi;exact hi
   rw [show i=k - 1 by omega,hm] at hit
   cases hit
   exact hmb
theorem Ze9 {l:List ZO} {leaves:List Int}:ZaQ l leaves=true↔leaves≠[]/\ZhC l leaves leaves.length:=by
 unfold ZaQ ZhC
 rw [Zze]
 cases leaves with
 | nil=>simp
 | cons a r=>simp
theorem Zl5 {l:List ZO} {leaves:List Int} {k:Nat} {n:Int} (hn:leaves[k]?=some n) (h:n∉YB l):ZaQ l leaves=false:=by
 cases hb:ZaQ l leaves with
 | false=>rfl
 | true =>
  have h2:=(Ze9.1 hb).2.1
  rw [Zze] at h2
  exact absurd (h2 n (Zyb hn)) h
theorem Zl6 {l:List ZO} {leaves:List Int} {k:Nat} {n m:Int} (hk:0<k) (hn:leaves[k]?=some n) (hm:leaves[k - 1]?=some m) (h:n<=m):ZaQ l leaves=false:=by
 cases hb:ZaQ l leaves with
 | false=>rfl
 | true =>
  have h2:=(Ze9.1 hb).2.2
  rw [Zze] at h2
  obtain ⟨p1,q1⟩:=ZxZ.1 hm
  obtain ⟨p2,q2⟩:=ZxZ.1 hn
  have:=Zzn.1 h2 (k - 1) k p1 p2 (by omega)
  rw [q1,q2] at this
  omega
theorem Zrz {l:List ZO} {leaves:List Int} (h:ZhC l leaves leaves.length) (ht:Zaz l=true):leaves.length<=32:=by
 have h1:=(ZdY ht).2.1
 unfold ZhC at h
 rw [Zze] at h
 have:=ZkI (a:=0) (b:=l.length) (by omega) h.2 λ x hx=>by
  have h3:=ZiS.1 (h.1 x hx)
  unfold ZcT at h3
  simp only [Zyi,inB,Zyf] at h3
  omega
 omega
def Zgr (es:List (Int × Int)) (N:List Int):Prop:=Zda es/\∀v,QA es v=if v∈N then some (N.idxOf v:Int) else none
theorem Zgr.nil:Zgr [] []:=⟨by simp [Zda],λ v=>by simp [QA]⟩
theorem Zgr.snoc {es:List (Int × Int)} {N:List Int} (h:Zgr es N) {v:Int} (hv:v∉N) {n:Int} (hn:n=N.length):Zgr (ZbC es v n) (N++[v]):=by
 subst hn
 refine ⟨h.1.put _ _,λ u=>?_⟩
 rw [ZcA,h.2]
 by_cases hu:u=v
 ·subst hu
  rw [if_pos rfl,if_pos (by simp),List.idxOf_append,if_neg hv]
  simp
 ·rw [if_neg hu]
  by_cases hm:u∈N
  ·rw [if_pos hm,if_pos (by simp [hm]),List.idxOf_append,if_pos hm]
  ·rw [if_neg hm,if_neg (by simp [hm,hu])]
set_option maxRecDepth 10000 in
set_option maxHeartbeats 4000000 in
theorem Zmz (l:List ZO) (leaves:List Int) (f:Flight) (now:Int) {xs lv:List PV} (hx:xs=YO l) (hv:lv=Zd leaves) (hl:l.length<=1000000) (hlv:leaves.length<=1000000) (hf:Zj f.Window.From) :
  Zc Tryz.prog 21 [.list 3 xs,.list 1 lv,Zx f,.int .i64 now] (.tup [if Zc4 l leaves=0 then .list 1 (Z0 (ZfS l leaves (ZcW f.Window.From) now)) else .list 0 [],.int .i64 (Zc4 l leaves)]):=by
 refine Zf3 (clo:=λ n=>n == 8000000 || n == 9000000 || n == 2000000+29) (rows:=true) Zg Tryz.func21 rfl (enters_of Tryz.func21 (by kernel_rfl) rfl) (λ A q P Y R hr hA hq hR=>?_)
 have hdc:=Zrk f (Zry hf)
 have hlf:=Ztm l hx hl
 have hat:=λ n d=>Zxr l n d hx hl
 have hE:Zc4 l leaves=if Zaz l then (if ZaQ l leaves then 0 else 210) else 180:=rfl
 have hG:ZfS l leaves (ZcW f.Window.From) now=(Zcv (ZnB l (ZcW f.Window.From) now) leaves).2:=rfl
 have hD:ZcW f.Window.From=if f.Window.From<30 then 0 else f.Window.From - 30:=rfl
 rw [<-hD] at hdc
 have hd0:0<=ZcW f.Window.From:=by rw [hD];split<;>omega
 generalize ZcW f.Window.From=d at hdc hG hq hd0
 clear hD
 generalize Zc4 l leaves=ge at hE hq
 generalize ZfS l leaves d now=gl at hG hq
 have hvl:lv.length=leaves.length:=by rw [hv];simp [Zd]
 have hll:A.lLen lv=(leaves.length:Int):=Zl hA hvl
 have hbad:∀n:Int,ge=n->n≠0->PV.tup [.list 0 [],.int .i64 n]=q:=λ n h1 h2=>by rw [<-hq,h1,if_neg h2]
 obtain ⟨f1,f2,f3,f4,f5,⟨f6,f7⟩,f8⟩:=f
 obtain ⟨ws,hws⟩:∃ws,ws=Zd f5:=⟨_,rfl⟩
 rw [show Zx ⟨f1,f2,f3,f4,f5,⟨f6,f7⟩,f8⟩=.agg [.int .i64 f1,.int .i64 f2,.int .i64 f3,.str f4,.list 1 ws,.int .i64 f6,.int .i64 f7,.bool f8] by rw [hws];rfl] at hdc ⊢
 cases htb:Zaz l with
 | false =>
  rw [htb] at hE hlf
  have hlf:Zc Tryz.prog 68 [.list 3 xs] (.tup [.list 0 [],.int .i64 180]):=hlf
  conv=>cbv
  refine Za hA (hlf) ?_
  conv=>cbv
  split
  rotate_left
  ·rename_i hc
   cases ((show False by have h9:(180:Int)=0:=neF hA hc;omega))
  conv=>cbv
  exact hR _ _ (Wk.refl _) ⟨_,Frz.refl _ _,(by (conv=>cbv);exact hbad 180 hE (by decide))⟩
 | true =>
  rw [htb] at hE hlf
  have hlf:Zc Tryz.prog 68 [.list 3 xs] (.tup [.list 1 (Zd (YB l)),.int .i64 0]):=hlf
  have hE:ge=if ZaQ l leaves then 0 else 210:=hE
  obtain ⟨al,hal⟩:∃al,al=Zd (YB l):=⟨_,rfl⟩
  rw [<-hal] at hlf
  have hbs:=λ t=>Ztn (YB l) t (ZkH l) hal (Zy1 (ZpB l) hl)
  have hbad2:ZaQ l leaves=false->PV.tup [.list 0 [],.int .i64 210]=q:=λ h=>hbad 210 (by rw [hE,h];rfl) (by decide)
  refine Zf (λ R1 hR1=>?_)
  conv=>cbv
  refine hR1 _ ?_
  clear hR1
  refine Zf (λ R1 hR1=>?_)
  conv=>cbv
  refine Za hA (hlf) ?_
  conv=>cbv
  refine hR1 _ ?_
  clear hR1
  refine Zf (λ R1 hR1=>?_)
  conv=>cbv
  split
  ·rename_i hc
   cases (neT hA hc rfl)
  conv=>cbv
  refine hR1 _ ?_
  clear hR1
  refine Zf (λ R1 hR1=>?_)
  conv=>cbv
  refine Zi hA (λ (i:Int) s=>((s.put (some 32) (.val (.int .i64 i))).put (some 8) (.lit 0 [])).put (some 9) (.val (.int .i64 0))) (λ i=>0<=i/\i<=leaves.length/\ZhC l leaves i.toNat) (λ i=>(leaves.length - i).toNat) 0 ?_ ?_ ?_
  ·conv=>cbv
   exact Zk
  ·exact ⟨Zyk _,by omega,λ n h=>by simp at h,by simp⟩
  rintro R2 i ⟨hi0,hi1,hpre⟩ hR2
  conv=>cbv
  split
  rotate_left
  ·rename_i hc
   have hge:=ZK hA rfl hll hc
   have hil:i=leaves.length:=by omega
   clear hR2
   rw [hil,ZyR] at hpre
   refine hR1 _ ?_
   clear hR1
   refine Zf (λ R1 hR1=>?_)
   conv=>cbv
   split
   ·rename_i hc
    have h0:(leaves.length:Int)=0:=ZdS hA hll rfl hc
    conv=>cbv
    have h9:ZaQ l leaves=false:=by
     have:leaves=[]:=Zyy (by omega)
     rw [this];rfl
    exact hR _ _ (Wk.refl _) ⟨_,Frz.refl _ _,(by (conv=>cbv);exact hbad2 h9)⟩
   rename_i hc
   have h0:(leaves.length:Int)≠0:=ZeN hA hll rfl hc
   have hne:leaves≠[]:=λ h=>h0 (by rw [h];rfl)
   refine hR1 _ ?_
   clear hR1
   have hok:=Ze9.2 ⟨hne,hpre⟩
   rw [hok] at hE
   have hE:ge=0:=hE
   rw [hE,if_pos rfl] at hq
   have hl32:=Zrz hpre htb
   have hin:∀n∈leaves,ZcT l n=true:=λ n hn=>ZiS.1 (hpre.1 n (by rw [Zze];exact hn))
   clear hbad hbad2 hbs hlf hpre hge
   refine Zf (λ R1 hR1=>?_)
   conv=>cbv
   refine Za hA (hdc) ?_
   conv=>cbv
   refine hR1 _ ?_
   clear hR1
   refine Zf (λ R1 hR1=>?_)
   conv=>cbv
   refine hR1 _ ?_
   clear hR1
   have hkk:∀(es:List (Int × Int)) (v:Int),Yu false [.int] (YT Z7 Z7 es) (.int .i64 v):=λ es v=>ZpE (f:=Z7) es v
   have hlk:∀(es:List (Int × Int)) (v:Int),QG (YT Z7 Z7 es) (.int .i64 v)=(QA es v).map Z7:=λ es v=>Zb1 Zh1 es v
   have hpt:∀(es:List (Int × Int)) (v n:Int),A.ePut (YT Z7 Z7 es) (.int .i64 v) (.int .i64 n)=YT Z7 Z7 (ZbC es v n):=λ es v n=>by
    subst hA
    exact ZdW Zh1 (f:=Z7) es v n
   have hndf:∀n,ZnB l d now n=if now<d then (if atE l n d=0 then atL l n d else 0) else 0:=λ n=>rfl
   generalize ZnB l d now=nd at hG hndf
   refine Zf (λ R1 hR1=>?_)
   conv=>cbv
   refine Zi hA (λ (z:Int × SV × List (Option (List SV)) × List (Nat × TypeId) × List (PV × PV)) s=>{ ((s.put (some 67) (.val (.int .i64 z.1))).put (some 8) z.2.1) with bx:=some [.val (.int .i64 f1),.val (.int .i64 f2),.val (.int .i64 f3),.val (.str f4),.val (.list 1 ws),.val (.int .i64 f6),.val (.int .i64 f7),.val (.bool f8)]::z.2.2.1,tk:=z.2.2.2.1,ax:=⟨[.ents z.2.2.2.2 none],s.ax.yk⟩ })
    (λ z=>0<=z.1/\z.1<=leaves.length/\∃(es:List (Int × Int)) (cs:List SV),z.2.2.2.2=YT Z7 Z7 es/\Zgr es (Zcv nd (leaves.take z.1.toNat)).1/\ZuM 1 z.2.2.1 cs z.2.1/\ZaR 0 3 z.2.2.2.1 (Zcv nd (leaves.take z.1.toNat)).2 cs) (λ z=>(leaves.length - z.1).toNat) (0,.lit 0 [],[],[],[]) ?_ ?_ ?_
   ·conv=>cbv
    exact Zk
   ·exact ⟨Zyk _,by omega,[],[],rfl,Zgr.nil,.inl ⟨rfl,0,rfl⟩,ZaR.nil _ _ _⟩
   rintro R2 ⟨i,arg,rs,tk,m⟩ ⟨hi0,hi1,es,cs,hm,hes,harg,hrow⟩ hR2
   simp only at hi0 hi1 hm hes harg hrow
   refine Zf (λ R3 hR3=>?_)
   conv=>cbv
   refine hR3 _ ?_
   clear hR3
   refine Zf (λ R3 hR3=>?_)
   conv=>cbv
   split
   rotate_left
   ·rename_i hc
    have hge:=ZK hA rfl hll hc
    rw [show i.toNat=leaves.length by omega,Zze] at hrow hes
    rw [<-hG] at hrow
    have hgne:gl≠[]:=λ h=>by
     have h1:=ZpA nd leaves
     rw [<-hG,h,Zz3] at h1
     have h2:(Zcv nd leaves).1=[]:=Zyy h1
     obtain ⟨x,r,rfl⟩:∃x r,leaves=r++[x]:=⟨_,_,(List.dropLast_concat_getLast hne).symm⟩
     rw [Zis] at h2
     unfold ZcV at h2
     split at h2
     ·rename_i h3
      simp only at h2
      rw [h2] at h3
      simp at h3
     ·simp at h2
    rcases harg with ⟨rfl,k,rfl⟩ | ⟨id,cn,j,cap,rfl,hid,hcn,hbox⟩
    ·exact (hgne (Zyy hrow.len.symm)).elim
    have hcl:=hrow.len
    clear hR2 hR3 hdc hat hes hlk hpt hkk
    conv=>cbv
    refine hR1 _ ?_
    clear hR1
    conv=>cbv
    refine ZvS (bx0:=[some _]) (k0:=1) (rs:=rs) hR rfl rfl rfl hid hcn hbox hrow (λ ys hy=>?_)
    generalize Z0 gl=gv at hy hq
    simp only [St.sealRow,Zzl,ZzW,hy]
    (conv=>cbv)
    exact hq
   rename_i hc
   have hi:i<leaves.length:=ZE hA rfl hll hc
   have his:A.iAdd i 1=i+1:=Z5 hA _ _
   have hir:A.inR (A.iAdd i 1):=Zy hA his (by unfold Zj;omega)
   obtain ⟨n,hn0⟩:∃n,leaves[i.toNat]?=some n:=⟨_,Zya (show i.toNat<leaves.length by omega)⟩
   have hni:=hin n (Zyb hn0)
   have hti:leaves.take (i+1).toNat=leaves.take i.toNat++[n]:=by rw [show (i+1).toNat=i.toNat+1 by omega,ZyD,hn0];rfl
   have hgl:=ZpA nd (leaves.take i.toNat)
   have hg32:=ZvM nd (leaves.take i.toNat)
   have hgs:=Zis nd (leaves.take i.toNat) n
   have hatn:=hat n d
   have hdec:(leaves.length - A.iAdd i 1).toNat<(leaves.length - i).toNat:=by rw [his];omega
   rw [<-hti] at hgs
   rw [ZyE] at hg32
   have hnd:=hndf n
   generalize (if atE l n d=0 then atL l n d else 0)=vv at hatn hnd
   generalize atE l n d=ae at hatn
   generalize Zcv nd (leaves.take i.toNat)=NG at hgs hgl hg32 hes hrow
   obtain ⟨N,G⟩:=NG
   simp only at hgl hg32 hes hrow
   refine hR3 _ ?_
   clear hR3 hR1
   refine Zf (λ R5 hR5=>?_)
   refine Zc9 (λ R3 hR3=>?_)
   conv=>cbv
   refine Zw hA hv hi0 hi (λ y hy=>?_)
   obtain rfl:=Zyc (hn0.symm.trans hy)
   conv=>cbv
   refine hR3 _ ?_
   clear hR3
   refine Zf (λ R4 hR4=>?_)
   conv=>cbv
   refine hR4 _ ?_
   clear hR4
   refine Zf (λ R4 hR4=>?_)
   conv=>cbv
   split
   case' h_1 =>
    rename_i hc
    rw [if_pos (ltT hA hc)] at hnd
    conv=>cbv
    refine Za hA (hatn) ?_
    conv=>cbv
   case' h_2 =>
    rename_i hc
    rw [if_neg (Int.not_lt.2 (ltF hA hc))] at hnd
    conv=>cbv
   all_goals
    refine hR4 _ ?_
    clear hR4
    have hlv:∀v,nd n=v->QG m (.int .i64 v)=if nd n∈N then some (.int .i64 (N.idxOf (nd n):Int)) else none:=λ v h=>by
     rw [hm,hlk,<-h,hes.2]
     split<;>rfl
    have hlvn:=hlv _ hnd
    by_cases hmem:nd n∈N
    ·rw [if_pos hmem] at hlvn
     have hgs:Zcv nd (leaves.take (i+1).toNat)=(N,G.modify (N.idxOf (nd n)) (·++[n])):=by rw [hgs];unfold ZcV;rw [if_pos hmem]
     have hixl:N.idxOf (nd n)<G.length:=by rw [<-hgl];exact List.idxOf_lt_length_of_mem hmem
     rcases harg with ⟨rfl,k,rfl⟩ | ⟨id,cn,j,cap,rfl,hid,hcn,hbox⟩
     ·have:=hrow.len
      simp at this
      omega
     obtain ⟨ixn,hixn⟩:∃ixn,ixn=N.idxOf (nd n):=⟨_,rfl⟩
     rw [<-hixn] at hixl hlvn hgs
     obtain ⟨ix,hix⟩:∃ix:Int,ix=ixn:=⟨_,rfl⟩
     rw [<-hix] at hlvn
     obtain ⟨g,hg⟩:∃g,G[ixn]?=some g:=⟨_,Zya hixl⟩
     obtain ⟨k,_,hck,htk⟩:=hrow.cell _ g hg
     have hg2:=hg32.2 g (Zyb hg)
     have hcl:=hrow.len
     obtain ⟨gv,hgv⟩:∃gv,gv=Zd g:=⟨_,rfl⟩
     rw [<-hgv] at hck
     conv=>cbv
     refine ⟨Q1 hA (by rw [hm];exact hkk es _),Yv hA (v:=.int .i64 ix) (b:=true) (by rw [hlvn];rfl) (by rw [hlvn];rfl) ?_⟩
     conv=>cbv
     split
     ·rename_i hc
      cases (Yy hA hc)
     conv=>cbv
     refine ⟨Zdo hA (Zhq hA cn) (by omega) (by omega),ZwJ hA rfl rfl (bx0:=[some _]) (k0:=1) rfl hid hbox ((Zib hA ix).trans (by omega)) hck ?_⟩
     have hgvl:gv.length=g.length:=by rw [hgv];simp [Zd]
     have hap:A.lApp gv [.int .i64 n]=Zd (g++[n]):=by subst hA;rw [hgv];simp [Ze,Zd,Z7]
     have hapl:A.nLen (A.lApp gv [.int .i64 n])=g.length+1:=by rw [hap];subst hA;simp [Ze,Zd]
     have htk2:A.tkAt tk k 3 (A.nLen gv):=by
      subst hA
      show (tk.getD k (0,0)).2=_/\(tk.getD k (0,0)).1=gv.length/\k<tk.length
      rw [Zyj,htk,hgvl]
      exact ⟨rfl,rfl,(ZxZ.1 htk).1⟩
     have hroom:A.room (A.nLen (A.lApp gv [.int .i64 n])) 8:=by
      rw [hapl];subst hA
      show (g.length+1)*(8+1)<=140737488355328
      omega
     conv=>cbv
     refine ⟨⟨htk2,hroom⟩,Zdo hA (Zhq hA cn) (by omega) (by omega),ZwK hA rfl rfl (bx0:=[some _]) (k0:=1) (i:=ixn) rfl hid hbox ((Zib hA ix).trans (by omega)) (by rw [hcl];exact hixl) rfl (λ rs' hb'=>?_)⟩
     conv=>cbv
     refine hR5 _ ?_
     conv=>cbv
     refine ⟨hir,hR2 (A.iAdd i 1,.row id 0 1 cn cap,rs',A.tkPut tk k (A.nLen (A.lApp gv [.int .i64 n]),3),m) _ (by (conv=>cbv);exact Zk) ?_ hdec⟩
     rw [his]
     refine ⟨by show 0<=i+1;omega,by show i+1<=_;omega,es,cs.set ixn (.own k 1 (A.lApp gv [.int .i64 n])),hm,?_,.inr ⟨id,cn,j,cap,rfl,hid,by simp [hcn],hb'⟩,?_⟩
     ·show Zgr es (Zcv nd (leaves.take (i+1).toNat)).1
      rw [hgs];exact hes
     show ZaR 0 3 (A.tkPut tk k (A.nLen (A.lApp gv [.int .i64 n]),3)) (Zcv nd (leaves.take (i+1).toNat)).2 _
     rw [hgs]
     have:=hrow.put hg (by rw [<-hgv];exact hck) n (p:=(A.nLen (A.lApp gv [.int .i64 n]),3)) hap (by rw [hapl])
     rw [show A.tkPut tk k (A.nLen (A.lApp gv [.int .i64 n]),3)=tk.set k (A.nLen (A.lApp gv [.int .i64 n]),3) by subst hA;rfl]
     exact this
    ·rw [if_neg hmem] at hlvn
     have hgs:Zcv nd (leaves.take (i+1).toNat)=(N++[nd n],G++[[n]]):=by rw [hgs];unfold ZcV;rw [if_neg hmem]
     have hcl:=hrow.len
     have hroom:A.room (A.nLen [.int .i64 n]) 8:=by
      subst hA
      show 1*(8+1)<=140737488355328
      decide
     rcases harg with ⟨hcs0,k0,rfl⟩ | ⟨id,cn,j,cap,rfl,hid,hcn,hbox⟩
     ·
      obtain ⟨at_,hat_⟩:∃x,x=A.lLen []:=⟨_,rfl⟩
      have hatv:at_=(cs.length:Int):=by rw [hat_];rw [hcs0];subst hA;rfl
      have hpt2:∀v,A.ePut m (.int .i64 v) (.int .i64 (A.lLen []))=YT Z7 Z7 (ZbC es v (A.lLen [])):=λ v=>by rw [hm];exact hpt es _ _
      have hz0:0<=A.lLen []:=by rw [<-hat_,hatv];omega
      have hz1:A.lLen []<((cs.length+1:Nat):Int):=by rw [<-hat_,hatv];omega
      conv=>cbv
      refine ⟨Q1 hA (by rw [hm];exact hkk es _),Yv hA (v:=.int .i64 0) (b:=false) (by rw [hlvn];rfl) (by rw [hlvn];rfl) ?_⟩
      conv=>cbv
      split
      rotate_left
      ·rename_i hc
       cases (YP hA hc)
      conv=>cbv
      refine ⟨⟨Q1 hA (by rw [hm];exact hkk es _),trivial⟩,Zxs hA rfl rfl rfl (by decide) rfl (bx0:=[some _]) (k0:=1) rfl (.inl ⟨hcs0,k0,rfl⟩) (by omega) _ _ _ _ (λ id' cn' j' cap' rs' hid' hcn' hb'=>?_)⟩
      conv=>cbv
      refine ⟨Zdo hA (Zhq hA cn') hz0 (by rw [hcn'];exact hz1),ZwJ hA rfl rfl (bx0:=[some _]) (k0:=1) (i:=cs.length) rfl hid' hb' (c:=.val (.list 0 [])) ((Zib hA (A.lLen [])).trans (by rw [<-hat_];omega)) (by simp) ?_⟩
      conv=>cbv
      refine ⟨hroom,Zdo hA (Zhq hA cn') hz0 (by rw [hcn'];exact hz1),ZwK hA rfl rfl (bx0:=[some _]) (k0:=1) (i:=cs.length) rfl hid' hb' ((Zib hA (A.lLen [])).trans (by rw [<-hat_];omega)) (by simp) rfl (λ rs2 hb2=>?_)⟩
      conv=>cbv
      refine hR5 _ ?_
      conv=>cbv
      refine ⟨hir,hR2 (A.iAdd i 1,.row id' 0 1 cn' cap',rs2,tk++[(A.nLen [.int .i64 n],3)],A.ePut m (.int .i64 _) (.int .i64 (A.lLen []))) _ (by (conv=>cbv);exact Zk) ?_ hdec⟩
      rw [his]
      refine ⟨by show 0<=i+1;omega,by show i+1<=_;omega,_,cs++[.own tk.length 1 [.int .i64 n]],hpt2 _,?_,.inr ⟨id',cn',j',cap',rfl,hid',by simp [hcn'],?_⟩,?_⟩
      ·show Zgr _ (Zcv nd (leaves.take (i+1).toNat)).1
       rw [hgs,<-hnd];exact hes.snoc hmem (by rw [<-hat_,hatv];omega)
      ·have h8:(cs++[SV.val (.list 0 [])]).set cs.length (.own tk.length 1 [.int .i64 n])=cs++[.own tk.length 1 [.int .i64 n]]:=by simp
       have h7:∀x,x=tk.length->Zf6 rs2 j' ((cs++[SV.val (.list 0 [])]).set cs.length (.own x 1 [.int .i64 n])) cap'->Zf6 rs2 j' (cs++[.own tk.length 1 [.int .i64 n]]) cap':=λ x hx h=>by subst hx;rw [h8] at h;exact h
       exact h7 _ (by cases tk<;>rfl) hb2
      show ZaR 0 3 (tk++[(A.nLen [.int .i64 n],3)]) (Zcv nd (leaves.take (i+1).toNat)).2 _
      rw [hgs]
      exact hrow.snoc (ZyQ _) n rfl (by subst hA;rfl)
     ·
      obtain ⟨at_,hat_⟩:∃x,x=A.iNat cn:=⟨_,rfl⟩
      have hatv:at_=(cs.length:Int):=by rw [hat_];rw [Zhq hA,hcn]
      have hpt2:∀v,A.ePut m (.int .i64 v) (.int .i64 (A.iNat cn))=YT Z7 Z7 (ZbC es v (A.iNat cn)):=λ v=>by rw [hm];exact hpt es _ _
      have hz0:0<=A.iNat cn:=by rw [<-hat_,hatv];omega
      have hz1:A.iNat cn<((cs.length+1:Nat):Int):=by rw [<-hat_,hatv];omega
      conv=>cbv
      refine ⟨Q1 hA (by rw [hm];exact hkk es _),Yv hA (v:=.int .i64 0) (b:=false) (by rw [hlvn];rfl) (by rw [hlvn];rfl) ?_⟩
      conv=>cbv
      split
      rotate_left
      ·rename_i hc
       cases (YP hA hc)
      conv=>cbv
      refine ⟨⟨Q1 hA (by rw [hm];exact hkk es _),trivial⟩,Zxs hA rfl rfl rfl (by decide) rfl (bx0:=[some _]) (k0:=1) rfl (.inr ⟨id,cn,j,cap,rfl,hid,hcn,hbox⟩) (by omega) _ _ _ _ (λ id' cn' j' cap' rs' hid' hcn' hb'=>?_)⟩
      conv=>cbv
      refine ⟨Zdo hA (Zhq hA cn') hz0 (by rw [hcn'];exact hz1),ZwJ hA rfl rfl (bx0:=[some _]) (k0:=1) (i:=cs.length) rfl hid' hb' (c:=.val (.list 0 [])) ((Zib hA (A.iNat cn)).trans (by rw [<-hat_];omega)) (by simp) ?_⟩
      conv=>cbv
      refine ⟨hroom,Zdo hA (Zhq hA cn') hz0 (by rw [hcn'];exact hz1),ZwK hA rfl rfl (bx0:=[some _]) (k0:=1) (i:=cs.length) rfl hid' hb' ((Zib hA (A.iNat cn)).trans (by rw [<-hat_];omega)) (by simp) rfl (λ rs2 hb2=>?_)⟩
      conv=>cbv
      refine hR5 _ ?_
      conv=>cbv
      refine ⟨hir,hR2 (A.iAdd i 1,.row id' 0 1 cn' cap',rs2,tk++[(A.nLen [.int .i64 n],3)],A.ePut m (.int .i64 _) (.int .i64 (A.iNat cn))) _ (by (conv=>cbv);exact Zk) ?_ hdec⟩
      rw [his]
      refine ⟨by show 0<=i+1;omega,by show i+1<=_;omega,_,cs++[.own tk.length 1 [.int .i64 n]],hpt2 _,?_,.inr ⟨id',cn',j',cap',rfl,hid',by simp [hcn'],?_⟩,?_⟩
      ·show Zgr _ (Zcv nd (leaves.take (i+1).toNat)).1
       rw [hgs,<-hnd];exact hes.snoc hmem (by rw [<-hat_,hatv];omega)
      ·have h8:(cs++[SV.val (.list 0 [])]).set cs.length (.own tk.length 1 [.int .i64 n])=cs++[.own tk.length 1 [.int .i64 n]]:=by simp
       have h7:∀x,x=tk.length->Zf6 rs2 j' ((cs++[SV.val (.list 0 [])]).set cs.length (.own x 1 [.int .i64 n])) cap'->Zf6 rs2 j' (cs++[.own tk.length 1 [.int .i64 n]]) cap':=λ x hx h=>by subst hx;rw [h8] at h;exact h
       exact h7 _ (by cases tk<;>rfl) hb2
      show ZaR 0 3 (tk++[(A.nLen [.int .i64 n],3)]) (Zcv nd (leaves.take (i+1).toNat)).2 _
      rw [hgs]
      exact hrow.snoc (ZyQ _) n rfl (by subst hA;rfl)
  rename_i hc
  have hi:i<leaves.length:=ZE hA rfl hll hc
  have his:A.iAdd i 1=i+1:=Z5 hA _ _
  have hir:A.inR (A.iAdd i 1):=Zy hA his (by unfold Zj;omega)
  obtain ⟨n,hn0⟩:∃n,leaves[i.toNat]?=some n:=⟨_,Zya (show i.toNat<leaves.length by omega)⟩
  have hb1:=hbs n
  obtain ⟨b,hb⟩:∃b,b=decide (n∈YB l):=⟨_,rfl⟩
  rw [<-hb] at hb1
  generalize ZuL (YB l) n=ps at hb1
  conv=>cbv
  refine Zw hA hv hi0 hi (λ y hy=>?_)
  obtain rfl:=Zyc (hn0.symm.trans hy)
  conv=>cbv
  refine Za hA (hb1) ?_
  conv=>cbv
  have hex:∀b,A.bNot b=true->b=false:=λ b h=>Yy hA h
  split
  ·rename_i hc
   rw [Yy hA hc] at hb
   conv=>cbv
   have h9:=hbad2 (Zl5 hn0 (of_decide_eq_false hb.symm))
   exact hR _ _ (Wk.refl _) ⟨_,Frz.refl _ _,(by (conv=>cbv);exact h9)⟩
  ·rename_i hc
   rw [YP hA hc] at hb
   have hm:n∈YB l:=ZyU hb.symm
   have hnxt:(∀m,0<i.toNat->leaves[i.toNat - 1]?=some m->m<n)->0<=A.iAdd i 1/\A.iAdd i 1<=leaves.length/\ZhC l leaves (A.iAdd i 1).toNat:=λ h=>by
    rw [his]
    refine ⟨by omega,by omega,?_⟩
    rw [show (i+1).toNat=i.toNat+1 by omega]
    exact hpre.next hn0 hm h
   conv=>cbv
   split
   ·rename_i hc
    have hi1':0<i:=ltT hA hc
    have hsub:A.iSub i 1=i - 1:=ZbJ hA _ _
    obtain ⟨m,hm0⟩:∃m,leaves[(i - 1).toNat]?=some m:=⟨_,Zya (show (i - 1).toNat<leaves.length by omega)⟩
    conv=>cbv
    refine ⟨Zy hA hsub (by unfold Zj;omega),Zw hA hv (n:=A.iSub i 1) (by rw [hsub];omega) (by rw [hsub];omega) (λ y hy=>?_)⟩
    rw [hsub] at hy
    obtain rfl:=Zyc (hm0.symm.trans hy)
    rw [show (i - 1).toNat=i.toNat - 1 by omega] at hm0
    conv=>cbv
    split
    ·rename_i hc
     have g:n<=m:=leT hA hc
     conv=>cbv
     have h9:=hbad2 (Zl6 (by omega) hn0 hm0 g)
     exact hR _ _ (Wk.refl _) ⟨_,Frz.refl _ _,(by (conv=>cbv);exact h9)⟩
    ·rename_i hc
     have g:m<n:=leF hA hc
     conv=>cbv
     refine ⟨hir,hR2 (A.iAdd i 1) _ (by (conv=>cbv);exact Zk) (hnxt λ z hz1 hz2=>?_) (by rw [his];omega)⟩
     rw [hm0] at hz2
     cases hz2
     exact g
   ·rename_i hc
    have g:i<=0:=ltF hA hc
    conv=>cbv
    exact ⟨hir,hR2 (A.iAdd i 1) _ (by (conv=>cbv);exact Zk) (hnxt λ z hz1 hz2=>by omega) (by rw [his];omega)⟩
theorem Zm0 {α:Type} {a b:List α} {i:Int} {x y:α} (h:∀k:Nat,k<i.toNat->a[k]?=b[k]?) (h0:0<=i) (hx:a[i.toNat]?=some x) (hy:b[i.toNat]?=some y) (e:x=y):∀k:Nat,k<(i+1).toNat->a[k]?=b[k]?:=λ k hk=>by
 rcases Z0l (Z08 (show k<i.toNat+1 by omega)) with h1 | h1
 ·exact h k h1
 ·rw [h1,hx,hy,e]
theorem ZpI {α:Type} {a b:List α} {n:Int} (h:∀k:Nat,k<n.toNat->a[k]?=b[k]?) (hn:n=a.length) (hl:(a.length:Int)=b.length):a=b:=by
 apply ZyS
 intro k
 rcases Zy6 k a.length with h1 | h1
 ·exact h k (by omega)
 ·rw [Zyw h1,Zyw (by omega)]
theorem Zea (a b:List (List Int)) {xs ys:List PV} (hx:xs=Z0 a) (hy:ys=Z0 b) (hbig:∀g∈a,g.length<=1000000):Zc Tryz.prog 23 [.list 1 xs,.list 1 ys] (.bool (decide (a=b))):=by
 refine Zb (clo:=λ _=>false) (rows:=false) Zg Tryz.func23 rfl (enters_of Tryz.func23 (by kernel_rfl) rfl) (λ A q P Y hr hA hq=>?_)
 have hlen:=(hr.mem (p:=.list 1 xs) (by simp)).len
 have hxl:xs.length=a.length:=by rw [hx];simp [Z0]
 have hyl:ys.length=b.length:=by rw [hy];simp [Z0]
 have bad:a≠b->PV.bool false=q:=λ h=>by rw [<-hq,Zyr h]
 conv=>cbv
 split
 ·rename_i h
  have h':=Zew hA (Zl hA hxl) (Zl hA hyl) h
  conv=>cbv
  exact bad (λ e=>h' (by rw [e]))
 rename_i h
 have hab:=Zka hA (Zl hA hxl) (Zl hA hyl) h
 clear h
 conv=>cbv
 refine Zi hA (λ (i:Int) s=>s.put (some 5) (.val (.int .i64 i))) (λ i=>0<=i/\i<=(a.length:Int)/\(λ i=>∀k:Nat,k<i.toNat->a[k]?=b[k]?) i) (λ i=>((a.length:Int) - i).toNat) 0 ?_ ?_ ?_
 ·conv=>cbv
  exact Zk
 ·exact ⟨Zyk _,by omega,by simp⟩
 rintro R i ⟨hi0,hi1,hi2⟩ hRi
 conv=>cbv
 split
 · rename_i hc
   have hi:i<(a.length:Int):=ZE hA rfl (Zl hA hxl) hc
   have his:A.iAdd i 1=i+1:=Z5 hA _ _
   have hir:A.inR (A.iAdd i 1):=Zy hA his (by unfold Zj;omega)
   have him:((a.length:Int) - A.iAdd i 1).toNat<((a.length:Int) - i).toNat:=by rw [his];omega
   have hin:(λ i=>∀k:Nat,k<i.toNat->a[k]?=b[k]?) (i+1)->0<=A.iAdd i 1/\A.iAdd i 1<=(a.length:Int)/\(λ i=>∀k:Nat,k<i.toNat->a[k]?=b[k]?) (A.iAdd i 1):=λ h=>by rw [his];exact ⟨by omega,by omega,h⟩
   simp only at hin
   conv=>cbv
   refine ⟨Zm hA (by kernel_rfl),?_⟩
   refine Zbh hA hx hi0 hi (λ x v hx0 hv=>?_)
   conv=>cbv
   refine Zbh hA hy hi0 (by omega) (λ y w hy0 hw=>?_)
   have hvl:v.length=x.length:=by rw [hv];simp [Zd]
   have hwl:w.length=y.length:=by rw [hw];simp [Zd]
   have hb2:=hbig x (Zyb hx0)
   conv=>cbv
   split
   ·rename_i h
    have h':=Zew hA (Zl hA hvl) (Zl hA hwl) h
    conv=>cbv
    exact bad (λ e=>h' (by rw [e,hy0] at hx0;rw [Zyc hx0]))
   rename_i h
   have hxy:=Zka hA (Zl hA hvl) (Zl hA hwl) h
   conv=>cbv
   refine Zi hA (λ (k:Int) s=>s.put (some 6) (.val (.int .i64 k))) (λ k=>0<=k/\k<=x.length/\∀j:Nat,j<k.toNat->x[j]?=y[j]?) (λ k=>(x.length - k).toNat) 0 ?_ ?_ ?_
   ·conv=>cbv
    exact Zk
   ·exact ⟨Zyk _,by omega,by simp⟩
   rintro R2 k ⟨hk0,hk1,hk2⟩ hR2
   conv=>cbv
   refine Zbh hA hx hi0 hi (λ x' v' hx1 hv'=>?_)
   obtain rfl:=Zyc (hx0.symm.trans hx1)
   obtain rfl:=hv'.trans hv.symm
   conv=>cbv
   split
   ·rename_i hc
    have hk:k<x.length:=ZE hA rfl (Zl hA hvl) hc
    have hks:A.iAdd k 1=k+1:=Z5 hA _ _
    conv=>cbv
    refine ⟨Zm hA (by kernel_rfl),?_⟩
    refine Zbh hA hx hi0 hi (λ x' v' hx1 hv'=>?_)
    obtain rfl:=Zyc (hx0.symm.trans hx1)
    obtain rfl:=hv'.trans hv.symm
    conv=>cbv
    refine Zw hA hv hk0 hk (λ p hp=>?_)
    conv=>cbv
    refine Zbh hA hy hi0 (by omega) (λ x' v' hx1 hv'=>?_)
    obtain rfl:=Zyc (hy0.symm.trans hx1)
    obtain rfl:=hv'.trans hw.symm
    conv=>cbv
    refine Zw hA hw hk0 (by omega) (λ r hr2=>?_)
    conv=>cbv
    split
    ·rename_i h
     have h':p≠r:=neT hA h
     conv=>cbv
     exact bad (λ e=>h' (by rw [e,hy0] at hx0;rw [<-Zyc hx0,hr2] at hp;exact (Zyc hp).symm))
    ·rename_i h
     have h':p=r:=neF hA h
     conv=>cbv
     exact ⟨Zy hA hks (by unfold Zj;omega),hR2 (A.iAdd k 1) _ (by (conv=>cbv);exact Zk) (by rw [hks];exact ⟨by omega,by omega,Zm0 hk2 hk0 hp hr2 h'⟩) (by rw [hks];omega)⟩
   ·rename_i hc
    have hk:(x.length:Int)<=k:=ZK hA rfl (Zl hA hvl) hc
    have hxye:x=y:=ZpI hk2 (by omega) hxy
    conv=>cbv
    exact ⟨hir,hRi (A.iAdd i 1) _ (by (conv=>cbv);exact Zk) (hin (Zm0 hi2 hi0 hx0 hy0 hxye)) him⟩
 rename_i hc
 have hi:i=(a.length:Int):=by have:=ZK hA rfl (Zl hA hxl) hc;omega
 conv=>cbv
 rw [<-hq,Zyq (ZpI hi2 hi hab)]
theorem Zf7 (a b:List Use) {xs ys:List PV} (hx:xs=ZP a) (hy:ys=ZP b):Zc Tryz.prog 32 [.list 4 xs,.list 4 ys] (.bool (decide (a=b))):=by
 refine Zb (clo:=λ _=>false) (rows:=false) Zg Tryz.func32 rfl (enters_of Tryz.func32 (by kernel_rfl) rfl) (λ A q P Y hr hA hq=>?_)
 have hxl:xs.length=a.length:=by rw [hx,Zcm]
 have hyl:ys.length=b.length:=by rw [hy,Zcm]
 have hlen:a.length<=9223372036854775807:=by have:=(hr.mem (p:=.list 4 xs) (by simp)).len;omega
 have hbad:a≠b->PV.bool false=q:=λ h=>by rw [<-hq,Zyr h]
 have hgood:a=b->PV.bool true=q:=λ h=>by rw [<-hq,Zyq h]
 clear hq
 conv=>cbv
 split
 ·rename_i hc
  conv=>cbv
  exact hbad (λ h=>by have:=Zew hA (Zl hA hxl) (Zl hA hyl) hc;rw [h] at this;exact this rfl)
 rename_i g1;replace g1:=Zka hA (Zl hA hxl) (Zl hA hyl) g1
 conv=>cbv
 refine Zi hA (λ (i:Int) s=>s.put (some 5) (.val (.int .i64 i))) (λ i=>0<=i/\i<=(a.length:Int)/\(λ i=>a.take i.toNat=b.take i.toNat) i) (λ i=>((a.length:Int) - i).toNat) 0 ?_ ?_ ?_
 ·conv=>cbv
  exact Zk
 ·exact ⟨Zyk _,by omega,by simp⟩
 rintro R i ⟨hi0,hi1,hi2⟩ hRi
 conv=>cbv
 split
 · rename_i hc
   have hi:i<(a.length:Int):=ZE hA rfl (Zl hA hxl) hc
   have his:A.iAdd i 1=i+1:=Z5 hA _ _
   have hir:A.inR (A.iAdd i 1):=Zy hA his (by unfold Zj;omega)
   have him:((a.length:Int) - A.iAdd i 1).toNat<((a.length:Int) - i).toNat:=by rw [his];omega
   have hin:(λ i=>a.take i.toNat=b.take i.toNat) (i+1)->0<=A.iAdd i 1/\A.iAdd i 1<=(a.length:Int)/\(λ i=>a.take i.toNat=b.take i.toNat) (A.iAdd i 1):=λ h=>by rw [his];exact ⟨by omega,by omega,h⟩
   simp only at hin
   conv=>cbv
   refine ⟨Zm hA (by kernel_rfl),?_⟩
   refine ZfP hA hx hi0 hi (λ x hx0=>?_)
   have hlb:i.toNat<b.length:=by omega
   have hyb:=Zya hlb
   have hxa:=hx0
   have htk:=Zo hi0 hx0
   obtain ⟨⟨x1,x2,x3⟩,x4⟩:=x
   conv=>cbv
   refine ZfP hA hy hi0 (by omega) (λ y hy0=>?_)
   have htk2:=Zo hi0 hy0
   obtain ⟨⟨y1,y2,y3⟩,y4⟩:=y
   conv=>cbv
   split
   ·rename_i hc
    have hne:(⟨⟨x1,x2,x3⟩,x4⟩:Use)≠⟨⟨y1,y2,y3⟩,y4⟩:=by
     intro h
     cases h
     subst hA
     simp [Ze] at hc
    conv=>cbv
    exact hbad (λ h=>by rw [h,hy0] at hxa;cases hxa;exact hne rfl)
   ·rename_i hc
    have he:(⟨⟨x1,x2,x3⟩,x4⟩:Use)=⟨⟨y1,y2,y3⟩,y4⟩:=by
     subst hA
     simp [Ze] at hc
     obtain ⟨rfl,rfl,rfl,rfl⟩:=hc
     rfl
    conv=>cbv
    exact ⟨hir,hRi (A.iAdd i 1) _ (by (conv=>cbv);exact Zk) (hin (by show a.take (i+1).toNat=b.take (i+1).toNat;rw [htk,htk2,he,hi2])) him⟩
 rename_i hc
 have hi:i=(a.length:Int):=by have:=ZK hA rfl (Zl hA hxl) hc;omega
 conv=>cbv
 exact hgood (by rw [Zyl (by omega),Zyl (by omega)] at hi2;exact hi2)
theorem Zeb (a b:Q8):Zc Tryz.prog 67 [YJ a,YJ b] (.bool (decide (a=b))):=by
 refine Zb (clo:=λ _=>false) (rows:=false) Zg Tryz.func67 rfl (enters_of Tryz.func67 (by kernel_rfl) rfl) (λ A q P Y hr hA hq=>?_)
 obtain ⟨a1,a2,a3,a4⟩:=a
 obtain ⟨b1,b2,b3,b4⟩:=b
 have hs:=λ xs ys (hx:xs=ZP a4) (hy:ys=ZP b4)=>Zf7 a4 b4 hx hy
 obtain ⟨xs,hxs⟩:∃xs,xs=ZP a4:=⟨_,rfl⟩
 obtain ⟨ys,hys⟩:∃ys,ys=ZP b4:=⟨_,rfl⟩
 rw [ZaX _ hxs,ZaX _ hys]
 have h1:=hs xs ys hxs hys
 have hd:decide ((⟨a1,a2,a3,a4⟩:Q8)=⟨b1,b2,b3,b4⟩)=(decide (a1=b1)&&decide (a2=b2)&&decide (a3=b3)&&decide (a4=b4)):=by
  rw [ZyA]
  simp [and_assoc]
 rw [hd] at hq
 generalize decide (a4=b4)=d at h1 hq
 simp only
 conv=>cbv
 split
 rotate_left
 ·rename_i hc
  conv=>cbv
  rw [<-hq,Zyr (eqF hA hc)];rfl
 rename_i hc
 rw [Zyq (eqT hA hc),ZyL] at hq
 conv=>cbv
 split
 rotate_left
 ·rename_i hc
  conv=>cbv
  rw [<-hq,Zyr (eqF hA hc)];rfl
 rename_i hc
 rw [Zyq (eqT hA hc),ZyL] at hq
 conv=>cbv
 split
 rotate_left
 ·rename_i hc
  conv=>cbv
  rw [<-hq,Zyr (eqF hA hc)];rfl
 rename_i hc
 rw [Zyq (eqT hA hc),ZyL] at hq
 conv=>cbv
 refine Za hA (h1) ?_
 conv=>cbv
 exact hq
instance decCellLt (a b:Cell):Decidable (ZM a b):=by unfold ZM;infer_instance
def ZuN:List Leg:=[⟨0,0,8,[⟨0,1440⟩]⟩]
def Qs:Zh:=⟨1,[⟨⟨#[]⟩,[],[0],2,1⟩],[⟨⟨#[]⟩,[],[0]⟩],[⟨0,1,ZuN⟩],[[1],[1]],[⟨4,8,1,2,10,[[],[]]⟩]⟩
def Za0:List Zr:=[⟨0,0,[0,0]⟩]
def QZ:Flight:=⟨0,0,0,⟨#[65]⟩,[0],⟨60,61⟩,false⟩
def Zgs:List ZO:=[⟨-1,0,[]⟩,⟨0,20,[]⟩,⟨0,20,[]⟩,⟨1,40,[]⟩,⟨1,40,[]⟩]
def ZhD:Y3:=⟨4,8,1,2,10,[[],[]]⟩
def YG (d h:Int):Opt:=⟨d,0,h,false⟩
theorem ZuO:Qe Qs=true:=by decide
theorem ZrT:Qj Qs Za0=0:=by unfold Qj;rw [ZuO];decide
theorem ZuP {t:Zh} {f:Flight} (h1:Qe t=true) (h2:(!Zcr 0 4095 f.ID&&!Zcr 0 7 f.Airline&&!Zcr 0 (t.Kinds.length - 1) f.Class&&ZcI f.Call&&!Zcr 1 4 f.Ways.length&&!f.Ways.any (Zcr 0 (t.Ways.length - 1)) &&
  !(decide (f.Window.From<0) || decide (f.Window.To<=f.Window.From) || decide (1440<f.Window.To) || decide (16<f.Window.To - f.Window.From)) &&
  !f.Ways.any (QW t.Ways (Zfj t f)))=true) (h3:f.Ways.Nodup):Z8 t f=0:=by
 have:YW t f=true:=by
  unfold YW
  rw [h2,(Zmc _).2 h3];rfl
 rw [Z8,h1,this];rfl
theorem ZpJ:Z8 Qs QZ=0:=ZuP ZuO (by decide) (by decide)
theorem ZxL:ZC Qs QZ=[YG 0 0,YG 0 5,YG 0 10,YG 10 0,YG 10 5,YG 10 10]:=by
 rw [ZC,if_pos ZpJ]
 decide
theorem Zm1 (o:Opt) (h:o∈Zat Qs QZ):ZL Qs QZ o=(Zbz o,Zbz o*2,0):=by
 rw [ZL,if_pos ZpJ,if_pos h];rfl
theorem Zm2 (d h:Int) (hd:d=0\/d=10) (hh:h=0\/h=5\/h=10):YG d h∈Zat Qs QZ:=by
 rcases hd with rfl | rfl<;>rcases hh with rfl | rfl | rfl<;>decide
theorem Zwi (d h:Int) (hd:d=0\/d=10) (hh:h=0\/h=5\/h=10):ZN Qs QZ (YG d h)=0:=by
 have hm:=Zm2 d h hd hh
 have h1:Zaf Qs QZ (YG d h)=0:=by rw [Zaf,Zm1 _ hm];rfl
 rw [ZN,if_pos h1,if_pos]
 rcases hd with rfl | rfl<;>rcases hh with rfl | rfl | rfl<;>decide
theorem ZpK (d h:Int) (hd:d=0\/d=10) (hh:h=0\/h=5\/h=10):ZX Qs QZ (YG d h)=[⟨0,[60+d,61+d+h]⟩,⟨0,[60+d,62+d+h]⟩]:=by
 rw [ZX,if_pos (Zwi d h hd hh)]
 rcases hd with rfl | rfl<;>rcases hh with rfl | rfl | rfl<;>decide
theorem Zxt (a b:Int) (h0:0<=a) (h1:b<=1440):ZaI [⟨0,1440⟩] ⟨a,b⟩=true:=by
 rw [Zfw]
 refine .inr ⟨h0,h1,λ m h2 h3=>?_⟩
 have h2:a<=m:=h2
 have h3:m<b:=h3
 unfold Zaj
 simp [Zah]
 omega
theorem ZuQ (a b:Int) (h0:0<=a) (h1:b<1440):ZbF Qs ZhD ⟨0,[a,b]⟩=true:=by
 have hc:∀(x m:Int),ZaY ZhD x m=false:=by
  intro x m
  unfold ZaY
  have:∀(n:Nat) (l:List Y2),ZhD.Curfews[n]?=some l->l=[]:=by
   intro n l h
   match n,h with
   | 0,h=>simp [ZhD] at h;exact h
   | 1,h=>simp [ZhD] at h;exact h
   | n+2,h=>simp [ZhD] at h
  cases h:ZhD.Curfews[x.toNat]? with
  | none=>rfl
  | some l=>rw [this _ l h];simp [Zaj]
 show Zh6 ZhD ⟨0,1,ZuN⟩ [a,b]=true
 unfold Zh6
 rw [hc,hc]
 show (decide (b<1440)&&true&&true&&(ZaI [⟨0,1440⟩] ⟨a,b⟩&&true))=true
 rw [Zxt a b h0 (by omega),Zyq h1];rfl
theorem Zm3 (d h:Int) (hd:d=0\/d=10) (hh:h=0\/h=5\/h=10):QP Qs QZ (YG d h)=0:=by
 unfold QP
 rw [Zm1 _ (Zm2 d h hd hh),Zwi d h hd hh]
 have:Zdu Qs QZ (YG d h)=true:=by
  show (ZX Qs QZ (YG d h)).all (ZbF Qs ZhD)=true
  rw [ZpK d h hd hh,Z0s,Z0s,List.all_nil,ZuQ _ _ (by omega) (by omega),ZuQ _ _ (by omega) (by omega)];rfl
 rw [this];rfl
theorem Zr0:ZZ Qs QZ=[YG 0 0,YG 0 5,YG 0 10,YG 10 0,YG 10 5,YG 10 10]:=by
 unfold ZZ
 rw [ZxL]
 simp only [List.filter_cons,Zm3 0 0 (.inl rfl) (.inl rfl),Zm3 0 5 (.inl rfl) (.inr (.inl rfl)),Zm3 0 10 (.inl rfl) (.inr (.inr rfl)),Zm3 10 0 (.inr rfl) (.inl rfl),Zm3 10 5 (.inr rfl) (.inr (.inl rfl)),Zm3 10 10 (.inr rfl) (.inr (.inr rfl)),decide_true,if_true,List.filter_nil]
theorem ZuR:ZgM Qs:=by
 intro w hw x hx
 simp [Qs] at hw
 subst hw
 simp [ZuN] at hx
 subst hx
 decide
theorem ZxM:∀o∈ZZ Qs QZ,o.Cancel=true\/(ZX Qs QZ o).length<=150:=by
 intro o ho
 rw [Zr0] at ho
 refine .inr ?_
 simp only [ZyJ,List.not_mem_nil,or_false] at ho
 rcases ho with rfl | rfl | rfl | rfl | rfl | rfl<;>rw [ZpK _ _ (by decide) (by decide)]<;>decide
theorem Zxu:Qt Qs Za0 QZ=0:=by unfold Qt;rw [ZrT,ZpJ];rfl
theorem Zwj:Z1 Qs QZ 61=[YG 10 0,YG 10 5,YG 10 10]:=by
 unfold Z1 ZbL
 rw [Zr0]
 decide
theorem Zwk:Z1 Qs QZ 100=[QM]:=by
 unfold Z1 ZbL
 rw [Zr0]
 decide
theorem ZwL (d h:Int) (hd:d=0\/d=10) (hh:h=0\/h=5\/h=10):Ql Qs Za0 0 (ZX Qs QZ (YG d h))=0:=Zn7 (f:=QZ) ZrT ZpJ
def Zxv:List Use:=[⟨⟨false,0,70⟩,1⟩,⟨⟨false,0,71⟩,1⟩,⟨⟨true,0,70⟩,1⟩,⟨⟨true,1,71⟩,1⟩,⟨⟨true,1,72⟩,1⟩]
theorem Zxw:Qu Qs Za0 0 (ZX Qs QZ (YG 10 0))=Zxv:=by
 unfold Qu
 rw [if_pos (ZwL 10 0 (by decide) (by decide)),ZpK 10 0 (by decide) (by decide)]
 have hp:([⟨0,[60+10,61+10+0]⟩,⟨0,[60+10,62+10+0]⟩]:List Qo).map (ZG Qs Za0)=[[⟨true,0,70⟩,⟨false,0,70⟩,⟨true,1,71⟩],[⟨true,0,70⟩,⟨false,0,70⟩,⟨false,0,71⟩,⟨true,1,72⟩]]:=by decide +kernel
 rw [hp]
 unfold Yk Zbs
 rw [Zf0 (l':=[⟨false,0,70⟩,⟨false,0,71⟩,⟨true,0,70⟩,⟨true,1,71⟩,⟨true,1,72⟩]) (by decide +kernel) (by decide)]
 rfl
def Zxx:List Use:=[⟨⟨false,0,70⟩,1⟩,⟨⟨false,0,71⟩,1⟩,⟨⟨false,0,72⟩,1⟩,⟨⟨false,0,73⟩,1⟩,⟨⟨false,0,74⟩,1⟩,⟨⟨false,0,75⟩,1⟩,⟨⟨false,0,76⟩,1⟩,⟨⟨true,0,70⟩,1⟩,⟨⟨true,1,76⟩,1⟩,⟨⟨true,1,77⟩,1⟩]
theorem Zxy:Qu Qs Za0 0 (ZX Qs QZ (YG 10 5))=Zxx:=by
 unfold Qu
 rw [if_pos (ZwL 10 5 (by decide) (by decide)),ZpK 10 5 (by decide) (by decide)]
 have hp:([⟨0,[60+10,61+10+5]⟩,⟨0,[60+10,62+10+5]⟩]:List Qo).map (ZG Qs Za0)=[[⟨true,0,70⟩,⟨false,0,70⟩,⟨false,0,71⟩,⟨false,0,72⟩,⟨false,0,73⟩,⟨false,0,74⟩,⟨false,0,75⟩,⟨true,1,76⟩],[⟨true,0,70⟩,⟨false,0,70⟩,⟨false,0,71⟩,⟨false,0,72⟩,⟨false,0,73⟩,⟨false,0,74⟩,⟨false,0,75⟩,⟨false,0,76⟩,⟨true,1,77⟩]]:=by decide +kernel
 rw [hp]
 unfold Yk Zbs
 rw [Zf0 (l':=[⟨false,0,70⟩,⟨false,0,71⟩,⟨false,0,72⟩,⟨false,0,73⟩,⟨false,0,74⟩,⟨false,0,75⟩,⟨false,0,76⟩,⟨true,0,70⟩,⟨true,1,76⟩,⟨true,1,77⟩]) (by decide +kernel) (by decide)]
 rfl
def Zxz:List Use:=[⟨⟨false,0,70⟩,1⟩,⟨⟨false,0,71⟩,1⟩,⟨⟨false,0,72⟩,1⟩,⟨⟨false,0,73⟩,1⟩,⟨⟨false,0,74⟩,1⟩,⟨⟨false,0,75⟩,1⟩,⟨⟨false,0,76⟩,1⟩,⟨⟨false,0,77⟩,1⟩,⟨⟨false,0,78⟩,1⟩,⟨⟨false,0,79⟩,1⟩,⟨⟨false,0,80⟩,1⟩,⟨⟨false,0,81⟩,1⟩,⟨⟨true,0,70⟩,1⟩,⟨⟨true,1,81⟩,1⟩,⟨⟨true,1,82⟩,1⟩]
theorem Zx0:Qu Qs Za0 0 (ZX Qs QZ (YG 10 10))=Zxz:=by
 unfold Qu
 rw [if_pos (ZwL 10 10 (by decide) (by decide)),ZpK 10 10 (by decide) (by decide)]
 have hp:([⟨0,[60+10,61+10+10]⟩,⟨0,[60+10,62+10+10]⟩]:List Qo).map (ZG Qs Za0)=[[⟨true,0,70⟩,⟨false,0,70⟩,⟨false,0,71⟩,⟨false,0,72⟩,⟨false,0,73⟩,⟨false,0,74⟩,⟨false,0,75⟩,⟨false,0,76⟩,⟨false,0,77⟩,⟨false,0,78⟩,⟨false,0,79⟩,⟨false,0,80⟩,⟨true,1,81⟩],[⟨true,0,70⟩,⟨false,0,70⟩,⟨false,0,71⟩,⟨false,0,72⟩,⟨false,0,73⟩,⟨false,0,74⟩,⟨false,0,75⟩,⟨false,0,76⟩,⟨false,0,77⟩,⟨false,0,78⟩,⟨false,0,79⟩,⟨false,0,80⟩,⟨false,0,81⟩,⟨true,1,82⟩]]:=by decide +kernel
 rw [hp]
 unfold Yk Zbs
 rw [Zf0 (l':=[⟨false,0,70⟩,⟨false,0,71⟩,⟨false,0,72⟩,⟨false,0,73⟩,⟨false,0,74⟩,⟨false,0,75⟩,⟨false,0,76⟩,⟨false,0,77⟩,⟨false,0,78⟩,⟨false,0,79⟩,⟨false,0,80⟩,⟨false,0,81⟩,⟨true,0,70⟩,⟨true,1,81⟩,⟨true,1,82⟩]) (by decide +kernel) (by decide)]
 rfl
def c21:List Q8:=[⟨10,20,0,Zxv⟩,⟨15,30,1,Zxx⟩,⟨20,40,1,Zxz⟩]
theorem Zx1:Q9 Qs Za0 QZ 61 (YG 10 0)=c21:=by
 unfold Q9
 rw [Zwj]
 simp only [Zzl,ZzW]
 unfold ZaZ
 rw [Zm1 _ (Zm2 10 0 (by decide) (by decide)),Zm1 _ (Zm2 10 5 (by decide) (by decide)),Zm1 _ (Zm2 10 10 (by decide) (by decide))]
 show [Q8.mk _ _ _ (Qu Qs Za0 0 _),Q8.mk _ _ _ (Qu Qs Za0 0 _),Q8.mk _ _ _ (Qu Qs Za0 0 _)]=_
 rw [Zxw,Zxy,Zx0]
 rfl
theorem Zx2:Q9 Qs Za0 QZ 100 ⟨0,0,0,false⟩=[⟨120,240,1,[]⟩]:=by
 unfold Q9
 rw [Zwk]
 rfl
def w21:List Use:=[⟨⟨false,0,60⟩,1⟩,⟨⟨true,0,60⟩,1⟩,⟨⟨true,1,61⟩,1⟩]
theorem ZxN:Zas Qs [⟨0,[60,61]⟩]=0:=by
 simp only [Zas,QB,ZuO,if_true]
 decide
theorem Zx3:Ql Qs Za0 0 [⟨0,[60,61]⟩]=0:=by
 unfold Ql
 rw [ZrT,ZxN];decide
theorem ZxO:Qu Qs Za0 0 [⟨0,[60,61]⟩]=w21:=by
 unfold Qu
 rw [if_pos Zx3]
 have hp:([⟨0,[60,61]⟩]:List Qo).map (ZG Qs Za0)=[[⟨true,0,60⟩,⟨false,0,60⟩,⟨true,1,61⟩]]:=by decide +kernel
 rw [hp]
 unfold Yk Zbs
 rw [Zf0 (l':=[⟨false,0,60⟩,⟨true,0,60⟩,⟨true,1,61⟩]) (by decide +kernel) (by decide)]
 rfl
theorem Zx4:ZbG Qs QZ (YG 0 0)=(0,0,0):=by
 unfold ZbG
 rw [if_neg (by decide),Zm1 _ (Zm2 0 0 (by decide) (by decide))];rfl
theorem ZxP:Zf2 Qs Za0 QZ (YG 0 0) [⟨0,[60,61]⟩]=.tup [YJ ⟨0,0,0,w21⟩,.int .i64 0]:=by
 have hE:Zd8 Qs Za0 QZ (YG 0 0) [⟨0,[60,61]⟩]=0:=by
  unfold Zd8
  rw [ZrT,ZpJ,Zx4]
  exact Zx3
 unfold Zf2
 rw [if_pos hE]
 unfold Zk8
 rw [Zx4]
 show PV.tup [YJ ⟨0,0,0,Qu Qs Za0 0 _⟩,_]=_
 rw [ZxO]
theorem ZxQ:Qt ⟨0,[],[],[],[],[]⟩ Za0 QZ=140:=by
 have:Qj ⟨0,[],[],[],[],[]⟩ Za0=140:=by decide
 unfold Qt
 rw [this];rfl
theorem Zx5:Zaz Zgs=true:=by decide
theorem Zx6:Zc4 Zgs [2,3,4]=0:=by unfold Zc4;rw [Zx5];decide
theorem ZxR:Zc4 Zgs []=210:=by unfold Zc4;rw [Zx5];decide
theorem ZxS:ZfS Zgs [2,3,4] 30 0=[[2],[3,4]]:=by decide +kernel
theorem ZxT:ZfS Zgs [2,3,4] 30 30=[[2,3,4]]:=by decide +kernel
theorem n21:(Z6 (YE (Zbk (Zbt [⟨0,0,[],c21⟩])))).length=19:=by
 unfold Z6
 rw [Zys,(Yj _).length_eq]
 decide +kernel
theorem ZxU:Z6 (YE (Zbk (Zbt [])))=[]:=by simp [Z6,YE,Zbk,Zbt]
def Qv (n:Int):PV:=.int .i64 n
def ZnF:PV:=.agg [Qv 1,.list 5 [.agg [.str ⟨#[]⟩,.list 0 [],.list 1 [Qv 0],Qv 2,Qv 1]],.list 3 [.agg [.str ⟨#[]⟩,.list 0 [],.list 1 [Qv 0]]],
 .list 3 [.agg [Qv 0,Qv 1,.list 4 [.agg [Qv 0,Qv 0,Qv 8,.list 2 [.agg [Qv 0,Qv 1440]]]]]],.list 1 [.list 1 [Qv 1],.list 1 [Qv 1]],
 .list 6 [.agg [Qv 4,Qv 8,Qv 1,Qv 2,Qv 10,.list 1 [.list 0 [],.list 0 []]]]]
def ZnG:PV:=.agg [.list 3 [.agg [Qv 0,Qv 0,.list 1 [Qv 0,Qv 0]]]]
def ZkK:PV:=.agg [Qv 0,Qv 0,Qv 0,.str ⟨#[65]⟩,.list 1 [Qv 0],Qv 60,Qv 61,.bool false]
def Zr1:PV:=.list 3 [.agg [Qv (-1),Qv 0,.list 0 []],.agg [Qv 0,Qv 20,.list 0 []],.agg [Qv 0,Qv 20,.list 0 []],.agg [Qv 1,Qv 40,.list 0 []],.agg [Qv 1,Qv 40,.list 0 []]]
theorem ZpL:LeP ZnF (Zn Qs):=Zjp 12 _ _ (by decide)
theorem ZpM:LeP Zr1 (.list 3 (YO Zgs)):=Zjp 12 _ _ (by decide)
theorem ZpN:Zc Tryz.prog 66 [] (.tup [ZnF,ZnG]):=by
 refine Zb (clo:=λ _=>false) (rows:=false) Zg Tryz.func66 rfl (enters_of Tryz.func66 (by kernel_rfl) rfl) (λ A q P Y hr hA hq=>?_)
 have hm:A.mks 2 2 24:=by subst hA;exact ⟨by decide,rfl,by decide,by decide⟩
 conv=>cbv
 refine ⟨hm,?_⟩
 rw [<-hq]
 subst hA
 rfl
theorem ZiU (lv:List Int) (now:Int) {gl:List (List Int)} (hl:lv.length<=1000000) (hE:Zc4 Zgs lv=0) (hG:ZfS Zgs lv 30 now=gl) :
  Zc Tryz.prog 21 [Zr1,.list 1 (Zd lv),ZkK,.int .i64 now] (.tup [.list 1 (Z0 gl),.int .i64 0]):=by
 have h:=Zmz Zgs lv QZ now rfl rfl (by decide) hl (by unfold Zj;decide)
 rw [hE,show ZcW QZ.Window.From=30 by decide,hG,if_pos rfl] at h
 exact h.le (.cons ZpM (LeL.refl _)) (.refl _)
theorem ZnH:Zc Tryz.prog 21 [Zr1,.list 0 [],ZkK,.int .i64 0] (.tup [.list 0 [],.int .i64 210]):=by
 have h:=Zmz Zgs [] QZ 0 rfl rfl (by decide) (by decide) (by unfold Zj;decide)
 rw [ZxR,if_neg (by decide)] at h
 exact h.le (.cons ZpM (.cons (.nil _ _) (LeL.refl _))) (.refl _)
theorem ZhE (now:Int) (ann:Opt) {cs:List Q8} {os:List Opt} (ho:Z1 Qs QZ now=os) (hc:Q9 Qs Za0 QZ now ann=cs) :
  Zc Tryz.prog 25 [ZnF,ZnG,ZkK,.int .i64 now,Z2 ann] (.tup [.list 4 (Qa cs),.list 4 (Zq os),.int .i64 0]):=by
 have h:=YN Qs Za0 QZ now ann ZuR ZxM
 unfold ZcQ at h
 rw [Zxu,if_pos rfl,ho,hc] at h
 exact h.le (.cons ZpL (LeL.refl _)) (.refl _)
theorem Zl7:Zc Tryz.prog 25 [.agg [Qv 0,.list 0 [],.list 0 [],.list 0 [],.list 0 [],.list 0 []],ZnG,ZkK,.int .i64 0,.agg [Qv 0,Qv 0,Qv 0,.bool false]] (.tup [.list 0 [],.list 0 [],.int .i64 140]):=by
 have hne:ZZ ⟨0,[],[],[],[],[]⟩ QZ=[]:=by
  have:Z8 ⟨0,[],[],[],[],[]⟩ QZ=140:=by
   unfold Z8
   rw [show Qe ⟨0,[],[],[],[],[]⟩=false by decide];rfl
  unfold ZZ ZC
  rw [if_neg (by rw [this];decide)];rfl
 have h:=YN ⟨0,[],[],[],[],[]⟩ Za0 QZ 0 ⟨0,0,0,false⟩ (λ w hw=>by simp at hw) (λ o ho=>by rw [hne] at ho;cases ho)
 unfold ZcQ at h
 rw [ZxQ,if_neg (by decide)] at h
 exact h.le (.cons (Zjp 12 _ _ (by decide)) (LeL.refl _)) (.refl _)
theorem Zr2:Zc Tryz.prog 31 [ZnF,ZnG,ZkK,.agg [Qv 0,Qv 0,Qv 0,.bool false],.list 2 [.agg [Qv 0,.list 1 [Qv 60,Qv 61]]]] (.tup [YJ ⟨0,0,0,w21⟩,.int .i64 0]):=by
 have h:=Zh9 Qs Za0 QZ (YG 0 0) [⟨0,[60,61]⟩] rfl (by decide)
 rw [ZxP] at h
 exact h.le (.cons ZpL (LeL.refl _)) (.refl _)
theorem ZpO:Zc Tryz.prog 34 [.list 0 []] (.list 3 []):=by
 have h:=ZhA [] rfl (by decide) (by decide) (λ x hx=>by cases hx) (λ x hx=>by cases hx)
 rw [ZxU] at h
 exact h.le (.cons (.nil _ _) (LeL.refl _)) (.refl _)
theorem Zr3:∃L:List PV,L.length=19/\Zc Tryz.prog 34 [.list 4 [.agg [Qv 0,Qv 0,.list 0 [],.list 4 (Qa c21)]]] (.list 3 L):=by
 have h:=ZhA [⟨0,0,[],c21⟩] rfl (by decide) (by decide) (λ x hx=>by simp at hx;subst hx;decide) (λ x hx y hy=>by
  simp at hx;subst hx
  simp only [c21,ZyJ,List.not_mem_nil,or_false] at hy
  rcases hy with rfl | rfl | rfl<;>decide)
 exact ⟨_,n21,h.le (.cons (Zjp 12 _ _ (by decide)) (LeL.refl _)) (.refl _)⟩
theorem ZeA {A:Ops} {E:Env} (hA:A=Ze E) {x:PV} {r:List PV} {K:List PV->Prop} (h:K x.cells):A.idx (x::r) 0 K:=by
 subst hA
 exact ⟨⟨Zyk _,by simp only [ZyM];omega⟩,h⟩
theorem ZvT {A:Ops} {E:Env} (hA:A=Ze E) {x y:PV} {r:List PV} {K:List PV->Prop} (h:K y.cells):A.idx (x::y::r) 1 K:=by
 subst hA
 exact ⟨⟨by decide,by simp only [ZyM];omega⟩,h⟩
set_option maxRecDepth 20000 in
set_option maxHeartbeats 8000000 in
theorem ZeB:Zc Tryz.prog 19 [] (.bool true):=by
 refine Zb (clo:=λ _=>false) (rows:=false) Zg Tryz.func19 rfl (enters_of Tryz.func19 (by kernel_rfl) rfl) (λ A q P Y hr hA hq=>?_)
 have c1:=ZiU [2,3,4] 0 (by decide) Zx6 ZxS
 have c2:=ZiU [2,3,4] 30 (by decide) Zx6 ZxT
 have c3:=ZnH
 have c4:=ZhE 61 (YG 10 0) Zwj Zx1
 have c5:=ZhE 100 ⟨0,0,0,false⟩ Zwk Zx2
 have c6:=Zr2
 have c7:=Zl7
 have c8:=ZpO
 obtain ⟨L,hL,c9⟩:=Zr3
 have c10:=Zea [[2],[3,4]] [[2],[3,4]] rfl rfl (by decide)
 have c11:=Zea [[2,3,4]] [[2,3,4]] rfl rfl (by decide)
 have c12:=Zeb ⟨0,0,0,w21⟩ ⟨0,0,0,w21⟩
 rw [Zyq rfl] at c10 c11 c12
 have hLl:A.lLen L=19:=Zl hA hL
 refine Zf (λ R hR=>?_)
 conv=>cbv
 refine hR _ ?_
 clear hR
 refine Zf (λ R hR=>?_)
 conv=>cbv
 refine Za hA (ZpN) ?_
 conv=>cbv
 refine hR _ ?_
 clear hR
 refine Zf (λ R hR=>?_)
 conv=>cbv
 refine hR _ ?_
 clear hR
 refine Zf (λ R hR=>?_)
 conv=>cbv
 refine hR _ ?_
 clear hR
 refine Zf (λ R hR=>?_)
 conv=>cbv
 refine Za hA (c1) ?_
 conv=>cbv
 refine hR _ ?_
 clear hR
 refine Zf (λ R hR=>?_)
 conv=>cbv
 refine Za hA (c2) ?_
 conv=>cbv
 refine hR _ ?_
 clear hR
 refine Zf (λ R hR=>?_)
 conv=>cbv
 refine Za hA (c3) ?_
 conv=>cbv
 refine hR _ ?_
 clear hR
 refine Zf (λ R hR=>?_)
 conv=>cbv
 refine Za hA (c4) ?_
 conv=>cbv
 refine hR _ ?_
 clear hR
 refine Zf (λ R hR=>?_)
 conv=>cbv
 refine Za hA (c5) ?_
 conv=>cbv
 refine hR _ ?_
 clear hR
 refine Zf (λ R hR=>?_)
 conv=>cbv
 refine Za hA (c6) ?_
 conv=>cbv
 refine hR _ ?_
 clear hR
 refine Zf (λ R hR=>?_)
 conv=>cbv
 refine Za hA (c7) ?_
 conv=>cbv
 refine hR _ ?_
 clear hR c1 c2 c3 c4 c5 c6 c7
 refine Zf (λ R hR=>?_)
 conv=>cbv
 split
 ·rename_i hc
  cases (neT hA hc rfl)
 conv=>cbv
 split
 ·rename_i hc
  cases (neT hA hc rfl)
 conv=>cbv
 split
 ·rename_i hc
  cases (neT hA hc rfl)
 conv=>cbv
 split
 ·rename_i hc
  cases (neT hA hc rfl)
 conv=>cbv
 split
 ·rename_i hc
  cases (neT hA hc rfl)
 conv=>cbv
 split
 ·rename_i hc
  cases (neT hA hc rfl)
 conv=>cbv
 split
 ·rename_i hc
  cases (neT hA hc rfl)
 conv=>cbv
 split
 ·rename_i hc
  cases (Zew hA (Zl hA (n:=3) rfl) rfl hc rfl)
 conv=>cbv
 split
 ·rename_i hc
  cases (Zew hA (Zl hA (n:=3) rfl) rfl hc rfl)
 conv=>cbv
 split
 ·rename_i hc
  cases (Zew hA (Zl hA (n:=1) rfl) rfl hc rfl)
 conv=>cbv
 split
 ·rename_i hc
  cases (Zew hA (Zl hA (n:=1) rfl) rfl hc rfl)
 conv=>cbv
 refine hR _ ?_
 clear hR
 refine Zf (λ R hR=>?_)
 conv=>cbv
 refine Za hA (c10) ?_
 conv=>cbv
 split
 ·rename_i hc
  cases ((show False by have h9:true=false:=Yy hA hc;cases h9))
 conv=>cbv
 refine Za hA (c11) ?_
 conv=>cbv
 split
 ·rename_i hc
  cases ((show False by have h9:true=false:=Yy hA hc;cases h9))
 conv=>cbv
 refine Za hA (c8) ?_
 conv=>cbv
 split
 ·rename_i hc
  cases (Zew hA (Zl hA (n:=0) rfl) rfl hc rfl)
 conv=>cbv
 refine hR _ ?_
 clear hR c8 c10 c11
 refine Zf (λ R hR=>?_)
 conv=>cbv
 refine hR _ ?_
 clear hR
 conv=>cbv
 refine ZeA hA ?_
 conv=>cbv
 split
 rotate_left
 ·rename_i hc
  cases (show False by subst hA;simp [Ze] at hc)
 conv=>cbv
 refine ZeA hA ?_
 conv=>cbv
 split
 rotate_left
 ·rename_i hc
  cases (eqF hA hc rfl)
 conv=>cbv
 refine ZvT hA ?_
 conv=>cbv
 split
 rotate_left
 ·rename_i hc
  cases (eqF hA hc rfl)
 conv=>cbv
 refine ZeA hA ?_
 conv=>cbv
 split
 rotate_left
 ·rename_i hc
  cases (eqF hA hc rfl)
 conv=>cbv
 refine ZeA hA ?_
 conv=>cbv
 split
 rotate_left
 ·rename_i hc
  cases (eqF hA hc rfl)
 conv=>cbv
 refine ZeA hA ?_
 conv=>cbv
 split
 rotate_left
 ·rename_i hc
  cases (ZeN hA (Zl hA (n:=5) rfl) rfl hc rfl)
 conv=>cbv
 refine ZeA hA ?_
 conv=>cbv
 refine ZeA hA ?_
 conv=>cbv
 split
 rotate_left
 ·rename_i hc
  cases (eqF hA hc rfl)
 conv=>cbv
 refine ZeA hA ?_
 conv=>cbv
 split
 rotate_left
 ·rename_i hc
  cases (eqF hA hc rfl)
 conv=>cbv
 refine ZeA hA ?_
 conv=>cbv
 split
 rotate_left
 ·rename_i hc
  cases (ZeN hA (Zl hA (n:=0) rfl) rfl hc rfl)
 conv=>cbv
 refine Za hA (c12) ?_
 conv=>cbv
 refine Za hA (c9) ?_
 conv=>cbv
 rw [<-hq]
 exact congrArg PV.bool (show A.iEq (A.lLen L) 19=true by rw [hLl];subst hA;rfl)
theorem ZuS {L:Int} {n j w m:Nat} {c:Bool} (hj:(10*j:Nat)<=L) (hw:w<n) (hm:m<3):(Zay L n c)[j*(3*n)+(3*w+m)]?=some ⟨((10*j:Nat):Int),(w:Int),((5*m:Nat):Int),false⟩:=by
 have hJ:j<(L / 10+1).toNat:=by omega
 have hlt:j*(3*n)+(3*w+m)<(L / 10+1).toNat*(3*n):=by
  have h1:(j+1)*(3*n)<=(L / 10+1).toNat*(3*n):=ZyY _ hJ
  rw [Zzi,Z0h] at h1
  omega
 unfold Zay
 rw [Zye (by simpa using hlt),Zyh,ZzN hlt]
 simp only [Zy5,Zkh hw hm]
set_option maxHeartbeats 2000000 in
theorem Zf8 (t:Zh) (f:Flight):Zc Tryz.prog 144 [Zn t,Zx f] (.tup [.list 4 (Zq (ZC t f)),.int .i64 (Z8 t f)]):=by
 have hchk:=ZiH t f
 obtain ⟨ck,hck⟩:∃ck,ck=Z8 t f:=⟨_,rfl⟩
 by_cases h0:ck=0
 ·obtain ⟨k,hk,hc0,hL0,hL1,_,_,_,hw1,hw4⟩:=Qx (hck▸h0)
  have hcl:=(ZxZ.1 hk).1
  have hml:ZC t f=Zay k.Longest f.Ways.length f.Cancel:=by
   rw [ZC,if_pos (hck▸h0),Zat,hk]
  rw [hml,<-hck,h0]
  rw [<-hck,h0] at hchk
  have hlen:(Zay k.Longest f.Ways.length f.Cancel).length<=1000:=by
   rw [ZdU]
   have h1:(k.Longest / 10+1).toNat<=7:=by omega
   have h2:(k.Longest / 10+1).toNat*(3*f.Ways.length)<=7*(3*4):=Z0E h1 (by omega)
   split<;>omega
  have hat:=λ (j w m:Nat) (h1:(10*j:Nat)<=k.Longest) (h2:w<f.Ways.length) (h3:m<3)=>ZuS (c:=f.Cancel) h1 h2 h3
  have hml2:=ZdU k.Longest f.Ways.length f.Cancel
  have hlast:f.Cancel=true->(Zay k.Longest f.Ways.length f.Cancel)[(k.Longest / 10+1).toNat*(3*f.Ways.length)]?=some ⟨0,0,0,true⟩:=λ h=>by
   rw [h];unfold Zay
   rw [Zyd (by simp)];simp
  refine Zb (clo:=λ _=>false) (rows:=false) Zg Tryz.func144 rfl (enters_of Tryz.func144 (by kernel_rfl) rfl) (λ A q P Y hr hA hq=>?_)
  obtain ⟨ss,cs,ws,ms,ks,nv,hss,hcs,hws,hms,hks,hnv,htab⟩:=Qd t
  rw [htab] at hchk ⊢
  generalize Zay k.Longest f.Ways.length f.Cancel=M at hq hlen hat hml2 hlast
  obtain ⟨f1,f2,f3,f4,f5,⟨f6,f7⟩,f8⟩:=f
  obtain ⟨fl,hfl⟩:∃fl,fl=Zd f5:=⟨_,rfl⟩
  have hfl':fl.length=f5.length:=by rw [hfl];simp [Zd]
  rw [Zs _ hfl] at hchk ⊢
  simp only at hchk hk hcl hc0 hw1 hw4 hat hml2 hlast ⊢
  obtain ⟨k1,k2,k3,k4,L,k6⟩:=k
  simp only at hL0 hL1 hat hml2 hlast
  obtain ⟨n,hn⟩:∃n,n=f5.length:=⟨_,rfl⟩
  rw [<-hn] at hw1 hw4 hat hml2 hlast hfl'
  have hsnoc:∀(kk:Nat) (o:Opt),M[kk]?=some o->A.lApp (Zq (M.take kk)) [Z2 o]=Zq (M.take (kk+1)):=λ kk o h=>by
   rw [ZyD,h]
   subst hA
   show Zq _++_=_
   simp [Zq]
  have hroom:∀(xs:List PV),xs.length<=2000->A.room (A.nLen xs) 32:=λ xs h=>by
   subst hA
   show xs.length*(32+1)<=140737488355328
   omega
  have htk:∀xs,A.tkEq (A.nLen xs) (A.nLen xs):=λ xs=>by subst hA;rfl
  have hel:∀kk,(Zq (M.take kk)).length<=1000:=λ kk=>by simp [Zq];omega
  conv=>cbv
  refine Za hA (hchk) ?_
  conv=>cbv
  split
  ·rename_i hc
   cases (neT hA hc rfl)
  conv=>cbv
  refine Zi hA (λ (z:Int × List PV) s=>{ (s.put (some 8) (.val (.int .i64 z.1))).put (some 7) (.own 0 4 z.2) with tk:=[(A.nLen z.2,35)] }) (λ z=>∃j:Nat,z.1=(10*j:Nat)/\(10*j:Nat)<=L+10/\z.2=Zq (M.take (j*(3*n)))) (λ z=>(L+10 - z.1).toNat) (0,[]) ?_ ?_ ?_
  ·conv=>cbv
   exact ZaM 7 4 4 _ _ rfl (.inl rfl) (by repeat (first | refine Zv ?_ | refine ZH ?_ | exact Z9)) (by subst hA;rfl)
  ·exact ⟨0,rfl,by omega,by simp [Zq]⟩
  rintro R2 ⟨d,X⟩ ⟨j,hd,hj,hX⟩ hR2
  simp only at hd hX
  conv=>cbv
  refine Q6 hA hks hc0 (by omega) (λ k' v hk' hv=>?_)
  obtain rfl:=Zyc (hk.symm.trans hk')
  conv=>cbv
  split
  ·rename_i hc
   have hdL:=leT hA hc
   have hds:A.iAdd d 10=d+10:=Z5 hA _ _
   have hjL:((10*j:Nat):Int)<=L:=by omega
   conv=>cbv
   refine Zi hA (λ (z:Int × List PV) s=>{ (s.put (some 9) (.val (.int .i64 z.1))).put (some 7) (.own 0 4 z.2) with tk:=[(A.nLen z.2,35)] }) (λ z=>∃w:Nat,z.1=(w:Int)/\w<=n/\z.2=Zq (M.take (j*(3*n)+3*w))) (λ z=>(n - z.1).toNat) (0,X) ?_ ?_ ?_
   ·conv=>cbv
    exact Zk (by repeat (first | refine Zv ?_ | refine ZH ?_ | refine Za6 ?_ | refine Zbn ?_ | exact Z9))
   ·exact ⟨0,rfl,by omega,hX⟩
   rintro R3 ⟨wi,Y1⟩ ⟨w,hwi,hwn,hY1⟩ hR3
   simp only at hwi hY1
   conv=>cbv
   split
   ·rename_i hc
    have hw:w<n:=by have:=ZE hA rfl (Zl hA hfl') hc;omega
    have hws':A.iAdd wi 1=wi+1:=Z5 hA _ _
    have hwr:A.inR (A.iAdd wi 1):=Zy hA hws' (by unfold Zj;omega)
    conv=>cbv
    refine Zi hA (λ (z:Int × List PV) s=>{ (s.put (some 10) (.val (.int .i64 z.1))).put (some 7) (.own 0 4 z.2) with tk:=[(A.nLen z.2,35)] }) (λ z=>∃m:Nat,z.1=((5*m:Nat):Int)/\m<=3/\z.2=Zq (M.take (j*(3*n)+(3*w+m)))) (λ z=>(15 - z.1).toNat) (0,Y1) ?_ ?_ ?_
    ·conv=>cbv
     exact Zk (by repeat (first | refine Zv ?_ | refine ZH ?_ | refine Za6 ?_ | refine Zbn ?_ | exact Z9))
    ·exact ⟨0,rfl,by omega,hY1⟩
    rintro R4 ⟨h,Z⟩ ⟨m,hh,hm,hZ⟩ hR4
    simp only at hh hZ
    conv=>cbv
    split
    ·rename_i hc
     have hm3:m<3:=by have:=leT hA hc;omega
     have hhs:A.iAdd h 5=h+5:=Z5 hA _ _
     have hhr:A.inR (A.iAdd h 5):=Zy hA hhs (by unfold Zj;omega)
     have hnext:A.lApp Z [.agg [.int .i64 d,.int .i64 wi,.int .i64 h,.bool false]]=Zq (M.take (j*(3*n)+(3*w+(m+1)))):=by
      have:=hsnoc _ _ (hat j w m hjL hw hm3)
      rw [hZ,hd,hwi,hh]
      exact this
     have hrm:A.room (A.nLen (A.lApp Z [.agg [.int .i64 d,.int .i64 wi,.int .i64 h,.bool false]])) 32:=hroom _ (by rw [hnext];have:=hel (j*(3*n)+(3*w+(m+1)));omega)
     conv=>cbv
     refine ⟨⟨htk Z,hrm⟩,hhr,hR4 (A.iAdd h 5,A.lApp Z [.agg [.int .i64 d,.int .i64 wi,.int .i64 h,.bool false]]) _ ?_ ?_ ?_⟩
     ·conv=>cbv
      exact Zk
     ·exact ⟨m+1,by show A.iAdd h 5=_;rw [hhs];omega,by omega,hnext⟩
     ·show (15 - A.iAdd h 5).toNat<(15 - h).toNat
      rw [hhs];omega
    ·rename_i hc
     have hm3:m=3:=by have:=leF hA hc;omega
     conv=>cbv
     refine ⟨hwr,hR3 (A.iAdd wi 1,Z) _ ?_ ?_ ?_⟩
     ·conv=>cbv
      exact Zk (by repeat (first | refine Zv ?_ | refine ZH ?_ | refine Za6 ?_ | refine Zbn ?_ | exact Z9))
     ·exact ⟨w+1,by show A.iAdd wi 1=_;rw [hws'];omega,by omega,by show Z=_;rw [hZ,hm3];rfl⟩
     ·show ((n:Int) - A.iAdd wi 1).toNat<((n:Int) - wi).toNat
      rw [hws'];omega
   ·rename_i hc
    have hw:w=n:=by have:=ZK hA rfl (Zl hA hfl') hc;omega
    conv=>cbv
    refine ⟨Zy hA hds (by unfold Zj;omega),hR2 (A.iAdd d 10,Y1) _ ?_ ?_ ?_⟩
    ·conv=>cbv
     exact Zk (by repeat (first | refine Zv ?_ | refine ZH ?_ | refine Za6 ?_ | refine Zbn ?_ | exact Z9))
    ·refine ⟨j+1,by show A.iAdd d 10=_;rw [hds];omega,by omega,?_⟩
     show Y1=_
     rw [hY1,hw,Zzi,Z0h]
    ·show (L+10 - A.iAdd d 10).toNat<(L+10 - d).toNat
     rw [hds];omega
  ·rename_i hc
   have hdL:=leF hA hc
   have hj2:j=(L / 10+1).toNat:=by omega
   rw [hj2] at hX
   conv=>cbv
   cases f8 with
   | false =>
    have e:X=Zq M:=by rw [hX,Zyl (by rw [hml2];simp)]
    conv=>cbv
    rw [<-hq,e]
   | true =>
    have e:A.lApp X [.agg [.int .i64 0,.int .i64 0,.int .i64 0,.bool true]]=Zq M:=by
     have:=hsnoc _ _ (hlast rfl)
     rw [hX]
     refine this.trans ?_
     rw [Zyl (by rw [hml2];simp)]
    have hrm:A.room (A.nLen (A.lApp X [.agg [.int .i64 0,.int .i64 0,.int .i64 0,.bool true]])) 32:=hroom _ (by rw [e];simp [Zq];omega)
    conv=>cbv
    refine ⟨⟨htk X,hrm⟩,?_⟩
    rw [<-hq,<-e]
 ·have hml:ZC t f=[]:=by rw [ZC,if_neg (hck▸h0)]
  rw [hml,<-hck]
  rw [<-hck] at hchk
  refine Zc.le (p:=.tup [.list 0 [],.int .i64 ck]) (args':=[Zn t,Zx f]) ?_ (.cons (.refl _) (.cons (.refl _) .nil)) (.tup _ _ rfl λ i x y hx hy=>?_)
  ·refine Zb (clo:=λ _=>false) (rows:=false) Zg Tryz.func144 rfl (enters_of Tryz.func144 (by kernel_rfl) rfl) (λ A q P Y hr hA hq=>?_)
   obtain ⟨ss,cs,ws,ms,ks,nv,hss,hcs,hws,hms,hks,hnv,htab⟩:=Qd t
   rw [htab] at hchk ⊢
   obtain ⟨f1,f2,f3,f4,f5,⟨f6,f7⟩,f8⟩:=f
   obtain ⟨fl,hfl⟩:∃fl,fl=Zd f5:=⟨_,rfl⟩
   rw [Zs _ hfl] at hchk ⊢
   simp only at hchk ⊢
   conv=>cbv
   refine Za hA (hchk) ?_
   conv=>cbv
   split
   rotate_left
   ·rename_i hc
    cases ((h0 (neF hA hc)))
   conv=>cbv
   exact hq
  ·match i,hx,hy with
   | 0,hx,hy=>simp at hx hy;subst hx hy;exact .nil _ _
   | 1,hx,hy=>simp at hx hy;subst hx hy;exact .refl _
   | i+2,hx,hy=>simp at hx
instance (a b:Cell):Decidable (ZM a b):=by unfold ZM;infer_instance
def Ziv (s:List Zr) (o:Option Zr) (b i:Int):Prop:=match o with
 | none=>b=-1
 | some d=>0<=b/\b<i/\s[b.toNat]?=some d
set_option maxHeartbeats 4000000 in
theorem ZuT (s:List Zr) (m:Int):Zc Tryz.prog 303 [ZD s,.int .i64 m] (ZsS s m):=by
 refine Zb (clo:=λ _=>false) (rows:=false) Zg Tryz.func303 rfl (enters_of Tryz.func303 (by kernel_rfl) rfl) (λ A q P Y hr hA hq=>?_)
 obtain ⟨xs,hxs⟩:∃xs,xs=Zz s:=⟨_,rfl⟩
 have hxl:xs.length=s.length:=by rw [hxs];simp [Zz]
 have hlen:s.length<=9223372036854775807:=by
  have:=(Qz.cell (show Qz [.agg [_]] from hr.mem (p:=ZD s) (by simp)) (c:=.list 3 (Zz s)) (by simp)).len
  rw [<-hxs,hxl] at this;exact this
 rw [ZB hxs]
 conv=>cbv
 refine Zi hA (λ (y:Int × Int) s=>(s.put (some 7) (.val (.int .i64 y.1))).put (some 6) (.val (.int .i64 y.2)))
  (λ y=>0<=y.1/\y.1<=s.length/\Ziv s ((s.take y.1.toNat).foldl (QQ m) none) y.2 y.1) (λ y=>(s.length - y.1).toNat) (0,-1) ?_ ?_ ?_
 ·conv=>cbv
  exact Zk
 ·exact ⟨Zyk _,by omega,rfl⟩
 rintro R ⟨i,b⟩ ⟨hi0,hi1,hi2⟩ hR
 simp only at hi0 hi1 hi2
 conv=>cbv
 split
 ·rename_i hc
  have hi:i<s.length:=ZE hA rfl (Zl hA hxl) hc
  conv=>cbv
  refine ⟨Zm hA (by kernel_rfl),?_⟩
  refine Yg hA hxs hi0 hi (λ x v hx hv=>?_)
  have ht:(s.take (i+1).toNat).foldl (QQ m) none=QQ m ((s.take i.toNat).foldl (QQ m) none) x:=by
   rw [Zo hi0 hx,Zkx]
  generalize (s.take i.toNat).foldl (QQ m) none=o at hi2 ht
  have his:A.iAdd i 1=i+1:=Z5 hA _ _
  have hir:A.inR (A.iAdd i 1):=Zy hA his (by unfold Zj;omega)
  have him:((s.length:Int) - A.iAdd i 1).toNat<(s.length - i).toNat:=by rw [his];omega
  have hnx:∀b',Ziv s (QQ m o x) b' (i+1)->0<=A.iAdd i 1/\A.iAdd i 1<=s.length/\Ziv s ((s.take (A.iAdd i 1).toNat).foldl (QQ m) none) b' (A.iAdd i 1):=λ b' h=>by
   rw [his,ht];exact ⟨by omega,by omega,h⟩
  have hgo:(∀d,o=some d->d.From<=x.From)->x.From<=m->Ziv s (QQ m o x) i (i+1):=λ h1 h2=>by
   have:QQ m o x=some x:=by
    unfold QQ
    rw [if_pos h2]
    cases o with
    | none=>rfl
    | some d=>simp only;rw [if_pos (h1 d rfl)]
   rw [this]
   exact ⟨hi0,by omega,hx⟩
  have hstay:m<x.From\/(∃d,o=some d/\x.From<d.From)->Ziv s (QQ m o x) b (i+1):=λ h=>by
   have:QQ m o x=o:=by
    unfold QQ
    split
    ·rcases h with h | ⟨d,rfl,h⟩
     ·omega
     ·simp only;rw [if_neg (by omega)]
    ·rfl
   rw [this]
   cases o with
   | none=>exact hi2
   | some d=>exact ⟨hi2.1,by have:=hi2.2.1;omega,hi2.2.2⟩
  have hxx:=hx
  obtain ⟨x1,x2,x3⟩:=x
  simp only at hv hgo hstay
  conv=>cbv
  split
  rotate_left
  ·rename_i hc
   have g1:=leF hA hc
   conv=>cbv
   exact ⟨hir,hR (A.iAdd i 1,b) _ (by (conv=>cbv);exact Zk) (hnx _ (hstay (.inl g1))) him⟩
  rename_i hc
  have g1:=leT hA hc
  conv=>cbv
  split
  ·rename_i hc
   have g2:=ltT hA hc
   have ho:o=none:=by
    cases o with
    | none=>rfl
    | some d=>have:=hi2.1;omega
   conv=>cbv
   exact ⟨hir,hR (A.iAdd i 1,i) _ (by (conv=>cbv);exact Zk) (hnx _ (hgo (λ d h=>by rw [ho] at h;cases h) g1)) him⟩
  ·rename_i hc
   have g2:=ltF hA hc
   obtain ⟨d,ho⟩:∃d,o=some d:=by
    cases o with
    | none=>have hb:b=-1:=hi2;omega
    | some d=>exact ⟨d,rfl⟩
   rw [ho] at hi2
   conv=>cbv
   refine Yg hA hxs hi0 hi (λ z w hz hw=>?_)
   rw [hxx] at hz
   cases hz
   conv=>cbv
   refine Yg hA hxs hi2.1 (by have:=hi2.2.1;omega) (λ z w hz hw=>?_)
   rw [hi2.2.2] at hz
   cases hz
   obtain ⟨d1,d2,d3⟩:=d
   conv=>cbv
   split
   ·rename_i hc
    have g3:=leT hA hc
    conv=>cbv
    exact ⟨hir,hR (A.iAdd i 1,i) _ (by (conv=>cbv);exact Zk) (hnx _ (hgo (λ d h=>by rw [ho] at h;cases h;exact g3) g1)) him⟩
   ·rename_i hc
    have g3:=leF hA hc
    conv=>cbv
    exact ⟨hir,hR (A.iAdd i 1,b) _ (by (conv=>cbv);exact Zk) (hnx _ (hstay (.inr ⟨_,ho,g3⟩))) him⟩
 ·rename_i hc
  have hi:i=s.length:=by have:=ZK hA rfl (Zl hA hxl) hc;omega
  rw [show s.take i.toNat=s by rw [Zyl (by omega)]] at hi2
  have h:Ziv s (inS s m) b i:=hi2
  clear hi2
  unfold ZsS at hq
  cases ho:inS s m with
  | none =>
   rw [ho] at h hq
   have hb:b=-1:=h
   conv=>cbv
   split
   rotate_left
   ·rename_i hc
    have:=ltF hA hc;omega
   conv=>cbv
   exact hq
  | some d =>
   rw [ho] at h hq
   obtain ⟨h1,h2,h3⟩:=h
   conv=>cbv
   split
   ·rename_i hc
    have:=ltT hA hc;omega
   conv=>cbv
   refine Yg hA hxs h1 (by omega) (λ z w hz hw=>?_)
   rw [h3] at hz
   cases hz
   simp only at hq
   rw [ZbE d hw] at hq
   obtain ⟨d1,d2,d3⟩:=d
   conv=>cbv
   exact hq
def Zm4 (s:List Zr):Bool:=(s.all λ c=>decide (c.Modes.length<=10))&&decide (s.length<=10)
theorem Zto (s:List Zr):Zc Tryz.prog 75 [ZD s] (.bool (Zm4 s)):=by
 refine Zb (clo:=λ _=>false) (rows:=false) Zg Tryz.func75 rfl (enters_of Tryz.func75 (by kernel_rfl) rfl) (λ A q P Y hr hA hq=>?_)
 obtain ⟨xs,hxs⟩:∃xs,xs=Zz s:=⟨_,rfl⟩
 have hxl:xs.length=s.length:=by rw [hxs];simp [Zz]
 have hlen:s.length<=9223372036854775807:=by
  have:=(Qz.cell (show Qz [.agg [_]] from hr.mem (p:=ZD s) (by simp)) (c:=.list 3 (Zz s)) (by simp)).len
  rw [<-hxs,hxl] at this;exact this
 rw [ZB hxs]
 have hbad:¬(s.all λ c=>decide (c.Modes.length<=10))=true->PV.bool false=q:=λ h=>by rw [<-hq];unfold Zm4;rw [Zzh.2 h];rfl
 have hgood:(s.all λ c=>decide (c.Modes.length<=10))=true->PV.bool (decide (s.length<=10))=q:=λ h=>by rw [<-hq];unfold Zm4;rw [h];rfl
 clear hq
 conv=>cbv
 refine Zi hA (λ (i:Int) s=>s.put (some 3) (.val (.int .i64 i))) (λ i=>0<=i/\i<=(s.length:Int)/\(λ i=>∀x∈s.take i.toNat,x.Modes.length<=10) i) (λ i=>((s.length:Int) - i).toNat) 0 ?_ ?_ ?_
 ·conv=>cbv
  exact Zk
 ·exact ⟨Zyk _,by omega,by simp⟩
 rintro R i ⟨hi0,hi1,hi2⟩ hRi
 conv=>cbv
 split
 · rename_i hc
   have hi:i<(s.length:Int):=ZE hA rfl (Zl hA hxl) hc
   have his:A.iAdd i 1=i+1:=Z5 hA _ _
   have hir:A.inR (A.iAdd i 1):=Zy hA his (by unfold Zj;omega)
   have him:((s.length:Int) - A.iAdd i 1).toNat<((s.length:Int) - i).toNat:=by rw [his];omega
   have hin:(λ i=>∀x∈s.take i.toNat,x.Modes.length<=10) (i+1)->0<=A.iAdd i 1/\A.iAdd i 1<=(s.length:Int)/\(λ i=>∀x∈s.take i.toNat,x.Modes.length<=10) (A.iAdd i 1):=λ h=>by rw [his];exact ⟨by omega,by omega,h⟩
   simp only at hin
   conv=>cbv
   refine Yg hA hxs hi0 hi (λ x v hx hv=>?_)
   have ht:=Zo hi0 hx
   have hvl:v.length=x.Modes.length:=by rw [hv];simp [Zd]
   have hm:=Zyb hx
   obtain ⟨x1,x2,x3⟩:=x
   simp only at hvl
   conv=>cbv
   split
   ·rename_i hc
    have g1:=ZE hA rfl (Zl hA hvl) hc
    conv=>cbv
    exact hbad (λ h=>by have:=Zym.1 h _ hm;simp at this;omega)
   ·rename_i hc
    have g1:=ZK hA rfl (Zl hA hvl) hc
    conv=>cbv
    exact ⟨hir,hRi (A.iAdd i 1) _ (by (conv=>cbv);exact Zk) (hin (ZS ht hi2 (by simp only;omega))) him⟩
 rename_i hc
 have hi:i=(s.length:Int):=by have:=ZK hA rfl (Zl hA hxl) hc;omega
 conv=>cbv
 have h1:=hgood (Zym.2 λ x hx=>by simpa using Q7 hi hi2 x hx)
 rw [<-h1]
 congr 1
 subst hA
 show decide ((xs.length:Int)<=10)=_
 rw [hxl]
 rw [Z0e]
 omega
def Zx7 (w:Way):Bool:=decide (w.Legs.length<=10)&&w.Legs.all λ x=>decide (x.Minutes.length<=40)
def Zx8 (k:Y3):Bool:=decide (k.Curfews.length<=20)&&k.Curfews.all λ l=>decide (l.length<=40)
def ZiV (t:Zh):Bool :=
 decide (t.Sectors.length<=12)&&decide (t.Configs.length<=8)&&decide (t.Ways.length<=8)&&decide (t.Modes.length<=8)&&decide (t.Kinds.length<=6)&&t.Ways.all Zx7&&t.Kinds.all Zx8
theorem Ziu {t:Zh}:ZiV t=true↔t.Sectors.length<=12/\t.Configs.length<=8/\t.Ways.length<=8/\t.Modes.length<=8/\t.Kinds.length<=6/\(∀w∈t.Ways,w.Legs.length<=10/\∀x∈w.Legs,x.Minutes.length<=40)/\∀k∈t.Kinds,k.Curfews.length<=20/\∀x∈k.Curfews,x.length<=40:=by
 unfold ZiV Zx7 Zx8
 simp only [Zyi,Zyf,Zym,and_assoc]
theorem Zm5 (l:List Y2) {xs:List PV} (hx:xs=Z4 l):Zc Tryz.prog 195 [.list 2 xs] (.bool (decide (l.length<=40))):=by
 refine Zb (clo:=λ _=>false) (rows:=false) Zg Tryz.func195 rfl (enters_of Tryz.func195 (by kernel_rfl) rfl) (λ A q P Y hr hA hq=>?_)
 have hxl:xs.length=l.length:=by rw [hx];simp [Z4]
 conv=>cbv
 rw [<-hq]
 congr 1
 subst hA
 show decide ((xs.length:Int)<=40)=_
 rw [hxl,Z0e]
 omega
set_option maxRecDepth 40000 in
set_option maxHeartbeats 8000000 in
theorem Zjg (t:Zh):Zc Tryz.prog 143 [Zn t] (.bool (ZiV t)):=by
 refine Zb (clo:=λ _=>false) (rows:=false) Zg Tryz.func143 rfl (enters_of Tryz.func143 (by kernel_rfl) rfl) (λ A q P Y hr hA hq=>?_)
 have hbad:¬ZiV t=true->PV.bool false=q:=λ h=>by rw [<-hq,Zzh.2 h]
 have hK:=(Ziu (t:=t)).1
 have hK2:=(Ziu (t:=t)).2
 generalize ZiV t=kb at hbad hK hK2 hq
 obtain ⟨ss,cs,ws,ms,ks,nv,hss,hcs,hws,hms,hks,hnv,htab⟩:=Qd t
 rw [htab]
 have hsl:ss.length=t.Sectors.length:=by rw [hss];simp [ZI]
 have hcl:cs.length=t.Configs.length:=by rw [hcs];simp [Qh]
 have hwl:ws.length=t.Ways.length:=by rw [hws];simp [Q3]
 have hml:ms.length=t.Modes.length:=by rw [hms];simp [Z0]
 have hkl:ks.length=t.Kinds.length:=by rw [hks];simp [ZY]
 conv=>cbv
 split
 ·rename_i hc
  conv=>cbv
  exact hbad (λ h=>by have:=hK h;have:=ZE hA rfl (Zl hA hsl) hc;omega)
 rename_i g1;replace g1:=ZK hA rfl (Zl hA hsl) g1
 conv=>cbv
 split
 ·rename_i hc
  conv=>cbv
  exact hbad (λ h=>by have:=hK h;have:=ZE hA rfl (Zl hA hcl) hc;omega)
 rename_i g2;replace g2:=ZK hA rfl (Zl hA hcl) g2
 conv=>cbv
 split
 ·rename_i hc
  conv=>cbv
  exact hbad (λ h=>by have:=hK h;have:=ZE hA rfl (Zl hA hwl) hc;omega)
 rename_i g3;replace g3:=ZK hA rfl (Zl hA hwl) g3
 conv=>cbv
 split
 ·rename_i hc
  conv=>cbv
  exact hbad (λ h=>by have:=hK h;have:=ZE hA rfl (Zl hA hml) hc;omega)
 rename_i g4;replace g4:=ZK hA rfl (Zl hA hml) g4
 conv=>cbv
 split
 ·rename_i hc
  conv=>cbv
  exact hbad (λ h=>by have:=hK h;have:=ZE hA rfl (Zl hA hkl) hc;omega)
 rename_i g5;replace g5:=ZK hA rfl (Zl hA hkl) g5
 conv=>cbv
 refine Zi hA (λ (i:Int) s=>s.put (some 3) (.val (.int .i64 i))) (λ i=>0<=i/\i<=(t.Ways.length:Int)/\(λ i=>∀w∈t.Ways.take i.toNat,w.Legs.length<=10/\∀x∈w.Legs,x.Minutes.length<=40) i) (λ i=>((t.Ways.length:Int) - i).toNat) 0 ?_ ?_ ?_
 ·conv=>cbv
  exact Zk
 ·exact ⟨Zyk _,by omega,by simp⟩
 rintro R i ⟨hi0,hi1,hi2⟩ hRi
 conv=>cbv
 split
 · rename_i hc
   have hi:i<(t.Ways.length:Int):=ZE hA rfl (Zl hA hwl) hc
   have his:A.iAdd i 1=i+1:=Z5 hA _ _
   have hir:A.inR (A.iAdd i 1):=Zy hA his (by unfold Zj;omega)
   have him:((t.Ways.length:Int) - A.iAdd i 1).toNat<((t.Ways.length:Int) - i).toNat:=by rw [his];omega
   have hin:(λ i=>∀w∈t.Ways.take i.toNat,w.Legs.length<=10/\∀x∈w.Legs,x.Minutes.length<=40) (i+1)->0<=A.iAdd i 1/\A.iAdd i 1<=(t.Ways.length:Int)/\(λ i=>∀w∈t.Ways.take i.toNat,w.Legs.length<=10/\∀x∈w.Legs,x.Minutes.length<=40) (A.iAdd i 1):=λ h=>by rw [his];exact ⟨by omega,by omega,h⟩
   simp only at hin
   conv=>cbv
   refine Ym hA hws hi0 hi (λ w v hw hv=>?_)
   have ht:=Zo hi0 hw
   have hm:=Zyb hw
   have hvl:v.length=w.Legs.length:=by rw [hv];simp [Qp]
   have hwx:=hw
   have hmw:=λ (h:kb=true)=>(hK h).2.2.2.2.2.1 w hm
   have hnx:w.Legs.length<=10->(∀x∈w.Legs,x.Minutes.length<=40)->∀w∈t.Ways.take (i+1).toNat,w.Legs.length<=10/\∀x∈w.Legs,x.Minutes.length<=40:=λ h1 h2=>ZS ht hi2 ⟨h1,h2⟩
   clear hi2 ht hm
   obtain ⟨w1,w2,w3⟩:=w
   simp only at hvl hmw hnx hv
   conv=>cbv
   split
   ·rename_i hc
    conv=>cbv
    exact hbad (λ h=>by have:=hmw h;have:=ZE hA rfl (Zl hA hvl) hc;omega)
   rename_i g6;replace g6:=ZK hA rfl (Zl hA hvl) g6
   conv=>cbv
   refine Zi hA (λ (k:Int) s=>s.put (some 4) (.val (.int .i64 k))) (λ k=>0<=k/\k<=w3.length/\∀x∈w3.take k.toNat,x.Minutes.length<=40) (λ k=>(w3.length - k).toNat) 0 ?_ ?_ ?_
   ·conv=>cbv
    exact Zk
   ·exact ⟨Zyk _,by omega,by simp⟩
   rintro R3 k ⟨hk0,hk1,hk2⟩ hR3
   conv=>cbv
   refine Ym hA hws hi0 hi (λ z u hz hu=>?_)
   rw [hwx] at hz
   cases hz
   have hu':u=v:=by rw [hu,hv]
   subst hu'
   conv=>cbv
   split
   rotate_left
   ·rename_i hc
    have hge:(w3.length:Int)<=k:=ZK hA rfl (Zl hA hvl) hc
    rw [Zyl (by omega)] at hk2
    conv=>cbv
    exact ⟨hir,hRi (A.iAdd i 1) _ (by (conv=>cbv);exact Zk) (hin (hnx (by omega) hk2)) him⟩
   rename_i hc
   have hk:k<w3.length:=ZE hA rfl (Zl hA hvl) hc
   have hks':A.iAdd k 1=k+1:=Z5 hA _ _
   have hkr:A.inR (A.iAdd k 1):=Zy hA hks' (by unfold Zj;omega)
   conv=>cbv
   refine Ym hA hws hi0 hi (λ z u' hz hu'=>?_)
   rw [hwx] at hz
   cases hz
   have hu'':u'=u:=by rw [hu',hv]
   subst hu''
   conv=>cbv
   refine Zdl hA hv hk0 hk (λ x y hx hy=>?_)
   have hm2:=Zyb hx
   have htk:=Zo hk0 hx
   have hfew:=Zm5 x.Minutes hy
   by_cases hf:x.Minutes.length<=40
   ·rw [Zyq hf] at hfew
    obtain ⟨x1,x2,x3,x4⟩:=x
    simp only at hf
    conv=>cbv
    refine Za hA (hfew) ?_
    conv=>cbv
    split
    ·rename_i hc
     cases ((nT hA hc))
    conv=>cbv
    refine ⟨hkr,hR3 (A.iAdd k 1) _ ?_ ?_ ?_⟩
    ·conv=>cbv
     exact Zk
    ·rw [hks']
     exact ⟨by omega,by omega,ZS htk hk2 hf⟩
    ·rw [hks'];omega
   ·rw [Zyr hf] at hfew
    have hf2:=hbad (λ h=>hf ((hmw h).2 _ hm2))
    obtain ⟨x1,x2,x3,x4⟩:=x
    conv=>cbv
    refine Za hA (hfew) ?_
    conv=>cbv
    split
    rotate_left
    ·rename_i hc
     cases ((nF hA hc))
    conv=>cbv
    exact hf2
 rename_i hc
 have hi:i=(t.Ways.length:Int):=by have:=ZK hA rfl (Zl hA hwl) hc;omega
 conv=>cbv
 have hW:=Q7 hi hi2
 clear hi2 hi hi0 hi1
 refine Zi hA (λ (i:Int) s=>s.put (some 5) (.val (.int .i64 i))) (λ i=>0<=i/\i<=(t.Kinds.length:Int)/\(λ i=>∀w∈t.Kinds.take i.toNat,w.Curfews.length<=20/\∀x∈w.Curfews,x.length<=40) i) (λ i=>((t.Kinds.length:Int) - i).toNat) 0 ?_ ?_ ?_
 ·conv=>cbv
  exact Zk
 ·exact ⟨Zyk _,by omega,by simp⟩
 rintro R i ⟨hi0,hi1,hi2⟩ hRi
 conv=>cbv
 split
 · rename_i hc
   have hi:i<(t.Kinds.length:Int):=ZE hA rfl (Zl hA hkl) hc
   have his:A.iAdd i 1=i+1:=Z5 hA _ _
   have hir:A.inR (A.iAdd i 1):=Zy hA his (by unfold Zj;omega)
   have him:((t.Kinds.length:Int) - A.iAdd i 1).toNat<((t.Kinds.length:Int) - i).toNat:=by rw [his];omega
   have hin:(λ i=>∀w∈t.Kinds.take i.toNat,w.Curfews.length<=20/\∀x∈w.Curfews,x.length<=40) (i+1)->0<=A.iAdd i 1/\A.iAdd i 1<=(t.Kinds.length:Int)/\(λ i=>∀w∈t.Kinds.take i.toNat,w.Curfews.length<=20/\∀x∈w.Curfews,x.length<=40) (A.iAdd i 1):=λ h=>by rw [his];exact ⟨by omega,by omega,h⟩
   simp only at hin
   conv=>cbv
   refine Q6 hA hks hi0 hi (λ w v hw hv=>?_)
   have ht:=Zo hi0 hw
   have hm:=Zyb hw
   have hvl:v.length=w.Curfews.length:=by rw [hv];simp [Z3]
   have hwx:=hw
   have hmw:=λ (h:kb=true)=>(hK h).2.2.2.2.2.2 w hm
   have hnx:w.Curfews.length<=20->(∀x∈w.Curfews,x.length<=40)->∀w∈t.Kinds.take (i+1).toNat,w.Curfews.length<=20/\∀x∈w.Curfews,x.length<=40:=λ h1 h2=>ZS ht hi2 ⟨h1,h2⟩
   clear hi2 ht hm
   obtain ⟨w1,w2,w4,w5,w6,w3⟩:=w
   simp only at hvl hmw hnx hv
   conv=>cbv
   split
   ·rename_i hc
    conv=>cbv
    exact hbad (λ h=>by have:=hmw h;have:=ZE hA rfl (Zl hA hvl) hc;omega)
   rename_i g6;replace g6:=ZK hA rfl (Zl hA hvl) g6
   conv=>cbv
   refine Zi hA (λ (k:Int) s=>s.put (some 6) (.val (.int .i64 k))) (λ k=>0<=k/\k<=w3.length/\∀x∈w3.take k.toNat,x.length<=40) (λ k=>(w3.length - k).toNat) 0 ?_ ?_ ?_
   ·conv=>cbv
    exact Zk
   ·exact ⟨Zyk _,by omega,by simp⟩
   rintro R3 k ⟨hk0,hk1,hk2⟩ hR3
   conv=>cbv
   refine Q6 hA hks hi0 hi (λ z u hz hu=>?_)
   rw [hwx] at hz
   cases hz
   have hu':u=v:=by rw [hu,hv]
   subst hu'
   conv=>cbv
   split
   rotate_left
   ·rename_i hc
    have hge:(w3.length:Int)<=k:=ZK hA rfl (Zl hA hvl) hc
    rw [Zyl (by omega)] at hk2
    conv=>cbv
    exact ⟨hir,hRi (A.iAdd i 1) _ (by (conv=>cbv);exact Zk) (hin (hnx (by omega) hk2)) him⟩
   rename_i hc
   have hk:k<w3.length:=ZE hA rfl (Zl hA hvl) hc
   have hks':A.iAdd k 1=k+1:=Z5 hA _ _
   have hkr:A.inR (A.iAdd k 1):=Zy hA hks' (by unfold Zj;omega)
   conv=>cbv
   refine Q6 hA hks hi0 hi (λ z u' hz hu'=>?_)
   rw [hwx] at hz
   cases hz
   have hu'':u'=u:=by rw [hu',hv]
   subst hu''
   conv=>cbv
   refine ZdP hA hv hk0 hk (λ x y hx hy=>?_)
   have hm2:=Zyb hx
   have htk:=Zo hk0 hx
   have hfew:=Zm5 x hy
   by_cases hf:x.length<=40
   ·rw [Zyq hf] at hfew
    conv=>cbv
    refine Za hA (hfew) ?_
    conv=>cbv
    split
    ·rename_i hc
     cases ((nT hA hc))
    conv=>cbv
    refine ⟨hkr,hR3 (A.iAdd k 1) _ ?_ ?_ ?_⟩
    ·conv=>cbv
     exact Zk
    ·rw [hks']
     exact ⟨by omega,by omega,ZS htk hk2 hf⟩
    ·rw [hks'];omega
   ·rw [Zyr hf] at hfew
    have hf2:=hbad (λ h=>hf ((hmw h).2 _ hm2))
    conv=>cbv
    refine Za hA (hfew) ?_
    conv=>cbv
    split
    rotate_left
    ·rename_i hc
     cases ((nF hA hc))
    conv=>cbv
    exact hf2
 rename_i hc
 have hi:i=(t.Kinds.length:Int):=by have:=ZK hA rfl (Zl hA hkl) hc;omega
 conv=>cbv
 rw [<-hq,hK2 ⟨by omega,by omega,by omega,by omega,by omega,hW,Q7 hi hi2⟩]
def ZkL (t:Zh) (f:Flight) (o:Opt):Bool:=!decide (ZN t f o=0) || decide (Za7 t f o<=150)
def ZbH (t:Zh) (f:Flight):Bool:=ZiV t&&Zua f&&(decide (Z8 t f≠0) || ((ZC t f).all (ZkL t f)&&decide ((ZC t f).length<=40)))
set_option maxRecDepth 4000 in
set_option maxHeartbeats 1000000 in
theorem ZpP (t:Zh) (f:Flight):Zc Tryz.prog 74 [Zn t,Zx f] (.bool (ZbH t f)):=by
 have hmeas:=Zf8 t f
 have hft:=Zjg t
 have hff:=Zs5 f
 have hal:=λ o=>Zpd t f o 150
 have hE:ZbH t f=(ZiV t&&Zua f&&(decide (Z8 t f≠0) || ((ZC t f).all (ZkL t f)&&decide ((ZC t f).length<=40)))):=rfl
 have hal:∀o,Zc Tryz.prog 145 [Zn t,Zx f,Z2 o,.int .i64 150] (.bool (ZkL t f o)):=hal
 have hml:=YF t f
 generalize ZbH t f=lt at hE
 generalize ZkL t f=g at hal hE
 generalize ZC t f=M at hmeas hE hml
 generalize Z8 t f=ck at hmeas hE
 generalize ZiV t=b1 at hft hE
 generalize Zua f=b2 at hff hE
 refine Zb (clo:=λ _=>false) (rows:=false) Zg Tryz.func74 rfl (enters_of Tryz.func74 (by kernel_rfl) rfl) (λ A q P Y hr hA hq=>?_)
 obtain ⟨ss,cs,ws,ms,ks,nv,hss,hcs,hws,hms,hks,hnv,htab⟩:=Qd t
 rw [htab] at hmeas hal hft ⊢
 obtain ⟨f1,f2,f3,f4,f5,⟨f6,f7⟩,f8⟩:=f
 obtain ⟨fl,hfl⟩:∃fl,fl=Zd f5:=⟨_,rfl⟩
 rw [Zs _ hfl] at hmeas hal hff ⊢
 obtain ⟨xs,hxs⟩:∃xs,xs=Zq M:=⟨_,rfl⟩
 rw [<-hxs] at hmeas
 have hxl:xs.length=M.length:=by rw [hxs];simp [Zq]
 simp only at hmeas hal hff ⊢
 have hgood:∀n,lt=n->PV.bool n=q:=λ n h=>by rw [<-hq,h]
 refine Zf (λ R hR=>?_)
 conv=>cbv
 refine hR _ ?_
 clear hR
 refine Zf (λ R hR=>?_)
 conv=>cbv
 refine Za hA (hft) ?_
 conv=>cbv
 cases b1
 ·conv=>cbv
  split
  rotate_left
  ·rename_i hc
   cases ((show False by have h9:false=true:=YP hA hc;cases h9))
  conv=>cbv
  exact hgood _ (by rw [hE];rfl)
 conv=>cbv
 split
 ·rename_i hc
  cases ((show False by have h9:true=false:=Yy hA hc;cases h9))
 conv=>cbv
 refine Za hA (hff) ?_
 conv=>cbv
 cases b2
 ·conv=>cbv
  split
  rotate_left
  ·rename_i hc
   cases ((show False by have h9:false=true:=YP hA hc;cases h9))
  conv=>cbv
  exact hgood _ (by rw [hE];rfl)
 conv=>cbv
 split
 ·rename_i hc
  cases ((show False by have h9:true=false:=Yy hA hc;cases h9))
 conv=>cbv
 have hE:lt=(decide (ck≠0) || (M.all g&&decide (M.length<=40))):=by rw [hE];simp
 refine hR _ ?_
 clear hR
 refine Zf (λ R hR=>?_)
 conv=>cbv
 refine Za hA (hmeas) ?_
 conv=>cbv
 refine hR _ ?_
 clear hR
 refine Zf (λ R hR=>?_)
 conv=>cbv
 split
 ·rename_i hc
  have h0:ck≠0:=neT hA hc
  conv=>cbv
  exact hgood _ (by rw [hE,Zyq h0];rfl)
 rename_i hc
 have h0:ck=0:=neF hA hc
 have hE:lt=(M.all g&&decide (M.length<=40)):=by rw [hE,h0];simp
 conv=>cbv
 refine hR _ ?_
 clear hR
 refine Zf (λ R hR=>?_)
 refine Zf (λ R0 hR0=>?_)
 conv=>cbv
 refine hR0 _ ?_
 clear hR0
 refine Zi hA (λ (i:Int) s=>s.put (some 7) (.val (.int .i64 i))) (λ i=>0<=i/\i<=M.length/\(M.take i.toNat).all g=true) (λ i=>(M.length - i).toNat) 0 ?_ ?_ ?_
 ·conv=>cbv
  exact Zk
 ·exact ⟨Zyk _,by omega,rfl⟩
 rintro R1 i ⟨hi0,hi1,hinv⟩ hR1
 conv=>cbv
 split
 rotate_left
 ·rename_i hc
  have hge:=ZK hA rfl (Zl hA hxl) hc
  rw [Zyl (by omega)] at hinv
  rw [hinv,ZyL] at hE
  have hxn:A.lLen xs=(M.length:Int):=Zl hA hxl
  have hle:A.iLe (A.lLen xs) 40=decide (M.length<=40):=by
   rw [hxn];subst hA
   show decide ((M.length:Int)<=40)=_
   rw [Z0e];omega
  conv=>cbv
  refine hR _ ?_
  conv=>cbv
  exact (congrArg PV.bool hle).trans (hgood _ hE)
 rename_i hc
 have hi:i<M.length:=ZE hA rfl (Zl hA hxl) hc
 have his:A.iAdd i 1=i+1:=Z5 hA _ _
 have hir:A.inR (A.iAdd i 1):=Zy hA his (by unfold Zj;omega)
 conv=>cbv
 refine ⟨Zm hA (by kernel_rfl),?_⟩
 refine Yn hA hxs hi0 hi (λ o ho=>?_)
 have hcall:=hal o
 obtain ⟨bb,hbb⟩:∃bb,bb=g o:=⟨_,rfl⟩
 rw [<-hbb] at hcall
 obtain ⟨o1,o2,o3,o4⟩:=o
 conv=>cbv
 refine Za hA (hcall) ?_
 conv=>cbv
 cases bb
 ·have hall:M.all g=false:=by
   rw [Zzh]
   intro h
   have:=Zym.1 h _ (Zyb ho)
   rw [<-hbb] at this
   cases this
  rw [hall,Bool.false_and] at hE
  conv=>cbv
  split
  rotate_left
  ·rename_i hc
   cases ((show False by have h9:false=true:=YP hA hc;cases h9))
  conv=>cbv
  exact hgood _ hE
 ·conv=>cbv
  split
  ·rename_i hc
   cases ((show False by have h9:true=false:=Yy hA hc;cases h9))
  conv=>cbv
  refine ⟨hir,hR1 (A.iAdd i 1) _ ?_ ⟨by show 0<=A.iAdd i 1;omega,by show A.iAdd i 1<=_;omega,?_⟩ (by show (M.length - A.iAdd i 1).toNat < _;rw [his];omega)⟩
  ·conv=>cbv
   exact Zk
  ·show (M.take (A.iAdd i 1).toNat).all g=true
   rw [his,show (i+1).toNat=i.toNat+1 by omega,ZyD,ho,Z0q,hinv]
   simp [<-hbb]
theorem Zcp {t:Zh} {f:Flight} (h:ZbH t f=true):ZgM t/\∀o∈ZZ t f,o.Cancel=true\/(ZX t f o).length<=150:=by
 unfold ZbH at h
 simp only [Zyi] at h
 obtain ⟨⟨h1,_⟩,h3⟩:=h
 refine ⟨λ w hw x hx=>?_,λ o ho=>?_⟩
 ·have:=((Ziu.1 h1).2.2.2.2.2.1 w hw).2 x hx
  omega
 ·have hm:=(ZyB.1 ho).1
  have hck:=(ZfR ho).1
  rw [Zyr (by simp [hck]),ZzY,Zyi,Zym] at h3
  have h4:=h3.1 o hm
  unfold ZkL at h4
  right
  rcases Zft t f o with ⟨_,e,_⟩ | ⟨e0,_,_,e,_⟩
  ·rw [e];simp
  ·rw [e0] at h4
   simp at h4
   omega
def Zal (t:Zh) (s:List Zr) (f:Flight):Bool:=ZbH t f&&Zm4 s
set_option maxRecDepth 4000 in
theorem Zdw (t:Zh) (s:List Zr) (f:Flight):Zc Tryz.prog 24 [Zn t,ZD s,Zx f] (.bool (Zal t s f)):=by
 refine Zb (clo:=λ _=>false) (rows:=false) Zg Tryz.func24 rfl (enters_of Tryz.func24 (by kernel_rfl) rfl) (λ A q P Y hr hA hq=>?_)
 have h1:=ZpP t f
 have h2:=Zto s
 have hF:Zal t s f=(ZbH t f&&Zm4 s):=rfl
 rw [hF] at hq
 generalize ZbH t f=b1 at h1 hq
 generalize Zm4 s=b2 at h2 hq
 obtain ⟨ss,cs,ws,ms,ks,nv,hss,hcs,hws,hms,hks,hnv,htab⟩:=Qd t
 rw [htab] at h1 ⊢
 obtain ⟨sc,hsc⟩:∃sc,sc=Zz s:=⟨_,rfl⟩
 rw [ZB hsc] at h2 ⊢
 obtain ⟨f1,f2,f3,f4,f5,⟨f6,f7⟩,f8⟩:=f
 obtain ⟨fl,hfl⟩:∃fl,fl=Zd f5:=⟨_,rfl⟩
 rw [Zs _ hfl] at h1 ⊢
 simp only at h1 ⊢
 conv=>cbv
 refine Za hA (h1) ?_
 conv=>cbv
 cases b1 with
 | false =>
  conv=>cbv
  exact hq
 | true =>
  conv=>cbv
  refine Za hA (h2) ?_
  conv=>cbv
  exact hq
open Go.ChangeShapes
def ZkM (c:Zr):Prop:=okI c.From/\okI c.Config/\ZqX c.Modes/\True
theorem ZuU:Rd Tryz.prog 185 Zaw ZkM :=
 Zav Tryz.underlying185 (by kernel_rfl) (ZA ZaH (ZA ZaH (ZA Zkq ZbB))) λ ⟨a,b,c,()⟩ h=>⟨⟨a,b,c⟩,h,rfl⟩
theorem Ztp:Rd Tryz.prog 70 (λ l=>.list 3 (Zz l)) λ l=>∀x∈l,ZkM x:=ZaP Tryz.underlying70 (by kernel_rfl) (by decide) ZuU
def Zf9 (s:List Zr):Prop:=(∀x∈s,ZkM x)/\True
theorem ZhF:Rd Tryz.prog 72 ZD Zf9 :=
 Zav Tryz.underlying72 (by kernel_rfl) (ZA Ztp ZbB) λ ⟨a,()⟩ h=>⟨a,h,rfl⟩
section
variable {P:Program} {t e:TypeId}
end
end Go.Abs
