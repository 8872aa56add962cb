/- Contracts of the functions, and what they rest on: part 4. -/
import Derived.Test.YtcafjndjnfdnpaaGreatT3
set_option linter.unusedVariables false
set_option linter.unusedSimpArgs false
namespace Go.Abs
open Go.RowKit
def Zbp:Op->Bool
 | .alloc _ | .box .. | .store ..=>true
 | _=>false
def Zsf:Op->Bool
 | .load ..=>true
 | _=>false
def tkW:Op->Bool
 | .call c=>(match c.callee with | .builtin .append=>true | _=>false)
 | _=>false
def Zd2 (rw:ZnU):Op->Bool
 | .makeFunc .. | .makeMap .. | .mapUpdate .. | .range .. | .entryStore .. | .next .. | .mapEntry ..=>false
 | .makeSlice ..=>!rw.rows
 | .call { callee:=.builtin .append,argTypes,.. }=>!rw.at_ argTypes.toList
 | .call { callee:=.builtin .delete,.. }=>false
 | .call { callee:=.builtin .clear,.. }=>false
 | _=>true
def Qi (f:St->Option Res):Prop:=∀st st2 r,st2.ax=st.ax->f st=some r->f st2=some ⟨r.side,r.v,st2⟩/\r.st=st
theorem Zsg (c a b:SV):Qi (Zgu c a b):=by
 intro st st2 r hax h
 unfold Zgu at h ⊢
 split at h
 ·cases h;exact ⟨rfl,rfl⟩
 ·cases h
theorem ZjH (E:Env) (s:TypeId) (x:SV) (f:Nat):Qi (Zbu E s x f):=by
 intro st st2 r hax h
 unfold Zbu at h ⊢
 repeat' split at h
 all_goals first | (cases h;fail) | (cases h;simp_all) | (cases h)
theorem Zqm (E:Env) (t:TypeId) (ps:List (Nat × SV)):Qi (ZfC E t ps):=by
 intro st st2 r hax h
 unfold ZfC at h ⊢
 repeat' split at h
 all_goals first | (cases h;fail) | (cases h;simp_all;done) | (cases h;simp_all;grind) | (cases h)
theorem Zjb (E:Env) (t:TypeId) (n:Nat) (ps:List (Nat × SV)):Qi (ZaS E t n ps):=by
 intro st st2 r hax h
 unfold ZaS at h ⊢
 repeat' split at h
 all_goals first | (cases h;fail) | (cases h;simp_all) | (cases h)
theorem Zlg (E:Env) (t:TypeId) (id off:Nat) (lo hi mx:Option SV):Qi (Zbo E t id off lo hi mx):=by
 intro st st2 r hax h
 unfold Zbo at h ⊢
 repeat' split at h
 all_goals first | (cases h;fail) | (cases h;simp_all) | (cases h)
theorem Zqn (E:Env) (t:TypeId) (x:SV) (lo hi mx:Option SV):Qi (Zec E t x lo hi mx):=by
 intro st st2 r hax h
 unfold Zec at h ⊢
 repeat' split at h
 all_goals first | (cases h;fail) | (cases h;simp_all) | (cases h)
theorem ZjI (E:Env) (t:TypeId) (x i:SV):Qi (Q5 E t x i):=by
 intro st st2 r hax h
 unfold Q5 at h ⊢
 split at h
 ·cases h
 ·split at h
  ·split at h
   ·cases h
   ·rename_i hz
    rw [if_neg hz]
    split at h
    ·cases h;exact ⟨rfl,rfl⟩
    ·cases h;exact ⟨rfl,rfl⟩
    ·rename_i hne _
     split at h
     ·split at h
      ·rename_i he hm
       cases h
       simp [hm]
      ·cases h
     ·cases h
  ·split at h
   ·cases h
   ·rename_i hz
    rw [if_neg hz]
    split at h
    ·cases h;exact ⟨rfl,rfl⟩
    ·cases h;exact ⟨rfl,rfl⟩
    ·cases h
  ·cases h
theorem Zlh (E:Env) (t:TypeId) (id off m len cap:Nat) (lo hi mx:Option SV):Qi (ZbN E t id off m len cap lo hi mx):=by
 intro st st2 r hax h
 unfold ZbN at h ⊢
 repeat' split at h
 all_goals first | (cases h;fail) | (cases h;simp_all;omega) | (cases h;simp_all) | (cases h)
theorem Zqo (E:Env) (t:TypeId) (x i:SV):Qi (ZgV E t x i):=by
 intro st st2 r hax h
 unfold ZgV at h ⊢
 split at h
 ·cases h;exact ⟨rfl,rfl⟩
 ·cases h
theorem Zqp (E:Env) (t:TypeId) (x:SV) (f:Nat):Qi (ZfD E t x f):=by
 intro st st2 r hax h
 unfold ZfD at h ⊢
 repeat' split at h
 all_goals first | (cases h;fail) | (cases h;simp_all) | (cases h)
theorem ZmR (x:SV) (i:Nat):Qi (Zc5 x i):=by
 intro st st2 r hax h
 unfold Zc5 at h ⊢
 repeat' split at h
 all_goals first | (cases h;fail) | (cases h;simp_all) | (cases h)
theorem Zvn (o:UnOp) (x:SV):Qi (Zqb o x):=by
 intro st st2 r hax h
 unfold Zqb at h ⊢
 repeat' split at h
 all_goals first | (cases h;fail) | (cases h;simp_all) | (cases h)
theorem ZmS (E:Env) (s d:TypeId) (x:SV):Qi (ZdC E s d x):=by
 intro st st2 r hax h
 unfold ZdC at h ⊢
 split at h
 ·split at h
  ·rename_i hc;cases h;rw [if_pos hc];exact ⟨rfl,rfl⟩
  ·rename_i hc;cases h;rw [if_neg hc];exact ⟨rfl,rfl⟩
 ·cases h;exact ⟨rfl,rfl⟩
 ·cases h
theorem ZtF (E:Env) (o:BinOp) (t:TypeId) (x y:SV):Qi (Zjx E o t x y):=by
 intro st st2 r hax h
 unfold Zjx at h ⊢
 repeat' split at h
 all_goals first | (cases h;fail) | (cases h;simp_all;done) | (cases h;exact ⟨rfl,rfl⟩) | (cases h)
theorem ZlP {m:SV} {st st2:St} (h:st2.ax=st.ax):Zee m st2=Zee m st:=by
 unfold Zee
 rw [h]
theorem Zsh {src:Option Nat} {es:List (PV × PV)} {st st2:St} (h:st2.ax=st.ax):Zeg st2 src es=Zeg st src es:=by
 unfold Zeg
 rw [h]
theorem Zou (E:Env) (t:TypeId) (m x:SV) (ok:Bool):Qi (ZcC E t m x ok):=by
 intro st st2 r hax h
 unfold ZcC at h ⊢
 rw [ZlP hax]
 repeat' split at h
 all_goals first | (cases h;fail) | (cases h;simp_all;done) | (cases h;exact ⟨rfl,rfl⟩) | (cases h)
theorem Zqq (x:SV):Qi (Zeh x):=by
 intro st st2 r hax h
 unfold Zeh at h ⊢
 simp only [Zsh hax]
 rw [hax]
 repeat' split at h
 all_goals first | (cases h;fail) | (cases h;simp_all;done) | (cases h;exact ⟨rfl,rfl⟩) | (cases h)
theorem ZtG (E:Env) (t:TypeId) (x:SV):Qi (Zjz E t x):=by
 intro st st2 r hax h
 unfold Zjz at h ⊢
 simp only [ZlP hax]
 repeat' split at h
 all_goals first | (cases h;fail) | (cases h;simp_all) | (cases h)
theorem Zi2 (mn:Bool) (xs:List SV):Qi (ZdE mn xs):=by
 intro st st2 r hax h
 unfold ZdE at h ⊢
 repeat' split at h
 all_goals first | (cases h;fail) | (cases h;simp_all) | (cases h)
theorem ZjJ (E:Env) (h0:E.rows=false) (t:TypeId) (l c:SV):Qi (Zcb E t l c):=by
 intro st st2 r hax h
 unfold Zcb at h ⊢
 rw [h0] at h ⊢
 repeat' split at h
 all_goals first | (cases h;fail) | (cases h;simp_all) | (cases h)
def Zjk (op:Op) (st st2:St) (r r2:Option Res):Prop :=
 ∀x,r=some x->(x.st.sl=st.sl/\x.st.ax=st.ax)/\(Zbp op=false->x.st.bx=st.bx)/\(tkW op=false->x.st.tk=st.tk) /\
  r2=some ⟨x.side,x.v,⟨st2.sl,if Zbp op then x.st.bx else st2.bx,if tkW op then x.st.tk else st2.tk,st2.ax⟩⟩
theorem Qi.local {f:St->Option Res} (h:Qi f) {op:Op} (hm:Zbp op=false) (ht:tkW op=false) (st st2:St) (hax:st2.ax=st.ax):Zjk op st st2 (f st) (f st2):=by
 intro x hx
 obtain ⟨h1,h2⟩:=h st st2 x hax hx
 rw [hm,ht,h1,h2]
 exact ⟨⟨rfl,rfl⟩,λ _=>rfl,λ _=>rfl,rfl⟩
theorem ZmT (E:Env) (op:Op) (st st2:St) (hs:Zd2 E.rm op=true) (hv:∀x∈op.operands,Zp st2 x=Zp st x) (hb:Zbp op=true\/Zsf op=true->st2.bx=st.bx) (ht:tkW op=true->st2.tk=st.tk) (hax:st2.ax=st.ax) :
  Zjk op st st2 (ZR E op st) (ZR E op st2):=by
 have none_:∀r2,Zjk op st st2 none r2:=λ r2 x hx=>by cases hx
 cases op with
 | move x=>
  have:=hv x (by simp [Op.operands])
  simp only [ZR,this]
  exact Qi.local (f:=λ st'=>some ⟨True,Zp st x,st'⟩) (λ a b r _ h=>by cases h;exact ⟨rfl,rfl⟩) rfl rfl st st2 hax
 | assign x =>
  have:=hv x (by simp [Op.operands])
  simp only [ZR,this]
  exact Qi.local (f:=λ st'=>some ⟨True,Zp st x,st'⟩) (λ a b r _ h=>by cases h;exact ⟨rfl,rfl⟩) rfl rfl st st2 hax
 | pick c a b =>
  simp only [ZR,hv c (by simp [Op.operands]),hv a (by simp [Op.operands]),hv b (by simp [Op.operands])]
  exact Qi.local (Zsg _ _ _) rfl rfl st st2 hax
 | alloc t =>
  have e:=hb (.inl rfl)
  intro x hx
  simp only [ZR,Zdd] at hx ⊢
  split at hx
  ·rename_i hc
   cases hx
   simp [hc,e,Zbp,tkW,St.newBx]
  ·cases hx
 | box t x =>
  have e:=hb (.inl rfl)
  intro r hx
  simp only [ZR,hv x (by simp [Op.operands])] at hx ⊢
  have m1:Zbp (.box t x)=true:=rfl
  have m2:tkW (.box t x)=false:=rfl
  rw [m1,m2]
  unfold Zjv at hx ⊢
  repeat' split at hx
  all_goals first | (cases hx;fail) | (cases hx;simp_all [St.newBx];done) | (cases hx)
 | build t ps =>
  have e:(ps.toList.map λ p=>(p.1,Zp st2 p.2))=ps.toList.map λ p=>(p.1,Zp st p.2):=Zzr λ p hp=>by
   rw [hv p.2 (by simp only [Op.operands,List.mem_toArray,Zyz];exact ⟨p,hp,rfl⟩)]
  simp only [ZR,e]
  exact Qi.local (Zqm _ _ _) rfl rfl st st2 hax
 | buildSlice t n ps =>
  have e:(ps.toList.map λ p=>(p.1,Zp st2 p.2))=ps.toList.map λ p=>(p.1,Zp st p.2):=Zzr λ p hp=>by
   rw [hv p.2 (by simp only [Op.operands,List.mem_toArray,Zyz];exact ⟨p,hp,rfl⟩)]
  simp only [ZR,e]
  exact Qi.local (Zjb _ _ _ _) rfl rfl st st2 hax
 | load t a =>
  have e:=hb (.inr rfl)
  intro r hx
  simp only [ZR,hv a (by simp [Op.operands])] at hx ⊢
  have m1:Zbp (.load t a)=false:=rfl
  have m2:tkW (.load t a)=false:=rfl
  rw [m1,m2]
  unfold YZ at hx ⊢
  clear hb hv ht none_ m1 m2
  obtain ⟨sl2,bx2,tk2,ax2⟩:=st2
  obtain ⟨sl1,bx1,tk1,ax1⟩:=st
  subst e
  split at hx
  ·split at hx
   ·rename_i hc;cases hx;rw [if_pos hc];exact ⟨⟨rfl,rfl⟩,λ _=>rfl,λ _=>rfl,rfl⟩
   ·rename_i hc
    rw [if_neg hc]
    split at hx
    ·rename_i h1;cases hx;rw [if_pos h1];exact ⟨⟨rfl,rfl⟩,λ _=>rfl,λ _=>rfl,rfl⟩
    ·cases hx
  ·simp only at hx ⊢
   split at hx
   ·split at hx
    ·rename_i hcs hc
     split at hx
     ·rename_i hp;cases hx;exact ⟨⟨rfl,rfl⟩,λ _=>rfl,λ _=>rfl,by simp [hcs,hc,hp]⟩
     ·cases hx
    ·rename_i hcs hc
     split at hx
     ·rename_i h1;cases hx;exact ⟨⟨rfl,rfl⟩,λ _=>rfl,λ _=>rfl,by simp only [hcs,hc,h1];rfl⟩
     ·cases hx
   ·cases hx
  ·cases hx
 | store t a x =>
  have e:=hb (.inl rfl)
  intro r hx
  simp only [ZR,hv a (by simp [Op.operands]),hv x (by simp [Op.operands])] at hx ⊢
  have m1:Zbp (.store t a x)=true:=rfl
  have m2:tkW (.store t a x)=false:=rfl
  rw [m1,m2]
  unfold Zai at hx ⊢
  obtain ⟨sl2,bx2,tk2,ax2⟩:=st2
  obtain ⟨sl1,bx1,tk1,ax1⟩:=st
  subst e
  clear hb hv ht
  repeat' split at hx
  all_goals first | (cases hx;fail) | (cases hx;simp_all [St.setBx];done) | (cases hx)
 | nilCheck x =>
  simp only [ZR,hv x (by simp [Op.operands])]
  refine Qi.local (f:=λ st=>(match Zp _ x with | .val (.ptr cs o)=>some ⟨True,.val (.ptr cs o),st⟩ | .box id o=>some ⟨True,.box id o,st⟩ | .val (.fn f cs)=>some ⟨True,.val (.fn f cs),st⟩ | .clo f cs=>some ⟨True,.clo f cs,st⟩ | .rbx a b c d e=>some ⟨True,.rbx a b c d e,st⟩ | .val (.yld l)=>some ⟨True,.val (.yld l),st⟩ | _=>none)) (λ a b r _ h=>?_) rfl rfl st st2 hax
  split at h<;>cases h<;>simp_all
 | binOp o t x y z =>
  simp only [ZR,hv x (by simp [Op.operands]),hv y (by simp [Op.operands])]
  exact Qi.local (ZtF _ _ _ _ _) rfl rfl st st2 hax
 | unOp o t x =>
  simp only [ZR,hv x (by simp [Op.operands])]
  exact Qi.local (Zvn _ _) rfl rfl st st2 hax
 | convert s d x =>
  simp only [ZR,hv x (by simp [Op.operands])]
  exact Qi.local (ZmS _ _ _ _) rfl rfl st st2 hax
 | makeFunc f a b=>cases hs
 | makeMap t r=>cases hs
 | mapUpdate t m x v=>cases hs
 | makeSlice t l c =>
  have hrw:E.rows=false:=by simpa [Zd2,Env.rm] using hs
  simp only [ZR,hv l (by simp [Op.operands]),hv c (by simp [Op.operands])]
  exact Qi.local (ZjJ _ hrw _ _ _) rfl rfl st st2 hax
 | slice t x lo hi mx =>
  have e1:lo.map (Zp st2)=lo.map (Zp st):=by cases lo with | none=>rfl | some y=>simp [hv y (by simp [Op.operands])]
  have e2:hi.map (Zp st2)=hi.map (Zp st):=by cases hi with | none=>rfl | some y=>simp [hv y (by simp [Op.operands])]
  have e3:mx.map (Zp st2)=mx.map (Zp st):=by cases mx with | none=>rfl | some y=>simp [hv y (by simp [Op.operands])]
  simp only [ZR,hv x (by simp [Op.operands]),e1,e2,e3]
  split
  ·exact Qi.local (Zlg _ _ _ _ _ _ _) rfl rfl st st2 hax
  ·exact Qi.local (Zlh _ _ _ _ _ _ _ _ _ _) rfl rfl st st2 hax
  ·exact Qi.local (Zqn _ _ _ _ _ _) rfl rfl st st2 hax
 | fieldAddr s x f =>
  simp only [ZR,hv x (by simp [Op.operands])]
  exact Qi.local (ZjH _ _ _ _) rfl rfl st st2 hax
 | field t x f =>
  simp only [ZR,hv x (by simp [Op.operands])]
  exact Qi.local (Zqp _ _ _ _) rfl rfl st st2 hax
 | indexAddr t x i =>
  simp only [ZR,hv x (by simp [Op.operands]),hv i (by simp [Op.operands])]
  exact Qi.local (ZjI _ _ _ _) rfl rfl st st2 hax
 | index t x i =>
  simp only [ZR,hv x (by simp [Op.operands]),hv i (by simp [Op.operands])]
  exact Qi.local (Zqo _ _ _ _) rfl rfl st st2 hax
 | extract x i =>
  simp only [ZR,hv x (by simp [Op.operands])]
  exact Qi.local (ZmR _ _) rfl rfl st st2 hax
 | call c =>
  have e:c.args.toList.map (Zp st2)=c.args.toList.map (Zp st):=Zzr λ p hp=>hv p (by simp only [Op.operands,Call.operands];exact Array.mem_append.2 (.inr (by simpa using hp)))
  obtain ⟨callee,args,argTypes⟩:=c
  cases callee with
  | builtin b =>
   simp only [ZR] at e ⊢
   rw [e]
   unfold ZdF
   split
   ·exact Qi.local (ZtG _ _ _) rfl rfl st st2 hax
   ·have ek:=ht rfl
    split
    ·intro r hx
     rw [show Zbp _=false from rfl,show tkW _=true from rfl]
     unfold ZdD at hx ⊢
     rw [ek]
     repeat' split at hx
     all_goals first | (cases hx;fail) | (cases hx;simp_all [St.newBx];done) | (cases hx)
    ·exact none_ _
   ·exact Qi.local (Zi2 _ _) rfl rfl st st2 hax
   ·exact Qi.local (Zi2 _ _) rfl rfl st st2 hax
   ·cases hs
   ·cases hs
   ·exact none_ _
  | value x=>exact none_ _
  | invoke r m=>exact none_ _
 | lookup t m x ok =>
  simp only [ZR,hv m (by simp [Op.operands]),hv x (by simp [Op.operands])]
  exact Qi.local (Zou _ _ _ _ _) rfl rfl st st2 hax
 | entry x =>
  simp only [ZR,hv x (by simp [Op.operands])]
  exact Qi.local (Zqq _) rfl rfl st st2 hax
 | range t m=>cases hs
 | entryStore t m k v=>cases hs
 | _=>exact none_ _
def Zbg (E:Env) (ops:List Oper) (o:Oper) (st:St) (v:SV) (m:St):Prop :=
 match o.guard with
 | none=>Zcy E true o.op st λ v' m'=>v'=v/\m'=m
 | some (j,want)=>∃t,ZgY ops j=some t /\
   ((st.sl.getD t .undef=.val (.bool want)/\Zcy E true o.op st λ v' m'=>v'=v/\m'=m) \/
   ((st.sl.getD t .undef=.undef\/st.sl.getD t .undef=.val (.bool (!want)))/\v=.undef/\m=st))
theorem Res.go_def {r:Option Res} {K:SV->St->Prop} (h:Res.go r K):∃v m,K v m/\Res.go r λ v' m'=>v'=v/\m'=m:=by
 unfold Res.go at *
 cases r with
 | none=>exact h.elim
 | some x=>exact ⟨x.v,x.st,h.2,h.1,rfl,rfl⟩
theorem Zov {E:Env} {op:Op} {st:St} {K:SV->St->Prop} (h:Zcy E true op st K):∃v m,K v m/\Zcy E true op st λ v' m'=>v'=v/\m'=m:=by
 unfold Zcy at *
 split at h
 ·split at h
  ·split at h
   ·obtain ⟨r,h1,h2⟩:=h
    exact ⟨_,_,h2,r,h1,rfl,rfl⟩
   ·exact absurd h.1 (by simp)
  ·exact absurd h.1 (by simp)
  ·split at h
   ·exact absurd h.1 (by simp)
   ·exact absurd h.1 (by simp)
  ·exact h.elim
 ·split at h
  ·exact absurd h.1 (by simp)
  ·exact Res.go_def h
 ·exact absurd h.1 (by simp)
 ·exact absurd h.1 (by simp)
 ·split at h
  ·exact absurd h.1 (by simp)
  ·exact Res.go_def h
 ·exact Res.go_def h
theorem Zow {st:St} {t:Tmp} {v:SV} (h:st.sl.getD t .undef=v) (hu:v≠.undef):st.put (some t) v=st:=by
 have hlt:t<st.sl.length:=by
  rcases Zy6 t st.sl.length with h' | h'
  ·exact h'
  ·rw [Zyj,Zyw h'] at h;exact absurd h.symm hu
 have:st.sl.set t v=st.sl:=by
  apply ZyS
  intro i
  rw [ZyC]
  split
  ·rename_i hi
   subst hi
   rw [Zyj,Zya hlt] at h
   rw [Zya hlt]
   simpa using h.symm
  ·rfl
 simp [St.put,this]
theorem Zfb {E:Env} {ops:List Oper}:∀(l:List Oper) (st:St) (K:St->Prop),Zbb E true ops l st K ->
  ∃(T:Nat->St) (V:Nat->SV) (M:Nat->St),T 0=st/\K (T l.length)/\∀i o,l[i]?=some o->Zbg E ops o (T i) (V i) (M i)/\T (i+1)=(M i).put o.dst (V i)
 | [],st,K,h=>⟨λ _=>st,λ _=>.undef,λ _=>st,rfl,h,λ i o hi=>by simp at hi⟩
 | o::rest,st,K,h=>by
  have fin:∀(v:SV) (m:St),Zbg E ops o st v m->Zbb E true ops rest (m.put o.dst v) K->∃(T:Nat->St) (V:Nat->SV) (M:Nat->St),T 0=st/\K (T (o::rest).length) /\
    ∀i o',(o::rest)[i]?=some o'->Zbg E ops o' (T i) (V i) (M i)/\T (i+1)=(M i).put o'.dst (V i):=by
   intro v m hs hr
   obtain ⟨T,V,M,h1,h2,h3⟩:=Zfb rest _ K hr
   refine ⟨λ i=>match i with | 0=>st | i+1=>T i,λ i=>match i with | 0=>v | i+1=>V i,λ i=>match i with | 0=>m | i+1=>M i,rfl,h2,λ i o' hi=>?_⟩
   cases i with
   | zero=>simp at hi;subst hi;exact ⟨hs,h1⟩
   | succ i=>exact h3 i o' (by simpa using hi)
  simp only [Zbb] at h
  split at h
  ·rename_i hg
   obtain ⟨v,m,hk,hw⟩:=Zov h
   exact fin v m (by unfold Zbg;rw [hg];exact hw) hk
  ·rename_i j want hg
   split at h
   ·exact h.elim
   ·rename_i t ht
    split at h
    ·rename_i hu
     exact fin .undef st (by unfold Zbg;rw [hg];exact ⟨t,ht,.inr ⟨.inl hu,rfl,rfl⟩⟩) h
    ·rename_i b hb
     by_cases hbw:b=want
     ·subst hbw
      have h1:=h.1 rfl
      rw [Zow hb (by simp)] at h1
      obtain ⟨v,m,hk,hw⟩:=Zov h1
      exact fin v m (by unfold Zbg;rw [hg];exact ⟨t,ht,.inl ⟨hb,hw⟩⟩) hk
     ·have hbn:b=!want:=by cases b<;>cases want<;>simp_all
      subst hbn
      have h1:=h.2 rfl
      rw [Zow hb (by simp)] at h1
      exact fin .undef st (by unfold Zbg;rw [hg];exact ⟨t,ht,.inr ⟨.inr hb,rfl,rfl⟩⟩) h1
    ·exact h.elim
def Zem (ops:List Oper) (o:Oper):List Tmp :=
 (o.op.operands.toList.filterMap λ x=>match x with | .tmp t=>some t | _=>none)++(match o.guard with | none=>[] | some (j,_)=>(ZgY ops j).toList)
theorem ZtH {st st2:St} {x:Operand} (h:∀t,x=.tmp t->st2.sl.getD t .undef=st.sl.getD t .undef):Zp st2 x=Zp st x:=by
 cases x with
 | tmp t=>exact h t rfl
 | _=>rfl
theorem Res.go_local {op:Op} {st st2:St} {r r2:Option Res} (h:Zjk op st st2 r r2) {v:SV} {m:St} (hg:Res.go r λ v' m'=>v'=v/\m'=m) :
  (m.sl=st.sl/\m.ax=st.ax)/\(Zbp op=false->m.bx=st.bx)/\(tkW op=false->m.tk=st.tk) /\
   Res.go r2 λ v' m'=>v'=v/\m'=⟨st2.sl,if Zbp op then m.bx else st2.bx,if tkW op then m.tk else st2.tk,st2.ax⟩:=by
 unfold Res.go at hg
 cases r with
 | none=>exact hg.elim
 | some x =>
  obtain ⟨hs,rfl,rfl⟩:=hg
  obtain ⟨h1,h2,h3,h4⟩:=h x rfl
  rw [h4]
  exact ⟨h1,h2,h3,hs,rfl,rfl⟩
theorem ZjK {E:Env} {op:Op} {st st2:St} {v:SV} {m:St} (hs:Zd2 E.rm op=true) (hv:∀x∈op.operands,Zp st2 x=Zp st x) (hb:Zbp op=true\/Zsf op=true->st2.bx=st.bx) (ht:tkW op=true->st2.tk=st.tk) (hax:st2.ax=st.ax)
  (h:Zcy E true op st λ v' m'=>v'=v/\m'=m) :
  (m.sl=st.sl/\m.ax=st.ax)/\(Zbp op=false->m.bx=st.bx)/\(tkW op=false->m.tk=st.tk) /\
   Zcy E true op st2 λ v' m'=>v'=v/\m'=⟨st2.sl,if Zbp op then m.bx else st2.bx,if tkW op then m.tk else st2.tk,st2.ax⟩:=by
 have hl:=ZmT E op st st2 hs hv hb ht hax
 by_cases hc:∃x args ts,op=.call { callee:=.value x,args,argTypes:=ts }
 ·obtain ⟨x,args,ts,rfl⟩:=hc
  simp only [Zcy] at h ⊢
  have e1:args.toList.map (Zp st2)=args.toList.map (Zp st):=Zzr λ p hp=>hv p (by simp only [Op.operands,Call.operands];exact Array.mem_append.2 (.inr (by simpa using hp)))
  have e2:Zp st2 x=Zp st x:=hv x (by simp [Op.operands,Call.operands])
  rw [e1,e2]
  split at h
  ·split at h
   ·obtain ⟨r,h1,rfl,rfl⟩:=h
    have m1:Zbp (.call { callee:=.value x,args,argTypes:=ts })=false:=rfl
    have m2:tkW (.call { callee:=.value x,args,argTypes:=ts })=false:=rfl
    rw [m1,m2]
    exact ⟨⟨rfl,rfl⟩,λ _=>rfl,λ _=>rfl,r,h1,rfl,rfl⟩
   ·exact absurd h.1 (by simp)
  ·exact absurd h.1 (by simp)
  ·split at h
   ·exact absurd h.1 (by simp)
   ·exact absurd h.1 (by simp)
  ·exact h.elim
 ·by_cases hap:∃args ts,op=.call { callee:=.builtin .append,args,argTypes:=ts }/\ZmH E ts.toList=true
  ·obtain ⟨args,ts,rfl,hr⟩:=hap
   simp [Zd2,Env.rm,hr] at hs
  have hnil:∀bop t x y u b,op=.binOp bop t x y u->ZnX bop y=some b->False:=λ bop t x y u b e1 e2=>by
   subst e1
   simp only [Zcy,e2] at h
   exact absurd h.1 (by simp)
  have e:∀(s:St) (K:SV->St->Prop),Zcy E true op s K=Res.go (ZR E op s) K:=λ s K=>by
   unfold Zcy
   split
   ·exact (hc ⟨_,_,_,rfl⟩).elim
   ·split
    ·rename_i hr;exact (hap ⟨_,_,rfl,hr⟩).elim
    ·rfl
   ·simp [Zd2] at hs
   ·simp [Zd2] at hs
   ·split
    ·rename_i b hb;exact (hnil _ _ _ _ _ b rfl hb).elim
    ·rfl
   ·rfl
  rw [e] at h ⊢
  exact Res.go_local hl h
theorem Zli {ops:List Oper} {o:Oper} {t:Tmp} (h:Operand.tmp t∈o.op.operands):t∈Zem ops o :=
 List.mem_append_left _ (List.mem_filterMap.2 ⟨.tmp t,by simpa using h,rfl⟩)
theorem Zbg.local {E:Env} {ops:List Oper} {o:Oper} {st st2:St} {v:SV} {m:St} (hs:Zd2 E.rm o.op=true) (hv:∀t∈Zem ops o,st2.sl.getD t .undef=st.sl.getD t .undef)
  (hb:Zbp o.op=true\/Zsf o.op=true->st2.bx=st.bx) (ht:tkW o.op=true->st2.tk=st.tk) (hax:st2.ax=st.ax) (h:Zbg E ops o st v m) :
  (m.sl=st.sl/\m.ax=st.ax)/\(Zbp o.op=false->m.bx=st.bx)/\(tkW o.op=false->m.tk=st.tk) /\
   Zbg E ops o st2 v ⟨st2.sl,if Zbp o.op then m.bx else st2.bx,if tkW o.op then m.tk else st2.tk,st2.ax⟩:=by
 have hv':∀x∈o.op.operands,Zp st2 x=Zp st x:=λ x hx=>ZtH λ t ht=>hv t (Zli (by rw [<-ht];exact hx))
 unfold Zbg at h ⊢
 split at h
 ·rename_i hg
  exact ZjK hs hv' hb ht hax h
 ·rename_i j want hg
  obtain ⟨t,hd,h⟩:=h
  have hgl:st2.sl.getD t .undef=st.sl.getD t .undef:=hv t (List.mem_append_right _ (by rw [hg];simp [hd]))
  rcases h with ⟨h1,h2⟩ | ⟨h1,rfl,rfl⟩
  ·obtain ⟨a,b,c,e⟩:=ZjK hs hv' hb ht hax h2
   exact ⟨a,b,c,t,hd,.inl ⟨by rw [hgl];exact h1,e⟩⟩
  ·refine ⟨⟨rfl,rfl⟩,λ _=>rfl,λ _=>rfl,t,hd,.inr ⟨by rw [hgl];exact h1,rfl,?_⟩⟩
   have e1:(if Zbp o.op then m.bx else st2.bx)=st2.bx:=by split<;>simp_all
   have e2:(if tkW o.op then m.tk else st2.tk)=st2.tk:=by split<;>simp_all
   rw [e1,e2]
section
variable {E:Env} {B:Nat} {S0:Addr->Prop} {w0:World} {st:St} {G:Gh} {S:Addr->Prop} {w:World} {tmps:Array Value} {r:Option Nat} {n:Nat}
theorem Zox (hE:ZQ E) {ops:Array Oper} {i:Nat} {o:Oper} {K:Act->World->Prop} {Q:Exit->Act->World->Prop} {v:SV} {m:St} (d:List Deferred) {tk0:List (Nat × TypeId)} {G0:Gh} {S1:Addr->Prop} {w1:World} (R:Rel E B S0 w0 st G S w tmps) (X:Ext tk0 G0 S1 w1 st.tk G S w) (ho:ops[i]?=some o)
  (h:Zbg E ops.toList o st v m)
  (hK:∀(G':Gh) (S':Addr->Prop) (w':World) (tmps':Array Value),Rel E B S0 w0 (m.put o.dst v) G' S' w' tmps'->Ext tk0 G0 S1 w1 (m.put o.dst v).tk G' S' w'->K { tmps:=tmps',defers:=d } w') :
  wpOpIn (Fr r) n E.P ops Q i K { tmps:=tmps,defers:=d } w:=by
 have go:∀(v':Value) (G':Gh) (S':Addr->Prop) (w':World),Rel E B S0 w0 m G' S' w' tmps->RSV m.tk G' S' w' v v'->Ext tk0 G0 S1 w1 m.tk G' S' w'->K (({ tmps:=tmps,defers:=d }:Act).put o.dst v') w':=by
  intro v' G' S' w' R' V' X'
  obtain ⟨R2,hd⟩:=R'.put V' o.dst d
  rw [Zvm hd]
  exact hK G' S' w' _ R2 (by rw [ZhN];exact X')
 have run:(Zcy E true o.op st λ v' m'=>v'=v/\m'=m)->o.wpIn (Fr r) n E.P { tmps:=tmps,defers:=d } w K Q:=λ hw =>
  Zhh hE R o d hw (λ v' s st' G' S' w' hk R' V' X'=>by
   obtain ⟨rfl,rfl⟩:=hk
   exact go v' G' S' w' R' V' (X.trans X'))
 unfold wpOpIn
 simp only [ho]
 unfold Zbg at h
 split at h
 ·rename_i hg
  rw [if_pos (by simp [Region.wanted,hg])]
  exact run h
 ·rename_i j want hg
  obtain ⟨t,ht,h⟩:=h
  have hty:(ops[j]?).bind (·.dst)=some t:=by simpa [ZgY] using ht
  have hlook:yielded ops tmps j=match tmps[t]? with | some (.bool b)=>some b | _=>none:=by
   simp only [yielded,hty,Z0F]
   rfl
  have hrs:RSV st.tk G S w (st.sl.getD t .undef) (tmps.getD t undef):=Zfa R t
  rcases h with ⟨h1,h2⟩ | ⟨h1,rfl,rfl⟩
  ·rw [h1] at hrs
   have hb:=RV.bool_inv hrs
   have hy:tmps[t]?=some (.bool want):=by
    rw [Zyo] at hb
    cases hq:tmps[t]? with
    | none=>rw [hq] at hb;cases hb
    | some u=>rw [hq] at hb;simpa using hb
   rw [if_pos (by simp [Region.wanted,hg,hlook,hy])]
   exact run h2
  ·have hno:Region.wanted o (yielded ops tmps)=false:=by
    simp only [Region.wanted,hg,hlook]
    rcases h1 with h1 | h1
    ·rw [h1] at hrs
     have hrs:tmps.getD t undef=undef:=hrs
     rw [Zyo] at hrs
     cases hq:tmps[t]? with
     | none=>rfl
     | some u=>rw [hq] at hrs;simp only [Zy0] at hrs;subst hrs;rfl
    ·rw [h1] at hrs
     have hb:=RV.bool_inv hrs
     rw [Zyo] at hb
     cases hq:tmps[t]? with
     | none=>rfl
     | some u=>rw [hq] at hb;simp only [Zy0] at hb;subst hb;simp
   rw [if_neg (by rw [hno];simp)]
   exact ⟨λ _ _=>trivial,go undef G S w R rfl X⟩
end
def ZjL (ops:List Oper) (L:Nat->Prop):Prop:=∀i o,ops[i]?=some o->L i->∀e∈o.after,Region.binds .any e=true->L e.on
def ZtI (ops:List Oper) (o:Oper) (j:Nat):Prop:=∀L,ZjL ops L->(∀e∈o.after,Region.binds .any e=true->L e.on)->L j
def ZmU (acc:List Nat) (o:Oper):Nat:=o.after.toList.foldr (λ e s=>if Region.binds .any e then s ||| 2 ^ e.on ||| acc.getD e.on 0 else s) 0
def ZjM:List Nat->List Oper->List Nat
 | acc,[]=>acc
 | acc,o::r=>ZjM (acc++[ZmU acc o]) r
theorem Zoy {acc:List Nat} {o:Oper} {j:Nat} (h:(ZmU acc o).testBit j=true):∃e∈o.after,Region.binds .any e=true/\(e.on=j\/(acc.getD e.on 0).testBit j=true):=by
 unfold ZmU at h
 have:∀(l:List Edge),(l.foldr (λ e s=>if Region.binds .any e then s ||| 2 ^ e.on ||| acc.getD e.on 0 else s) 0).testBit j=true->∃e∈l,Region.binds .any e=true/\(e.on=j\/(acc.getD e.on 0).testBit j=true):=by
  intro l
  induction l with
  | nil=>intro h;simp at h
  | cons e l ih =>
   intro h
   simp only [List.foldr_cons] at h
   split at h
   ·rename_i hb
    rw [Z0d,Z0d,Zzd,Zzd] at h
    rcases h with (h | h) | h
    ·obtain ⟨e',h1,h2⟩:=ih h
     exact ⟨e',ZyN _ h1,h2⟩
    ·rw [Z0a] at h
     exact ⟨e,ZzU,hb,.inl (by simpa using h)⟩
    ·exact ⟨e,ZzU,hb,.inr h⟩
   ·obtain ⟨e',h1,h2⟩:=ih h
    exact ⟨e',ZyN _ h1,h2⟩
 obtain ⟨e,h1,h2⟩:=this _ h
 exact ⟨e,by simpa using h1,h2⟩
theorem Zg1 {ops:List Oper} (hlt:∀i o,ops[i]?=some o->∀e∈o.after,Region.binds .any e=true->e.on<i):∀(l:List Oper) (acc:List Nat) (k:Nat),acc.length=k->(∀j,l[j]?=ops[k+j]?) ->
  (∀i o,i<k->ops[i]?=some o->∀j,(acc.getD i 0).testBit j=true->ZtI ops o j) ->
  ∀i o,ops[i]?=some o->∀j,((ZjM acc l).getD i 0).testBit j=true->ZtI ops o j
 | [],acc,k,hk,hl,h=>λ i o hi j hj=>by
  rcases Zy6 i k with h' | h'
  ·exact h i o h' hi j hj
  ·have:=hl (i - k)
   rw [Nat.add_sub_cancel' h',hi] at this
   simp at this
 | o::r,acc,k,hk,hl,h=>λ i o' hi j hj=>by
  refine Zg1 hlt r (acc++[ZmU acc o]) (k+1) (by simp [hk]) (λ j=>by have:=hl (j+1);simpa [Zz6,Zz2 1 j] using this) (λ i o' hik hi j hj=>?_) i o' hi j hj
  rcases Zy6 i k with h' | h'
  ·refine h i o' h' hi j ?_
   rw [Zyj,Zye (by omega)] at hj
   rw [Zyj];exact hj
  ·have hik:i=k:=by omega
   subst hik
   have ho:ops[i]?=some o:=by simpa using (hl 0).symm
   rw [hi] at ho
   cases ho
   rw [Zyj,Zyd (by omega)] at hj
   simp only [hk,Zzw,ZzZ,Zy0] at hj
   obtain ⟨e,he,hb,hor⟩:=Zoy hj
   intro L hL hE
   have hLe:=hE e he hb
   rcases hor with rfl | hor
   ·exact hLe
   ·have hei:=hlt i _ hi e he hb
    have hex:∃oe,ops[e.on]?=some oe:=by
     have:=(ZxZ.1 hi).1
     exact ⟨ops[e.on],Zya (by omega)⟩
    obtain ⟨oe,hoe⟩:=hex
    exact h e.on oe hei hoe j hor L hL (λ e' he' hb'=>hL e.on oe hoe hLe e' he' hb')
def ZlQ (o:Oper) (l:List Tmp):Bool:=match o.dst with | some t=>l.contains t | none=>false
def Zd3 (ops:List Oper) (a b:Oper):Bool :=
 ZlQ a (Zem ops b) || ZlQ b (Zem ops a) || (Zbp a.op&&(Zbp b.op || Zsf b.op)) || (Zsf a.op&&Zbp b.op) || (tkW a.op&&tkW b.op)
def ZjN (rw:ZnU) (ops:List Oper):Bool :=
 let ms:=ZjM [] ops
 (List.range ops.length).all λ i =>
  match ops[i]? with
  | none=>true
  | some o =>
   Zd2 rw o.op&&(o.after.toList.all λ e=>!Region.binds .any e || decide (e.on<i)) &&
   (List.range i).all λ j =>
    match ops[j]? with
    | none=>true
    | some p=>(o.dst.isNone || p.dst.isNone || o.dst != p.dst)&&((ms.getD i 0).testBit j || !Zd3 ops p o)
structure Zfc (rw:ZnU) (ops:List Oper):Prop where
 seal_:∀(i:Nat) (o:Oper),ops[i]?=some o->Zd2 rw o.op=true
 lt:∀(i:Nat) (o:Oper),ops[i]?=some o->∀e∈o.after,Region.binds .any e=true->e.on<i
 dst:∀(i j:Nat) (o p:Oper) (t:Tmp),ops[i]?=some o->ops[j]?=some p->o.dst=some t->p.dst=some t->i=j
 pair:∀(i j:Nat) (o p:Oper),j<i->ops[i]?=some o->ops[j]?=some p->ZtI ops o j\/Zd3 ops p o=false
theorem Zg2 {rw_:ZnU} {ops:List Oper} (h:ZjN rw_ ops=true):Zfc rw_ ops:=by
 unfold ZjN at h
 rw [Zym] at h
 have h1:∀i o,ops[i]?=some o->(Zd2 rw_ o.op=true/\∀e∈o.after,Region.binds .any e=true->e.on<i)/\∀j p,j<i->ops[j]?=some p->(o.dst.isNone || p.dst.isNone || o.dst != p.dst)=true/\(((ZjM [] ops).getD i 0).testBit j || !Zd3 ops p o)=true:=by
  intro i o hi
  have:=h i (ZyP.2 (ZxZ.1 hi).1)
  simp only [hi,Zyi] at this
  obtain ⟨⟨a,b⟩,c⟩:=this
  refine ⟨⟨a,λ e he hb=>?_⟩,λ j p hj hp=>?_⟩
  ·have:=Zym.1 b e (by simpa using he)
   rw [hb] at this
   simpa using this
  ·have:=Zym.1 c j (ZyP.2 hj)
   simp only [hp] at this
   exact Zyi _ _▸this
 have hlt:∀i o,ops[i]?=some o->∀e∈o.after,Region.binds .any e=true->e.on<i:=λ i o hi=>(h1 i o hi).1.2
 have hd:∀(i j:Nat) (o p:Oper) (t:Tmp),j<i->ops[i]?=some o->ops[j]?=some p->o.dst=some t->p.dst=some t->False:=by
  intro i j o p t hj hi hp ho hpt
  have:=((h1 i o hi).2 j p hj hp).1
  simp [ho,hpt] at this
 refine ⟨λ i o hi=>(h1 i o hi).1.1,hlt,λ i j o p t hi hj ho hp=>?_,λ i j o p hj hi hp=>?_⟩
 ·rcases Zzs i j with h' | h' | h'
  ·exact (hd j i p o t h' hj hi hp ho).elim
  ·exact h'
  ·exact (hd i j o p t h' hi hj ho hp).elim
 ·have:=((h1 i o hi).2 j p hj hp).2
  rw [Zzd] at this
  rcases this with h' | h'
  ·exact .inl (Zg1 hlt ops [] 0 rfl (λ j=>by simp) (λ i o hi=>absurd hi (ZzB i)) i o hi j h')
  ·exact .inr (by simpa using h')
structure J (ops:List Oper) (st:St) (T:Nat->St) (V:Nat->SV) (L:Nat->Prop) (s:St):Prop where
 len:s.sl.length=st.sl.length
 keep:∀t,(∀i o,L i->ops[i]?=some o->o.dst≠some t)->s.sl[t]?=st.sl[t]?
 set:∀i o t,L i->ops[i]?=some o->o.dst=some t->t<st.sl.length->s.sl[t]?=some (V i)
 bx:∃k,k<=ops.length/\s.bx=(T k).bx/\∀i o,ops[i]?=some o->Zbp o.op=true->(L i↔i<k)
 tk:∃k,k<=ops.length/\s.tk=(T k).tk/\∀i o,ops[i]?=some o->tkW o.op=true->(L i↔i<k)
 ax:s.ax=st.ax
theorem J.getD {ops:List Oper} {st:St} {T:Nat->St} {V:Nat->SV} {L:Nat->Prop} {s:St} {rw_:ZnU} (h:J ops st T V L s) (hd:Zfc rw_ ops) {t:Tmp} :
  (∀i o,ops[i]?=some o->o.dst=some t->L i->s.sl.getD t .undef=if t<st.sl.length then V i else .undef) /\
  ((∀i o,L i->ops[i]?=some o->o.dst≠some t)->s.sl.getD t .undef=st.sl.getD t .undef):=by
 refine ⟨λ i o hi ht hl=>?_,λ hn=>?_⟩
 ·split
  ·rename_i hlt;rw [Zyj,h.set i o t hl hi ht hlt];rfl
  ·rename_i hlt;rw [Zyj,Zyw (by rw [h.len];exact Z0c hlt)];rfl
 ·rw [Zyj,h.keep t hn,Zyj]
section
variable {E:Env} {ops:List Oper} {st:St} {T:Nat->St} {V:Nat->SV} {M:Nat->St} {L:Nat->Prop} {s:St}
structure Tr (E:Env) (ops:List Oper) (st:St) (T:Nat->St) (V:Nat->SV) (M:Nat->St):Prop where
 zero:T 0=st
 step:∀i o,ops[i]?=some o->Zbg E ops o (T i) (V i) (M i)/\T (i+1)=(M i).put o.dst (V i)
theorem Zwr (m:St) (d:Option Tmp) (v:SV):(m.put d v).ax=m.ax:=by cases d<;>rfl
theorem Zqr (m:St) (d:Option Tmp) (v:SV):(m.put d v).bx=m.bx:=by cases d<;>rfl
theorem Tr.one (hT:Tr E ops st T V M) (hA:Zfc E.rm ops) {i:Nat} {o:Oper} (hi:ops[i]?=some o) :
  ((M i).sl=(T i).sl/\(M i).ax=(T i).ax)/\(Zbp o.op=false->(T (i+1)).bx=(T i).bx)/\(tkW o.op=false->(T (i+1)).tk=(T i).tk)/\(T (i+1)).bx=(M i).bx/\(T (i+1)).tk=(M i).tk:=by
 obtain ⟨h1,h2⟩:=hT.step i o hi
 obtain ⟨a,b,c,_⟩:=Zbg.local (st2:=T i) (hA.seal_ i o hi) (λ _ _=>rfl) (λ _=>rfl) (λ _=>rfl) rfl h1
 rw [h2,Zqr,ZhN]
 exact ⟨a,b,c,rfl,rfl⟩
theorem Tr.bx_same (hT:Tr E ops st T V M) (hA:Zfc E.rm ops) (a:Nat):∀(b:Nat),a<=b->b<=ops.length->(∀i o,a<=i->i<b->ops[i]?=some o->Zbp o.op=false)->(T b).bx=(T a).bx:=by
 intro b
 induction b with
 | zero=>intro h _ _;simp at h;subst h;rfl
 | succ b ih =>
  intro h hb hn
  rcases Zy6 b a with h' | h'
  ·have:a=b+1:=by omega
   subst this;rfl
  ·have hi:ops[b]?=some ops[b]:=Zya (by omega)
   rw [(hT.one hA hi).2.1 (hn b _ h' (by omega) hi)]
   exact ih h' (by omega) (λ i o h1 h2=>hn i o h1 (by omega))
theorem Tr.tk_same (hT:Tr E ops st T V M) (hA:Zfc E.rm ops) (a:Nat):∀(b:Nat),a<=b->b<=ops.length->(∀i o,a<=i->i<b->ops[i]?=some o->tkW o.op=false)->(T b).tk=(T a).tk:=by
 intro b
 induction b with
 | zero=>intro h _ _;simp at h;subst h;rfl
 | succ b ih =>
  intro h hb hn
  rcases Zy6 b a with h' | h'
  ·have:a=b+1:=by omega
   subst this;rfl
  ·have hi:ops[b]?=some ops[b]:=Zya (by omega)
   rw [(hT.one hA hi).2.2.1 (hn b _ h' (by omega) hi)]
   exact ih h' (by omega) (λ i o h1 h2=>hn i o h1 (by omega))
theorem J.next (hJ:J ops st T V L s) (hA:Zfc E.rm ops) {i:Nat} {o:Oper} (hi:ops[i]?=some o) (hL:¬L i) {m:St} (hsl:m.sl=s.sl/\m.ax=s.ax)
  (hb:∃k,k<=ops.length/\m.bx=(T k).bx/\∀j p,ops[j]?=some p->Zbp p.op=true->((L j\/j=i)↔j<k))
  (ht:∃k,k<=ops.length/\m.tk=(T k).tk/\∀j p,ops[j]?=some p->tkW p.op=true->((L j\/j=i)↔j<k)) :
  J ops st T V (λ j=>L j\/j=i) (m.put o.dst (V i)):=by
 obtain ⟨hsl,hax⟩:=hsl
 have hput:∀t,(m.put o.dst (V i)).sl[t]?=if o.dst=some t/\t<st.sl.length then some (V i) else s.sl[t]?:=by
  intro t
  cases hd:o.dst with
  | none=>simp [St.put,hsl]
  | some t' =>
   simp only [St.put,hsl,ZyC,Zyu]
   by_cases he:t'=t
   ·subst he
    by_cases hlt:t'<st.sl.length
    ·simp [hlt,hJ.len]
    ·simp [hlt,hJ.len]
   ·simp [he]
 refine ⟨?_,λ t hn=>?_,λ j p t hl hj hpt hlt=>?_,by rw [Zqr];exact hb,by rw [ZhN];exact ht,by rw [Zwr,hax];exact hJ.ax⟩
 ·cases hd:o.dst<;>simp [St.put,hsl,hJ.len]
 ·rw [hput,if_neg (λ h=>hn i o (.inr rfl) hi h.1)]
  exact hJ.keep t λ j p hl hj=>hn j p (.inl hl) hj
 ·rw [hput]
  rcases hl with hl | rfl
  ·rw [if_neg (λ h=>hL (by rw [hA.dst i j o p t hi hj h.1 hpt];exact hl))]
   exact hJ.set j p t hl hj hpt hlt
  ·rw [hi] at hj;cases hj
   rw [if_pos ⟨hpt,hlt⟩]
theorem Tr.prefix (hT:Tr E ops st T V M) (hA:Zfc E.rm ops):∀k,k<=ops.length->J ops st T V (λ j=>j<k) (T k):=by
 intro k
 induction k with
 | zero =>
  intro _
  rw [hT.zero]
  exact ⟨rfl,λ _ _=>rfl,λ i o t hl=>absurd hl (ZzB i),⟨0,ZyQ _,by rw [hT.zero],λ i o _ _=>Iff.rfl⟩,⟨0,ZyQ _,by rw [hT.zero],λ i o _ _=>Iff.rfl⟩,rfl⟩
 | succ k ih =>
  intro hk
  have hi:ops[k]?=some ops[k]:=Zya (by omega)
  have hJ:=ih (by omega)
  obtain ⟨h1,_,_,h4,h5⟩:=hT.one hA hi
  have:=hJ.next hA hi (Z0r k) (m:=M k) h1 ⟨k+1,hk,h4.symm,λ j p _ _=>by omega⟩ ⟨k+1,hk,h5.symm,λ j p _ _=>by omega⟩
  rw [(hT.step k _ hi).2]
  have e:(λ j=>j<k+1)=λ j=>j<k\/j=k:=by funext j;exact propext (by omega)
  rw [e]
  exact this
theorem J.all (hJ:J ops st T V L s) (hT:Tr E ops st T V M) (hA:Zfc E.rm ops) (hL:∀i,i<ops.length->L i):s=T ops.length:=by
 have hP:=hT.prefix hA ops.length (Zyp _)
 have hsl:s.sl=(T ops.length).sl:=by
  apply ZyS
  intro t
  by_cases hex:∃(i:Nat) (o:Oper),ops[i]?=some o/\o.dst=some t
  ·obtain ⟨i,o,hi,ho⟩:=hex
   have hlt:=(ZxZ.1 hi).1
   by_cases ht:t<st.sl.length
   ·rw [hJ.set i o t (hL i hlt) hi ho ht,hP.set i o t hlt hi ho ht]
   ·rw [Zyw (by rw [hJ.len];omega),Zyw (by rw [hP.len];omega)]
  ·rw [hJ.keep t λ i o _ hi ho=>hex ⟨i,o,hi,ho⟩,hP.keep t λ i o _ hi ho=>hex ⟨i,o,hi,ho⟩]
 obtain ⟨k,hk,hb,hbi⟩:=hJ.bx
 obtain ⟨k',hk',ht,hti⟩:=hJ.tk
 have hbx:s.bx=(T ops.length).bx:=by
  rw [hb]
  exact (hT.bx_same hA k ops.length hk (Zyp _) λ i o h1 h2 hi=>by
   cases hm:Zbp o.op with
   | false=>rfl
   | true=>have:=(hbi i o hi hm).1 (hL i h2);omega).symm
 have htk:s.tk=(T ops.length).tk:=by
  rw [ht]
  exact (hT.tk_same hA k' ops.length hk' (Zyp _) λ i o h1 h2 hi=>by
   cases hm:tkW o.op with
   | false=>rfl
   | true=>have:=(hti i o hi hm).1 (hL i h2);omega).symm
 have hax:s.ax=(T ops.length).ax:=hJ.ax.trans hP.ax.symm
 cases s
 cases hq:T ops.length
 rw [hq] at hsl hbx htk hax
 simp only at hsl hbx htk hax
 subst hsl;subst hbx;subst htk;subst hax
 rfl
theorem ZtJ {a b:Oper} {t:Tmp} (ha:a.dst=some t) (hb:t∈Zem ops b):Zd3 ops a b=true:=by
 have:ZlQ a (Zem ops b)=true:=by simp only [ZlQ,ha];simpa using hb
 simp [Zd3,this]
theorem Zsi {a b:Oper} {t:Tmp} (hb:b.dst=some t) (ha:t∈Zem ops a):Zd3 ops a b=true:=by
 have:ZlQ b (Zem ops a)=true:=by simp only [ZlQ,hb];simpa using ha
 simp [Zd3,this]
theorem J.turn (hJ:J ops st T V L s) (hT:Tr E ops st T V M) (hA:Zfc E.rm ops) (hC:ZjL ops L) {i:Nat} {o:Oper} (hi:ops[i]?=some o) (hL:¬L i)
  (hE:∀e∈o.after,Region.binds .any e=true->L e.on) :
  ∃m,Zbg E ops o s (V i) m/\J ops st T V (λ j=>L j\/j=i) (m.put o.dst (V i)):=by
 have hlt:=(ZxZ.1 hi).1
 have hP:=hT.prefix hA i (by omega)
 have hbefore:∀j p,j<i->ops[j]?=some p->Zd3 ops p o=true->L j:=by
  intro j p hj hp hc
  rcases hA.pair i j o p hj hi hp with h | h
  ·exact h L hC hE
  ·rw [hc] at h;cases h
 have hafter:∀j p,i<j->ops[j]?=some p->Zd3 ops o p=true->¬L j:=by
  intro j p hj hp hc hl
  rcases hA.pair j i p o hj hp hi with h | h
  ·exact hL (h L hC (λ e he hb=>hC j p hp hl e he hb))
  ·rw [hc] at h;cases h
 have hv:∀t∈Zem ops o,s.sl.getD t .undef=(T i).sl.getD t .undef:=by
  intro t ht
  by_cases hex:∃(j:Nat) (p:Oper),ops[j]?=some p/\p.dst=some t
  ·obtain ⟨j,p,hp,hpt⟩:=hex
   rcases Zy6 j i with h' | h'
   ·rw [(hJ.getD hA).1 j p hp hpt (hbefore j p h' hp (ZtJ hpt ht)),(hP.getD hA).1 j p hp hpt h']
   ·have hnl:¬L j:=by
     rcases Zy6 i j with h'' | h''
     ·exact hafter j p h'' hp (Zsi hpt ht)
     ·have:j=i:=by omega
      subst this;exact hL
    rw [(hJ.getD hA).2 (λ j' p' hl' hp' hpt'=>hnl (by rw [hA.dst j j' p p' t hp hp' hpt hpt'];exact hl')),
     (hP.getD hA).2 (λ j' p' hl' hp' hpt'=>by have:=hA.dst j j' p p' t hp hp' hpt hpt';omega)]
  ·rw [(hJ.getD hA).2 (λ j' p' _ hp' hpt'=>hex ⟨j',p',hp',hpt'⟩),(hP.getD hA).2 (λ j' p' _ hp' hpt'=>hex ⟨j',p',hp',hpt'⟩)]
 obtain ⟨kb,hkb,hb,hbi⟩:=hJ.bx
 obtain ⟨kt,hkt,htt,hti⟩:=hJ.tk
 have hbx:Zbp o.op=true\/Zsf o.op=true->s.bx=(T i).bx:=by
  intro hm
  rw [hb]
  rcases Nat.le_total kb i with h' | h'
  ·exact (hT.bx_same hA kb i h' (by omega) λ j p h1 h2 hp=>by
    cases hw:Zbp p.op with
    | false=>rfl
    | true =>
     have hc:Zd3 ops p o=true:=by rcases hm with hm | hm<;>simp [Zd3,hw,hm]
     have:=(hbi j p hp hw).1 (hbefore j p h2 hp hc)
     omega).symm
  ·exact hT.bx_same hA i kb h' hkb λ j p h1 h2 hp=>by
    cases hw:Zbp p.op with
    | false=>rfl
    | true =>
     have hl:=(hbi j p hp hw).2 h2
     rcases Zy6 i j with h'' | h''
     ·have hc:Zd3 ops o p=true:=by rcases hm with hm | hm<;>simp [Zd3,hw,hm]
      exact absurd hl (hafter j p h'' hp hc)
     ·have:j=i:=by omega
      subst this;exact absurd hl hL
 have htk:tkW o.op=true->s.tk=(T i).tk:=by
  intro hm
  rw [htt]
  rcases Nat.le_total kt i with h' | h'
  ·exact (hT.tk_same hA kt i h' (by omega) λ j p h1 h2 hp=>by
    cases hw:tkW p.op with
    | false=>rfl
    | true =>
     have hc:Zd3 ops p o=true:=by simp [Zd3,hw,hm]
     have:=(hti j p hp hw).1 (hbefore j p h2 hp hc)
     omega).symm
  ·exact hT.tk_same hA i kt h' hkt λ j p h1 h2 hp=>by
    cases hw:tkW p.op with
    | false=>rfl
    | true =>
     have hl:=(hti j p hp hw).2 h2
     rcases Zy6 i j with h'' | h''
     ·have hc:Zd3 ops o p=true:=by simp [Zd3,hw,hm]
      exact absurd hl (hafter j p h'' hp hc)
     ·have:j=i:=by omega
      subst this;exact absurd hl hL
 obtain ⟨hs1,hs2⟩:=hT.step i o hi
 obtain ⟨a,b,c,e⟩:=Zbg.local (st2:=s) (hA.seal_ i o hi) hv hbx htk (hJ.ax.trans (hT.prefix hA i (Nat.le_of_lt (ZxZ.1 hi).1)).ax.symm) hs1
 refine ⟨_,e,hJ.next hA hi hL ⟨rfl,rfl⟩ ?_ ?_⟩
 ·cases hw:Zbp o.op with
  | false =>
   refine ⟨kb,hkb,by simpa using hb,λ j p hp hm=>?_⟩
   rw [<-hbi j p hp hm]
   constructor
   ·rintro (h | rfl)
    ·exact h
    ·rw [hi] at hp;cases hp;rw [hw] at hm;cases hm
   ·exact .inl
  | true =>
   refine ⟨i+1,by omega,by simp [hs2,Zqr],λ j p hp hm=>?_⟩
   constructor
   ·rintro (h | rfl)
    ·rcases Zy6 i j with h'' | h''
     ·exact absurd h (hafter j p h'' hp (by simp [Zd3,hw,hm]))
     ·omega
    ·omega
   ·intro h
    rcases Zy6 j i with h'' | h''
    ·exact .inl (hbefore j p h'' hp (by simp [Zd3,hw,hm]))
    ·exact .inr (by omega)
 ·cases hw:tkW o.op with
  | false =>
   refine ⟨kt,hkt,by simpa using htt,λ j p hp hm=>?_⟩
   rw [<-hti j p hp hm]
   constructor
   ·rintro (h | rfl)
    ·exact h
    ·rw [hi] at hp;cases hp;rw [hw] at hm;cases hm
   ·exact .inl
  | true =>
   refine ⟨i+1,by omega,by simp [hs2,ZhN],λ j p hp hm=>?_⟩
   constructor
   ·rintro (h | rfl)
    ·rcases Zy6 i j with h'' | h''
     ·exact absurd h (hafter j p h'' hp (by simp [Zd3,hw,hm]))
     ·omega
    ·omega
   ·intro h
    rcases Zy6 j i with h'' | h''
    ·exact .inl (hbefore j p h'' hp (by simp [Zd3,hw,hm]))
    ·exact .inr (by omega)
end
section
variable {E:Env} {B:Nat} {S0:Addr->Prop} {w0:World} {st:St} {G:Gh} {S:Addr->Prop} {w:World} {tmps:Array Value} {r:Option Nat} {n:Nat}
theorem Zg3 {listed:Array Bool} {i j:Nat} (h:listed.getD i true=false):(listed.setIfInBounds i true).getD j false=true↔(listed.getD j false=true\/j=i):=by
 have hlt:i<listed.size:=by
  rcases Zy6 i listed.size with h' | h'
  ·exact h'
  ·simp [Zyo,Zzb h'] at h
 simp only [Zyo,ZyV]
 by_cases hij:i=j
 ·subst hij;simp [hlt]
 ·rw [if_neg hij]
  constructor
  ·exact .inl
  ·rintro (h | rfl)
   ·exact h
   ·exact absurd rfl hij
theorem count_set {listed:Array Bool} {i k:Nat} (h:listed.getD i true=false) (hc:listed.toList.count false<=k+1):(listed.setIfInBounds i true).toList.count false<=k:=by
 have hlt:i<listed.toList.length:=by
  rcases Zy6 i listed.size with h' | h'
  ·simpa using h'
  ·simp [Zyo,Zzb h'] at h
 rw [Zz7,List.count_set hlt]
 have:listed.toList[i]=false:=by
  have hlt':i<listed.size:=by simpa using hlt
  simp only [Zyo,Zyn hlt',Zy0] at h
  simpa using h
 have hpos:0<listed.toList.count false:=Z0k.2 (by rw [<-this];exact Zzg hlt)
 rw [this]
 show listed.toList.count false - 1+0<=k
 omega
theorem Zqs {rw_:ZnU} {ops:Array Oper} {listed:Array Bool} (hA:Zfc rw_ ops.toList) (hs:listed.size=ops.size) (h:Region.ready .any ops listed=[]):∀i,i<ops.size->listed.getD i false=true:=by
 intro i
 induction i using Nat.strongRecOn with
 | ind i ih =>
  intro hi
  cases hq:listed.getD i false with
  | true=>rfl
  | false =>
   have hmem:i∈Region.ready .any ops listed:=mem_ready.2 ⟨by
    simp only [Zyo,Zyn (show i<listed.size by omega),Zy0] at hq ⊢
    exact hq,ops[i],Zyn hi,λ e he hb=>by
    have:=hA.lt i ops[i] (by simp [hi]) e he hb
    exact ih e.on this (by omega)⟩
   rw [h] at hmem
   cases hmem
theorem Zws (hE:ZQ E) {ops:Array Oper} {T:Nat->St} {V:Nat->SV} {M:Nat->St} (d:List Deferred) {tk0:List (Nat × TypeId)} {G0:Gh} {S1:Addr->Prop} {w1:World} (hA:Zfc E.rm ops.toList) (hT:Tr E ops.toList st T V M) {Q:Exit->Act->World->Prop}
  (hQ:∀(G':Gh) (S':Addr->Prop) (w':World) (tmps':Array Value),Rel E B S0 w0 (T ops.size) G' S' w' tmps'->Ext tk0 G0 S1 w1 (T ops.size).tk G' S' w'->Q .normal { tmps:=tmps',defers:=d } w') :
  ∀(fuel:Nat) (listed:Array Bool) (s:St) (G:Gh) (S:Addr->Prop) (w:World) (tmps:Array Value),listed.size=ops.size->listed.toList.count false<=fuel->ZjL ops.toList (λ i=>listed.getD i false=true) ->
   J ops.toList st T V (λ i=>listed.getD i false=true) s->Rel E B S0 w0 s G S w tmps->Ext tk0 G0 S1 w1 s.tk G S w->wpAnyIn (Fr r) n E.P .any ops Q fuel listed { tmps:=tmps,defers:=d } w:=by
 have fin:∀(listed:Array Bool) (s:St) (G:Gh) (S:Addr->Prop) (w:World) (tmps:Array Value),listed.size=ops.size->J ops.toList st T V (λ i=>listed.getD i false=true) s->Rel E B S0 w0 s G S w tmps->Ext tk0 G0 S1 w1 s.tk G S w ->
   Region.ready .any ops listed=[]->Q .normal { tmps:=tmps,defers:=d } w:=by
  intro listed s G S w tmps hs hJ R X h
  have e:=hJ.all hT hA (by simpa using Zqs hA hs h)
  rw [e] at R X
  exact hQ G S w tmps (by simpa using R) (by simpa using X)
 intro fuel
 induction fuel with
 | zero =>
  intro listed s G S w tmps hs hc hC hJ R X
  have hr:Region.ready .any ops listed=[]:=by
   rw [List.eq_nil_iff_forall_not_mem]
   intro i hi
   obtain ⟨h1,o,ho,_⟩:=mem_ready.1 hi
   have hlt:i<listed.size:=by rw [hs];exact (Zyv.1 ho).1
   simp only [Zyo,Zyn hlt,Zy0] at h1
   have:0<listed.toList.count false:=Z0k.2 (by rw [<-h1];simp)
   omega
  exact ⟨hr,fin listed s G S w tmps hs hJ R X hr⟩
 | succ fuel ih =>
  intro listed s G S w tmps hs hc hC hJ R X
  refine ⟨fin listed s G S w tmps hs hJ R X,λ i hi=>?_⟩
  obtain ⟨h1,o,ho,hall⟩:=mem_ready.1 hi
  have ho':ops.toList[i]?=some o:=by simpa using ho
  have hnl:¬listed.getD i false=true:=by
   have hlt:i<listed.size:=by rw [hs];exact (Zyv.1 ho).1
   simp only [Zyo,Zyn hlt,Zy0] at h1 ⊢
   rw [h1];simp
  obtain ⟨m,hstep,hJ'⟩:=hJ.turn hT hA hC ho' hnl hall
  have hset:(λ j=>(listed.setIfInBounds i true).getD j false=true)=λ j=>listed.getD j false=true\/j=i:=by
   funext j;exact propext (Zg3 h1)
  refine Zox hE d R X ho hstep λ G' S' w' tmps' R' X'=>?_
  refine ih _ _ G' S' w' tmps' (by simp [hs]) (count_set h1 hc) ?_ (by rw [hset];exact hJ') R' X'
  rw [hset]
  intro j p hp hl e he hb
  rcases hl with hl | rfl
  ·exact .inl (hC j p hp hl e he hb)
  ·rw [ho'] at hp;cases hp
   exact .inl (hall e he hb)
theorem Zqt (hE:ZQ E) {id:Nat} {ops:Array Oper} (d:List Deferred) {tk0:List (Nat × TypeId)} {G0:Gh} {S1:Addr->Prop} {w1:World} (hA:ZjN E.rm ops.toList=true) {K:St->Prop} (h:Zbb E true ops.toList ops.toList st K) (R:Rel E B S0 w0 st G S w tmps) (X:Ext tk0 G0 S1 w1 st.tk G S w) {Q:Exit->Act->World->Prop}
  (hQ:∀(st':St) (G':Gh) (S':Addr->Prop) (w':World) (tmps':Array Value),K st'->Rel E B S0 w0 st' G' S' w' tmps'->Ext tk0 G0 S1 w1 st'.tk G' S' w'->Q .normal { tmps:=tmps',defers:=d } w') :
  (Code.region id ops true).wpIn (Fr r) n E.P Q { tmps:=tmps,defers:=d } w:=by
 obtain ⟨T,V,M,h0,hK,hT⟩:=Zfb _ _ _ h
 have hTr:Tr E ops.toList st T V M:=⟨h0,hT⟩
 have hA':=Zg2 hA
 refine wpIn_region_any hE.mixed ?_
 have hb:Below w.heap.size w { w with drawn:=w.drawn+1 }:=Below.drew (Below.refl _ _)
 obtain ⟨R1,X1⟩:=R.transport (S':=S) (w':={ w with drawn:=w.drawn+1 }) (λ _ h=>h) (λ _ h=>.inl h) hb
 have hJ:=hTr.prefix hA' 0 (ZyQ _)
 rw [h0] at hJ
 refine Zws hE d hA' hTr (λ G' S' w' tmps' R' X'=>hQ _ G' S' w' tmps' hK (by simpa using R') (by simpa using X')) ops.size (Array.replicate ops.size false) st G S _ tmps (by simp) (by simp) ?_ ?_ R1 (X.trans X1)
 ·intro i o hi hl
  simp [Zyo,Z0z] at hl
  split at hl<;>simp at hl
 ·have e:(λ i=>(Array.replicate ops.size false).getD i false=true)=λ j=>j<0:=by
   funext j
   apply propext
   simp only [Zyo,Z0z]
   constructor
   ·intro h;split at h<;>simp at h
   ·intro h;omega
  rw [e]
  exact hJ
def cutOk (rw:ZnU) (ops:List Oper) (c:Nat):Bool :=
 ZjN rw (ops.take c)&&decide (c<ops.length)&&(List.range c).all (λ j=>((ZjM [] ops).getD c 0).testBit j) &&
  (List.range ops.length).all (λ i=>decide (i<=c) || ((ZjM [] ops).getD i 0).testBit c) &&
  (List.range ops.length).all (λ i=>match ops[i]? with | none=>true | some o=>o.after.toList.all λ e=>!Region.binds .any e || decide (e.on<i))
def Zcf (c n:Nat):Array Bool:=(List.replicate c true++List.replicate (n - c) false).toArray
def ZvX (E:Env) (ops:Array Oper) (c:Nat) (st:St) (K:St->Prop):Prop :=
 cutOk E.rm ops.toList c=true/\Zbb E true (ops.toList.take c) (ops.toList.take c) st λ s =>
  match ops[c]? with
  | none=>False
  | some o=>Zbb E false ops.toList [o] s λ s'=>ZeC E ops (ops.size - (c+1)) (Zcf (c+1) ops.size) s' K
theorem Zbg.take {ops:List Oper} {c:Nat} {o:Oper} {s m:St} {v:SV} (h:Zbg E (ops.take c) o s v m):Zbg E ops o s v m:=by
 unfold Zbg at h ⊢
 split at h
 ·exact h
 ·obtain ⟨t,ht,h⟩:=h
  refine ⟨t,?_,h⟩
  rename_i j want _
  unfold ZgY at ht ⊢
  rw [Zyx] at ht
  split at ht
  ·exact ht
  ·simp at ht
theorem ZjO {listed:Array Bool} {i k:Nat} (h:listed.getD i true=false) (hc:listed.toList.count false=k+1):(listed.setIfInBounds i true).toList.count false=k:=by
 have hlt:i<listed.toList.length:=by
  rcases Zy6 i listed.size with h' | h'
  ·simpa using h'
  ·simp [Zyo,Zzb h'] at h
 rw [Zz7,List.count_set hlt]
 have:listed.toList[i]=false:=by
  have hlt':i<listed.size:=by simpa using hlt
  simp only [Zyo,Zyn hlt',Zy0] at h
  simpa using h
 rw [this]
 show listed.toList.count false - 1+0=k
 omega
theorem Zwt (hE:ZQ E) {ops:Array Oper} {c:Nat} (hc:cutOk E.rm ops.toList c=true) (d:List Deferred) {tk0:List (Nat × TypeId)} {G0:Gh} {S1:Addr->Prop} {w1:World} {T:Nat->St} {V:Nat->SV} {M:Nat->St} (hT:Tr E (ops.toList.take c) st T V M) {Q:Exit->Act->World->Prop}
  (hQ:∀(oc:Oper) (G':Gh) (S':Addr->Prop) (w':World) (tmps':Array Value),ops[c]?=some oc->Rel E B S0 w0 (T c) G' S' w' tmps'->Ext tk0 G0 S1 w1 (T c).tk G' S' w'->wpOpIn (Fr r) n E.P ops Q c (wpAnyIn (Fr r) n E.P .any ops Q (ops.size - (c+1)) (Zcf (c+1) ops.size)) { tmps:=tmps',defers:=d } w') :
  ∀(fuel:Nat) (listed:Array Bool) (s:St) (G:Gh) (S:Addr->Prop) (w:World) (tmps:Array Value),listed.size=ops.size->listed.toList.count false=fuel->ZjL ops.toList (λ i=>listed.getD i false=true)->(∀i,c<=i->listed.getD i false=false) ->
   J (ops.toList.take c) st T V (λ i=>listed.getD i false=true) s->Rel E B S0 w0 s G S w tmps->Ext tk0 G0 S1 w1 s.tk G S w->wpAnyIn (Fr r) n E.P .any ops Q fuel listed { tmps:=tmps,defers:=d } w:=by
 simp only [cutOk,Zyi,Zyf] at hc
 obtain ⟨⟨⟨⟨c1,c2⟩,c3⟩,c4⟩,c5⟩:=hc
 have c2':c<ops.size:=by simpa using c2
 have hA:=Zg2 c1
 have hlt:∀i o,ops.toList[i]?=some o->∀e∈o.after,Region.binds .any e=true->e.on<i:=by
  intro i o hi e he hb
  have:=Zym.1 c5 i (ZyP.2 (ZxZ.1 hi).1)
  simp only [hi] at this
  have:=Zym.1 this e (by simpa using he)
  rw [hb] at this
  simpa using this
 have hmask:=Zg1 hlt ops.toList [] 0 rfl (λ j=>by simp) (λ i o hi=>absurd hi (ZzB i))
 have hlen:(ops.toList.take c).length=c:=by simp;omega
 intro fuel
 induction fuel with
 | zero =>
  intro listed s G S w tmps hs hc hC hN hJ R X
  exfalso
  have h1:=hN c (Zyp _)
  have hcl:c<listed.size:=by omega
  simp only [Zyo,Zyn hcl,Zy0] at h1
  have:0<listed.toList.count false:=Z0k.2 (by rw [<-h1];simp)
  omega
 | succ fuel ih =>
  intro listed s G S w tmps hs hc hC hN hJ R X
  refine ⟨λ h=>?_,λ i hi=>?_⟩
  ·exfalso
   have hall:∀i,i<ops.size->listed.getD i false=true:=by
    intro i
    induction i using Nat.strongRecOn with
    | ind i ih =>
     intro hi
     cases hq:listed.getD i false with
     | true=>rfl
     | false =>
      have hmem:i∈Region.ready .any ops listed:=mem_ready.2 ⟨by
       simp only [Zyo,Zyn (show i<listed.size by omega),Zy0] at hq ⊢
       exact hq,ops[i],Zyn hi,λ e he hb=>by
       have:=hlt i ops[i] (by simp [hi]) e he hb
       exact ih e.on this (by omega)⟩
      rw [h] at hmem
      cases hmem
   have:=hall c c2'
   rw [hN c (Zyp _)] at this
   cases this
  ·obtain ⟨h1,o,ho,hall⟩:=mem_ready.1 hi
   have ho':ops.toList[i]?=some o:=by simpa using ho
   have hsz:i<listed.size:=by rw [hs];exact (Zyv.1 ho).1
   have hnl:¬listed.getD i false=true:=by
    simp only [Zyo,Zyn hsz,Zy0] at h1 ⊢
    rw [h1];simp
   rcases Zzs i c with hic | rfl | hic
   ·have hop:(ops.toList.take c)[i]?=some o:=by rw [Zyx,if_pos hic];exact ho'
    have hCp:ZjL (ops.toList.take c) (λ i=>listed.getD i false=true):=λ j p hp hl e he hb=>by
     rw [Zyx] at hp
     split at hp
     ·exact hC j p hp hl e he hb
     ·cases hp
    obtain ⟨m,hstep,hJ'⟩:=hJ.turn hT hA hCp hop hnl hall
    have hset:(λ j=>(listed.setIfInBounds i true).getD j false=true)=λ j=>listed.getD j false=true\/j=i:=by
     funext j;exact propext (Zg3 h1)
    refine Zox hE d R X ho hstep.take λ G' S' w' tmps' R' X'=>?_
    refine ih _ _ G' S' w' tmps' (by simp [hs]) (ZjO h1 hc) ?_ (λ j hj=>?_) (by rw [hset];exact hJ') R' X'
    ·rw [hset]
     intro j p hp hl e he hb
     rcases hl with hl | rfl
     ·exact .inl (hC j p hp hl e he hb)
     ·rw [ho'] at hp;cases hp
      exact .inl (hall e he hb)
    ·have hq:=hN j hj
     cases hx:(listed.setIfInBounds i true).getD j false with
     | false=>rfl
     | true =>
      rcases (Zg3 h1).1 hx with h' | h'
      ·rw [hq] at h';cases h'
      ·omega
   ·have hL:∀j,j<i->listed.getD j false=true:=λ j hj =>
     hmask i o ho' j (Zym.1 c3 j (ZyP.2 hj)) (λ j=>listed.getD j false=true) hC hall
    have e:=hJ.all hT hA (λ j hj=>hL j (by omega))
    rw [hlen] at e
    rw [e] at R X
    have hls:listed.setIfInBounds i true=Zcf (i+1) ops.size:=by
     apply Array.ext
     ·simp [Zcf,hs];omega
     ·intro j hj1 hj2
      have hj:j<listed.size:=by simpa using hj1
      simp only [Zcf,List.getElem_toArray,List.getElem_append,Z0p,List.getElem_replicate]
      by_cases hji:i=j
      ·subst hji;simp
      ·rw [Array.getElem_setIfInBounds_ne hj hji]
       by_cases hlt:j<i+1
       ·simp only [hlt,dite_true]
        have:=hL j (by omega)
        simpa [Zyo,Zyn hj] using this
       ·simp only [hlt,dite_false]
        have:=hN j (by omega)
        simpa [Zyo,Zyn hj] using this
    have hfu:fuel=ops.size - (i+1):=by
     have h2:=ZjO h1 hc
     rw [hls] at h2
     have h3:(Zcf (i+1) ops.size).toList.count false=ops.size - (i+1):=by
      simp [Zcf,List.count_append,List.count_replicate]
     omega
    rw [hls,hfu]
    exact hQ o G S w tmps ho R X
   ·exfalso
    have hb:((ZjM [] ops.toList).getD i 0).testBit c=true:=by
     have:=Zym.1 c4 i (ZyP.2 (ZxZ.1 ho').1)
     rw [Zzd] at this
     rcases this with h' | h'
     ·have:=ZyU h';omega
     ·exact h'
    have:=hmask i o ho' c hb (λ j=>listed.getD j false=true) hC hall
    rw [hN c (Zyp _)] at this
    cases this
theorem Zqu (hE:ZQ E) {id:Nat} {ops:Array Oper} {c:Nat} (d:List Deferred) {tk0:List (Nat × TypeId)} {G0:Gh} {S1:Addr->Prop} {w1:World} {K:St->Prop} (h:ZvX E ops c st K) (R:Rel E B S0 w0 st G S w tmps) (X:Ext tk0 G0 S1 w1 st.tk G S w) {Q:Exit->Act->World->Prop}
  (hQ:∀(st':St) (G':Gh) (S':Addr->Prop) (w':World) (tmps':Array Value),K st'->Rel E B S0 w0 st' G' S' w' tmps'->Ext tk0 G0 S1 w1 st'.tk G' S' w'->Q .normal { tmps:=tmps',defers:=d } w') :
  (Code.region id ops true).wpIn (Fr r) n E.P Q { tmps:=tmps,defers:=d } w:=by
 obtain ⟨hc,h⟩:=h
 obtain ⟨T,V,M,h0,hK,hT⟩:=Zfb _ _ _ h
 have hTr:Tr E (ops.toList.take c) st T V M:=⟨h0,hT⟩
 have hc':=hc
 simp only [cutOk,Zyi,Zyf] at hc'
 have c2':c<ops.size:=by simpa using hc'.1.1.1.2
 have hlen:(ops.toList.take c).length=c:=by simp;omega
 rw [hlen] at hK
 refine wpIn_region_any hE.mixed ?_
 have hb:Below w.heap.size w { w with drawn:=w.drawn+1 }:=Below.drew (Below.refl _ _)
 obtain ⟨R1,X1⟩:=R.transport (S':=S) (w':={ w with drawn:=w.drawn+1 }) (λ _ h=>h) (λ _ h=>.inl h) hb
 have hJ:=hTr.prefix (Zg2 hc'.1.1.1.1) 0 (ZyQ _)
 rw [h0] at hJ
 have e:(λ i=>(Array.replicate ops.size false).getD i false=true)=λ j=>j<0:=by
  funext j
  apply propext
  simp only [Zyo,Z0z]
  constructor
  ·intro h;split at h<;>simp at h
  ·intro h;omega
 refine Zwt hE hc d hTr (λ oc G' S' w' tmps' hoc R' X'=>?_) ops.size (Array.replicate ops.size false) st G S _ tmps (by simp) (by simp) ?_ (λ i _=>?_) (by rw [e];exact hJ) R1 (X.trans X1)
 ·simp only [hoc] at hK
  exact Zos hE hoc d hK R' X' λ st' G2 S2 w2 tmps2 hk R2 X2=>ZjG hE ops d hQ _ _ st' G2 S2 w2 tmps2 hk R2 X2
 ·rw [e];intro i o hi hl;omega
 ·simp only [Zyo,Z0z]
  split<;>rfl
end
inductive AX where
 | normal | exit (id:Nat) | ret
def leS (s s':SV):Prop :=
 match s' with
 | .val .any=>True
 | .val (.list m xs)=>s=.val (.list m xs)\/s.pv=some (.list m xs)\/(xs=[]/\∃m',s.pv=some (.list m' [])/\(m=0->m'=0))
 | s'=>s=s'
def leL:List SV->List SV->Prop
 | [],[]=>True
 | s::r,s'::r'=>leS s s'/\leL r r'
 | _,_=>False
def leB:List (Option (List SV))->List (Option (List SV))->Prop
 | [],[]=>True
 | none::r,none::r'=>leB r r'
 | some cs::r,some cs'::r'=>leL cs cs'/\leB r r'
 | _,_=>False
def SV.within (nb nm nt:Nat):SV->Bool
 | .box id _=>id<nb
 | .msl id _ _=>id<nb
 | .clo _ caps=>caps.all λ c=>match c with | .pv _=>true | .box id _=>id<nb
 | .rbx id _ _ _ _=>id<nb
 | .own t _ _=>t<nt
 | .mp id=>id<nm
 | .row id _ _ _ _=>id<nb
 | .it id=>id<nm
 | .mtup id _=>id<nm
 | _=>true
def ZwR (mp:List ZaK):Bool:=mp.all λ c=>match c with | .iter (some m) _ _ _=>decide (m<mp.length) | _=>true
def leM (c c':ZaK):Prop :=
 match c,c' with
 | _,.gone=>True
 | .ents es mk,.ents es' mk'=>es.Perm es'/\(mk'=none\/mk'=mk)
 | .iter s es l u,.iter s' es' l' u'=>s=s'/\es=es'/\l=l'/\(u'=none\/u'=u)
 | c,c'=>c=c'
def Zwu:List ZaK->List ZaK->Prop
 | [],[]=>True
 | c::r,c'::r'=>leM c c'/\Zwu r r'
 | _,_=>False
def St.nbs (st:St):Nat × Nat:=(st.bx.length,st.ax.mp.length+st.tk.length)
def ZrG:List Tmp->List PV->List SV->List SV
 | t::ts,p::ps,sl=>ZrG ts ps (sl.set t (.val p))
 | _,_,sl=>sl
def St.params (st:St) (ts:List Tmp) (ps:List PV):St:={ st with sl:=ZrG ts ps st.sl }
def St.withSl (st:St) (sl:List SV):St:={ st with sl:=sl }
inductive Wk (nb:Nat × Nat):St->St->Prop
 | refl (st:St):Wk nb st st
 | trans (a b c:St):Wk nb a b->Wk nb b c->Wk nb a c
 | forget (sl sl':List SV) (bx:List (Option (List SV))) (tk:List (Nat × TypeId)) (ax:Ax) (h:leL sl sl'):Wk nb ⟨sl,bx,tk,ax⟩ ⟨sl',bx,tk,ax⟩
 | forgetBx (sl:List SV) (bx bx':List (Option (List SV))) (tk:List (Nat × TypeId)) (ax:Ax) (h:leB bx bx'):Wk nb ⟨sl,bx,tk,ax⟩ ⟨sl,bx',tk,ax⟩
 | drop (sl:List SV) (bx bx':List (Option (List SV))) (tk:List (Nat × TypeId)) (mp mp':List ZaK) (yk:Nat) (hnb:nb.1<=bx.length) (hnm:mp'=[]\/(nb.2<=mp.length/\ZwR mp=true)) (h:sl.all (SV.within bx.length mp.length tk.length)=true)
   (h':bx.all (λ o=>match o with | none=>true | some cs=>cs.all (SV.within bx.length mp.length tk.length))=true):Wk nb ⟨sl,bx++bx',tk,⟨mp++mp',yk⟩⟩ ⟨sl,bx,tk,⟨mp,yk⟩⟩
 | dropT (sl:List SV) (bx:List (Option (List SV))) (tk tk':List (Nat × TypeId)) (ax:Ax) (hnt:nb=(0,0)) (h:sl.all (SV.within bx.length ax.mp.length tk.length)=true)
   (h':bx.all (λ o=>match o with | none=>true | some cs=>cs.all (SV.within bx.length ax.mp.length tk.length))=true):Wk nb ⟨sl,bx,tk++tk',ax⟩ ⟨sl,bx,tk,ax⟩
 | own (sl:List SV) (bx:List (Option (List SV))) (tk:List (Nat × TypeId)) (ax:Ax) (t m m':Nat) (xs:List PV) (e:TypeId) (h:sl[t]?=some (.lit m xs)) (hm:m=m'\/xs=[]) (hm0:m'≠0:=by decide) :
   Wk nb ⟨sl,bx,tk,ax⟩ ⟨sl.set t (.own tk.length m' xs),bx,tk++[(xs.length,e)],ax⟩
 | ownBx (sl:List SV) (bx:List (Option (List SV))) (tk:List (Nat × TypeId)) (ax:Ax) (id j m m':Nat) (cs:List SV) (xs:List PV) (e:TypeId) (hb:bx[id]?=some (some cs)) (h:cs[j]?=some (.lit m xs)) (hm:m=m'\/xs=[]) (hm0:m'≠0:=by decide) :
   Wk nb ⟨sl,bx,tk,ax⟩ ⟨sl,bx.set id (some (cs.set j (.own tk.length m' xs))),tk++[(xs.length,e)],ax⟩
 | forgetMp (sl:List SV) (bx:List (Option (List SV))) (tk:List (Nat × TypeId)) (mp mp':List ZaK) (yk:Nat) (h:Zwu mp mp'):Wk nb ⟨sl,bx,tk,⟨mp,yk⟩⟩ ⟨sl,bx,tk,⟨mp',yk⟩⟩
def wpC (E:Env):Code->Nat × Nat->St->(AX->St->Prop)->Prop
 | .skip,_,st,Q=>Q .normal st
 | .region id ops draw,_,st,Q=>match Zbf E draw id ops.size with
  | .each=>ZeC E ops ops.size (Array.replicate ops.size false) st (Q .normal)
  | .cut c=>ZvX E ops c st (Q .normal)
  | .text=>(!draw || ZjN E.rm ops.toList)=true/\Zbb E draw ops.toList ops.toList st (Q .normal)
 | .seq a b,nb,st,Q=>wpC E a nb st λ e st'=>match e with | .normal=>wpC E b nb st' Q | .exit i=>Q (.exit i) st' | .ret=>Q .ret st'
 | .cond c a b,nb,st,Q =>
  match Zp st c with
  | .val (.bool t)=>(t=true->wpC E a nb st Q)/\(t=false->wpC E b nb st Q)
  | _=>False
 | .block id body,nb,st,Q=>wpC E body nb st λ e st'=>match e with | .normal=>Q .normal st' | .exit i=>if i=id then Q .normal st' else Q (.exit i) st' | .ret=>Q .ret st'
 | .loop body,nb,st,Q=>∃(I:Nat->St->Prop),(∃n0 st0,Wk nb st st0/\I n0 st0) /\
   ∀n s,I n s->wpC E body nb s λ e s'=>match e with | .normal=>∃n' s'',n'<n/\Wk nb s' s''/\I n' s'' | .exit i=>Q (.exit i) s' | .ret=>Q .ret s'
 | .rangeFunc g ps asg body,nb,st,Q =>
  match Zp st g with
  | .val (.fn f caps)=>∃xs an,ZkY E.P f caps xs an/\(∀x∈xs,x.length=ps.size)/\∃(I:Nat->St->Prop) (s0:St),Wk nb st s0/\I 0 s0/\(∀k s,I k s->s.sl=s0.sl) /\
    (∀k k1 s x,ZmB an xs k x k1->I k s->wpC E asg s.nbs (s.params ps.toList x) λ e s1=>match e with
     | .normal=>wpC E body s1.nbs s1 λ e s2=>match e with
      | .normal=>∃s3,Wk s.nbs (s2.withSl s0.sl) s3/\I k1 s3
      | .exit i=>Q (.exit i) (s2.withSl s0.sl)
      | .ret=>Q .ret (s2.withSl s0.sl)
     | _=>False) /\
    (∀k s,Ziz an xs k->I k s->Q .normal s)
  | _=>False
 | .exit id,_,st,Q=>Q (.exit id) st
 | .ret,_,st,Q=>Q .ret st
 | .label _,_,st,Q=>Q .normal st
 | .scope b,nb,st,Q=>wpC E b nb st Q
 | _,_,_,_=>False
def ZeH (E:Env) (st:St):List ResultVar->Option (Prop × List PV)
 | []=>some (True,[])
 | .tmp t::r =>
  match (st.sl.getD t .undef).pv,ZeH E st r with
  | some p,some (s,l)=>some (s,p::l)
  | _,_=>none
 | .cell a ty::r =>
  match YZ E ty (st.sl.getD a .undef) st,ZeH E st r with
  | some x,some (s,l)=>match x.v.pv with | some p=>some (x.side/\s,p::l) | none=>none
  | _,_=>none
def ZvY (l:List PV):PV:=match l with | [p]=>p | l=>.tup l
def Zi3 (E:Env) (rs:List ResultVar) (st:St) (p:PV):Prop :=
 match ZeH E st rs with
 | some (s,l)=>s/\ZvY l=p
 | none=>False
section
variable {E:Env} {B:Nat} {S0:Addr->Prop} {w0:World} {st:St} {G:Gh} {S:Addr->Prop} {w:World} {tmps:Array Value} {r:Option Nat} {n:Nat}
theorem ZrH {tk:List (Nat × TypeId)} {s s':SV} {v:Value} (h:leS s s') (hr:RSV tk G S w s v):RSV tk G S w s' v:=by
 unfold leS at h
 split at h
 ·exact RV.any v
 ·rename_i m xs
  rcases h with rfl | h | ⟨rfl,m',h,h0⟩
  ·exact hr
  ·exact RSV.pv hr h
  ·have:=RSV.pv hr h
   obtain ⟨a,ad,cap,g,rfl,_,_,hmax,_⟩:=RV.slice_iff this
   exact RV.list_nil m a cap hmax (λ e=>RV.nilz this (h0 e))
 ·subst h;exact hr
theorem ZmV:∀{l l':List SV},leL l l'->l'.length=l.length
 | [],[],_=>rfl
 | _::_,_::_,h=>by simp [ZmV h.2]
 | [],_::_,h=>h.elim
 | _::_,[],h=>h.elim
theorem ZmW:∀{l l':List SV},leL l l'->∀(i:Nat) (s':SV),l'[i]?=some s'->∃s,l[i]?=some s/\leS s s'
 | [],[],_,i,s',h=>by simp at h
 | s::r,t::r',h,i,s',hs=>by
  cases i with
  | zero=>simp at hs;subst hs;exact ⟨s,rfl,h.1⟩
  | succ i =>
   obtain ⟨s0,a,b⟩:=ZmW h.2 i s' (by simpa using hs)
   exact ⟨s0,by simpa using a,b⟩
 | [],_::_,h,_,_,_=>h.elim
 | _::_,[],h,_,_,_=>h.elim
theorem Zjt.perm {b:Nat} {es es':List (PV × PV)} {mk mk':Option (PV × Int)} (h:Zjt S w b es mk) (hp:es.Perm es') (hm:mk'=none\/mk'=mk):Zjt S w b es' mk':=by
 obtain ⟨arr,clock,es0,h1,h2,h3,h4,h5⟩:=h
 refine ⟨arr,clock,es0,h1,h2.trans hp,h3,h4,λ k n e=>?_⟩
 rcases hm with rfl | rfl
 ·cases e
 ·exact h5 k n e
theorem Zgt.cur {b bm:Nat} {l:List PV} {u u':Option PV} (h:Zgt w b bm l u) (hu:u'=none\/u'=u):Zgt w b bm l u':=by
 rcases hu with rfl | rfl
 ·obtain ⟨arr,clock,since,seen,last,q1,q2,q3,q4,q5,q6,q7,q8,q9⟩:=h
  exact ⟨arr,clock,since,seen,last,q1,q2,q3,q4,q5,q6,q7,q8,λ k e=>by cases e⟩
 ·exact h
theorem Zwv {M:List Nat} {b:Nat} {c c':ZaK} (h:leM c c') (hc:ZaD E M S w b c):ZaD E M S w b c':=by
 unfold leM at h
 split at h
 ·trivial
 ·exact ⟨hc.1.perm h.1 h.2,hc.2⟩
 ·rename_i s es l u s' es' l' u'
  obtain ⟨rfl,rfl,rfl,hu⟩:=h
  cases s with
  | some m=>obtain ⟨⟨bm,h1,h2⟩,h3⟩:=hc;exact ⟨⟨bm,h1,h2.cur hu⟩,h3⟩
  | none =>
   obtain ⟨h1,h3⟩:=hc
   refine ⟨h1.imp (λ h=>⟨h.1,h.2.1,?_⟩) (λ ⟨bm,a,b,c⟩=>⟨bm,a,b,c.cur hu⟩),h3⟩
   rcases hu with hu | hu
   ·exact hu
   ·rw [hu];exact h.2.2
 ·subst h;exact hc
theorem Zoz:∀{l l':List ZaK},Zwu l l'->l'.length=l.length/\∀(i:Nat) (c':ZaK),l'[i]?=some c'->∃c,l[i]?=some c/\leM c c'
 | [],[],_=>⟨rfl,λ i c' h=>by simp at h⟩
 | c::r,c'::r',h=>by
  obtain ⟨a,b⟩:=Zoz h.2
  refine ⟨by simp [a],λ i d hd=>?_⟩
  cases i with
  | zero=>simp at hd;subst hd;exact ⟨c,rfl,h.1⟩
  | succ i=>obtain ⟨c0,h1,h2⟩:=b i d (by simpa using hd);exact ⟨c0,by simpa using h1,h2⟩
 | [],_::_,h=>h.elim
 | _::_,[],h=>h.elim
theorem ZaD.take {M M':List Nat} {b:Nat} {c:ZaK} (h:ZaD E M S w b c) (hm:∀(m:Nat) es l u,c=.iter (some m) es l u->M'[m]?=M[m]?):ZaD E M' S w b c:=by
 match c,h,hm with
 | .plain k e n,h,_=>exact h
 | .ents es um,h,_=>exact h
 | .iter (some m) es l u,h,hm =>
  obtain ⟨⟨bm,h1,h2⟩,h3⟩:=h
  exact ⟨⟨bm,(hm m es l u rfl).trans h1,h2⟩,h3⟩
 | .iter none es l u,h,_=>exact h
 | .gone,_,_=>trivial
theorem RSV.within_ {tk:List (Nat × TypeId)} {nb nm:Nat} {s:SV} {v:Value} (h:s.within nb nm tk.length=true) (hr:RSV tk G S w s v):RSV tk ⟨G.bx.take nb,G.tk,G.mp.take nm,G.fp⟩ S w s v:=by
 cases s with
 | undef=>exact hr
 | val p=>exact hr
 | lit m xs=>exact hr
 | own t m xs=>exact hr
 | box id off =>
  obtain ⟨b,h1,h2⟩:=hr
  exact ⟨b,by simp only [SV.within,Zyf] at h;rw [Zyx,if_pos h];exact h1,h2⟩
 | msl id off len =>
  obtain ⟨b,cap,h1,h2⟩:=hr
  exact ⟨b,cap,by simp only [SV.within,Zyf] at h;rw [Zyx,if_pos h];exact h1,h2⟩
 | clo f caps =>
  obtain ⟨vs,h1,h2,h3⟩:=hr
  refine ⟨vs,h1,h2,λ i c u a b=>?_⟩
  have hc:=h3 i c u a b
  cases c with
  | pv p=>exact hc
  | box id off =>
   obtain ⟨b',k1,k2⟩:=hc
   have:=Zym.1 h _ (Zyb a)
   simp only [Zyf] at this
   exact ⟨b',by rw [Zyx,if_pos this];exact k1,k2⟩
 | rbx id off i m k =>
  obtain ⟨b,h1,h2⟩:=hr
  exact ⟨b,by simp only [SV.within,Zyf] at h;rw [Zyx,if_pos h];exact h1,h2⟩
 | mp id =>
  obtain ⟨b,h1,h2⟩:=hr
  exact ⟨b,by simp only [SV.within,Zyf] at h;rw [Zyx,if_pos h];exact h1,h2⟩
 | it id =>
  obtain ⟨b,h1,h2⟩:=hr
  exact ⟨b,by simp only [SV.within,Zyf] at h;rw [Zyx,if_pos h];exact h1,h2⟩
 | mtup id ps =>
  obtain ⟨b,vs,h1,h2⟩:=hr
  exact ⟨b,vs,by simp only [SV.within,Zyf] at h;rw [Zyx,if_pos h];exact h1,h2⟩
 | row id off m len cap =>
  obtain ⟨b,h1,h2⟩:=hr
  exact ⟨b,by simp only [SV.within,Zyf] at h;rw [Zyx,if_pos h];exact h1,h2⟩
theorem ZmX:∀{l l':List (Option (List SV))},leB l l'->l'.length=l.length/\∀(i:Nat) (cs':List SV),l'[i]?=some (some cs')->∃cs,l[i]?=some (some cs)/\leL cs cs'
 | [],[],_=>⟨rfl,λ i cs' h=>by simp at h⟩
 | none::r,none::r',h=>by
  obtain ⟨a,b⟩:=ZmX (l:=r) (l':=r') h
  refine ⟨by simp [a],λ i cs' hs=>?_⟩
  cases i with
  | zero=>simp at hs
  | succ i=>simpa using b i cs' (by simpa using hs)
 | some cs::r,some cs2::r',h=>by
  obtain ⟨a,b⟩:=ZmX (l:=r) (l':=r') h.2
  refine ⟨by simp [a],λ i cs' hs=>?_⟩
  cases i with
  | zero=>simp at hs;subst hs;exact ⟨cs,rfl,h.1⟩
  | succ i=>simpa using b i cs' (by simpa using hs)
 | [],_::_,h=>h.elim
 | _::_,[],h=>by
  rename_i a l
  cases a<;>exact h.elim
 | none::_,some _::_,h=>h.elim
 | some _::_,none::_,h=>h.elim
theorem Rel.wk {nb:Nat × Nat} {tk0:List (Nat × TypeId)} {G0:Gh} {S1:Addr->Prop} {w1:World} (hnb:G0.bx.length<=nb.1) (hnm:G0.mp.length<=nb.2/\(nb=(0,0)->tk0=[])) {st st':St} (h:Wk nb st st') :
  ∀{G:Gh},Rel E B S0 w0 st G S w tmps->Ext tk0 G0 S1 w1 st.tk G S w->∃G',Rel E B S0 w0 st' G' S w tmps/\Ext tk0 G0 S1 w1 st'.tk G' S w/\∀b,Zag G' b->Zag G b:=by
 induction h with
 | refl st=>exact λ R X=>⟨_,R,X,λ _ h=>h⟩
 | trans a b c _ _ ih1 ih2 =>
  intro G R X
  obtain ⟨G1,R1,X1,F1⟩:=ih1 R X
  obtain ⟨G2,R2,X2,F2⟩:=ih2 R1 X1
  exact ⟨G2,R2,X2,λ b h=>F1 b (F2 b h)⟩
 | forget sl sl' bx tk ax h =>
  intro G R X
  refine ⟨G,⟨R.inv,R.below,by rw [<-R.len];exact ZmV h,λ t s v h1 h2=>?_⟩,X,λ _ h=>h⟩
  obtain ⟨s0,a,b⟩:=ZmW h t s h1
  exact ZrH b (R.sl t s0 v a h2)
 | forgetBx sl bx bx' tk ax h =>
  intro G R X
  have hI:=R.inv
  obtain ⟨hlb,hgb⟩:=ZmX h
  refine ⟨G,⟨⟨hI.base,hI.s0,hI.slt,by rw [hI.lbx];exact hlb.symm,hI.ltk,hI.old,hI.dist,λ id b cs h1 h2=>?_,hI.tok,hI.apart,hI.lmp,hI.dmp,hI.mpo,hI.mpk,hI.flt,hI.fbx,hI.ftk,hI.fmp,hI.yl⟩,R.below,R.len,R.sl⟩,X,λ _ h=>h⟩
  obtain ⟨cs0,a,b'⟩:=hgb id cs h1
  obtain ⟨⟨t,arr,a1,a2,a3⟩,a4⟩:=hI.box id b cs0 a h2
  refine ⟨⟨t,arr,a1,by rw [a2];exact (ZmV b').symm,λ j c v c1 c2=>?_⟩,a4⟩
  obtain ⟨c0,d1,d2⟩:=ZmW b' j c c1
  exact ⟨ZrH d2 (a3 j c0 v d1 c2).1,(a3 j c0 v d1 c2).2⟩
 | drop sl bx bx' tk mp mp' yk hb' hm' h h' =>
  intro G R X
  have hI:=R.inv
  have hget:∀(i b:Nat),(G.bx.take bx.length)[i]?=some b->G.bx[i]?=some b/\i<bx.length:=by
   intro i b hb
   rw [Zyx] at hb
   split at hb
   ·exact ⟨hb,by assumption⟩
   ·cases hb
  have hgem:∀(i b:Nat),(G.mp.take mp.length)[i]?=some b->G.mp[i]?=some b/\i<mp.length:=by
   intro i b hb
   rw [Zyx] at hb
   split at hb
   ·exact ⟨hb,by assumption⟩
   ·cases hb
  have hlen:=hI.lbx
  have hlem:=hI.lmp
  have hnm1:=hnm.1
  have hlem0:G0.mp.length<=mp.length:=by
   rcases hm' with rfl | hm'
   ·rw [Zzp] at hlem
    rw [<-hlem]
    exact Z0c λ hlt=>by have h0:=X.mp G.mp.length _ (Zya hlt);rw [Zyw (Zyp _)] at h0;cases h0
   ·omega
  have hfoot:∀b,Zag ⟨G.bx.take bx.length,G.tk,G.mp.take mp.length,G.fp⟩ b->Zag G b:=by
   rintro b (⟨i,h⟩ | h | ⟨i,h⟩ | h)
   ·exact .inl ⟨i,(hget i b h).1⟩
   ·exact .inr (.inl h)
   ·exact .inr (.inr (.inl ⟨i,(hgem i b h).1⟩))
   ·exact .inr (.inr (.inr h))
  have hX:Ext tk0 G0 S1 w1 tk ⟨G.bx.take bx.length,G.tk,G.mp.take mp.length,G.fp⟩ S w:=⟨λ i b hb=>by
   have hi:i<G0.bx.length:=(ZxZ.1 hb).1
   rw [Zyx,if_pos (by omega)]
   exact X.bx i b hb,X.tk,X.sub,X.cell,λ i b hb=>by
   have hi:i<G0.mp.length:=(ZxZ.1 hb).1
   rw [Zyx,if_pos (by omega)]
   exact X.mp i b hb,X.calm,X.same,λ b hb hf=>X.foot b hb (hfoot b hf),X.new⟩
  refine ⟨⟨G.bx.take bx.length,G.tk,G.mp.take mp.length,G.fp⟩,⟨⟨hI.base,hI.s0,hI.slt,by simp at hlen ⊢;omega,hI.ltk,λ i b hb=>hI.old i b (hget i b hb).1,λ i j b h1 h2=>hI.dist i j b (hget i b h1).1 (hget j b h2).1,λ id b cs h1 h2=>?_,λ t n e hv h1 h2=>?_,hI.apart,
   by simp at hlem ⊢;omega,λ i j b h1 h2=>hI.dmp i j b (hgem i b h1).1 (hgem j b h2).1,λ i b hb=>hI.mpo i b (hgem i b hb).1,λ i b c h1 h2=>?_,hI.flt,λ i b hb=>hI.fbx i b (hget i b hb).1,hI.ftk,λ i b hb=>hI.fmp i b (hgem i b hb).1,hI.yl⟩,R.below,R.len,λ t s v h1 h2=>?_⟩,hX,hfoot⟩
  ·have hid:id<bx.length:=(ZxZ.1 h1).1
   obtain ⟨⟨t,arr,a1,a2,a3⟩,a4⟩:=hI.box id b cs (by rw [Zye hid];exact h1) (hget id b h2).1
   refine ⟨⟨t,arr,a1,a2,λ j c v b1 b2=>⟨?_,(a3 j c v b1 b2).2⟩⟩,a4⟩
   have hw:=Zym.1 h' (some cs) (Zyb h1)
   exact RSV.within_ (Zym.1 hw c (Zyb b1)) (a3 j c v b1 b2).1
  ·obtain ⟨a,cap,a1,a2,a3,a4⟩:=hI.tok t n e hv h1 h2
   refine ⟨a,cap,a1,a2,a3,λ hlt=>?_⟩
   obtain ⟨g,cur,c1,c2,c3,c4,c5,c6⟩:=a4 hlt
   exact ⟨g,cur,c1,c2,c3,c4,c5,λ i hi=>c6 i (hget i g hi).1⟩
  ·have hi:=(hgem i b h2).2
   refine (hI.mpk i b c (by show (mp++mp')[i]?=_;rw [Zye hi];exact h1) (hgem i b h2).1).take (λ m es l u e=>?_)
   show (G.mp.take mp.length)[m]?=G.mp[m]?
   rw [Zyx]
   split
   ·rfl
   ·rename_i hml
    rcases hm' with rfl | hm'
    ·have hl2:G.mp.length=mp.length:=by simpa using hI.lmp
     rw [Zyw (by omega)]
    ·subst e
     have:=Zym.1 hm'.2 _ (Zyb h1)
     simp only [Zyf] at this
     exact absurd this hml
  ·exact RSV.within_ (Zym.1 h s (Zyb h1)) (R.sl t s v h1 h2)
 | forgetMp sl bx tk mp mp' yk h =>
  intro G R X
  have hI:=R.inv
  obtain ⟨hl,hg⟩:=Zoz h
  exact ⟨G,⟨⟨hI.base,hI.s0,hI.slt,hI.lbx,hI.ltk,hI.old,hI.dist,hI.box,hI.tok,hI.apart,by show _=mp'.length;rw [hl];exact hI.lmp,hI.dmp,hI.mpo,λ i b c h1 h2=>by
   obtain ⟨c0,k1,k2⟩:=hg i c h1
   exact Zwv k2 (hI.mpk i b c0 k1 h2),hI.flt,hI.fbx,hI.ftk,hI.fmp,hI.yl⟩,R.below,R.len,R.sl⟩,X,λ _ h=>h⟩
 | dropT sl bx tk tk' ax hnt h h' =>
  intro G R X
  have hI:=R.inv
  have htk0:tk0=[]:=hnm.2 hnt
  have hget:∀(i:Nat) (v:Value),(G.tk.take tk.length)[i]?=some v->G.tk[i]?=some v/\i<tk.length:=by
   intro i b hb
   rw [Zyx] at hb
   split at hb
   ·exact ⟨hb,by assumption⟩
   ·cases hb
  have hlen:=hI.ltk
  have hfoot:∀b,Zag ⟨G.bx,G.tk.take tk.length,G.mp,G.fp⟩ b->Zag G b:=by
   rintro b (h | ⟨t,n,cap,h,h2⟩ | h | h)
   ·exact .inl h
   ·exact .inr (.inl ⟨t,n,cap,(hget t _ h).1,h2⟩)
   ·exact .inr (.inr (.inl h))
   ·exact .inr (.inr (.inr h))
  have hX:Ext tk0 G0 S1 w1 tk ⟨G.bx,G.tk.take tk.length,G.mp,G.fp⟩ S w:=⟨X.bx,λ t hv le h1 h2=>by rw [htk0] at h2;simp at h2,X.sub,X.cell,X.mp,X.calm,X.same,λ b hb hf=>X.foot b hb (hfoot b hf),X.new⟩
  have hsv:∀(s:SV) (v:Value),s.within bx.length ax.mp.length tk.length=true->RSV (tk++tk') G S w s v->RSV tk ⟨G.bx,G.tk.take tk.length,G.mp,G.fp⟩ S w s v:=by
   intro s v hw hr
   cases s with
   | own t m xs =>
    obtain ⟨h1,hv,le,h2,h3,h4,h5⟩:=hr
    simp only [SV.within,Zyf] at hw
    exact ⟨h1,hv,le,by rw [Zyx,if_pos hw];exact h2,by rw [Zye hw] at h3;exact h3,h4,h5⟩
   | undef=>exact hr
   | val p=>exact hr
   | lit m xs=>exact hr
   | box id off=>exact hr
   | msl id off len=>exact hr
   | clo f caps=>exact hr
   | rbx id off i m k=>exact hr
   | mp id=>exact hr
   | it id=>exact hr
   | mtup id ps=>exact hr
   | row id off m len cap=>exact hr
  refine ⟨⟨G.bx,G.tk.take tk.length,G.mp,G.fp⟩,⟨⟨hI.base,hI.s0,hI.slt,hI.lbx,by simp at hlen ⊢;omega,hI.old,hI.dist,λ id b cs h1 h2=>?_,λ t n e hv h1 h2=>?_,λ t t' n n' cap cap' g hne h1 h2=>?_,
   hI.lmp,hI.dmp,hI.mpo,hI.mpk,hI.flt,hI.fbx,λ t n cap g h1 h2=>hI.ftk t n cap g (hget t _ h1).1 h2,hI.fmp,hI.yl⟩,R.below,R.len,λ t s v h1 h2=>hsv s v (Zym.1 h s (Zyb h1)) (R.sl t s v h1 h2)⟩,hX,hfoot⟩
  ·obtain ⟨⟨t,arr,a1,a2,a3⟩,a4⟩:=hI.box id b cs h1 h2
   have hw:=Zym.1 h' (some cs) (Zyb h1)
   exact ⟨⟨t,arr,a1,a2,λ j c v b1 b2=>⟨hsv c v (Zym.1 hw c (Zyb b1)) (a3 j c v b1 b2).1,(a3 j c v b1 b2).2⟩⟩,a4⟩
  ·obtain ⟨k1,k2⟩:=hget t hv h2
   exact hI.tok t n e hv (by rw [Zye k2];exact h1) k1
  ·rcases hI.apart t t' n n' cap cap' g hne (hget t _ h1).1 h2 with h3 | h3
   ·exact .inl λ h4=>h3 (hget t' _ h4).1
   ·exact .inr h3
 | own sl bx tk ax t m m' xs e h hm hm0 =>
  intro G R X
  have ht:t<tmps.size:=by rw [<-R.len];exact (ZxZ.1 h).1
  have hv:=R.sl t _ _ h (Zyn ht)
  obtain ⟨hlist,a,ha⟩:=hv
  obtain ⟨a',ad,cap,g,he,_,hcap,hmax,_⟩:=RV.slice_iff hlist
  rw [ha] at he
  injection he with _ _ hc
  have hvac:∀{g n' cap':Nat},tmps[t]=.slice (some ⟨g,0,none⟩) n' cap'->n'<cap'->False:=λ h1 h2=>by rw [ha] at h1;injection h1 with _ h3 h4;omega
  obtain ⟨R1,X1,h1,h2⟩:=R.tokNew X (n:=xs.length) (e:=e) (hv:=tmps[t]) ⟨⟨a,xs.length,ha,Zyp _,by rw [hc];exact hmax,λ h=>absurd h (Z0r _)⟩,λ g n' cap' t' n'' cap'' h1 h2 _ _=>(hvac h1 h2).elim,λ g n' cap' h1 h2=>(hvac h1 h2).elim⟩ (λ g n' cap' h1 h2=>(hvac h1 h2).elim)
  refine ⟨_,⟨R1.inv,R1.below,by simp [R1.len],λ i s v k1 k2=>?_⟩,X1,λ b hb=>?_⟩
  ·simp only [ZyC] at k1
   split at k1
   ·rename_i hi
    subst hi
    split at k1
    ·cases k1
     rw [Zyn ht] at k2
     cases k2
     refine ⟨?_,_,_,h1,h2,Zyp _,λ _=>rfl⟩
     rcases hm with rfl | rfl
     ·exact hlist
     ·rw [ha];exact RV.list_nil m' a 0 (ZyQ _) (λ h=>absurd h hm0)
    ·cases k1
   ·exact R1.sl i s v k1 k2
  ·rcases hb with hb | ⟨t',n',cap',q1,q2⟩ | hb
   ·exact .inl hb
   ·rcases Zzs t' G.tk.length with h' | h' | h'
    ·exact .inr (.inl ⟨t',n',cap',by simpa [Zye h'] using q1,q2⟩)
    ·subst h';simp at q1;exact (hvac q1 q2).elim
    ·rw [Zyw (by simp;omega)] at q1;cases q1
   ·exact .inr (.inr hb)
 | ownBx sl bx tk ax id j m m' cs xs e hb h hm hm0 =>
  intro G R X
  have hI:=R.inv
  have hid:id<bx.length:=(ZxZ.1 hb).1
  have hid':id<G.bx.length:=by rw [hI.lbx];exact hid
  have hgb:G.bx[id]?=some G.bx[id]:=Zya hid'
  obtain ⟨⟨ty,arr,a1,a2,a3⟩,a4⟩:=hI.box id _ cs hb hgb
  have hj:j<cs.length:=(ZxZ.1 h).1
  have hj':j<arr.size:=by rw [a2];exact hj
  have hv:=(a3 j _ _ h (Zyn hj')).1
  obtain ⟨hlist,a,ha⟩:=hv
  obtain ⟨a',ad,cap,g,he,_,hcap,hmax,_⟩:=RV.slice_iff hlist
  rw [ha] at he
  injection he with _ _ hc
  have hvac:∀{g n' cap':Nat},arr[j]=.slice (some ⟨g,0,none⟩) n' cap'->n'<cap'->False:=λ h1 h2=>by rw [ha] at h1;injection h1 with _ h3 h4;omega
  obtain ⟨R1,X1,h1,h2⟩:=R.tokNew X (n:=xs.length) (e:=e) (hv:=arr[j]) ⟨⟨a,xs.length,ha,Zyp _,by rw [hc];exact hmax,λ h=>absurd h (Z0r _)⟩,λ g n' cap' t' n'' cap'' h1 h2 _ _=>(hvac h1 h2).elim,λ g n' cap' h1 h2=>(hvac h1 h2).elim⟩ (λ g n' cap' h1 h2=>(hvac h1 h2).elim)
  have hI1:=R1.inv
  refine ⟨_,⟨⟨hI1.base,hI1.s0,hI1.slt,by simpa using hI1.lbx,hI1.ltk,hI1.old,hI1.dist,λ id' b cs' k1 k2=>?_,hI1.tok,hI1.apart,hI1.lmp,hI1.dmp,hI1.mpo,hI1.mpk,hI1.flt,hI1.fbx,hI1.ftk,hI1.fmp,hI1.yl⟩,R1.below,R1.len,R1.sl⟩,X1,λ b hb=>?_⟩
  ·simp only [ZyC] at k1
   split at k1
   ·rename_i hi
    subst hi
    cases k1
    obtain ⟨⟨t',arr',b1,b2,b3⟩,b4⟩:=hI1.box id b cs hb k2
    have hbe:b=G.bx[id]:=by
     have:G.bx[id]?=some b:=k2
     rw [hgb] at this;exact (Zyc this).symm
    subst hbe
    rw [a1] at b1
    cases b1
    refine ⟨⟨ty,arr,a1,by simp [b2],λ i c v c1 c2=>?_⟩,b4⟩
    rw [ZyC] at c1
    split at c1
    ·rename_i hij
     subst hij
     cases c1
     rw [Zyn hj'] at c2
     cases c2
     refine ⟨⟨?_,_,_,h1,h2,Zyp _,λ _=>rfl⟩,by rw [ha];rfl⟩
     rcases hm with rfl | rfl
     ·exact hlist
     ·rw [ha];exact RV.list_nil m' a 0 (ZyQ _) (λ h=>absurd h hm0)
    ·exact b3 i c v c1 c2
   ·exact hI1.box id' b cs' k1 k2
  ·rcases hb with hb | ⟨t',n',cap',q1,q2⟩ | hb
   ·exact .inl hb
   ·rcases Zzs t' G.tk.length with h' | h' | h'
    ·exact .inr (.inl ⟨t',n',cap',by simpa [Zye h'] using q1,q2⟩)
    ·subst h';simp at q1;exact (hvac q1 q2).elim
    ·rw [Zyw (by simp;omega)] at q1;cases q1
   ·exact .inr (.inr hb)
theorem Yr {w:World} {b:Nat} {o:Obj} (h:w.heap[b]?=some o):b<w.heap.size:=(Zyv.1 h).1
structure Put (b0:Nat) (rr:Option (Nat × Loop)) (d ds:List Deferred) (G:Gh) (w:World):Prop where
 put:∃Ds:List Nat,ds=Ds.map (λ D=>({ target:=.collected D,args:=#[] }:Deferred))++d/\Ds.Nodup/\∀D∈Ds,w.heap[D]?=some (.deferred (some []))/\¬Zag G D/\b0<=D
 rnd:∀x,rr=some x->w.heap[x.1]?=some (.loop x.2)/\¬Zag G x.1
 lo:b0<=w.heap.size
theorem Put.ext {b0:Nat} {rr:Option (Nat × Loop)} {d ds:List Deferred} {tk tk':List (Nat × TypeId)} {G':Gh} {S':Addr->Prop} {w':World} (h:Put b0 rr d ds G w) (X:Ext tk G S w tk' G' S' w'):Put b0 rr d ds G' w':=by
 obtain ⟨⟨Ds,h1,h2,h3⟩,h4,h5⟩:=h
 exact ⟨⟨Ds,h1,h2,λ D hD=>⟨(X.same D (Yr (h3 D hD).1) (h3 D hD).2.1).trans (h3 D hD).1,λ hf=>(h3 D hD).2.1 (X.foot D (Yr (h3 D hD).1) hf),(h3 D hD).2.2⟩⟩,
  λ x hx=>⟨(X.same x.1 (Yr (h4 x hx).1) (h4 x hx).2).trans (h4 x hx).1,λ hf=>(h4 x hx).2 (X.foot x.1 (Yr (h4 x hx).1) hf)⟩,Zy1 h5 X.calm.size⟩
theorem Put.foot {b0:Nat} {rr:Option (Nat × Loop)} {d ds:List Deferred} {G':Gh} (h:Put b0 rr d ds G w) (hf:∀b,Zag G' b->Zag G b):Put b0 rr d ds G' w:=by
 obtain ⟨⟨Ds,h1,h2,h3⟩,h4,h5⟩:=h
 exact ⟨⟨Ds,h1,h2,λ D hD=>⟨(h3 D hD).1,λ h=>(h3 D hD).2.1 (hf D h),(h3 D hD).2.2⟩⟩,λ x hx=>⟨(h4 x hx).1,λ h=>(h4 x hx).2 (hf x.1 h)⟩,h5⟩
def LQ (E:Env) (B:Nat) (S0:Addr->Prop) (w0:World) (tk0:List (Nat × TypeId)) (G0:Gh) (S1:Addr->Prop) (w1:World) (b0:Nat) (rr:Option (Nat × Loop)) (d:List Deferred) (Q:AX->St->Prop):Exit->Act->World->Prop
 | .normal,a,w=>∃st G S,Q .normal st/\Rel E B S0 w0 st G S w a.tmps/\Ext tk0 G0 S1 w1 st.tk G S w/\Put b0 rr d a.defers G w
 | .exit id,a,w=>∃st G S,Q (.exit id) st/\Rel E B S0 w0 st G S w a.tmps/\Ext tk0 G0 S1 w1 st.tk G S w/\Put b0 rr d a.defers G w
 | .ret,a,w=>∃st G S,Q .ret st/\Rel E B S0 w0 st G S w a.tmps/\Ext tk0 G0 S1 w1 st.tk G S w/\Put b0 rr d a.defers G w
 | _,_,_=>False
end
section
variable {E:Env} {B:Nat} {S0:Addr->Prop} {w0:World} {st:St} {G:Gh} {S:Addr->Prop} {w:World} {tmps:Array Value} {r:Option Nat} {n:Nat}
theorem Inv.foot_lt {bx:List (Option (List SV))} {tk:List (Nat × TypeId)} {ax:Ax} (hI:Inv E B S0 bx tk ax G S w) {b:Nat} (h:Zag G b):b<w.heap.size:=by
 rcases h with ⟨i,h⟩ | ⟨t,n,cap,h1,h2⟩ | ⟨i,h⟩ | h
 ·exact (hI.old i b h).2
 ·have hl:t<tk.length:=by rw [<-hI.ltk];exact (ZxZ.1 h1).1
  obtain ⟨a,cap1,k1,k2,k3,k4⟩:=hI.tok t _ _ _ (Zya hl) h1
  injection k1 with k1 k5 k6
  subst k6
  rw [<-k5] at k4
  obtain ⟨g',cur,c1,c2,c3,_⟩:=k4 h2
  rw [<-k1] at c1
  injection c1 with c1
  injection c1 with c1
  rw [c1]
  exact (Zyv.1 c3).1
 ·exact (hI.mpo i b h).2
 ·exact hI.flt b h
theorem Inv.keeps {bx:List (Option (List SV))} {tk:List (Nat × TypeId)} {ax:Ax} (hI:Inv E B S0 bx tk ax G S w) {F:Nat->Prop} {S':Addr->Prop} {w':World} (K:ZgS F S S' w w') (hF:∀b,Zag G b->F b) (hB:∀b,b<B->F b) :
  Inv E B S0 bx tk ax G S' w':=by
 have hE:ZgT tk G S w tk G S' w':=⟨λ _ _ h=>h,λ _ hv le h1 h2=>⟨hv,le,h1,h2,.inl ⟨rfl,rfl⟩⟩,K.sub,K.cell,λ _ _ h=>h⟩
 have hsz:=K.calm.size
 have hbx:∀(i b:Nat),G.bx[i]?=some b->F b:=λ i b h=>hF b (.inl ⟨i,h⟩)
 have hmp:∀(i b:Nat),G.mp[i]?=some b->F b:=λ i b h=>hF b (.inr (.inr (.inl ⟨i,h⟩)))
 refine ⟨Zy1 hI.base hsz,λ a ha=>?_,K.slt,hI.lbx,hI.ltk,λ i b hb=>⟨(hI.old i b hb).1,Zy7 (hI.old i b hb).2 hsz⟩,hI.dist,λ id b cs hc hb=>?_,λ t n e hv h1 h2=>?_,hI.apart,hI.lmp,hI.dmp,
  λ i b h=>⟨(hI.mpo i b h).1,Zy7 (hI.mpo i b h).2 hsz⟩,λ i b c h1 h2=>(hI.mpk i b c h1 h2).mono (ZbI.of_eq (K.same b (hmp i b h2))) (λ m bm h=>⟨h,ZbI.of_eq (K.same bm (hmp m bm h))⟩) K.sub K.cell (λ a ha=>(K.new a ha).imp (λ h=>h) (λ h=>.inl (λ e=>h (e▸hmp i b h2)))),λ b hb=>Zy7 (hI.flt b hb) hsz,hI.fbx,hI.ftk,hI.fmp,
  ⟨E.Y.ok _ _ _ _ _ _ hI.yl.1 ⟨K.calm,λ b hb=>K.same b (hF b (.inr (.inr (.inr hb)))),K.sub,K.cell,λ a ha=>(K.new a ha).imp (λ h=>h) λ h hf=>h (hF _ (.inr (.inr (.inr hf)))),K.slt⟩,hI.yl.2⟩⟩
 ·rcases K.new a ha with h | h
  ·exact hI.s0 a h
  ·exact .inr (Z0c λ hlt=>h (hB _ hlt))
 ·obtain ⟨⟨t,arr,h1,h2,h3⟩,h4⟩:=hI.box id b cs hc hb
  refine ⟨⟨t,arr,(K.same b (hbx id b hb)).trans h1,h2,λ j c v a1 a2=>⟨RSV.mono0 hE (h3 j c v a1 a2).1,(h3 j c v a1 a2).2⟩⟩,λ a ha hab=>?_⟩
  rcases K.new a ha with h | h
  ·exact h4 a h hab
  ·exact h (by rw [hab];exact hbx id b hb)
 ·obtain ⟨a,cap,h3,h4,h5,h6⟩:=hI.tok t n e hv h1 h2
  refine ⟨a,cap,h3,h4,h5,λ hlt=>?_⟩
  obtain ⟨g,cur,k1,k2,k3,k4,k5,k6⟩:=h6 hlt
  have hg:F g:=hF g (.inr (.inl ⟨t,n,cap,by rw [h2,h3,k1],hlt⟩))
  refine ⟨g,cur,k1,k2,(K.same g hg).trans k3,k4,λ a' ha' hb'=>?_,k6⟩
  rcases K.new a' ha' with h | h
  ·exact k5 a' h hb'
  ·exact absurd hg (by rw [<-hb'];exact h)
theorem Ext.keeps {tk0:List (Nat × TypeId)} {G0:Gh} {S1:Addr->Prop} {w1:World} {tk:List (Nat × TypeId)} (X:Ext tk0 G0 S1 w1 tk G S w) {F:Nat->Prop} {S':Addr->Prop} {w':World} (K:ZgS F S S' w w') (hF:∀b,b<w1.heap.size->F b) :
  Ext tk0 G0 S1 w1 tk G S' w' :=
 ⟨X.bx,X.tk,λ a h=>K.sub a (X.sub a h),λ a h=>(K.cell a (X.sub a h)).trans (X.cell a h),X.mp,X.calm.trans K.calm,λ b hb hf=>(K.same b (hF b hb)).trans (X.same b hb hf),X.foot,λ a ha=>by
  rcases K.new a ha with h | h
  ·exact X.new a h
  ·exact .inr (.inr (Z0c λ hlt=>h (hF _ hlt)))⟩
def ZeI:Obj->Bool
 | .loop _ | .deferred _=>true
 | _=>false
theorem Zo0 {l:Nat} {o o':Obj} (hl:w.heap[l]?=some o) (ho:ZeI o=true) (ho':ZeI o'=true) (a:Addr):(w.putObj l o').cell? a=w.cell? a:=by
 by_cases h:a.block=l
 ·have h2:=World.putObj_heap_same (w:=w) (o:=o') (Yr hl)
  unfold World.cell?
  rw [h,hl,h2]
  cases o<;>simp [ZeI] at ho<;>cases o'<;>simp [ZeI] at ho'<;>rfl
 ·unfold World.cell?
  rw [World.putObj_heap_other h]
theorem Zen {l:Nat} {o o':Obj} (hl:w.heap[l]?=some o) (ho:ZeI o=true) (ho':ZeI o'=true) (a:Addr):Qq w (w.putObj l o') a :=
 ⟨Zo0 hl ho ho' a,λ es c h=>by
  by_cases e:a.block=l
  ·rw [e,hl] at h;cases h;cases ho
  ·rw [World.putObj_heap_other e];exact h⟩
theorem ZgS.putRec {l:Nat} {o o':Obj} {F:Nat->Prop} (hl:w.heap[l]?=some o) (ho:ZeI o=true) (ho':ZeI o'=true) (hf:¬F l) (hs:∀a,S a->a.block<w.heap.size):ZgS F S S w (w.putObj l o') :=
 ⟨⟨rfl,rfl,rfl,by simp,λ k hk=>absurd hk (ZzB _),Zyp _⟩,λ b hb=>World.putObj_heap_other (λ e=>hf (by rw [<-e];exact hb)),λ _ h=>h,λ a _=>Zen hl ho ho' a,λ _ h=>.inl h,λ a h=>by simpa using hs a h⟩
theorem Rel.putRec (R:Rel E B S0 w0 st G S w tmps) {l:Nat} {o o':Obj} (hl:w.heap[l]?=some o) (ho:ZeI o=true) (ho':ZeI o'=true) (hf:¬Zag G l) (hB:B<=l):Rel E B S0 w0 st G S (w.putObj l o') tmps:=by
 have K:ZgS (λ b=>b≠l) S S w (w.putObj l o'):=ZgS.putRec hl ho ho' (λ h=>h rfl) R.inv.slt
 have hE:ZgT st.tk G S w st.tk G S (w.putObj l o'):=⟨λ _ _ h=>h,λ _ hv le h1 h2=>⟨hv,le,h1,h2,.inl ⟨rfl,rfl⟩⟩,K.sub,K.cell,λ _ _ h=>h⟩
 exact ⟨R.inv.keeps K (λ b hb e=>hf (by rw [<-e];exact hb)) (λ b hb e=>by omega),R.below.trans ⟨rfl,rfl,rfl,by simp,λ k hk=>World.putObj_heap_other (by omega),Zyp _⟩,R.len,λ t s v a1 a2=>RSV.mono0 hE (R.sl t s v a1 a2)⟩
theorem Ext.putRec {tk0:List (Nat × TypeId)} {G0:Gh} {S1:Addr->Prop} {w1:World} {tk:List (Nat × TypeId)} (X:Ext tk0 G0 S1 w1 tk G S w) {l:Nat} {o o':Obj} (hl:w.heap[l]?=some o) (ho:ZeI o=true) (ho':ZeI o'=true) (hs:∀a,S a->a.block<w.heap.size) (h:w1.heap.size<=l) :
  Ext tk0 G0 S1 w1 tk G S (w.putObj l o') :=
 X.keeps (F:=λ b=>b≠l) (ZgS.putRec hl ho ho' (λ h=>h rfl) hs) (λ b hb e=>by omega)
theorem ZdJ:∀(l:List SV),leL l l
 | []=>trivial
 | s::r=>⟨by unfold leS;split<;>simp_all,ZdJ r⟩
theorem ZlR:∀(ts:List Tmp) (ps:List PV) (vs:List Value) (sl:List SV) (tm:Array Value) {tk:List (Nat × TypeId)},ts.length=vs.length->RVs S w ps vs->sl.length=tm.size ->
  (∀(t:Nat) (s:SV) (v:Value),sl[t]?=some s->tm[t]?=some v->RSV tk G S w s v) ->
  (ZrG ts ps sl).length=((ts.zip vs).foldl (λ t (p,v)=>t.setIfInBounds p v) tm).size /\
   ∀(t:Nat) (s:SV) (v:Value),(ZrG ts ps sl)[t]?=some s->((ts.zip vs).foldl (λ t (p,v)=>t.setIfInBounds p v) tm)[t]?=some v->RSV tk G S w s v
 | [],ps,vs,sl,tm,tk,hl,hv,hs,h=>by
  cases vs with
  | nil=>cases ps<;>exact ⟨hs,h⟩
  | cons v vs=>simp at hl
 | t::ts,ps,vs,sl,tm,tk,hl,hv,hs,h=>by
  cases vs with
  | nil=>simp at hl
  | cons v vs =>
   cases ps with
   | nil=>have:=hv.1;simp at this
   | cons p ps =>
    refine ZlR ts ps vs (sl.set t (.val p)) (tm.setIfInBounds t v) (by simpa using hl) ⟨by simpa using hv.1,λ i q u a b=>hv.2 (i+1) q u (by simpa using a) (by simpa using b)⟩ (by simp [hs]) (λ i s u a b=>?_)
    rw [ZyC] at a
    rw [ZyV] at b
    by_cases hi:t=i
    ·subst hi
     by_cases hlt:t<sl.length
     ·have hlt':t<tm.size:=hs▸hlt
      simp [hlt] at a
      simp [hlt'] at b
      subst a;subst b
      exact hv.2 0 p v rfl rfl
     ·simp [hlt] at a
    ·simp [hi] at a b
     exact h i s u a b
def ZmY (E:Env) (c:Code):Prop :=
 ∀(nb:Nat × Nat) (b0:Nat) (rr:Option (Nat × Loop)) (n B:Nat) (S0:Addr->Prop) (w0:World) (d:List Deferred) (tk0:List (Nat × TypeId)) (G0:Gh) (S1:Addr->Prop) (w1:World),G0.bx.length<=nb.1->G0.mp.length<=nb.2/\(nb=(0,0)->tk0=[]) ->
  ∀(st:St) (Q:AX->St->Prop) (G:Gh) (S:Addr->Prop) (w:World) (tmps:Array Value) (ds:List Deferred),wpC E c nb st Q->Rel E B S0 w0 st G S w tmps->Ext tk0 G0 S1 w1 st.tk G S w->Put b0 rr d ds G w ->
   c.wpIn (Fr (rr.map (·.1))) n E.P (LQ E B S0 w0 tk0 G0 S1 w1 b0 rr d Q) { tmps:=tmps,defers:=ds } w
def Zdj (E:Env) (B:Nat) (S0:Addr->Prop) (w0:World) (st0:St) (G0:Gh) (S1:Addr->Prop) (w1:World) (l base:Nat) (Ds:List Nat) (rec:LoopState->Option Code->Loop) (N:Nat) (I:Nat->St->Prop) (Q:AX->St->Prop)
  (k:Nat) (F:Nat->Prop) (S:Addr->Prop) (w:World):Prop :=
 ∃(s:St) (G:Gh),((k<N/\I k s/\w.heap[l]?=some (.loop (rec .ready none)))\/(k=N/\∃c,w.heap[l]?=some (.loop (rec .done (some c)))/\((c=.ret/\Q .ret s)\/∃i,c=.exit i/\Q (.exit i) s))) /\
  s.sl=st0.sl/\Inv E B S0 s.bx s.tk s.ax G S w/\Below B w0 w/\Ext st0.tk G0 S1 w1 s.tk G S w/\¬Zag G l/\(∀D∈Ds,w.heap[D]?=some (.deferred (some []))/\¬Zag G D)/\(∀b,Zag G b\/b<base->F b)
theorem Zdj.keeps {st0:St} {G0:Gh} {S1:Addr->Prop} {w1:World} {l base:Nat} {Ds:List Nat} {rec:LoopState->Option Code->Loop} {N:Nat} {I:Nat->St->Prop} {Q:AX->St->Prop}
  (hl:l<base) (hD:∀D∈Ds,D<base) (hB:B<=base) (h1:w1.heap.size<=base) (k:Nat) (F:Nat->Prop) (S S':Addr->Prop) (w w':World)
  (h:Zdj E B S0 w0 st0 G0 S1 w1 l base Ds rec N I Q k F S w) (K:ZgS F S S' w w'):Zdj E B S0 w0 st0 G0 S1 w1 l base Ds rec N I Q k F S' w':=by
 obtain ⟨s,G,hk,hsl,hI,hbel,X,hfl,hDs,hF⟩:=h
 have hb:∀b,b<base->F b:=λ b hb=>hF b (.inr hb)
 refine ⟨s,G,?_,hsl,hI.keeps K (λ b hb=>hF b (.inl hb)) (λ b h=>hb b (by omega)),hbel.trans ⟨K.calm.os,K.calm.tape,K.calm.output,K.calm.size,λ b h=>K.same b (hb b (by omega)),K.calm.more⟩,X.keeps K (λ b h=>hb b (by omega)),hfl,
  λ D h=>⟨(K.same D (hb D (hD D h))).trans (hDs D h).1,(hDs D h).2⟩,hF⟩
 have hsame:=K.same l (hb l hl)
 rcases hk with ⟨h1,h2,h3⟩ | ⟨h1,c,h2,h3⟩
 ·exact .inl ⟨h1,h2,hsame.trans h3⟩
 ·exact .inr ⟨h1,c,hsame.trans h2,h3⟩
end
section
variable {E:Env} {B:Nat} {S0:Addr->Prop} {w0:World} {st:St} {G:Gh} {S:Addr->Prop} {w:World} {tmps:Array Value} {r:Option Nat} {n:Nat}
theorem Zvo {tk tk1 tk2:List (Nat × TypeId)} {G' Ga G2:Gh} {S' Sa S2:Addr->Prop} {W Wa W3:World} {l:Nat} {r1 r2 r3 r4:Loop} {F:Nat->Prop} (Xa:Ext tk G' S' W tk1 Ga Sa Wa) (hla:Wa.heap[l]?=some (.loop r1)) (Xc:Ext tk1 Ga Sa (Wa.putObj l (.loop r2)) tk2 G2 S2 W3)
  (hl3:W3.heap[l]?=some (.loop r3)) (hF:∀b,Zag G' b->F b) (hl:F l) (hslt:∀a,S2 a->a.block<W3.heap.size) :
  Below 0 W (W3.putObj l (.loop r4))/\(∀b,b<W.heap.size->¬F b->(W3.putObj l (.loop r4)).heap[b]?=W.heap[b]?)/\(∀b,b<W.heap.size->Zag G2 b->F b)/\(∀a,S' a->S2 a)/\(∀a,S' a->Qq W (W3.putObj l (.loop r4)) a) /\
   (∀a,S2 a->(S' a\/F a.block\/W.heap.size<=a.block)/\a.block<(W3.putObj l (.loop r4)).heap.size):=by
 have h1:W.heap.size<=Wa.heap.size:=Xa.calm.size
 have hp:∀{V:World} {o:Obj},Below 0 V (V.putObj l o):=λ {V o}=>⟨rfl,rfl,rfl,by simp,λ k hk=>absurd hk (ZzB _),Zyp _⟩
 have hfoot:∀b,b<W.heap.size->Zag Ga b->F b:=λ b hb h=>hF b (Xa.foot b hb h)
 have hfoot2:∀b,b<W.heap.size->Zag G2 b->Zag Ga b:=λ b hb h=>Xc.foot b (by simp;omega) h
 refine ⟨(Xa.calm.trans hp).trans (Xc.calm.trans hp),λ b hb hf=>?_,λ b hb h=>hfoot b hb (hfoot2 b hb h),λ a h=>Xc.sub a (Xa.sub a h),λ a h=>?_,λ a h=>⟨?_,by simpa using hslt a h⟩⟩
 ·have hbl:b≠l:=λ e=>hf (by rw [e];exact hl)
  rw [World.putObj_heap_other hbl,Xc.same b (by simp;omega) (λ h=>hf (hfoot b hb h)),World.putObj_heap_other hbl,Xa.same b hb (λ h=>hf (hF b h))]
 ·exact (Zen hl3 rfl rfl a).trans ((Xc.cell a (Xa.sub a h)).trans ((Zen hla rfl rfl a).trans (Xa.cell a h)))
 ·rcases Xc.new a h with h2 | h2 | h2
  ·rcases Xa.new a h2 with h3 | h3 | h3
   ·exact .inl h3
   ·exact .inr (.inl (hF _ h3))
   ·exact .inr (.inr h3)
  ·rcases Zy6 a.block W.heap.size with h3 | h3
   ·exact .inr (.inl (hfoot _ h3 h2))
   ·exact .inr (.inr h3)
  ·exact .inr (.inr (by simp at h2;omega))
theorem ZcD {α:Type} {l l':List α} (h:∀(i:Nat) (b:α),l[i]?=some b->l'[i]?=some b):l.length<=l'.length:=by
 rcases Zy6 l'.length l.length with h' | h'
 ·have:=h l'.length l[l'.length] (Zya h')
  rw [Zyw (Zyp _)] at this
  cases this
 ·exact h'
theorem Zqv {s:St} (h:s.nbs=(0,0)):s.tk=[]:=by
 unfold St.nbs at h
 simp only [Zzo,Nat.add_eq_zero_iff] at h
 exact Zyy h.2.2
set_option maxHeartbeats 1000000 in
theorem ZtK (hE:ZQ E) {g:Operand} {ps:Array Tmp} {asg body:Code} (ha:ZmY E asg) (hb:ZmY E body):ZmY E (.rangeFunc g ps asg body):=by
 intro nb b0 rr n B S0 w0 d tk0 G0 S1 w1 hnb hnm st Q G S w tmps ds h R X P
 simp only [wpC] at h
 split at h
 rotate_left
 ·exact h.elim
 rename_i f caps hf
 obtain ⟨xs,an,hseq,hlen,I,s0,hwk,hI0,hIsl,hround,hdone⟩:=h
 obtain ⟨G1,R1,X1,F1⟩:=R.wk hnb hnm hwk X
 have P1:=P.foot F1
 have hx:=R.val g ds
 rw [hf] at hx
 generalize hvf:({ tmps:=tmps,defers:=ds }:Act).eval g=vf at hx
 cases hx with
 | fn _ _ cvs hlc hc =>
 refine wpIn_rangeFunc ?_
 intro fn hfn
 obtain ⟨l,Ds,rec,W1,henter,hrec,hrec2,hrec3,hbel,hl1,hwl,hnd,hDs1⟩:∃(l:Nat) (Ds:List Nat) (rec:LoopState->Option Code->Loop) (W1:World),
   (Instr.enterLoop fn tmps ps asg body (Fr (rr.map (·.1))).round).run E.P w=.ok (l,Ds.map λ D=>({ target:=.collected D,args:=#[] }:Deferred)) W1 /\
   (∀st pe,(rec st pe).params=ps/\(rec st pe).tmps=tmps/\(rec st pe).fn=fn/\(rec st pe).assign=asg/\(rec st pe).body=body/\(rec st pe).state=st/\(rec st pe).pending=pe)/\(∀st pe st' pe',({ rec st pe with state:=st',pending:=pe' }:Loop)=rec st' pe')/\(∀st pe st',({ rec st pe with state:=st' }:Loop)=rec st' pe) /\
   Below w.heap.size w W1/\W1.heap[l]?=some (.loop (rec .ready none))/\w.heap.size<=l/\Ds.Nodup/\(∀D∈Ds,W1.heap[D]?=some (.deferred (some []))/\w.heap.size<=D/\D≠l):=by
  cases rr with
  | none =>
   refine ⟨w.heap.size+1,[w.heap.size],λ st pe=>{ state:=st,pending:=pe,fn,tmps:=tmps,params:=ps,assign:=asg,body,defers:=w.heap.size },_,run_enterLoop_outer _ _ _ _ _,λ _ _=>⟨rfl,rfl,rfl,rfl,rfl,rfl,rfl⟩,λ _ _ _ _=>rfl,λ _ _ _=>rfl,(((Below.refl _ w).alloc (Zyp _) _).alloc (by simp) _),?_,by omega,by simp,?_⟩
   ·have:=World.alloc_heap_new (w.alloc (.deferred (some []))) (.loop { state:=.ready,pending:=none,fn,tmps:=tmps,params:=ps,assign:=asg,body,defers:=w.heap.size });rwa [World.size_alloc] at this
   ·intro D hD
    simp at hD
    subst hD
    exact ⟨(Below.heap_alloc _ _ _ (by simp)).trans (World.alloc_heap_new w _),Zyp _,by omega⟩
  | some x =>
   obtain ⟨l0,r0⟩:=x
   have hl0:=(P.rnd _ rfl).1
   refine ⟨w.heap.size,[],λ st pe=>{ state:=st,pending:=pe,fn,tmps:=tmps,params:=ps,assign:=asg,body,defers:=r0.defers },_,run_enterLoop_inner hl0 _ _ _ _ _,λ _ _=>⟨rfl,rfl,rfl,rfl,rfl,rfl,rfl⟩,λ _ _ _ _=>rfl,λ _ _ _=>rfl,(Below.refl _ w).alloc (Zyp _) _,World.alloc_heap_new w _,Zyp _,by simp,by simp⟩
 obtain ⟨R2,X2⟩:=R1.transport (S':=S) (w':=W1) (λ _ h=>h) (λ _ h=>.inl h) hbel
 have hlW1:l<W1.heap.size:=Yr hl1
 have hBl:B<=l:=Zy1 R1.inv.base hwl
 have hnf:∀b,w.heap.size<=b->¬Zag G1 b:=λ b hb h=>by have:=R1.inv.foot_lt h;omega
 have hrs:∀st pe,(rec st pe).state=st:=λ st pe=>(hrec st pe).2.2.2.2.2.1
 have hrp:∀st pe,(rec st pe).pending=pe:=λ st pe=>(hrec st pe).2.2.2.2.2.2
 have hYkeeps:=λ k F T T' w' w''=>Zdj.keeps (E:=E) (B:=B) (S0:=S0) (w0:=w0) (st0:=s0) (G0:=G1) (S1:=S) (w1:=w) (l:=l) (base:=W1.heap.size) (Ds:=Ds) (rec:=rec) (N:=ZbK an xs) (I:=I) (Q:=Q)
  hlW1 (λ D hD=>Yr (hDs1 D hD).1) (Zy1 R1.inv.base hbel.size) hbel.size k F T T' w' w''
 obtain ⟨Y,hY⟩:∃Y:YS,Y=⟨l,xs,an,Zdj E B S0 w0 s0 G1 S w l W1.heap.size Ds rec (ZbK an xs) I Q,hYkeeps⟩:=⟨_,rfl⟩
 have hJ0:Zdj E B S0 w0 s0 G1 S w l W1.heap.size Ds rec (ZbK an xs) I Q 0 (λ b=>b<W1.heap.size) S W1 :=
  ⟨s0,G1,.inl ⟨Zvf _ _,hI0,hl1⟩,rfl,R2.inv,R2.below,X2,hnf l hwl,λ D hD=>⟨(hDs1 D hD).1,hnf D (hDs1 D hD).2.1⟩,λ b h=>h.elim (λ h=>Zy7 (R1.inv.foot_lt h) hbel.size) (λ h=>h)⟩
 have hYok:YOk E.P Y:=by
  subst hY
  intro r' n' k k1 pvs vs F S' W hy hJ hFl hSl hv
  obtain ⟨s,G',hk,hsl,hI,hbel',X3,hfl,hDs,hF⟩:=hJ
  rcases hk with ⟨hklt,hIk,hl⟩ | ⟨h,_⟩
  rotate_left
  ·exact absurd h (Nat.ne_of_lt (Zt0 hy))
  have hps:vs.length=ps.size:=by rw [<-hv.1];exact hlen _ (Zjs hy)
  have hrun:=run_yield (P:=E.P) (args:=vs.toArray) hl (by rw [(hrec _ _).1];simp [hps])
  rw [(hrec _ _).1,(hrec _ _).2.1,(hrec _ _).2.2.1,(hrec _ _).2.2.2.1,(hrec _ _).2.2.2.2.1] at hrun
  have Rs:Rel E B S0 w0 s G' S' W tmps:=⟨hI,hbel',by rw [hsl];exact R1.len,λ t sv v a b=>RSV.mono X3 (R1.sl t sv v (by rw [<-hsl];exact a) b)⟩
  obtain ⟨p1,p2⟩:=ZlR ps.toList pvs vs s.sl tmps (tk:=s.tk) (G:=G') (S:=S') (w:=W) (by simp [hps]) hv Rs.len Rs.sl
  have hfold:(ps.zip vs.toArray).foldl (λ tmps x=>match x with | (t,a)=>tmps.setIfInBounds t a) tmps=(ps.toList.zip vs).foldl (λ t (p,v)=>t.setIfInBounds p v) tmps:=by
   rw [<-Array.foldl_toList]
   simp
  rw [hfold] at hrun
  generalize (ps.toList.zip vs).foldl (λ t (p,v)=>t.setIfInBounds p v) tmps=tm at hrun p1 p2
  have Rp:Rel E B S0 w0 (s.params ps.toList pvs) G' S' W tm:=⟨hI,hbel',p1,p2⟩
  have Pr:Put 0 (some (l,rec .ready none)) [] [] G' W:=⟨⟨[],rfl,Z0C,by simp⟩,λ x hx=>by cases hx;exact ⟨hl,hfl⟩,ZyQ _⟩
  have hlenG:G1.bx.length<=s.nbs.1:=by rw [St.nbs,<-hI.lbx];exact ZcD X3.bx
  have hlenM:G1.mp.length<=s.nbs.2/\(s.nbs=(0,0)->s0.tk=[]):=⟨Zy1 (ZcD X3.mp) (by simp [St.nbs,hI.lmp]),λ h0=>by
   have hs:=Zqv h0
   cases hs0:s0.tk with
   | nil=>rfl
   | cons le r =>
    have hl1:=R1.inv.ltk
    obtain ⟨hv,hg⟩:∃hv,G1.tk[0]?=some hv:=⟨_,Zya (by rw [hl1,hs0];simp)⟩
    obtain ⟨_,_,_,h2,_⟩:=X3.tk 0 hv le hg (by rw [hs0];rfl)
    rw [hs] at h2;cases h2⟩
  have hFl':F l:=hF l (.inr hlW1)
  refine ⟨fn,tm,asg,body,hrun,roundIn_of_wpIn hfn (wpIn_mono (ha s.nbs 0 (some (l,rec .ready none)) n' B S0 w0 [] s.tk G' S' W (by simp [St.nbs,hI.lbx]) ⟨by simp [St.nbs,hI.lmp],Zqv⟩ _ _ G' S' W tm [] (hround k k1 s pvs hy hIk) Rp (Ext.refl _ _ _ _) Pr) ?_)⟩
  intro e a1 Wa hq
  cases e with
  | exit id=>obtain ⟨_,_,_,hk1,_⟩:=hq;exact hk1.elim
  | ret=>obtain ⟨_,_,_,hk1,_⟩:=hq;exact hk1.elim
  | goto l=>exact hq.elim
  | panic ch=>exact hq.elim
  | outgrown=>exact hq.elim
  | normal =>
  obtain ⟨s1,Ga,Sa,hk1,Ra,Xa,Pa⟩:=hq
  obtain ⟨hla,hfa⟩:=Pa.rnd _ rfl
  refine ⟨_,run_beginRound hla (hrs _ _),?_⟩
  rw [hrec3]
  have Rb:=Ra.putRec (o':=.loop (rec .busy none)) hla rfl rfl hfa hBl
  have hWb:(Wa.putObj l (.loop (rec .busy none))).heap[l]?=some (.loop (rec .busy none)):=World.putObj_heap_same (Yr hla)
  have Pb:Put 0 (some (l,rec .busy none)) [] a1.defers Ga (Wa.putObj l (.loop (rec .busy none))):=by
   obtain ⟨⟨Es,e1,e2,e3⟩,_,_⟩:=Pa
   exact ⟨⟨Es,e1,e2,λ D hD=>⟨(World.putObj_heap_other (λ e=>by have:=(e3 D hD).1;rw [e,hla] at this;cases this)).trans (e3 D hD).1,(e3 D hD).2⟩⟩,λ x hx=>by cases hx;exact ⟨hWb,hfa⟩,ZyQ _⟩
  refine wpIn_mono (hb s1.nbs 0 (some (l,rec .busy none)) n' B S0 w0 [] s1.tk Ga Sa _ (by simp [St.nbs,Ra.inv.lbx]) ⟨by simp [St.nbs,Ra.inv.lmp],Zqv⟩ _ _ Ga Sa _ a1.tmps a1.defers hk1 Rb (Ext.refl _ _ _ _) Pb) ?_
  have fin:∀(s2:St) (G2:Gh) (S2:Addr->Prop) (W3:World) (a3:Act) (jump:Option Code),Rel E B S0 w0 s2 G2 S2 W3 a3.tmps->Ext s1.tk Ga Sa (Wa.putObj l (.loop (rec .busy none))) s2.tk G2 S2 W3->Put 0 (some (l,rec .busy none)) [] a3.defers G2 W3 ->
    (Instr.endRound l jump).run E.P W3=.ok (.bool jump.isNone) (W3.putObj l (.loop (rec (if jump.isNone then .ready else .done) jump)))/\Rel E B S0 w0 (s2.withSl s0.sl) G2 S2 (W3.putObj l (.loop (rec (if jump.isNone then .ready else .done) jump))) tmps /\
    Ext s0.tk G1 S w s2.tk G2 S2 (W3.putObj l (.loop (rec (if jump.isNone then .ready else .done) jump)))/\¬Zag G2 l/\(W3.putObj l (.loop (rec (if jump.isNone then .ready else .done) jump))).heap[l]?=some (.loop (rec (if jump.isNone then .ready else .done) jump)) /\
    (∀D∈Ds,(W3.putObj l (.loop (rec (if jump.isNone then .ready else .done) jump))).heap[D]?=some (.deferred (some []))/\¬Zag G2 D)/\W3.heap[l]?=some (.loop (rec .busy none)):=by
   intro s2 G2 S2 W3 a3 jump R3 Xc P3
   obtain ⟨hl3,hf3⟩:=P3.rnd _ rfl
   have hend:=run_endRound (P:=E.P) jump hl3
   rw [hrec2] at hend
   have XT:Ext s0.tk G1 S w s2.tk G2 S2 (W3.putObj l (.loop (rec (if jump.isNone then .ready else .done) jump))) :=
    (((X3.trans Xa).putRec (o':=.loop (rec .busy none)) hla rfl rfl Ra.inv.slt hwl).trans Xc).putRec hl3 rfl rfl R3.inv.slt hwl
   have R4:=R3.putRec (o':=.loop (rec (if jump.isNone then .ready else .done) jump)) hl3 rfl rfl hf3 hBl
   refine ⟨hend,⟨R4.inv,R4.below,R1.len,λ t sv v a b=>RSV.mono XT (R1.sl t sv v a b)⟩,XT,hf3,World.putObj_heap_same (Yr hl3),λ D hD=>?_,hl3⟩
   have hDl:D≠l:=(hDs1 D hD).2.2
   have q1:=(hDs D hD).1
   have q2:=(hDs D hD).2
   have q3:=(Xa.same D (Yr q1) q2).trans q1
   have q4:¬Zag Ga D:=λ h=>q2 (Xa.foot D (Yr q1) h)
   have q5:=(World.putObj_heap_other (o:=.loop (rec .busy none)) hDl).trans q3
   have q6:=(Xc.same D (Yr q5) q4).trans q5
   exact ⟨(World.putObj_heap_other hDl).trans q6,λ h=>q4 (Xc.foot D (Yr q5) h)⟩
  intro e a3 W3 hq3
  have out:∀(s2:St) (G2 G4:Gh) (S2:Addr->Prop) (r4:Loop) (k':Nat) (b:Bool),Ext s1.tk Ga Sa (Wa.putObj l (.loop (rec .busy none))) s2.tk G2 S2 W3->W3.heap[l]?=some (.loop (rec .busy none))->(∀a,S2 a->a.block<W3.heap.size)->(∀b,Zag G4 b->Zag G2 b) ->
    (∀b,Zag G4 b->b<(W3.putObj l (.loop r4)).heap.size)->((b=true/\k'=k1)\/(b=false/\k'=ZbK an xs)) ->
    (∀F',(∀c,Zag G4 c\/c<W1.heap.size->F' c)->Zdj E B S0 w0 s0 G1 S w l W1.heap.size Ds rec (ZbK an xs) I Q k' F' S2 (W3.putObj l (.loop r4))) ->
    ∃(k':Nat) (F':Nat->Prop) (S'':Addr->Prop),(((.returned (.bool b):Ending)=.returned (.bool true)/\k'=k1)\/((.returned (.bool b):Ending)=.returned (.bool false)/\k'=ZbK an xs))/\Zdj E B S0 w0 s0 G1 S w l W1.heap.size Ds rec (ZbK an xs) I Q k' F' S'' (W3.putObj l (.loop r4)) /\
     Below 0 W (W3.putObj l (.loop r4))/\(∀b,b<W.heap.size->¬F b->(W3.putObj l (.loop r4)).heap[b]?=W.heap[b]?)/\(∀b,F' b->(F b\/W.heap.size<=b)/\b<(W3.putObj l (.loop r4)).heap.size)/\(∀a,S' a->S'' a)/\(∀a,S' a->Qq W (W3.putObj l (.loop r4)) a) /\
     (∀a,S'' a->(S' a\/F a.block\/W.heap.size<=a.block)/\a.block<(W3.putObj l (.loop r4)).heap.size):=by
   intro s2 G2 G4 S2 r4 k' b Xc hl3 hslt hfoot hfl4 hbk hBt
   obtain ⟨t1,t2,t3,t4,t5,t6⟩:=Zvo (r4:=r4) Xa hla Xc hl3 (λ b h=>hF b (.inl h)) hFl' hslt
   refine ⟨k',λ c=>F c\/Zag G4 c,S2,?_,hBt _ (λ c hc=>hc.elim .inr (λ h=>.inl (hF c (.inr h)))),t1,t2,λ c hc=>?_,t4,t5,t6⟩
   ·rcases hbk with ⟨rfl,rfl⟩ | ⟨rfl,rfl⟩
    ·exact .inl ⟨rfl,rfl⟩
    ·exact .inr ⟨rfl,rfl⟩
   ·rcases hc with hc | hc
    ·exact ⟨.inl hc,Zy7 (hFl c hc) t1.size⟩
    ·refine ⟨?_,hfl4 c hc⟩
     rcases Zy6 c W.heap.size with h | h
     ·exact .inl (t3 c h (hfoot c hc))
     ·exact .inr h
  cases e with
  | normal =>
   obtain ⟨s2,G2,S2,⟨s3,hwk3,hI3⟩,R3,Xc,P3⟩:=hq3
   obtain ⟨hend,Rw,XT,hf3,hl4,hD4,hl3⟩:=fin s2 G2 S2 W3 a3 none R3 Xc P3
   obtain ⟨G4,R5,X5,F5⟩:=Rw.wk hlenG hlenM hwk3 XT
   exact ⟨_,_,hend,out s2 G2 G4 S2 _ k1 true Xc hl3 R3.inv.slt F5 (λ b h=>R5.inv.foot_lt h) (.inl ⟨rfl,rfl⟩) λ F' hF' =>
    ⟨s3,G4,.inl ⟨Zve hy hklt,hI3,hl4⟩,hIsl _ _ hI3,R5.inv,R5.below,X5,λ h=>hf3 (F5 _ h),λ D hD=>⟨(hD4 D hD).1,λ h=>(hD4 D hD).2 (F5 _ h)⟩,hF'⟩⟩
  | exit i =>
   obtain ⟨s2,G2,S2,hq2,R3,Xc,P3⟩:=hq3
   obtain ⟨hend,Rw,XT,hf3,hl4,hD4,hl3⟩:=fin s2 G2 S2 W3 a3 (some (.exit i)) R3 Xc P3
   exact ⟨_,_,hend,out s2 G2 G2 S2 _ (ZbK an xs) false Xc hl3 R3.inv.slt (λ _ h=>h) (λ b h=>Rw.inv.foot_lt h) (.inr ⟨rfl,rfl⟩) λ F' hF' =>
    ⟨s2.withSl s0.sl,G2,.inr ⟨rfl,_,hl4,.inr ⟨i,rfl,hq2⟩⟩,rfl,Rw.inv,Rw.below,XT,hf3,hD4,hF'⟩⟩
  | ret =>
   obtain ⟨s2,G2,S2,hq2,R3,Xc,P3⟩:=hq3
   obtain ⟨hend,Rw,XT,hf3,hl4,hD4,hl3⟩:=fin s2 G2 S2 W3 a3 (some .ret) R3 Xc P3
   exact ⟨_,_,hend,out s2 G2 G2 S2 _ (ZbK an xs) false Xc hl3 R3.inv.slt (λ _ h=>h) (λ b h=>Rw.inv.foot_lt h) (.inr ⟨rfl,rfl⟩) λ F' hF' =>
    ⟨s2.withSl s0.sl,G2,.inr ⟨rfl,_,hl4,.inl ⟨rfl,hq2⟩⟩,rfl,Rw.inv,Rw.below,XT,hf3,hD4,hF'⟩⟩
  | goto l=>exact hq3.elim
  | panic ch=>exact hq3.elim
  | outgrown=>exact hq3.elim
 refine ⟨l,Ds.map λ D=>({ target:=.collected D,args:=#[] }:Deferred),W1,{ target:=.fn (.func f) cvs.toArray,args:=#[.func (.yield l) #[] #[]] },W1,f,#[.func (.yield l) #[] #[]]++cvs.toArray,W1,henter,?_,?_,?_,λ h=>absurd h (by simp [Fr,Fence.wide]),?_⟩
 ·simp only [resolve,hvf]
  simp [go_sem]
 ·intro f' _
  trivial
 ·have:=hseq.1
  simp [invoke,go_sem,this _ W1]
 have hcall:=hseq.2 Y (rr.map (·.1)) (n - 1) (λ b=>b<W1.heap.size) S W1 cvs (by rw [hY]) (by rw [hY]) hYok (by rw [hY];exact hJ0) (λ b h=>h) R2.inv.slt (RVs.mono X2.sub X2.cell ⟨hlc,hc⟩)
 rw [show Y.l=l by rw [hY]] at hcall
 refine CallsIn.mono hcall ?_
 rintro e W2 ⟨v,k,F',S',rfl,hk,hJ,hcalm⟩
 rw [hY] at hJ
 obtain ⟨s,G',hkk,hsl,hI,hbel',X3,hfl,hDs,hF⟩:=hJ
 have Rs:Rel E B S0 w0 s G' S' W2 tmps:=⟨hI,hbel',by rw [hsl];exact R1.len,λ t sv v a b=>RSV.mono X3 (R1.sl t sv v (by rw [<-hsl];exact a) b)⟩
 have fin:∀(pe:Option Code) (stt:LoopState),W2.heap[l]?=some (.loop (rec stt pe))->stt≠.busy->(Instr.endLoop l).run E.P W2=.ok pe (W2.putObj l (.loop (rec .exhausted pe)))/\Rel E B S0 w0 s G' S' (W2.putObj l (.loop (rec .exhausted pe))) tmps/\Ext tk0 G0 S1 w1 s.tk G' S' (W2.putObj l (.loop (rec .exhausted pe))) /\
   Put b0 rr d (Ds.map (λ D=>({ target:=.collected D,args:=#[] }:Deferred))++ds) G' (W2.putObj l (.loop (rec .exhausted pe))):=by
  intro pe stt hl hst
  have hend:=run_endLoop (P:=E.P) hl (by rw [hrs];exact hst)
  rw [hrec3,hrp] at hend
  refine ⟨hend,Rs.putRec hl rfl rfl hfl hBl,(X1.trans X3).putRec hl rfl rfl hI.slt (Zy1 X1.calm.size hwl),?_⟩
  obtain ⟨⟨Es,e1,e2,e3'⟩,e4',e5'⟩:=P1
  have e3:∀D∈Es,W2.heap[D]?=some (.deferred (some []))/\¬Zag G' D/\b0<=D:=λ D hD=>⟨(X3.same D (Yr (e3' D hD).1) (e3' D hD).2.1).trans (e3' D hD).1,λ hf=>(e3' D hD).2.1 (X3.foot D (Yr (e3' D hD).1) hf),(e3' D hD).2.2⟩
  have e4:∀x,rr=some x->W2.heap[x.1]?=some (.loop x.2)/\¬Zag G' x.1:=λ x hx=>⟨(X3.same x.1 (Yr (e4' x hx).1) (e4' x hx).2).trans (e4' x hx).1,λ hf=>(e4' x hx).2 (X3.foot x.1 (Yr (e4' x hx).1) hf)⟩
  refine ⟨⟨Ds++Es,by rw [e1];simp,ZzA.2 ⟨hnd,e2,λ a ha b hb hab=>?_⟩,λ D hD=>?_⟩,λ x hx=>⟨(World.putObj_heap_other ?_).trans (e4 x hx).1,(e4 x hx).2⟩,by simpa using Zy1 e5' X3.calm.size⟩
  ·have h1:=(hDs1 a ha).2.1
   have h2:=Yr (e3' b hb).1
   omega
  ·rcases Zy4.1 hD with hD | hD
   ·exact ⟨(World.putObj_heap_other (hDs1 D hD).2.2).trans (hDs D hD).1,(hDs D hD).2,Zy1 e5' (hDs1 D hD).2.1⟩
   ·have h2:=Yr (e3' D hD).1
    exact ⟨(World.putObj_heap_other (by omega)).trans (e3 D hD).1,(e3 D hD).2⟩
  ·have h2:=Yr (e4' x hx).1
   omega
 rcases hkk with ⟨hk1,hIk,hl⟩ | ⟨hk1,c,hl,hc⟩
 ·have hkx:Ziz an xs k:=hk.elim (λ h=>h) (λ h=>absurd h (Nat.ne_of_lt hk1))
  obtain ⟨f1,f2,f3,f4⟩:=fin none .ready hl (by simp)
  exact ⟨none,_,f1,s,G',S',hdone k s hkx hIk,f2,f3,f4⟩
 ·obtain ⟨f1,f2,f3,f4⟩:=fin (some c) .done hl (by simp)
  refine ⟨some c,_,f1,?_⟩
  rcases hc with ⟨rfl,hq⟩ | ⟨i,rfl,hq⟩
  ·exact wpIn_ret ⟨s,G',S',hq,f2,f3,f4⟩
  ·exact wpIn_exit ⟨s,G',S',hq,f2,f3,f4⟩
theorem Zqw {F:Fence} {n:Nat} {P:Program} {Q:Exit->Act->World->Prop} {a:Act} {w:World} {c:Code} (h:c.wpIn F n P (Exit.noGoto Q) a w):(Code.scope c).wpIn F n P Q a w:=by
 intro b k cs hro hb hr
 have h0:(lone (b.atR a (.code (.scope c)::k)) cs w).fenced P F:=fenced_calm hb hr rfl
 have s1:step P (lone (b.atR a (.code (.scope c)::k)) cs w)=.next (lone (b.atR a (.code c::.inScope c::k)) cs w):=step_lone_go (by simp [stepG,stepG.exec,Frame.atR])
 obtain ⟨e,a₁,w₁,hq,harr⟩:=h b (.inScope c::k) cs hro hb hr
 cases e with
 | normal =>
  have s2:step P (lone (b.atR a₁ (.inScope c::k)) cs w₁)=.next (lone (b.atR a₁ k) cs w₁):=step_lone_go (by simp [stepG,stepG.exec,Frame.atR])
  exact ⟨.normal,a₁,w₁,hq,.head h0 s1 (StepsIn.trans harr (.one (fenced_calm hb hr rfl) s2))⟩
 | exit id =>
  have hx:exitTo id (.inScope c::k)=exitTo id k:=by simp [exitTo]
  exact ⟨_,a₁,w₁,hq,λ k' hk=>.head h0 s1 (harr.1 k' (by rw [hx];exact hk)),
   λ hr' hk=>let ⟨k₁,h1,h2⟩:=harr.2 hr' (by rw [hx];exact hk);⟨k₁,h1,.head h0 s1 h2⟩⟩
 | goto l=>exact hq.elim
 | ret=>exact ⟨_,a₁,w₁,hq,.of_steps (.one h0 s1) harr⟩
 | panic ch=>exact ⟨_,a₁,w₁,hq,.of_steps (.one h0 s1) harr⟩
 | outgrown=>exact ⟨_,a₁,w₁,hq,.of_steps (.one h0 s1) harr⟩
theorem ZmZ (hE:ZQ E):∀(c:Code),ZmY E c:=by
 intro c
 induction c with
 | skip=>intro nb b0 rr n B S0 w0 d tk0 G0 S1 w1 hnb hnm st Q G S w tmps ds h R X P;exact wpIn_skip ⟨st,G,S,h,R,X,P⟩
 | region id ops draw =>
  intro nb b0 rr n B S0 w0 d tk0 G0 S1 w1 hnb hnm st Q G S w tmps ds h R X P
  simp only [wpC] at h
  split at h
  rotate_left
  ·rename_i c hea
   have hdr:draw=true:=ZfZ (by rw [hea];simp)
   subst hdr
   exact Zqu hE ds h R (Ext.refl _ _ _ _) λ st' G' S' w' tmps' hk R' X'=>⟨st',G',S',hk,R',X.trans X',P.ext X'⟩
  rotate_left
  ·rename_i hea
   have hdr:draw=true:=ZfZ (by rw [hea];simp)
   subst hdr
   refine wpIn_region_any hE.mixed ?_
   have hb:Below w.heap.size w { w with drawn:=w.drawn+1 }:=Below.drew (Below.refl _ _)
   obtain ⟨R1,X1⟩:=R.transport (S':=S) (w':={ w with drawn:=w.drawn+1 }) (λ _ h=>h) (λ _ h=>.inl h) hb
   exact ZjG hE ops ds (λ st' G' S' w' tmps' hk R' X'=>⟨st',G',S',hk,R',X.trans X',P.ext X'⟩) _ _ st G S _ tmps h R1 X1
  obtain ⟨hd,h⟩:=h
  cases draw with
  | false =>
   refine wpIn_region ?_
   have:=Zot (r:=rr.map (·.1)) (n:=n) (Q:=LQ E B S0 w0 tk0 G0 S1 w1 b0 rr d Q) hE ops ds ops.toList 0 st G S w tmps (λ j=>by simp) h R (Ext.refl _ _ _ _) (λ st' G' S' w' tmps' hk R' X'=>⟨st',G',S',hk,R',X.trans X',P.ext X'⟩)
   rw [List.range_eq_range']
   simpa using this
  | true =>
   exact Zqt hE ds (by simpa using hd) h R (Ext.refl _ _ _ _) λ st' G' S' w' tmps' hk R' X'=>⟨st',G',S',hk,R',X.trans X',P.ext X'⟩
 | seq a b iha ihb =>
  intro nb b0 rr n B S0 w0 d tk0 G0 S1 w1 hnb hnm st Q G S w tmps ds h R X P
  refine wpIn_seq (wpIn_mono (iha nb b0 rr n B S0 w0 d tk0 G0 S1 w1 hnb hnm st _ G S w tmps ds h R X P) λ e a' w' hq=>?_)
  cases e with
  | normal =>
   obtain ⟨st',G',S',hk,R',X',P'⟩:=hq
   exact ihb nb b0 rr n B S0 w0 d tk0 G0 S1 w1 hnb hnm st' Q G' S' w' _ _ hk R' X' P'
  | exit id=>exact hq
  | ret=>exact hq
  | goto l=>exact hq.elim
  | panic ch=>exact hq.elim
  | outgrown=>exact hq.elim
 | cond c a b iha ihb =>
  intro nb b0 rr n B S0 w0 d tk0 G0 S1 w1 hnb hnm st Q G S w tmps ds h R X P
  simp only [wpC] at h
  split at h
  ·rename_i t ht
   have hv:=R.val c ds
   rw [ht] at hv
   have hv':=RV.bool_inv hv
   exact wpIn_cond_split hv' (λ e=>iha nb b0 rr n B S0 w0 d tk0 G0 S1 w1 hnb hnm st Q G S w tmps ds (h.1 e) R X P) (λ e=>ihb nb b0 rr n B S0 w0 d tk0 G0 S1 w1 hnb hnm st Q G S w tmps ds (h.2 e) R X P)
  ·exact h.elim
 | block id body ih =>
  intro nb b0 rr n B S0 w0 d tk0 G0 S1 w1 hnb hnm st Q G S w tmps ds h R X P
  refine wpIn_block (wpIn_mono (ih nb b0 rr n B S0 w0 d tk0 G0 S1 w1 hnb hnm st _ G S w tmps ds h R X P) λ e a' w' hq=>?_)
  cases e with
  | normal=>exact hq
  | exit i =>
   obtain ⟨st',G',S',hk,R',X'⟩:=hq
   simp only at hk
   simp only [Exit.inBlock]
   split at hk
   ·rename_i hi;rw [if_pos hi];exact ⟨st',G',S',hk,R',X'⟩
   ·rename_i hi;rw [if_neg hi];exact ⟨st',G',S',hk,R',X'⟩
  | ret=>exact hq
  | goto l=>exact hq.elim
  | panic ch=>exact hq.elim
  | outgrown=>exact hq.elim
 | loop body ih =>
  intro nb b0 rr n B S0 w0 d tk0 G0 S1 w1 hnb hnm st Q G S w tmps ds h R X P
  obtain ⟨I,⟨n0,st0,hwk,hI0⟩,hstep⟩:=h
  obtain ⟨Gs,Rs,Xs,Fs⟩:=R.wk hnb hnm hwk X
  refine wpIn_loop_ghost (λ k a w=>∃st G S,I k st/\Rel E B S0 w0 st G S w a.tmps/\Ext tk0 G0 S1 w1 st.tk G S w/\Put b0 rr d a.defers G w) n0 ⟨st0,Gs,S,hI0,Rs,Xs,P.foot Fs⟩ ?_
  rintro k a w' ⟨s,G',S',hI,R',X',P'⟩
  refine wpIn_mono (ih nb b0 rr n B S0 w0 d tk0 G0 S1 w1 hnb hnm s _ G' S' w' a.tmps a.defers (hstep k s hI) R' X' P') λ e a' w'' hq=>?_
  cases e with
  | normal =>
   obtain ⟨s',G2,S2,⟨n',s'',hlt,hwk',hI'⟩,R2,X2,P2⟩:=hq
   obtain ⟨G3,R3,X3,F3⟩:=R2.wk hnb hnm hwk' X2
   exact ⟨n',hlt,s'',G3,S2,hI',R3,X3,P2.foot F3⟩
  | exit i=>exact hq
  | ret=>exact hq
  | goto l=>exact hq.elim
  | panic ch=>exact hq.elim
  | outgrown=>exact hq.elim
 | exit id=>intro nb b0 rr n B S0 w0 d tk0 G0 S1 w1 hnb hnm st Q G S w tmps ds h R X P;exact wpIn_exit ⟨st,G,S,h,R,X,P⟩
 | ret=>intro nb b0 rr n B S0 w0 d tk0 G0 S1 w1 hnb hnm st Q G S w tmps ds h R X P;exact wpIn_ret ⟨st,G,S,h,R,X,P⟩
 | label l=>intro nb b0 rr n B S0 w0 d tk0 G0 S1 w1 hnb hnm st Q G S w tmps ds h R X P;exact wpIn_label ⟨st,G,S,h,R,X,P⟩
 | rangeFunc f ps a b iha ihb=>exact ZtK hE iha ihb
 | scope b ih =>
  intro nb b0 rr n B S0 w0 d tk0 G0 S1 w1 hnb hnm st Q G S w tmps ds h R X P
  refine Zqw (wpIn_mono (ih nb b0 rr n B S0 w0 d tk0 G0 S1 w1 hnb hnm st _ G S w tmps ds h R X P) λ e a' w'' hq=>?_)
  cases e<;>exact hq
 | goto l=>intro nb b0 rr n B S0 w0 d tk0 G0 S1 w1 hnb hnm st Q G S w tmps ds h R X P;exact h.elim
 | refuse s=>intro nb b0 rr n B S0 w0 d tk0 G0 S1 w1 hnb hnm st Q G S w tmps ds h R X P;exact h.elim
end
section
variable {E:Env} {B:Nat} {S0:Addr->Prop} {w0:World} {st:St} {G:Gh} {S:Addr->Prop} {w:World} {tmps:Array Value} {r:Option Nat} {n:Nat}
def Zg4 (tmps:Array Value):ResultVar->Sem Value
 | .tmp t=>pure (tmps.getD t undef)
 | .cell a t=>do loadVar t (<-asAddr (tmps.getD a undef))
theorem Zeo (fn:Func) (tmps:Array Value):results fn tmps=(do
  let vs <-fn.results.mapM (Zg4 tmps)
  pure (if h:vs.size=1 then vs[0] else .tuple vs)):=by
 unfold results
 congr 1
theorem ZhO:∀(l:List ResultVar) (s:Prop) (ps:List PV),ZeH E st l=some (s,ps)->ps.length=l.length
 | [],s,ps,h=>by simp only [ZeH,Zyu,Zzo] at h;obtain ⟨_,rfl⟩:=h;rfl
 | .tmp t::r,s,ps,h=>by
  simp only [ZeH] at h
  split at h
  ·rename_i p s' l hp hl
   simp only [Zyu,Zzo] at h
   obtain ⟨_,rfl⟩:=h
   simp [ZhO r _ _ hl]
  ·cases h
 | .cell a ty::r,s,ps,h=>by
  simp only [ZeH] at h
  split at h
  ·rename_i x s' l hx hl
   split at h
   ·simp only [Zyu,Zzo] at h
    obtain ⟨_,rfl⟩:=h
    simp [ZhO r _ _ hl]
   ·cases h
  ·cases h
theorem ZfH (hE:ZQ E) (R:Rel E B S0 w0 st G S w tmps):∀(l:List ResultVar) (s:Prop) (ps:List PV),ZeH E st l=some (s,ps)->s ->
  ∃vs,(l.mapM (Zg4 tmps)).run E.P w=.ok vs w/\RVs S w ps vs
 | [],s,ps,h,_=>by
  simp only [ZeH,Zyu,Zzo] at h
  obtain ⟨_,rfl⟩:=h
  exact ⟨[],by simp,RVs.nil⟩
 | .tmp t::rest,s,ps,h,hs=>by
  simp only [ZeH] at h
  split at h
  ·rename_i p s' l hp hl
   simp only [Zyu,Zzo] at h
   obtain ⟨rfl,rfl⟩:=h
   obtain ⟨vs,h1,h2⟩:=ZfH hE R rest s' l hl hs
   refine ⟨tmps.getD t undef::vs,by simp [List.mapM_cons,Zg4,h1],RVs.cons (RSV.pv (Zfa R t) hp) h2⟩
  ·cases h
 | .cell a ty::rest,s,ps,h,hs=>by
  simp only [ZeH] at h
  split at h
  ·rename_i x s' l hx hl
   split at h
   ·rename_i p hp
    simp only [Zyu,Zzo] at h
    obtain ⟨rfl,rfl⟩:=h
    obtain ⟨vs,h1,h2⟩:=ZfH hE R rest s' l hl hs.2
    have hv:=Zfa R a
    obtain ⟨_,v,hrun,V'⟩:=ZlD hE R (t:=ty) hv x hx hs.1
    have hst:x.st=st/\∃ad,tmps.getD a undef=.pointer (some ad):=by
     generalize tmps.getD a undef=va at hv
     unfold YZ at hx
     split at hx
     ·rename_i cs off hc
      rw [hc] at hv
      cases hv with
      | ptr _ _ ad g _ _ =>
       refine ⟨?_,_,rfl⟩
       split at hx
       ·cases hx;rfl
       ·split at hx
        ·cases hx;rfl
        ·cases hx
     ·rename_i id off hc
      rw [hc] at hv
      obtain ⟨b,_,rfl⟩:=hv
      refine ⟨?_,_,rfl⟩
      split at hx
      ·split at hx
       ·split at hx
        ·cases hx;rfl
        ·cases hx
       ·split at hx
        ·cases hx;rfl
        ·cases hx
      ·cases hx
     ·cases hx
    obtain ⟨hst,ad,had⟩:=hst
    rw [had] at hrun
    simp only [Instr.loadAt,Instr.sureAddr] at hrun
    have hl:(loadVar ty ad).run E.P w=.ok v w/\RV S w p v:=by
     refine ⟨?_,RSV.pv V' hp⟩
     cases hlv:(loadVar ty ad).run E.P w with
     | ok u w1 =>
      simp [hlv] at hrun
      obtain ⟨rfl,rfl⟩:=hrun
      rfl
     | halt x w1 =>
      simp [hlv] at hrun
    refine ⟨v::vs,by simp [List.mapM_cons,Zg4,h1,had,asAddr,hl.1],RVs.cons hl.2 h2⟩
   ·cases h
  ·cases h
theorem Zg5 (hE:ZQ E) (R:Rel E B S0 w0 st G S w tmps) {fn:Func} {p:PV} (h:Zi3 E fn.results.toList st p):∃v,(results fn tmps).run E.P w=.ok v w/\RV S w p v:=by
 unfold Zi3 at h
 split at h
 ·rename_i s ps hr
  obtain ⟨hs,rfl⟩:=h
  obtain ⟨vs,h1,h2⟩:=ZfH hE R _ s ps hr hs
  rw [Zeo,<-ZzJ (xs:=fn.results),List.mapM_toArray]
  refine ⟨_,by simp [h1];rfl,?_⟩
  unfold ZvY
  split
  ·rename_i q
   obtain ⟨hl,hg⟩:=h2
   match vs,hl with
   | [v],_=>simpa using hg 0 q v rfl rfl
  ·rename_i hne
   have:¬vs.length=1:=by
    intro he
    rw [<-h2.1] at he
    match ps,he with
    | [q],_=>exact hne q rfl
   simp only [this,dite_false]
   exact RV.tup _ _ h2.1 h2.2
 ·exact h.elim
theorem ZjP {tk:List (Nat × TypeId)} {svs:List SV} {vs:List Value} (k:Nat) (hl:svs.length=vs.length)
  (h:∀(i:Nat) (s:SV) (v:Value),svs[i]?=some s->vs[i]?=some v->RSV tk G S w s v) :
  (svs++List.replicate k SV.undef).length=(vs.toArray++Array.replicate k undef).size/\∀(t:Nat) (s:SV) (v:Value),(svs++List.replicate k SV.undef)[t]?=some s->(vs.toArray++Array.replicate k undef)[t]?=some v->RSV tk G S w s v:=by
 refine ⟨by simp [hl],λ t s v h1 h2=>?_⟩
 rw [<-Zy2] at h2
 simp only [Array.toList_append,Array.toList_replicate] at h2
 by_cases ht:t<svs.length
 ·rw [Zye ht] at h1
  rw [Zye (by rw [<-hl];exact ht)] at h2
  exact h t s v h1 h2
 ·rw [Zyd (by omega)] at h1
  rw [Zyd (by rw [<-hl];omega)] at h2
  have:=Zyb h1
  rw [ZzG] at this
  have:=Zyb h2
  rw [ZzG] at this
  simp_all [RSV]
theorem Zo1 {tk:List (Nat × TypeId)} {args:List PV} {vs:List Value} (h:RVs S w args vs) (i:Nat) (s:SV) (v:Value) (h1:(args.map SV.val)[i]?=some s) (h2:vs[i]?=some v):RSV tk G S w s v:=by
 rw [Zyh] at h1
 cases ha:args[i]? with
 | none=>rw [ha] at h1;cases h1
 | some p=>rw [ha] at h1;cases h1;exact h.2 i p v ha h2
theorem Rel.start (hY:E.Y=.none) (S:Addr->Prop) (w:World) (args:List PV) (vs:List Value) (k:Nat) (hS:∀a,S a->a.block<w.heap.size) (h:RVs S w args vs) :
  Rel E w.heap.size S w ⟨args.map .val++List.replicate k .undef,[],[],⟨[],0⟩⟩ ⟨[],[],[],λ _=>False⟩ S w (vs.toArray++Array.replicate k undef):=by
 obtain ⟨a,b⟩:=ZjP (G:=⟨[],[],[],λ _=>False⟩) (S:=S) (w:=w) (tk:=[]) (svs:=args.map SV.val) (vs:=vs) k (by simp [h.1]) (Zo1 h)
 exact ⟨⟨Zyp _,λ a ha=>.inl ha,hS,rfl,rfl,λ i b hb=>by simp at hb,λ i j b hb=>by simp at hb,λ id b cs hb=>by simp at hb,λ t n e hv ht=>by simp at ht,λ t t' n n' c c' g _ ht=>by simp at ht,
  rfl,λ i j b hb=>by simp at hb,λ i b hb=>by simp at hb,λ i b c hb=>by simp at hb,λ b hb=>hb.elim,λ i b hb=>by simp at hb,λ t n c g hb=>by simp at hb,λ i b hb=>by simp at hb,⟨by rw [hY];trivial,λ h=>absurd (by rw [hY];rfl) h⟩⟩,Below.refl _ _,a,b⟩
theorem Rel.startY (F:Nat->Prop) (S:Addr->Prop) (w:World) (args:List PV) (vs:List Value) (k:Nat) (hF:∀b,F b->b<w.heap.size) (hS:∀a,S a->a.block<w.heap.size) (h:RVs S w args vs) (hJ:E.Y.J 0 F S w) :
  Rel E 0 S w ⟨args.map .val++List.replicate k .undef,[],[],⟨[],0⟩⟩ ⟨[],[],[],F⟩ S w (vs.toArray++Array.replicate k undef):=by
 obtain ⟨a,b⟩:=ZjP (G:=⟨[],[],[],F⟩) (S:=S) (w:=w) (tk:=[]) (svs:=args.map SV.val) (vs:=vs) k (by simp [h.1]) (Zo1 h)
 exact ⟨⟨ZyQ _,λ a ha=>.inl ha,hS,rfl,rfl,λ i b hb=>by simp at hb,λ i j b hb=>by simp at hb,λ id b cs hb=>by simp at hb,λ t n e hv ht=>by simp at ht,λ t t' n n' c c' g _ ht=>by simp at ht,
  rfl,λ i j b hb=>by simp at hb,λ i b hb=>by simp at hb,λ i b c hb=>by simp at hb,hF,λ i b hb=>by simp at hb,λ t n c g hb=>by simp at hb,λ i b hb=>by simp at hb,⟨hJ,λ _=>rfl⟩⟩,Below.refl _ _,a,b⟩
theorem ZlS {P:Program} {fn:Func} {Rp:Ending->World->Prop} {tk0:List (Nat × TypeId)} {G0:Gh} {S1:Addr->Prop} {w1:World} {b0:Nat} (hB:B<=b0) (h1:w1.heap.size<=b0):∀(Ds:List Nat) (w:World),Ds.Nodup ->
  (∀D∈Ds,w.heap[D]?=some (.deferred (some []))/\¬Zag G D/\b0<=D)->Rel E B S0 w0 st G S w tmps->Ext tk0 G0 S1 w1 st.tk G S w ->
  (∀w',Rel E B S0 w0 st G S w' tmps->Ext tk0 G0 S1 w1 st.tk G S w'->LeavesIn Fence.wide n P fn tmps Rp [] .returning w') ->
  LeavesInM Fence.wide n P fn tmps Rp (Ds.map λ D=>({ target:=.collected D,args:=#[] }:Deferred)) .returning w
 | [],w,_,_,R,X,h=>h w R X
 | D::Ds,w,hnd,hD,R,X,h=>by
  obtain ⟨q1,q2,q3⟩:=hD D ZzU
  have R':=R.putRec (o':=.deferred none) q1 rfl rfl q2 (by omega)
  have X':=X.putRec (o':=.deferred none) q1 rfl rfl R.inv.slt (by omega)
  have hnd':=Z01.1 hnd
  exact ⟨by simp,.inl ⟨D,_,rfl,run_takeDeferred q1,ZlS hB h1 Ds _ hnd'.2 (λ D' hD'=>⟨(World.putObj_heap_other (λ e=>hnd'.1 (by rw [<-e];exact hD'))).trans (hD D' (ZyN _ hD')).1,(hD D' (ZyN _ hD')).2⟩) R' X' h⟩⟩
def Qz (args:List PV):Prop:=∃(S:Addr->Prop) (w:World) (vs:List Value),(∀a,S a->a.block<w.heap.size)/\RVs S w args vs
theorem Qz.mem {args:List PV} (h:Qz args) {p:PV} (hp:p∈args):Qz [p]:=by
 obtain ⟨S,w,vs,hS,hl,hv⟩:=h
 obtain ⟨i,hi⟩:=ZyF hp
 have hlt:i<vs.length:=by rw [<-hl];exact (ZxZ.1 hi).1
 exact ⟨S,w,[vs[i]],hS,RVs.cons (hv i p _ hi (Zya hlt)) RVs.nil⟩
theorem Qz.len {m:Nat} {xs:List PV} (h:Qz [.list m xs]):xs.length<=9223372036854775807:=by
 obtain ⟨S,w,vs,hS,hl,hv⟩:=h
 match vs,hl with
 | [v],_ =>
  have hr:=hv 0 _ v rfl rfl
  obtain ⟨a,ad,cap,g,rfl,_,h1,h2,_⟩:=RV.slice_iff hr
  have:maxLen=9223372036854775807:=rfl
  omega
theorem Qz.elem {m:Nat} {xs:List PV} (h:Qz [.list m xs]) {x:PV} (hx:x∈xs) {c:PV} (hc:c∈x.cells):Qz [c]:=by
 obtain ⟨S,w,vs,hS,hl,hv⟩:=h
 match vs,hl with
 | [v],_ =>
  have hr:=hv 0 _ v rfl rfl
  obtain ⟨i,hi⟩:=ZyF hx
  obtain ⟨j,hj⟩:=ZyF hc
  cases hr with
  | list _ _ a ad cap g ha hcap hmax hm hcc hrr=>exact ⟨S,w,[g i j],hS,RVs.cons (hrr i x j c hi hj) RVs.nil⟩
theorem Qz.cell {cs:List PV} (h:Qz [.agg cs]) {c:PV} (hc:c∈cs):Qz [c]:=by
 obtain ⟨S,w,vs,hS,hl,hv⟩:=h
 match vs,hl with
 | [v],_ =>
  have hr:=hv 0 _ v rfl rfl
  obtain ⟨us,rfl,h1,h2⟩:=RV.agg_iff hr
  obtain ⟨j,hj⟩:=ZyF hc
  have hlt:j<us.length:=by rw [<-h1];exact (ZxZ.1 hj).1
  exact ⟨S,w,[us[j]],hS,RVs.cons (h2 j c _ hj (Zya hlt)) RVs.nil⟩
def Zgf (E:Env) (rs:List ResultVar) (st:St) (p:PV):Prop :=
 match E.rows with
 | false=>Zi3 E rs st p
 | true=>∃st',Frz st [] st' []/\Zi3 E rs st' p
theorem Zjl {Q:AX->St->Prop} {tk0:List (Nat × TypeId)} {G0:Gh} {S1:Addr->Prop} {w1:World} {b0:Nat} {fn:Func} {Rp:Ending->World->Prop} (hB:B<=b0) (h1:w1.heap.size<=b0) {e:Exit} {a:Act} (hq:LQ E B S0 w0 tk0 G0 S1 w1 b0 none [] Q e a w)
  (hx:∀i st,¬Q (.exit i) st) (h:∀(e:AX) (st:St) (G:Gh) (S:Addr->Prop) (w:World),Q e st->Rel E B S0 w0 st G S w a.tmps->Ext tk0 G0 S1 w1 st.tk G S w->∃v,(results fn a.tmps).run E.P w=.ok v w/\Rp (.returned v) w) :
  bodyPostM Fence.wide n E.P fn Rp e a w:=by
 have go:∀(e:AX) (st:St) (G:Gh) (S:Addr->Prop),Q e st->Rel E B S0 w0 st G S w a.tmps->Ext tk0 G0 S1 w1 st.tk G S w->Put b0 none [] a.defers G w->LeavesInM Fence.wide n E.P fn a.tmps Rp a.defers .returning w:=by
  intro e st G S hk R X ⟨⟨Ds,d1,d2,d3⟩,_,_⟩
  rw [d1,Zzp]
  exact ZlS hB h1 Ds w d2 d3 R X λ w' R' X'=>h e st G S w' hk R' X'
 cases e with
 | normal=>obtain ⟨st,G,S,hk,R',X',P'⟩:=hq;exact go .normal st G S hk R' X' P'
 | ret=>obtain ⟨st,G,S,hk,R',X',P'⟩:=hq;exact go .ret st G S hk R' X' P'
 | exit id=>obtain ⟨st,G,S,hk,_⟩:=hq;exact (hx id st hk).elim
 | goto l=>exact hq.elim
 | panic ch=>exact hq.elim
 | outgrown=>exact hq.elim
theorem Zqx (hE:ZQ E) (hY:E.Y=.none) {f:FuncId} {fn:Func} {c:Code} (hf:E.P.funcs[f]?=some fn) (hb:fn.body=some c) (he:ZaJ E.P f) {args:List PV} {p:PV}
  (h:Qz args->wpC E c (0,0) ⟨args.map .val++List.replicate (fn.ntmps - args.length) .undef,[],[],⟨[],0⟩⟩ λ e st=>match e with | .exit _=>False | _=>Zgf E fn.results.toList st p):Zc E.P f args p:=by
 refine ⟨he,λ S w vs hS hv=>?_⟩
 rw [<-callsIn_wide (n:=0)]
 refine callsIn_of_wp_marks hf hb trivial ?_ rfl
 have R:=Rel.start (E:=E) hY S w args vs (fn.ntmps - args.length) hS hv
 have hlen:vs.toArray.size=args.length:=by simp [hv.1]
 rw [hlen]
 have hw:=ZmZ hE c (0,0) w.heap.size none 0 w.heap.size S w [] _ _ S w (by simp) ⟨by simp,λ _=>rfl⟩ _ _ _ S w _ [] (h ⟨S,w,vs,hS,hv⟩) R (Ext.refl _ _ _ _) ⟨⟨[],rfl,Z0C,by simp⟩,λ x hx=>(by cases hx),Zyp _⟩
 refine wpIn_mono hw λ e a' w' hq=>Zjl (Zyp _) (Zyp _) hq (λ i st h=>h) ?_
 intro e st G S' w' hr R' _
 have fin0:∀(st:St) (G:Gh) (S':Addr->Prop),Zi3 E fn.results.toList st p->Rel E w.heap.size S w st G S' w' a'.tmps ->
   ∃v,(results fn a'.tmps).run E.P w'=.ok v w'/\∃v',Ending.returned v=.returned v'/\Below w.heap.size w w'/\RV (ZnS S w w') w' p v':=by
  intro st G S' hr R'
  obtain ⟨v,h1,h2⟩:=Zg5 hE R' hr
  refine ⟨v,h1,v,rfl,R'.below,RV.mono (λ a ha=>?_) (λ _ _=>Qq.refl _ _) h2⟩
  rcases R'.inv.s0 a ha with h | h
  ·exact .inl h
  ·exact .inr ⟨h,R'.inv.slt a ha⟩
 have hr':Zgf E fn.results.toList st p:=by cases e<;>first | exact hr | exact hr.elim
 unfold Zgf at hr'
 split at hr'
 ·exact fin0 st G S' hr' R'
 ·obtain ⟨st',hF,hr'⟩:=hr'
  obtain ⟨S2,R2,_,_,_⟩:=hF.ok (vs:=[]) R' (λ i s v h=>by simp at h)
  exact fin0 st' G S2 hr' R2
def ZwS (E:Env) (rs:List ResultVar) (st:St) (r:SV):Prop:=(∃p,r=.val p/\Zi3 E rs st p)\/(∃t,rs=[.tmp t]/\r=st.sl.getD t .undef) \/
 ∃t id q rs' l s,rs=.tmp t::q::rs'/\st.sl.getD t .undef=.mp id/\ZeH E st (q::rs')=some (s,l)/\s/\r=.mtup id l
def Zww (E:Env) (nb:Nat × Nat) (rs:List ResultVar) (st:St) (Q:SV->List (Option (List SV))->List (Nat × TypeId)->Ax->Prop):Prop :=
 ∃st' r,Wk nb st st'/\ZwS E rs st' r/\Q r st'.bx st'.tk st'.ax
theorem Zsj (hE:ZQ E) {f:FuncId} {fn:Func} {c:Code} (hf:E.P.funcs[f]?=some fn) (hb:fn.body=some c) (he:ZaJ E.P f) {svs:List SV} {bx:List (Option (List SV))} {tk:List (Nat × TypeId)} {ax:Ax} {Q:SV->List (Option (List SV))->List (Nat × TypeId)->Ax->Prop}
  (hnt:(bx.length,ax.mp.length)=(0,0)->tk=[])
  (h:wpC E c (bx.length,ax.mp.length) ⟨svs++List.replicate (fn.ntmps - svs.length) .undef,bx,tk,ax⟩ λ e st=>match e with | .exit _=>False | _=>Zww E (bx.length,ax.mp.length) fn.results.toList st Q):ZV E f svs bx tk ax Q:=by
 refine ⟨he,λ B S0 w0 G S w vs hI hbel hl hv=>?_⟩
 rw [<-callsIn_wide (n:=0)]
 refine callsIn_of_wp_marks hf hb trivial ?_ rfl
 obtain ⟨q1,q2⟩:=ZjP (fn.ntmps - svs.length) hl hv
 have R:Rel E B S0 w0 ⟨svs++List.replicate (fn.ntmps - svs.length) .undef,bx,tk,ax⟩ G S w (vs.toArray++Array.replicate (fn.ntmps - svs.length) undef):=⟨hI,hbel,q1,q2⟩
 have hlen:vs.toArray.size=svs.length:=by simp [hl]
 rw [hlen]
 have hw:=ZmZ hE c (bx.length,ax.mp.length) w.heap.size none 0 B S0 w0 [] tk G S w (Z0D hI.lbx) ⟨Z0D hI.lmp,hnt⟩ _ _ G S w _ [] h R (Ext.refl _ _ _ _) ⟨⟨[],rfl,Z0C,by simp⟩,λ x hx=>(by cases hx),Zyp _⟩
 refine wpIn_mono hw λ e a' w' hq=>Zjl hI.base (Zyp _) hq (λ i st h=>h) ?_
 intro e st G2 S' w' hr R' X'
 have hr':Zww E (bx.length,ax.mp.length) fn.results.toList st Q:=by cases e<;>first | exact hr | exact hr.elim
 obtain ⟨st',rv,hwk,hres,hQ⟩:=hr'
 obtain ⟨G3,R3,X3,_⟩:=R'.wk (Z0D hI.lbx) ⟨Z0D hI.lmp,hnt⟩ hwk X'
 rcases hres with ⟨p,rfl,hr'⟩ | ⟨t,hrs,rfl⟩ | ⟨t,id,q,rs',l,s,hrs,hid,hl,hs,rfl⟩
 ·obtain ⟨v,h1,h2⟩:=Zg5 hE R3 hr'
  exact ⟨v,h1,v,_,st'.bx,st'.tk,st'.ax,G3,S',hQ,rfl,R3.inv,R3.below,X3,h2⟩
 ·refine ⟨a'.tmps.getD t undef,?_,_,_,st'.bx,st'.tk,st'.ax,G3,S',hQ,rfl,R3.inv,R3.below,X3,Zfa R3 t⟩
  rw [Zeo,<-ZzJ (xs:=fn.results),List.mapM_toArray,hrs]
  simp [Zg4]
 ·obtain ⟨vs,h1,h2⟩:=ZfH hE R3 _ s l hl hs
  have hv:=Zfa R3 t
  rw [hid] at hv
  obtain ⟨b,hb,hvb⟩:=hv
  have hl1:vs.length=rs'.length+1:=by
   rw [<-h2.1,ZhO _ _ _ hl]
   rfl
  refine ⟨.tuple (a'.tmps.getD t undef::vs).toArray,?_,_,_,st'.bx,st'.tk,st'.ax,G3,S',hQ,rfl,R3.inv,R3.below,X3,b,vs,hb,by rw [hvb],h2⟩
  rw [Zeo,<-ZzJ (xs:=fn.results),List.mapM_toArray,hrs]
  have h3:(List.mapM (Zg4 a'.tmps) (ResultVar.tmp t::q::rs')).run E.P w'=.ok (a'.tmps.getD t undef::vs) w':=by
   rw [List.mapM_cons,Sem.run_bind]
   simp only [Zg4,Sem.run_pure,Result.andThen_ok,Sem.run_bind,h1]
  rw [Sem.run_bind,Sem.run_map,h3]
  have hl2:¬(a'.tmps.getD t undef::vs).toArray.size=1:=by simp [hl1]
  simp only [Result.andThen_ok,hl2,dite_false,Sem.run_pure]
theorem Zna {P:Program} {T:TypeId->TD} {clo:FuncId->Bool} {rows:Bool} (hE:ZQ ⟨P,T,clo,rows,.none⟩) {f:FuncId} {fn:Func} {c:Code} (hf:P.funcs[f]?=some fn) (hb:fn.body=some c) (he:ZaJ P f) (hr:fn.results=#[]) {caps:List PV} {xs:List (List PV)} {an:Bool}
  (h:∀Y:YS,Y.ys=xs->Y.any=an->YOk P Y->Qz caps->wpC ⟨P,T,clo,rows,Y⟩ c (0,0) ⟨(PV.yld Y.l::caps).map .val++List.replicate (fn.ntmps - (caps.length+1)) .undef,[],[],⟨[],0⟩⟩ λ e st=>match e with | .exit _=>False | _=>Ziz an xs st.ax.yk\/st.ax.yk=ZbK an xs):ZkY P f caps xs an:=by
 refine ⟨he,λ Y r n F S w vs hY hYa hYok hJ hF hS hv=>?_⟩
 have hE':ZQ ⟨P,T,clo,rows,Y⟩:=⟨hE.td,hE.mixed,hYok⟩
 show CallsIn (Fence.wide) n P f _ w _
 refine callsIn_of_wp_marks hf hb trivial ?_ rfl
 have hv':RVs S w (PV.yld Y.l::caps) (.func (.yield Y.l) #[] #[]::vs):=RVs.cons (.yld _) hv
 have R:=Rel.startY (E:=⟨P,T,clo,rows,Y⟩) F S w (PV.yld Y.l::caps) _ (fn.ntmps - (caps.length+1)) hF hS hv' hJ
 have hlen:(#[Value.func (.yield Y.l) #[] #[]]++vs.toArray).size=caps.length+1:=by simp [hv.1,Zz2]
 have harr:#[Value.func (.yield Y.l) #[] #[]]++vs.toArray=(Value.func (.yield Y.l) #[] #[]::vs).toArray:=by simp
 rw [hlen,harr]
 have hw:=ZmZ hE' c (0,0) w.heap.size none n 0 S w [] _ _ S w (by simp) ⟨by simp,λ _=>rfl⟩ _ _ _ S w _ [] (h Y hY hYa hYok ⟨S,w,vs,hS,hv⟩) R (Ext.refl _ _ _ _) ⟨⟨[],rfl,Z0C,by simp⟩,λ x hx=>(by cases hx),Zyp _⟩
 refine wpIn_mono hw λ e a' w' hq=>Zjl (ZyQ _) (Zyp _) hq (λ i st h=>h) ?_
 intro e st G S' w' hr' R' X'
 have hr2:Ziz an xs st.ax.yk\/st.ax.yk=ZbK an xs:=by cases e<;>first | exact hr' | exact hr'.elim
 refine ⟨.tuple #[],by rw [Zeo,hr];simp,.tuple #[],st.ax.yk,G.fp,S',rfl,hr2,R'.inv.yl.1,X'.calm⟩
end
end Go.Abs
