/- Contracts of the functions, and what they rest on: part 4. -/
import Derived.Test.YtcafjndjnfdnpaaGreatU3
set_option linter.unusedVariables false
set_option linter.unusedSimpArgs false

/-
 Regions whose order is drawn: what an operation looks at;that it does the same wherever what it looks at is the same.
-/
namespace Go.Abs
open Go.RowKit
def memW:Op→Bool
 | .alloc _ | .box .. | .store ..=>true
 | _=>false
def memR:Op→Bool
 | .load ..=>true
 | _=>false
def tkW:Op→Bool
 | .call c=>(match c.callee with | .builtin .append=>true | _=>false)
 | _=>false
def noSeal (rw:RowM):Op→Bool
 | .makeFunc .. | .makeMap .. | .mapUpdate .. | .range .. | .entryStore .. | .next .. | .mapEntry ..=>false
 | .makeSlice ..=>!rw.rows
 | .call { callee:=.builtin .append,argTypes,.. }=>!rw.at_ argTypes.toList
 | .call { callee:=.builtin .delete,.. }=>false
 | .call { callee:=.builtin .clear,.. }=>false
 | _=>true
def PureOp (f:St→Option Res):Prop:=∀st st2 r,st2.ax=st.ax→f st=some r→f st2=some ⟨r.side,r.v,st2⟩∧r.st=st
theorem pure_pick (c a b:SV):PureOp (opPick c a b):=by
 intro st st2 r hax h
 unfold opPick at h ⊢
 split at h
 ·cases h;exact ⟨rfl,rfl⟩
 ·cases h
theorem pure_fieldAddr (E:Env) (s:TypeId) (x:SV) (f:Nat):PureOp (opFieldAddr E s x f):=by
 intro st st2 r hax h
 unfold opFieldAddr at h ⊢
 repeat' split at h
 all_goals first | (cases h;fail) | (cases h;simp_all) | (cases h)
theorem pure_build (E:Env) (t:TypeId) (ps:List (Nat × SV)):PureOp (opBuild E t ps):=by
 intro st st2 r hax h
 unfold opBuild at h ⊢
 repeat' split at h
 all_goals first | (cases h;fail) | (cases h;simp_all;done) | (cases h;simp_all;grind) | (cases h)
theorem pure_buildSlice (E:Env) (t:TypeId) (n:Nat) (ps:List (Nat × SV)):PureOp (opBuildSlice E t n ps):=by
 intro st st2 r hax h
 unfold opBuildSlice at h ⊢
 repeat' split at h
 all_goals first | (cases h;fail) | (cases h;simp_all) | (cases h)
theorem pure_sliceArr (E:Env) (t:TypeId) (id off:Nat) (lo hi mx:Option SV):PureOp (opSliceArr E t id off lo hi mx):=by
 intro st st2 r hax h
 unfold opSliceArr at h ⊢
 repeat' split at h
 all_goals first | (cases h;fail) | (cases h;simp_all) | (cases h)
theorem pure_slice (E:Env) (t:TypeId) (x:SV) (lo hi mx:Option SV):PureOp (opSlice E t x lo hi mx):=by
 intro st st2 r hax h
 unfold opSlice at h ⊢
 repeat' split at h
 all_goals first | (cases h;fail) | (cases h;simp_all) | (cases h)
theorem pure_indexAddr (E:Env) (t:TypeId) (x i:SV):PureOp (opIndexAddr E t x i):=by
 intro st st2 r hax h
 unfold opIndexAddr at h ⊢
 split at h
 ·cases h
 ·split at h
  ·split at h
   ·cases h
   ·rename_i hz
    rw [if_neg hz]
    split at h
    ·cases h;exact ⟨rfl,rfl⟩
    ·cases h;exact ⟨rfl,rfl⟩
    ·rename_i hne _
     split at h
     ·split at h
      ·rename_i he hm
       cases h
       simp [hm]
      ·cases h
     ·cases h
  ·split at h
   ·cases h
   ·rename_i hz
    rw [if_neg hz]
    split at h
    ·cases h;exact ⟨rfl,rfl⟩
    ·cases h;exact ⟨rfl,rfl⟩
    ·cases h
  ·cases h
theorem pure_sliceRow (E:Env) (t:TypeId) (id off m len cap:Nat) (lo hi mx:Option SV):PureOp (opSliceRow E t id off m len cap lo hi mx):=by
 intro st st2 r hax h
 unfold opSliceRow at h ⊢
 repeat' split at h
 all_goals first | (cases h;fail) | (cases h;simp_all;omega) | (cases h;simp_all) | (cases h)
theorem pure_index (E:Env) (t:TypeId) (x i:SV):PureOp (opIndex E t x i):=by
 intro st st2 r hax h
 unfold opIndex at h ⊢
 split at h
 ·cases h;exact ⟨rfl,rfl⟩
 ·cases h
theorem pure_field (E:Env) (t:TypeId) (x:SV) (f:Nat):PureOp (opField E t x f):=by
 intro st st2 r hax h
 unfold opField at h ⊢
 repeat' split at h
 all_goals first | (cases h;fail) | (cases h;simp_all) | (cases h)
theorem pure_extract (x:SV) (i:Nat):PureOp (opExtract x i):=by
 intro st st2 r hax h
 unfold opExtract at h ⊢
 repeat' split at h
 all_goals first | (cases h;fail) | (cases h;simp_all) | (cases h)
theorem pure_un (o:UnOp) (x:SV):PureOp (opUn o x):=by
 intro st st2 r hax h
 unfold opUn at h ⊢
 repeat' split at h
 all_goals first | (cases h;fail) | (cases h;simp_all) | (cases h)
theorem pure_convert (E:Env) (s d:TypeId) (x:SV):PureOp (opConvert E s d x):=by
 intro st st2 r hax h
 unfold opConvert at h ⊢
 split at h
 ·split at h
  ·rename_i hc;cases h;rw [if_pos hc];exact ⟨rfl,rfl⟩
  ·rename_i hc;cases h;rw [if_neg hc];exact ⟨rfl,rfl⟩
 ·cases h;exact ⟨rfl,rfl⟩
 ·cases h
theorem pure_bin (E:Env) (o:BinOp) (t:TypeId) (x y:SV):PureOp (opBin E o t x y):=by
 intro st st2 r hax h
 unfold opBin at h ⊢
 repeat' split at h
 all_goals first | (cases h;fail) | (cases h;simp_all;done) | (cases h;exact ⟨rfl,rfl⟩) | (cases h)
theorem entsOf_ax {m:SV} {st st2:St} (h:st2.ax=st.ax):entsOf m st2=entsOf m st:=by
 unfold entsOf
 rw [h]
theorem iterEs_ax {src:Option Nat} {es:List (PV × PV)} {st st2:St} (h:st2.ax=st.ax):iterEs st2 src es=iterEs st src es:=by
 unfold iterEs
 rw [h]
theorem pure_lookup (E:Env) (t:TypeId) (m x:SV) (ok:Bool):PureOp (opLookup E t m x ok):=by
 intro st st2 r hax h
 unfold opLookup at h ⊢
 rw [entsOf_ax hax]
 repeat' split at h
 all_goals first | (cases h;fail) | (cases h;simp_all;done) | (cases h;exact ⟨rfl,rfl⟩) | (cases h)
theorem pure_entry (x:SV):PureOp (opEntry x):=by
 intro st st2 r hax h
 unfold opEntry at h ⊢
 simp only [iterEs_ax hax]
 rw [hax]
 repeat' split at h
 all_goals first | (cases h;fail) | (cases h;simp_all;done) | (cases h;exact ⟨rfl,rfl⟩) | (cases h)
theorem pure_len (E:Env) (t:TypeId) (x:SV):PureOp (opLen E t x):=by
 intro st st2 r hax h
 unfold opLen at h ⊢
 simp only [entsOf_ax hax]
 repeat' split at h
 all_goals first | (cases h;fail) | (cases h;simp_all) | (cases h)
theorem pure_minMax (mn:Bool) (xs:List SV):PureOp (opMinMax mn xs):=by
 intro st st2 r hax h
 unfold opMinMax at h ⊢
 repeat' split at h
 all_goals first | (cases h;fail) | (cases h;simp_all) | (cases h)
theorem pure_makeSlice (E:Env) (h0:E.rows=false) (t:TypeId) (l c:SV):PureOp (opMakeSlice E t l c):=by
 intro st st2 r hax h
 unfold opMakeSlice at h ⊢
 rw [h0] at h ⊢
 repeat' split at h
 all_goals first | (cases h;fail) | (cases h;simp_all) | (cases h)
def LocalOp (op:Op) (st st2:St) (r r2:Option Res):Prop :=
 ∀x,r=some x→(x.st.sl=st.sl∧x.st.ax=st.ax)∧(memW op=false→x.st.bx=st.bx)∧(tkW op=false→x.st.tk=st.tk) ∧
  r2=some ⟨x.side,x.v,⟨st2.sl,if memW op then x.st.bx else st2.bx,if tkW op then x.st.tk else st2.tk,st2.ax⟩⟩
theorem PureOp.local {f:St→Option Res} (h:PureOp f) {op:Op} (hm:memW op=false) (ht:tkW op=false) (st st2:St) (hax:st2.ax=st.ax):LocalOp op st st2 (f st) (f st2):=by
 intro x hx
 obtain ⟨h1,h2⟩:=h st st2 x hax hx
 rw [hm,ht,h1,h2]
 exact ⟨⟨rfl,rfl⟩,fun _=>rfl,fun _=>rfl,rfl⟩
theorem evalOp_local (E:Env) (op:Op) (st st2:St) (hs:noSeal E.rm op=true) (hv:∀x∈op.operands,valOf st2 x=valOf st x) (hb:memW op=true∨memR op=true→st2.bx=st.bx) (ht:tkW op=true→st2.tk=st.tk) (hax:st2.ax=st.ax) :
  LocalOp op st st2 (evalOp E op st) (evalOp E op st2):=by
 have none_:∀r2,LocalOp op st st2 none r2:=fun r2 x hx=>by cases hx
 cases op with
 | move x=>
  have:=hv x (by simp [Op.operands])
  simp only [evalOp,this]
  exact PureOp.local (f:=fun st'=>some ⟨True,valOf st x,st'⟩) (fun a b r _ h=>by cases h;exact ⟨rfl,rfl⟩) rfl rfl st st2 hax
 | assign x =>
  have:=hv x (by simp [Op.operands])
  simp only [evalOp,this]
  exact PureOp.local (f:=fun st'=>some ⟨True,valOf st x,st'⟩) (fun a b r _ h=>by cases h;exact ⟨rfl,rfl⟩) rfl rfl st st2 hax
 | pick c a b =>
  simp only [evalOp,hv c (by simp [Op.operands]),hv a (by simp [Op.operands]),hv b (by simp [Op.operands])]
  exact PureOp.local (pure_pick _ _ _) rfl rfl st st2 hax
 | alloc t =>
  have e:=hb (.inl rfl)
  intro x hx
  simp only [evalOp,opAlloc] at hx ⊢
  split at hx
  ·rename_i hc
   cases hx
   simp [hc,e,memW,tkW,St.newBx]
  ·cases hx
 | box t x =>
  have e:=hb (.inl rfl)
  intro r hx
  simp only [evalOp,hv x (by simp [Op.operands])] at hx ⊢
  have m1:memW (.box t x)=true:=rfl
  have m2:tkW (.box t x)=false:=rfl
  rw [m1,m2]
  unfold opBox at hx ⊢
  repeat' split at hx
  all_goals first | (cases hx;fail) | (cases hx;simp_all [St.newBx];done) | (cases hx)
 | build t ps =>
  have e:(ps.toList.map fun p=>(p.1,valOf st2 p.2))=ps.toList.map fun p=>(p.1,valOf st p.2):=List.map_congr_left fun p hp=>by
   rw [hv p.2 (by simp only [Op.operands,List.mem_toArray,List.mem_map];exact ⟨p,hp,rfl⟩)]
  simp only [evalOp,e]
  exact PureOp.local (pure_build _ _ _) rfl rfl st st2 hax
 | buildSlice t n ps =>
  have e:(ps.toList.map fun p=>(p.1,valOf st2 p.2))=ps.toList.map fun p=>(p.1,valOf st p.2):=List.map_congr_left fun p hp=>by
   rw [hv p.2 (by simp only [Op.operands,List.mem_toArray,List.mem_map];exact ⟨p,hp,rfl⟩)]
  simp only [evalOp,e]
  exact PureOp.local (pure_buildSlice _ _ _ _) rfl rfl st st2 hax
 | load t a =>
  have e:=hb (.inr rfl)
  intro r hx
  simp only [evalOp,hv a (by simp [Op.operands])] at hx ⊢
  have m1:memW (.load t a)=false:=rfl
  have m2:tkW (.load t a)=false:=rfl
  rw [m1,m2]
  unfold opLoad at hx ⊢
  clear hb hv ht none_ m1 m2
  obtain ⟨sl2,bx2,tk2,ax2⟩:=st2
  obtain ⟨sl1,bx1,tk1,ax1⟩:=st
  subst e
  split at hx
  ·split at hx
   ·rename_i hc;cases hx;rw [if_pos hc];exact ⟨⟨rfl,rfl⟩,fun _=>rfl,fun _=>rfl,rfl⟩
   ·rename_i hc
    rw [if_neg hc]
    split at hx
    ·rename_i h1;cases hx;rw [if_pos h1];exact ⟨⟨rfl,rfl⟩,fun _=>rfl,fun _=>rfl,rfl⟩
    ·cases hx
  ·simp only at hx ⊢
   split at hx
   ·split at hx
    ·rename_i hcs hc
     split at hx
     ·rename_i hp;cases hx;exact ⟨⟨rfl,rfl⟩,fun _=>rfl,fun _=>rfl,by simp [hcs,hc,hp]⟩
     ·cases hx
    ·rename_i hcs hc
     split at hx
     ·rename_i h1;cases hx;exact ⟨⟨rfl,rfl⟩,fun _=>rfl,fun _=>rfl,by simp only [hcs,hc,h1];rfl⟩
     ·cases hx
   ·cases hx
  ·cases hx
 | store t a x =>
  have e:=hb (.inl rfl)
  intro r hx
  simp only [evalOp,hv a (by simp [Op.operands]),hv x (by simp [Op.operands])] at hx ⊢
  have m1:memW (.store t a x)=true:=rfl
  have m2:tkW (.store t a x)=false:=rfl
  rw [m1,m2]
  unfold opStore at hx ⊢
  obtain ⟨sl2,bx2,tk2,ax2⟩:=st2
  obtain ⟨sl1,bx1,tk1,ax1⟩:=st
  subst e
  clear hb hv ht
  repeat' split at hx
  all_goals first | (cases hx;fail) | (cases hx;simp_all [St.setBx];done) | (cases hx)
 | nilCheck x =>
  simp only [evalOp,hv x (by simp [Op.operands])]
  refine PureOp.local (f:=fun st=>(match valOf _ x with | .val (.ptr cs o)=>some ⟨True,.val (.ptr cs o),st⟩ | .box id o=>some ⟨True,.box id o,st⟩ | .val (.fn f cs)=>some ⟨True,.val (.fn f cs),st⟩ | .clo f cs=>some ⟨True,.clo f cs,st⟩ | .rbx a b c d e=>some ⟨True,.rbx a b c d e,st⟩ | .val (.yld l)=>some ⟨True,.val (.yld l),st⟩ | _=>none)) (fun a b r _ h=>?_) rfl rfl st st2 hax
  split at h<;>cases h<;>simp_all
 | binOp o t x y z =>
  simp only [evalOp,hv x (by simp [Op.operands]),hv y (by simp [Op.operands])]
  exact PureOp.local (pure_bin _ _ _ _ _) rfl rfl st st2 hax
 | unOp o t x =>
  simp only [evalOp,hv x (by simp [Op.operands])]
  exact PureOp.local (pure_un _ _) rfl rfl st st2 hax
 | convert s d x =>
  simp only [evalOp,hv x (by simp [Op.operands])]
  exact PureOp.local (pure_convert _ _ _ _) rfl rfl st st2 hax
 | makeFunc f a b=>cases hs
 | makeMap t r=>cases hs
 | mapUpdate t m x v=>cases hs
 | makeSlice t l c =>
  have hrw:E.rows=false:=by simpa [noSeal,Env.rm] using hs
  simp only [evalOp,hv l (by simp [Op.operands]),hv c (by simp [Op.operands])]
  exact PureOp.local (pure_makeSlice _ hrw _ _ _) rfl rfl st st2 hax
 | slice t x lo hi mx =>
  have e1:lo.map (valOf st2)=lo.map (valOf st):=by cases lo with | none=>rfl | some y=>simp [hv y (by simp [Op.operands])]
  have e2:hi.map (valOf st2)=hi.map (valOf st):=by cases hi with | none=>rfl | some y=>simp [hv y (by simp [Op.operands])]
  have e3:mx.map (valOf st2)=mx.map (valOf st):=by cases mx with | none=>rfl | some y=>simp [hv y (by simp [Op.operands])]
  simp only [evalOp,hv x (by simp [Op.operands]),e1,e2,e3]
  split
  ·exact PureOp.local (pure_sliceArr _ _ _ _ _ _ _) rfl rfl st st2 hax
  ·exact PureOp.local (pure_sliceRow _ _ _ _ _ _ _ _ _ _) rfl rfl st st2 hax
  ·exact PureOp.local (pure_slice _ _ _ _ _ _) rfl rfl st st2 hax
 | fieldAddr s x f =>
  simp only [evalOp,hv x (by simp [Op.operands])]
  exact PureOp.local (pure_fieldAddr _ _ _ _) rfl rfl st st2 hax
 | field t x f =>
  simp only [evalOp,hv x (by simp [Op.operands])]
  exact PureOp.local (pure_field _ _ _ _) rfl rfl st st2 hax
 | indexAddr t x i =>
  simp only [evalOp,hv x (by simp [Op.operands]),hv i (by simp [Op.operands])]
  exact PureOp.local (pure_indexAddr _ _ _ _) rfl rfl st st2 hax
 | index t x i =>
  simp only [evalOp,hv x (by simp [Op.operands]),hv i (by simp [Op.operands])]
  exact PureOp.local (pure_index _ _ _ _) rfl rfl st st2 hax
 | extract x i =>
  simp only [evalOp,hv x (by simp [Op.operands])]
  exact PureOp.local (pure_extract _ _) rfl rfl st st2 hax
 | call c =>
  have e:c.args.toList.map (valOf st2)=c.args.toList.map (valOf st):=List.map_congr_left fun p hp=>hv p (by simp only [Op.operands,Call.operands];exact Array.mem_append.2 (.inr (by simpa using hp)))
  obtain ⟨callee,args,argTypes⟩:=c
  cases callee with
  | builtin b =>
   simp only [evalOp] at e ⊢
   rw [e]
   unfold opBuiltin
   split
   ·exact PureOp.local (pure_len _ _ _) rfl rfl st st2 hax
   ·have ek:=ht rfl
    split
    ·intro r hx
     rw [show memW _=false from rfl,show tkW _=true from rfl]
     unfold opAppend at hx ⊢
     rw [ek]
     repeat' split at hx
     all_goals first | (cases hx;fail) | (cases hx;simp_all [St.newBx];done) | (cases hx)
    ·exact none_ _
   ·exact PureOp.local (pure_minMax _ _) rfl rfl st st2 hax
   ·exact PureOp.local (pure_minMax _ _) rfl rfl st st2 hax
   ·cases hs
   ·cases hs
   ·exact none_ _
  | value x=>exact none_ _
  | invoke r m=>exact none_ _
 | lookup t m x ok =>
  simp only [evalOp,hv m (by simp [Op.operands]),hv x (by simp [Op.operands])]
  exact PureOp.local (pure_lookup _ _ _ _ _) rfl rfl st st2 hax
 | entry x =>
  simp only [evalOp,hv x (by simp [Op.operands])]
  exact PureOp.local (pure_entry _) rfl rfl st st2 hax
 | range t m=>cases hs
 | entryStore t m k v=>cases hs
 | _=>exact none_ _
end Go.Abs
/-
  Regions whose order is drawn: whatever the order, they come to where the order of the text comes.
-/
namespace Go.Abs
open Go.RowKit
def StepA (E:Env) (ops:List Oper) (o:Oper) (st:St) (v:SV) (m:St):Prop :=
 match o.guard with
 | none=>wpOp E true o.op st fun v' m'=>v'=v∧m'=m
 | some (j,want)=>∃t,dstOf ops j=some t ∧
   ((st.sl.getD t .undef=.val (.bool want)∧wpOp E true o.op st fun v' m'=>v'=v∧m'=m) ∨
   ((st.sl.getD t .undef=.undef∨st.sl.getD t .undef=.val (.bool (!want)))∧v=.undef∧m=st))
theorem Res.go_def {r:Option Res} {K:SV→St→Prop} (h:Res.go r K):∃v m,K v m∧Res.go r fun v' m'=>v'=v∧m'=m:=by
 unfold Res.go at *
 cases r with
 | none=>exact h.elim
 | some x=>exact ⟨x.v,x.st,h.2,h.1,rfl,rfl⟩
theorem wpOp_def {E:Env} {op:Op} {st:St} {K:SV→St→Prop} (h:wpOp E true op st K):∃v m,K v m∧wpOp E true op st fun v' m'=>v'=v∧m'=m:=by
 unfold wpOp at *
 split at h
 ·split at h
  ·split at h
   ·obtain ⟨r,h1,h2⟩:=h
    exact ⟨_,_,h2,r,h1,rfl,rfl⟩
   ·exact absurd h.1 (by simp)
  ·exact absurd h.1 (by simp)
  ·split at h
   ·exact absurd h.1 (by simp)
   ·exact absurd h.1 (by simp)
  ·exact h.elim
 ·split at h
  ·exact absurd h.1 (by simp)
  ·exact Res.go_def h
 ·exact absurd h.1 (by simp)
 ·exact absurd h.1 (by simp)
 ·split at h
  ·exact absurd h.1 (by simp)
  ·exact Res.go_def h
 ·exact Res.go_def h
theorem put_same {st:St} {t:Tmp} {v:SV} (h:st.sl.getD t .undef=v) (hu:v≠.undef):st.put (some t) v=st:=by
 have hlt:t<st.sl.length:=by
  rcases Nat.lt_or_ge t st.sl.length with h' | h'
  ·exact h'
  ·rw [List.getD_eq_getElem?_getD,List.getElem?_eq_none h'] at h;exact absurd h.symm hu
 have:st.sl.set t v=st.sl:=by
  apply List.ext_getElem?
  intro i
  rw [List.getElem?_set]
  split
  ·rename_i hi
   subst hi
   rw [List.getD_eq_getElem?_getD,List.getElem?_eq_getElem hlt] at h
   rw [List.getElem?_eq_getElem hlt]
   simpa using h.symm
  ·rfl
 simp [St.put,this]
theorem wpOps_trace {E:Env} {ops:List Oper}:∀(l:List Oper) (st:St) (K:St→Prop),wpOps E true ops l st K →
  ∃(T:Nat→St) (V:Nat→SV) (M:Nat→St),T 0=st∧K (T l.length)∧∀i o,l[i]?=some o→StepA E ops o (T i) (V i) (M i)∧T (i+1)=(M i).put o.dst (V i)
 | [],st,K,h=>⟨fun _=>st,fun _=>.undef,fun _=>st,rfl,h,fun i o hi=>by simp at hi⟩
 | o::rest,st,K,h=>by
  have fin:∀(v:SV) (m:St),StepA E ops o st v m→wpOps E true ops rest (m.put o.dst v) K→∃(T:Nat→St) (V:Nat→SV) (M:Nat→St),T 0=st∧K (T (o::rest).length) ∧
    ∀i o',(o::rest)[i]?=some o'→StepA E ops o' (T i) (V i) (M i)∧T (i+1)=(M i).put o'.dst (V i):=by
   intro v m hs hr
   obtain ⟨T,V,M,h1,h2,h3⟩:=wpOps_trace rest _ K hr
   refine ⟨fun i=>match i with | 0=>st | i+1=>T i,fun i=>match i with | 0=>v | i+1=>V i,fun i=>match i with | 0=>m | i+1=>M i,rfl,h2,fun i o' hi=>?_⟩
   cases i with
   | zero=>simp at hi;subst hi;exact ⟨hs,h1⟩
   | succ i=>exact h3 i o' (by simpa using hi)
  simp only [wpOps] at h
  split at h
  ·rename_i hg
   obtain ⟨v,m,hk,hw⟩:=wpOp_def h
   exact fin v m (by unfold StepA;rw [hg];exact hw) hk
  ·rename_i j want hg
   split at h
   ·exact h.elim
   ·rename_i t ht
    split at h
    ·rename_i hu
     exact fin .undef st (by unfold StepA;rw [hg];exact ⟨t,ht,.inr ⟨.inl hu,rfl,rfl⟩⟩) h
    ·rename_i b hb
     by_cases hbw:b=want
     ·subst hbw
      have h1:=h.1 rfl
      rw [put_same hb (by simp)] at h1
      obtain ⟨v,m,hk,hw⟩:=wpOp_def h1
      exact fin v m (by unfold StepA;rw [hg];exact ⟨t,ht,.inl ⟨hb,hw⟩⟩) hk
     ·have hbn:b=!want:=by cases b<;>cases want<;>simp_all
      subst hbn
      have h1:=h.2 rfl
      rw [put_same hb (by simp)] at h1
      exact fin .undef st (by unfold StepA;rw [hg];exact ⟨t,ht,.inr ⟨.inr hb,rfl,rfl⟩⟩) h1
    ·exact h.elim
def looksL (ops:List Oper) (o:Oper):List Tmp :=
 (o.op.operands.toList.filterMap fun x=>match x with | .tmp t=>some t | _=>none)++(match o.guard with | none=>[] | some (j,_)=>(dstOf ops j).toList)
theorem valOf_eq {st st2:St} {x:Operand} (h:∀t,x=.tmp t→st2.sl.getD t .undef=st.sl.getD t .undef):valOf st2 x=valOf st x:=by
 cases x with
 | tmp t=>exact h t rfl
 | _=>rfl
theorem Res.go_local {op:Op} {st st2:St} {r r2:Option Res} (h:LocalOp op st st2 r r2) {v:SV} {m:St} (hg:Res.go r fun v' m'=>v'=v∧m'=m) :
  (m.sl=st.sl∧m.ax=st.ax)∧(memW op=false→m.bx=st.bx)∧(tkW op=false→m.tk=st.tk) ∧
   Res.go r2 fun v' m'=>v'=v∧m'=⟨st2.sl,if memW op then m.bx else st2.bx,if tkW op then m.tk else st2.tk,st2.ax⟩:=by
 unfold Res.go at hg
 cases r with
 | none=>exact hg.elim
 | some x =>
  obtain ⟨hs,rfl,rfl⟩:=hg
  obtain ⟨h1,h2,h3,h4⟩:=h x rfl
  rw [h4]
  exact ⟨h1,h2,h3,hs,rfl,rfl⟩
theorem wpOp_local {E:Env} {op:Op} {st st2:St} {v:SV} {m:St} (hs:noSeal E.rm op=true) (hv:∀x∈op.operands,valOf st2 x=valOf st x) (hb:memW op=true∨memR op=true→st2.bx=st.bx) (ht:tkW op=true→st2.tk=st.tk) (hax:st2.ax=st.ax)
  (h:wpOp E true op st fun v' m'=>v'=v∧m'=m) :
  (m.sl=st.sl∧m.ax=st.ax)∧(memW op=false→m.bx=st.bx)∧(tkW op=false→m.tk=st.tk) ∧
   wpOp E true op st2 fun v' m'=>v'=v∧m'=⟨st2.sl,if memW op then m.bx else st2.bx,if tkW op then m.tk else st2.tk,st2.ax⟩:=by
 have hl:=evalOp_local E op st st2 hs hv hb ht hax
 by_cases hc:∃x args ts,op=.call { callee:=.value x,args,argTypes:=ts }
 ·obtain ⟨x,args,ts,rfl⟩:=hc
  simp only [wpOp] at h ⊢
  have e1:args.toList.map (valOf st2)=args.toList.map (valOf st):=List.map_congr_left fun p hp=>hv p (by simp only [Op.operands,Call.operands];exact Array.mem_append.2 (.inr (by simpa using hp)))
  have e2:valOf st2 x=valOf st x:=hv x (by simp [Op.operands,Call.operands])
  rw [e1,e2]
  split at h
  ·split at h
   ·obtain ⟨r,h1,rfl,rfl⟩:=h
    have m1:memW (.call { callee:=.value x,args,argTypes:=ts })=false:=rfl
    have m2:tkW (.call { callee:=.value x,args,argTypes:=ts })=false:=rfl
    rw [m1,m2]
    exact ⟨⟨rfl,rfl⟩,fun _=>rfl,fun _=>rfl,r,h1,rfl,rfl⟩
   ·exact absurd h.1 (by simp)
  ·exact absurd h.1 (by simp)
  ·split at h
   ·exact absurd h.1 (by simp)
   ·exact absurd h.1 (by simp)
  ·exact h.elim
 ·by_cases hap:∃args ts,op=.call { callee:=.builtin .append,args,argTypes:=ts }∧rowsAt E ts.toList=true
  ·obtain ⟨args,ts,rfl,hr⟩:=hap
   simp [noSeal,Env.rm,hr] at hs
  have hnil:∀bop t x y u b,op=.binOp bop t x y u→nilOp bop y=some b→False:=fun bop t x y u b e1 e2=>by
   subst e1
   simp only [wpOp,e2] at h
   exact absurd h.1 (by simp)
  have e:∀(s:St) (K:SV→St→Prop),wpOp E true op s K=Res.go (evalOp E op s) K:=fun s K=>by
   unfold wpOp
   split
   ·exact (hc ⟨_,_,_,rfl⟩).elim
   ·split
    ·rename_i hr;exact (hap ⟨_,_,rfl,hr⟩).elim
    ·rfl
   ·simp [noSeal] at hs
   ·simp [noSeal] at hs
   ·split
    ·rename_i b hb;exact (hnil _ _ _ _ _ b rfl hb).elim
    ·rfl
   ·rfl
  rw [e] at h ⊢
  exact Res.go_local hl h
theorem looks_operand {ops:List Oper} {o:Oper} {t:Tmp} (h:Operand.tmp t∈o.op.operands):t∈looksL ops o :=
 List.mem_append_left _ (List.mem_filterMap.2 ⟨.tmp t,by simpa using h,rfl⟩)
theorem StepA.local {E:Env} {ops:List Oper} {o:Oper} {st st2:St} {v:SV} {m:St} (hs:noSeal E.rm o.op=true) (hv:∀t∈looksL ops o,st2.sl.getD t .undef=st.sl.getD t .undef)
  (hb:memW o.op=true∨memR o.op=true→st2.bx=st.bx) (ht:tkW o.op=true→st2.tk=st.tk) (hax:st2.ax=st.ax) (h:StepA E ops o st v m) :
  (m.sl=st.sl∧m.ax=st.ax)∧(memW o.op=false→m.bx=st.bx)∧(tkW o.op=false→m.tk=st.tk) ∧
   StepA E ops o st2 v ⟨st2.sl,if memW o.op then m.bx else st2.bx,if tkW o.op then m.tk else st2.tk,st2.ax⟩:=by
 have hv':∀x∈o.op.operands,valOf st2 x=valOf st x:=fun x hx=>valOf_eq fun t ht=>hv t (looks_operand (by rw [←ht];exact hx))
 unfold StepA at h ⊢
 split at h
 ·rename_i hg
  exact wpOp_local hs hv' hb ht hax h
 ·rename_i j want hg
  obtain ⟨t,hd,h⟩:=h
  have hgl:st2.sl.getD t .undef=st.sl.getD t .undef:=hv t (List.mem_append_right _ (by rw [hg];simp [hd]))
  rcases h with ⟨h1,h2⟩ | ⟨h1,rfl,rfl⟩
  ·obtain ⟨a,b,c,e⟩:=wpOp_local hs hv' hb ht hax h2
   exact ⟨a,b,c,t,hd,.inl ⟨by rw [hgl];exact h1,e⟩⟩
  ·refine ⟨⟨rfl,rfl⟩,fun _=>rfl,fun _=>rfl,t,hd,.inr ⟨by rw [hgl];exact h1,rfl,?_⟩⟩
   have e1:(if memW o.op then m.bx else st2.bx)=st2.bx:=by split<;>simp_all
   have e2:(if tkW o.op then m.tk else st2.tk)=st2.tk:=by split<;>simp_all
   rw [e1,e2]
section
variable {E:Env} {B:Nat} {S0:Addr→Prop} {w0:World} {st:St} {G:Gh} {S:Addr→Prop} {w:World} {tmps:Array Value} {r:Option Nat} {n:Nat}
theorem stepA_ok (hE:EnvOk E) {ops:Array Oper} {i:Nat} {o:Oper} {K:Act→World→Prop} {Q:Exit→Act→World→Prop} {v:SV} {m:St} (d:List Deferred) {tk0:List (Nat × TypeId)} {G0:Gh} {S1:Addr→Prop} {w1:World} (R:Rel E B S0 w0 st G S w tmps) (X:Ext tk0 G0 S1 w1 st.tk G S w) (ho:ops[i]?=some o)
  (h:StepA E ops.toList o st v m)
  (hK:∀(G':Gh) (S':Addr→Prop) (w':World) (tmps':Array Value),Rel E B S0 w0 (m.put o.dst v) G' S' w' tmps'→Ext tk0 G0 S1 w1 (m.put o.dst v).tk G' S' w'→K { tmps:=tmps',defers:=d } w') :
  wpOpIn (Fr r) n E.P ops Q i K { tmps:=tmps,defers:=d } w:=by
 have go:∀(v':Value) (G':Gh) (S':Addr→Prop) (w':World),Rel E B S0 w0 m G' S' w' tmps→RSV m.tk G' S' w' v v'→Ext tk0 G0 S1 w1 m.tk G' S' w'→K (({ tmps:=tmps,defers:=d }:Act).put o.dst v') w':=by
  intro v' G' S' w' R' V' X'
  obtain ⟨R2,hd⟩:=R'.put V' o.dst d
  rw [act_eta hd]
  exact hK G' S' w' _ R2 (by rw [put_tk];exact X')
 have run:(wpOp E true o.op st fun v' m'=>v'=v∧m'=m)→o.wpIn (Fr r) n E.P { tmps:=tmps,defers:=d } w K Q:=fun hw =>
  wpOp_ok hE R o d hw (fun v' s st' G' S' w' hk R' V' X'=>by
   obtain ⟨rfl,rfl⟩:=hk
   exact go v' G' S' w' R' V' (X.trans X'))
 unfold wpOpIn
 simp only [ho]
 unfold StepA at h
 split at h
 ·rename_i hg
  rw [if_pos (by simp [Region.wanted,hg])]
  exact run h
 ·rename_i j want hg
  obtain ⟨t,ht,h⟩:=h
  have hty:(ops[j]?).bind (·.dst)=some t:=by simpa [dstOf] using ht
  have hlook:yielded ops tmps j=match tmps[t]? with | some (.bool b)=>some b | _=>none:=by
   simp only [yielded,hty,Option.bind_some]
   rfl
  have hrs:RSV st.tk G S w (st.sl.getD t .undef) (tmps.getD t undef):=rsv_getD R t
  rcases h with ⟨h1,h2⟩ | ⟨h1,rfl,rfl⟩
  ·rw [h1] at hrs
   have hb:=RV.bool_inv hrs
   have hy:tmps[t]?=some (.bool want):=by
    rw [Array.getD_eq_getD_getElem?] at hb
    cases hq:tmps[t]? with
    | none=>rw [hq] at hb;cases hb
    | some u=>rw [hq] at hb;simpa using hb
   rw [if_pos (by simp [Region.wanted,hg,hlook,hy])]
   exact run h2
  ·have hno:Region.wanted o (yielded ops tmps)=false:=by
    simp only [Region.wanted,hg,hlook]
    rcases h1 with h1 | h1
    ·rw [h1] at hrs
     have hrs:tmps.getD t undef=undef:=hrs
     rw [Array.getD_eq_getD_getElem?] at hrs
     cases hq:tmps[t]? with
     | none=>rfl
     | some u=>rw [hq] at hrs;simp only [Option.getD_some] at hrs;subst hrs;rfl
    ·rw [h1] at hrs
     have hb:=RV.bool_inv hrs
     rw [Array.getD_eq_getD_getElem?] at hb
     cases hq:tmps[t]? with
     | none=>rfl
     | some u=>rw [hq] at hb;simp only [Option.getD_some] at hb;subst hb;simp
   rw [if_neg (by rw [hno];simp)]
   exact ⟨fun _ _=>trivial,go undef G S w R rfl X⟩
end
end Go.Abs
/-
  Regions whose order is drawn: the check by looking, and what it buys.
-/
namespace Go.Abs
open Go.RowKit
def Closed (ops:List Oper) (L:Nat→Prop):Prop:=∀i o,ops[i]?=some o→L i→∀e∈o.after,Region.binds .any e=true→L e.on
def Waits (ops:List Oper) (o:Oper) (j:Nat):Prop:=∀L,Closed ops L→(∀e∈o.after,Region.binds .any e=true→L e.on)→L j
def maskOf (acc:List Nat) (o:Oper):Nat:=o.after.toList.foldr (fun e s=>if Region.binds .any e then s ||| 2 ^ e.on ||| acc.getD e.on 0 else s) 0
def masks:List Nat→List Oper→List Nat
 | acc,[]=>acc
 | acc,o::r=>masks (acc++[maskOf acc o]) r
theorem maskOf_spec {acc:List Nat} {o:Oper} {j:Nat} (h:(maskOf acc o).testBit j=true):∃e∈o.after,Region.binds .any e=true∧(e.on=j∨(acc.getD e.on 0).testBit j=true):=by
 unfold maskOf at h
 have:∀(l:List Edge),(l.foldr (fun e s=>if Region.binds .any e then s ||| 2 ^ e.on ||| acc.getD e.on 0 else s) 0).testBit j=true→∃e∈l,Region.binds .any e=true∧(e.on=j∨(acc.getD e.on 0).testBit j=true):=by
  intro l
  induction l with
  | nil=>intro h;simp at h
  | cons e l ih =>
   intro h
   simp only [List.foldr_cons] at h
   split at h
   ·rename_i hb
    rw [Nat.testBit_or,Nat.testBit_or,Bool.or_eq_true,Bool.or_eq_true] at h
    rcases h with (h | h) | h
    ·obtain ⟨e',h1,h2⟩:=ih h
     exact ⟨e',List.mem_cons_of_mem _ h1,h2⟩
    ·rw [Nat.testBit_two_pow] at h
     exact ⟨e,List.mem_cons_self,hb,.inl (by simpa using h)⟩
    ·exact ⟨e,List.mem_cons_self,hb,.inr h⟩
   ·obtain ⟨e',h1,h2⟩:=ih h
    exact ⟨e',List.mem_cons_of_mem _ h1,h2⟩
 obtain ⟨e,h1,h2⟩:=this _ h
 exact ⟨e,by simpa using h1,h2⟩
theorem masks_spec {ops:List Oper} (hlt:∀i o,ops[i]?=some o→∀e∈o.after,Region.binds .any e=true→e.on<i):∀(l:List Oper) (acc:List Nat) (k:Nat),acc.length=k→(∀j,l[j]?=ops[k+j]?) →
  (∀i o,i<k→ops[i]?=some o→∀j,(acc.getD i 0).testBit j=true→Waits ops o j) →
  ∀i o,ops[i]?=some o→∀j,((masks acc l).getD i 0).testBit j=true→Waits ops o j
 | [],acc,k,hk,hl,h=>fun i o hi j hj=>by
  rcases Nat.lt_or_ge i k with h' | h'
  ·exact h i o h' hi j hj
  ·have:=hl (i - k)
   rw [Nat.add_sub_cancel' h',hi] at this
   simp at this
 | o::r,acc,k,hk,hl,h=>fun i o' hi j hj=>by
  refine masks_spec hlt r (acc++[maskOf acc o]) (k+1) (by simp [hk]) (fun j=>by have:=hl (j+1);simpa [Nat.add_assoc,Nat.add_comm 1 j] using this) (fun i o' hik hi j hj=>?_) i o' hi j hj
  rcases Nat.lt_or_ge i k with h' | h'
  ·refine h i o' h' hi j ?_
   rw [List.getD_eq_getElem?_getD,List.getElem?_append_left (by omega)] at hj
   rw [List.getD_eq_getElem?_getD];exact hj
  ·have hik:i=k:=by omega
   subst hik
   have ho:ops[i]?=some o:=by simpa using (hl 0).symm
   rw [hi] at ho
   cases ho
   rw [List.getD_eq_getElem?_getD,List.getElem?_append_right (by omega)] at hj
   simp only [hk,Nat.sub_self,List.getElem?_cons_zero,Option.getD_some] at hj
   obtain ⟨e,he,hb,hor⟩:=maskOf_spec hj
   intro L hL hE
   have hLe:=hE e he hb
   rcases hor with rfl | hor
   ·exact hLe
   ·have hei:=hlt i _ hi e he hb
    have hex:∃oe,ops[e.on]?=some oe:=by
     have:=(List.getElem?_eq_some_iff.1 hi).1
     exact ⟨ops[e.on],List.getElem?_eq_getElem (by omega)⟩
    obtain ⟨oe,hoe⟩:=hex
    exact h e.on oe hei hoe j hor L hL (fun e' he' hb'=>hL e.on oe hoe hLe e' he' hb')
def dstIn (o:Oper) (l:List Tmp):Bool:=match o.dst with | some t=>l.contains t | none=>false
def conf (ops:List Oper) (a b:Oper):Bool :=
 dstIn a (looksL ops b) || dstIn b (looksL ops a) || (memW a.op&&(memW b.op || memR b.op)) || (memR a.op&&memW b.op) || (tkW a.op&&tkW b.op)
def anyOk (rw:RowM) (ops:List Oper):Bool :=
 let ms:=masks [] ops
 (List.range ops.length).all fun i =>
  match ops[i]? with
  | none=>true
  | some o =>
   noSeal rw o.op&&(o.after.toList.all fun e=>!Region.binds .any e || decide (e.on<i)) &&
   (List.range i).all fun j =>
    match ops[j]? with
    | none=>true
    | some p=>(o.dst.isNone || p.dst.isNone || o.dst != p.dst)&&((ms.getD i 0).testBit j || !conf ops p o)
structure AnyOk (rw:RowM) (ops:List Oper):Prop where
 seal_:∀(i:Nat) (o:Oper),ops[i]?=some o→noSeal rw o.op=true
 lt:∀(i:Nat) (o:Oper),ops[i]?=some o→∀e∈o.after,Region.binds .any e=true→e.on<i
 dst:∀(i j:Nat) (o p:Oper) (t:Tmp),ops[i]?=some o→ops[j]?=some p→o.dst=some t→p.dst=some t→i=j
 pair:∀(i j:Nat) (o p:Oper),j<i→ops[i]?=some o→ops[j]?=some p→Waits ops o j∨conf ops p o=false
theorem anyOk_spec {rw_:RowM} {ops:List Oper} (h:anyOk rw_ ops=true):AnyOk rw_ ops:=by
 unfold anyOk at h
 rw [List.all_eq_true] at h
 have h1:∀i o,ops[i]?=some o→(noSeal rw_ o.op=true∧∀e∈o.after,Region.binds .any e=true→e.on<i)∧∀j p,j<i→ops[j]?=some p→(o.dst.isNone || p.dst.isNone || o.dst != p.dst)=true∧(((masks [] ops).getD i 0).testBit j || !conf ops p o)=true:=by
  intro i o hi
  have:=h i (List.mem_range.2 (List.getElem?_eq_some_iff.1 hi).1)
  simp only [hi,Bool.and_eq_true] at this
  obtain ⟨⟨a,b⟩,c⟩:=this
  refine ⟨⟨a,fun e he hb=>?_⟩,fun j p hj hp=>?_⟩
  ·have:=List.all_eq_true.1 b e (by simpa using he)
   rw [hb] at this
   simpa using this
  ·have:=List.all_eq_true.1 c j (List.mem_range.2 hj)
   simp only [hp] at this
   exact Bool.and_eq_true _ _▸this
 have hlt:∀i o,ops[i]?=some o→∀e∈o.after,Region.binds .any e=true→e.on<i:=fun i o hi=>(h1 i o hi).1.2
 have hd:∀(i j:Nat) (o p:Oper) (t:Tmp),j<i→ops[i]?=some o→ops[j]?=some p→o.dst=some t→p.dst=some t→False:=by
  intro i j o p t hj hi hp ho hpt
  have:=((h1 i o hi).2 j p hj hp).1
  simp [ho,hpt] at this
 refine ⟨fun i o hi=>(h1 i o hi).1.1,hlt,fun i j o p t hi hj ho hp=>?_,fun i j o p hj hi hp=>?_⟩
 ·rcases Nat.lt_trichotomy i j with h' | h' | h'
  ·exact (hd j i p o t h' hj hi hp ho).elim
  ·exact h'
  ·exact (hd i j o p t h' hi hj ho hp).elim
 ·have:=((h1 i o hi).2 j p hj hp).2
  rw [Bool.or_eq_true] at this
  rcases this with h' | h'
  ·exact .inl (masks_spec hlt ops [] 0 rfl (fun j=>by simp) (fun i o hi=>absurd hi (Nat.not_lt_zero i)) i o hi j h')
  ·exact .inr (by simpa using h')
structure J (ops:List Oper) (st:St) (T:Nat→St) (V:Nat→SV) (L:Nat→Prop) (s:St):Prop where
 len:s.sl.length=st.sl.length
 keep:∀t,(∀i o,L i→ops[i]?=some o→o.dst≠some t)→s.sl[t]?=st.sl[t]?
 set:∀i o t,L i→ops[i]?=some o→o.dst=some t→t<st.sl.length→s.sl[t]?=some (V i)
 bx:∃k,k≤ops.length∧s.bx=(T k).bx∧∀i o,ops[i]?=some o→memW o.op=true→(L i↔i<k)
 tk:∃k,k≤ops.length∧s.tk=(T k).tk∧∀i o,ops[i]?=some o→tkW o.op=true→(L i↔i<k)
 ax:s.ax=st.ax
theorem J.getD {ops:List Oper} {st:St} {T:Nat→St} {V:Nat→SV} {L:Nat→Prop} {s:St} {rw_:RowM} (h:J ops st T V L s) (hd:AnyOk rw_ ops) {t:Tmp} :
  (∀i o,ops[i]?=some o→o.dst=some t→L i→s.sl.getD t .undef=if t<st.sl.length then V i else .undef) ∧
  ((∀i o,L i→ops[i]?=some o→o.dst≠some t)→s.sl.getD t .undef=st.sl.getD t .undef):=by
 refine ⟨fun i o hi ht hl=>?_,fun hn=>?_⟩
 ·split
  ·rename_i hlt;rw [List.getD_eq_getElem?_getD,h.set i o t hl hi ht hlt];rfl
  ·rename_i hlt;rw [List.getD_eq_getElem?_getD,List.getElem?_eq_none (by rw [h.len];exact Nat.le_of_not_lt hlt)];rfl
 ·rw [List.getD_eq_getElem?_getD,h.keep t hn,List.getD_eq_getElem?_getD]
section
variable {E:Env} {ops:List Oper} {st:St} {T:Nat→St} {V:Nat→SV} {M:Nat→St} {L:Nat→Prop} {s:St}
structure Tr (E:Env) (ops:List Oper) (st:St) (T:Nat→St) (V:Nat→SV) (M:Nat→St):Prop where
 zero:T 0=st
 step:∀i o,ops[i]?=some o→StepA E ops o (T i) (V i) (M i)∧T (i+1)=(M i).put o.dst (V i)
theorem put_ax (m:St) (d:Option Tmp) (v:SV):(m.put d v).ax=m.ax:=by cases d<;>rfl
theorem put_bx (m:St) (d:Option Tmp) (v:SV):(m.put d v).bx=m.bx:=by cases d<;>rfl
theorem Tr.one (hT:Tr E ops st T V M) (hA:AnyOk E.rm ops) {i:Nat} {o:Oper} (hi:ops[i]?=some o) :
  ((M i).sl=(T i).sl∧(M i).ax=(T i).ax)∧(memW o.op=false→(T (i+1)).bx=(T i).bx)∧(tkW o.op=false→(T (i+1)).tk=(T i).tk)∧(T (i+1)).bx=(M i).bx∧(T (i+1)).tk=(M i).tk:=by
 obtain ⟨h1,h2⟩:=hT.step i o hi
 obtain ⟨a,b,c,_⟩:=StepA.local (st2:=T i) (hA.seal_ i o hi) (fun _ _=>rfl) (fun _=>rfl) (fun _=>rfl) rfl h1
 rw [h2,put_bx,put_tk]
 exact ⟨a,b,c,rfl,rfl⟩
theorem Tr.bx_same (hT:Tr E ops st T V M) (hA:AnyOk E.rm ops) (a:Nat):∀(b:Nat),a≤b→b≤ops.length→(∀i o,a≤i→i<b→ops[i]?=some o→memW o.op=false)→(T b).bx=(T a).bx:=by
 intro b
 induction b with
 | zero=>intro h _ _;simp at h;subst h;rfl
 | succ b ih =>
  intro h hb hn
  rcases Nat.lt_or_ge b a with h' | h'
  ·have:a=b+1:=by omega
   subst this;rfl
  ·have hi:ops[b]?=some ops[b]:=List.getElem?_eq_getElem (by omega)
   rw [(hT.one hA hi).2.1 (hn b _ h' (by omega) hi)]
   exact ih h' (by omega) (fun i o h1 h2=>hn i o h1 (by omega))
theorem Tr.tk_same (hT:Tr E ops st T V M) (hA:AnyOk E.rm ops) (a:Nat):∀(b:Nat),a≤b→b≤ops.length→(∀i o,a≤i→i<b→ops[i]?=some o→tkW o.op=false)→(T b).tk=(T a).tk:=by
 intro b
 induction b with
 | zero=>intro h _ _;simp at h;subst h;rfl
 | succ b ih =>
  intro h hb hn
  rcases Nat.lt_or_ge b a with h' | h'
  ·have:a=b+1:=by omega
   subst this;rfl
  ·have hi:ops[b]?=some ops[b]:=List.getElem?_eq_getElem (by omega)
   rw [(hT.one hA hi).2.2.1 (hn b _ h' (by omega) hi)]
   exact ih h' (by omega) (fun i o h1 h2=>hn i o h1 (by omega))
theorem J.next (hJ:J ops st T V L s) (hA:AnyOk E.rm ops) {i:Nat} {o:Oper} (hi:ops[i]?=some o) (hL:¬L i) {m:St} (hsl:m.sl=s.sl∧m.ax=s.ax)
  (hb:∃k,k≤ops.length∧m.bx=(T k).bx∧∀j p,ops[j]?=some p→memW p.op=true→((L j∨j=i)↔j<k))
  (ht:∃k,k≤ops.length∧m.tk=(T k).tk∧∀j p,ops[j]?=some p→tkW p.op=true→((L j∨j=i)↔j<k)) :
  J ops st T V (fun j=>L j∨j=i) (m.put o.dst (V i)):=by
 obtain ⟨hsl,hax⟩:=hsl
 have hput:∀t,(m.put o.dst (V i)).sl[t]?=if o.dst=some t∧t<st.sl.length then some (V i) else s.sl[t]?:=by
  intro t
  cases hd:o.dst with
  | none=>simp [St.put,hsl]
  | some t' =>
   simp only [St.put,hsl,List.getElem?_set,Option.some.injEq]
   by_cases he:t'=t
   ·subst he
    by_cases hlt:t'<st.sl.length
    ·simp [hlt,hJ.len]
    ·simp [hlt,hJ.len]
   ·simp [he]
 refine ⟨?_,fun t hn=>?_,fun j p t hl hj hpt hlt=>?_,by rw [put_bx];exact hb,by rw [put_tk];exact ht,by rw [put_ax,hax];exact hJ.ax⟩
 ·cases hd:o.dst<;>simp [St.put,hsl,hJ.len]
 ·rw [hput,if_neg (fun h=>hn i o (.inr rfl) hi h.1)]
  exact hJ.keep t fun j p hl hj=>hn j p (.inl hl) hj
 ·rw [hput]
  rcases hl with hl | rfl
  ·rw [if_neg (fun h=>hL (by rw [hA.dst i j o p t hi hj h.1 hpt];exact hl))]
   exact hJ.set j p t hl hj hpt hlt
  ·rw [hi] at hj;cases hj
   rw [if_pos ⟨hpt,hlt⟩]
theorem Tr.prefix (hT:Tr E ops st T V M) (hA:AnyOk E.rm ops):∀k,k≤ops.length→J ops st T V (fun j=>j<k) (T k):=by
 intro k
 induction k with
 | zero =>
  intro _
  rw [hT.zero]
  exact ⟨rfl,fun _ _=>rfl,fun i o t hl=>absurd hl (Nat.not_lt_zero i),⟨0,Nat.zero_le _,by rw [hT.zero],fun i o _ _=>Iff.rfl⟩,⟨0,Nat.zero_le _,by rw [hT.zero],fun i o _ _=>Iff.rfl⟩,rfl⟩
 | succ k ih =>
  intro hk
  have hi:ops[k]?=some ops[k]:=List.getElem?_eq_getElem (by omega)
  have hJ:=ih (by omega)
  obtain ⟨h1,_,_,h4,h5⟩:=hT.one hA hi
  have:=hJ.next hA hi (Nat.lt_irrefl k) (m:=M k) h1 ⟨k+1,hk,h4.symm,fun j p _ _=>by omega⟩ ⟨k+1,hk,h5.symm,fun j p _ _=>by omega⟩
  rw [(hT.step k _ hi).2]
  have e:(fun j=>j<k+1)=fun j=>j<k∨j=k:=by funext j;exact propext (by omega)
  rw [e]
  exact this
theorem J.all (hJ:J ops st T V L s) (hT:Tr E ops st T V M) (hA:AnyOk E.rm ops) (hL:∀i,i<ops.length→L i):s=T ops.length:=by
 have hP:=hT.prefix hA ops.length (Nat.le_refl _)
 have hsl:s.sl=(T ops.length).sl:=by
  apply List.ext_getElem?
  intro t
  by_cases hex:∃(i:Nat) (o:Oper),ops[i]?=some o∧o.dst=some t
  ·obtain ⟨i,o,hi,ho⟩:=hex
   have hlt:=(List.getElem?_eq_some_iff.1 hi).1
   by_cases ht:t<st.sl.length
   ·rw [hJ.set i o t (hL i hlt) hi ho ht,hP.set i o t hlt hi ho ht]
   ·rw [List.getElem?_eq_none (by rw [hJ.len];omega),List.getElem?_eq_none (by rw [hP.len];omega)]
  ·rw [hJ.keep t fun i o _ hi ho=>hex ⟨i,o,hi,ho⟩,hP.keep t fun i o _ hi ho=>hex ⟨i,o,hi,ho⟩]
 obtain ⟨k,hk,hb,hbi⟩:=hJ.bx
 obtain ⟨k',hk',ht,hti⟩:=hJ.tk
 have hbx:s.bx=(T ops.length).bx:=by
  rw [hb]
  exact (hT.bx_same hA k ops.length hk (Nat.le_refl _) fun i o h1 h2 hi=>by
   cases hm:memW o.op with
   | false=>rfl
   | true=>have:=(hbi i o hi hm).1 (hL i h2);omega).symm
 have htk:s.tk=(T ops.length).tk:=by
  rw [ht]
  exact (hT.tk_same hA k' ops.length hk' (Nat.le_refl _) fun i o h1 h2 hi=>by
   cases hm:tkW o.op with
   | false=>rfl
   | true=>have:=(hti i o hi hm).1 (hL i h2);omega).symm
 have hax:s.ax=(T ops.length).ax:=hJ.ax.trans hP.ax.symm
 cases s
 cases hq:T ops.length
 rw [hq] at hsl hbx htk hax
 simp only at hsl hbx htk hax
 subst hsl;subst hbx;subst htk;subst hax
 rfl
theorem conf_dst {a b:Oper} {t:Tmp} (ha:a.dst=some t) (hb:t∈looksL ops b):conf ops a b=true:=by
 have:dstIn a (looksL ops b)=true:=by simp only [dstIn,ha];simpa using hb
 simp [conf,this]
theorem conf_dst' {a b:Oper} {t:Tmp} (hb:b.dst=some t) (ha:t∈looksL ops a):conf ops a b=true:=by
 have:dstIn b (looksL ops a)=true:=by simp only [dstIn,hb];simpa using ha
 simp [conf,this]
theorem J.turn (hJ:J ops st T V L s) (hT:Tr E ops st T V M) (hA:AnyOk E.rm ops) (hC:Closed ops L) {i:Nat} {o:Oper} (hi:ops[i]?=some o) (hL:¬L i)
  (hE:∀e∈o.after,Region.binds .any e=true→L e.on) :
  ∃m,StepA E ops o s (V i) m∧J ops st T V (fun j=>L j∨j=i) (m.put o.dst (V i)):=by
 have hlt:=(List.getElem?_eq_some_iff.1 hi).1
 have hP:=hT.prefix hA i (by omega)
 -- what comes before i in the text and must not change places with it has been carried out;what comes behind has not
 have hbefore:∀j p,j<i→ops[j]?=some p→conf ops p o=true→L j:=by
  intro j p hj hp hc
  rcases hA.pair i j o p hj hi hp with h | h
  ·exact h L hC hE
  ·rw [hc] at h;cases h
 have hafter:∀j p,i<j→ops[j]?=some p→conf ops o p=true→¬L j:=by
  intro j p hj hp hc hl
  rcases hA.pair j i p o hj hp hi with h | h
  ·exact hL (h L hC (fun e he hb=>hC j p hp hl e he hb))
  ·rw [hc] at h;cases h
 have hv:∀t∈looksL ops o,s.sl.getD t .undef=(T i).sl.getD t .undef:=by
  intro t ht
  by_cases hex:∃(j:Nat) (p:Oper),ops[j]?=some p∧p.dst=some t
  ·obtain ⟨j,p,hp,hpt⟩:=hex
   rcases Nat.lt_or_ge j i with h' | h'
   ·rw [(hJ.getD hA).1 j p hp hpt (hbefore j p h' hp (conf_dst hpt ht)),(hP.getD hA).1 j p hp hpt h']
   ·have hnl:¬L j:=by
     rcases Nat.lt_or_ge i j with h'' | h''
     ·exact hafter j p h'' hp (conf_dst' hpt ht)
     ·have:j=i:=by omega
      subst this;exact hL
    rw [(hJ.getD hA).2 (fun j' p' hl' hp' hpt'=>hnl (by rw [hA.dst j j' p p' t hp hp' hpt hpt'];exact hl')),
     (hP.getD hA).2 (fun j' p' hl' hp' hpt'=>by have:=hA.dst j j' p p' t hp hp' hpt hpt';omega)]
  ·rw [(hJ.getD hA).2 (fun j' p' _ hp' hpt'=>hex ⟨j',p',hp',hpt'⟩),(hP.getD hA).2 (fun j' p' _ hp' hpt'=>hex ⟨j',p',hp',hpt'⟩)]
 obtain ⟨kb,hkb,hb,hbi⟩:=hJ.bx
 obtain ⟨kt,hkt,htt,hti⟩:=hJ.tk
 have hbx:memW o.op=true∨memR o.op=true→s.bx=(T i).bx:=by
  intro hm
  rw [hb]
  rcases Nat.le_total kb i with h' | h'
  ·exact (hT.bx_same hA kb i h' (by omega) fun j p h1 h2 hp=>by
    cases hw:memW p.op with
    | false=>rfl
    | true =>
     have hc:conf ops p o=true:=by rcases hm with hm | hm<;>simp [conf,hw,hm]
     have:=(hbi j p hp hw).1 (hbefore j p h2 hp hc)
     omega).symm
  ·exact hT.bx_same hA i kb h' hkb fun j p h1 h2 hp=>by
    cases hw:memW p.op with
    | false=>rfl
    | true =>
     have hl:=(hbi j p hp hw).2 h2
     rcases Nat.lt_or_ge i j with h'' | h''
     ·have hc:conf ops o p=true:=by rcases hm with hm | hm<;>simp [conf,hw,hm]
      exact absurd hl (hafter j p h'' hp hc)
     ·have:j=i:=by omega
      subst this;exact absurd hl hL
 have htk:tkW o.op=true→s.tk=(T i).tk:=by
  intro hm
  rw [htt]
  rcases Nat.le_total kt i with h' | h'
  ·exact (hT.tk_same hA kt i h' (by omega) fun j p h1 h2 hp=>by
    cases hw:tkW p.op with
    | false=>rfl
    | true =>
     have hc:conf ops p o=true:=by simp [conf,hw,hm]
     have:=(hti j p hp hw).1 (hbefore j p h2 hp hc)
     omega).symm
  ·exact hT.tk_same hA i kt h' hkt fun j p h1 h2 hp=>by
    cases hw:tkW p.op with
    | false=>rfl
    | true =>
     have hl:=(hti j p hp hw).2 h2
     rcases Nat.lt_or_ge i j with h'' | h''
     ·have hc:conf ops o p=true:=by simp [conf,hw,hm]
      exact absurd hl (hafter j p h'' hp hc)
     ·have:j=i:=by omega
      subst this;exact absurd hl hL
 obtain ⟨hs1,hs2⟩:=hT.step i o hi
 obtain ⟨a,b,c,e⟩:=StepA.local (st2:=s) (hA.seal_ i o hi) hv hbx htk (hJ.ax.trans (hT.prefix hA i (Nat.le_of_lt (List.getElem?_eq_some_iff.1 hi).1)).ax.symm) hs1
 refine ⟨_,e,hJ.next hA hi hL ⟨rfl,rfl⟩ ?_ ?_⟩
 ·cases hw:memW o.op with
  | false =>
   refine ⟨kb,hkb,by simpa using hb,fun j p hp hm=>?_⟩
   rw [←hbi j p hp hm]
   constructor
   ·rintro (h | rfl)
    ·exact h
    ·rw [hi] at hp;cases hp;rw [hw] at hm;cases hm
   ·exact .inl
  | true =>
   refine ⟨i+1,by omega,by simp [hs2,put_bx],fun j p hp hm=>?_⟩
   constructor
   ·rintro (h | rfl)
    ·rcases Nat.lt_or_ge i j with h'' | h''
     ·exact absurd h (hafter j p h'' hp (by simp [conf,hw,hm]))
     ·omega
    ·omega
   ·intro h
    rcases Nat.lt_or_ge j i with h'' | h''
    ·exact .inl (hbefore j p h'' hp (by simp [conf,hw,hm]))
    ·exact .inr (by omega)
 ·cases hw:tkW o.op with
  | false =>
   refine ⟨kt,hkt,by simpa using htt,fun j p hp hm=>?_⟩
   rw [←hti j p hp hm]
   constructor
   ·rintro (h | rfl)
    ·exact h
    ·rw [hi] at hp;cases hp;rw [hw] at hm;cases hm
   ·exact .inl
  | true =>
   refine ⟨i+1,by omega,by simp [hs2,put_tk],fun j p hp hm=>?_⟩
   constructor
   ·rintro (h | rfl)
    ·rcases Nat.lt_or_ge i j with h'' | h''
     ·exact absurd h (hafter j p h'' hp (by simp [conf,hw,hm]))
     ·omega
    ·omega
   ·intro h
    rcases Nat.lt_or_ge j i with h'' | h''
    ·exact .inl (hbefore j p h'' hp (by simp [conf,hw,hm]))
    ·exact .inr (by omega)
end
end Go.Abs
/-
  Regions whose order is drawn: the walk is sound.
-/
namespace Go.Abs
open Go.RowKit
section
variable {E:Env} {B:Nat} {S0:Addr→Prop} {w0:World} {st:St} {G:Gh} {S:Addr→Prop} {w:World} {tmps:Array Value} {r:Option Nat} {n:Nat}
theorem set_listed {listed:Array Bool} {i j:Nat} (h:listed.getD i true=false):(listed.setIfInBounds i true).getD j false=true↔(listed.getD j false=true∨j=i):=by
 have hlt:i<listed.size:=by
  rcases Nat.lt_or_ge i listed.size with h' | h'
  ·exact h'
  ·simp [Array.getD_eq_getD_getElem?,Array.getElem?_eq_none h'] at h
 simp only [Array.getD_eq_getD_getElem?,Array.getElem?_setIfInBounds]
 by_cases hij:i=j
 ·subst hij;simp [hlt]
 ·rw [if_neg hij]
  constructor
  ·exact .inl
  ·rintro (h | rfl)
   ·exact h
   ·exact absurd rfl hij
theorem count_set {listed:Array Bool} {i k:Nat} (h:listed.getD i true=false) (hc:listed.toList.count false≤k+1):(listed.setIfInBounds i true).toList.count false≤k:=by
 have hlt:i<listed.toList.length:=by
  rcases Nat.lt_or_ge i listed.size with h' | h'
  ·simpa using h'
  ·simp [Array.getD_eq_getD_getElem?,Array.getElem?_eq_none h'] at h
 rw [Array.toList_setIfInBounds,List.count_set hlt]
 have:listed.toList[i]=false:=by
  have hlt':i<listed.size:=by simpa using hlt
  simp only [Array.getD_eq_getD_getElem?,Array.getElem?_eq_getElem hlt',Option.getD_some] at h
  simpa using h
 have hpos:0<listed.toList.count false:=List.count_pos_iff.2 (by rw [←this];exact List.getElem_mem hlt)
 rw [this]
 show listed.toList.count false - 1+0≤k
 omega
theorem ready_none {rw_:RowM} {ops:Array Oper} {listed:Array Bool} (hA:AnyOk rw_ ops.toList) (hs:listed.size=ops.size) (h:Region.ready .any ops listed=[]):∀i,i<ops.size→listed.getD i false=true:=by
 intro i
 induction i using Nat.strongRecOn with
 | ind i ih =>
  intro hi
  cases hq:listed.getD i false with
  | true=>rfl
  | false =>
   have hmem:i∈Region.ready .any ops listed:=mem_ready.2 ⟨by
    simp only [Array.getD_eq_getD_getElem?,Array.getElem?_eq_getElem (show i<listed.size by omega),Option.getD_some] at hq ⊢
    exact hq,ops[i],Array.getElem?_eq_getElem hi,fun e he hb=>by
    have:=hA.lt i ops[i] (by simp [hi]) e he hb
    exact ih e.on this (by omega)⟩
   rw [h] at hmem
   cases hmem
theorem any_ok (hE:EnvOk E) {ops:Array Oper} {T:Nat→St} {V:Nat→SV} {M:Nat→St} (d:List Deferred) {tk0:List (Nat × TypeId)} {G0:Gh} {S1:Addr→Prop} {w1:World} (hA:AnyOk E.rm ops.toList) (hT:Tr E ops.toList st T V M) {Q:Exit→Act→World→Prop}
  (hQ:∀(G':Gh) (S':Addr→Prop) (w':World) (tmps':Array Value),Rel E B S0 w0 (T ops.size) G' S' w' tmps'→Ext tk0 G0 S1 w1 (T ops.size).tk G' S' w'→Q .normal { tmps:=tmps',defers:=d } w') :
  ∀(fuel:Nat) (listed:Array Bool) (s:St) (G:Gh) (S:Addr→Prop) (w:World) (tmps:Array Value),listed.size=ops.size→listed.toList.count false≤fuel→Closed ops.toList (fun i=>listed.getD i false=true) →
   J ops.toList st T V (fun i=>listed.getD i false=true) s→Rel E B S0 w0 s G S w tmps→Ext tk0 G0 S1 w1 s.tk G S w→wpAnyIn (Fr r) n E.P .any ops Q fuel listed { tmps:=tmps,defers:=d } w:=by
 have fin:∀(listed:Array Bool) (s:St) (G:Gh) (S:Addr→Prop) (w:World) (tmps:Array Value),listed.size=ops.size→J ops.toList st T V (fun i=>listed.getD i false=true) s→Rel E B S0 w0 s G S w tmps→Ext tk0 G0 S1 w1 s.tk G S w →
   Region.ready .any ops listed=[]→Q .normal { tmps:=tmps,defers:=d } w:=by
  intro listed s G S w tmps hs hJ R X h
  have e:=hJ.all hT hA (by simpa using ready_none hA hs h)
  rw [e] at R X
  exact hQ G S w tmps (by simpa using R) (by simpa using X)
 intro fuel
 induction fuel with
 | zero =>
  intro listed s G S w tmps hs hc hC hJ R X
  have hr:Region.ready .any ops listed=[]:=by
   rw [List.eq_nil_iff_forall_not_mem]
   intro i hi
   obtain ⟨h1,o,ho,_⟩:=mem_ready.1 hi
   have hlt:i<listed.size:=by rw [hs];exact (Array.getElem?_eq_some_iff.1 ho).1
   simp only [Array.getD_eq_getD_getElem?,Array.getElem?_eq_getElem hlt,Option.getD_some] at h1
   have:0<listed.toList.count false:=List.count_pos_iff.2 (by rw [←h1];simp)
   omega
  exact ⟨hr,fin listed s G S w tmps hs hJ R X hr⟩
 | succ fuel ih =>
  intro listed s G S w tmps hs hc hC hJ R X
  refine ⟨fin listed s G S w tmps hs hJ R X,fun i hi=>?_⟩
  obtain ⟨h1,o,ho,hall⟩:=mem_ready.1 hi
  have ho':ops.toList[i]?=some o:=by simpa using ho
  have hnl:¬listed.getD i false=true:=by
   have hlt:i<listed.size:=by rw [hs];exact (Array.getElem?_eq_some_iff.1 ho).1
   simp only [Array.getD_eq_getD_getElem?,Array.getElem?_eq_getElem hlt,Option.getD_some] at h1 ⊢
   rw [h1];simp
  obtain ⟨m,hstep,hJ'⟩:=hJ.turn hT hA hC ho' hnl hall
  have hset:(fun j=>(listed.setIfInBounds i true).getD j false=true)=fun j=>listed.getD j false=true∨j=i:=by
   funext j;exact propext (set_listed h1)
  refine stepA_ok hE d R X ho hstep fun G' S' w' tmps' R' X'=>?_
  refine ih _ _ G' S' w' tmps' (by simp [hs]) (count_set h1 hc) ?_ (by rw [hset];exact hJ') R' X'
  rw [hset]
  intro j p hp hl e he hb
  rcases hl with hl | rfl
  ·exact .inl (hC j p hp hl e he hb)
  ·rw [ho'] at hp;cases hp
   exact .inl (hall e he hb)
theorem region_any (hE:EnvOk E) {id:Nat} {ops:Array Oper} (d:List Deferred) {tk0:List (Nat × TypeId)} {G0:Gh} {S1:Addr→Prop} {w1:World} (hA:anyOk E.rm ops.toList=true) {K:St→Prop} (h:wpOps E true ops.toList ops.toList st K) (R:Rel E B S0 w0 st G S w tmps) (X:Ext tk0 G0 S1 w1 st.tk G S w) {Q:Exit→Act→World→Prop}
  (hQ:∀(st':St) (G':Gh) (S':Addr→Prop) (w':World) (tmps':Array Value),K st'→Rel E B S0 w0 st' G' S' w' tmps'→Ext tk0 G0 S1 w1 st'.tk G' S' w'→Q .normal { tmps:=tmps',defers:=d } w') :
  (Code.region id ops true).wpIn (Fr r) n E.P Q { tmps:=tmps,defers:=d } w:=by
 obtain ⟨T,V,M,h0,hK,hT⟩:=wpOps_trace _ _ _ h
 have hTr:Tr E ops.toList st T V M:=⟨h0,hT⟩
 have hA':=anyOk_spec hA
 refine wpIn_region_any hE.mixed ?_
 have hb:Below w.heap.size w { w with drawn:=w.drawn+1 }:=Below.drew (Below.refl _ _)
 obtain ⟨R1,X1⟩:=R.transport (S':=S) (w':={ w with drawn:=w.drawn+1 }) (fun _ h=>h) (fun _ h=>.inl h) hb
 have hJ:=hTr.prefix hA' 0 (Nat.zero_le _)
 rw [h0] at hJ
 refine any_ok hE d hA' hTr (fun G' S' w' tmps' R' X'=>hQ _ G' S' w' tmps' hK (by simpa using R') (by simpa using X')) ops.size (Array.replicate ops.size false) st G S _ tmps (by simp) (by simp) ?_ ?_ R1 (X.trans X1)
 ·intro i o hi hl
  simp [Array.getD_eq_getD_getElem?,Array.getElem?_replicate] at hl
  split at hl<;>simp at hl
 ·have e:(fun i=>(Array.replicate ops.size false).getD i false=true)=fun j=>j<0:=by
   funext j
   apply propext
   simp only [Array.getD_eq_getD_getElem?,Array.getElem?_replicate]
   constructor
   ·intro h;split at h<;>simp at h
   ·intro h;omega
  rw [e]
  exact hJ
def cutOk (rw:RowM) (ops:List Oper) (c:Nat):Bool :=
 anyOk rw (ops.take c)&&decide (c<ops.length)&&(List.range c).all (fun j=>((masks [] ops).getD c 0).testBit j) &&
  (List.range ops.length).all (fun i=>decide (i≤c) || ((masks [] ops).getD i 0).testBit c) &&
  (List.range ops.length).all (fun i=>match ops[i]? with | none=>true | some o=>o.after.toList.all fun e=>!Region.binds .any e || decide (e.on<i))
def listedTo (c n:Nat):Array Bool:=(List.replicate c true++List.replicate (n - c) false).toArray
def wpCut (E:Env) (ops:Array Oper) (c:Nat) (st:St) (K:St→Prop):Prop :=
 cutOk E.rm ops.toList c=true∧wpOps E true (ops.toList.take c) (ops.toList.take c) st fun s =>
  match ops[c]? with
  | none=>False
  | some o=>wpOps E false ops.toList [o] s fun s'=>wpAll E ops (ops.size - (c+1)) (listedTo (c+1) ops.size) s' K
theorem StepA.take {ops:List Oper} {c:Nat} {o:Oper} {s m:St} {v:SV} (h:StepA E (ops.take c) o s v m):StepA E ops o s v m:=by
 unfold StepA at h ⊢
 split at h
 ·exact h
 ·obtain ⟨t,ht,h⟩:=h
  refine ⟨t,?_,h⟩
  rename_i j want _
  unfold dstOf at ht ⊢
  rw [List.getElem?_take] at ht
  split at ht
  ·exact ht
  ·simp at ht
theorem count_set' {listed:Array Bool} {i k:Nat} (h:listed.getD i true=false) (hc:listed.toList.count false=k+1):(listed.setIfInBounds i true).toList.count false=k:=by
 have hlt:i<listed.toList.length:=by
  rcases Nat.lt_or_ge i listed.size with h' | h'
  ·simpa using h'
  ·simp [Array.getD_eq_getD_getElem?,Array.getElem?_eq_none h'] at h
 rw [Array.toList_setIfInBounds,List.count_set hlt]
 have:listed.toList[i]=false:=by
  have hlt':i<listed.size:=by simpa using hlt
  simp only [Array.getD_eq_getD_getElem?,Array.getElem?_eq_getElem hlt',Option.getD_some] at h
  simpa using h
 rw [this]
 show listed.toList.count false - 1+0=k
 omega
theorem cut_ok (hE:EnvOk E) {ops:Array Oper} {c:Nat} (hc:cutOk E.rm ops.toList c=true) (d:List Deferred) {tk0:List (Nat × TypeId)} {G0:Gh} {S1:Addr→Prop} {w1:World} {T:Nat→St} {V:Nat→SV} {M:Nat→St} (hT:Tr E (ops.toList.take c) st T V M) {Q:Exit→Act→World→Prop}
  (hQ:∀(oc:Oper) (G':Gh) (S':Addr→Prop) (w':World) (tmps':Array Value),ops[c]?=some oc→Rel E B S0 w0 (T c) G' S' w' tmps'→Ext tk0 G0 S1 w1 (T c).tk G' S' w'→wpOpIn (Fr r) n E.P ops Q c (wpAnyIn (Fr r) n E.P .any ops Q (ops.size - (c+1)) (listedTo (c+1) ops.size)) { tmps:=tmps',defers:=d } w') :
  ∀(fuel:Nat) (listed:Array Bool) (s:St) (G:Gh) (S:Addr→Prop) (w:World) (tmps:Array Value),listed.size=ops.size→listed.toList.count false=fuel→Closed ops.toList (fun i=>listed.getD i false=true)→(∀i,c≤i→listed.getD i false=false) →
   J (ops.toList.take c) st T V (fun i=>listed.getD i false=true) s→Rel E B S0 w0 s G S w tmps→Ext tk0 G0 S1 w1 s.tk G S w→wpAnyIn (Fr r) n E.P .any ops Q fuel listed { tmps:=tmps,defers:=d } w:=by
 simp only [cutOk,Bool.and_eq_true,decide_eq_true_eq] at hc
 obtain ⟨⟨⟨⟨c1,c2⟩,c3⟩,c4⟩,c5⟩:=hc
 have c2':c<ops.size:=by simpa using c2
 have hA:=anyOk_spec c1
 have hlt:∀i o,ops.toList[i]?=some o→∀e∈o.after,Region.binds .any e=true→e.on<i:=by
  intro i o hi e he hb
  have:=List.all_eq_true.1 c5 i (List.mem_range.2 (List.getElem?_eq_some_iff.1 hi).1)
  simp only [hi] at this
  have:=List.all_eq_true.1 this e (by simpa using he)
  rw [hb] at this
  simpa using this
 have hmask:=masks_spec hlt ops.toList [] 0 rfl (fun j=>by simp) (fun i o hi=>absurd hi (Nat.not_lt_zero i))
 have hlen:(ops.toList.take c).length=c:=by simp;omega
 intro fuel
 induction fuel with
 | zero =>
  intro listed s G S w tmps hs hc hC hN hJ R X
  exfalso
  have h1:=hN c (Nat.le_refl _)
  have hcl:c<listed.size:=by omega
  simp only [Array.getD_eq_getD_getElem?,Array.getElem?_eq_getElem hcl,Option.getD_some] at h1
  have:0<listed.toList.count false:=List.count_pos_iff.2 (by rw [←h1];simp)
  omega
 | succ fuel ih =>
  intro listed s G S w tmps hs hc hC hN hJ R X
  refine ⟨fun h=>?_,fun i hi=>?_⟩
  ·exfalso
   have hall:∀i,i<ops.size→listed.getD i false=true:=by
    intro i
    induction i using Nat.strongRecOn with
    | ind i ih =>
     intro hi
     cases hq:listed.getD i false with
     | true=>rfl
     | false =>
      have hmem:i∈Region.ready .any ops listed:=mem_ready.2 ⟨by
       simp only [Array.getD_eq_getD_getElem?,Array.getElem?_eq_getElem (show i<listed.size by omega),Option.getD_some] at hq ⊢
       exact hq,ops[i],Array.getElem?_eq_getElem hi,fun e he hb=>by
       have:=hlt i ops[i] (by simp [hi]) e he hb
       exact ih e.on this (by omega)⟩
      rw [h] at hmem
      cases hmem
   have:=hall c c2'
   rw [hN c (Nat.le_refl _)] at this
   cases this
  ·obtain ⟨h1,o,ho,hall⟩:=mem_ready.1 hi
   have ho':ops.toList[i]?=some o:=by simpa using ho
   have hsz:i<listed.size:=by rw [hs];exact (Array.getElem?_eq_some_iff.1 ho).1
   have hnl:¬listed.getD i false=true:=by
    simp only [Array.getD_eq_getD_getElem?,Array.getElem?_eq_getElem hsz,Option.getD_some] at h1 ⊢
    rw [h1];simp
   rcases Nat.lt_trichotomy i c with hic | rfl | hic
   ·have hop:(ops.toList.take c)[i]?=some o:=by rw [List.getElem?_take,if_pos hic];exact ho'
    have hCp:Closed (ops.toList.take c) (fun i=>listed.getD i false=true):=fun j p hp hl e he hb=>by
     rw [List.getElem?_take] at hp
     split at hp
     ·exact hC j p hp hl e he hb
     ·cases hp
    obtain ⟨m,hstep,hJ'⟩:=hJ.turn hT hA hCp hop hnl hall
    have hset:(fun j=>(listed.setIfInBounds i true).getD j false=true)=fun j=>listed.getD j false=true∨j=i:=by
     funext j;exact propext (set_listed h1)
    refine stepA_ok hE d R X ho hstep.take fun G' S' w' tmps' R' X'=>?_
    refine ih _ _ G' S' w' tmps' (by simp [hs]) (count_set' h1 hc) ?_ (fun j hj=>?_) (by rw [hset];exact hJ') R' X'
    ·rw [hset]
     intro j p hp hl e he hb
     rcases hl with hl | rfl
     ·exact .inl (hC j p hp hl e he hb)
     ·rw [ho'] at hp;cases hp
      exact .inl (hall e he hb)
    ·have hq:=hN j hj
     cases hx:(listed.setIfInBounds i true).getD j false with
     | false=>rfl
     | true =>
      rcases (set_listed h1).1 hx with h' | h'
      ·rw [hq] at h';cases h'
      ·omega
   ·have hL:∀j,j<i→listed.getD j false=true:=fun j hj =>
     hmask i o ho' j (List.all_eq_true.1 c3 j (List.mem_range.2 hj)) (fun j=>listed.getD j false=true) hC hall
    have e:=hJ.all hT hA (fun j hj=>hL j (by omega))
    rw [hlen] at e
    rw [e] at R X
    have hls:listed.setIfInBounds i true=listedTo (i+1) ops.size:=by
     apply Array.ext
     ·simp [listedTo,hs];omega
     ·intro j hj1 hj2
      have hj:j<listed.size:=by simpa using hj1
      simp only [listedTo,List.getElem_toArray,List.getElem_append,List.length_replicate,List.getElem_replicate]
      by_cases hji:i=j
      ·subst hji;simp
      ·rw [Array.getElem_setIfInBounds_ne hj hji]
       by_cases hlt:j<i+1
       ·simp only [hlt,dite_true]
        have:=hL j (by omega)
        simpa [Array.getD_eq_getD_getElem?,Array.getElem?_eq_getElem hj] using this
       ·simp only [hlt,dite_false]
        have:=hN j (by omega)
        simpa [Array.getD_eq_getD_getElem?,Array.getElem?_eq_getElem hj] using this
    have hfu:fuel=ops.size - (i+1):=by
     have h2:=count_set' h1 hc
     rw [hls] at h2
     have h3:(listedTo (i+1) ops.size).toList.count false=ops.size - (i+1):=by
      simp [listedTo,List.count_append,List.count_replicate]
     omega
    rw [hls,hfu]
    exact hQ o G S w tmps ho R X
   ·exfalso
    have hb:((masks [] ops.toList).getD i 0).testBit c=true:=by
     have:=List.all_eq_true.1 c4 i (List.mem_range.2 (List.getElem?_eq_some_iff.1 ho').1)
     rw [Bool.or_eq_true] at this
     rcases this with h' | h'
     ·have:=of_decide_eq_true h';omega
     ·exact h'
    have:=hmask i o ho' c hb (fun j=>listed.getD j false=true) hC hall
    rw [hN c (Nat.le_refl _)] at this
    cases this
theorem region_cut (hE:EnvOk E) {id:Nat} {ops:Array Oper} {c:Nat} (d:List Deferred) {tk0:List (Nat × TypeId)} {G0:Gh} {S1:Addr→Prop} {w1:World} {K:St→Prop} (h:wpCut E ops c st K) (R:Rel E B S0 w0 st G S w tmps) (X:Ext tk0 G0 S1 w1 st.tk G S w) {Q:Exit→Act→World→Prop}
  (hQ:∀(st':St) (G':Gh) (S':Addr→Prop) (w':World) (tmps':Array Value),K st'→Rel E B S0 w0 st' G' S' w' tmps'→Ext tk0 G0 S1 w1 st'.tk G' S' w'→Q .normal { tmps:=tmps',defers:=d } w') :
  (Code.region id ops true).wpIn (Fr r) n E.P Q { tmps:=tmps,defers:=d } w:=by
 obtain ⟨hc,h⟩:=h
 obtain ⟨T,V,M,h0,hK,hT⟩:=wpOps_trace _ _ _ h
 have hTr:Tr E (ops.toList.take c) st T V M:=⟨h0,hT⟩
 have hc':=hc
 simp only [cutOk,Bool.and_eq_true,decide_eq_true_eq] at hc'
 have c2':c<ops.size:=by simpa using hc'.1.1.1.2
 have hlen:(ops.toList.take c).length=c:=by simp;omega
 rw [hlen] at hK
 refine wpIn_region_any hE.mixed ?_
 have hb:Below w.heap.size w { w with drawn:=w.drawn+1 }:=Below.drew (Below.refl _ _)
 obtain ⟨R1,X1⟩:=R.transport (S':=S) (w':={ w with drawn:=w.drawn+1 }) (fun _ h=>h) (fun _ h=>.inl h) hb
 have hJ:=hTr.prefix (anyOk_spec hc'.1.1.1.1) 0 (Nat.zero_le _)
 rw [h0] at hJ
 have e:(fun i=>(Array.replicate ops.size false).getD i false=true)=fun j=>j<0:=by
  funext j
  apply propext
  simp only [Array.getD_eq_getD_getElem?,Array.getElem?_replicate]
  constructor
  ·intro h;split at h<;>simp at h
  ·intro h;omega
 refine cut_ok hE hc d hTr (fun oc G' S' w' tmps' hoc R' X'=>?_) ops.size (Array.replicate ops.size false) st G S _ tmps (by simp) (by simp) ?_ (fun i _=>?_) (by rw [e];exact hJ) R1 (X.trans X1)
 ·simp only [hoc] at hK
  exact wpOne_ok hE hoc d hK R' X' fun st' G2 S2 w2 tmps2 hk R2 X2=>wpAll_ok hE ops d hQ _ _ st' G2 S2 w2 tmps2 hk R2 X2
 ·rw [e];intro i o hi hl;omega
 ·simp only [Array.getD_eq_getD_getElem?,Array.getElem?_replicate]
  split<;>rfl
end
end Go.Abs
/-
  The abstract walk of code: sequences, tests, blocks, loops; and of a function.
-/
namespace Go.Abs
open Go.RowKit
inductive AX where
 | normal | exit (id:Nat) | ret
def leS (s s':SV):Prop :=
 match s' with
 | .val .any=>True
 | .val (.list m xs)=>s=.val (.list m xs)∨s.pv=some (.list m xs)∨(xs=[]∧∃m',s.pv=some (.list m' [])∧(m=0→m'=0))
 | s'=>s=s'
def leL:List SV→List SV→Prop
 | [],[]=>True
 | s::r,s'::r'=>leS s s'∧leL r r'
 | _,_=>False
def leB:List (Option (List SV))→List (Option (List SV))→Prop
 | [],[]=>True
 | none::r,none::r'=>leB r r'
 | some cs::r,some cs'::r'=>leL cs cs'∧leB r r'
 | _,_=>False
def SV.within (nb nm nt:Nat):SV→Bool
 | .box id _=>id<nb
 | .msl id _ _=>id<nb
 | .clo _ caps=>caps.all fun c=>match c with | .pv _=>true | .box id _=>id<nb
 | .rbx id _ _ _ _=>id<nb
 | .own t _ _=>t<nt
 | .mp id=>id<nm
 | .row id _ _ _ _=>id<nb
 | .it id=>id<nm
 | .mtup id _=>id<nm
 | _=>true
def mpIn (mp:List MapC):Bool:=mp.all fun c=>match c with | .iter (some m) _ _ _=>decide (m<mp.length) | _=>true
def leM (c c':MapC):Prop :=
 match c,c' with
 | _,.gone=>True
 | .ents es mk,.ents es' mk'=>es.Perm es'∧(mk'=none∨mk'=mk)
 | .iter s es l u,.iter s' es' l' u'=>s=s'∧es=es'∧l=l'∧(u'=none∨u'=u)
 | c,c'=>c=c'
def leMs:List MapC→List MapC→Prop
 | [],[]=>True
 | c::r,c'::r'=>leM c c'∧leMs r r'
 | _,_=>False
def St.nbs (st:St):Nat × Nat:=(st.bx.length,st.ax.mp.length+st.tk.length)
def setPs:List Tmp→List PV→List SV→List SV
 | t::ts,p::ps,sl=>setPs ts ps (sl.set t (.val p))
 | _,_,sl=>sl
def St.params (st:St) (ts:List Tmp) (ps:List PV):St:={ st with sl:=setPs ts ps st.sl }
def St.withSl (st:St) (sl:List SV):St:={ st with sl:=sl }
inductive Wk (nb:Nat × Nat):St→St→Prop
 | refl (st:St):Wk nb st st
 | trans (a b c:St):Wk nb a b→Wk nb b c→Wk nb a c
 | forget (sl sl':List SV) (bx:List (Option (List SV))) (tk:List (Nat × TypeId)) (ax:Ax) (h:leL sl sl'):Wk nb ⟨sl,bx,tk,ax⟩ ⟨sl',bx,tk,ax⟩
 | forgetBx (sl:List SV) (bx bx':List (Option (List SV))) (tk:List (Nat × TypeId)) (ax:Ax) (h:leB bx bx'):Wk nb ⟨sl,bx,tk,ax⟩ ⟨sl,bx',tk,ax⟩
 | drop (sl:List SV) (bx bx':List (Option (List SV))) (tk:List (Nat × TypeId)) (mp mp':List MapC) (yk:Nat) (hnb:nb.1≤bx.length) (hnm:mp'=[]∨(nb.2≤mp.length∧mpIn mp=true)) (h:sl.all (SV.within bx.length mp.length tk.length)=true)
   (h':bx.all (fun o=>match o with | none=>true | some cs=>cs.all (SV.within bx.length mp.length tk.length))=true):Wk nb ⟨sl,bx++bx',tk,⟨mp++mp',yk⟩⟩ ⟨sl,bx,tk,⟨mp,yk⟩⟩
 | dropT (sl:List SV) (bx:List (Option (List SV))) (tk tk':List (Nat × TypeId)) (ax:Ax) (hnt:nb=(0,0)) (h:sl.all (SV.within bx.length ax.mp.length tk.length)=true)
   (h':bx.all (fun o=>match o with | none=>true | some cs=>cs.all (SV.within bx.length ax.mp.length tk.length))=true):Wk nb ⟨sl,bx,tk++tk',ax⟩ ⟨sl,bx,tk,ax⟩
 | own (sl:List SV) (bx:List (Option (List SV))) (tk:List (Nat × TypeId)) (ax:Ax) (t m m':Nat) (xs:List PV) (e:TypeId) (h:sl[t]?=some (.lit m xs)) (hm:m=m'∨xs=[]) (hm0:m'≠0:=by decide) :
   Wk nb ⟨sl,bx,tk,ax⟩ ⟨sl.set t (.own tk.length m' xs),bx,tk++[(xs.length,e)],ax⟩
 | ownBx (sl:List SV) (bx:List (Option (List SV))) (tk:List (Nat × TypeId)) (ax:Ax) (id j m m':Nat) (cs:List SV) (xs:List PV) (e:TypeId) (hb:bx[id]?=some (some cs)) (h:cs[j]?=some (.lit m xs)) (hm:m=m'∨xs=[]) (hm0:m'≠0:=by decide) :
   Wk nb ⟨sl,bx,tk,ax⟩ ⟨sl,bx.set id (some (cs.set j (.own tk.length m' xs))),tk++[(xs.length,e)],ax⟩
 | forgetMp (sl:List SV) (bx:List (Option (List SV))) (tk:List (Nat × TypeId)) (mp mp':List MapC) (yk:Nat) (h:leMs mp mp'):Wk nb ⟨sl,bx,tk,⟨mp,yk⟩⟩ ⟨sl,bx,tk,⟨mp',yk⟩⟩
def wpC (E:Env):Code→Nat × Nat→St→(AX→St→Prop)→Prop
 | .skip,_,st,Q=>Q .normal st
 | .region id ops draw,_,st,Q=>match drawMode E draw id ops.size with
  | .each=>wpAll E ops ops.size (Array.replicate ops.size false) st (Q .normal)
  | .cut c=>wpCut E ops c st (Q .normal)
  | .text=>(!draw || anyOk E.rm ops.toList)=true∧wpOps E draw ops.toList ops.toList st (Q .normal)
 | .seq a b,nb,st,Q=>wpC E a nb st fun e st'=>match e with | .normal=>wpC E b nb st' Q | .exit i=>Q (.exit i) st' | .ret=>Q .ret st'
 | .cond c a b,nb,st,Q =>
  match valOf st c with
  | .val (.bool t)=>(t=true→wpC E a nb st Q)∧(t=false→wpC E b nb st Q)
  | _=>False
 | .block id body,nb,st,Q=>wpC E body nb st fun e st'=>match e with | .normal=>Q .normal st' | .exit i=>if i=id then Q .normal st' else Q (.exit i) st' | .ret=>Q .ret st'
 | .loop body,nb,st,Q=>∃(I:Nat→St→Prop),(∃n0 st0,Wk nb st st0∧I n0 st0) ∧
   ∀n s,I n s→wpC E body nb s fun e s'=>match e with | .normal=>∃n' s'',n'<n∧Wk nb s' s''∧I n' s'' | .exit i=>Q (.exit i) s' | .ret=>Q .ret s'
 | .rangeFunc g ps asg body,nb,st,Q =>
  match valOf st g with
  | .val (.fn f caps)=>∃xs an,SeqG E.P f caps xs an∧(∀x∈xs,x.length=ps.size)∧∃(I:Nat→St→Prop) (s0:St),Wk nb st s0∧I 0 s0∧(∀k s,I k s→s.sl=s0.sl) ∧
    (∀k k1 s x,nxOf an xs k x k1→I k s→wpC E asg s.nbs (s.params ps.toList x) fun e s1=>match e with
     | .normal=>wpC E body s1.nbs s1 fun e s2=>match e with
      | .normal=>∃s3,Wk s.nbs (s2.withSl s0.sl) s3∧I k1 s3
      | .exit i=>Q (.exit i) (s2.withSl s0.sl)
      | .ret=>Q .ret (s2.withSl s0.sl)
     | _=>False) ∧
    (∀k s,finOf an xs k→I k s→Q .normal s)
  | _=>False
 | .exit id,_,st,Q=>Q (.exit id) st
 | .ret,_,st,Q=>Q .ret st
 | .label _,_,st,Q=>Q .normal st
 | .scope b,nb,st,Q=>wpC E b nb st Q
 | _,_,_,_=>False
def resPV (E:Env) (st:St):List ResultVar→Option (Prop × List PV)
 | []=>some (True,[])
 | .tmp t::r =>
  match (st.sl.getD t .undef).pv,resPV E st r with
  | some p,some (s,l)=>some (s,p::l)
  | _,_=>none
 | .cell a ty::r =>
  match opLoad E ty (st.sl.getD a .undef) st,resPV E st r with
  | some x,some (s,l)=>match x.v.pv with | some p=>some (x.side∧s,p::l) | none=>none
  | _,_=>none
def tupPV (l:List PV):PV:=match l with | [p]=>p | l=>.tup l
def retOk (E:Env) (rs:List ResultVar) (st:St) (p:PV):Prop :=
 match resPV E st rs with
 | some (s,l)=>s∧tupPV l=p
 | none=>False
section
variable {E:Env} {B:Nat} {S0:Addr→Prop} {w0:World} {st:St} {G:Gh} {S:Addr→Prop} {w:World} {tmps:Array Value} {r:Option Nat} {n:Nat}
theorem leS_rel {tk:List (Nat × TypeId)} {s s':SV} {v:Value} (h:leS s s') (hr:RSV tk G S w s v):RSV tk G S w s' v:=by
 unfold leS at h
 split at h
 ·exact RV.any v
 ·rename_i m xs
  rcases h with rfl | h | ⟨rfl,m',h,h0⟩
  ·exact hr
  ·exact RSV.pv hr h
  ·have:=RSV.pv hr h
   obtain ⟨a,ad,cap,g,rfl,_,_,hmax,_⟩:=RV.slice_iff this
   exact RV.list_nil m a cap hmax (fun e=>RV.nilz this (h0 e))
 ·subst h;exact hr
theorem leL_len:∀{l l':List SV},leL l l'→l'.length=l.length
 | [],[],_=>rfl
 | _::_,_::_,h=>by simp [leL_len h.2]
 | [],_::_,h=>h.elim
 | _::_,[],h=>h.elim
theorem leL_get:∀{l l':List SV},leL l l'→∀(i:Nat) (s':SV),l'[i]?=some s'→∃s,l[i]?=some s∧leS s s'
 | [],[],_,i,s',h=>by simp at h
 | s::r,t::r',h,i,s',hs=>by
  cases i with
  | zero=>simp at hs;subst hs;exact ⟨s,rfl,h.1⟩
  | succ i =>
   obtain ⟨s0,a,b⟩:=leL_get h.2 i s' (by simpa using hs)
   exact ⟨s0,by simpa using a,b⟩
 | [],_::_,h,_,_,_=>h.elim
 | _::_,[],h,_,_,_=>h.elim
theorem MapHas.perm {b:Nat} {es es':List (PV × PV)} {mk mk':Option (PV × Int)} (h:MapHas S w b es mk) (hp:es.Perm es') (hm:mk'=none∨mk'=mk):MapHas S w b es' mk':=by
 obtain ⟨arr,clock,es0,h1,h2,h3,h4,h5⟩:=h
 refine ⟨arr,clock,es0,h1,h2.trans hp,h3,h4,fun k n e=>?_⟩
 rcases hm with rfl | rfl
 ·cases e
 ·exact h5 k n e
theorem IterOk.cur {b bm:Nat} {l:List PV} {u u':Option PV} (h:IterOk w b bm l u) (hu:u'=none∨u'=u):IterOk w b bm l u':=by
 rcases hu with rfl | rfl
 ·obtain ⟨arr,clock,since,seen,last,q1,q2,q3,q4,q5,q6,q7,q8,q9⟩:=h
  exact ⟨arr,clock,since,seen,last,q1,q2,q3,q4,q5,q6,q7,q8,fun k e=>by cases e⟩
 ·exact h
theorem leM_ok {M:List Nat} {b:Nat} {c c':MapC} (h:leM c c') (hc:MapOk E M S w b c):MapOk E M S w b c':=by
 unfold leM at h
 split at h
 ·trivial
 ·exact ⟨hc.1.perm h.1 h.2,hc.2⟩
 ·rename_i s es l u s' es' l' u'
  obtain ⟨rfl,rfl,rfl,hu⟩:=h
  cases s with
  | some m=>obtain ⟨⟨bm,h1,h2⟩,h3⟩:=hc;exact ⟨⟨bm,h1,h2.cur hu⟩,h3⟩
  | none =>
   obtain ⟨h1,h3⟩:=hc
   refine ⟨h1.imp (fun h=>⟨h.1,h.2.1,?_⟩) (fun ⟨bm,a,b,c⟩=>⟨bm,a,b,c.cur hu⟩),h3⟩
   rcases hu with hu | hu
   ·exact hu
   ·rw [hu];exact h.2.2
 ·subst h;exact hc
theorem leMs_get:∀{l l':List MapC},leMs l l'→l'.length=l.length∧∀(i:Nat) (c':MapC),l'[i]?=some c'→∃c,l[i]?=some c∧leM c c'
 | [],[],_=>⟨rfl,fun i c' h=>by simp at h⟩
 | c::r,c'::r',h=>by
  obtain ⟨a,b⟩:=leMs_get h.2
  refine ⟨by simp [a],fun i d hd=>?_⟩
  cases i with
  | zero=>simp at hd;subst hd;exact ⟨c,rfl,h.1⟩
  | succ i=>obtain ⟨c0,h1,h2⟩:=b i d (by simpa using hd);exact ⟨c0,by simpa using h1,h2⟩
 | [],_::_,h=>h.elim
 | _::_,[],h=>h.elim
theorem MapOk.take {M M':List Nat} {b:Nat} {c:MapC} (h:MapOk E M S w b c) (hm:∀(m:Nat) es l u,c=.iter (some m) es l u→M'[m]?=M[m]?):MapOk E M' S w b c:=by
 match c,h,hm with
 | .plain k e n,h,_=>exact h
 | .ents es um,h,_=>exact h
 | .iter (some m) es l u,h,hm =>
  obtain ⟨⟨bm,h1,h2⟩,h3⟩:=h
  exact ⟨⟨bm,(hm m es l u rfl).trans h1,h2⟩,h3⟩
 | .iter none es l u,h,_=>exact h
 | .gone,_,_=>trivial
theorem RSV.within_ {tk:List (Nat × TypeId)} {nb nm:Nat} {s:SV} {v:Value} (h:s.within nb nm tk.length=true) (hr:RSV tk G S w s v):RSV tk ⟨G.bx.take nb,G.tk,G.mp.take nm,G.fp⟩ S w s v:=by
 cases s with
 | undef=>exact hr
 | val p=>exact hr
 | lit m xs=>exact hr
 | own t m xs=>exact hr
 | box id off =>
  obtain ⟨b,h1,h2⟩:=hr
  exact ⟨b,by simp only [SV.within,decide_eq_true_eq] at h;rw [List.getElem?_take,if_pos h];exact h1,h2⟩
 | msl id off len =>
  obtain ⟨b,cap,h1,h2⟩:=hr
  exact ⟨b,cap,by simp only [SV.within,decide_eq_true_eq] at h;rw [List.getElem?_take,if_pos h];exact h1,h2⟩
 | clo f caps =>
  obtain ⟨vs,h1,h2,h3⟩:=hr
  refine ⟨vs,h1,h2,fun i c u a b=>?_⟩
  have hc:=h3 i c u a b
  cases c with
  | pv p=>exact hc
  | box id off =>
   obtain ⟨b',k1,k2⟩:=hc
   have:=List.all_eq_true.1 h _ (List.mem_of_getElem? a)
   simp only [decide_eq_true_eq] at this
   exact ⟨b',by rw [List.getElem?_take,if_pos this];exact k1,k2⟩
 | rbx id off i m k =>
  obtain ⟨b,h1,h2⟩:=hr
  exact ⟨b,by simp only [SV.within,decide_eq_true_eq] at h;rw [List.getElem?_take,if_pos h];exact h1,h2⟩
 | mp id =>
  obtain ⟨b,h1,h2⟩:=hr
  exact ⟨b,by simp only [SV.within,decide_eq_true_eq] at h;rw [List.getElem?_take,if_pos h];exact h1,h2⟩
 | it id =>
  obtain ⟨b,h1,h2⟩:=hr
  exact ⟨b,by simp only [SV.within,decide_eq_true_eq] at h;rw [List.getElem?_take,if_pos h];exact h1,h2⟩
 | mtup id ps =>
  obtain ⟨b,vs,h1,h2⟩:=hr
  exact ⟨b,vs,by simp only [SV.within,decide_eq_true_eq] at h;rw [List.getElem?_take,if_pos h];exact h1,h2⟩
 | row id off m len cap =>
  obtain ⟨b,h1,h2⟩:=hr
  exact ⟨b,by simp only [SV.within,decide_eq_true_eq] at h;rw [List.getElem?_take,if_pos h];exact h1,h2⟩
theorem leB_get:∀{l l':List (Option (List SV))},leB l l'→l'.length=l.length∧∀(i:Nat) (cs':List SV),l'[i]?=some (some cs')→∃cs,l[i]?=some (some cs)∧leL cs cs'
 | [],[],_=>⟨rfl,fun i cs' h=>by simp at h⟩
 | none::r,none::r',h=>by
  obtain ⟨a,b⟩:=leB_get (l:=r) (l':=r') h
  refine ⟨by simp [a],fun i cs' hs=>?_⟩
  cases i with
  | zero=>simp at hs
  | succ i=>simpa using b i cs' (by simpa using hs)
 | some cs::r,some cs2::r',h=>by
  obtain ⟨a,b⟩:=leB_get (l:=r) (l':=r') h.2
  refine ⟨by simp [a],fun i cs' hs=>?_⟩
  cases i with
  | zero=>simp at hs;subst hs;exact ⟨cs,rfl,h.1⟩
  | succ i=>simpa using b i cs' (by simpa using hs)
 | [],_::_,h=>h.elim
 | _::_,[],h=>by
  rename_i a l
  cases a<;>exact h.elim
 | none::_,some _::_,h=>h.elim
 | some _::_,none::_,h=>h.elim
theorem Rel.wk {nb:Nat × Nat} {tk0:List (Nat × TypeId)} {G0:Gh} {S1:Addr→Prop} {w1:World} (hnb:G0.bx.length≤nb.1) (hnm:G0.mp.length≤nb.2∧(nb=(0,0)→tk0=[])) {st st':St} (h:Wk nb st st') :
  ∀{G:Gh},Rel E B S0 w0 st G S w tmps→Ext tk0 G0 S1 w1 st.tk G S w→∃G',Rel E B S0 w0 st' G' S w tmps∧Ext tk0 G0 S1 w1 st'.tk G' S w∧∀b,Foot G' b→Foot G b:=by
 induction h with
 | refl st=>exact fun R X=>⟨_,R,X,fun _ h=>h⟩
 | trans a b c _ _ ih1 ih2 =>
  intro G R X
  obtain ⟨G1,R1,X1,F1⟩:=ih1 R X
  obtain ⟨G2,R2,X2,F2⟩:=ih2 R1 X1
  exact ⟨G2,R2,X2,fun b h=>F1 b (F2 b h)⟩
 | forget sl sl' bx tk ax h =>
  intro G R X
  refine ⟨G,⟨R.inv,R.below,by rw [←R.len];exact leL_len h,fun t s v h1 h2=>?_⟩,X,fun _ h=>h⟩
  obtain ⟨s0,a,b⟩:=leL_get h t s h1
  exact leS_rel b (R.sl t s0 v a h2)
 | forgetBx sl bx bx' tk ax h =>
  intro G R X
  have hI:=R.inv
  obtain ⟨hlb,hgb⟩:=leB_get h
  refine ⟨G,⟨⟨hI.base,hI.s0,hI.slt,by rw [hI.lbx];exact hlb.symm,hI.ltk,hI.old,hI.dist,fun id b cs h1 h2=>?_,hI.tok,hI.apart,hI.lmp,hI.dmp,hI.mpo,hI.mpk,hI.flt,hI.fbx,hI.ftk,hI.fmp,hI.yl⟩,R.below,R.len,R.sl⟩,X,fun _ h=>h⟩
  obtain ⟨cs0,a,b'⟩:=hgb id cs h1
  obtain ⟨⟨t,arr,a1,a2,a3⟩,a4⟩:=hI.box id b cs0 a h2
  refine ⟨⟨t,arr,a1,by rw [a2];exact (leL_len b').symm,fun j c v c1 c2=>?_⟩,a4⟩
  obtain ⟨c0,d1,d2⟩:=leL_get b' j c c1
  exact ⟨leS_rel d2 (a3 j c0 v d1 c2).1,(a3 j c0 v d1 c2).2⟩
 | drop sl bx bx' tk mp mp' yk hb' hm' h h' =>
  intro G R X
  have hI:=R.inv
  have hget:∀(i b:Nat),(G.bx.take bx.length)[i]?=some b→G.bx[i]?=some b∧i<bx.length:=by
   intro i b hb
   rw [List.getElem?_take] at hb
   split at hb
   ·exact ⟨hb,by assumption⟩
   ·cases hb
  have hgem:∀(i b:Nat),(G.mp.take mp.length)[i]?=some b→G.mp[i]?=some b∧i<mp.length:=by
   intro i b hb
   rw [List.getElem?_take] at hb
   split at hb
   ·exact ⟨hb,by assumption⟩
   ·cases hb
  have hlen:=hI.lbx
  have hlem:=hI.lmp
  have hnm1:=hnm.1
  have hlem0:G0.mp.length≤mp.length:=by
   rcases hm' with rfl | hm'
   ·rw [List.append_nil] at hlem
    rw [←hlem]
    exact Nat.le_of_not_lt fun hlt=>by have h0:=X.mp G.mp.length _ (List.getElem?_eq_getElem hlt);rw [List.getElem?_eq_none (Nat.le_refl _)] at h0;cases h0
   ·omega
  have hfoot:∀b,Foot ⟨G.bx.take bx.length,G.tk,G.mp.take mp.length,G.fp⟩ b→Foot G b:=by
   rintro b (⟨i,h⟩ | h | ⟨i,h⟩ | h)
   ·exact .inl ⟨i,(hget i b h).1⟩
   ·exact .inr (.inl h)
   ·exact .inr (.inr (.inl ⟨i,(hgem i b h).1⟩))
   ·exact .inr (.inr (.inr h))
  have hX:Ext tk0 G0 S1 w1 tk ⟨G.bx.take bx.length,G.tk,G.mp.take mp.length,G.fp⟩ S w:=⟨fun i b hb=>by
   have hi:i<G0.bx.length:=(List.getElem?_eq_some_iff.1 hb).1
   rw [List.getElem?_take,if_pos (by omega)]
   exact X.bx i b hb,X.tk,X.sub,X.cell,fun i b hb=>by
   have hi:i<G0.mp.length:=(List.getElem?_eq_some_iff.1 hb).1
   rw [List.getElem?_take,if_pos (by omega)]
   exact X.mp i b hb,X.calm,X.same,fun b hb hf=>X.foot b hb (hfoot b hf),X.new⟩
  refine ⟨⟨G.bx.take bx.length,G.tk,G.mp.take mp.length,G.fp⟩,⟨⟨hI.base,hI.s0,hI.slt,by simp at hlen ⊢;omega,hI.ltk,fun i b hb=>hI.old i b (hget i b hb).1,fun i j b h1 h2=>hI.dist i j b (hget i b h1).1 (hget j b h2).1,fun id b cs h1 h2=>?_,fun t n e hv h1 h2=>?_,hI.apart,
   by simp at hlem ⊢;omega,fun i j b h1 h2=>hI.dmp i j b (hgem i b h1).1 (hgem j b h2).1,fun i b hb=>hI.mpo i b (hgem i b hb).1,fun i b c h1 h2=>?_,hI.flt,fun i b hb=>hI.fbx i b (hget i b hb).1,hI.ftk,fun i b hb=>hI.fmp i b (hgem i b hb).1,hI.yl⟩,R.below,R.len,fun t s v h1 h2=>?_⟩,hX,hfoot⟩
  ·have hid:id<bx.length:=(List.getElem?_eq_some_iff.1 h1).1
   obtain ⟨⟨t,arr,a1,a2,a3⟩,a4⟩:=hI.box id b cs (by rw [List.getElem?_append_left hid];exact h1) (hget id b h2).1
   refine ⟨⟨t,arr,a1,a2,fun j c v b1 b2=>⟨?_,(a3 j c v b1 b2).2⟩⟩,a4⟩
   have hw:=List.all_eq_true.1 h' (some cs) (List.mem_of_getElem? h1)
   exact RSV.within_ (List.all_eq_true.1 hw c (List.mem_of_getElem? b1)) (a3 j c v b1 b2).1
  ·obtain ⟨a,cap,a1,a2,a3,a4⟩:=hI.tok t n e hv h1 h2
   refine ⟨a,cap,a1,a2,a3,fun hlt=>?_⟩
   obtain ⟨g,cur,c1,c2,c3,c4,c5,c6⟩:=a4 hlt
   exact ⟨g,cur,c1,c2,c3,c4,c5,fun i hi=>c6 i (hget i g hi).1⟩
  ·have hi:=(hgem i b h2).2
   refine (hI.mpk i b c (by show (mp++mp')[i]?=_;rw [List.getElem?_append_left hi];exact h1) (hgem i b h2).1).take (fun m es l u e=>?_)
   show (G.mp.take mp.length)[m]?=G.mp[m]?
   rw [List.getElem?_take]
   split
   ·rfl
   ·rename_i hml
    rcases hm' with rfl | hm'
    ·have hl2:G.mp.length=mp.length:=by simpa using hI.lmp
     rw [List.getElem?_eq_none (by omega)]
    ·subst e
     have:=List.all_eq_true.1 hm'.2 _ (List.mem_of_getElem? h1)
     simp only [decide_eq_true_eq] at this
     exact absurd this hml
  ·exact RSV.within_ (List.all_eq_true.1 h s (List.mem_of_getElem? h1)) (R.sl t s v h1 h2)
 | forgetMp sl bx tk mp mp' yk h =>
  intro G R X
  have hI:=R.inv
  obtain ⟨hl,hg⟩:=leMs_get h
  exact ⟨G,⟨⟨hI.base,hI.s0,hI.slt,hI.lbx,hI.ltk,hI.old,hI.dist,hI.box,hI.tok,hI.apart,by show _=mp'.length;rw [hl];exact hI.lmp,hI.dmp,hI.mpo,fun i b c h1 h2=>by
   obtain ⟨c0,k1,k2⟩:=hg i c h1
   exact leM_ok k2 (hI.mpk i b c0 k1 h2),hI.flt,hI.fbx,hI.ftk,hI.fmp,hI.yl⟩,R.below,R.len,R.sl⟩,X,fun _ h=>h⟩
 | dropT sl bx tk tk' ax hnt h h' =>
  intro G R X
  have hI:=R.inv
  have htk0:tk0=[]:=hnm.2 hnt
  have hget:∀(i:Nat) (v:Value),(G.tk.take tk.length)[i]?=some v→G.tk[i]?=some v∧i<tk.length:=by
   intro i b hb
   rw [List.getElem?_take] at hb
   split at hb
   ·exact ⟨hb,by assumption⟩
   ·cases hb
  have hlen:=hI.ltk
  have hfoot:∀b,Foot ⟨G.bx,G.tk.take tk.length,G.mp,G.fp⟩ b→Foot G b:=by
   rintro b (h | ⟨t,n,cap,h,h2⟩ | h | h)
   ·exact .inl h
   ·exact .inr (.inl ⟨t,n,cap,(hget t _ h).1,h2⟩)
   ·exact .inr (.inr (.inl h))
   ·exact .inr (.inr (.inr h))
  have hX:Ext tk0 G0 S1 w1 tk ⟨G.bx,G.tk.take tk.length,G.mp,G.fp⟩ S w:=⟨X.bx,fun t hv le h1 h2=>by rw [htk0] at h2;simp at h2,X.sub,X.cell,X.mp,X.calm,X.same,fun b hb hf=>X.foot b hb (hfoot b hf),X.new⟩
  have hsv:∀(s:SV) (v:Value),s.within bx.length ax.mp.length tk.length=true→RSV (tk++tk') G S w s v→RSV tk ⟨G.bx,G.tk.take tk.length,G.mp,G.fp⟩ S w s v:=by
   intro s v hw hr
   cases s with
   | own t m xs =>
    obtain ⟨h1,hv,le,h2,h3,h4,h5⟩:=hr
    simp only [SV.within,decide_eq_true_eq] at hw
    exact ⟨h1,hv,le,by rw [List.getElem?_take,if_pos hw];exact h2,by rw [List.getElem?_append_left hw] at h3;exact h3,h4,h5⟩
   | undef=>exact hr
   | val p=>exact hr
   | lit m xs=>exact hr
   | box id off=>exact hr
   | msl id off len=>exact hr
   | clo f caps=>exact hr
   | rbx id off i m k=>exact hr
   | mp id=>exact hr
   | it id=>exact hr
   | mtup id ps=>exact hr
   | row id off m len cap=>exact hr
  refine ⟨⟨G.bx,G.tk.take tk.length,G.mp,G.fp⟩,⟨⟨hI.base,hI.s0,hI.slt,hI.lbx,by simp at hlen ⊢;omega,hI.old,hI.dist,fun id b cs h1 h2=>?_,fun t n e hv h1 h2=>?_,fun t t' n n' cap cap' g hne h1 h2=>?_,
   hI.lmp,hI.dmp,hI.mpo,hI.mpk,hI.flt,hI.fbx,fun t n cap g h1 h2=>hI.ftk t n cap g (hget t _ h1).1 h2,hI.fmp,hI.yl⟩,R.below,R.len,fun t s v h1 h2=>hsv s v (List.all_eq_true.1 h s (List.mem_of_getElem? h1)) (R.sl t s v h1 h2)⟩,hX,hfoot⟩
  ·obtain ⟨⟨t,arr,a1,a2,a3⟩,a4⟩:=hI.box id b cs h1 h2
   have hw:=List.all_eq_true.1 h' (some cs) (List.mem_of_getElem? h1)
   exact ⟨⟨t,arr,a1,a2,fun j c v b1 b2=>⟨hsv c v (List.all_eq_true.1 hw c (List.mem_of_getElem? b1)) (a3 j c v b1 b2).1,(a3 j c v b1 b2).2⟩⟩,a4⟩
  ·obtain ⟨k1,k2⟩:=hget t hv h2
   exact hI.tok t n e hv (by rw [List.getElem?_append_left k2];exact h1) k1
  ·rcases hI.apart t t' n n' cap cap' g hne (hget t _ h1).1 h2 with h3 | h3
   ·exact .inl fun h4=>h3 (hget t' _ h4).1
   ·exact .inr h3
 | own sl bx tk ax t m m' xs e h hm hm0 =>
  intro G R X
  have ht:t<tmps.size:=by rw [←R.len];exact (List.getElem?_eq_some_iff.1 h).1
  have hv:=R.sl t _ _ h (Array.getElem?_eq_getElem ht)
  obtain ⟨hlist,a,ha⟩:=hv
  obtain ⟨a',ad,cap,g,he,_,hcap,hmax,_⟩:=RV.slice_iff hlist
  rw [ha] at he
  injection he with _ _ hc
  have hvac:∀{g n' cap':Nat},tmps[t]=.slice (some ⟨g,0,none⟩) n' cap'→n'<cap'→False:=fun h1 h2=>by rw [ha] at h1;injection h1 with _ h3 h4;omega
  obtain ⟨R1,X1,h1,h2⟩:=R.tokNew X (n:=xs.length) (e:=e) (hv:=tmps[t]) ⟨⟨a,xs.length,ha,Nat.le_refl _,by rw [hc];exact hmax,fun h=>absurd h (Nat.lt_irrefl _)⟩,fun g n' cap' t' n'' cap'' h1 h2 _ _=>(hvac h1 h2).elim,fun g n' cap' h1 h2=>(hvac h1 h2).elim⟩ (fun g n' cap' h1 h2=>(hvac h1 h2).elim)
  refine ⟨_,⟨R1.inv,R1.below,by simp [R1.len],fun i s v k1 k2=>?_⟩,X1,fun b hb=>?_⟩
  ·simp only [List.getElem?_set] at k1
   split at k1
   ·rename_i hi
    subst hi
    split at k1
    ·cases k1
     rw [Array.getElem?_eq_getElem ht] at k2
     cases k2
     refine ⟨?_,_,_,h1,h2,Nat.le_refl _,fun _=>rfl⟩
     rcases hm with rfl | rfl
     ·exact hlist
     ·rw [ha];exact RV.list_nil m' a 0 (Nat.zero_le _) (fun h=>absurd h hm0)
    ·cases k1
   ·exact R1.sl i s v k1 k2
  ·rcases hb with hb | ⟨t',n',cap',q1,q2⟩ | hb
   ·exact .inl hb
   ·rcases Nat.lt_trichotomy t' G.tk.length with h' | h' | h'
    ·exact .inr (.inl ⟨t',n',cap',by simpa [List.getElem?_append_left h'] using q1,q2⟩)
    ·subst h';simp at q1;exact (hvac q1 q2).elim
    ·rw [List.getElem?_eq_none (by simp;omega)] at q1;cases q1
   ·exact .inr (.inr hb)
 | ownBx sl bx tk ax id j m m' cs xs e hb h hm hm0 =>
  intro G R X
  have hI:=R.inv
  have hid:id<bx.length:=(List.getElem?_eq_some_iff.1 hb).1
  have hid':id<G.bx.length:=by rw [hI.lbx];exact hid
  have hgb:G.bx[id]?=some G.bx[id]:=List.getElem?_eq_getElem hid'
  obtain ⟨⟨ty,arr,a1,a2,a3⟩,a4⟩:=hI.box id _ cs hb hgb
  have hj:j<cs.length:=(List.getElem?_eq_some_iff.1 h).1
  have hj':j<arr.size:=by rw [a2];exact hj
  have hv:=(a3 j _ _ h (Array.getElem?_eq_getElem hj')).1
  obtain ⟨hlist,a,ha⟩:=hv
  obtain ⟨a',ad,cap,g,he,_,hcap,hmax,_⟩:=RV.slice_iff hlist
  rw [ha] at he
  injection he with _ _ hc
  have hvac:∀{g n' cap':Nat},arr[j]=.slice (some ⟨g,0,none⟩) n' cap'→n'<cap'→False:=fun h1 h2=>by rw [ha] at h1;injection h1 with _ h3 h4;omega
  obtain ⟨R1,X1,h1,h2⟩:=R.tokNew X (n:=xs.length) (e:=e) (hv:=arr[j]) ⟨⟨a,xs.length,ha,Nat.le_refl _,by rw [hc];exact hmax,fun h=>absurd h (Nat.lt_irrefl _)⟩,fun g n' cap' t' n'' cap'' h1 h2 _ _=>(hvac h1 h2).elim,fun g n' cap' h1 h2=>(hvac h1 h2).elim⟩ (fun g n' cap' h1 h2=>(hvac h1 h2).elim)
  have hI1:=R1.inv
  refine ⟨_,⟨⟨hI1.base,hI1.s0,hI1.slt,by simpa using hI1.lbx,hI1.ltk,hI1.old,hI1.dist,fun id' b cs' k1 k2=>?_,hI1.tok,hI1.apart,hI1.lmp,hI1.dmp,hI1.mpo,hI1.mpk,hI1.flt,hI1.fbx,hI1.ftk,hI1.fmp,hI1.yl⟩,R1.below,R1.len,R1.sl⟩,X1,fun b hb=>?_⟩
  ·simp only [List.getElem?_set] at k1
   split at k1
   ·rename_i hi
    subst hi
    cases k1
    obtain ⟨⟨t',arr',b1,b2,b3⟩,b4⟩:=hI1.box id b cs hb k2
    have hbe:b=G.bx[id]:=by
     have:G.bx[id]?=some b:=k2
     rw [hgb] at this;exact (Option.some.inj this).symm
    subst hbe
    rw [a1] at b1
    cases b1
    refine ⟨⟨ty,arr,a1,by simp [b2],fun i c v c1 c2=>?_⟩,b4⟩
    rw [List.getElem?_set] at c1
    split at c1
    ·rename_i hij
     subst hij
     cases c1
     rw [Array.getElem?_eq_getElem hj'] at c2
     cases c2
     refine ⟨⟨?_,_,_,h1,h2,Nat.le_refl _,fun _=>rfl⟩,by rw [ha];rfl⟩
     rcases hm with rfl | rfl
     ·exact hlist
     ·rw [ha];exact RV.list_nil m' a 0 (Nat.zero_le _) (fun h=>absurd h hm0)
    ·exact b3 i c v c1 c2
   ·exact hI1.box id' b cs' k1 k2
  ·rcases hb with hb | ⟨t',n',cap',q1,q2⟩ | hb
   ·exact .inl hb
   ·rcases Nat.lt_trichotomy t' G.tk.length with h' | h' | h'
    ·exact .inr (.inl ⟨t',n',cap',by simpa [List.getElem?_append_left h'] using q1,q2⟩)
    ·subst h';simp at q1;exact (hvac q1 q2).elim
    ·rw [List.getElem?_eq_none (by simp;omega)] at q1;cases q1
   ·exact .inr (.inr hb)
theorem heap_lt {w:World} {b:Nat} {o:Obj} (h:w.heap[b]?=some o):b<w.heap.size:=(Array.getElem?_eq_some_iff.1 h).1
structure Put (b0:Nat) (rr:Option (Nat × Loop)) (d ds:List Deferred) (G:Gh) (w:World):Prop where
 put:∃Ds:List Nat,ds=Ds.map (fun D=>({ target:=.collected D,args:=#[] }:Deferred))++d∧Ds.Nodup∧∀D∈Ds,w.heap[D]?=some (.deferred (some []))∧¬Foot G D∧b0≤D
 rnd:∀x,rr=some x→w.heap[x.1]?=some (.loop x.2)∧¬Foot G x.1
 lo:b0≤w.heap.size
theorem Put.ext {b0:Nat} {rr:Option (Nat × Loop)} {d ds:List Deferred} {tk tk':List (Nat × TypeId)} {G':Gh} {S':Addr→Prop} {w':World} (h:Put b0 rr d ds G w) (X:Ext tk G S w tk' G' S' w'):Put b0 rr d ds G' w':=by
 obtain ⟨⟨Ds,h1,h2,h3⟩,h4,h5⟩:=h
 exact ⟨⟨Ds,h1,h2,fun D hD=>⟨(X.same D (heap_lt (h3 D hD).1) (h3 D hD).2.1).trans (h3 D hD).1,fun hf=>(h3 D hD).2.1 (X.foot D (heap_lt (h3 D hD).1) hf),(h3 D hD).2.2⟩⟩,
  fun x hx=>⟨(X.same x.1 (heap_lt (h4 x hx).1) (h4 x hx).2).trans (h4 x hx).1,fun hf=>(h4 x hx).2 (X.foot x.1 (heap_lt (h4 x hx).1) hf)⟩,Nat.le_trans h5 X.calm.size⟩
theorem Put.foot {b0:Nat} {rr:Option (Nat × Loop)} {d ds:List Deferred} {G':Gh} (h:Put b0 rr d ds G w) (hf:∀b,Foot G' b→Foot G b):Put b0 rr d ds G' w:=by
 obtain ⟨⟨Ds,h1,h2,h3⟩,h4,h5⟩:=h
 exact ⟨⟨Ds,h1,h2,fun D hD=>⟨(h3 D hD).1,fun h=>(h3 D hD).2.1 (hf D h),(h3 D hD).2.2⟩⟩,fun x hx=>⟨(h4 x hx).1,fun h=>(h4 x hx).2 (hf x.1 h)⟩,h5⟩
def LQ (E:Env) (B:Nat) (S0:Addr→Prop) (w0:World) (tk0:List (Nat × TypeId)) (G0:Gh) (S1:Addr→Prop) (w1:World) (b0:Nat) (rr:Option (Nat × Loop)) (d:List Deferred) (Q:AX→St→Prop):Exit→Act→World→Prop
 | .normal,a,w=>∃st G S,Q .normal st∧Rel E B S0 w0 st G S w a.tmps∧Ext tk0 G0 S1 w1 st.tk G S w∧Put b0 rr d a.defers G w
 | .exit id,a,w=>∃st G S,Q (.exit id) st∧Rel E B S0 w0 st G S w a.tmps∧Ext tk0 G0 S1 w1 st.tk G S w∧Put b0 rr d a.defers G w
 | .ret,a,w=>∃st G S,Q .ret st∧Rel E B S0 w0 st G S w a.tmps∧Ext tk0 G0 S1 w1 st.tk G S w∧Put b0 rr d a.defers G w
 | _,_,_=>False
end
end Go.Abs
/-
  The abstract walk is sound: loops over functions.
-/
namespace Go.Abs
open Go.RowKit
section
variable {E:Env} {B:Nat} {S0:Addr→Prop} {w0:World} {st:St} {G:Gh} {S:Addr→Prop} {w:World} {tmps:Array Value} {r:Option Nat} {n:Nat}
theorem Inv.foot_lt {bx:List (Option (List SV))} {tk:List (Nat × TypeId)} {ax:Ax} (hI:Inv E B S0 bx tk ax G S w) {b:Nat} (h:Foot G b):b<w.heap.size:=by
 rcases h with ⟨i,h⟩ | ⟨t,n,cap,h1,h2⟩ | ⟨i,h⟩ | h
 ·exact (hI.old i b h).2
 ·have hl:t<tk.length:=by rw [←hI.ltk];exact (List.getElem?_eq_some_iff.1 h1).1
  obtain ⟨a,cap1,k1,k2,k3,k4⟩:=hI.tok t _ _ _ (List.getElem?_eq_getElem hl) h1
  injection k1 with k1 k5 k6
  subst k6
  rw [←k5] at k4
  obtain ⟨g',cur,c1,c2,c3,_⟩:=k4 h2
  rw [←k1] at c1
  injection c1 with c1
  injection c1 with c1
  rw [c1]
  exact (Array.getElem?_eq_some_iff.1 c3).1
 ·exact (hI.mpo i b h).2
 ·exact hI.flt b h
theorem Inv.keeps {bx:List (Option (List SV))} {tk:List (Nat × TypeId)} {ax:Ax} (hI:Inv E B S0 bx tk ax G S w) {F:Nat→Prop} {S':Addr→Prop} {w':World} (K:Keeps F S S' w w') (hF:∀b,Foot G b→F b) (hB:∀b,b<B→F b) :
  Inv E B S0 bx tk ax G S' w':=by
 have hE:Ext0 tk G S w tk G S' w':=⟨fun _ _ h=>h,fun _ hv le h1 h2=>⟨hv,le,h1,h2,.inl ⟨rfl,rfl⟩⟩,K.sub,K.cell,fun _ _ h=>h⟩
 have hsz:=K.calm.size
 have hbx:∀(i b:Nat),G.bx[i]?=some b→F b:=fun i b h=>hF b (.inl ⟨i,h⟩)
 have hmp:∀(i b:Nat),G.mp[i]?=some b→F b:=fun i b h=>hF b (.inr (.inr (.inl ⟨i,h⟩)))
 refine ⟨Nat.le_trans hI.base hsz,fun a ha=>?_,K.slt,hI.lbx,hI.ltk,fun i b hb=>⟨(hI.old i b hb).1,Nat.lt_of_lt_of_le (hI.old i b hb).2 hsz⟩,hI.dist,fun id b cs hc hb=>?_,fun t n e hv h1 h2=>?_,hI.apart,hI.lmp,hI.dmp,
  fun i b h=>⟨(hI.mpo i b h).1,Nat.lt_of_lt_of_le (hI.mpo i b h).2 hsz⟩,fun i b c h1 h2=>(hI.mpk i b c h1 h2).mono (Kept.of_eq (K.same b (hmp i b h2))) (fun m bm h=>⟨h,Kept.of_eq (K.same bm (hmp m bm h))⟩) K.sub K.cell (fun a ha=>(K.new a ha).imp (fun h=>h) (fun h=>.inl (fun e=>h (e▸hmp i b h2)))),fun b hb=>Nat.lt_of_lt_of_le (hI.flt b hb) hsz,hI.fbx,hI.ftk,hI.fmp,
  ⟨E.Y.ok _ _ _ _ _ _ hI.yl.1 ⟨K.calm,fun b hb=>K.same b (hF b (.inr (.inr (.inr hb)))),K.sub,K.cell,fun a ha=>(K.new a ha).imp (fun h=>h) fun h hf=>h (hF _ (.inr (.inr (.inr hf)))),K.slt⟩,hI.yl.2⟩⟩
 ·rcases K.new a ha with h | h
  ·exact hI.s0 a h
  ·exact .inr (Nat.le_of_not_lt fun hlt=>h (hB _ hlt))
 ·obtain ⟨⟨t,arr,h1,h2,h3⟩,h4⟩:=hI.box id b cs hc hb
  refine ⟨⟨t,arr,(K.same b (hbx id b hb)).trans h1,h2,fun j c v a1 a2=>⟨RSV.mono0 hE (h3 j c v a1 a2).1,(h3 j c v a1 a2).2⟩⟩,fun a ha hab=>?_⟩
  rcases K.new a ha with h | h
  ·exact h4 a h hab
  ·exact h (by rw [hab];exact hbx id b hb)
 ·obtain ⟨a,cap,h3,h4,h5,h6⟩:=hI.tok t n e hv h1 h2
  refine ⟨a,cap,h3,h4,h5,fun hlt=>?_⟩
  obtain ⟨g,cur,k1,k2,k3,k4,k5,k6⟩:=h6 hlt
  have hg:F g:=hF g (.inr (.inl ⟨t,n,cap,by rw [h2,h3,k1],hlt⟩))
  refine ⟨g,cur,k1,k2,(K.same g hg).trans k3,k4,fun a' ha' hb'=>?_,k6⟩
  rcases K.new a' ha' with h | h
  ·exact k5 a' h hb'
  ·exact absurd hg (by rw [←hb'];exact h)
theorem Ext.keeps {tk0:List (Nat × TypeId)} {G0:Gh} {S1:Addr→Prop} {w1:World} {tk:List (Nat × TypeId)} (X:Ext tk0 G0 S1 w1 tk G S w) {F:Nat→Prop} {S':Addr→Prop} {w':World} (K:Keeps F S S' w w') (hF:∀b,b<w1.heap.size→F b) :
  Ext tk0 G0 S1 w1 tk G S' w' :=
 ⟨X.bx,X.tk,fun a h=>K.sub a (X.sub a h),fun a h=>(K.cell a (X.sub a h)).trans (X.cell a h),X.mp,X.calm.trans K.calm,fun b hb hf=>(K.same b (hF b hb)).trans (X.same b hb hf),X.foot,fun a ha=>by
  rcases K.new a ha with h | h
  ·exact X.new a h
  ·exact .inr (.inr (Nat.le_of_not_lt fun hlt=>h (hF _ hlt)))⟩
def isRec:Obj→Bool
 | .loop _ | .deferred _=>true
 | _=>false
theorem cell_putRec {l:Nat} {o o':Obj} (hl:w.heap[l]?=some o) (ho:isRec o=true) (ho':isRec o'=true) (a:Addr):(w.putObj l o').cell? a=w.cell? a:=by
 by_cases h:a.block=l
 ·have h2:=World.putObj_heap_same (w:=w) (o:=o') (heap_lt hl)
  unfold World.cell?
  rw [h,hl,h2]
  cases o<;>simp [isRec] at ho<;>cases o'<;>simp [isRec] at ho'<;>rfl
 ·unfold World.cell?
  rw [World.putObj_heap_other h]
theorem still_putRec {l:Nat} {o o':Obj} (hl:w.heap[l]?=some o) (ho:isRec o=true) (ho':isRec o'=true) (a:Addr):Still w (w.putObj l o') a :=
 ⟨cell_putRec hl ho ho' a,fun es c h=>by
  by_cases e:a.block=l
  ·rw [e,hl] at h;cases h;cases ho
  ·rw [World.putObj_heap_other e];exact h⟩
theorem Keeps.putRec {l:Nat} {o o':Obj} {F:Nat→Prop} (hl:w.heap[l]?=some o) (ho:isRec o=true) (ho':isRec o'=true) (hf:¬F l) (hs:∀a,S a→a.block<w.heap.size):Keeps F S S w (w.putObj l o') :=
 ⟨⟨rfl,rfl,rfl,by simp,fun k hk=>absurd hk (Nat.not_lt_zero _),Nat.le_refl _⟩,fun b hb=>World.putObj_heap_other (fun e=>hf (by rw [←e];exact hb)),fun _ h=>h,fun a _=>still_putRec hl ho ho' a,fun _ h=>.inl h,fun a h=>by simpa using hs a h⟩
theorem Rel.putRec (R:Rel E B S0 w0 st G S w tmps) {l:Nat} {o o':Obj} (hl:w.heap[l]?=some o) (ho:isRec o=true) (ho':isRec o'=true) (hf:¬Foot G l) (hB:B≤l):Rel E B S0 w0 st G S (w.putObj l o') tmps:=by
 have K:Keeps (fun b=>b≠l) S S w (w.putObj l o'):=Keeps.putRec hl ho ho' (fun h=>h rfl) R.inv.slt
 have hE:Ext0 st.tk G S w st.tk G S (w.putObj l o'):=⟨fun _ _ h=>h,fun _ hv le h1 h2=>⟨hv,le,h1,h2,.inl ⟨rfl,rfl⟩⟩,K.sub,K.cell,fun _ _ h=>h⟩
 exact ⟨R.inv.keeps K (fun b hb e=>hf (by rw [←e];exact hb)) (fun b hb e=>by omega),R.below.trans ⟨rfl,rfl,rfl,by simp,fun k hk=>World.putObj_heap_other (by omega),Nat.le_refl _⟩,R.len,fun t s v a1 a2=>RSV.mono0 hE (R.sl t s v a1 a2)⟩
theorem Ext.putRec {tk0:List (Nat × TypeId)} {G0:Gh} {S1:Addr→Prop} {w1:World} {tk:List (Nat × TypeId)} (X:Ext tk0 G0 S1 w1 tk G S w) {l:Nat} {o o':Obj} (hl:w.heap[l]?=some o) (ho:isRec o=true) (ho':isRec o'=true) (hs:∀a,S a→a.block<w.heap.size) (h:w1.heap.size≤l) :
  Ext tk0 G0 S1 w1 tk G S (w.putObj l o') :=
 X.keeps (F:=fun b=>b≠l) (Keeps.putRec hl ho ho' (fun h=>h rfl) hs) (fun b hb e=>by omega)
theorem leL_refl:∀(l:List SV),leL l l
 | []=>trivial
 | s::r=>⟨by unfold leS;split<;>simp_all,leL_refl r⟩
theorem setPs_rel:∀(ts:List Tmp) (ps:List PV) (vs:List Value) (sl:List SV) (tm:Array Value) {tk:List (Nat × TypeId)},ts.length=vs.length→RVs S w ps vs→sl.length=tm.size →
  (∀(t:Nat) (s:SV) (v:Value),sl[t]?=some s→tm[t]?=some v→RSV tk G S w s v) →
  (setPs ts ps sl).length=((ts.zip vs).foldl (fun t (p,v)=>t.setIfInBounds p v) tm).size ∧
   ∀(t:Nat) (s:SV) (v:Value),(setPs ts ps sl)[t]?=some s→((ts.zip vs).foldl (fun t (p,v)=>t.setIfInBounds p v) tm)[t]?=some v→RSV tk G S w s v
 | [],ps,vs,sl,tm,tk,hl,hv,hs,h=>by
  cases vs with
  | nil=>cases ps<;>exact ⟨hs,h⟩
  | cons v vs=>simp at hl
 | t::ts,ps,vs,sl,tm,tk,hl,hv,hs,h=>by
  cases vs with
  | nil=>simp at hl
  | cons v vs =>
   cases ps with
   | nil=>have:=hv.1;simp at this
   | cons p ps =>
    refine setPs_rel ts ps vs (sl.set t (.val p)) (tm.setIfInBounds t v) (by simpa using hl) ⟨by simpa using hv.1,fun i q u a b=>hv.2 (i+1) q u (by simpa using a) (by simpa using b)⟩ (by simp [hs]) (fun i s u a b=>?_)
    rw [List.getElem?_set] at a
    rw [Array.getElem?_setIfInBounds] at b
    by_cases hi:t=i
    ·subst hi
     by_cases hlt:t<sl.length
     ·have hlt':t<tm.size:=hs▸hlt
      simp [hlt] at a
      simp [hlt'] at b
      subst a;subst b
      exact hv.2 0 p v rfl rfl
     ·simp [hlt] at a
    ·simp [hi] at a b
     exact h i s u a b
def WalkOk (E:Env) (c:Code):Prop :=
 ∀(nb:Nat × Nat) (b0:Nat) (rr:Option (Nat × Loop)) (n B:Nat) (S0:Addr→Prop) (w0:World) (d:List Deferred) (tk0:List (Nat × TypeId)) (G0:Gh) (S1:Addr→Prop) (w1:World),G0.bx.length≤nb.1→G0.mp.length≤nb.2∧(nb=(0,0)→tk0=[]) →
  ∀(st:St) (Q:AX→St→Prop) (G:Gh) (S:Addr→Prop) (w:World) (tmps:Array Value) (ds:List Deferred),wpC E c nb st Q→Rel E B S0 w0 st G S w tmps→Ext tk0 G0 S1 w1 st.tk G S w→Put b0 rr d ds G w →
   c.wpIn (Fr (rr.map (·.1))) n E.P (LQ E B S0 w0 tk0 G0 S1 w1 b0 rr d Q) { tmps:=tmps,defers:=ds } w
def Between (E:Env) (B:Nat) (S0:Addr→Prop) (w0:World) (st0:St) (G0:Gh) (S1:Addr→Prop) (w1:World) (l base:Nat) (Ds:List Nat) (rec:LoopState→Option Code→Loop) (N:Nat) (I:Nat→St→Prop) (Q:AX→St→Prop)
  (k:Nat) (F:Nat→Prop) (S:Addr→Prop) (w:World):Prop :=
 ∃(s:St) (G:Gh),((k<N∧I k s∧w.heap[l]?=some (.loop (rec .ready none)))∨(k=N∧∃c,w.heap[l]?=some (.loop (rec .done (some c)))∧((c=.ret∧Q .ret s)∨∃i,c=.exit i∧Q (.exit i) s))) ∧
  s.sl=st0.sl∧Inv E B S0 s.bx s.tk s.ax G S w∧Below B w0 w∧Ext st0.tk G0 S1 w1 s.tk G S w∧¬Foot G l∧(∀D∈Ds,w.heap[D]?=some (.deferred (some []))∧¬Foot G D)∧(∀b,Foot G b∨b<base→F b)
theorem Between.keeps {st0:St} {G0:Gh} {S1:Addr→Prop} {w1:World} {l base:Nat} {Ds:List Nat} {rec:LoopState→Option Code→Loop} {N:Nat} {I:Nat→St→Prop} {Q:AX→St→Prop}
  (hl:l<base) (hD:∀D∈Ds,D<base) (hB:B≤base) (h1:w1.heap.size≤base) (k:Nat) (F:Nat→Prop) (S S':Addr→Prop) (w w':World)
  (h:Between E B S0 w0 st0 G0 S1 w1 l base Ds rec N I Q k F S w) (K:Keeps F S S' w w'):Between E B S0 w0 st0 G0 S1 w1 l base Ds rec N I Q k F S' w':=by
 obtain ⟨s,G,hk,hsl,hI,hbel,X,hfl,hDs,hF⟩:=h
 have hb:∀b,b<base→F b:=fun b hb=>hF b (.inr hb)
 refine ⟨s,G,?_,hsl,hI.keeps K (fun b hb=>hF b (.inl hb)) (fun b h=>hb b (by omega)),hbel.trans ⟨K.calm.os,K.calm.tape,K.calm.output,K.calm.size,fun b h=>K.same b (hb b (by omega)),K.calm.more⟩,X.keeps K (fun b h=>hb b (by omega)),hfl,
  fun D h=>⟨(K.same D (hb D (hD D h))).trans (hDs D h).1,(hDs D h).2⟩,hF⟩
 have hsame:=K.same l (hb l hl)
 rcases hk with ⟨h1,h2,h3⟩ | ⟨h1,c,h2,h3⟩
 ·exact .inl ⟨h1,h2,hsame.trans h3⟩
 ·exact .inr ⟨h1,c,hsame.trans h2,h3⟩
end
end Go.Abs
/-
  The abstract walk is sound: loops over functions; all code.
-/
namespace Go.Abs
open Go.RowKit
section
variable {E:Env} {B:Nat} {S0:Addr→Prop} {w0:World} {st:St} {G:Gh} {S:Addr→Prop} {w:World} {tmps:Array Value} {r:Option Nat} {n:Nat}
theorem turn_ok {tk tk1 tk2:List (Nat × TypeId)} {G' Ga G2:Gh} {S' Sa S2:Addr→Prop} {W Wa W3:World} {l:Nat} {r1 r2 r3 r4:Loop} {F:Nat→Prop} (Xa:Ext tk G' S' W tk1 Ga Sa Wa) (hla:Wa.heap[l]?=some (.loop r1)) (Xc:Ext tk1 Ga Sa (Wa.putObj l (.loop r2)) tk2 G2 S2 W3)
  (hl3:W3.heap[l]?=some (.loop r3)) (hF:∀b,Foot G' b→F b) (hl:F l) (hslt:∀a,S2 a→a.block<W3.heap.size) :
  Below 0 W (W3.putObj l (.loop r4))∧(∀b,b<W.heap.size→¬F b→(W3.putObj l (.loop r4)).heap[b]?=W.heap[b]?)∧(∀b,b<W.heap.size→Foot G2 b→F b)∧(∀a,S' a→S2 a)∧(∀a,S' a→Still W (W3.putObj l (.loop r4)) a) ∧
   (∀a,S2 a→(S' a∨F a.block∨W.heap.size≤a.block)∧a.block<(W3.putObj l (.loop r4)).heap.size):=by
 have h1:W.heap.size≤Wa.heap.size:=Xa.calm.size
 have hp:∀{V:World} {o:Obj},Below 0 V (V.putObj l o):=fun {V o}=>⟨rfl,rfl,rfl,by simp,fun k hk=>absurd hk (Nat.not_lt_zero _),Nat.le_refl _⟩
 have hfoot:∀b,b<W.heap.size→Foot Ga b→F b:=fun b hb h=>hF b (Xa.foot b hb h)
 have hfoot2:∀b,b<W.heap.size→Foot G2 b→Foot Ga b:=fun b hb h=>Xc.foot b (by simp;omega) h
 refine ⟨(Xa.calm.trans hp).trans (Xc.calm.trans hp),fun b hb hf=>?_,fun b hb h=>hfoot b hb (hfoot2 b hb h),fun a h=>Xc.sub a (Xa.sub a h),fun a h=>?_,fun a h=>⟨?_,by simpa using hslt a h⟩⟩
 ·have hbl:b≠l:=fun e=>hf (by rw [e];exact hl)
  rw [World.putObj_heap_other hbl,Xc.same b (by simp;omega) (fun h=>hf (hfoot b hb h)),World.putObj_heap_other hbl,Xa.same b hb (fun h=>hf (hF b h))]
 ·exact (still_putRec hl3 rfl rfl a).trans ((Xc.cell a (Xa.sub a h)).trans ((still_putRec hla rfl rfl a).trans (Xa.cell a h)))
 ·rcases Xc.new a h with h2 | h2 | h2
  ·rcases Xa.new a h2 with h3 | h3 | h3
   ·exact .inl h3
   ·exact .inr (.inl (hF _ h3))
   ·exact .inr (.inr h3)
  ·rcases Nat.lt_or_ge a.block W.heap.size with h3 | h3
   ·exact .inr (.inl (hfoot _ h3 h2))
   ·exact .inr (.inr h3)
  ·exact .inr (.inr (by simp at h2;omega))
theorem getElem?_length_le {α:Type} {l l':List α} (h:∀(i:Nat) (b:α),l[i]?=some b→l'[i]?=some b):l.length≤l'.length:=by
 rcases Nat.lt_or_ge l'.length l.length with h' | h'
 ·have:=h l'.length l[l'.length] (List.getElem?_eq_getElem h')
  rw [List.getElem?_eq_none (Nat.le_refl _)] at this
  cases this
 ·exact h'
theorem nbs_tk {s:St} (h:s.nbs=(0,0)):s.tk=[]:=by
 unfold St.nbs at h
 simp only [Prod.mk.injEq,Nat.add_eq_zero_iff] at h
 exact List.eq_nil_of_length_eq_zero h.2.2
set_option maxHeartbeats 1000000 in
theorem range_ok (hE:EnvOk E) {g:Operand} {ps:Array Tmp} {asg body:Code} (ha:WalkOk E asg) (hb:WalkOk E body):WalkOk E (.rangeFunc g ps asg body):=by
 intro nb b0 rr n B S0 w0 d tk0 G0 S1 w1 hnb hnm st Q G S w tmps ds h R X P
 simp only [wpC] at h
 split at h
 rotate_left
 ·exact h.elim
 rename_i f caps hf
 obtain ⟨xs,an,hseq,hlen,I,s0,hwk,hI0,hIsl,hround,hdone⟩:=h
 obtain ⟨G1,R1,X1,F1⟩:=R.wk hnb hnm hwk X
 have P1:=P.foot F1
 have hx:=R.val g ds
 rw [hf] at hx
 generalize hvf:({ tmps:=tmps,defers:=ds }:Act).eval g=vf at hx
 cases hx with
 | fn _ _ cvs hlc hc =>
 refine wpIn_rangeFunc ?_
 intro fn hfn
 obtain ⟨l,Ds,rec,W1,henter,hrec,hrec2,hrec3,hbel,hl1,hwl,hnd,hDs1⟩:∃(l:Nat) (Ds:List Nat) (rec:LoopState→Option Code→Loop) (W1:World),
   (Instr.enterLoop fn tmps ps asg body (Fr (rr.map (·.1))).round).run E.P w=.ok (l,Ds.map fun D=>({ target:=.collected D,args:=#[] }:Deferred)) W1 ∧
   (∀st pe,(rec st pe).params=ps∧(rec st pe).tmps=tmps∧(rec st pe).fn=fn∧(rec st pe).assign=asg∧(rec st pe).body=body∧(rec st pe).state=st∧(rec st pe).pending=pe)∧(∀st pe st' pe',({ rec st pe with state:=st',pending:=pe' }:Loop)=rec st' pe')∧(∀st pe st',({ rec st pe with state:=st' }:Loop)=rec st' pe) ∧
   Below w.heap.size w W1∧W1.heap[l]?=some (.loop (rec .ready none))∧w.heap.size≤l∧Ds.Nodup∧(∀D∈Ds,W1.heap[D]?=some (.deferred (some []))∧w.heap.size≤D∧D≠l):=by
  cases rr with
  | none =>
   refine ⟨w.heap.size+1,[w.heap.size],fun st pe=>{ state:=st,pending:=pe,fn,tmps:=tmps,params:=ps,assign:=asg,body,defers:=w.heap.size },_,run_enterLoop_outer _ _ _ _ _,fun _ _=>⟨rfl,rfl,rfl,rfl,rfl,rfl,rfl⟩,fun _ _ _ _=>rfl,fun _ _ _=>rfl,(((Below.refl _ w).alloc (Nat.le_refl _) _).alloc (by simp) _),?_,by omega,by simp,?_⟩
   ·have:=World.alloc_heap_new (w.alloc (.deferred (some []))) (.loop { state:=.ready,pending:=none,fn,tmps:=tmps,params:=ps,assign:=asg,body,defers:=w.heap.size });rwa [World.size_alloc] at this
   ·intro D hD
    simp at hD
    subst hD
    exact ⟨(Below.heap_alloc _ _ _ (by simp)).trans (World.alloc_heap_new w _),Nat.le_refl _,by omega⟩
  | some x =>
   obtain ⟨l0,r0⟩:=x
   have hl0:=(P.rnd _ rfl).1
   refine ⟨w.heap.size,[],fun st pe=>{ state:=st,pending:=pe,fn,tmps:=tmps,params:=ps,assign:=asg,body,defers:=r0.defers },_,run_enterLoop_inner hl0 _ _ _ _ _,fun _ _=>⟨rfl,rfl,rfl,rfl,rfl,rfl,rfl⟩,fun _ _ _ _=>rfl,fun _ _ _=>rfl,(Below.refl _ w).alloc (Nat.le_refl _) _,World.alloc_heap_new w _,Nat.le_refl _,by simp,by simp⟩
 obtain ⟨R2,X2⟩:=R1.transport (S':=S) (w':=W1) (fun _ h=>h) (fun _ h=>.inl h) hbel
 have hlW1:l<W1.heap.size:=heap_lt hl1
 have hBl:B≤l:=Nat.le_trans R1.inv.base hwl
 have hnf:∀b,w.heap.size≤b→¬Foot G1 b:=fun b hb h=>by have:=R1.inv.foot_lt h;omega
 have hrs:∀st pe,(rec st pe).state=st:=fun st pe=>(hrec st pe).2.2.2.2.2.1
 have hrp:∀st pe,(rec st pe).pending=pe:=fun st pe=>(hrec st pe).2.2.2.2.2.2
 have hYkeeps:=fun k F T T' w' w''=>Between.keeps (E:=E) (B:=B) (S0:=S0) (w0:=w0) (st0:=s0) (G0:=G1) (S1:=S) (w1:=w) (l:=l) (base:=W1.heap.size) (Ds:=Ds) (rec:=rec) (N:=outOf an xs) (I:=I) (Q:=Q)
  hlW1 (fun D hD=>heap_lt (hDs1 D hD).1) (Nat.le_trans R1.inv.base hbel.size) hbel.size k F T T' w' w''
 obtain ⟨Y,hY⟩:∃Y:YS,Y=⟨l,xs,an,Between E B S0 w0 s0 G1 S w l W1.heap.size Ds rec (outOf an xs) I Q,hYkeeps⟩:=⟨_,rfl⟩
 have hJ0:Between E B S0 w0 s0 G1 S w l W1.heap.size Ds rec (outOf an xs) I Q 0 (fun b=>b<W1.heap.size) S W1 :=
  ⟨s0,G1,.inl ⟨out_pos _ _,hI0,hl1⟩,rfl,R2.inv,R2.below,X2,hnf l hwl,fun D hD=>⟨(hDs1 D hD).1,hnf D (hDs1 D hD).2.1⟩,fun b h=>h.elim (fun h=>Nat.lt_of_lt_of_le (R1.inv.foot_lt h) hbel.size) (fun h=>h)⟩
 have hYok:YOk E.P Y:=by
  subst hY
  intro r' n' k k1 pvs vs F S' W hy hJ hFl hSl hv
  obtain ⟨s,G',hk,hsl,hI,hbel',X3,hfl,hDs,hF⟩:=hJ
  rcases hk with ⟨hklt,hIk,hl⟩ | ⟨h,_⟩
  rotate_left
  ·exact absurd h (Nat.ne_of_lt (nxOf_src hy))
  have hps:vs.length=ps.size:=by rw [←hv.1];exact hlen _ (nxOf_mem hy)
  have hrun:=run_yield (P:=E.P) (args:=vs.toArray) hl (by rw [(hrec _ _).1];simp [hps])
  rw [(hrec _ _).1,(hrec _ _).2.1,(hrec _ _).2.2.1,(hrec _ _).2.2.2.1,(hrec _ _).2.2.2.2.1] at hrun
  have Rs:Rel E B S0 w0 s G' S' W tmps:=⟨hI,hbel',by rw [hsl];exact R1.len,fun t sv v a b=>RSV.mono X3 (R1.sl t sv v (by rw [←hsl];exact a) b)⟩
  obtain ⟨p1,p2⟩:=setPs_rel ps.toList pvs vs s.sl tmps (tk:=s.tk) (G:=G') (S:=S') (w:=W) (by simp [hps]) hv Rs.len Rs.sl
  have hfold:(ps.zip vs.toArray).foldl (fun tmps x=>match x with | (t,a)=>tmps.setIfInBounds t a) tmps=(ps.toList.zip vs).foldl (fun t (p,v)=>t.setIfInBounds p v) tmps:=by
   rw [←Array.foldl_toList]
   simp
  rw [hfold] at hrun
  generalize (ps.toList.zip vs).foldl (fun t (p,v)=>t.setIfInBounds p v) tmps=tm at hrun p1 p2
  have Rp:Rel E B S0 w0 (s.params ps.toList pvs) G' S' W tm:=⟨hI,hbel',p1,p2⟩
  have Pr:Put 0 (some (l,rec .ready none)) [] [] G' W:=⟨⟨[],rfl,List.nodup_nil,by simp⟩,fun x hx=>by cases hx;exact ⟨hl,hfl⟩,Nat.zero_le _⟩
  have hlenG:G1.bx.length≤s.nbs.1:=by rw [St.nbs,←hI.lbx];exact getElem?_length_le X3.bx
  have hlenM:G1.mp.length≤s.nbs.2∧(s.nbs=(0,0)→s0.tk=[]):=⟨Nat.le_trans (getElem?_length_le X3.mp) (by simp [St.nbs,hI.lmp]),fun h0=>by
   have hs:=nbs_tk h0
   cases hs0:s0.tk with
   | nil=>rfl
   | cons le r =>
    have hl1:=R1.inv.ltk
    obtain ⟨hv,hg⟩:∃hv,G1.tk[0]?=some hv:=⟨_,List.getElem?_eq_getElem (by rw [hl1,hs0];simp)⟩
    obtain ⟨_,_,_,h2,_⟩:=X3.tk 0 hv le hg (by rw [hs0];rfl)
    rw [hs] at h2;cases h2⟩
  have hFl':F l:=hF l (.inr hlW1)
  refine ⟨fn,tm,asg,body,hrun,roundIn_of_wpIn hfn (wpIn_mono (ha s.nbs 0 (some (l,rec .ready none)) n' B S0 w0 [] s.tk G' S' W (by simp [St.nbs,hI.lbx]) ⟨by simp [St.nbs,hI.lmp],nbs_tk⟩ _ _ G' S' W tm [] (hround k k1 s pvs hy hIk) Rp (Ext.refl _ _ _ _) Pr) ?_)⟩
  intro e a1 Wa hq
  cases e with
  | exit id=>obtain ⟨_,_,_,hk1,_⟩:=hq;exact hk1.elim
  | ret=>obtain ⟨_,_,_,hk1,_⟩:=hq;exact hk1.elim
  | goto l=>exact hq.elim
  | panic ch=>exact hq.elim
  | outgrown=>exact hq.elim
  | normal =>
  obtain ⟨s1,Ga,Sa,hk1,Ra,Xa,Pa⟩:=hq
  obtain ⟨hla,hfa⟩:=Pa.rnd _ rfl
  refine ⟨_,run_beginRound hla (hrs _ _),?_⟩
  rw [hrec3]
  have Rb:=Ra.putRec (o':=.loop (rec .busy none)) hla rfl rfl hfa hBl
  have hWb:(Wa.putObj l (.loop (rec .busy none))).heap[l]?=some (.loop (rec .busy none)):=World.putObj_heap_same (heap_lt hla)
  have Pb:Put 0 (some (l,rec .busy none)) [] a1.defers Ga (Wa.putObj l (.loop (rec .busy none))):=by
   obtain ⟨⟨Es,e1,e2,e3⟩,_,_⟩:=Pa
   exact ⟨⟨Es,e1,e2,fun D hD=>⟨(World.putObj_heap_other (fun e=>by have:=(e3 D hD).1;rw [e,hla] at this;cases this)).trans (e3 D hD).1,(e3 D hD).2⟩⟩,fun x hx=>by cases hx;exact ⟨hWb,hfa⟩,Nat.zero_le _⟩
  refine wpIn_mono (hb s1.nbs 0 (some (l,rec .busy none)) n' B S0 w0 [] s1.tk Ga Sa _ (by simp [St.nbs,Ra.inv.lbx]) ⟨by simp [St.nbs,Ra.inv.lmp],nbs_tk⟩ _ _ Ga Sa _ a1.tmps a1.defers hk1 Rb (Ext.refl _ _ _ _) Pb) ?_
  have fin:∀(s2:St) (G2:Gh) (S2:Addr→Prop) (W3:World) (a3:Act) (jump:Option Code),Rel E B S0 w0 s2 G2 S2 W3 a3.tmps→Ext s1.tk Ga Sa (Wa.putObj l (.loop (rec .busy none))) s2.tk G2 S2 W3→Put 0 (some (l,rec .busy none)) [] a3.defers G2 W3 →
    (Instr.endRound l jump).run E.P W3=.ok (.bool jump.isNone) (W3.putObj l (.loop (rec (if jump.isNone then .ready else .done) jump)))∧Rel E B S0 w0 (s2.withSl s0.sl) G2 S2 (W3.putObj l (.loop (rec (if jump.isNone then .ready else .done) jump))) tmps ∧
    Ext s0.tk G1 S w s2.tk G2 S2 (W3.putObj l (.loop (rec (if jump.isNone then .ready else .done) jump)))∧¬Foot G2 l∧(W3.putObj l (.loop (rec (if jump.isNone then .ready else .done) jump))).heap[l]?=some (.loop (rec (if jump.isNone then .ready else .done) jump)) ∧
    (∀D∈Ds,(W3.putObj l (.loop (rec (if jump.isNone then .ready else .done) jump))).heap[D]?=some (.deferred (some []))∧¬Foot G2 D)∧W3.heap[l]?=some (.loop (rec .busy none)):=by
   intro s2 G2 S2 W3 a3 jump R3 Xc P3
   obtain ⟨hl3,hf3⟩:=P3.rnd _ rfl
   have hend:=run_endRound (P:=E.P) jump hl3
   rw [hrec2] at hend
   have XT:Ext s0.tk G1 S w s2.tk G2 S2 (W3.putObj l (.loop (rec (if jump.isNone then .ready else .done) jump))) :=
    (((X3.trans Xa).putRec (o':=.loop (rec .busy none)) hla rfl rfl Ra.inv.slt hwl).trans Xc).putRec hl3 rfl rfl R3.inv.slt hwl
   have R4:=R3.putRec (o':=.loop (rec (if jump.isNone then .ready else .done) jump)) hl3 rfl rfl hf3 hBl
   refine ⟨hend,⟨R4.inv,R4.below,R1.len,fun t sv v a b=>RSV.mono XT (R1.sl t sv v a b)⟩,XT,hf3,World.putObj_heap_same (heap_lt hl3),fun D hD=>?_,hl3⟩
   have hDl:D≠l:=(hDs1 D hD).2.2
   have q1:=(hDs D hD).1
   have q2:=(hDs D hD).2
   have q3:=(Xa.same D (heap_lt q1) q2).trans q1
   have q4:¬Foot Ga D:=fun h=>q2 (Xa.foot D (heap_lt q1) h)
   have q5:=(World.putObj_heap_other (o:=.loop (rec .busy none)) hDl).trans q3
   have q6:=(Xc.same D (heap_lt q5) q4).trans q5
   exact ⟨(World.putObj_heap_other hDl).trans q6,fun h=>q4 (Xc.foot D (heap_lt q5) h)⟩
  intro e a3 W3 hq3
  have out:∀(s2:St) (G2 G4:Gh) (S2:Addr→Prop) (r4:Loop) (k':Nat) (b:Bool),Ext s1.tk Ga Sa (Wa.putObj l (.loop (rec .busy none))) s2.tk G2 S2 W3→W3.heap[l]?=some (.loop (rec .busy none))→(∀a,S2 a→a.block<W3.heap.size)→(∀b,Foot G4 b→Foot G2 b) →
    (∀b,Foot G4 b→b<(W3.putObj l (.loop r4)).heap.size)→((b=true∧k'=k1)∨(b=false∧k'=outOf an xs)) →
    (∀F',(∀c,Foot G4 c∨c<W1.heap.size→F' c)→Between E B S0 w0 s0 G1 S w l W1.heap.size Ds rec (outOf an xs) I Q k' F' S2 (W3.putObj l (.loop r4))) →
    ∃(k':Nat) (F':Nat→Prop) (S'':Addr→Prop),(((.returned (.bool b):Ending)=.returned (.bool true)∧k'=k1)∨((.returned (.bool b):Ending)=.returned (.bool false)∧k'=outOf an xs))∧Between E B S0 w0 s0 G1 S w l W1.heap.size Ds rec (outOf an xs) I Q k' F' S'' (W3.putObj l (.loop r4)) ∧
     Below 0 W (W3.putObj l (.loop r4))∧(∀b,b<W.heap.size→¬F b→(W3.putObj l (.loop r4)).heap[b]?=W.heap[b]?)∧(∀b,F' b→(F b∨W.heap.size≤b)∧b<(W3.putObj l (.loop r4)).heap.size)∧(∀a,S' a→S'' a)∧(∀a,S' a→Still W (W3.putObj l (.loop r4)) a) ∧
     (∀a,S'' a→(S' a∨F a.block∨W.heap.size≤a.block)∧a.block<(W3.putObj l (.loop r4)).heap.size):=by
   intro s2 G2 G4 S2 r4 k' b Xc hl3 hslt hfoot hfl4 hbk hBt
   obtain ⟨t1,t2,t3,t4,t5,t6⟩:=turn_ok (r4:=r4) Xa hla Xc hl3 (fun b h=>hF b (.inl h)) hFl' hslt
   refine ⟨k',fun c=>F c∨Foot G4 c,S2,?_,hBt _ (fun c hc=>hc.elim .inr (fun h=>.inl (hF c (.inr h)))),t1,t2,fun c hc=>?_,t4,t5,t6⟩
   ·rcases hbk with ⟨rfl,rfl⟩ | ⟨rfl,rfl⟩
    ·exact .inl ⟨rfl,rfl⟩
    ·exact .inr ⟨rfl,rfl⟩
   ·rcases hc with hc | hc
    ·exact ⟨.inl hc,Nat.lt_of_lt_of_le (hFl c hc) t1.size⟩
    ·refine ⟨?_,hfl4 c hc⟩
     rcases Nat.lt_or_ge c W.heap.size with h | h
     ·exact .inl (t3 c h (hfoot c hc))
     ·exact .inr h
  cases e with
  | normal =>
   obtain ⟨s2,G2,S2,⟨s3,hwk3,hI3⟩,R3,Xc,P3⟩:=hq3
   obtain ⟨hend,Rw,XT,hf3,hl4,hD4,hl3⟩:=fin s2 G2 S2 W3 a3 none R3 Xc P3
   obtain ⟨G4,R5,X5,F5⟩:=Rw.wk hlenG hlenM hwk3 XT
   exact ⟨_,_,hend,out s2 G2 G4 S2 _ k1 true Xc hl3 R3.inv.slt F5 (fun b h=>R5.inv.foot_lt h) (.inl ⟨rfl,rfl⟩) fun F' hF' =>
    ⟨s3,G4,.inl ⟨nxOf_lt hy hklt,hI3,hl4⟩,hIsl _ _ hI3,R5.inv,R5.below,X5,fun h=>hf3 (F5 _ h),fun D hD=>⟨(hD4 D hD).1,fun h=>(hD4 D hD).2 (F5 _ h)⟩,hF'⟩⟩
  | exit i =>
   obtain ⟨s2,G2,S2,hq2,R3,Xc,P3⟩:=hq3
   obtain ⟨hend,Rw,XT,hf3,hl4,hD4,hl3⟩:=fin s2 G2 S2 W3 a3 (some (.exit i)) R3 Xc P3
   exact ⟨_,_,hend,out s2 G2 G2 S2 _ (outOf an xs) false Xc hl3 R3.inv.slt (fun _ h=>h) (fun b h=>Rw.inv.foot_lt h) (.inr ⟨rfl,rfl⟩) fun F' hF' =>
    ⟨s2.withSl s0.sl,G2,.inr ⟨rfl,_,hl4,.inr ⟨i,rfl,hq2⟩⟩,rfl,Rw.inv,Rw.below,XT,hf3,hD4,hF'⟩⟩
  | ret =>
   obtain ⟨s2,G2,S2,hq2,R3,Xc,P3⟩:=hq3
   obtain ⟨hend,Rw,XT,hf3,hl4,hD4,hl3⟩:=fin s2 G2 S2 W3 a3 (some .ret) R3 Xc P3
   exact ⟨_,_,hend,out s2 G2 G2 S2 _ (outOf an xs) false Xc hl3 R3.inv.slt (fun _ h=>h) (fun b h=>Rw.inv.foot_lt h) (.inr ⟨rfl,rfl⟩) fun F' hF' =>
    ⟨s2.withSl s0.sl,G2,.inr ⟨rfl,_,hl4,.inl ⟨rfl,hq2⟩⟩,rfl,Rw.inv,Rw.below,XT,hf3,hD4,hF'⟩⟩
  | goto l=>exact hq3.elim
  | panic ch=>exact hq3.elim
  | outgrown=>exact hq3.elim
 refine ⟨l,Ds.map fun D=>({ target:=.collected D,args:=#[] }:Deferred),W1,{ target:=.fn (.func f) cvs.toArray,args:=#[.func (.yield l) #[] #[]] },W1,f,#[.func (.yield l) #[] #[]]++cvs.toArray,W1,henter,?_,?_,?_,fun h=>absurd h (by simp [Fr,Fence.wide]),?_⟩
 ·simp only [resolve,hvf]
  simp [go_sem]
 ·intro f' _
  trivial
 ·have:=hseq.1
  simp [invoke,go_sem,this _ W1]
 have hcall:=hseq.2 Y (rr.map (·.1)) (n - 1) (fun b=>b<W1.heap.size) S W1 cvs (by rw [hY]) (by rw [hY]) hYok (by rw [hY];exact hJ0) (fun b h=>h) R2.inv.slt (RVs.mono X2.sub X2.cell ⟨hlc,hc⟩)
 rw [show Y.l=l by rw [hY]] at hcall
 refine CallsIn.mono hcall ?_
 rintro e W2 ⟨v,k,F',S',rfl,hk,hJ,hcalm⟩
 rw [hY] at hJ
 obtain ⟨s,G',hkk,hsl,hI,hbel',X3,hfl,hDs,hF⟩:=hJ
 have Rs:Rel E B S0 w0 s G' S' W2 tmps:=⟨hI,hbel',by rw [hsl];exact R1.len,fun t sv v a b=>RSV.mono X3 (R1.sl t sv v (by rw [←hsl];exact a) b)⟩
 have fin:∀(pe:Option Code) (stt:LoopState),W2.heap[l]?=some (.loop (rec stt pe))→stt≠.busy→(Instr.endLoop l).run E.P W2=.ok pe (W2.putObj l (.loop (rec .exhausted pe)))∧Rel E B S0 w0 s G' S' (W2.putObj l (.loop (rec .exhausted pe))) tmps∧Ext tk0 G0 S1 w1 s.tk G' S' (W2.putObj l (.loop (rec .exhausted pe))) ∧
   Put b0 rr d (Ds.map (fun D=>({ target:=.collected D,args:=#[] }:Deferred))++ds) G' (W2.putObj l (.loop (rec .exhausted pe))):=by
  intro pe stt hl hst
  have hend:=run_endLoop (P:=E.P) hl (by rw [hrs];exact hst)
  rw [hrec3,hrp] at hend
  refine ⟨hend,Rs.putRec hl rfl rfl hfl hBl,(X1.trans X3).putRec hl rfl rfl hI.slt (Nat.le_trans X1.calm.size hwl),?_⟩
  obtain ⟨⟨Es,e1,e2,e3'⟩,e4',e5'⟩:=P1
  have e3:∀D∈Es,W2.heap[D]?=some (.deferred (some []))∧¬Foot G' D∧b0≤D:=fun D hD=>⟨(X3.same D (heap_lt (e3' D hD).1) (e3' D hD).2.1).trans (e3' D hD).1,fun hf=>(e3' D hD).2.1 (X3.foot D (heap_lt (e3' D hD).1) hf),(e3' D hD).2.2⟩
  have e4:∀x,rr=some x→W2.heap[x.1]?=some (.loop x.2)∧¬Foot G' x.1:=fun x hx=>⟨(X3.same x.1 (heap_lt (e4' x hx).1) (e4' x hx).2).trans (e4' x hx).1,fun hf=>(e4' x hx).2 (X3.foot x.1 (heap_lt (e4' x hx).1) hf)⟩
  refine ⟨⟨Ds++Es,by rw [e1];simp,List.nodup_append.2 ⟨hnd,e2,fun a ha b hb hab=>?_⟩,fun D hD=>?_⟩,fun x hx=>⟨(World.putObj_heap_other ?_).trans (e4 x hx).1,(e4 x hx).2⟩,by simpa using Nat.le_trans e5' X3.calm.size⟩
  ·have h1:=(hDs1 a ha).2.1
   have h2:=heap_lt (e3' b hb).1
   omega
  ·rcases List.mem_append.1 hD with hD | hD
   ·exact ⟨(World.putObj_heap_other (hDs1 D hD).2.2).trans (hDs D hD).1,(hDs D hD).2,Nat.le_trans e5' (hDs1 D hD).2.1⟩
   ·have h2:=heap_lt (e3' D hD).1
    exact ⟨(World.putObj_heap_other (by omega)).trans (e3 D hD).1,(e3 D hD).2⟩
  ·have h2:=heap_lt (e4' x hx).1
   omega
 rcases hkk with ⟨hk1,hIk,hl⟩ | ⟨hk1,c,hl,hc⟩
 ·have hkx:finOf an xs k:=hk.elim (fun h=>h) (fun h=>absurd h (Nat.ne_of_lt hk1))
  obtain ⟨f1,f2,f3,f4⟩:=fin none .ready hl (by simp)
  exact ⟨none,_,f1,s,G',S',hdone k s hkx hIk,f2,f3,f4⟩
 ·obtain ⟨f1,f2,f3,f4⟩:=fin (some c) .done hl (by simp)
  refine ⟨some c,_,f1,?_⟩
  rcases hc with ⟨rfl,hq⟩ | ⟨i,rfl,hq⟩
  ·exact wpIn_ret ⟨s,G',S',hq,f2,f3,f4⟩
  ·exact wpIn_exit ⟨s,G',S',hq,f2,f3,f4⟩
theorem wpIn_scope {F:Fence} {n:Nat} {P:Program} {Q:Exit→Act→World→Prop} {a:Act} {w:World} {c:Code} (h:c.wpIn F n P (Exit.noGoto Q) a w):(Code.scope c).wpIn F n P Q a w:=by
 intro b k cs hro hb hr
 have h0:(lone (b.atR a (.code (.scope c)::k)) cs w).fenced P F:=fenced_calm hb hr rfl
 have s1:step P (lone (b.atR a (.code (.scope c)::k)) cs w)=.next (lone (b.atR a (.code c::.inScope c::k)) cs w):=step_lone_go (by simp [stepG,stepG.exec,Frame.atR])
 obtain ⟨e,a₁,w₁,hq,harr⟩:=h b (.inScope c::k) cs hro hb hr
 cases e with
 | normal =>
  have s2:step P (lone (b.atR a₁ (.inScope c::k)) cs w₁)=.next (lone (b.atR a₁ k) cs w₁):=step_lone_go (by simp [stepG,stepG.exec,Frame.atR])
  exact ⟨.normal,a₁,w₁,hq,.head h0 s1 (StepsIn.trans harr (.one (fenced_calm hb hr rfl) s2))⟩
 | exit id =>
  have hx:exitTo id (.inScope c::k)=exitTo id k:=by simp [exitTo]
  exact ⟨_,a₁,w₁,hq,fun k' hk=>.head h0 s1 (harr.1 k' (by rw [hx];exact hk)),
   fun hr' hk=>let ⟨k₁,h1,h2⟩:=harr.2 hr' (by rw [hx];exact hk);⟨k₁,h1,.head h0 s1 h2⟩⟩
 | goto l=>exact hq.elim
 | ret=>exact ⟨_,a₁,w₁,hq,.of_steps (.one h0 s1) harr⟩
 | panic ch=>exact ⟨_,a₁,w₁,hq,.of_steps (.one h0 s1) harr⟩
 | outgrown=>exact ⟨_,a₁,w₁,hq,.of_steps (.one h0 s1) harr⟩
theorem wpC_ok (hE:EnvOk E):∀(c:Code),WalkOk E c:=by
 intro c
 induction c with
 | skip=>intro nb b0 rr n B S0 w0 d tk0 G0 S1 w1 hnb hnm st Q G S w tmps ds h R X P;exact wpIn_skip ⟨st,G,S,h,R,X,P⟩
 | region id ops draw =>
  intro nb b0 rr n B S0 w0 d tk0 G0 S1 w1 hnb hnm st Q G S w tmps ds h R X P
  simp only [wpC] at h
  split at h
  rotate_left
  ·rename_i c hea
   have hdr:draw=true:=drawMode_draw (by rw [hea];simp)
   subst hdr
   exact region_cut hE ds h R (Ext.refl _ _ _ _) fun st' G' S' w' tmps' hk R' X'=>⟨st',G',S',hk,R',X.trans X',P.ext X'⟩
  rotate_left
  ·rename_i hea
   have hdr:draw=true:=drawMode_draw (by rw [hea];simp)
   subst hdr
   refine wpIn_region_any hE.mixed ?_
   have hb:Below w.heap.size w { w with drawn:=w.drawn+1 }:=Below.drew (Below.refl _ _)
   obtain ⟨R1,X1⟩:=R.transport (S':=S) (w':={ w with drawn:=w.drawn+1 }) (fun _ h=>h) (fun _ h=>.inl h) hb
   exact wpAll_ok hE ops ds (fun st' G' S' w' tmps' hk R' X'=>⟨st',G',S',hk,R',X.trans X',P.ext X'⟩) _ _ st G S _ tmps h R1 X1
  obtain ⟨hd,h⟩:=h
  cases draw with
  | false =>
   refine wpIn_region ?_
   have:=wpOps_ok (r:=rr.map (·.1)) (n:=n) (Q:=LQ E B S0 w0 tk0 G0 S1 w1 b0 rr d Q) hE ops ds ops.toList 0 st G S w tmps (fun j=>by simp) h R (Ext.refl _ _ _ _) (fun st' G' S' w' tmps' hk R' X'=>⟨st',G',S',hk,R',X.trans X',P.ext X'⟩)
   rw [List.range_eq_range']
   simpa using this
  | true =>
   exact region_any hE ds (by simpa using hd) h R (Ext.refl _ _ _ _) fun st' G' S' w' tmps' hk R' X'=>⟨st',G',S',hk,R',X.trans X',P.ext X'⟩
 | seq a b iha ihb =>
  intro nb b0 rr n B S0 w0 d tk0 G0 S1 w1 hnb hnm st Q G S w tmps ds h R X P
  refine wpIn_seq (wpIn_mono (iha nb b0 rr n B S0 w0 d tk0 G0 S1 w1 hnb hnm st _ G S w tmps ds h R X P) fun e a' w' hq=>?_)
  cases e with
  | normal =>
   obtain ⟨st',G',S',hk,R',X',P'⟩:=hq
   exact ihb nb b0 rr n B S0 w0 d tk0 G0 S1 w1 hnb hnm st' Q G' S' w' _ _ hk R' X' P'
  | exit id=>exact hq
  | ret=>exact hq
  | goto l=>exact hq.elim
  | panic ch=>exact hq.elim
  | outgrown=>exact hq.elim
 | cond c a b iha ihb =>
  intro nb b0 rr n B S0 w0 d tk0 G0 S1 w1 hnb hnm st Q G S w tmps ds h R X P
  simp only [wpC] at h
  split at h
  ·rename_i t ht
   have hv:=R.val c ds
   rw [ht] at hv
   have hv':=RV.bool_inv hv
   exact wpIn_cond_split hv' (fun e=>iha nb b0 rr n B S0 w0 d tk0 G0 S1 w1 hnb hnm st Q G S w tmps ds (h.1 e) R X P) (fun e=>ihb nb b0 rr n B S0 w0 d tk0 G0 S1 w1 hnb hnm st Q G S w tmps ds (h.2 e) R X P)
  ·exact h.elim
 | block id body ih =>
  intro nb b0 rr n B S0 w0 d tk0 G0 S1 w1 hnb hnm st Q G S w tmps ds h R X P
  refine wpIn_block (wpIn_mono (ih nb b0 rr n B S0 w0 d tk0 G0 S1 w1 hnb hnm st _ G S w tmps ds h R X P) fun e a' w' hq=>?_)
  cases e with
  | normal=>exact hq
  | exit i =>
   obtain ⟨st',G',S',hk,R',X'⟩:=hq
   simp only at hk
   simp only [Exit.inBlock]
   split at hk
   ·rename_i hi;rw [if_pos hi];exact ⟨st',G',S',hk,R',X'⟩
   ·rename_i hi;rw [if_neg hi];exact ⟨st',G',S',hk,R',X'⟩
  | ret=>exact hq
  | goto l=>exact hq.elim
  | panic ch=>exact hq.elim
  | outgrown=>exact hq.elim
 | loop body ih =>
  intro nb b0 rr n B S0 w0 d tk0 G0 S1 w1 hnb hnm st Q G S w tmps ds h R X P
  obtain ⟨I,⟨n0,st0,hwk,hI0⟩,hstep⟩:=h
  obtain ⟨Gs,Rs,Xs,Fs⟩:=R.wk hnb hnm hwk X
  refine wpIn_loop_ghost (fun k a w=>∃st G S,I k st∧Rel E B S0 w0 st G S w a.tmps∧Ext tk0 G0 S1 w1 st.tk G S w∧Put b0 rr d a.defers G w) n0 ⟨st0,Gs,S,hI0,Rs,Xs,P.foot Fs⟩ ?_
  rintro k a w' ⟨s,G',S',hI,R',X',P'⟩
  refine wpIn_mono (ih nb b0 rr n B S0 w0 d tk0 G0 S1 w1 hnb hnm s _ G' S' w' a.tmps a.defers (hstep k s hI) R' X' P') fun e a' w'' hq=>?_
  cases e with
  | normal =>
   obtain ⟨s',G2,S2,⟨n',s'',hlt,hwk',hI'⟩,R2,X2,P2⟩:=hq
   obtain ⟨G3,R3,X3,F3⟩:=R2.wk hnb hnm hwk' X2
   exact ⟨n',hlt,s'',G3,S2,hI',R3,X3,P2.foot F3⟩
  | exit i=>exact hq
  | ret=>exact hq
  | goto l=>exact hq.elim
  | panic ch=>exact hq.elim
  | outgrown=>exact hq.elim
 | exit id=>intro nb b0 rr n B S0 w0 d tk0 G0 S1 w1 hnb hnm st Q G S w tmps ds h R X P;exact wpIn_exit ⟨st,G,S,h,R,X,P⟩
 | ret=>intro nb b0 rr n B S0 w0 d tk0 G0 S1 w1 hnb hnm st Q G S w tmps ds h R X P;exact wpIn_ret ⟨st,G,S,h,R,X,P⟩
 | label l=>intro nb b0 rr n B S0 w0 d tk0 G0 S1 w1 hnb hnm st Q G S w tmps ds h R X P;exact wpIn_label ⟨st,G,S,h,R,X,P⟩
 | rangeFunc f ps a b iha ihb=>exact range_ok hE iha ihb
 | scope b ih =>
  intro nb b0 rr n B S0 w0 d tk0 G0 S1 w1 hnb hnm st Q G S w tmps ds h R X P
  refine wpIn_scope (wpIn_mono (ih nb b0 rr n B S0 w0 d tk0 G0 S1 w1 hnb hnm st _ G S w tmps ds h R X P) fun e a' w'' hq=>?_)
  cases e<;>exact hq
 | goto l=>intro nb b0 rr n B S0 w0 d tk0 G0 S1 w1 hnb hnm st Q G S w tmps ds h R X P;exact h.elim
 | refuse s=>intro nb b0 rr n B S0 w0 d tk0 G0 S1 w1 hnb hnm st Q G S w tmps ds h R X P;exact h.elim
end
end Go.Abs
/-
  The abstract walk of a function: what the walk says is what a call does.
-/
namespace Go.Abs
open Go.RowKit
section
variable {E:Env} {B:Nat} {S0:Addr→Prop} {w0:World} {st:St} {G:Gh} {S:Addr→Prop} {w:World} {tmps:Array Value} {r:Option Nat} {n:Nat}
def resRun (tmps:Array Value):ResultVar→Sem Value
 | .tmp t=>pure (tmps.getD t undef)
 | .cell a t=>do loadVar t (←asAddr (tmps.getD a undef))
theorem results_eq (fn:Func) (tmps:Array Value):results fn tmps=(do
  let vs ←fn.results.mapM (resRun tmps)
  pure (if h:vs.size=1 then vs[0] else .tuple vs)):=by
 unfold results
 congr 1
theorem resPV_len:∀(l:List ResultVar) (s:Prop) (ps:List PV),resPV E st l=some (s,ps)→ps.length=l.length
 | [],s,ps,h=>by simp only [resPV,Option.some.injEq,Prod.mk.injEq] at h;obtain ⟨_,rfl⟩:=h;rfl
 | .tmp t::r,s,ps,h=>by
  simp only [resPV] at h
  split at h
  ·rename_i p s' l hp hl
   simp only [Option.some.injEq,Prod.mk.injEq] at h
   obtain ⟨_,rfl⟩:=h
   simp [resPV_len r _ _ hl]
  ·cases h
 | .cell a ty::r,s,ps,h=>by
  simp only [resPV] at h
  split at h
  ·rename_i x s' l hx hl
   split at h
   ·simp only [Option.some.injEq,Prod.mk.injEq] at h
    obtain ⟨_,rfl⟩:=h
    simp [resPV_len r _ _ hl]
   ·cases h
  ·cases h
theorem resRun_ok (hE:EnvOk E) (R:Rel E B S0 w0 st G S w tmps):∀(l:List ResultVar) (s:Prop) (ps:List PV),resPV E st l=some (s,ps)→s →
  ∃vs,(l.mapM (resRun tmps)).run E.P w=.ok vs w∧RVs S w ps vs
 | [],s,ps,h,_=>by
  simp only [resPV,Option.some.injEq,Prod.mk.injEq] at h
  obtain ⟨_,rfl⟩:=h
  exact ⟨[],by simp,RVs.nil⟩
 | .tmp t::rest,s,ps,h,hs=>by
  simp only [resPV] at h
  split at h
  ·rename_i p s' l hp hl
   simp only [Option.some.injEq,Prod.mk.injEq] at h
   obtain ⟨rfl,rfl⟩:=h
   obtain ⟨vs,h1,h2⟩:=resRun_ok hE R rest s' l hl hs
   refine ⟨tmps.getD t undef::vs,by simp [List.mapM_cons,resRun,h1],RVs.cons (RSV.pv (rsv_getD R t) hp) h2⟩
  ·cases h
 | .cell a ty::rest,s,ps,h,hs=>by
  simp only [resPV] at h
  split at h
  ·rename_i x s' l hx hl
   split at h
   ·rename_i p hp
    simp only [Option.some.injEq,Prod.mk.injEq] at h
    obtain ⟨rfl,rfl⟩:=h
    obtain ⟨vs,h1,h2⟩:=resRun_ok hE R rest s' l hl hs.2
    have hv:=rsv_getD R a
    obtain ⟨_,v,hrun,V'⟩:=load_same hE R (t:=ty) hv x hx hs.1
    have hst:x.st=st∧∃ad,tmps.getD a undef=.pointer (some ad):=by
     generalize tmps.getD a undef=va at hv
     unfold opLoad at hx
     split at hx
     ·rename_i cs off hc
      rw [hc] at hv
      cases hv with
      | ptr _ _ ad g _ _ =>
       refine ⟨?_,_,rfl⟩
       split at hx
       ·cases hx;rfl
       ·split at hx
        ·cases hx;rfl
        ·cases hx
     ·rename_i id off hc
      rw [hc] at hv
      obtain ⟨b,_,rfl⟩:=hv
      refine ⟨?_,_,rfl⟩
      split at hx
      ·split at hx
       ·split at hx
        ·cases hx;rfl
        ·cases hx
       ·split at hx
        ·cases hx;rfl
        ·cases hx
      ·cases hx
     ·cases hx
    obtain ⟨hst,ad,had⟩:=hst
    rw [had] at hrun
    simp only [Instr.loadAt,Instr.sureAddr] at hrun
    have hl:(loadVar ty ad).run E.P w=.ok v w∧RV S w p v:=by
     refine ⟨?_,RSV.pv V' hp⟩
     cases hlv:(loadVar ty ad).run E.P w with
     | ok u w1 =>
      simp [hlv] at hrun
      obtain ⟨rfl,rfl⟩:=hrun
      rfl
     | halt x w1 =>
      simp [hlv] at hrun
    refine ⟨v::vs,by simp [List.mapM_cons,resRun,h1,had,asAddr,hl.1],RVs.cons hl.2 h2⟩
   ·cases h
  ·cases h
theorem results_ok (hE:EnvOk E) (R:Rel E B S0 w0 st G S w tmps) {fn:Func} {p:PV} (h:retOk E fn.results.toList st p):∃v,(results fn tmps).run E.P w=.ok v w∧RV S w p v:=by
 unfold retOk at h
 split at h
 ·rename_i s ps hr
  obtain ⟨hs,rfl⟩:=h
  obtain ⟨vs,h1,h2⟩:=resRun_ok hE R _ s ps hr hs
  rw [results_eq,←Array.toArray_toList (xs:=fn.results),List.mapM_toArray]
  refine ⟨_,by simp [h1];rfl,?_⟩
  unfold tupPV
  split
  ·rename_i q
   obtain ⟨hl,hg⟩:=h2
   match vs,hl with
   | [v],_=>simpa using hg 0 q v rfl rfl
  ·rename_i hne
   have:¬vs.length=1:=by
    intro he
    rw [←h2.1] at he
    match ps,he with
    | [q],_=>exact hne q rfl
   simp only [this,dite_false]
   exact RV.tup _ _ h2.1 h2.2
 ·exact h.elim
theorem args_rel {tk:List (Nat × TypeId)} {svs:List SV} {vs:List Value} (k:Nat) (hl:svs.length=vs.length)
  (h:∀(i:Nat) (s:SV) (v:Value),svs[i]?=some s→vs[i]?=some v→RSV tk G S w s v) :
  (svs++List.replicate k SV.undef).length=(vs.toArray++Array.replicate k undef).size∧∀(t:Nat) (s:SV) (v:Value),(svs++List.replicate k SV.undef)[t]?=some s→(vs.toArray++Array.replicate k undef)[t]?=some v→RSV tk G S w s v:=by
 refine ⟨by simp [hl],fun t s v h1 h2=>?_⟩
 rw [←Array.getElem?_toList] at h2
 simp only [Array.toList_append,Array.toList_replicate] at h2
 by_cases ht:t<svs.length
 ·rw [List.getElem?_append_left ht] at h1
  rw [List.getElem?_append_left (by rw [←hl];exact ht)] at h2
  exact h t s v h1 h2
 ·rw [List.getElem?_append_right (by omega)] at h1
  rw [List.getElem?_append_right (by rw [←hl];omega)] at h2
  have:=List.mem_of_getElem? h1
  rw [List.mem_replicate] at this
  have:=List.mem_of_getElem? h2
  rw [List.mem_replicate] at this
  simp_all [RSV]
theorem vals_rel {tk:List (Nat × TypeId)} {args:List PV} {vs:List Value} (h:RVs S w args vs) (i:Nat) (s:SV) (v:Value) (h1:(args.map SV.val)[i]?=some s) (h2:vs[i]?=some v):RSV tk G S w s v:=by
 rw [List.getElem?_map] at h1
 cases ha:args[i]? with
 | none=>rw [ha] at h1;cases h1
 | some p=>rw [ha] at h1;cases h1;exact h.2 i p v ha h2
theorem Rel.start (hY:E.Y=.none) (S:Addr→Prop) (w:World) (args:List PV) (vs:List Value) (k:Nat) (hS:∀a,S a→a.block<w.heap.size) (h:RVs S w args vs) :
  Rel E w.heap.size S w ⟨args.map .val++List.replicate k .undef,[],[],⟨[],0⟩⟩ ⟨[],[],[],fun _=>False⟩ S w (vs.toArray++Array.replicate k undef):=by
 obtain ⟨a,b⟩:=args_rel (G:=⟨[],[],[],fun _=>False⟩) (S:=S) (w:=w) (tk:=[]) (svs:=args.map SV.val) (vs:=vs) k (by simp [h.1]) (vals_rel h)
 exact ⟨⟨Nat.le_refl _,fun a ha=>.inl ha,hS,rfl,rfl,fun i b hb=>by simp at hb,fun i j b hb=>by simp at hb,fun id b cs hb=>by simp at hb,fun t n e hv ht=>by simp at ht,fun t t' n n' c c' g _ ht=>by simp at ht,
  rfl,fun i j b hb=>by simp at hb,fun i b hb=>by simp at hb,fun i b c hb=>by simp at hb,fun b hb=>hb.elim,fun i b hb=>by simp at hb,fun t n c g hb=>by simp at hb,fun i b hb=>by simp at hb,⟨by rw [hY];trivial,fun h=>absurd (by rw [hY];rfl) h⟩⟩,Below.refl _ _,a,b⟩
theorem Rel.startY (F:Nat→Prop) (S:Addr→Prop) (w:World) (args:List PV) (vs:List Value) (k:Nat) (hF:∀b,F b→b<w.heap.size) (hS:∀a,S a→a.block<w.heap.size) (h:RVs S w args vs) (hJ:E.Y.J 0 F S w) :
  Rel E 0 S w ⟨args.map .val++List.replicate k .undef,[],[],⟨[],0⟩⟩ ⟨[],[],[],F⟩ S w (vs.toArray++Array.replicate k undef):=by
 obtain ⟨a,b⟩:=args_rel (G:=⟨[],[],[],F⟩) (S:=S) (w:=w) (tk:=[]) (svs:=args.map SV.val) (vs:=vs) k (by simp [h.1]) (vals_rel h)
 exact ⟨⟨Nat.zero_le _,fun a ha=>.inl ha,hS,rfl,rfl,fun i b hb=>by simp at hb,fun i j b hb=>by simp at hb,fun id b cs hb=>by simp at hb,fun t n e hv ht=>by simp at ht,fun t t' n n' c c' g _ ht=>by simp at ht,
  rfl,fun i j b hb=>by simp at hb,fun i b hb=>by simp at hb,fun i b c hb=>by simp at hb,hF,fun i b hb=>by simp at hb,fun t n c g hb=>by simp at hb,fun i b hb=>by simp at hb,⟨hJ,fun _=>rfl⟩⟩,Below.refl _ _,a,b⟩
theorem leaves_ok {P:Program} {fn:Func} {Rp:Ending→World→Prop} {tk0:List (Nat × TypeId)} {G0:Gh} {S1:Addr→Prop} {w1:World} {b0:Nat} (hB:B≤b0) (h1:w1.heap.size≤b0):∀(Ds:List Nat) (w:World),Ds.Nodup →
  (∀D∈Ds,w.heap[D]?=some (.deferred (some []))∧¬Foot G D∧b0≤D)→Rel E B S0 w0 st G S w tmps→Ext tk0 G0 S1 w1 st.tk G S w →
  (∀w',Rel E B S0 w0 st G S w' tmps→Ext tk0 G0 S1 w1 st.tk G S w'→LeavesIn Fence.wide n P fn tmps Rp [] .returning w') →
  LeavesInM Fence.wide n P fn tmps Rp (Ds.map fun D=>({ target:=.collected D,args:=#[] }:Deferred)) .returning w
 | [],w,_,_,R,X,h=>h w R X
 | D::Ds,w,hnd,hD,R,X,h=>by
  obtain ⟨q1,q2,q3⟩:=hD D List.mem_cons_self
  have R':=R.putRec (o':=.deferred none) q1 rfl rfl q2 (by omega)
  have X':=X.putRec (o':=.deferred none) q1 rfl rfl R.inv.slt (by omega)
  have hnd':=List.nodup_cons.1 hnd
  exact ⟨by simp,.inl ⟨D,_,rfl,run_takeDeferred q1,leaves_ok hB h1 Ds _ hnd'.2 (fun D' hD'=>⟨(World.putObj_heap_other (fun e=>hnd'.1 (by rw [←e];exact hD'))).trans (hD D' (List.mem_cons_of_mem _ hD')).1,(hD D' (List.mem_cons_of_mem _ hD')).2⟩) R' X' h⟩⟩
def Real (args:List PV):Prop:=∃(S:Addr→Prop) (w:World) (vs:List Value),(∀a,S a→a.block<w.heap.size)∧RVs S w args vs
theorem Real.mem {args:List PV} (h:Real args) {p:PV} (hp:p∈args):Real [p]:=by
 obtain ⟨S,w,vs,hS,hl,hv⟩:=h
 obtain ⟨i,hi⟩:=List.getElem?_of_mem hp
 have hlt:i<vs.length:=by rw [←hl];exact (List.getElem?_eq_some_iff.1 hi).1
 exact ⟨S,w,[vs[i]],hS,RVs.cons (hv i p _ hi (List.getElem?_eq_getElem hlt)) RVs.nil⟩
theorem Real.len {m:Nat} {xs:List PV} (h:Real [.list m xs]):xs.length≤9223372036854775807:=by
 obtain ⟨S,w,vs,hS,hl,hv⟩:=h
 match vs,hl with
 | [v],_ =>
  have hr:=hv 0 _ v rfl rfl
  obtain ⟨a,ad,cap,g,rfl,_,h1,h2,_⟩:=RV.slice_iff hr
  have:maxLen=9223372036854775807:=rfl
  omega
theorem Real.elem {m:Nat} {xs:List PV} (h:Real [.list m xs]) {x:PV} (hx:x∈xs) {c:PV} (hc:c∈x.cells):Real [c]:=by
 obtain ⟨S,w,vs,hS,hl,hv⟩:=h
 match vs,hl with
 | [v],_ =>
  have hr:=hv 0 _ v rfl rfl
  obtain ⟨i,hi⟩:=List.getElem?_of_mem hx
  obtain ⟨j,hj⟩:=List.getElem?_of_mem hc
  cases hr with
  | list _ _ a ad cap g ha hcap hmax hm hcc hrr=>exact ⟨S,w,[g i j],hS,RVs.cons (hrr i x j c hi hj) RVs.nil⟩
theorem Real.cell {cs:List PV} (h:Real [.agg cs]) {c:PV} (hc:c∈cs):Real [c]:=by
 obtain ⟨S,w,vs,hS,hl,hv⟩:=h
 match vs,hl with
 | [v],_ =>
  have hr:=hv 0 _ v rfl rfl
  obtain ⟨us,rfl,h1,h2⟩:=RV.agg_iff hr
  obtain ⟨j,hj⟩:=List.getElem?_of_mem hc
  have hlt:j<us.length:=by rw [←h1];exact (List.getElem?_eq_some_iff.1 hj).1
  exact ⟨S,w,[us[j]],hS,RVs.cons (h2 j c _ hj (List.getElem?_eq_getElem hlt)) RVs.nil⟩
def retFz (E:Env) (rs:List ResultVar) (st:St) (p:PV):Prop :=
 match E.rows with
 | false=>retOk E rs st p
 | true=>∃st',Frz st [] st' []∧retOk E rs st' p
theorem body_ok {Q:AX→St→Prop} {tk0:List (Nat × TypeId)} {G0:Gh} {S1:Addr→Prop} {w1:World} {b0:Nat} {fn:Func} {Rp:Ending→World→Prop} (hB:B≤b0) (h1:w1.heap.size≤b0) {e:Exit} {a:Act} (hq:LQ E B S0 w0 tk0 G0 S1 w1 b0 none [] Q e a w)
  (hx:∀i st,¬Q (.exit i) st) (h:∀(e:AX) (st:St) (G:Gh) (S:Addr→Prop) (w:World),Q e st→Rel E B S0 w0 st G S w a.tmps→Ext tk0 G0 S1 w1 st.tk G S w→∃v,(results fn a.tmps).run E.P w=.ok v w∧Rp (.returned v) w) :
  bodyPostM Fence.wide n E.P fn Rp e a w:=by
 have go:∀(e:AX) (st:St) (G:Gh) (S:Addr→Prop),Q e st→Rel E B S0 w0 st G S w a.tmps→Ext tk0 G0 S1 w1 st.tk G S w→Put b0 none [] a.defers G w→LeavesInM Fence.wide n E.P fn a.tmps Rp a.defers .returning w:=by
  intro e st G S hk R X ⟨⟨Ds,d1,d2,d3⟩,_,_⟩
  rw [d1,List.append_nil]
  exact leaves_ok hB h1 Ds w d2 d3 R X fun w' R' X'=>h e st G S w' hk R' X'
 cases e with
 | normal=>obtain ⟨st,G,S,hk,R',X',P'⟩:=hq;exact go .normal st G S hk R' X' P'
 | ret=>obtain ⟨st,G,S,hk,R',X',P'⟩:=hq;exact go .ret st G S hk R' X' P'
 | exit id=>obtain ⟨st,G,S,hk,_⟩:=hq;exact (hx id st hk).elim
 | goto l=>exact hq.elim
 | panic ch=>exact hq.elim
 | outgrown=>exact hq.elim
theorem callsPV_of (hE:EnvOk E) (hY:E.Y=.none) {f:FuncId} {fn:Func} {c:Code} (hf:E.P.funcs[f]?=some fn) (hb:fn.body=some c) (he:Enters E.P f) {args:List PV} {p:PV}
  (h:Real args→wpC E c (0,0) ⟨args.map .val++List.replicate (fn.ntmps - args.length) .undef,[],[],⟨[],0⟩⟩ fun e st=>match e with | .exit _=>False | _=>retFz E fn.results.toList st p):CallsPV E.P f args p:=by
 refine ⟨he,fun S w vs hS hv=>?_⟩
 rw [←callsIn_wide (n:=0)]
 refine callsIn_of_wp_marks hf hb trivial ?_ rfl
 have R:=Rel.start (E:=E) hY S w args vs (fn.ntmps - args.length) hS hv
 have hlen:vs.toArray.size=args.length:=by simp [hv.1]
 rw [hlen]
 have hw:=wpC_ok hE c (0,0) w.heap.size none 0 w.heap.size S w [] _ _ S w (by simp) ⟨by simp,fun _=>rfl⟩ _ _ _ S w _ [] (h ⟨S,w,vs,hS,hv⟩) R (Ext.refl _ _ _ _) ⟨⟨[],rfl,List.nodup_nil,by simp⟩,fun x hx=>(by cases hx),Nat.le_refl _⟩
 refine wpIn_mono hw fun e a' w' hq=>body_ok (Nat.le_refl _) (Nat.le_refl _) hq (fun i st h=>h) ?_
 intro e st G S' w' hr R' _
 have fin0:∀(st:St) (G:Gh) (S':Addr→Prop),retOk E fn.results.toList st p→Rel E w.heap.size S w st G S' w' a'.tmps →
   ∃v,(results fn a'.tmps).run E.P w'=.ok v w'∧∃v',Ending.returned v=.returned v'∧Below w.heap.size w w'∧RV (Snew S w w') w' p v':=by
  intro st G S' hr R'
  obtain ⟨v,h1,h2⟩:=results_ok hE R' hr
  refine ⟨v,h1,v,rfl,R'.below,RV.mono (fun a ha=>?_) (fun _ _=>Still.refl _ _) h2⟩
  rcases R'.inv.s0 a ha with h | h
  ·exact .inl h
  ·exact .inr ⟨h,R'.inv.slt a ha⟩
 have hr':retFz E fn.results.toList st p:=by cases e<;>first | exact hr | exact hr.elim
 unfold retFz at hr'
 split at hr'
 ·exact fin0 st G S' hr' R'
 ·obtain ⟨st',hF,hr'⟩:=hr'
  obtain ⟨S2,R2,_,_,_⟩:=hF.ok (vs:=[]) R' (fun i s v h=>by simp at h)
  exact fin0 st' G S2 hr' R2
def resSV (E:Env) (rs:List ResultVar) (st:St) (r:SV):Prop:=(∃p,r=.val p∧retOk E rs st p)∨(∃t,rs=[.tmp t]∧r=st.sl.getD t .undef) ∨
 ∃t id q rs' l s,rs=.tmp t::q::rs'∧st.sl.getD t .undef=.mp id∧resPV E st (q::rs')=some (s,l)∧s∧r=.mtup id l
def retR (E:Env) (nb:Nat × Nat) (rs:List ResultVar) (st:St) (Q:SV→List (Option (List SV))→List (Nat × TypeId)→Ax→Prop):Prop :=
 ∃st' r,Wk nb st st'∧resSV E rs st' r∧Q r st'.bx st'.tk st'.ax
theorem callsR_of (hE:EnvOk E) {f:FuncId} {fn:Func} {c:Code} (hf:E.P.funcs[f]?=some fn) (hb:fn.body=some c) (he:Enters E.P f) {svs:List SV} {bx:List (Option (List SV))} {tk:List (Nat × TypeId)} {ax:Ax} {Q:SV→List (Option (List SV))→List (Nat × TypeId)→Ax→Prop}
  (hnt:(bx.length,ax.mp.length)=(0,0)→tk=[])
  (h:wpC E c (bx.length,ax.mp.length) ⟨svs++List.replicate (fn.ntmps - svs.length) .undef,bx,tk,ax⟩ fun e st=>match e with | .exit _=>False | _=>retR E (bx.length,ax.mp.length) fn.results.toList st Q):CallsR E f svs bx tk ax Q:=by
 refine ⟨he,fun B S0 w0 G S w vs hI hbel hl hv=>?_⟩
 rw [←callsIn_wide (n:=0)]
 refine callsIn_of_wp_marks hf hb trivial ?_ rfl
 obtain ⟨q1,q2⟩:=args_rel (fn.ntmps - svs.length) hl hv
 have R:Rel E B S0 w0 ⟨svs++List.replicate (fn.ntmps - svs.length) .undef,bx,tk,ax⟩ G S w (vs.toArray++Array.replicate (fn.ntmps - svs.length) undef):=⟨hI,hbel,q1,q2⟩
 have hlen:vs.toArray.size=svs.length:=by simp [hl]
 rw [hlen]
 have hw:=wpC_ok hE c (bx.length,ax.mp.length) w.heap.size none 0 B S0 w0 [] tk G S w (Nat.le_of_eq hI.lbx) ⟨Nat.le_of_eq hI.lmp,hnt⟩ _ _ G S w _ [] h R (Ext.refl _ _ _ _) ⟨⟨[],rfl,List.nodup_nil,by simp⟩,fun x hx=>(by cases hx),Nat.le_refl _⟩
 refine wpIn_mono hw fun e a' w' hq=>body_ok hI.base (Nat.le_refl _) hq (fun i st h=>h) ?_
 intro e st G2 S' w' hr R' X'
 have hr':retR E (bx.length,ax.mp.length) fn.results.toList st Q:=by cases e<;>first | exact hr | exact hr.elim
 obtain ⟨st',rv,hwk,hres,hQ⟩:=hr'
 obtain ⟨G3,R3,X3,_⟩:=R'.wk (Nat.le_of_eq hI.lbx) ⟨Nat.le_of_eq hI.lmp,hnt⟩ hwk X'
 rcases hres with ⟨p,rfl,hr'⟩ | ⟨t,hrs,rfl⟩ | ⟨t,id,q,rs',l,s,hrs,hid,hl,hs,rfl⟩
 ·obtain ⟨v,h1,h2⟩:=results_ok hE R3 hr'
  exact ⟨v,h1,v,_,st'.bx,st'.tk,st'.ax,G3,S',hQ,rfl,R3.inv,R3.below,X3,h2⟩
 ·refine ⟨a'.tmps.getD t undef,?_,_,_,st'.bx,st'.tk,st'.ax,G3,S',hQ,rfl,R3.inv,R3.below,X3,rsv_getD R3 t⟩
  rw [results_eq,←Array.toArray_toList (xs:=fn.results),List.mapM_toArray,hrs]
  simp [resRun]
 ·obtain ⟨vs,h1,h2⟩:=resRun_ok hE R3 _ s l hl hs
  have hv:=rsv_getD R3 t
  rw [hid] at hv
  obtain ⟨b,hb,hvb⟩:=hv
  have hl1:vs.length=rs'.length+1:=by
   rw [←h2.1,resPV_len _ _ _ hl]
   rfl
  refine ⟨.tuple (a'.tmps.getD t undef::vs).toArray,?_,_,_,st'.bx,st'.tk,st'.ax,G3,S',hQ,rfl,R3.inv,R3.below,X3,b,vs,hb,by rw [hvb],h2⟩
  rw [results_eq,←Array.toArray_toList (xs:=fn.results),List.mapM_toArray,hrs]
  have h3:(List.mapM (resRun a'.tmps) (ResultVar.tmp t::q::rs')).run E.P w'=.ok (a'.tmps.getD t undef::vs) w':=by
   rw [List.mapM_cons,Sem.run_bind]
   simp only [resRun,Sem.run_pure,Result.andThen_ok,Sem.run_bind,h1]
  rw [Sem.run_bind,Sem.run_map,h3]
  have hl2:¬(a'.tmps.getD t undef::vs).toArray.size=1:=by simp [hl1]
  simp only [Result.andThen_ok,hl2,dite_false,Sem.run_pure]
theorem seqG_of {P:Program} {T:TypeId→TD} {clo:FuncId→Bool} {rows:Bool} (hE:EnvOk ⟨P,T,clo,rows,.none⟩) {f:FuncId} {fn:Func} {c:Code} (hf:P.funcs[f]?=some fn) (hb:fn.body=some c) (he:Enters P f) (hr:fn.results=#[]) {caps:List PV} {xs:List (List PV)} {an:Bool}
  (h:∀Y:YS,Y.ys=xs→Y.any=an→YOk P Y→Real caps→wpC ⟨P,T,clo,rows,Y⟩ c (0,0) ⟨(PV.yld Y.l::caps).map .val++List.replicate (fn.ntmps - (caps.length+1)) .undef,[],[],⟨[],0⟩⟩ fun e st=>match e with | .exit _=>False | _=>finOf an xs st.ax.yk∨st.ax.yk=outOf an xs):SeqG P f caps xs an:=by
 refine ⟨he,fun Y r n F S w vs hY hYa hYok hJ hF hS hv=>?_⟩
 have hE':EnvOk ⟨P,T,clo,rows,Y⟩:=⟨hE.td,hE.mixed,hYok⟩
 show CallsIn (Fence.wide) n P f _ w _
 refine callsIn_of_wp_marks hf hb trivial ?_ rfl
 have hv':RVs S w (PV.yld Y.l::caps) (.func (.yield Y.l) #[] #[]::vs):=RVs.cons (.yld _) hv
 have R:=Rel.startY (E:=⟨P,T,clo,rows,Y⟩) F S w (PV.yld Y.l::caps) _ (fn.ntmps - (caps.length+1)) hF hS hv' hJ
 have hlen:(#[Value.func (.yield Y.l) #[] #[]]++vs.toArray).size=caps.length+1:=by simp [hv.1,Nat.add_comm]
 have harr:#[Value.func (.yield Y.l) #[] #[]]++vs.toArray=(Value.func (.yield Y.l) #[] #[]::vs).toArray:=by simp
 rw [hlen,harr]
 have hw:=wpC_ok hE' c (0,0) w.heap.size none n 0 S w [] _ _ S w (by simp) ⟨by simp,fun _=>rfl⟩ _ _ _ S w _ [] (h Y hY hYa hYok ⟨S,w,vs,hS,hv⟩) R (Ext.refl _ _ _ _) ⟨⟨[],rfl,List.nodup_nil,by simp⟩,fun x hx=>(by cases hx),Nat.le_refl _⟩
 refine wpIn_mono hw fun e a' w' hq=>body_ok (Nat.zero_le _) (Nat.le_refl _) hq (fun i st h=>h) ?_
 intro e st G S' w' hr' R' X'
 have hr2:finOf an xs st.ax.yk∨st.ax.yk=outOf an xs:=by cases e<;>first | exact hr' | exact hr'.elim
 refine ⟨.tuple #[],by rw [results_eq,hr];simp,.tuple #[],st.ax.yk,G.fp,S',rfl,hr2,R'.inv.yl.1,X'.calm⟩
end
end Go.Abs
