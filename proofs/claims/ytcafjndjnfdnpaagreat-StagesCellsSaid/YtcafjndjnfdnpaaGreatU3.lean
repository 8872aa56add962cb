/- Contracts of the functions, and what they rest on: part 3. -/
import Derived.Test.YtcafjndjnfdnpaaGreatU2
set_option linter.unusedVariables false
set_option linter.unusedSimpArgs false

/-
 The abstract walk is sound: the sixth part: stores,append,closures.
-/
namespace Go.Abs
open Go.RowKit
section
variable {E:Env} {B:Nat} {S0:Addr→Prop} {w0:World} {st:St} {G:Gh} {S:Addr→Prop} {w:World} {tmps:Array Value}
theorem getD_some {bx:List (Option (List SV))} {id:Nat} {cs:List SV} (h:bx.getD id none=some cs):bx[id]?=some (some cs):=by
 rw [List.getD_eq_getElem?_getD] at h
 cases hq:bx[id]? with
 | none=>simp [hq] at h
 | some x=>simp [hq] at h;rw [h]
theorem Kept.row {b b':Nat} {arr arr':Array Value} {t:TypeId} {m:Nat × Nat} (hh:w.heap[b]?=some (.cells arr t m)):Kept w (w.setRow b arr') b':=fun o ho h=>by
 rcases Decidable.em (b'=b) with rfl | hne
 ·rw [hh] at h;cases h;cases ho
 ·exact (setRow_other w b b' arr' hne).trans h
theorem noMap {b:Nat} {arr:Array Value} {t:TypeId} {m:Nat × Nat} (hh:w.heap[b]?=some (.cells arr t m)):∀o,mapLike o=true→w.heap[b]?≠some o:=fun o ho h=>by
 rw [hh] at h;cases h;cases ho
theorem Rel.setBox (R:Rel E B S0 w0 st G S w tmps) {id b:Nat} {t:TypeId} {arr arr':Array Value} {cs cs':List SV} (hb:G.bx[id]?=some b) (hc:st.bx[id]?=some (some cs)) (hh:w.heap[b]?=some (.cells arr t (0,0)))
  (hl:arr'.size=cs'.length) (hr:∀(j:Nat) (c:SV) (v:Value),cs'[j]?=some c→arr'[j]?=some v→RSV st.tk G S w c v∧v.oneCell'=true) :
  Rel E B S0 w0 (st.setBx id (some cs')) G S (w.setRow b arr') tmps∧Ext st.tk G S w st.tk G S (w.setRow b arr'):=by
 have hI:=R.inv
 have hSb:∀a,S a→a.block≠b:=(hI.box id b cs hc hb).2
 have hE:Ext st.tk G S w st.tk G S (w.setRow b arr'):=⟨fun _ _ h=>h,fun _ hv le h1 h2=>⟨hv,le,h1,h2,.inl ⟨rfl,rfl⟩⟩,fun _ h=>h,fun a ha=>Still.of_block (setRow_other w b a.block arr' (hSb a ha)),fun _ _ h=>h,⟨rfl,rfl,rfl,by simp,fun k hk=>absurd hk (Nat.not_lt_zero _),Nat.le_refl _⟩,fun b' _ hf=>setRow_other w b b' arr' (fun e=>hf (.inl ⟨id,by rw [e];exact hb⟩)),fun _ _ h=>h,fun _ h=>.inl h⟩
 have hBb:=(hI.old id b hb).1
 have hid:id<st.bx.length:=(List.getElem?_eq_some_iff.1 hc).1
 refine ⟨⟨⟨by simpa using hI.base,hI.s0,fun a ha=>by simpa using hI.slt a ha,by simp [St.setBx,hI.lbx],hI.ltk,fun i b' h=>by simpa using hI.old i b' h,hI.dist,?_,?_,hI.apart,hI.lmp,hI.dmp,fun i b' h=>by simpa using hI.mpo i b' h,fun i b' c h1 h2=>(hI.mpk i b' c h1 h2).mono (Kept.row hh) (fun m bm h=>⟨h,Kept.row hh⟩) (fun _ h=>h) hE.cell (fun _ h=>.inl h),fun b' h=>by simpa using hI.flt b' h,hI.fbx,hI.ftk,hI.fmp,
  ⟨E.Y.ok _ _ _ _ _ _ hI.yl.1 ⟨hE.calm,fun b' h=>setRow_other w b b' arr' (fun e=>hI.fbx id b' (by rw [e];exact hb) h),fun _ h=>h,hE.cell,fun _ h=>.inl h,fun a ha=>by simpa using hI.slt a ha⟩,hI.yl.2⟩⟩,?_,R.len,fun t s v a1 a2=>RSV.mono hE (R.sl t s v a1 a2)⟩,hE⟩
 ·intro id' b' cs'' h1 h2
  simp only [St.setBx,List.getElem?_set] at h1
  split at h1
  ·rename_i he
   subst he
   simp only [Option.some.injEq] at h1
   subst h1
   rw [hb] at h2
   cases h2
   exact ⟨⟨t,arr',setRow_heap w b arr arr' t _ hh,hl,fun j c v a1 a2=>⟨RSV.mono hE (hr j c v a1 a2).1,(hr j c v a1 a2).2⟩⟩,hSb⟩
  ·rename_i hne
   have hbb:b'≠b:=fun e=>hne (hI.dist id id' b hb (by rw [←e];exact h2))
   obtain ⟨⟨t',a',k1,k2,k3⟩,k4⟩:=hI.box id' b' cs'' h1 h2
   exact ⟨⟨t',a',by rw [setRow_other w b b' arr' hbb];exact k1,k2,fun j c v a1 a2=>⟨RSV.mono hE (k3 j c v a1 a2).1,(k3 j c v a1 a2).2⟩⟩,k4⟩
 ·intro t' n e hv h1 h2
  obtain ⟨a,cap,k1,k2,k3,k4⟩:=hI.tok t' n e hv h1 h2
  refine ⟨a,cap,k1,k2,k3,fun hlt=>?_⟩
  obtain ⟨g,cur,c1,c2,c3,c4,c5,c6⟩:=k4 hlt
  have hgb:g≠b:=fun e=>c6 id (by rw [e];exact hb)
  exact ⟨g,cur,c1,c2,by rw [setRow_other w b g arr' hgb];exact c3,c4,c5,c6⟩
 ·exact R.below.trans ⟨rfl,rfl,rfl,by simp,fun k hk=>setRow_other w b k arr' (by omega),Nat.le_refl _⟩
theorem storable {v:Value} (h:v.oneCell'=true):v.cells=#[v]:=by cases v<;>simp_all [Value.cells,Value.oneCell']
theorem ok_store (hE:EnvOk E) (R:Rel E B S0 w0 st G S w tmps) {t:TypeId} {x y:SV} {vx vy:Value} (hx:RSV st.tk G S w x vx) (hy:RSV st.tk G S w y vy) :
  OpOk E B S0 w0 (opStore E t x y st) G S w st.tk tmps (do Instr.storeAt t vx vy;pure .skip):=by
 intro r' hr hside
 unfold opStore at hr
 split at hr
 ·rename_i id off
  obtain ⟨b,hb,rfl⟩:=hx
  split at hr
  ·rename_i cs hcs
   have hcs':=getD_some hcs
   obtain ⟨ty,arr,hh,hl,hrr,hcell,_⟩:=R.inv.read hb hcs
   split at hr
   ·rename_i hag
    split at hr
    ·rename_i l
     split at hr
     ·rename_i hl1
      cases hr
      have hside':off+l.length≤cs.length:=hside
      obtain ⟨vs,rfl,hvs⟩:=RV.agg_iff hy
      obtain ⟨i,z,u,hi,hsz,_⟩:=(hE.td t).info (.inr hag)
      have hvl:vs.length=l.length:=hvs.1.symm
      have hone:∀v∈vs,v.oneCell'=true:=fun v hv=>by
       obtain ⟨k,hk⟩:=List.mem_iff_getElem?.1 hv
       have hk':k<l.length:=by rw [hvs.1];exact (List.getElem?_eq_some_iff.1 hk).1
       exact RV.of_one (hvs.2 k _ v (List.getElem?_eq_getElem hk') hk) (List.all_eq_true.1 hl1.2 _ (List.getElem_mem hk'))
      have hst:=run_storeCells_at E.P b off ty vs 0 arr w hh (by omega) hone
      simp only [Nat.add_zero] at hst
      obtain ⟨R1,X1⟩:=R.setBox hb hcs' hh (arr':=(arr.toList.take off++vs++arr.toList.drop (off+vs.length)).toArray) (cs':=cs.take off++(l.map SV.val++cs.drop (off+l.length)))
       (by simp [hl,hvl]) (fun j c v a1 a2=>by
        simp only [List.append_assoc,List.getElem?_toArray] at a2
        rcases Nat.lt_trichotomy j off with hj | hj | hj
        ·rw [List.getElem?_append_left (by simp;omega),List.getElem?_take,if_pos hj] at a1 a2
         exact hrr j c v a1 (by simpa using a2)
        all_goals
         have ht:(cs.take off).length=off:=by simp;omega
         have ht':(arr.toList.take off).length=off:=by simp;omega
         rw [List.getElem?_append_right (by omega),ht] at a1
         rw [List.getElem?_append_right (by omega),ht'] at a2
         by_cases hj2:j - off<l.length
         ·rw [List.getElem?_append_left (by simpa using hj2),List.getElem?_map,List.getElem?_eq_getElem hj2] at a1
          rw [List.getElem?_append_left (by omega)] at a2
          simp only [Option.map_some,Option.some.injEq] at a1
          subst a1
          exact ⟨hvs.2 _ _ v (List.getElem?_eq_getElem hj2) a2,hone v (List.mem_of_getElem? a2)⟩
         ·rw [List.getElem?_append_right (by simp;omega),List.getElem?_drop] at a1
          rw [List.getElem?_append_right (by omega),List.getElem?_drop] at a2
          refine hrr _ c v a1 ?_
          rw [←Array.getElem?_toList,←a2]
          congr 1
          simp
          omega)
      refine ⟨_,undef,_,?_,.inr ⟨rfl,rfl⟩,G,S,R1,rfl,X1⟩
      have hn:¬(Value.agg vs.toArray).cells.size≠i.size:=by simp [Value.cells,hvl,hl1.1,hsz]
      have hcl:(Value.agg vs.toArray).cells.toList=vs:=rfl
      simp only [Instr.storeAt,Instr.sureAddr,storeVar,Sem.run_bind,Sem.run_pure,Result.andThen_ok,run_sizeOf' hi,if_neg hn,Sem.run_ite,hcl,hst]
     ·cases hr
    ·cases hr
   ·split at hr
    ·rename_i h1
     cases hr
     have hside':off<cs.length:=hside
     have hone:=RSV.of_one hy h1.1
     obtain ⟨i,z,u,hi,hsz,_⟩:=(hE.td t).info (.inl (by omega))
     have hst:=run_storeCells_at E.P b off ty [vy] 0 arr w hh (by simp;omega) (by simpa using hone)
     simp only [Nat.add_zero] at hst
     obtain ⟨R1,X1⟩:=R.setBox hb hcs' hh (arr':=(arr.toList.take off++[vy]++arr.toList.drop (off+[vy].length)).toArray) (cs':=cs.set off y)
      (by simp [hl];omega) (fun j c v a1 a2=>by
       simp only [List.append_assoc,List.getElem?_toArray] at a2
       rw [List.getElem?_set] at a1
       have ht':(arr.toList.take off).length=off:=by simp;omega
       split at a1
       ·rename_i he
        subst he
        rw [List.getElem?_append_right (by omega),ht'] at a2
        simp only [Nat.sub_self,List.cons_append,List.getElem?_cons_zero,Option.some.injEq] at a2
        cases a1
        subst a2
        exact ⟨hy,hone⟩
       ·rename_i hne
        rcases Nat.lt_or_ge j off with hj | hj
        ·rw [List.getElem?_append_left (by omega),List.getElem?_take,if_pos hj] at a2
         exact hrr j c v a1 (by simpa using a2)
        ·rw [List.getElem?_append_right (by omega),ht',List.getElem?_append_right (by simp;omega),List.getElem?_drop] at a2
         refine hrr j c v a1 ?_
         rw [←Array.getElem?_toList,←a2]
         congr 1
         simp
         omega)
     refine ⟨_,undef,_,?_,.inr ⟨rfl,rfl⟩,G,S,R1,rfl,X1⟩
     have hn:¬vy.cells.size≠i.size:=by rw [storable hone,hsz,h1.2];simp
     have hcl:vy.cells.toList=[vy]:=by rw [storable hone]
     simp only [Instr.storeAt,Instr.sureAddr,storeVar,Sem.run_bind,Sem.run_pure,Result.andThen_ok,run_sizeOf' hi,if_neg hn,Sem.run_ite,hcl,hst]
    ·cases hr
  ·cases hr
 ·cases hr
theorem capPVs_get:∀{cs:List Cap} {ps:List PV},capPVs cs=some ps→ps.length=cs.length∧∀(i:Nat) (p:PV),ps[i]?=some p→cs[i]?=some (.pv p)
 | [],ps,h=>by simp only [capPVs,Option.some.injEq] at h;subst h;exact ⟨rfl,fun i p h=>by simp at h⟩
 | .box a b::r,ps,h=>by simp [capPVs] at h
 | .pv p::r,ps,h=>by
  simp only [capPVs] at h
  cases hq:capPVs r with
  | none=>simp [hq] at h
  | some q =>
   simp only [hq,Option.map_some,Option.some.injEq] at h
   subst h
   obtain ⟨a,b⟩:=capPVs_get hq
   refine ⟨by simp [a],fun i x hx=>?_⟩
   cases i with
   | zero=>simp at hx;subst hx;rfl
   | succ i=>simpa using b i x (by simpa using hx)
theorem Rel.seal_ (R:Rel E B S0 w0 st G S w tmps) {id b:Nat} {cs:List SV} {ps:List PV} (hb:G.bx[id]?=some b) (hc:st.bx.getD id none=some cs) (hp:pvsOf cs=some ps) :
  Rel E B S0 w0 (st.sealBx id ps) G (fun a=>S a∨a.block=b) w tmps∧Ext st.tk G S w st.tk G (fun a=>S a∨a.block=b) w ∧
   (∀off,RV (fun a=>S a∨a.block=b) w (.ptr ps off) (.pointer (some ⟨b,off,none⟩))) ∧
   ∀(s:SV) (v:Value),RSV st.tk G S w s v→RSV st.tk G (fun a=>S a∨a.block=b) w (sealSV id ps s) v:=by
 have hI:=R.inv
 obtain ⟨ty,arr,hh,hl,hrr,hcell,hSb⟩:=hI.read hb hc
 have hE:Ext st.tk G S w st.tk G (fun a=>S a∨a.block=b) w:=⟨fun _ _ h=>h,fun _ hv le h1 h2=>⟨hv,le,h1,h2,.inl ⟨rfl,rfl⟩⟩,fun _ h=>.inl h,fun _ _=>Still.refl _ _,fun _ _ h=>h,Below.refl _ _,fun _ _ _=>rfl,fun _ _ h=>h,fun a ha=>ha.imp (fun h=>h) fun h=>.inl (.inl ⟨id,by rw [h];exact hb⟩)⟩
 have hold:=hI.old id b hb
 have hptr:∀off,RV (fun a=>S a∨a.block=b) w (.ptr ps off) (.pointer (some ⟨b,off,none⟩)):=by
  intro off
  have hlen:=pvsOf_length hp
  have:=RV.ptr (S:=fun a=>S a∨a.block=b) (w:=w) ps off ⟨b,0,none⟩ (fun j=>arr.getD j undef) (fun j c hj=>by
   obtain ⟨s,hs,hsp⟩:=pvsOf_get hp j c hj
   have hj':j<arr.size:=by rw [hl];exact (List.getElem?_eq_some_iff.1 hs).1
   have hv:arr[j]?=some (arr.getD j undef):=by simp [Array.getD,hj']
   rw [addr_box,Nat.zero_add,hcell]
   exact ⟨.inr rfl,hv,(hrr j s _ hs hv).2⟩) (fun j c hj=>by
   obtain ⟨s,hs,hsp⟩:=pvsOf_get hp j c hj
   have hj':j<arr.size:=by rw [hl];exact (List.getElem?_eq_some_iff.1 hs).1
   have hv:arr[j]?=some (arr.getD j undef):=by simp [Array.getD,hj']
   exact RSV.pv (RSV.mono hE (hrr j s _ hs hv).1) hsp)
  rw [addr_box,Nat.zero_add] at this
  exact this
 have hseal:∀(s:SV) (v:Value),RSV st.tk G S w s v→RSV st.tk G (fun a=>S a∨a.block=b) w (sealSV id ps s) v:=by
  intro s v hs
  have h0:=RSV.mono hE hs
  cases s with
  | box i o =>
   simp only [sealSV]
   split
   ·rename_i hi
    subst hi
    obtain ⟨b',hb',rfl⟩:=h0
    rw [hb] at hb'
    cases hb'
    exact hptr o
   ·exact h0
  | clo f caps =>
   obtain ⟨vs,rfl,hl2,hv⟩:=h0
   have hc2:∀(i:Nat) (c:Cap) (u:Value),(caps.map (sealCap id ps))[i]?=some c→vs[i]?=some u→RCap G (fun a=>S a∨a.block=b) w c u:=by
    intro i c u h1 h2
    rw [List.getElem?_map] at h1
    cases hq:caps[i]? with
    | none=>rw [hq] at h1;cases h1
    | some c0 =>
     rw [hq] at h1
     simp only [Option.map_some,Option.some.injEq] at h1
     have hcu:=hv i c0 u hq h2
     cases c0 with
     | pv p=>subst h1;exact hcu
     | box j o =>
      simp only [sealCap] at h1
      split at h1
      ·rename_i hj
       subst hj
       subst h1
       obtain ⟨b',hb',rfl⟩:=hcu
       rw [hb] at hb'
       cases hb'
       exact hptr o
      ·subst h1;exact hcu
   simp only [sealSV]
   split
   ·rename_i qs hq
    obtain ⟨a1,a2⟩:=capPVs_get hq
    refine RV.fn f qs vs (by rw [a1];simp [hl2]) fun i c u h1 h2=>?_
    exact hc2 i _ u (a2 i c h1) h2
   ·exact ⟨vs,rfl,by simp [hl2],hc2⟩
  | _=>exact h0
 refine ⟨⟨⟨hI.base,fun a ha=>?_,fun a ha=>?_,by simp [St.sealBx,hI.lbx],hI.ltk,hI.old,hI.dist,?_,?_,hI.apart,hI.lmp,hI.dmp,hI.mpo,fun i b' c h1 h2=>(hI.mpk i b' c h1 h2).mono (Kept.refl _ _) (fun m bm h=>⟨h,Kept.refl _ _⟩) (fun _ h=>.inl h) (fun _ _=>Still.refl _ _) (fun a ha=>ha.imp (fun h=>h) fun h=>by rcases Decidable.em (b'=b) with rfl | hne;exact .inr (noMap hh);exact .inl fun e=>hne (e.symm.trans h)),hI.flt,hI.fbx,hI.ftk,hI.fmp,
  ⟨E.Y.ok _ _ _ _ _ _ hI.yl.1 ⟨Below.refl _ _,fun _ _=>rfl,fun _ h=>.inl h,fun _ _=>Still.refl _ _,fun a ha=>ha.imp (fun h=>h) fun h hf=>hI.fbx id b hb (by rw [←h];exact hf),fun a ha=>ha.elim (hI.slt a) (fun h=>by omega)⟩,hI.yl.2⟩⟩,R.below,by simp [St.sealBx,R.len],?_⟩,hE,hptr,hseal⟩
 ·rcases ha with ha | ha
  ·exact hI.s0 a ha
  ·exact .inr (by omega)
 ·rcases ha with ha | ha
  ·exact hI.slt a ha
  ·omega
 ·intro id' b' cs'' h1 h2
  simp only [St.sealBx,List.getElem?_set] at h1
  split at h1
  ·split at h1
   ·cases h1
   ·cases h1
  ·rename_i hne
   have hbb:b'≠b:=fun e=>hne (hI.dist id id' b hb (by rw [←e];exact h2))
   obtain ⟨⟨t',a',k1,k2,k3⟩,k4⟩:=hI.box id' b' cs'' h1 h2
   refine ⟨⟨t',a',k1,k2,fun j c v a1 a2=>⟨RSV.mono hE (k3 j c v a1 a2).1,(k3 j c v a1 a2).2⟩⟩,fun a ha=>?_⟩
   rcases ha with ha | ha
   ·exact k4 a ha
   ·omega
 ·intro t' n e hv h1 h2
  obtain ⟨a,cap,k1,k2,k3,k4⟩:=hI.tok t' n e hv h1 h2
  refine ⟨a,cap,k1,k2,k3,fun hlt=>?_⟩
  obtain ⟨g,cur,c1,c2,c3,c4,c5,c6⟩:=k4 hlt
  refine ⟨g,cur,c1,c2,c3,c4,fun a ha hab=>?_,c6⟩
  rcases ha with ha | ha
  ·exact c5 a ha hab
  ·exact absurd (by rw [←hab,ha];exact hb) (c6 id)
 ·intro t s v h1 h2
  simp only [St.sealBx,List.getElem?_map] at h1
  cases hq:st.sl[t]? with
  | none=>rw [hq] at h1;cases h1
  | some s0 =>
   rw [hq] at h1
   simp only [Option.map_some,Option.some.injEq] at h1
   subst h1
   exact hseal s0 v (R.sl t s0 v hq h2)
theorem opCaps_ok:∀(l:List SV) (vs:List Value) (st st':St) (ps:List PV) (S:Addr→Prop),Rel E B S0 w0 st G S w tmps→l.length=vs.length →
  (∀(i:Nat) (s:SV) (v:Value),l[i]?=some s→vs[i]?=some v→RSV st.tk G S w s v)→opCaps st l=some (ps,st') →
  ∃S',Rel E B S0 w0 st' G S' w tmps∧Ext st.tk G S w st'.tk G S' w∧RVs S' w ps vs
 | [],[],st,st',ps,S,R,_,_,h=>by
  simp only [opCaps,Option.some.injEq,Prod.mk.injEq] at h
  obtain ⟨rfl,rfl⟩:=h
  exact ⟨S,R,Ext.refl _ _ _ _,RVs.nil⟩
 | [],_::_,_,_,_,_,_,hl,_,_=>by simp at hl
 | _::_,[],_,_,_,_,_,hl,_,_=>by simp at hl
 | s::l,v::vs,st,st',ps,S,R,hl,hr,h=>by
  have hs:=hr 0 s v rfl rfl
  have hr':∀(i:Nat) (s:SV) (v:Value),l[i]?=some s→vs[i]?=some v→RSV st.tk G S w s v:=fun i s v a b=>hr (i+1) s v (by simpa using a) (by simpa using b)
  have hl':l.length=vs.length:=by simpa using hl
  cases s with
  | undef=>simp [opCaps] at h
  | own t m xs=>simp [opCaps] at h
  | msl id off len=>simp [opCaps] at h
  | it id=>simp [opCaps] at h
  | mtup id ps=>simp [opCaps] at h
  | clo f caps=>simp [opCaps] at h
  | rbx a b c d e=>simp [opCaps] at h
  | mp a=>simp [opCaps] at h
  | row a b c d e=>simp [opCaps] at h
  | val p =>
   simp only [opCaps] at h
   cases hq:opCaps st l with
   | none=>simp [hq] at h
   | some q =>
    obtain ⟨qs,st1⟩:=q
    simp only [hq,Option.map_some,Option.some.injEq,Prod.mk.injEq] at h
    obtain ⟨rfl,rfl⟩:=h
    obtain ⟨S',R',X',V'⟩:=opCaps_ok l vs st st1 qs S R hl' hr' hq
    exact ⟨S',R',X',RVs.cons (RSV.mono X' hs) V'⟩
  | lit m xs =>
   simp only [opCaps] at h
   cases hq:opCaps st l with
   | none=>simp [hq] at h
   | some q =>
    obtain ⟨qs,st1⟩:=q
    simp only [hq,Option.map_some,Option.some.injEq,Prod.mk.injEq] at h
    obtain ⟨rfl,rfl⟩:=h
    obtain ⟨S',R',X',V'⟩:=opCaps_ok l vs st st1 qs S R hl' hr' hq
    exact ⟨S',R',X',RVs.cons (RSV.pv (RSV.mono X' hs) rfl) V'⟩
  | box id off =>
   simp only [opCaps] at h
   cases hq:opCaps st l with
   | none=>simp [hq] at h
   | some q =>
    obtain ⟨qs,st1⟩:=q
    simp only [hq] at h
    obtain ⟨S',R',X',V'⟩:=opCaps_ok l vs st st1 qs S R hl' hr' hq
    split at h
    ·rename_i cs hcs
     split at h
     ·rename_i ps' hps
      simp only [Option.some.injEq,Prod.mk.injEq] at h
      obtain ⟨rfl,rfl⟩:=h
      obtain ⟨b,hb,rfl⟩:=hs
      obtain ⟨R2,X2,V2,_⟩:=R'.seal_ hb hcs hps
      exact ⟨_,R2,X'.trans X2,RVs.cons (V2 off) (V'.mono X2.sub X2.cell)⟩
     ·cases h
    ·cases h
theorem RV.ptr_iff {cs:List PV} {off:Nat} {v:Value} (h:RV S w (.ptr cs off) v):∃(ad:Addr) (g:Nat→Value),v=.pointer (some (ad.add off)) ∧
  (∀(j:Nat) (c:PV),cs[j]?=some c→S (ad.add j)∧w.cell? (ad.add j)=some (g j)∧(g j).oneCell'=true)∧(∀(j:Nat) (c:PV),cs[j]?=some c→RV S w c (g j)):=by
 cases h with
 | ptr _ _ ad g hc hr=>exact ⟨ad,g,rfl,hc,hr⟩
theorem pvs_vals:∀(ps:List PV),pvsOf (ps.map SV.val)=some ps
 | []=>rfl
 | p::r=>by simp [pvsOf,SV.pv,pvs_vals r]
theorem flat_get {m:Nat}:∀{xs:List PV},(∀x∈xs,x.cells.length=m)→∀(i:Nat) (x:PV) (j:Nat) (c:PV),xs[i]?=some x→x.cells[j]?=some c→(xs.flatMap PV.cells)[i*m+j]?=some c
 | [],_,i,x,j,c,h,_=>by simp at h
 | y::r,hm,i,x,j,c,h,hc=>by
  have hy:y.cells.length=m:=hm y List.mem_cons_self
  rw [List.flatMap_cons]
  cases i with
  | zero =>
   simp at h
   subst h
   rw [Nat.zero_mul,Nat.zero_add,List.getElem?_append_left (List.getElem?_eq_some_iff.1 hc).1]
   exact hc
  | succ i =>
   have e:(i+1)*m+j - y.cells.length=i*m+j:=by rw [hy,Nat.succ_mul];omega
   rw [List.getElem?_append_right (by rw [hy,Nat.succ_mul];omega),e]
   exact flat_get (fun x hx=>hm x (List.mem_cons_of_mem _ hx)) i x j c (by simpa using h) hc
theorem Rel.sealRow_ (R:Rel E B S0 w0 st G S w tmps) {id b m:Nat} {xs:List PV} (hb:G.bx[id]?=some b) (hc:st.bx.getD id none=some ((xs.flatMap PV.cells).map SV.val)) (hm:∀x∈xs,x.cells.length=m) (hm0:m≠0) :
  Rel E B S0 w0 (st.sealRow id m xs) G (fun a=>S a∨a.block=b) w tmps∧Ext st.tk G S w st.tk G (fun a=>S a∨a.block=b) w ∧
   ∀(s:SV) (v:Value),RSV st.tk G S w s v→RSV st.tk G (fun a=>S a∨a.block=b) w (rowSV id m xs s) v:=by
 obtain ⟨R1,X1,hptr,hseal⟩:=R.seal_ hb hc (pvs_vals _)
 have hslice:∀(b' len cap:Nat),G.bx[id]?=some b'→len≤cap→cap≤maxLen→len≤xs.length→RV (fun a=>S a∨a.block=b) w (.list m (xs.take len)) (.slice (some ⟨b',0,none⟩) len cap):=by
  intro b' len cap hb' h1 h2 hlen
  rw [hb] at hb'
  cases hb'
  have hp:=hptr 0
  obtain ⟨ad,g,he,hcc,hrr⟩:=RV.ptr_iff hp
  simp only [Value.pointer.injEq,Option.some.injEq] at he
  have hadd:∀k,ad.add k=(⟨b,0,none⟩:Addr).add k:=fun k=>by rw [he,Addr.add_add',Nat.zero_add]
  have hl:(xs.take len).length=len:=by simp;omega
  have htake:∀(i:Nat) (x:PV),(xs.take len)[i]?=some x→xs[i]?=some x:=fun i x h=>by
   rw [List.getElem?_take] at h
   split at h
   ·exact h
   ·cases h
  have:=RV.list (S:=fun a=>S a∨a.block=b) (w:=w) m (xs.take len) (some ⟨b,0,none⟩) ⟨b,0,none⟩ cap (fun i j=>g (i*m+j)) (fun _=>rfl) (by rw [hl];exact h1) h2
   (fun i x hx=>hm x (List.mem_of_getElem? (htake i x hx)))
   (fun i x j c hx hc=>by
    have h3:=flat_get hm i x j c (htake i x hx) hc
    rw [←hadd]
    exact hcc _ c h3)
   (fun i x j c hx hc=>hrr _ c (flat_get hm i x j c (htake i x hx) hc)) (fun h=>absurd h hm0)
  rw [hl] at this
  exact this
 have hrow:∀(s:SV) (v:Value),RSV st.tk G S w s v→RSV st.tk G (fun a=>S a∨a.block=b) w (rowSV id m xs s) v:=by
  intro s v hs
  cases s with
  | msl i off len =>
   simp only [rowSV]
   split
   ·rename_i hi
    obtain ⟨rfl,rfl,hlen⟩:=hi
    obtain ⟨b',cap,hb',rfl,h1,h2⟩:=hs
    exact hslice b' len cap hb' h1 h2 hlen
   ·exact RSV.mono X1 hs
  | undef=>exact hseal _ v hs
  | it i=>exact hseal _ v hs
  | mtup i ps=>exact hseal _ v hs
  | val p=>exact hseal _ v hs
  | lit m' xs'=>exact hseal _ v hs
  | own t m' xs'=>exact hseal _ v hs
  | box i o=>exact hseal _ v hs
  | clo f caps=>exact hseal _ v hs
  | rbx a b c d e=>exact hseal _ v hs
  | mp a=>exact hseal _ v hs
  | row i off m' len cap =>
   simp only [rowSV]
   split
   ·rename_i hi
    obtain ⟨rfl,rfl,rfl,hlen⟩:=hi
    obtain ⟨b',hb',rfl,h1,h2⟩:=hs
    exact hslice b' len cap hb' h1 h2 hlen
   ·exact RSV.mono X1 hs
 refine ⟨⟨R1.inv,R1.below,by simp [St.sealRow,R.len],fun t s v h1 h2=>?_⟩,X1,hrow⟩
 simp only [St.sealRow,List.getElem?_map] at h1
 cases hq:st.sl[t]? with
 | none=>rw [hq] at h1;cases h1
 | some s0 =>
  rw [hq] at h1
  simp only [Option.map_some,Option.some.injEq] at h1
  subst h1
  exact hrow s0 v (R.sl t s0 v hq h2)
theorem Rel.sealMp_ (R:Rel E B S0 w0 st G S w tmps) {id b:Nat} {es:List (PV × PV)} {mk:Option (PV × Int)} {ks vs:List PV} (hb:G.mp[id]?=some b) (hc:st.ax.mp[id]?=some (.ents es mk)) (hp:es.Perm (ks.zip vs)) (hl:ks.length=vs.length) :
  Rel E B S0 w0 (st.sealMp id ks vs) G (fun a=>S a∨a=⟨b,0,none⟩) w tmps∧Ext st.tk G S w st.tk G (fun a=>S a∨a=⟨b,0,none⟩) w ∧
   ∀(s:SV) (v:Value),RSV st.tk G S w s v→RSV st.tk G (fun a=>S a∨a=⟨b,0,none⟩) w (mapSV id ks vs s) v:=by
 have hI:=R.inv
 obtain ⟨⟨arr,clock,es0,h1,h2,h3,h4,_⟩,hSb⟩:=hI.mpk id b _ hc hb
 have hold:=hI.mpo id b hb
 have hE:Ext st.tk G S w st.tk G (fun a=>S a∨a=⟨b,0,none⟩) w:=⟨fun _ _ h=>h,fun _ hv le h1 h2=>⟨hv,le,h1,h2,.inl ⟨rfl,rfl⟩⟩,fun _ h=>.inl h,fun _ _=>Still.refl _ _,fun _ _ h=>h,Below.refl _ _,fun _ _ _=>rfl,fun _ _ h=>h,fun a ha=>ha.imp (fun h=>h) fun h=>.inl (.inr (.inr (.inl ⟨id,by rw [h];exact hb⟩)))⟩
 have hmap:RV (fun a=>S a∨a=⟨b,0,none⟩) w (.map ks vs) (.map (some b)):=RV.map ks vs es0 b arr clock (h2.trans hp) hl (.inr rfl) h1 h3 (fun i p x a1 a2=>(h4 i p x a1 a2).mono (fun _ h=>.inl h) (fun _ _=>Still.refl _ _))
 have hseal:∀(s:SV) (v:Value),RSV st.tk G S w s v→RSV st.tk G (fun a=>S a∨a=⟨b,0,none⟩) w (mapSV id ks vs s) v:=by
  intro s v hs
  have h0:=RSV.mono hE hs
  cases s with
  | mp i =>
   simp only [mapSV]
   split
   ·rename_i e
    subst e
    obtain ⟨b',hb',rfl⟩:=h0
    rw [hb] at hb'
    cases hb'
    exact hmap
   ·exact h0
  | _=>exact h0
 have hcell:∀{b':Nat} {arr':Array Value} {t:TypeId} {m:Nat × Nat},w.heap[b']?=some (.cells arr' t m)→b'≠b:=fun h e=>by rw [e,h1] at h;cases h
 refine ⟨⟨⟨hI.base,fun a ha=>?_,fun a ha=>?_,hI.lbx,hI.ltk,hI.old,hI.dist,?_,?_,hI.apart,by simp [St.sealMp,hI.lmp],hI.dmp,hI.mpo,fun i b' c k1 k2=>?_,hI.flt,hI.fbx,hI.ftk,hI.fmp,
  ⟨E.Y.ok _ _ _ _ _ _ hI.yl.1 ⟨Below.refl _ _,fun _ _=>rfl,fun _ h=>.inl h,fun _ _=>Still.refl _ _,fun a ha=>ha.imp (fun h=>h) fun h hf=>hI.fmp id b hb (by rw [h] at hf;exact hf),fun a ha=>ha.elim (hI.slt a) (fun h=>by rw [h];exact hold.2)⟩,hI.yl.2⟩⟩,R.below,by simp [St.sealMp,R.len],?_⟩,hE,hseal⟩
 ·rcases ha with ha | ha
  ·exact hI.s0 a ha
  ·exact .inr (by rw [ha];exact hold.1)
 ·rcases ha with ha | ha
  ·exact hI.slt a ha
  ·rw [ha];exact hold.2
 ·intro id' b' cs'' k1 k2
  obtain ⟨⟨t',a',q1,q2,q3⟩,q4⟩:=hI.box id' b' cs'' k1 k2
  refine ⟨⟨t',a',q1,q2,fun j c v a1 a2=>⟨RSV.mono hE (q3 j c v a1 a2).1,(q3 j c v a1 a2).2⟩⟩,fun a ha=>?_⟩
  rcases ha with ha | ha
  ·exact q4 a ha
  ·rw [ha];exact fun e=>hcell q1 e.symm
 ·intro t' n e hv k1 k2
  obtain ⟨a,cap,q1,q2,q3,q4⟩:=hI.tok t' n e hv k1 k2
  refine ⟨a,cap,q1,q2,q3,fun hlt=>?_⟩
  obtain ⟨g,cur,c1,c2,c3,c4,c5,c6⟩:=q4 hlt
  refine ⟨g,cur,c1,c2,c3,c4,fun a ha hab=>?_,c6⟩
  rcases ha with ha | ha
  ·exact c5 a ha hab
  ·rw [ha] at hab;exact absurd hab.symm (hcell c3)
 ·simp only [St.sealMp,List.getElem?_set] at k1
  split at k1
  ·split at k1
   ·cases k1;trivial
   ·cases k1
  ·rename_i hne
   have hbb:b'≠b:=fun e=>hne (hI.dmp id i b hb (by rw [←e];exact k2))
   exact (hI.mpk i b' c k1 k2).mono (Kept.refl _ _) (fun m bm h=>⟨h,Kept.refl _ _⟩) (fun _ h=>.inl h) (fun _ _=>Still.refl _ _) (fun a ha=>ha.imp (fun h=>h) fun h=>.inl (by rw [h];exact fun e=>hbb e.symm))
 ·intro t s v k1 k2
  simp only [St.sealMp,List.getElem?_map] at k1
  cases hq:st.sl[t]? with
  | none=>rw [hq] at k1;cases k1
  | some s0 =>
   rw [hq] at k1
   simp only [Option.map_some,Option.some.injEq] at k1
   subst k1
   exact hseal s0 v (R.sl t s0 v hq k2)
theorem Frz.ok {st st':St} {l l':List SV} (h:Frz st l st' l'):∀{S:Addr→Prop} {vs:List Value},Rel E B S0 w0 st G S w tmps→(∀(i:Nat) (s:SV) (v:Value),l[i]?=some s→vs[i]?=some v→RSV st.tk G S w s v) →
  ∃S',Rel E B S0 w0 st' G S' w tmps∧Ext st.tk G S w st'.tk G S' w∧l'.length=l.length∧∀(i:Nat) (s:SV) (v:Value),l'[i]?=some s→vs[i]?=some v→RSV st'.tk G S' w s v:=by
 induction h with
 | refl st l=>exact fun R hv=>⟨_,R,Ext.refl _ _ _ _,rfl,hv⟩
 | still id cs ps st st' l l' h1 h2 h3 ih =>
  intro S vs R hv
  have hid:id<G.bx.length:=by rw [R.inv.lbx];exact (List.getElem?_eq_some_iff.1 (getD_some h1)).1
  obtain ⟨R2,X2,_,V2⟩:=R.seal_ (List.getElem?_eq_getElem hid) h1 h2
  obtain ⟨S',R3,X3,hl3,V3⟩:=ih (vs:=vs) R2 (fun i s v a b=>by
   rw [List.getElem?_map] at a
   cases hq:l[i]? with
   | none=>rw [hq] at a;cases a
   | some s0 =>
    rw [hq] at a
    simp only [Option.map_some,Option.some.injEq] at a
    subst a
    exact V2 s0 v (hv i s0 v hq b))
  exact ⟨S',R3,X2.trans X3,by rw [hl3];simp,V3⟩
 | row id m cs xs st st' l l' h1 h2 hm h3 hm0 ih =>
  intro S vs R hv
  subst h2
  have hid:id<G.bx.length:=by rw [R.inv.lbx];exact (List.getElem?_eq_some_iff.1 (getD_some h1)).1
  obtain ⟨R2,X2,V2⟩:=R.sealRow_ (List.getElem?_eq_getElem hid) h1 hm hm0
  obtain ⟨S',R3,X3,hl3,V3⟩:=ih (vs:=vs) R2 (fun i s v a b=>by
   rw [List.getElem?_map] at a
   cases hq:l[i]? with
   | none=>rw [hq] at a;cases a
   | some s0 =>
    rw [hq] at a
    simp only [Option.map_some,Option.some.injEq] at a
    subst a
    exact V2 s0 v (hv i s0 v hq b))
  exact ⟨S',R3,X2.trans X3,by rw [hl3];simp,V3⟩
 | map id es mk ks us st st' l l' h1 h2 hlk h3 ih =>
  intro S vs R hv
  have hid:id<G.mp.length:=by rw [R.inv.lmp];exact (List.getElem?_eq_some_iff.1 h1).1
  obtain ⟨R2,X2,V2⟩:=R.sealMp_ (List.getElem?_eq_getElem hid) h1 h2 hlk
  obtain ⟨S',R3,X3,hl3,V3⟩:=ih (vs:=vs) R2 (fun i s v a b=>by
   rw [List.getElem?_map] at a
   cases hq:l[i]? with
   | none=>rw [hq] at a;cases a
   | some s0 =>
    rw [hq] at a
    simp only [Option.map_some,Option.some.injEq] at a
    subst a
    exact V2 s0 v (hv i s0 v hq b))
  exact ⟨S',R3,X2.trans X3,by rw [hl3];simp,V3⟩
theorem capsOf_ok {tk:List (Nat × TypeId)}:∀(l:List SV) (vs:List Value) (cs:List Cap),l.length=vs.length→(∀(i:Nat) (s:SV) (v:Value),l[i]?=some s→vs[i]?=some v→RSV tk G S w s v)→capsOf l=some cs →
  cs.length=vs.length∧∀(i:Nat) (c:Cap) (u:Value),cs[i]?=some c→vs[i]?=some u→RCap G S w c u
 | [],[],cs,_,_,h=>by simp only [capsOf,Option.some.injEq] at h;subst h;exact ⟨rfl,fun i c u h=>by simp at h⟩
 | [],_::_,_,hl,_,_=>by simp at hl
 | _::_,[],_,hl,_,_=>by simp at hl
 | s::l,v::vs,cs,hl,hr,h=>by
  have hs:=hr 0 s v rfl rfl
  have hl':l.length=vs.length:=by simpa using hl
  have hr':∀(i:Nat) (s:SV) (v:Value),l[i]?=some s→vs[i]?=some v→RSV tk G S w s v:=fun i s v a b=>hr (i+1) s v (by simpa using a) (by simpa using b)
  have key:∀(c0:Cap),RCap G S w c0 v→(capsOf l).map (c0::·)=some cs→cs.length=(v::vs).length∧∀(i:Nat) (c:Cap) (u:Value),cs[i]?=some c→(v::vs)[i]?=some u→RCap G S w c u:=by
   intro c0 h0 h
   cases hq:capsOf l with
   | none=>simp [hq] at h
   | some q =>
    simp only [hq,Option.map_some,Option.some.injEq] at h
    subst h
    obtain ⟨a,b⟩:=capsOf_ok l vs q hl' hr' hq
    refine ⟨by simp [a],fun i c u h1 h2=>?_⟩
    cases i with
    | zero=>simp at h1 h2;subst h1;subst h2;exact h0
    | succ i=>exact b i c u (by simpa using h1) (by simpa using h2)
  cases s with
  | val p=>exact key (.pv p) hs h
  | lit m xs=>exact key (.pv (.list m xs)) hs.1 h
  | box id off=>exact key (.box id off) hs h
  | undef=>simp [capsOf] at h
  | own t m xs=>simp [capsOf] at h
  | msl id off len=>simp [capsOf] at h
  | it id=>simp [capsOf] at h
  | mtup id ps=>simp [capsOf] at h
  | clo f caps=>simp [capsOf] at h
  | rbx a b c d e=>simp [capsOf] at h
  | mp a=>simp [capsOf] at h
  | row a b c d e=>simp [capsOf] at h
theorem ok_makeFunc (R:Rel E B S0 w0 st G S w tmps) {fn:Fn} {first cap:List SV} {vf vc:Array Value} (hf:first.length=vf.size) (hc:cap.length=vc.size)
  (hr:∀(i:Nat) (s:SV) (v:Value),cap[i]?=some s→vc.toList[i]?=some v→RSV st.tk G S w s v) :
  OpOk E B S0 w0 (opMakeFunc E fn first cap st) G S w st.tk tmps (do pure (.value (←Instr.makeFunc fn vf vc))):=by
 intro r' hr' _
 unfold opMakeFunc at hr'
 split at hr'
 ·rename_i f
  have hvf:vf=#[]:=by
   have:vf.size=0:=by simpa using hf.symm
   exact Array.eq_empty_of_size_eq_zero this
  subst hvf
  split at hr'
  ·split at hr'
   ·rename_i l hl
    cases hr'
    have:=capsOf_ok cap vc.toList l (by simpa using hc) hr hl
    exact ⟨_,_,w,by simp [Instr.makeFunc];rfl,.inl rfl,G,S,R,⟨vc.toList,by simp,this.1,this.2⟩,Ext.refl _ _ _ _⟩
   ·cases hr'
  ·split at hr'
   ·rename_i l st' hl
    cases hr'
    obtain ⟨S',R',X',V'⟩:=opCaps_ok cap vc.toList st st' l S R (by simpa using hc) hr hl
    refine ⟨_,_,w,by simp [Instr.makeFunc];rfl,.inl rfl,G,S',R',?_,X'⟩
    have:=RV.fn (S:=S') (w:=w) f l vc.toList V'.1 V'.2
    simpa [RSV] using this
   ·cases hr'
 ·cases hr'
end
end Go.Abs
/-
  The abstract walk is sound: the seventh part: append.
-/
namespace Go.Abs
open Go.RowKit
section
variable {E:Env} {B:Nat} {S0:Addr→Prop} {w0:World} {st:St} {G:Gh} {S:Addr→Prop} {w:World} {tmps:Array Value}
structure Head (E:Env) (B:Nat) (G:Gh) (S:Addr→Prop) (w:World) (k:Nat) (n:Nat) (e:TypeId) (hv:Value):Prop where
 ok:∃a cap,hv=.slice a n cap∧n≤cap∧cap≤maxLen ∧
  (n<cap→∃(g:Nat) (cur:Array Value),a=some ⟨g,0,none⟩∧B≤g∧w.heap[g]?=some (.cells cur e (0,0))∧cur.size=cap*(E.T e).size ∧
   (∀a,S a→a.block=g→a.off<n*(E.T e).size)∧(∀(i:Nat),G.bx[i]?≠some g))
 apart:∀(g n' cap t' n'' cap'':Nat),hv=.slice (some ⟨g,0,none⟩) n' cap→n'<cap→t'≠k→G.tk[t']?=some (.slice (some ⟨g,0,none⟩) n'' cap'')→¬n''<cap''
 fp:∀(g n' cap:Nat),hv=.slice (some ⟨g,0,none⟩) n' cap→n'<cap→¬G.fp g
theorem Inv.noTwo (hI:Inv E B S0 st.bx st.tk st.ax G S w) {t t' g n n' cap cap':Nat} (hne:t≠t') (h1:G.tk[t]?=some (.slice (some ⟨g,0,none⟩) n cap)) (h2:n<cap)
  (h3:G.tk[t']?=some (.slice (some ⟨g,0,none⟩) n' cap')):¬n'<cap':=by
 rcases hI.apart t t' n n' cap cap' g hne h1 h2 with h | h
 ·exact absurd h3 h
 ·omega
theorem Rel.tokNew (R:Rel E B S0 w0 st G S w tmps) {tk0:List (Nat × TypeId)} {G0:Gh} {S1:Addr→Prop} {w1:World} (X:Ext tk0 G0 S1 w1 st.tk G S w) {n:Nat} {e:TypeId} {hv:Value} (hh:Head E B G S w st.tk.length n e hv)
  (hfr:∀(g n' cap:Nat),hv=.slice (some ⟨g,0,none⟩) n' cap→n'<cap→w1.heap.size≤g) :
  Rel E B S0 w0 { st with tk:=st.tk++[(n,e)] } ⟨G.bx,G.tk++[hv],G.mp,G.fp⟩ S w tmps∧Ext tk0 G0 S1 w1 (st.tk++[(n,e)]) ⟨G.bx,G.tk++[hv],G.mp,G.fp⟩ S w ∧
   (G.tk++[hv])[st.tk.length]?=some hv∧(st.tk++[(n,e)])[st.tk.length]?=some (n,e):=by
 have hI:=R.inv
 have hlen:=hI.ltk
 have hX:Ext0 st.tk G S w (st.tk++[(n,e)]) ⟨G.bx,G.tk++[hv],G.mp,G.fp⟩ S w :=
  ⟨fun _ _ h=>h,fun t hv' le h1 h2=>⟨hv',le,by
   show (G.tk++[hv])[t]?=_
   rw [List.getElem?_append_left (List.getElem?_eq_some_iff.1 h1).1];exact h1,by
   rw [List.getElem?_append_left (List.getElem?_eq_some_iff.1 h2).1];exact h2,.inl ⟨rfl,rfl⟩⟩,fun _ h=>h,fun _ _=>Still.refl _ _,fun _ _ h=>h⟩
 have hnew:∀(t:Nat) (x:Value),(G.tk++[hv])[t]?=some x→(G.tk[t]?=some x∧t<st.tk.length)∨(t=st.tk.length∧x=hv):=by
  intro t x hx
  rcases Nat.lt_trichotomy t G.tk.length with h | h | h
  ·rw [List.getElem?_append_left h] at hx;exact .inl ⟨hx,by omega⟩
  ·subst h;simp at hx;exact .inr ⟨hlen,hx.symm⟩
  ·rw [List.getElem?_eq_none (by simp;omega)] at hx;cases hx
 refine ⟨⟨⟨hI.base,hI.s0,hI.slt,hI.lbx,by simp [hlen],hI.old,hI.dist,fun id b cs h1 h2=>?_,fun t n' e' hv' h1 h2=>?_,fun t t' n1 n2 c1 c2 g hne h1 h2=>?_,hI.lmp,hI.dmp,hI.mpo,hI.mpk,hI.flt,hI.fbx,fun t n' cap g h1 h2=>?_,hI.fmp,hI.yl⟩,R.below,R.len,fun t s v a1 a2=>RSV.mono0 hX (R.sl t s v a1 a2)⟩,
  X.step hX (fun b hb hf=>?_),by simp [←hlen],by simp⟩
 ·obtain ⟨⟨t',arr,b1,b2,b3⟩,b4⟩:=hI.box id b cs h1 h2
  exact ⟨⟨t',arr,b1,b2,fun j c v a1 a2=>⟨RSV.mono0 hX (b3 j c v a1 a2).1,(b3 j c v a1 a2).2⟩⟩,b4⟩
 ·rcases hnew t hv' h2 with h | ⟨rfl,rfl⟩
  ·rw [List.getElem?_append_left h.2] at h1
   exact hI.tok t n' e' hv' h1 h.1
  ·simp at h1
   obtain ⟨rfl,rfl⟩:=h1
   exact hh.ok
 ·by_cases hq:n2<c2
  ·left
   intro h3
   rcases hnew t _ h1 with ⟨h,hl⟩ | ⟨rfl,h⟩<;>rcases hnew t' _ h3 with ⟨k,kl⟩ | ⟨rfl,k⟩
   ·exact hI.noTwo hne h h2 k hq
   ·exact hh.apart g n2 c2 t n1 c1 k.symm hq (by omega) h h2
   ·exact hh.apart g n1 c1 t' n2 c2 h.symm h2 (by omega) k hq
   ·exact hne rfl
  ·exact .inr (by omega)
 ·rcases hnew t _ h1 with ⟨h,_⟩ | ⟨_,h⟩
  ·exact hI.ftk t n' cap g h h2
  ·exact hh.fp g n' cap h.symm h2
 ·rcases hf with hf | ⟨t,n',cap,h1,h2⟩ | hf
  ·exact .inl hf
  ·rcases hnew t _ h1 with ⟨h,_⟩ | ⟨_,h⟩
   ·exact .inr (.inl ⟨t,n',cap,h,h2⟩)
   ·have:=hfr b n' cap h.symm h2;omega
  ·exact .inr (.inr hf)
theorem Rel.tokSet (R:Rel E B S0 w0 st G S w tmps) {tk0:List (Nat × TypeId)} {G0:Gh} {S1:Addr→Prop} {w1:World} (X:Ext tk0 G0 S1 w1 st.tk G S w) {k n:Nat} {e:TypeId} {hv:Value} (hk:k<st.tk.length) (hlt:∀le,st.tk[k]?=some le→le.1<n) (hh:Head E B G S w k n e hv)
  (hfr:∀(g n' cap:Nat),hv=.slice (some ⟨g,0,none⟩) n' cap→n'<cap→w1.heap.size≤g) :
  Rel E B S0 w0 { st with tk:=st.tk.set k (n,e) } ⟨G.bx,G.tk.set k hv,G.mp,G.fp⟩ S w tmps∧Ext tk0 G0 S1 w1 (st.tk.set k (n,e)) ⟨G.bx,G.tk.set k hv,G.mp,G.fp⟩ S w ∧
   (G.tk.set k hv)[k]?=some hv∧(st.tk.set k (n,e))[k]?=some (n,e):=by
 have hI:=R.inv
 have hlen:=hI.ltk
 have hX:Ext0 st.tk G S w (st.tk.set k (n,e)) ⟨G.bx,G.tk.set k hv,G.mp,G.fp⟩ S w:=by
  refine ⟨fun _ _ h=>h,fun t hv' le h1 h2=>?_,fun _ h=>h,fun _ _=>Still.refl _ _,fun _ _ h=>h⟩
  by_cases ht:k=t
  ·subst ht
   exact ⟨hv,(n,e),by simp [hlen,hk],by simp [hk],.inr (hlt le h2)⟩
  ·exact ⟨hv',le,by simp [ht,h1],by simp [ht,h2],.inl ⟨rfl,rfl⟩⟩
 have hnew:∀(t:Nat) (x:Value),(G.tk.set k hv)[t]?=some x→(G.tk[t]?=some x∧t≠k)∨(t=k∧x=hv):=by
  intro t x hx
  by_cases ht:k=t
  ·subst ht
   simp [hlen,hk] at hx
   exact .inr ⟨rfl,hx.symm⟩
  ·simp [ht] at hx
   exact .inl ⟨hx,fun h=>ht h.symm⟩
 refine ⟨⟨⟨hI.base,hI.s0,hI.slt,hI.lbx,by simp [hlen],hI.old,hI.dist,fun id b cs h1 h2=>?_,fun t n' e' hv' h1 h2=>?_,fun t t' n1 n2 c1 c2 g hne h1 h2=>?_,hI.lmp,hI.dmp,hI.mpo,hI.mpk,hI.flt,hI.fbx,fun t n' cap g h1 h2=>?_,hI.fmp,hI.yl⟩,R.below,R.len,fun t s v a1 a2=>RSV.mono0 hX (R.sl t s v a1 a2)⟩,
  X.step hX (fun b hb hf=>?_),by simp [hlen,hk],by simp [hk]⟩
 ·obtain ⟨⟨t',arr,b1,b2,b3⟩,b4⟩:=hI.box id b cs h1 h2
  exact ⟨⟨t',arr,b1,b2,fun j c v a1 a2=>⟨RSV.mono0 hX (b3 j c v a1 a2).1,(b3 j c v a1 a2).2⟩⟩,b4⟩
 ·rcases hnew t hv' h2 with h | ⟨rfl,rfl⟩
  ·have:¬k=t:=fun e=>h.2 e.symm
   simp [this] at h1
   exact hI.tok t n' e' hv' h1 h.1
  ·simp [hk] at h1
   obtain ⟨rfl,rfl⟩:=h1
   exact hh.ok
 ·by_cases hq:n2<c2
  ·left
   intro h3
   rcases hnew t _ h1 with ⟨h,hl⟩ | ⟨rfl,h⟩<;>rcases hnew t' _ h3 with ⟨k',kl⟩ | ⟨rfl,k'⟩
   ·exact hI.noTwo hne h h2 k' hq
   ·exact hh.apart g n2 c2 t n1 c1 k'.symm hq hne h h2
   ·exact hh.apart g n1 c1 t' n2 c2 h.symm h2 (Ne.symm hne) k' hq
   ·exact hne rfl
  ·exact .inr (by omega)
 ·rcases hnew t _ h1 with ⟨h,_⟩ | ⟨_,h⟩
  ·exact hI.ftk t n' cap g h h2
  ·exact hh.fp g n' cap h.symm h2
 ·rcases hf with hf | ⟨t,n',cap,h1,h2⟩ | hf
  ·exact .inl hf
  ·rcases hnew t _ h1 with ⟨h,_⟩ | ⟨_,h⟩
   ·exact .inr (.inl ⟨t,n',cap,h,h2⟩)
   ·have:=hfr b n' cap h.symm h2;omega
  ·exact .inr (.inr hf)
theorem run_append_zero {t ty e:TypeId} {i:TypeInfo} (ht:E.P.underlying t=some (.slice e)) (hi:E.P.info? e=some i) (a A:Option Addr) (n cap c:Nat) (hn:n≤cap) :
  (Builtin.append_ #[t,t] ty #[.slice a n cap,.slice A 0 c]).run E.P w=.ok (.slice a n cap) w:=by
 cases A<;>cases a<;>simp [Builtin.append_,run_underlying ht,sizeOf,typeInfo,hi,Builtin.lenOf,Builtin.firstCells,hn,loadCells,loadCellsFrom,storeCells]
theorem Rel.grownRow (R:Rel E B S0 w0 st G S w tmps) (e:TypeId) (arr:Array Value) (n cap:Nat) (hn:n≤cap) (hcap:cap≤maxLen) (hsz:arr.size=cap*(E.T e).size) (k:Nat) :
  ∃S':Addr→Prop,Rel E B S0 w0 st G S' (w.drew.alloc (.cells arr e)) tmps∧Ext st.tk G S w st.tk G S' (w.drew.alloc (.cells arr e)) ∧
   (∀j,j<n*(E.T e).size→S' ⟨w.heap.size,j,none⟩)∧(∀j,(w.drew.alloc (.cells arr e)).cell? ⟨w.heap.size,j,none⟩=arr[j]?) ∧
   Head E B G S' (w.drew.alloc (.cells arr e)) k n e (.slice (some ⟨w.heap.size,0,none⟩) n cap):=by
 have hbel:Below w.heap.size w (w.drew.alloc (.cells arr e)):=⟨rfl,rfl,rfl,by simp,fun k hk=>Below.heap_alloc w.drew _ k hk,Nat.le_succ _⟩
 obtain ⟨R1,X1⟩:=R.transport (S':=fun a=>S a∨(a.block=w.heap.size∧a.off<n*(E.T e).size)) (w':=w.drew.alloc (.cells arr e)) (fun _ h=>.inl h) (fun a ha=>by
  rcases ha with ha | ha
  ·exact .inl ha
  ·exact .inr ⟨by omega,by rw [ha.1];simp⟩) hbel
 have hI:=R.inv
 refine ⟨_,R1,X1,fun j hj=>.inr ⟨rfl,hj⟩,fun j=>World.cell?_alloc_new w.drew arr e j,⟨⟨some ⟨w.heap.size,0,none⟩,cap,rfl,hn,hcap,fun _=>⟨w.heap.size,arr,rfl,hI.base,heap_alloc_new w.drew _,hsz,fun a ha hab=>?_,fun i hi=>?_⟩⟩,fun g n' cap' t' n'' cap'' h1 h2 h3 h4 h5=>?_,fun g n' cap' h1 _ hf=>by
  injection h1 with h1 _ _
  injection h1 with h1
  injection h1 with h1
  subst h1
  exact Nat.lt_irrefl _ (hI.flt _ hf)⟩⟩
 ·rcases ha with ha | ha
  ·have:=hI.slt a ha;omega
  ·exact ha.2
 ·have:=(hI.old i _ hi).2;omega
 ·injection h1 with h1 _ _
  injection h1 with h1
  injection h1 with h1
  subst h1
  have hl:t'<st.tk.length:=by rw [←hI.ltk];exact (List.getElem?_eq_some_iff.1 h4).1
  obtain ⟨a,cap1,k1,k2,k3,k4⟩:=hI.tok t' _ _ _ (List.getElem?_eq_getElem hl) h4
  injection k1 with k1 k5 k6
  subst k6
  rw [←k5] at k4
  obtain ⟨g,cur,c1,c2,c3,_⟩:=k4 h5
  rw [←k1] at c1
  injection c1 with c1
  injection c1 with c1
  rw [←c1,Array.getElem?_eq_none (Nat.le_refl _)] at c3
  cases c3
theorem Rel.roomRow (R:Rel E B S0 w0 st G S w tmps) {k g n n' cap:Nat} {e:TypeId} {arr:Array Value} (hkt:st.tk[k]?=some (n,e)) (hkg:G.tk[k]?=some (.slice (some ⟨g,0,none⟩) n cap)) (hnc:n<cap) (hn:n'≤cap) (hnn:n<n')
  {cur:Array Value} (hcur:w.heap[g]?=some (.cells cur e (0,0))) (hsz:arr.size=cap*(E.T e).size) (hsame:∀j,j<n*(E.T e).size→arr[j]?=cur[j]?) :
  ∃(G':Gh) (S':Addr→Prop),Rel E B S0 w0 { st with tk:=st.tk.set k (n',e) } G' S' (w.setRow g arr) tmps∧Ext st.tk G S w (st.tk.set k (n',e)) G' S' (w.setRow g arr) ∧
   (∀j,j<n'*(E.T e).size→S' ⟨g,j,none⟩)∧(∀j,(w.setRow g arr).cell? ⟨g,j,none⟩=arr[j]?) ∧
   G'.tk[k]?=some (.slice (some ⟨g,0,none⟩) n' cap)∧(st.tk.set k (n',e))[k]?=some (n',e):=by
 have hI:=R.inv
 have hlen:=hI.ltk
 have hk:k<st.tk.length:=(List.getElem?_eq_some_iff.1 hkt).1
 obtain ⟨a,cap1,k1,k2,k3,k4⟩:=hI.tok k n e _ hkt hkg
 injection k1 with k1 _ k6
 subst k6
 obtain ⟨g',cur',c1,hBg,c3,_,hSg,hbxg⟩:=k4 hnc
 rw [←k1] at c1
 injection c1 with c1
 injection c1 with c1
 subst c1
 have hg:g<w.heap.size:=by
  rcases Nat.lt_or_ge g w.heap.size with h | h
  ·exact h
  ·rw [Array.getElem?_eq_none h] at hcur;cases hcur
 have hcell:∀a,S a→Still w (w.setRow g arr) a:=by
  intro a ha
  by_cases hab:a.block=g
  ·have hlt:=hSg a ha hab
   have h1:=setRow_heap w g cur arr e _ hcur
   refine Still.of_cells ?_ (by rw [hab];exact hcur)
   simp only [World.cell?,hab,h1,hcur]
   rw [hsame a.off hlt]
  ·exact Still.of_block (setRow_other w g a.block arr hab)
 have hfg:Foot G g:=.inr (.inl ⟨k,n,cap,hkg,hnc⟩)
 have hnew:∀(t:Nat) (x:Value),(G.tk.set k (.slice (some ⟨g,0,none⟩) n' cap))[t]?=some x→(G.tk[t]?=some x∧t≠k)∨(t=k∧x=.slice (some ⟨g,0,none⟩) n' cap):=by
  intro t x hx
  by_cases ht:k=t
  ·subst ht
   simp [hlen,hk] at hx
   exact .inr ⟨rfl,hx.symm⟩
  ·simp [ht] at hx
   exact .inl ⟨hx,fun h=>ht h.symm⟩
 have hX:Ext st.tk G S w (st.tk.set k (n',e)) ⟨G.bx,G.tk.set k (.slice (some ⟨g,0,none⟩) n' cap),G.mp,G.fp⟩ (fun a=>S a∨(a.block=g∧a.off<n'*(E.T e).size)) (w.setRow g arr):=by
  refine ⟨fun _ _ h=>h,fun t hv' le h1 h2=>?_,fun _ h=>.inl h,hcell,fun _ _ h=>h,⟨rfl,rfl,rfl,by simp,fun k hk=>absurd hk (Nat.not_lt_zero _),Nat.le_refl _⟩,fun b _ hf=>setRow_other w g b arr (fun e=>hf (by rw [e];exact hfg)),fun b _ hf=>?_,fun a ha=>ha.imp (fun h=>h) fun h=>.inl (by rw [h.1];exact hfg)⟩
  rotate_left
  ·rcases hf with hf | ⟨t,n2,cap2,h1,h2⟩ | hf
   ·exact .inl hf
   ·rcases hnew t _ h1 with ⟨h,_⟩ | ⟨_,h⟩
    ·exact .inr (.inl ⟨t,n2,cap2,h,h2⟩)
    ·injection h with h _ _
     injection h with h
     injection h with h
     rw [h];exact hfg
   ·exact .inr (.inr hf)
  by_cases ht:k=t
  ·subst ht
   rw [hkt] at h2
   cases h2
   exact ⟨.slice (some ⟨g,0,none⟩) n' cap,(n',e),by simp [hlen,hk],by simp [hk],.inr hnn⟩
  ·exact ⟨hv',le,by simp [ht,h1],by simp [ht,h2],.inl ⟨rfl,rfl⟩⟩
 refine ⟨⟨G.bx,G.tk.set k (.slice (some ⟨g,0,none⟩) n' cap),G.mp,G.fp⟩,fun a=>S a∨(a.block=g∧a.off<n'*(E.T e).size),⟨⟨by simpa using hI.base,fun a ha=>?_,fun a ha=>?_,hI.lbx,by simp [hlen],fun i b h=>by simpa using hI.old i b h,hI.dist,fun id b cs h1 h2=>?_,fun t m e' hv' h1 h2=>?_,fun t t' n1 n2 c1 c2 g1 hne h1 h2=>?_,hI.lmp,hI.dmp,fun i b h=>by simpa using hI.mpo i b h,fun i b c h1 h2=>(hI.mpk i b c h1 h2).mono (Kept.row hcur) (fun m bm h=>⟨h,Kept.row hcur⟩) (fun _ h=>.inl h) hcell (fun a ha=>ha.imp id fun h=>by rcases Decidable.em (b=g) with rfl | hne;exact .inr (noMap hcur);exact .inl fun e=>hne (e.symm.trans h.1)),fun b h=>by simpa using hI.flt b h,hI.fbx,fun t n2 cap2 g2 h1 h2=>by
   rcases hnew t _ h1 with ⟨h,_⟩ | ⟨_,h⟩
   ·exact hI.ftk t n2 cap2 g2 h h2
   ·injection h with h _ _
    injection h with h
    injection h with h
    rw [h];exact hI.ftk k n cap g hkg hnc,hI.fmp,
   ⟨E.Y.ok _ _ _ _ _ _ hI.yl.1 ⟨hX.calm,fun b hb=>setRow_other w g b arr (fun e=>hI.ftk k n cap g hkg hnc (by rw [←e];exact hb)),fun _ h=>.inl h,hcell,fun a ha=>ha.imp (fun h=>h) fun h=>by rw [h.1];exact hI.ftk k n cap g hkg hnc,fun a ha=>by
    rcases ha with ha | ha
    ·simpa using hI.slt a ha
    ·simp;omega⟩,hI.yl.2⟩⟩,
  R.below.trans ⟨rfl,rfl,rfl,by simp,fun k' hk'=>setRow_other w g k' arr (by omega),Nat.le_refl _⟩,R.len,fun t s v a1 a2=>RSV.mono hX (R.sl t s v a1 a2)⟩,hX,fun j hj=>.inr ⟨rfl,hj⟩,fun j=>cell_setRow_same w g j cur arr e _ hcur,by simp [hlen,hk],by simp [hk]⟩
 ·rcases ha with ha | ha
  ·exact hI.s0 a ha
  ·exact .inr (by omega)
 ·rcases ha with ha | ha
  ·simpa using hI.slt a ha
  ·simp;omega
 ·obtain ⟨⟨t',arr',b1,b2,b3⟩,b4⟩:=hI.box id b cs h1 h2
  have hbg:b≠g:=fun e=>hbxg id (by rw [←e];exact h2)
  refine ⟨⟨t',arr',by rw [setRow_other w g b arr hbg];exact b1,b2,fun j c v a1 a2=>⟨RSV.mono hX (b3 j c v a1 a2).1,(b3 j c v a1 a2).2⟩⟩,fun a ha=>?_⟩
  rcases ha with ha | ha
  ·exact b4 a ha
  ·omega
 ·rcases hnew t hv' h2 with h | ⟨rfl,rfl⟩
  ·have hkt':¬k=t:=fun e=>h.2 e.symm
   simp [hkt'] at h1
   obtain ⟨a,cap2,d1,d2,d3,d4⟩:=hI.tok t m e' hv' h1 h.1
   refine ⟨a,cap2,d1,d2,d3,fun hlt=>?_⟩
   obtain ⟨g2,cur2,e1,e2,e3,e4,e5,e6⟩:=d4 hlt
   have hgg:g2≠g:=fun eq=>by
    subst eq
    rw [d1,e1] at h
    exact hI.noTwo hkt' hkg hnc h.1 hlt
   refine ⟨g2,cur2,e1,e2,by rw [setRow_other w g g2 arr hgg];exact e3,e4,fun a ha hab=>?_,e6⟩
   rcases ha with ha | ha
   ·exact e5 a ha hab
   ·omega
  ·simp [hk] at h1
   obtain ⟨rfl,rfl⟩:=h1
   exact ⟨_,cap,rfl,hn,k3,fun _=>⟨g,arr,rfl,hBg,setRow_heap w g cur arr e _ hcur,hsz,fun a ha hab=>by
    rcases ha with ha | ha
    ·have:=hSg a ha hab
     have:n*(E.T e).size≤n'*(E.T e).size:=Nat.mul_le_mul_right _ (by omega)
     omega
    ·exact ha.2,hbxg⟩⟩
 ·by_cases hq:n2<c2
  ·left
   intro h3
   rcases hnew t _ h1 with ⟨h,hl⟩ | ⟨rfl,h⟩<;>rcases hnew t' _ h3 with ⟨k',kl⟩ | ⟨rfl,k'⟩
   ·exact hI.noTwo hne h h2 k' hq
   ·injection k' with k' _ _
    injection k' with k'
    injection k' with k'
    subst k'
    exact hI.noTwo hne h h2 hkg hnc
   ·injection h with h _ _
    injection h with h
    injection h with h
    subst h
    exact hI.noTwo hne hkg hnc k' hq
   ·exact hne rfl
  ·exact .inr (by omega)
theorem RV.of_row {S':Addr→Prop} {w':World} {g n cap sz:Nat} {zs:List PV} {arr:Array Value} {vals:List Value} (hsz0:sz≠0) (hlen:zs.length=n) (hn:n≤cap) (hcap:cap≤maxLen) (hS:∀j,j<n*sz→S' ⟨g,j,none⟩) (hcell:∀j,w'.cell? ⟨g,j,none⟩=arr[j]?)
  (htake:arr.toList.take (n*sz)=vals) (hone:∀v∈vals,v.oneCell'=true) (hels:Els S' w' sz zs vals):RV S' w' (.list sz zs) (.slice (some ⟨g,0,none⟩) n cap):=by
 have:=RV.of_flat (ad:=⟨g,0,none⟩) (a:=some ⟨g,0,none⟩) (cap:=cap) hsz0 (fun _=>rfl) (by omega) hcap (fun j u hu=>by
  have hj:j<n*sz:=by
   have:=(List.getElem?_eq_some_iff.1 hu).1
   rw [hels.1,hlen] at this
   exact this
  rw [addr_box,Nat.zero_add]
  refine ⟨hS j hj,?_,hone u (List.mem_of_getElem? hu)⟩
  rw [hcell,←Array.getElem?_toList]
  rw [←htake,List.getElem?_take,if_pos hj] at hu
  exact hu) hels
 rw [hlen] at this
 exact this
theorem ok_append (hE:EnvOk E) (R:Rel E B S0 w0 st G S w tmps) {t ty:TypeId} {s y:SV} {vs vy:Value} (hs:RSV st.tk G S w s vs) (hy:RSV st.tk G S w y vy) :
  OpOk E B S0 w0 (opAppend E t s y st) G S w st.tk tmps (do pure (.value (←Builtin.append_ #[t,t] ty #[vs,vy]))):=by
 intro r' hr hside
 unfold opAppend at hr
 have hk:=(hE.td t).k
 replace hs:=RSV.litz hs
 generalize s.litz=s at hr hs
 split at hr
 ·rename_i e m' ys hke hye
  rw [hke] at hk
  split at hr
  ·rename_i hcond
   obtain ⟨hm',hsz,hzl⟩:=hcond
   obtain ⟨i,z,hi,hsize,hby,hzz,hzc,hone,hcs,_⟩:=hE.cells (t:=e) (by omega)
   obtain ⟨aY,adY,capY,us,rfl,haY,hcY,hmY,hcellY,helsY⟩:=RV.flat (RSV.elems hy hye)
   have helsY':Els S w (E.T e).size ys us:=by
    rcases hm' with h | h
    ·rw [←h];exact helsY
    ·subst h
     have:us=[]:=List.eq_nil_of_length_eq_zero (by have:=helsY.1;simpa using this)
     subst this
     exact Els.nil _
   have honeY:∀u∈us,u.oneCell'=true:=fun u hu=>by
    obtain ⟨j,hj⟩:=List.mem_iff_getElem?.1 hu
    exact (hcellY j u hj).2.2
   -- the growing way,common to both
   have grow:∀(xs:List PV) (vals:List Value) (a:Option Addr) (ad:Addr) (cap:Nat),Els S w (E.T e).size xs vals→(∀v∈vals,v.oneCell'=true)→(xs≠[]→a=some ad)→(∀j u,vals[j]?=some u→w.cell? (ad.add j)=some u) →
     (a=none→xs=[]∧cap=0)→ys≠[]→cap<xs.length+ys.length→(xs.length+ys.length)*((E.T e).bytes+1)≤140737488355328→∀k,∃(cap':Nat) (arr:Array Value) (S':Addr→Prop),
     (Builtin.append_ #[t,t] ty #[.slice a xs.length cap,.slice aY ys.length capY]).run E.P w=.ok (.slice (some ⟨w.heap.size,0,none⟩) (xs.length+ys.length) cap') (w.drew.alloc (.cells arr e)) ∧
     Rel E B S0 w0 st G S' (w.drew.alloc (.cells arr e)) tmps∧Ext st.tk G S w st.tk G S' (w.drew.alloc (.cells arr e)) ∧
     Head E B G S' (w.drew.alloc (.cells arr e)) k (xs.length+ys.length) e (.slice (some ⟨w.heap.size,0,none⟩) (xs.length+ys.length) cap') ∧
     RV S' (w.drew.alloc (.cells arr e)) (.list (E.T e).size (xs++ys)) (.slice (some ⟨w.heap.size,0,none⟩) (xs.length+ys.length) cap'):=by
    intro xs vals a ad cap hX honeX haX hcX hnone hyne hcap hbytes k
    have haY':=haY hyne
    subst haY'
    have hbytes1:(xs.length+ys.length)*(E.T e).bytes≤140737488355328:=by
     rw [Nat.mul_add] at hbytes;omega
    have hsmall:xs.length+ys.length≤140737488355328:=by
     rw [Nat.mul_add] at hbytes;omega
    have hys:0<ys.length:=List.length_pos_iff.2 hyne
    have hge:=grownCap_ge w (xs.length+ys.length) cap e
    have hle:=grownCap_le_maxLen w (xs.length+ys.length) cap e (by simp only [maxLen];omega)
    have hrun:(Builtin.append_ #[t,t] ty #[.slice a xs.length cap,.slice (some adY) ys.length capY]).run E.P w =
      .ok (.slice (some ⟨w.heap.size,0,none⟩) (xs.length+ys.length) (grownCap w (xs.length+ys.length) cap e))
       (w.drew.alloc (.cells (vals.toArray++us.toArray++Builtin.zeroCells z.cells (grownCap w (xs.length+ys.length) cap e - (xs.length+ys.length))) e)):=by
     cases a with
     | none =>
      obtain ⟨rfl,rfl⟩:=hnone rfl
      have:vals=[]:=List.eq_nil_of_length_eq_zero (by have:=hX.1;simpa using this)
      subst this
      have:=run_append_nil (P:=E.P) w t ty e i z hk hi hzz adY ys.length capY us (by rw [hsize];exact helsY'.1) (fun j v hv=>(hcellY j v hv).2.1) hys (by omega) (by rw [hby];simp at hbytes1;omega)
      simpa using this
     | some b =>
      have hb:xs=[]∨b=ad:=by
       by_cases hx:xs=[]
       ·exact .inl hx
       ·have:=haX hx;injection this with this;exact .inr this
      have holds:∀j v,vals[j]?=some v→w.cell? (b.add j)=some v:=by
       rcases hb with rfl | rfl
       ·have:vals=[]:=List.eq_nil_of_length_eq_zero (by have:=hX.1;simpa using this)
        subst this
        simp
       ·exact hcX
      exact run_append_grow (P:=E.P) w t ty e i z hk hi hzz b xs.length cap vals (by rw [hsize];exact hX.1) holds adY ys.length capY us (by rw [hsize];exact helsY'.1) (fun j v hv=>(hcellY j v hv).2.1) hcap (by omega) (by rw [hby];exact growslice_fits hcap hbytes1)
    have hels:Els S w (E.T e).size (xs++ys) (vals++us):=hX.append helsY'
    have hvl:(vals++us).length=(xs.length+ys.length)*(E.T e).size:=by rw [hels.1];simp
    obtain ⟨S',R1,X1,hS1,hc1,hH⟩:=R.grownRow e (vals.toArray++us.toArray++Builtin.zeroCells z.cells (grownCap w (xs.length+ys.length) cap e - (xs.length+ys.length))) (xs.length+ys.length) (grownCap w (xs.length+ys.length) cap e) hge hle
     (by
      have h1:=hX.1
      have h2:=helsY'.1
      simp only [Array.size_append,List.size_toArray,size_zeroCells,hcs,h1,h2,←Nat.add_mul]
      congr 1
      omega) k
    refine ⟨_,_,S',hrun,R1,X1,hH,RV.of_row (hsz0:=by omega) (vals:=vals++us) (by simp) hge hle hS1 hc1 ?_ (fun v hv=>?_) (hels.mono X1.sub X1.cell)⟩
    ·rw [←hvl]
     have e1:(vals.toArray++us.toArray++Builtin.zeroCells z.cells (grownCap w (xs.length+ys.length) cap e - (xs.length+ys.length))).toList=(vals++us)++(Builtin.zeroCells z.cells (grownCap w (xs.length+ys.length) cap e - (xs.length+ys.length))).toList:=by simp
     rw [e1]
     exact List.take_left
    ·rcases List.mem_append.1 hv with h | h
     ·exact honeX v h
     ·exact honeY v h
   split at hr
   ·rename_i m xs
    split at hr
    ·rename_i hm
     cases hr
     obtain ⟨hX,aX,hvX⟩:=hs
     obtain ⟨a,ad,cap,vals,hvv,haX,hcX,hmX,hcellX,helsX⟩:=RV.flat hX
     rw [hvv] at hvX
     injection hvX with _ _ hcapX
     subst hcapX
     subst hvv
     have helsX':Els S w (E.T e).size xs vals:=by
      rcases hm with h | h
      ·rw [←h];exact helsX
      ·subst h
       have:vals=[]:=List.eq_nil_of_length_eq_zero (by have:=helsX.1;simpa using this)
       subst this
       exact Els.nil _
     have honeX:∀u∈vals,u.oneCell'=true:=fun u hu=>by
      obtain ⟨j,hj⟩:=List.mem_iff_getElem?.1 hu
      exact (hcellX j u hj).2.2
     by_cases hyn:ys=[]
     ·subst hyn
      have hlist:RV S w (.list (E.T e).size xs) (.slice a xs.length xs.length):=RV.of_flat (by omega) haX (Nat.le_refl _) hmX hcellX helsX'
      obtain ⟨R1,X1,h1,h2⟩:=R.tokNew (Ext.refl _ _ _ _) (n:=xs.length) (e:=e) (hv:=.slice a xs.length xs.length) ⟨⟨a,xs.length,rfl,Nat.le_refl _,hmX,fun h=>absurd h (Nat.lt_irrefl _)⟩,fun g n' cap' t' n'' cap'' h1 h2 _ _=>by injection h1 with _ h3 h4;omega,fun g n' cap' h1 h2=>by injection h1 with _ h3 h4;omega⟩ (fun g n' cap' h1 h2=>by injection h1 with _ h3 h4;omega)
      refine ⟨_,_,w,by simp only [Sem.run_bind,List.length_nil,run_append_zero hk hi a aY xs.length xs.length capY (Nat.le_refl _),Result.andThen_ok,Sem.run_pure];rfl,.inl rfl,⟨G.bx,G.tk++[.slice a xs.length xs.length],G.mp,G.fp⟩,S,?_,?_,?_⟩
      ·simp only [List.append_nil];exact R1
      ·simp only [List.append_nil]
       exact ⟨hlist,_,_,h1,h2,Nat.le_refl _,fun _=>rfl⟩
      ·simp only [List.append_nil];exact X1
     ·obtain ⟨cap',arr,S',hrun,R1,X1,hH,hV⟩:=grow xs vals a ad xs.length helsX' honeX haX (fun j u hu=>(hcellX j u hu).2.1) (fun hn=>by
       subst hn
       have:xs=[]:=by
        rcases xs with _ | ⟨x,xs⟩
        ·rfl
        ·exact absurd (haX (by simp)) (by simp)
       subst this
       exact ⟨rfl,rfl⟩) hyn (by have:=List.length_pos_iff.2 hyn;omega) hside st.tk.length
      obtain ⟨R2,X2,h1,h2⟩:=R1.tokNew X1 hH (fun g n' c h _=>by injection h with h _ _;injection h with h;injection h with h;omega)
      have hL:(xs++ys).length=xs.length+ys.length:=by simp
      refine ⟨_,_,_,by simp only [Sem.run_bind,hrun,Result.andThen_ok,Sem.run_pure];rfl,.inl rfl,⟨G.bx,G.tk++[.slice (some ⟨w.heap.size,0,none⟩) (xs.length+ys.length) cap'],G.mp,G.fp⟩,S',?_,?_,?_⟩
      ·simp only [hL];exact R2
      ·simp only [hL]
       exact ⟨hV,_,_,h1,h2,by omega,fun _=>rfl⟩
      ·simp only [hL];exact X2
    ·cases hr
   ·rename_i k m xs
    split at hr
    ·rename_i hm
     cases hr
     obtain ⟨hlen,hkl,hbytes⟩:=hside
     obtain ⟨hX,hv,le,hG,hle,hxl,hveq⟩:=hs
     have hle':st.tk.getD k (0,0)=le:=by rw [List.getD_eq_getElem?_getD,hle];rfl
     rw [hle'] at hlen hm
     have hvh:=hveq hlen.symm
     subst hvh
     have hle2:st.tk[k]?=some (xs.length,e):=by
      rw [hle]
      congr 1
      exact Prod.ext hlen hm.2
     obtain ⟨a,ad,cap,vals,rfl,haX,hcX,hmX,hcellX,helsX⟩:=RV.flat hX
     have helsX':Els S w (E.T e).size xs vals:=by
      rcases hm.1 with h | h
      ·rw [←h];exact helsX
      ·subst h
       have:vals=[]:=List.eq_nil_of_length_eq_zero (by have:=helsX.1;simpa using this)
       subst this
       exact Els.nil _
     have honeX:∀u∈vals,u.oneCell'=true:=fun u hu=>by
      obtain ⟨j,hj⟩:=List.mem_iff_getElem?.1 hu
      exact (hcellX j u hj).2.2
     obtain ⟨a2,cap2,q1,q2,q3,q4⟩:=R.inv.tok k xs.length e _ hle2 hG
     injection q1 with q1 _ q5
     subst q5
     subst q1
     by_cases hyn:ys=[]
     ·subst hyn
      have hlist:RV S w (.list (E.T e).size xs) (.slice a xs.length cap):=RV.of_flat (by omega) haX hcX hmX hcellX helsX'
      have hset:st.tk.set k ((xs++[]).length,e)=st.tk:=by
       apply List.ext_getElem?
       intro j
       rw [List.getElem?_set]
       split
       ·rename_i hj
        subst hj
        rw [hle2]
        simp
       ·rfl
      refine ⟨_,_,w,by simp only [Sem.run_bind,List.length_nil,run_append_zero hk hi a aY xs.length cap capY hcX,Result.andThen_ok,Sem.run_pure];rfl,.inl rfl,G,S,?_,?_,?_⟩
      ·simp only [hset];exact R
      ·simp only [hset]
       exact ⟨by simpa using hlist,_,_,hG,hle2,by simp,by simp⟩
      ·simp only [hset];exact Ext.refl _ _ _ _
     ·have hys:0<ys.length:=List.length_pos_iff.2 hyn
      by_cases hroom:xs.length+ys.length≤cap
      ·have hlt:xs.length<cap:=by omega
       obtain ⟨g,cur,rfl,hBg,hcur,hcsz,hSg,hbxg⟩:=q4 hlt
       have haY':=haY hyn
       subst haY'
       have hsame0:xs=[]∨ad=⟨g,0,none⟩:=by
        by_cases hx:xs=[]
        ·exact .inl hx
        ·have:=haX hx;injection this with this;exact .inr this.symm
       have hcv:cur.toList.take (xs.length*(E.T e).size)=vals:=by
        rcases hsame0 with rfl | rfl
        ·have:vals=[]:=List.eq_nil_of_length_eq_zero (by have:=helsX.1;simpa using this)
         subst this
         simp
        ·apply List.ext_getElem?
         intro j
         rw [List.getElem?_take]
         by_cases hj:j<xs.length*(E.T e).size
         ·rw [if_pos hj]
          have hjv:j<vals.length:=by rw [helsX'.1];exact hj
          have h1:=(hcellX j _ (List.getElem?_eq_getElem hjv)).2.1
          rw [addr_box,Nat.zero_add] at h1
          simp only [World.cell?,hcur] at h1
          rw [List.getElem?_eq_getElem hjv,←h1]
          simp
         ·rw [if_neg hj,List.getElem?_eq_none (by rw [helsX'.1];omega)]
       have hfit:xs.length*i.size+us.length≤cur.size:=by
        rw [hsize,helsY'.1,hcsz,←Nat.add_mul];exact Nat.mul_le_mul_right _ hroom
       have hrun:=run_append_room (P:=E.P) w t ty e i hk hi g xs.length cap cur hcur adY ys.length capY us (by rw [hsize];exact helsY'.1) (fun j v hv=>(hcellY j v hv).2.1) honeY hroom hfit
       have hels:Els S w (E.T e).size (xs++ys) (vals++us):=helsX'.append helsY'
       have hvl:(vals++us).length=(xs.length+ys.length)*(E.T e).size:=by rw [hels.1];simp
       have harr:(cur.toList.take (xs.length*i.size)++us++cur.toList.drop (xs.length*i.size+us.length))=vals++us++cur.toList.drop (xs.length*i.size+us.length):=by rw [hsize,hcv]
       rw [harr] at hrun
       obtain ⟨G',S',R1,X1,hS1,hc1,hG1,htk1⟩:=R.roomRow (n':=xs.length+ys.length) (arr:=(vals++us++cur.toList.drop (xs.length*i.size+us.length)).toArray) hle2 hG hlt hroom (by omega) hcur
        (by
         have h1:=helsX'.1
         have h2:=helsY'.1
         simp only [List.size_toArray,List.length_append,List.length_drop,Array.length_toList,hcsz,h1,h2,hsize]
         have:(xs.length+ys.length)*(E.T e).size≤cap*(E.T e).size:=Nat.mul_le_mul_right _ hroom
         rw [Nat.add_mul] at this
         omega) (fun j hj=>by
         have hjv:j<vals.length:=by rw [helsX'.1];exact hj
         rw [List.append_assoc,List.getElem?_toArray,List.getElem?_append_left hjv,←hcv,List.getElem?_take,if_pos hj]
         simp)
       have hL:(xs++ys).length=xs.length+ys.length:=by simp
       refine ⟨_,_,_,by simp only [Sem.run_bind,hrun,Result.andThen_ok,Sem.run_pure];rfl,.inl rfl,G',S',?_,?_,?_⟩
       ·simp only [hL];exact R1
       ·simp only [hL]
        refine ⟨RV.of_row (hsz0:=by omega) (vals:=vals++us) hL hroom hmX hS1 hc1 ?_ (fun v hv=>?_) (hels.mono X1.sub X1.cell),_,_,hG1,htk1,by omega,fun _=>rfl⟩
        ·rw [←hvl]
         exact List.take_left
        ·rcases List.mem_append.1 hv with h | h
         ·exact honeX v h
         ·exact honeY v h
       ·simp only [hL];exact X1
      ·obtain ⟨cap',arr,S',hrun,R1,X1,hH,hV⟩:=grow xs vals a ad cap helsX' honeX haX (fun j u hu=>(hcellX j u hu).2.1) (fun hn=>by
        subst hn
        have hx:xs=[]:=by
         rcases xs with _ | ⟨x,xs⟩
         ·rfl
         ·exact absurd (haX (by simp)) (by simp)
        subst hx
        refine ⟨rfl,?_⟩
        by_cases hc:0<cap
        ·obtain ⟨g,cur,hq,_⟩:=q4 hc
         cases hq
        ·omega) hyn (by omega) hbytes k
       obtain ⟨R2,X2,h1,h2⟩:=R1.tokSet X1 hkl (fun le' hle'=>by rw [hle2] at hle';cases hle';simp;omega) hH (fun g n' c h _=>by injection h with h _ _;injection h with h;injection h with h;omega)
       have hL:(xs++ys).length=xs.length+ys.length:=by simp
       refine ⟨_,_,_,by simp only [Sem.run_bind,hrun,Result.andThen_ok,Sem.run_pure];rfl,.inl rfl,⟨G.bx,G.tk.set k (.slice (some ⟨w.heap.size,0,none⟩) (xs.length+ys.length) cap'),G.mp,G.fp⟩,S',?_,?_,?_⟩
       ·simp only [hL];exact R2
       ·simp only [hL]
        exact ⟨hV,_,_,h1,h2,by omega,fun _=>rfl⟩
       ·simp only [hL];exact X2
    ·cases hr
   ·cases hr
  ·cases hr
 ·cases hr
end
end Go.Abs
/-
  The abstract walk is sound: the eighth part: any operation that is no call of a function.
-/
namespace Go.Abs
open Go.RowKit
section
variable {E:Env} {B:Nat} {S0:Addr→Prop} {w0:World} {st:St} {G:Gh} {S:Addr→Prop} {w:World} {tmps:Array Value}
theorem OpOk.none {s:Sem Next}:OpOk E B S0 w0 none G S w st.tk tmps s:=fun _ h=>by cases h
theorem ok_minmax (R:Rel E B S0 w0 st G S w tmps) (mn:Bool) {xs:List SV} {vs:Array Value} (ts:Array TypeId) (ty:TypeId) (hl:xs.length=vs.size) (hr:∀(i:Nat) (s:SV) (v:Value),xs[i]?=some s→vs.toList[i]?=some v→RSV st.tk G S w s v) :
  OpOk E B S0 w0 (opMinMax mn xs st) G S w st.tk tmps (do pure (.value (←if mn then Builtin.min_ ts ty vs else Builtin.max_ ts ty vs))) :=
 OpOk.same R fun r' hr' _=>by
  unfold opMinMax at hr'
  split at hr'
  ·rename_i a b
   cases hr'
   obtain ⟨l⟩:=vs
   match l,hl,hr with
   | [x,y],_,hr =>
    cases RV.int_inv (hr 0 _ x rfl rfl)
    cases RV.int_inv (hr 1 _ y rfl rfl)
    refine ⟨rfl,.int .i64 (if mn then min a b else max a b),?_,RV.int _ _⟩
    have h1:min a b=if b<a then b else a:=by omega
    have h2:max a b=if a<b then b else a:=by omega
    cases mn
    ·simp [Builtin.max_,Builtin.max2,h2]
    ·simp [Builtin.min_,Builtin.min2,h1]
  ·cases hr'
theorem rel_list (R:Rel E B S0 w0 st G S w tmps) (d:List Deferred) (xs:Array Operand) :
  ∀(i:Nat) (s:SV) (v:Value),(xs.toList.map (valOf st))[i]?=some s→(xs.map ({ tmps:=tmps,defers:=d }:Act).eval).toList[i]?=some v→RSV st.tk G S w s v:=by
 intro i s v h1 h2
 simp only [Array.toList_map,List.getElem?_map] at h1 h2
 cases hq:xs.toList[i]? with
 | none=>rw [hq] at h1;cases h1
 | some x =>
  rw [hq] at h1 h2
  cases h1;cases h2
  exact R.val x d
theorem orel (R:Rel E B S0 w0 st G S w tmps) (d:List Deferred) (o:Option Operand):ORel st.tk G S w (o.map (valOf st)) (o.map ({ tmps:=tmps,defers:=d }:Act).eval):=by
 cases o with
 | none=>trivial
 | some x=>exact R.val x d
theorem ok_nilCheck (R:Rel E B S0 w0 st G S w tmps) (x:Operand) (d:List Deferred) (o:Oper) (ho:o.op=.nilCheck x) :
  OpOk E B S0 w0 (evalOp E (.nilCheck x) st) G S w st.tk tmps (execOp ({ tmps:=tmps,defers:=d }:Act).eval o) :=
 OpOk.same R fun r' hr _=>by
  have hx:=R.val x d
  unfold execOp
  rw [ho]
  simp only
  generalize hv:({ tmps:=tmps,defers:=d }:Act).eval x=vx at hx ⊢
  simp only [evalOp] at hr
  split at hr
  ·rename_i cs o' he
   cases hr
   rw [he] at hx
   have hx':=hx
   cases hx with
   | ptr _ _ ad g hc hrr=>exact ⟨rfl,_,rfl,hx'⟩
  ·rename_i id o' he
   cases hr
   rw [he] at hx
   have hx':=hx
   obtain ⟨b,hb,rfl⟩:=hx
   exact ⟨rfl,_,rfl,hx'⟩
  ·rename_i f cs he
   cases hr
   rw [he] at hx
   have hx':=hx
   cases hx with
   | fn _ _ vs hl h=>exact ⟨rfl,_,rfl,hx'⟩
  ·rename_i f cs he
   cases hr
   rw [he] at hx
   have hx':=hx
   obtain ⟨vs,rfl,_⟩:=hx
   exact ⟨rfl,_,rfl,hx'⟩
  ·rename_i a b c d' e he
   cases hr
   rw [he] at hx
   have hx':=hx
   obtain ⟨b,hb,rfl⟩:=hx
   exact ⟨rfl,_,rfl,hx'⟩
  ·rename_i l he
   cases hr
   rw [he] at hx
   have hx':=hx
   cases hx
   exact ⟨rfl,_,rfl,hx'⟩
  ·cases hr
theorem Rel.newMap (R:Rel E B S0 w0 st G S w tmps) (o:Obj) (c:MapC) (hk:MapOk E (G.mp++[w.heap.size]) S (w.alloc o) w.heap.size c) :
  Rel E B S0 w0 { st with ax:={ st.ax with mp:=st.ax.mp++[c] } } ⟨G.bx,G.tk,G.mp++[w.heap.size],G.fp⟩ S (w.alloc o) tmps∧Ext st.tk G S w st.tk ⟨G.bx,G.tk,G.mp++[w.heap.size],G.fp⟩ S (w.alloc o)∧(G.mp++[w.heap.size])[st.ax.mp.length]?=some w.heap.size:=by
 have hbel:Below w.heap.size w (w.alloc o):=(Below.refl _ _).alloc (Nat.le_refl _) _
 obtain ⟨R1,X1⟩:=R.transport (S':=S) (w':=w.alloc o) (fun _ h=>h) (fun _ h=>.inl h) hbel
 have hI:=R1.inv
 have hlen:=hI.lmp
 have hnew:∀(i b:Nat),(G.mp++[w.heap.size])[i]?=some b→G.mp[i]?=some b∨(i=st.ax.mp.length∧b=w.heap.size):=by
  intro i b hb
  rcases Nat.lt_trichotomy i G.mp.length with h | h | h
  ·rw [List.getElem?_append_left h] at hb;exact .inl hb
  ·subst h;simp at hb;exact .inr ⟨hlen,hb.symm⟩
  ·rw [List.getElem?_eq_none (by simp;omega)] at hb;cases hb
 have hX0:Ext0 st.tk G S (w.alloc o) st.tk ⟨G.bx,G.tk,G.mp++[w.heap.size],G.fp⟩ S (w.alloc o) :=
  ⟨fun _ _ h=>h,fun _ hv le h1 h2=>⟨hv,le,h1,h2,.inl ⟨rfl,rfl⟩⟩,fun _ h=>h,fun _ _=>Still.refl _ _,fun i b hb=>by
   show (G.mp++[w.heap.size])[i]?=some b
   rw [List.getElem?_append_left (List.getElem?_eq_some_iff.1 hb).1];exact hb⟩
 refine ⟨⟨⟨hI.base,hI.s0,hI.slt,hI.lbx,hI.ltk,hI.old,hI.dist,fun id b cs h1 h2=>?_,hI.tok,hI.apart,by simp [hlen],fun i j b h1 h2=>?_,fun i b h=>?_,fun i b c h1 h2=>?_,hI.flt,hI.fbx,hI.ftk,fun i b h hf=>?_,hI.yl⟩,
  R1.below,R1.len,fun t s v a1 a2=>RSV.mono0 hX0 (R1.sl t s v a1 a2)⟩,X1.step hX0 (fun b hb hf=>?_),by simp [←hlen]⟩
 ·obtain ⟨⟨t',arr,b1,b2,b3⟩,b4⟩:=hI.box id b cs h1 h2
  exact ⟨⟨t',arr,b1,b2,fun j c v a1 a2=>⟨RSV.mono0 hX0 (b3 j c v a1 a2).1,(b3 j c v a1 a2).2⟩⟩,b4⟩
 ·rcases hnew i b h1 with h | ⟨h,hh⟩<;>rcases hnew j b h2 with k | ⟨k,kk⟩
  ·exact hI.dmp i j b h k
  ·have:=(R.inv.mpo i b h).2;omega
  ·have:=(R.inv.mpo j b k).2;omega
  ·omega
 ·rcases hnew i b h with h | ⟨_,rfl⟩
  ·exact hI.mpo i b h
  ·exact ⟨R.inv.base,by simp⟩
 ·rcases hnew i b h2 with h | ⟨rfl,rfl⟩
  ·have hi:i<st.ax.mp.length:=by rw [←hlen];exact (List.getElem?_eq_some_iff.1 h).1
   simp only [List.getElem?_append_left hi] at h1
   exact (hI.mpk i b c h1 h).mono (Kept.refl _ _) (fun m bm h=>⟨hX0.mp m bm h,Kept.refl _ _⟩) (fun _ h=>h) (fun _ _=>Still.refl _ _) (fun _ h=>.inl h)
  ·simp at h1
   subst h1
   exact hk
 ·rcases hnew i b h with h | ⟨_,rfl⟩
  ·exact hI.fmp i b h hf
  ·exact Nat.lt_irrefl _ (R.inv.flt _ hf)
 ·rcases hf with hf | hf | ⟨i,hf⟩ | hf
  ·exact .inl hf
  ·exact .inr (.inl hf)
  ·rcases hnew i b hf with h | ⟨_,rfl⟩
   ·exact .inr (.inr (.inl ⟨i,h⟩))
   ·omega
  ·exact .inr (.inr (.inr hf))
theorem ok_makeMap (hE:EnvOk E) (R:Rel E B S0 w0 st G S w tmps) {t:TypeId} {reserve:Option Operand} {a:Act} :
  OpOk E B S0 w0 (opMakeMap E t reserve st) G S w st.tk tmps (do pure (.value (←Instr.makeMap t (reserve.map a.eval)))):=by
 intro r' hr _
 unfold opMakeMap at hr
 split at hr
 ·rename_i k e hk
  have hS:∀a,S a→a.block≠w.heap.size:=fun a ha e=>by have:=R.inv.slt a ha;omega
  split at hr
  ·cases hr
   obtain ⟨R1,X1,hb⟩:=R.newMap (.map #[] 0) (.ents [] none) ⟨⟨#[],0,[],(MapKept.heap_alloc w _).1,.refl _,⟨rfl,by simp,by simp,by simp,by simp⟩,by simp,by simp⟩,hS⟩
   exact ⟨_,_,_,by simp [run_makeMap],.inl rfl,_,S,R1,⟨w.heap.size,hb,rfl⟩,X1⟩
  ·cases hr
   obtain ⟨R1,X1,hb⟩:=R.newMap (.map #[] 0) (.plain k e 0) ⟨⟨_,World.ownsMap_made _ _ _ _⟩,hS⟩
   exact ⟨_,_,_,by simp [run_makeMap],.inl rfl,_,S,R1,⟨w.heap.size,hb,rfl⟩,X1⟩
 ·cases hr
theorem Rel.setMaps (R:Rel E B S0 w0 st G S w tmps) {id b:Nat} {c:MapC} {w':World} {mp':List MapC} (hc:st.ax.mp[id]?=some c) (hne:c≠.gone) (hb:G.mp[id]?=some b) (hg:w.grownBy w' (some b)) (hd:w.drawn≤w'.drawn) (hl:mp'.length=st.ax.mp.length)
  (hk:(∀b',b'<w.heap.size→b'≠b→w'.heap[b']?=w.heap[b']?)→(∀a,S a→Still w w' a)→∀(i b':Nat) (c':MapC),mp'[i]?=some c'→G.mp[i]?=some b'→MapOk E G.mp S w' b' c') :
  Rel E B S0 w0 { st with ax:={ st.ax with mp:=mp' } } G S w' tmps∧Ext st.tk G S w st.tk G S w':=by
 have hI:=R.inv
 obtain ⟨⟨o,ho,hh⟩,hSb⟩:(∃o,mapLike o=true∧w.heap[b]?=some o)∧∀a,S a→a.block≠b:=by
  have:=hI.mpk id b c hc hb
  match c,hne,this with
  | .plain k e n,_,h=>obtain ⟨⟨D,es,clock,h1,_⟩,h2⟩:=h;exact ⟨⟨_,rfl,h1⟩,h2⟩
  | .ents es um,_,h=>obtain ⟨⟨arr,clock,es0,h1,_⟩,h2⟩:=h;exact ⟨⟨_,rfl,h1⟩,h2⟩
  | .iter (some m) es left cur,_,h=>obtain ⟨⟨bm,_,arr,clock,since,seen,last,_,h1,_⟩,h2⟩:=h;exact ⟨⟨_,rfl,h1⟩,h2⟩
  | .iter none es left cur,_,h =>
   obtain ⟨h1,h2⟩:=h
   rcases h1 with ⟨h1,_⟩ | ⟨bm,_,_,arr,clock,since,seen,last,_,h1,_⟩
   ·exact ⟨⟨_,rfl,h1⟩,h2⟩
   ·exact ⟨⟨_,rfl,h1⟩,h2⟩
  | .gone,h,_=>exact absurd rfl h
 have hbl:∀b',b'<w.heap.size→b'≠b→w'.heap[b']?=w.heap[b']?:=fun b' h1 h2=>hg.block b' h1 (fun e=>h2 (by cases e;rfl))
 have hcell:∀a,S a→Still w w' a:=fun a ha=>Still.of_block (hbl _ (hI.slt a ha) (hSb a ha))
 have hcalm:Below 0 w w':=⟨hg.os,hg.tape,hg.output,hg.size,fun k hk=>absurd hk (Nat.not_lt_zero _),hd⟩
 have hX:Ext st.tk G S w st.tk G S w':=⟨fun _ _ h=>h,fun _ hv le h1 h2=>⟨hv,le,h1,h2,.inl ⟨rfl,rfl⟩⟩,fun _ h=>h,hcell,fun _ _ h=>h,hcalm,fun b' hb' hf=>hbl b' hb' (fun e=>hf (.inr (.inr (.inl ⟨id,by rw [e];exact hb⟩)))),fun _ _ h=>h,fun _ h=>.inl h⟩
 have hne:∀{b':Nat} {arr:Array Value} {t:TypeId} {m:Nat × Nat},w.heap[b']?=some (.cells arr t m)→b'<w.heap.size∧b'≠b:=fun {b'} _ _ _ h=>⟨(Array.getElem?_eq_some_iff.1 h).1,fun e=>by rw [e,hh] at h;cases h;cases ho⟩
 refine ⟨⟨⟨Nat.le_trans hI.base hg.size,hI.s0,fun a ha=>Nat.lt_of_lt_of_le (hI.slt a ha) hg.size,hI.lbx,hI.ltk,fun i b' h=>⟨(hI.old i b' h).1,Nat.lt_of_lt_of_le (hI.old i b' h).2 hg.size⟩,hI.dist,fun id' b' cs h1 h2=>?_,fun t n e hv h1 h2=>?_,hI.apart,by rw [hl];exact hI.lmp,hI.dmp,
  fun i b' h=>⟨(hI.mpo i b' h).1,Nat.lt_of_lt_of_le (hI.mpo i b' h).2 hg.size⟩,hk hbl hcell,fun b' h=>Nat.lt_of_lt_of_le (hI.flt b' h) hg.size,hI.fbx,hI.ftk,hI.fmp,
  ⟨E.Y.ok _ _ _ _ _ _ hI.yl.1 ⟨hcalm,fun b' h=>hbl b' (hI.flt b' h) (fun e=>hI.fmp id b hb (by rw [←e];exact h)),fun _ h=>h,hcell,fun _ h=>.inl h,fun a ha=>Nat.lt_of_lt_of_le (hI.slt a ha) hg.size⟩,hI.yl.2⟩⟩,
  R.below.trans ⟨hg.os,hg.tape,hg.output,hg.size,fun k hk=>hbl k (Nat.lt_of_lt_of_le hk hI.base) (fun e=>by have:=(hI.mpo id b hb).1;omega),hd⟩,R.len,fun t s v a1 a2=>RSV.mono hX (R.sl t s v a1 a2)⟩,hX⟩
 ·obtain ⟨⟨t',arr,b1,b2,b3⟩,b4⟩:=hI.box id' b' cs h1 h2
  exact ⟨⟨t',arr,(hbl b' (hne b1).1 (hne b1).2).trans b1,b2,fun j c v a1 a2=>⟨RSV.mono hX (b3 j c v a1 a2).1,(b3 j c v a1 a2).2⟩⟩,b4⟩
 ·obtain ⟨a,cap,k1,k2,k3,k4⟩:=hI.tok t n e hv h1 h2
  refine ⟨a,cap,k1,k2,k3,fun hlt=>?_⟩
  obtain ⟨g,cur,c1,c2,c3,c4⟩:=k4 hlt
  exact ⟨g,cur,c1,c2,(hbl g (hne c3).1 (hne c3).2).trans c3,c4⟩
theorem MapOk.other (hI:Inv E B S0 st.bx st.tk st.ax G S w) {id b:Nat} {w':World} (hb:G.mp[id]?=some b) (hbl:∀b',b'<w.heap.size→b'≠b→w'.heap[b']?=w.heap[b']?) (hcell:∀a,S a→Still w w' a)
  {i b':Nat} {c:MapC} (h1:st.ax.mp[i]?=some c) (h2:G.mp[i]?=some b') (hne:i≠id) (hit:∀es left cur,c≠.iter (some id) es left cur):MapOk E G.mp S w' b' c:=by
 have h:=hI.mpk i b' c h1 h2
 have hbb:b'≠b:=fun e=>hne (hI.dmp i id b (by rw [←e];exact h2) hb)
 have hk:Kept w w' b':=Kept.of_eq (hbl b' (hI.mpo i b' h2).2 hbb)
 match c,hit,h with
 | .plain k e n,_,h=>exact MapOk.mono (M:=[]) (c:=.plain k e n) h hk (by simp) (fun _ h=>h) hcell (fun _ h=>.inl h)
 | .ents es um,_,h=>exact MapOk.mono (M:=[]) (c:=.ents es um) h hk (by simp) (fun _ h=>h) hcell (fun _ h=>.inl h)
 | .iter none es left cur,_,h=>exact MapOk.mono (M:=[]) (c:=.iter none es left cur) h hk (by simp) (fun _ h=>h) hcell (fun _ h=>.inl h)
 | .iter (some m) es left cur,hit,h =>
  obtain ⟨⟨bm,k1,arr,clock,since,seen,last,k2,k3,k4⟩,k5⟩:=h
  have hm:bm≠b:=fun e=>hit es left cur (by rw [hI.dmp m id b (by rw [←e];exact k1) hb])
  exact ⟨⟨bm,k1,arr,clock,since,seen,last,(hbl bm (hI.mpo m bm k1).2 hm).trans k2,hk _ rfl k3,k4⟩,k5⟩
 | .gone,_,_=>trivial
theorem grown_set {b:Nat} {o:Obj} (hb:w.heap[b]?=some o) (o':Obj):w.grownBy (ChangeMaps.setBlock w b o') (some b) :=
 ⟨rfl,rfl,rfl,by simp [ChangeMaps.setBlock],fun i _ hi=>(MapKept.heap_set hb).2 i (fun e=>hi (by rw [e]))⟩
theorem noIter_get {id:Nat} {mp:List MapC} (h:noIter id mp=true) {i:Nat} {es:List (PV × PV)} {left:List PV} {cur:Option PV}:mp[i]?≠some (.iter (some id) es left cur):=fun hi=>by
 have:=List.all_eq_true.1 h _ (List.mem_of_getElem? hi)
 simp at this
theorem Rel.wrote (R:Rel E B S0 w0 st G S w tmps) {id b:Nat} {es es' es0':List (PV × PV)} {mk mk':Option (PV × Int)} {arr arr':Array MapEntry} {clock clock':Nat} (hid:st.ax.mp[id]?=some (.ents es mk)) (hb:G.mp[id]?=some b) (hh:w.heap[b]?=some (.map arr clock))
  (hW:Wrote S w b arr clock es' arr' clock' es0') (hcl:noIter id st.ax.mp=true∨clock'=clock) (hmk:∀(k:PV) (n:Int),mk'=some (k,n)→∃x∈arr'.toList,x.key=k.toVal∧(x.born:Int)=n) :
  Rel E B S0 w0 (st.mps (st.ax.mp.set id (.ents es' mk'))) G S (ChangeMaps.setBlock w b (.map arr' clock')) tmps∧Ext st.tk G S w st.tk G S (ChangeMaps.setBlock w b (.map arr' clock')):=by
 have hSb:=(R.inv.mpk id b _ hid hb).2
 have hset:=MapKept.heap_set (o':=Obj.map arr' clock') hh
 refine R.setMaps hid (by simp) hb (grown_set hh _) (Nat.le_refl _) (by simp) (fun hbl hcell i b' c' k1 k2=>?_)
 rw [List.getElem?_set] at k1
 split at k1
 ·rename_i e1
  subst e1
  split at k1
  ·cases k1
   rw [hb] at k2
   cases k2
   exact ⟨⟨arr',clock',es0',hset.1,hW.perm,hW.ents,fun i p x a1 a2=>(hW.vals i p x a1 a2).mono (fun _ h=>h) hcell,hmk⟩,hSb⟩
  ·cases k1
 ·rename_i e1
  by_cases hit:∃es left cur,c'=.iter (some id) es left cur
  ·obtain ⟨es2,left,cur,rfl⟩:=hit
   rcases hcl with hcl | hcl
   ·exact absurd k1 (noIter_get hcl)
   ·obtain ⟨⟨bm,q1,arr1,clock1,since,seen,last,q2,q3,q4,q5,q6,q7,q8,q9,q10⟩,qS⟩:=R.inv.mpk i b' _ k1 k2
    rw [hb] at q1
    cases q1
    rw [hh] at q2
    cases q2
    have hne:b'≠b:=fun e=>e1 (R.inv.dmp id i b hb (e▸k2))
    refine ⟨⟨b,hb,arr',clock',since,seen,last,hset.1,(hset.2 b' hne).trans q3,fun y hy=>?_,q5,by rw [hcl];exact q6,q7,fun k hk=>?_,fun y hy hs=>?_,fun k hk=>?_⟩,qS⟩
    ·obtain ⟨x,hx,_,e⟩:=hW.back hcl y hy
     rw [e]
     exact q4 x hx
    ·obtain ⟨h1,x,hx,h2,h3⟩:=q8 k hk
     obtain ⟨x',hx',h4,h5⟩:=hW.keep x hx
     exact ⟨h1,x',hx',h4.trans h2,by rw [h5];exact h3⟩
    ·obtain ⟨x,hx,h4,h5⟩:=hW.back hcl y hy
     obtain ⟨k,hk,h6⟩:=q9 x hx (by rw [←h5];exact hs)
     exact ⟨k,hk,h4.trans h6⟩
    ·obtain ⟨h1,x,hx,h2,h3⟩:=q10 k hk
     obtain ⟨x',hx',h4,h5⟩:=hW.keep x hx
     exact ⟨by rw [hcl];exact h1,x',hx',h4.trans h2,by rw [h5];exact h3⟩
  ·exact MapOk.other R.inv hb hbl hcell k1 k2 (fun e=>e1 e.symm) (fun es2 left cur e=>hit ⟨es2,left,cur,e⟩)
theorem ok_mapUpdate (hE:EnvOk E) (R:Rel E B S0 w0 st G S w tmps) {t:TypeId} {m x y:SV} {vm vx vy:Value} (hm:RSV st.tk G S w m vm) (hx:RSV st.tk G S w x vx) (hy:RSV st.tk G S w y vy) :
  OpOk E B S0 w0 (opMapUpdate E t m x y st) G S w st.tk tmps (do Instr.mapUpdate t vm vx vy;pure .skip):=by
 intro r' hr hside
 unfold opMapUpdate at hr
 split at hr
 ·rename_i id
  obtain ⟨b,hb,rfl⟩:=hm
  split at hr
  ·rename_i k e n k' e' hid hk
   split at hr
   ·rename_i kk' kk a bv hkk hee
    split at hr
    ·rename_i he
     obtain ⟨rfl,rfl,rfl,hno⟩:=he
     cases hr
     obtain ⟨hn,hw1,hw2⟩:=hside
     cases hx
     cases hy
     have ht:=(hE.td t).k
     rw [hk] at ht
     have hku:=(hE.td k).k
     rw [hkk] at hku
     have heu:=(hE.td e).k
     rw [hee] at heu
     obtain ⟨⟨D,hown⟩,hSb⟩:=R.inv.mpk id b _ hid hb
     have hwf:(Lit.int kk a).wf=true:=by simp [Lit.wf,hw1,hw2]
     obtain ⟨w',hrun,hown',hg⟩:=hown.update (Maps.int_keyed hku) ht (by simpa [maxLen] using hn) (Maps.keyOf_int_mk hku hwf) (plainElem_bool heu bv)
     have hdr:w.drawn≤w'.drawn:=by
      obtain ⟨es,clock,hb',F,hs,_⟩:=hown
      obtain ⟨es',clock',hrun',_⟩:=Maps.fit_store (R':=plainElem E.P e) (Maps.int_keyed hku) ht hb' F (Nat.lt_of_le_of_lt hs (by simpa [maxLen] using hn)) (fun _ _ _ _ hz=>hz) (Maps.keyOf_int_mk hku hwf) (plainElem_bool heu bv)
      have h:=hrun.symm.trans hrun'
      injection h with _ h
      rw [h]
      exact Nat.le_refl _
     obtain ⟨R1,X1⟩:=R.setMaps (mp':=st.ax.mp.set id (.plain k e (n+1))) hid (by simp) hb hg hdr (by simp) (fun hbl hcell i b' c' k1 k2=>by
      rw [List.getElem?_set] at k1
      split at k1
      ·rename_i e1
       subst e1
       split at k1
       ·cases k1
        rw [hb] at k2
        cases k2
        exact ⟨⟨_,hown'⟩,hSb⟩
       ·cases k1
      ·rename_i e1
       exact MapOk.other R.inv hb hbl hcell k1 k2 (fun e=>e1 e.symm) (fun es left cur e=>noIter_get hno (e▸k1)))
     exact ⟨_,_,w',by simp [hrun],.inr ⟨rfl,rfl⟩,G,S,R1,rfl,X1⟩
    ·cases hr
   ·cases hr
  ·rename_i es mk k e hid hk
   have ht:=(hE.td t).k
   rw [hk] at ht
   split at hr
   ·rename_i ks key p hks hp
    cases hr
    obtain ⟨ho,hno⟩:=hside
    obtain rfl:=RV.flat_val hx ho.1.1
    obtain ⟨⟨arr,clock,es0,h1,h2,h3,h4,h5⟩,hSb⟩:=R.inv.mpk id b _ hid hb
    obtain ⟨arr',clock',es0',hrun,hW,hcl⟩:=run_mapUpdate hE ht hks h1 h2 h3 h4 ho (RSV.pv hy hp)
    obtain ⟨R1,X1⟩:=R.wrote (mk':=mk) hid hb h1 hW (hno.imp (fun h=>h) hcl) (fun k' n' e=>by
     obtain ⟨z,hz,e1,e2⟩:=h5 k' n' e
     obtain ⟨z',hz',e3,e4⟩:=hW.keep z hz
     exact ⟨z',hz',e3.trans e1,by rw [e4];exact e2⟩)
    exact ⟨_,_,_,by simp [hrun],.inr ⟨rfl,rfl⟩,G,S,R1,rfl,X1⟩
   ·cases hr
  ·cases hr
 ·cases hr
theorem ok_lookup (hE:EnvOk E) (R:Rel E B S0 w0 st G S w tmps) {t:TypeId} {m x:SV} {ok:Bool} {vm vx:Value} (hm:RSV st.tk G S w m vm) (hx:RSV st.tk G S w x vx) :
  OpOk E B S0 w0 (opLookup E t m x ok st) G S w st.tk tmps (do pure (.value (←Instr.lookup t vm vx ok))) :=
 OpOk.same R fun r' hr hside=>by
  unfold opLookup at hr
  have ht:=(hE.td t).k
  split at hr
  ·rename_i k e key hk
   rw [hk] at ht
   split at hr
   ·rename_i ks es z hks hes hz
    cases hr
    obtain rfl:=RV.flat_val hx hside.1.1
    rcases R.ents hm hes with ⟨rfl,rfl⟩ | ⟨b,arr,clock,es0,rfl,h1,h2,h3,h4⟩
    ·obtain ⟨v,hrun,hv⟩:=run_lookupNil (S:=S) (w:=w) hE ht hks hz hside ok
     exact ⟨rfl,v,by simp [hrun],hv⟩
    ·obtain ⟨v,hrun,hv⟩:=run_lookup hE ht hks hz h1 h2 h3 h4 hside ok
     exact ⟨rfl,v,by simp [hrun],hv⟩
   ·cases hr
  ·cases hr
theorem dropIt_eq {id:Nat} {k:PV} {c:MapC} (h:∀es left cur,c≠.iter (some id) es left cur):dropIt id k c=c:=by
 match c,h with
 | .iter (some m) es left cur,h =>
  simp only [dropIt]
  rw [if_neg]
  rintro rfl
  exact h es left cur rfl
 | .iter none es left cur,_=>rfl
 | .plain _ _ _,_=>rfl
 | .ents _ _,_=>rfl
 | .gone,_=>rfl
theorem ok_clear (hE:EnvOk E) (R:Rel E B S0 w0 st G S w tmps) {t:TypeId} {x:SV} {vx:Value} (hx:RSV st.tk G S w x vx) (ty:TypeId) :
  OpOk E B S0 w0 (opClear E t x st) G S w st.tk tmps (do pure (.value (←Builtin.clear_ #[t] ty #[vx]))):=by
 intro r' hr hside
 unfold opClear at hr
 have hk:=(hE.td t).k
 split at hr
 ·rename_i e id off m len cap hke
  rw [hke] at hk
  split at hr
  ·rename_i hc
   obtain ⟨rfl,hsz,hzl⟩:=hc
   split at hr
   ·rename_i cs hcs
    cases hr
    have hside':off+len*(E.T e).size≤cs.length:=hside
    obtain ⟨b,hb,rfl,hlc,hcm⟩:=hx
    have hcs':=getD_some hcs
    obtain ⟨ty',arr,hh,hl,hrr,hcell,_⟩:=R.inv.read hb hcs
    obtain ⟨i,z,hi,hsize,hby,hzz,hzc,hone,hzs,_⟩:=hE.cells (t:=e) (by omega)
    obtain ⟨vs,hvs⟩:∃vs,vs=(Builtin.zeroCells z.cells len).toList:=⟨_,rfl⟩
    have hvl:vs.length=len*(E.T e).size:=by rw [hvs,Array.length_toList,size_zeroCells,hzs]
    have hvone:∀v∈vs,v.oneCell'=true:=fun v hv=>by
     rw [hvs] at hv
     simp only [Builtin.zeroCells,Array.toList_map,List.mem_map] at hv
     obtain ⟨k,_,rfl⟩:=hv
     have hlt:k % z.cells.size<z.cells.size:=Nat.mod_lt _ (by rw [hzs];exact hsz)
     rw [getElem!_pos z.cells _ hlt]
     exact hone _ (by simp)
    have hst:=run_storeCells_at E.P b off ty' vs 0 arr w hh (by omega) hvone
    simp only [Nat.add_zero] at hst
    obtain ⟨R1,X1⟩:=R.setBox hb hcs' hh (arr':=(arr.toList.take off++vs++arr.toList.drop (off+vs.length)).toArray) (cs':=cs.take off++(List.replicate (len*(E.T e).size) (.val .any)++cs.drop (off+len*(E.T e).size)))
     (by simp [hl,hvl]) (fun j c v a1 a2=>by
      simp only [List.append_assoc,List.getElem?_toArray] at a2
      rcases Nat.lt_trichotomy j off with hj | hj | hj
      ·rw [List.getElem?_append_left (by simp;omega),List.getElem?_take,if_pos hj] at a1 a2
       exact hrr j c v a1 (by simpa using a2)
      all_goals
       have ht:(cs.take off).length=off:=by simp;omega
       have ht':(arr.toList.take off).length=off:=by simp;omega
       rw [List.getElem?_append_right (by omega),ht] at a1
       rw [List.getElem?_append_right (by omega),ht'] at a2
       by_cases hj2:j - off<len*(E.T e).size
       ·rw [List.getElem?_append_left (by simpa using hj2)] at a1
        rw [List.getElem?_append_left (by omega)] at a2
        have h1:=List.mem_of_getElem? a1
        rw [List.mem_replicate] at h1
        obtain ⟨_,rfl⟩:=h1
        exact ⟨RV.any v,hvone v (List.mem_of_getElem? a2)⟩
       ·rw [List.getElem?_append_right (by simp;omega),List.getElem?_drop] at a1
        rw [List.getElem?_append_right (by omega),List.getElem?_drop] at a2
        refine hrr _ c v a1 ?_
        rw [←Array.getElem?_toList,←a2]
        congr 1
        simp
        omega)
    by_cases h0:len=0
    ·subst h0
     have hv0:vs=[]:=List.eq_nil_of_length_eq_zero (by rw [hvl,Nat.zero_mul])
     subst hv0
     have e1:cs.take off++(List.replicate (0*(E.T e).size) (.val .any)++cs.drop (off+0*(E.T e).size))=cs:=by simp
     have e2:st.setBx id (some (cs.take off++(List.replicate (0*(E.T e).size) (.val .any)++cs.drop (off+0*(E.T e).size))))=st:=by
      rw [e1]
      unfold St.setBx
      have e3:st.bx.set id (some cs)=st.bx:=by
       apply List.ext_getElem?
       intro k
       rw [List.getElem?_set]
       split
       ·rename_i hkk
        subst hkk
        rw [if_pos (List.getElem?_eq_some_iff.1 hcs').1,hcs']
       ·rfl
      rw [e3]
     refine ⟨_,_,w,by simp [Builtin.clear_,run_underlying hk];rfl,.inl rfl,G,S,?_,RV.any _,?_⟩
     ·rw [e2];exact R
     ·rw [e2];exact Ext.refl _ _ _ _
    ·obtain ⟨k,rfl⟩:∃k,len=k+1:=⟨len - 1,by omega⟩
     have hzv:∀w,(zeroValue e).run E.P w=.ok z w:=fun w=>by simp [zeroValue,typeInfo,hi,hzz]
     refine ⟨_,_,_,by simp [Builtin.clear_,run_underlying hk,hzv,←hvs,hst];rfl,.inl rfl,G,S,R1,RV.any _,X1⟩
   ·cases hr
  ·cases hr
 ·cases hr
theorem ok_delete (hE:EnvOk E) (R:Rel E B S0 w0 st G S w tmps) {t k':TypeId} {m x:SV} {vm vx:Value} (hm:RSV st.tk G S w m vm) (hx:RSV st.tk G S w x vx) (ty:TypeId) :
  OpOk E B S0 w0 (opDelete E t k' m x st) G S w st.tk tmps (do pure (.value (←Builtin.delete_ #[t,k'] ty #[vm,vx]))):=by
 intro r' hr hside
 unfold opDelete at hr
 have ht:=(hE.td t).k
 split at hr
 ·rename_i k e id key hk
  rw [hk] at ht
  obtain ⟨b,hb,rfl⟩:=hm
  split at hr
  ·rename_i ks es mk hks hid
   split at hr
   ·rename_i hkk
    subst hkk
    cases hr
    obtain rfl:=RV.flat_val hx hside.1.1
    obtain ⟨⟨arr,clock,es0,h1,h2,h3,h4,h5⟩,hSb⟩:=R.inv.mpk id b _ hid hb
    obtain ⟨arr',es0',hrun,p1,p2,p3,p4⟩:=run_delete (ty:=ty) hE ht hks h1 h2 h3 h4 hside
    have hset:=MapKept.heap_set (o':=Obj.map arr' clock) h1
    have hidl:=(List.getElem?_eq_some_iff.1 hid).1
    obtain ⟨R1,X1⟩:=R.setMaps (mp':=(st.ax.mp.map (dropIt id key)).set id (.ents (delE es key) none)) hid (by simp) hb (grown_set h1 (.map arr' clock)) (Nat.le_refl _) (by simp) (fun hbl hcell i b' c' k1 k2=>by
     rw [List.getElem?_set] at k1
     split at k1
     ·rename_i e1
      subst e1
      split at k1
      ·cases k1
       rw [hb] at k2
       cases k2
       exact ⟨⟨arr',clock,es0',hset.1,p1,p2,fun i p x a1 a2=>(p3 i p x a1 a2).mono (fun _ h=>h) hcell,by simp⟩,hSb⟩
      ·cases k1
     ·rename_i e1
      rw [List.getElem?_map] at k1
      obtain ⟨c,hc,rfl⟩:=Option.map_eq_some_iff.1 k1
      by_cases hit:∃es left cur,c=.iter (some id) es left cur
      ·obtain ⟨es2,left,cur,rfl⟩:=hit
       obtain ⟨⟨bm,q1,arr1,clock1,since,seen,last,q2,q3,q4,q5,q6,q7,q8,q9,q10⟩,qS⟩:=R.inv.mpk i b' _ hc k2
       rw [hb] at q1
       cases q1
       rw [h1] at q2
       cases q2
       have hne:b'≠b:=fun e=>e1 (R.inv.dmp id i b hb (e▸k2))
       simp only [dropIt,if_true]
       have hkne:∀{k2:PV},k2.flat=true→keq key k2=false→k2.toVal≠key.toVal:=fun {k2} h6 h7 h8=>by
        rw [toVal_inj h6 hside.1.1 h8,keq_self hside.1.1] at h7
        cases h7
       refine ⟨⟨b,hb,arr',clock,since,seen,last,hset.1,(hset.2 b' hne).trans q3,fun y hy=>q4 y ((p4 y).1 hy).1,q5,q6,q7.filter _,fun k2 hk2=>?_,fun y hy hs=>?_,fun k2 hk2=>?_⟩,qS⟩
       ·rw [List.mem_filter] at hk2
        obtain ⟨h6,x,hx,h7,h8⟩:=q8 k2 hk2.1
        exact ⟨h6,x,(p4 x).2 ⟨hx,by rw [h7];exact hkne h6 (by simpa using hk2.2)⟩,h7,h8⟩
       ·obtain ⟨h6,h7⟩:=(p4 y).1 hy
        obtain ⟨k2,h8,h9⟩:=q9 y h6 hs
        refine ⟨k2,List.mem_filter.2 ⟨h8,?_⟩,h9⟩
        cases hq:keq key k2 with
        | false=>rfl
        | true=>rw [(keq_iff hside.1.1).1 hq] at h7;exact absurd h9 h7
       ·have hcur:cur=some k2∧keq key k2=false:=by
         cases cur with
         | none=>cases hk2
         | some c =>
          simp only at hk2
          split at hk2
          ·cases hk2
          ·rename_i hq
           cases hk2
           exact ⟨rfl,by simpa using hq⟩
        obtain ⟨h6,x,hx,h7,h8⟩:=q10 k2 hcur.1
        exact ⟨h6,x,(p4 x).2 ⟨hx,by rw [h7];exact hkne h6.2 hcur.2⟩,h7,h8⟩
      ·rw [dropIt_eq (fun es2 left cur e=>hit ⟨es2,left,cur,e⟩)]
       exact MapOk.other R.inv hb hbl hcell hc k2 (fun e=>e1 e.symm) (fun es2 left cur e=>hit ⟨es2,left,cur,e⟩))
    exact ⟨.value (.tuple #[]),.tuple #[],_,by simp [hrun],.inl rfl,G,S,R1,RV.tup [] [] rfl (by simp),X1⟩
   ·cases hr
  ·cases hr
 ·cases hr
theorem ok_entryStore (R:Rel E B S0 w0 st G S w tmps) {t:TypeId} {m x y:SV} {vm vx vy:Value} (hm:RSV st.tk G S w m vm) (hx:RSV st.tk G S w x vx) (hy:RSV st.tk G S w y vy) :
  OpOk E B S0 w0 (opEntryStore m x y st) G S w st.tk tmps (do Instr.entryStore t vm vx vy;pure .skip):=by
 intro r' hr hside
 unfold opEntryStore at hr
 split at hr
 ·rename_i id n p hp
  obtain ⟨b,hb,rfl⟩:=hm
  split at hr
  ·rename_i es k n' hid
   split at hr
   ·rename_i hf
    cases hr
    have hnn:n=n':=hside
    subst hnn
    cases RV.int_inv hx
    obtain ⟨⟨arr,clock,es0,h1,h2,h3,h4,h5⟩,hSb⟩:=R.inv.mpk id b _ hid hb
    obtain ⟨arr',es0',hrun,hW⟩:=run_entryStore (E:=E) (t:=t) h1 h2 h3 h4 hf (h5 k n rfl) (RSV.pv hy hp)
    obtain ⟨R1,X1⟩:=R.wrote (mk':=none) hid hb h1 hW (.inr rfl) (fun _ _ e=>by cases e)
    exact ⟨_,_,_,by simp [hrun],.inr ⟨rfl,rfl⟩,G,S,R1,rfl,X1⟩
   ·cases hr
  ·cases hr
 ·cases hr
theorem map_fst_zip {ks vs:List PV} (h:ks.length=vs.length):(ks.zip vs).map (·.1)=ks:=by
 rw [List.map_fst_zip (by omega)]
theorem ok_range (hE:EnvOk E) (R:Rel E B S0 w0 st G S w tmps) {t:TypeId} {m:SV} {vm:Value} (hm:RSV st.tk G S w m vm) :
  OpOk E B S0 w0 (opRange E t m st) G S w st.tk tmps (do pure (.value (←Instr.range t vm))):=by
 intro r' hr _
 unfold opRange at hr
 have ht:=(hE.td t).k
 have hS:∀a,S a→a.block≠w.heap.size:=fun a ha e=>by have:=R.inv.slt a ha;omega
 have hnew:=fun o=>MapKept.heap_alloc w o
 have key:∀(bm:Nat) (arr:Array MapEntry) (clock:Nat) (es0:List (PV × PV)) (left:List PV),w.heap[bm]?=some (.map arr clock)→Ents es0 arr clock→(es0.map (·.1)).Perm left →
   IterOk (w.alloc (.mapIter (some bm) clock #[] clock)) w.heap.size bm left none:=fun bm arr clock es0 left h1 h3 hp=>by
  have hlt:bm<w.heap.size:=(Array.getElem?_eq_some_iff.1 h1).1
  refine ⟨arr,clock,clock,#[],clock,((hnew _).2 bm hlt).trans h1,(hnew _).1,h3.born,Nat.le_refl _,Nat.le_refl _,hp.nodup_iff.1 h3.nodK,fun k hk=>?_,fun x hx _=>?_,by simp⟩
  ·obtain ⟨p,hp1,rfl⟩:=List.mem_map.1 (hp.mem_iff.2 hk)
   obtain ⟨i,hi⟩:=List.getElem?_of_mem hp1
   have hil:i<arr.size:=by rw [←h3.len];exact (List.getElem?_eq_some_iff.1 hi).1
   obtain ⟨h4,h5⟩:=h3.key i p _ hi (Array.getElem?_eq_getElem hil)
   exact ⟨h4,arr[i],by simp,h5,by simp⟩
  ·obtain ⟨i,hi⟩:=List.getElem?_of_mem hx
   have hi':arr[i]?=some x:=by simpa using hi
   have hil:i<es0.length:=by rw [h3.len];exact (Array.getElem?_eq_some_iff.1 hi').1
   exact ⟨_,hp.mem_iff.1 (List.mem_map.2 ⟨_,List.getElem_mem hil,rfl⟩),(h3.key i _ x (List.getElem?_eq_getElem hil) hi').2⟩
 split at hr
 ·rename_i k e id hk
  rw [hk] at ht
  obtain ⟨b,hb,rfl⟩:=hm
  split at hr
  ·rename_i es um hid
   cases hr
   obtain ⟨⟨arr,clock,es0,h1,h2,h3,h4,h5⟩,hSb⟩:=R.inv.mpk id b _ hid hb
   obtain ⟨R1,X1,hb1⟩:=R.newMap (.mapIter (some b) clock #[] clock) (.iter (some id) [] (es.map (·.1)) none) ⟨⟨b,by rw [List.getElem?_append_left (List.getElem?_eq_some_iff.1 hb).1];exact hb,key b arr clock es0 _ h1 h3 (h2.map _)⟩,hS⟩
   exact ⟨_,_,_,by simp [run_range_map w t k e b arr clock ht h1],.inl rfl,_,S,R1,⟨w.heap.size,hb1,rfl⟩,X1⟩
  ·cases hr
 ·rename_i k e ks vs hk
  rw [hk] at ht
  cases hr
  cases hm with
  | mapNil =>
   obtain ⟨R1,X1,hb1⟩:=R.newMap (.mapIter none 0 #[] 0) (.iter none [] [] none) ⟨.inl ⟨(hnew _).1,rfl,rfl⟩,hS⟩
   exact ⟨_,_,_,by simp [run_range_nilMap w t k e ht],.inl rfl,_,S,R1,⟨w.heap.size,hb1,rfl⟩,X1⟩
  | map _ _ es0 b arr clock hp hl hSb hb he hv =>
   have hlt:b<w.heap.size:=(Array.getElem?_eq_some_iff.1 hb).1
   have hstill:∀a,S a→Still w (w.alloc (.mapIter (some b) clock #[] clock)) a:=fun a ha=>Still.of_block ((hnew _).2 _ (R.inv.slt a ha))
   obtain ⟨R1,X1,hb1⟩:=R.newMap (.mapIter (some b) clock #[] clock) (.iter none (ks.zip vs) ks none) ⟨.inr ⟨b,hSb,⟨arr,clock,es0,((hnew _).2 b hlt).trans hb,hp,he,fun i p x a1 a2=>(hv i p x a1 a2).mono (fun _ h=>h) hstill,by simp⟩,
    key b arr clock es0 ks hb he (by have:=hp.map (·.1);rwa [map_fst_zip hl] at this)⟩,hS⟩
   exact ⟨_,_,_,by simp [run_range_map w t k e b arr clock ht hb],.inl rfl,_,S,R1,⟨w.heap.size,hb1,rfl⟩,X1⟩
 ·cases hr
theorem Rel.iter (R:Rel E B S0 w0 st G S w tmps) {id b:Nat} {src:Option Nat} {es es':List (PV × PV)} {left:List PV} {cur:Option PV} (hid:st.ax.mp[id]?=some (.iter src es left cur)) (hb:G.mp[id]?=some b) (he:iterEs st src es=some es') :
  (w.heap[b]?=some (.mapIter none 0 #[] 0)∧left=[]∧cur=none)∨∃(bm:Nat) (arr:Array MapEntry) (clock since:Nat) (seen:Array Nat) (last:Nat) (es0:List (PV × PV)),w.heap[bm]?=some (.map arr clock)∧es0.Perm es'∧Ents es0 arr clock ∧
   (∀(i:Nat) (p:PV × PV) (x:MapEntry),es0[i]?=some p→arr[i]?=some x→RV S w p.2 x.val)∧bm≠b∧w.heap[b]?=some (.mapIter (some bm) since seen last)∧(∀x∈arr.toList,x.born<since)∧since≤last∧since≤clock ∧
   left.Nodup∧(∀k∈left,k.flat=true∧∃x∈arr.toList,x.key=k.toVal∧seen.contains x.born=false)∧(∀x∈arr.toList,seen.contains x.born=false→∃k∈left,x.key=k.toVal) ∧
   (∀k,cur=some k→(last=clock∧k.flat=true)∧∃x∈arr.toList,x.key=k.toVal∧seen.back?=some x.born)∧((∃m,src=some m∧G.mp[m]?=some bm)∨(src=none∧S ⟨bm,0,none⟩∧es=es')):=by
 have h:=R.inv.mpk id b _ hid hb
 cases src with
 | some m =>
  obtain ⟨⟨bm,q1,arr,clock,since,seen,last,q2,q3,q4,q5,q6,q7,q8,q9,q10⟩,qS⟩:=h
  simp only [iterEs] at he
  split at he
  ·rename_i es1 um hm
   cases he
   obtain ⟨⟨arr1,clock1,es0,h1,h2,h3,h4,_⟩,_⟩:=R.inv.mpk m bm _ hm q1
   rw [h1] at q2
   cases q2
   exact .inr ⟨bm,arr,clock,since,seen,last,es0,h1,h2,h3,h4,(fun e=>by rw [e,q3] at h1;cases h1),q3,q4,q5,q6,q7,q8,q9,q10,.inl ⟨m,rfl,q1⟩⟩
  ·cases he
 | none =>
  cases he
  obtain ⟨h,qS⟩:=h
  rcases h with ⟨h1,h2⟩ | ⟨bm,h1,⟨arr1,clock1,es0,p1,p2,p3,p4,_⟩,arr,clock,since,seen,last,q2,q3,q4,q5,q6,q7,q8,q9,q10⟩
  ·refine .inl ⟨h1,h2.1,h2.2⟩
  ·rw [p1] at q2
   cases q2
   exact .inr ⟨bm,arr1,clock1,since,seen,last,es0,p1,p2,p3,p4,(fun e=>by rw [e,q3] at p1;cases p1),q3,q4,q5,q6,q7,q8,q9,q10,.inr ⟨rfl,h1,rfl⟩⟩
theorem ent_unique {es:List (PV × PV)} {arr:Array MapEntry} {clock:Nat} (h:Ents es arr clock) {x y:MapEntry} (hx:x∈arr.toList) (hy:y∈arr.toList) (e:x.key=y.key∨x.born=y.born):x=y:=by
 obtain ⟨i,hi⟩:=List.getElem?_of_mem hx
 obtain ⟨j,hj⟩:=List.getElem?_of_mem hy
 have hi':arr[i]?=some x:=by simpa using hi
 have hj':arr[j]?=some y:=by simpa using hj
 have hil:i<es.length:=by rw [h.len];exact (Array.getElem?_eq_some_iff.1 hi').1
 have hjl:j<es.length:=by rw [h.len];exact (Array.getElem?_eq_some_iff.1 hj').1
 have hij:i=j:=by
  rcases e with e | e
  ·have h1:=h.key i _ x (List.getElem?_eq_getElem hil) hi'
   have h2:=h.key j _ y (List.getElem?_eq_getElem hjl) hj'
   have h3:es[i].1=es[j].1:=toVal_inj h1.1 h2.1 (by rw [←h1.2,←h2.2,e])
   refine (List.getElem?_inj (by simpa using hil) h.nodK).1 ?_
   rw [List.getElem?_map,List.getElem?_map,List.getElem?_eq_getElem hil,List.getElem?_eq_getElem hjl]
   simp [h3]
  ·refine (List.getElem?_inj (by have:=(Array.getElem?_eq_some_iff.1 hi').1;simpa using this) h.nodB).1 ?_
   rw [List.getElem?_map,List.getElem?_map,hi,hj]
   simp [e]
 subst hij
 rw [hi] at hj
 exact Option.some.inj hj
theorem ent_at {es:List (PV × PV)} {arr:Array MapEntry} {clock:Nat} (h:Ents es arr clock) {x:MapEntry} (hx:x∈arr.toList):∃(i:Nat) (p:PV × PV),es[i]?=some p∧arr[i]?=some x∧p.1.flat=true∧x.key=p.1.toVal:=by
 obtain ⟨i,hi⟩:=List.getElem?_of_mem hx
 have hi':arr[i]?=some x:=by simpa using hi
 have hil:i<es.length:=by rw [h.len];exact (Array.getElem?_eq_some_iff.1 hi').1
 have:=h.key i _ x (List.getElem?_eq_getElem hil) hi'
 exact ⟨i,_,List.getElem?_eq_getElem hil,hi',this.1,this.2⟩
theorem ok_entry (R:Rel E B S0 w0 st G S w tmps) {x:SV} {vx:Value} (hx:RSV st.tk G S w x vx) :
  OpOk E B S0 w0 (opEntry x st) G S w st.tk tmps (do pure (.value (←Instr.entry vx))) :=
 OpOk.same R fun r' hr hside=>by
  unfold opEntry at hr
  split at hr
  ·rename_i id
   obtain ⟨b,hb,rfl⟩:=hx
   split at hr
   ·rename_i src es left k hid
    split at hr
    ·rename_i es' he
     cases hr
     rcases R.iter hid hb he with ⟨_,_,h⟩ | ⟨bm,arr,clock,since,seen,last,es0,h1,h2,h3,h4,_,h5,_,_,_,_,_,_,h6,_⟩
     ·cases h
     ·obtain ⟨⟨rfl,hf⟩,y,hy,hyk,hyb⟩:=h6 k rfl
      obtain ⟨i,p,a1,a2,a3,a4⟩:=ent_at h3 hy
      have hkp:k=p.1:=toVal_inj hf a3 (hyk.symm.trans a4)
      have hn:NodK es':=show (es'.map (·.1)).Nodup from (h2.map (·.1)).nodup_iff.1 h3.nodK
      have hl:lookE es' k=some p.2:=(lookE_some hn hf).2 (h2.mem_iff.1 (by rw [hkp];exact List.mem_of_getElem? a1))
      have hfind:arr.find? (·.born == y.born)=some y:=by rw [←Array.find?_toList];exact find_born y arr.toList h3.nodB hy
      refine ⟨rfl,.tuple #[y.key,y.val],?_,?_⟩
      ·simp [Instr.entry,getObj,Sem.run,h5,h1,hyb,hfind,Result.andThen]
      ·show RV S w (.tup [k,(lookE es' k).getD .any]) _
       rw [hl]
       exact RV.tup [k,p.2] [y.key,y.val] rfl (RVs.cons (by rw [hyk];exact RV.of_key hf) (RVs.cons (h4 i p y a1 a2) RVs.nil)).2
    ·cases hr
   ·cases hr
  ·cases hr
theorem ok_next (R:Rel E B S0 w0 st G S w tmps) {x:SV} {K:SV→St→Prop} (h:wpNext x st K) {vx:Value} (hx:RSV st.tk G S w x vx) (ty:TypeId) :
  ∃v w',(Instr.next vx false ty).run E.P w=.ok v w'∧∃sv st',K sv st'∧Rel E B S0 w0 st' G S w' tmps∧RSV st'.tk G S w' sv v∧Ext st.tk G S w st'.tk G S w':=by
 unfold wpNext at h
 split at h
 ·rename_i id
  obtain ⟨b,hb,rfl⟩:=hx
  split at h
  ·rename_i src es left cur hid
   split at h
   ·rename_i es' he
    obtain ⟨hdone,hmore⟩:=h
    rcases R.iter hid hb he with ⟨h1,rfl,_⟩ | ⟨bm,arr,clock,since,seen,last,es0,h1,h2,h3,h4,hne,h5,q4,q5,q6,q7,q8,q9,_,q11⟩
    ·exact ⟨_,w,by simp [Instr.next,getObj,Sem.run,h1,Result.andThen],_,st,hdone rfl,R,RV.tup [.bool false] [.bool false] rfl (RVs.cons (.bool _) RVs.nil).2,Ext.refl _ _ _ _⟩
    ·rcases run_next_at (P:=E.P) w ty b bm since last seen arr clock h5 h1 q4 q5 with ⟨h0,hrun⟩ | ⟨y,hy,w1,hal,hrun⟩
     ·have hleft:left=[]:=by
       cases hq:left with
       | nil=>rfl
       | cons k r =>
        obtain ⟨_,z,hz,_,hzs⟩:=q8 k (by rw [hq];simp)
        have:z∈(leftOf arr seen):=by
         unfold leftOf
         rw [Array.mem_filter]
         exact ⟨by simpa using hz,by simpa using hzs⟩
        have h6:=Array.size_pos_of_mem this
        omega
      exact ⟨_,w,hrun,_,st,hdone hleft,R,RV.tup [.bool false] [.bool false] rfl (RVs.cons (.bool _) RVs.nil).2,Ext.refl _ _ _ _⟩
     ·obtain ⟨hym,hys⟩:=mem_left hy
      obtain ⟨k,hk,hyk⟩:=q9 y hym hys
      have hkf:=(q8 k hk).1
      obtain ⟨i,p,a1,a2,a3,a4⟩:=ent_at h3 hym
      have hkp:k=p.1:=toVal_inj hkf a3 (hyk.symm.trans a4)
      have hmem:(k,p.2)∈es':=h2.mem_iff.1 (by rw [hkp];exact List.mem_of_getElem? a1)
      have hw1:∀j:Nat,w1.heap[j]?=w.heap[j]?:=fun j=>by rcases hal with h | h<;>(rw [h];try rfl)
      have hset:=MapKept.heap_set (w:=w1) (o':=Obj.mapIter (some bm) since (seen.push y.born) clock) ((hw1 b).trans h5)
      have hg:w.grownBy (ChangeMaps.setBlock w1 b (.mapIter (some bm) since (seen.push y.born) clock)) (some b):=by
       refine ⟨?_,?_,?_,?_,fun j _ hj=>(hset.2 j (fun e=>hj (by rw [e]))).trans (hw1 j)⟩
       all_goals rcases hal with h | h<;>(rw [h];simp [ChangeMaps.setBlock];try rfl)
      obtain ⟨R1,X1⟩:=R.setMaps (mp':=st.ax.mp.set id (.iter src es (left.filter fun z=>!keq k z) (some k))) hid (by simp) hb hg (by show w.drawn≤w1.drawn;rcases hal with h | h<;>rw [h];exact Nat.le_refl _;exact Nat.le_succ _) (by simp) (fun hbl hcell j b' c' k1 k2=>by
       rw [List.getElem?_set] at k1
       have hiter:IterOk (ChangeMaps.setBlock w1 b (.mapIter (some bm) since (seen.push y.born) clock)) b bm (left.filter fun z=>!keq k z) (some k):=by
        refine ⟨arr,clock,since,seen.push y.born,clock,(hset.2 bm hne).trans ((hw1 bm).trans h1),hset.1,q4,q6,q6,q7.filter _,fun k' hk'=>?_,fun z hz hs=>?_,fun k' hk'=>?_⟩
        ·rw [List.mem_filter] at hk'
         obtain ⟨h6,z,hz,h7,h8⟩:=q8 k' hk'.1
         refine ⟨h6,z,hz,h7,?_⟩
         have hnb:z.born≠y.born:=fun e=>by
          have:=ent_unique h3 hz hym (.inr e)
          subst this
          have h9:k=k':=toVal_inj hkf h6 (hyk.symm.trans h7)
          rw [←h9,keq_self hkf] at hk'
          simp at hk'
         rw [contains_push,h8]
         simpa using hnb
        ·rw [contains_push] at hs
         simp only [Bool.or_eq_false_iff] at hs
         obtain ⟨k',h6,h7⟩:=q9 z hz hs.1
         refine ⟨k',List.mem_filter.2 ⟨h6,?_⟩,h7⟩
         cases hq:keq k k' with
         | false=>rfl
         | true =>
          rw [←(keq_iff hkf).1 hq] at h7
          have:=ent_unique h3 hz hym (.inl (h7.trans hyk.symm))
          rw [this] at hs
          simp at hs
        ·cases hk'
         exact ⟨⟨rfl,hkf⟩,y,hym,hyk,by simp⟩
       split at k1
       ·rename_i e1
        subst e1
        split at k1
        ·cases k1
         rw [hb] at k2
         cases k2
         have hSb:∀a,S a→a.block≠b:=by
          have:=R.inv.mpk id b _ hid hb
          cases src with
          | none=>exact this.2
          | some m=>exact this.2
         rcases q11 with ⟨m,rfl,hm⟩ | ⟨rfl,hSm,rfl⟩
         ·exact ⟨⟨bm,hm,hiter⟩,hSb⟩
         ·exact ⟨.inr ⟨bm,hSm,⟨arr,clock,es0,(hset.2 bm hne).trans ((hw1 bm).trans h1),h2,h3,fun i p z b1 b2=>(h4 i p z b1 b2).mono (fun _ h=>h) hcell,by simp⟩,hiter⟩,hSb⟩
        ·cases k1
       ·rename_i e1
        refine MapOk.other R.inv hb hbl hcell k1 k2 (fun e=>e1 e.symm) (fun es2 left2 cur2 e=>?_)
        subst e
        obtain ⟨⟨bm2,r1,arr2,clock2,_,_,_,r2,_⟩,_⟩:=R.inv.mpk j b' _ k1 k2
        rw [hb] at r1
        cases r1
        rw [h5] at r2
        cases r2)
      refine ⟨_,_,hrun,_,_,hmore k p.2 hk hmem,R1,?_,X1⟩
      refine RV.tup [.bool true,k,p.2] [.bool true,y.key,y.val] rfl (RVs.cons (.bool _) (RVs.cons (by rw [hyk];exact RV.of_key hkf) (RVs.cons ?_ RVs.nil))).2
      exact (h4 i p y a1 a2).mono (fun _ h=>h) X1.cell
   ·exact h.elim
  ·exact h.elim
 ·exact h.elim
theorem ok_mapEntry (hE:EnvOk E) (R:Rel E B S0 w0 st G S w tmps) {t:TypeId} {m x:SV} {K:SV→St→Prop} (h:wpMapEntry E t m x st K) {vm vx:Value} (hm:RSV st.tk G S w m vm) (hx:RSV st.tk G S w x vx) :
  ∃v w',(Instr.mapEntry t vm vx).run E.P w=.ok v w'∧∃sv st',K sv st'∧Rel E B S0 w0 st' G S w' tmps∧RSV st'.tk G S w' sv v∧Ext st.tk G S w st'.tk G S w':=by
 unfold wpMapEntry at h
 have ht:=(hE.td t).k
 split at h
 ·rename_i k e id key hk
  rw [hk] at ht
  split at h
  ·rename_i ks es um z hks hid hz
   obtain ⟨ho,hno,hK⟩:=h
   obtain ⟨b,hb,rfl⟩:=hm
   obtain rfl:=RV.flat_val hx ho.1.1
   obtain ⟨⟨arr,clock,es0,h1,h2,h3,h4,h5⟩,hSb⟩:=R.inv.mpk id b _ hid hb
   obtain ⟨arr',clock',es0',v,n,hrun,hW,hcl,hv,hn⟩:=run_mapEntry hE ht hks hz h1 h2 h3 h4 ho
   obtain ⟨R1,X1⟩:=R.wrote (mk':=some (key,n)) hid hb h1 hW (hno.imp (fun h=>h) hcl) (fun k' n' e=>by cases e;exact hn)
   exact ⟨_,_,hrun,_,_,hK n,R1,RV.tup [_,.int .i64 n] [v,.int .i64 n] rfl (RVs.cons (hv.mono (fun _ h=>h) X1.cell) (RVs.cons (.int _ _) RVs.nil)).2,X1⟩
  ·exact h.elim
 ·exact h.elim
theorem ok_builtin (hE:EnvOk E) (R:Rel E B S0 w0 st G S w tmps) (b:Builtin) (args:Array Operand) (ts:Array TypeId) (d:List Deferred) (o:Oper) (ho:o.op=.call { callee:=.builtin b,args:=args,argTypes:=ts }) :
  OpOk E B S0 w0 (opBuiltin E b ts.toList (args.toList.map (valOf st)) st) G S w st.tk tmps (execOp ({ tmps:=tmps,defers:=d }:Act).eval o):=by
 have hrun:execOp ({ tmps:=tmps,defers:=d }:Act).eval o=builtin b ts o.type (args.map fun | .const _=>true | _=>false) (args.map ({ tmps:=tmps,defers:=d }:Act).eval):=by
  unfold execOp
  rw [ho]
  rfl
 rw [hrun]
 have hrel:=rel_list R d args
 have hlen:(args.toList.map (valOf st)).length=(args.map ({ tmps:=tmps,defers:=d }:Act).eval).size:=by simp
 generalize args.toList.map (valOf st)=xs at hrel hlen ⊢
 generalize args.map ({ tmps:=tmps,defers:=d }:Act).eval=vs at hrel hlen ⊢
 generalize (args.map fun | .const _=>true | _=>false)=cn
 obtain ⟨tl⟩:=ts
 obtain ⟨vl⟩:=vs
 simp only at hrel hlen ⊢
 unfold opBuiltin
 split
 ·rename_i t x
  match vl,hlen,hrel with
  | [v],_,hrel=>exact ok_len hE R (hrel 0 _ v rfl rfl) o.type
 ·rename_i t t' s y
  match vl,hlen,hrel with
  | [v,u],_,hrel =>
   split
   ·rename_i ht
    subst ht
    exact ok_append hE R (hrel 0 _ v rfl rfl) (hrel 1 _ u rfl rfl)
   ·exact OpOk.none
 ·exact ok_minmax R true _ o.type hlen hrel
 ·exact ok_minmax R false _ o.type hlen hrel
 ·rename_i t k m x
  match vl,hlen,hrel with
  | [v,u],_,hrel=>exact ok_delete hE R (hrel 0 _ v rfl rfl) (hrel 1 _ u rfl rfl) o.type
 ·rename_i t x
  match vl,hlen,hrel with
  | [v],_,hrel=>exact ok_clear hE R (hrel 0 _ v rfl rfl) o.type
 ·exact OpOk.none
theorem ok_op (hE:EnvOk E) (R:Rel E B S0 w0 st G S w tmps) (o:Oper) (d:List Deferred) :
  OpOk E B S0 w0 (evalOp E o.op st) G S w st.tk tmps (execOp ({ tmps:=tmps,defers:=d }:Act).eval o):=by
 obtain ⟨dst,op,type,pos,after,guard⟩:=o
 cases op with
 | move x=>exact ok_move R x d
 | assign x=>exact ok_move R x d
 | pick c a b=>exact ok_pick R (R.val c d) (R.val a d) (R.val b d)
 | alloc t=>exact ok_alloc hE R
 | box t x=>exact ok_box R (R.val x d)
 | build t parts =>
  refine ok_build hE R ?_
  have:=R.parts d parts.toList
  simpa using this
 | buildSlice t n parts =>
  refine ok_buildSlice hE R ?_
  have:=R.parts d parts.toList
  simpa using this
 | load t a=>exact ok_load hE R (R.val a d).norm
 | store t a x=>exact ok_store hE R (R.val a d).norm (R.val x d)
 | nilCheck x=>exact ok_nilCheck R x d _ rfl
 | makeMap t r=>exact ok_makeMap hE R
 | mapUpdate t m x v=>exact ok_mapUpdate hE R (R.val m d) (R.val x d) (R.val v d)
 | lookup t m x ok=>exact ok_lookup hE R (R.val m d) (R.val x d)
 | range t m=>exact ok_range hE R (R.val m d)
 | entry x=>exact ok_entry R (R.val x d)
 | entryStore t m s x=>exact ok_entryStore R (R.val m d) (R.val s d) (R.val x d)
 | binOp op t x y ty=>exact ok_bin hE R x y (R.val x d) (R.val y d)
 | unOp op t x=>exact ok_un R (R.val x d)
 | convert s t x=>exact ok_convert hE R (R.val x d)
 | makeFunc fn first cap =>
  refine ok_makeFunc R (by simp) (by simp) ?_
  exact rel_list R d cap
 | makeSlice t l c=>exact ok_makeSlice hE R (R.val l d) (R.val c d)
 | slice t x lo hi mx =>
  have hx:=R.val x d
  simp only [evalOp]
  split
  ·rename_i id off he
   rw [he] at hx
   exact ok_sliceArr hE R hx (orel R d lo) (orel R d hi) (orel R d mx)
  ·rename_i id off m len cap he
   rw [he] at hx
   exact ok_sliceRow hE R hx (orel R d lo) (orel R d hi) (orel R d mx)
  ·exact ok_slice hE R hx (orel R d lo) (orel R d hi) (fun h=>by cases mx with | none=>rfl | some m=>cases h)
 | fieldAddr s x f=>exact ok_fieldAddr hE R (R.val x d)
 | field t x f=>exact ok_field hE R (R.val x d)
 | indexAddr t x i=>exact ok_indexAddr hE R (R.val x d) (R.val i d)
 | index t x i=>exact ok_index hE R (R.val x d) (R.val i d)
 | extract x i=>exact ok_extract R (R.val x d)
 | call c =>
  obtain ⟨callee,args,ts⟩:=c
  cases callee with
  | builtin b=>exact ok_builtin hE R b args ts d _ rfl
  | value f=>exact OpOk.none
  | invoke r m=>exact OpOk.none
 | _=>exact OpOk.none
end
end Go.Abs
/-
  The abstract walk is sound: append, where what is appended to is a row that may be written to.
-/
namespace Go.Abs
open Go.RowKit
section
variable {E:Env} {B:Nat} {S0:Addr→Prop} {w0:World} {st:St} {G:Gh} {S:Addr→Prop} {w:World} {tmps:Array Value}
theorem run_append_at {t ty e e':TypeId} {i:TypeInfo} (ht:E.P.underlying t=some (.slice e)) (hi:E.P.info? e=some i) {g off sLen sCap:Nat} {cur:Array Value} (hg:w.heap[g]?=some (.cells cur e' (0,0)))
  {a:Addr} {m c:Nat} {news:List Value} (hl:news.length=m*i.size) (hnews:∀(j:Nat) (u:Value),news[j]?=some u→w.cell? (a.add j)=some u) (h1:∀u∈news,u.oneCell'=true) (hroom:sLen+m≤sCap) (hfit:off+sLen*i.size+news.length≤cur.size) :
  (Builtin.append_ #[t,t] ty #[.slice (some ⟨g,off,none⟩) sLen sCap,.slice (some a) m c]).run E.P w =
   .ok (.slice (some ⟨g,off,none⟩) (sLen+m) sCap) (w.setRow g (cur.toList.take (off+sLen*i.size)++news++cur.toList.drop (off+sLen*i.size+news.length)).toArray):=by
 have hf:=run_firstCells_some (P:=E.P) w i.size m a m c news hl hnews
 have hst:=run_storeCells_at E.P g (off+sLen*i.size) e' news 0 cur w hg (by simpa using hfit) h1
 simp only [Nat.add_zero] at hst
 simp [Builtin.append_,run_underlying ht,sizeOf,typeInfo,hi,Builtin.lenOf,hroom,hf,addr_box,hst]
theorem els_cells {m:Nat} {xs:List PV} {vs:List Value} (h:Els S w m xs vs):RVs S w (xs.flatMap PV.cells) vs:=by
 obtain ⟨h1,h2,h3⟩:=h
 have hm:∀x∈xs,x.cells.length=m:=fun x hx=>by
  obtain ⟨i,hi⟩:=List.mem_iff_getElem?.1 hx
  exact h2 i x hi
 have hlen:(xs.flatMap PV.cells).length=xs.length*m:=by
  clear h1 h2 h3
  induction xs with
  | nil=>simp
  | cons x r ih=>rw [List.flatMap_cons,List.length_append,ih (fun y hy=>hm y (List.mem_cons_of_mem _ hy)),hm x List.mem_cons_self,List.length_cons,Nat.succ_mul];omega
 refine ⟨by rw [hlen,h1],fun k c u hc hu=>?_⟩
 have hk:k<xs.length*m:=by rw [←hlen];exact (List.getElem?_eq_some_iff.1 hc).1
 have hm0:0<m:=by
  rcases Nat.eq_zero_or_pos m with h | h
  ·subst h;simp at hk
  ·exact h
 have hi:k / m<xs.length:=(Nat.div_lt_iff_lt_mul hm0).2 hk
 have hx:xs[k / m]?=some xs[k / m]:=List.getElem?_eq_getElem hi
 have hxl:xs[k / m].cells.length=m:=h2 _ _ hx
 have hj:k % m<xs[k / m].cells.length:=by rw [hxl];exact Nat.mod_lt _ hm0
 have hcj:xs[k / m].cells[k % m]?=some xs[k / m].cells[k % m]:=List.getElem?_eq_getElem hj
 have hk2:k / m*m+k % m=k:=by rw [Nat.mul_comm];exact Nat.div_add_mod k m
 have:=flat_get hm (k / m) _ (k % m) _ hx hcj
 rw [hk2,hc] at this
 have hce:=Option.some.inj this
 refine hce▸h3 (k / m) _ (k % m) _ u hx hcj (by rw [hk2];exact hu)
theorem ok_appR (hE:EnvOk E) (R:Rel E B S0 w0 st G S w tmps) {ts:List TypeId} {xs:List SV} {K:SV→St→Prop} (h:wpAppR E ts xs st K) {vs:List Value} (hl:xs.length=vs.length)
  (hv:∀(i:Nat) (s:SV) (v:Value),xs[i]?=some s→vs[i]?=some v→RSV st.tk G S w s v) (ty:TypeId) :
  ∃v w',(Builtin.append_ ts.toArray ty vs.toArray).run E.P w=.ok v w'∧∃(sv:SV) (st':St) (G':Gh) (S':Addr→Prop),K sv st'∧Rel E B S0 w0 st' G' S' w' tmps∧RSV st'.tk G' S' w' sv v∧Ext st.tk G S w st'.tk G' S' w':=by
 unfold wpAppR at h
 split at h
 rotate_left
 ·exact h.elim
 rename_i t t' s y
 match vs,hl with
 | [vsl,vy],hl0 =>
 clear hl0
 have hs:=hv 0 s vsl rfl rfl
 have hy:=hv 1 y vy rfl rfl
 split at h
 rotate_left
 ·exact h.elim
 rename_i e m' ys hke hye
 have hk:=(hE.td t).k
 rw [hke] at hk
 obtain ⟨rfl,rfl,hyne,hsz,hzl,h⟩:=h
 obtain ⟨i,z,hi,hsize,hby,hzz,hzc,hone,hcs,_⟩:=hE.cells (t:=e) (by omega)
 obtain ⟨aY,adY,capY,us,rfl,haY,hcY,hmY,hcellY,helsY⟩:=RV.flat (RSV.elems hy hye)
 have honeY:∀u∈us,u.oneCell'=true:=fun u hu=>by
  obtain ⟨j,hj⟩:=List.mem_iff_getElem?.1 hu
  exact (hcellY j u hj).2.2
 have haY':=haY hyne
 subst haY'
 have hys:0<ys.length:=List.length_pos_iff.2 hyne
 have husl:us.length=ys.length*i.size:=by rw [hsize];exact helsY.1
 have hrY:=els_cells helsY
 have hYcells:(ys.flatMap PV.cells).length=us.length:=hrY.1
 have zone:∀(n j:Nat) (v:Value),(Builtin.zeroCells z.cells n)[j]?=some v→v.oneCell'=true:=by
  intro n j v hj
  have hm:=Array.mem_of_getElem? hj
  simp only [Builtin.zeroCells,Array.mem_map] at hm
  obtain ⟨k,_,rfl⟩:=hm
  have hsz0:0<z.cells.size:=by rw [hcs];exact hsz
  have hlt:k % z.cells.size<z.cells.size:=Nat.mod_lt _ hsz0
  rw [getElem!_pos z.cells _ hlt]
  exact hone _ (by simp)
 -- a new row
 have grown:∀(olds:List Value) (oc:List SV) (n cap:Nat),olds.length=n*(E.T e).size→oc.length=olds.length→(∀(j:Nat) (c:SV) (v:Value),oc[j]?=some c→olds[j]?=some v→RSV st.tk G S w c v∧v.oneCell'=true)→n+ys.length≤cap →
   ∃G',Rel E B S0 w0 (st.newBx (oc++((ys.flatMap PV.cells).map SV.val++List.replicate ((cap - (n+ys.length))*(E.T e).size) (.val .any)))) G' S (w.drew.alloc (.cells (olds.toArray++us.toArray++Builtin.zeroCells z.cells (cap - (n+ys.length))) e)) tmps ∧
    Ext st.tk G S w st.tk G' S (w.drew.alloc (.cells (olds.toArray++us.toArray++Builtin.zeroCells z.cells (cap - (n+ys.length))) e))∧G'.bx[st.bx.length]?=some w.heap.size:=by
  intro olds oc n cap ho hoc hrel hcap
  obtain ⟨R1,X1⟩:=R.drew
  obtain ⟨G',R2,X2,b,hb,hp⟩:=R1.newBox e (olds.toArray++us.toArray++Builtin.zeroCells z.cells (cap - (n+ys.length))) (oc++((ys.flatMap PV.cells).map SV.val++List.replicate ((cap - (n+ys.length))*(E.T e).size) (.val .any)))
   (by simp [size_zeroCells,hcs,hoc,hYcells];omega) (fun j c v hc hv=>by
    rw [←Array.getElem?_toList] at hv
    simp only [Array.toList_append,List.append_assoc] at hv
    by_cases h1:j<olds.length
    ·rw [List.getElem?_append_left (by omega)] at hc
     rw [List.getElem?_append_left h1] at hv
     obtain ⟨q1,q2⟩:=hrel j c v hc hv
     exact ⟨RSV.mono X1 q1,q2⟩
    ·rw [List.getElem?_append_right (by omega),hoc] at hc
     rw [List.getElem?_append_right (by omega)] at hv
     generalize j - olds.length=j2 at hc hv
     by_cases h2:j2<us.length
     ·rw [List.getElem?_append_left (by simp [hYcells];omega),List.getElem?_map] at hc
      rw [List.getElem?_append_left h2] at hv
      cases hq:(ys.flatMap PV.cells)[j2]? with
      | none=>rw [hq] at hc;cases hc
      | some p =>
       rw [hq] at hc
       cases hc
       exact ⟨(hrY.2 j2 p v hq hv).mono (fun _ h=>h) (fun a h=>X1.cell a h),honeY v (List.mem_of_getElem? hv)⟩
     ·rw [List.getElem?_append_right (by simp [hYcells];omega)] at hc
      rw [List.getElem?_append_right (by omega)] at hv
      have:=List.mem_of_getElem? hc
      rw [List.mem_replicate] at this
      obtain ⟨_,rfl⟩:=this
      exact ⟨RV.any v,zone _ _ v (by rw [Array.getElem?_toList] at hv;exact hv)⟩)
  refine ⟨G',R2,X1.trans X2,?_⟩
  have hb2:b=w.heap.size:=by injection hp with hp;injection hp with hp;injection hp with hp;exact hp.symm
  rw [←hb2]
  exact hb
 have hsmall:∀n,(n+ys.length)*((E.T e).bytes+1)≤140737488355328→n+ys.length≤140737488355328∧(n+ys.length)*(E.T e).bytes≤140737488355328:=fun n hn=>by
  rw [Nat.mul_add] at hn;omega
 replace hs:=RSV.litz hs
 generalize s.litz=s at h hs
 split at h
 ·rename_i ms zs
  obtain ⟨hms,hroom,hK⟩:=h
  obtain ⟨hlist,aS,haS⟩:=hs
  obtain ⟨hb1,hb2⟩:=hsmall _ hroom
  obtain ⟨aX,adX,capX,vals,hvx,haX,hcX,hmX,hcellX,helsX⟩:=RV.flat hlist
  rw [haS] at hvx
  injection hvx with e1 _ e3
  subst e1;subst e3
  have helsX':Els S w (E.T e).size zs vals:=by
   rcases hms with h | h
   ·rw [←h];exact helsX
   ·subst h
    have:vals=[]:=List.eq_nil_of_length_eq_zero (by have:=helsX.1;simpa using this)
    subst this
    exact Els.nil _
  have hrX:=els_cells helsX'
  have hge:=grownCap_ge w (zs.length+ys.length) zs.length e
  have hle:=grownCap_le_maxLen w (zs.length+ys.length) zs.length e (by simp only [maxLen];omega)
  obtain ⟨G',R1,X1,hbx⟩:=grown vals ((zs.flatMap PV.cells).map SV.val) zs.length (grownCap w (zs.length+ys.length) zs.length e) helsX'.1 (by simp [hrX.1]) (fun j c v hc hv=>by
   rw [List.getElem?_map] at hc
   cases hq:(zs.flatMap PV.cells)[j]? with
   | none=>rw [hq] at hc;cases hc
   | some p=>rw [hq] at hc;cases hc;exact ⟨hrX.2 j p v hq hv,(hcellX j v hv).2.2⟩) hge
  have hrun:(Builtin.append_ #[t,t] ty #[.slice aS zs.length zs.length,.slice (some adY) ys.length capY]).run E.P w =
    .ok (.slice (some ⟨w.heap.size,0,none⟩) (zs.length+ys.length) (grownCap w (zs.length+ys.length) zs.length e))
     (w.drew.alloc (.cells (vals.toArray++us.toArray++Builtin.zeroCells z.cells (grownCap w (zs.length+ys.length) zs.length e - (zs.length+ys.length))) e)):=by
   by_cases hz:zs=[]
   ·subst hz
    have hv0:vals=[]:=List.eq_nil_of_length_eq_zero (by have:=helsX'.1;simpa using this)
    subst hv0
    cases aS with
    | none =>
     have:=run_append_nil (P:=E.P) w t ty e i z hk hi hzz adY ys.length capY us husl (fun j v hv=>(hcellY j v hv).2.1) hys (by simp at hb1;omega) (by rw [hby];simp at hb2;omega)
     simpa using this
    | some b =>
     have:=run_append_grow (P:=E.P) w t ty e i z hk hi hzz b 0 0 [] (by simp) (by simp) adY ys.length capY us husl (fun j v hv=>(hcellY j v hv).2.1) (by omega) (by simp at hb1;omega) (by rw [hby];exact growslice_fits (by omega) (by simpa using hb2))
     simpa using this
   ·have:=haX hz
    subst this
    exact run_append_grow (P:=E.P) w t ty e i z hk hi hzz adX zs.length zs.length vals (by rw [hsize];exact helsX'.1) (fun j v hv=>(hcellX j v hv).2.1) adY ys.length capY us husl (fun j v hv=>(hcellY j v hv).2.1) (by omega) (by omega) (by rw [hby];exact growslice_fits (by omega) hb2)
  refine ⟨_,_,by rw [haS];exact hrun,_,_,G',S,hK _ hge hle,?_,⟨w.heap.size,hbx,rfl,hge,hle⟩,X1⟩
  have e4:((zs++ys).flatMap PV.cells).map SV.val++List.replicate ((grownCap w (zs.length+ys.length) zs.length e - (zs.length+ys.length))*(E.T e).size) (.val .any) =
    (zs.flatMap PV.cells).map SV.val++((ys.flatMap PV.cells).map SV.val++List.replicate ((grownCap w (zs.length+ys.length) zs.length e - (zs.length+ys.length))*(E.T e).size) (.val .any)):=by simp
  rw [e4]
  exact R1
 ·rename_i id off m len cap
  obtain ⟨rfl,hroom,cells,hcells,hfit,hK1,hK2⟩:=h
  obtain ⟨hb1,hb2⟩:=hsmall _ hroom
  obtain ⟨b,hb,rfl,hlc,hcm⟩:=hs
  have hc':=getD_some hcells
  obtain ⟨⟨tb,arr,hh,hasz,har⟩,hSb⟩:=R.inv.box id b cells hc' hb
  have hlm:len*(E.T e).size≤cap*(E.T e).size:=Nat.mul_le_mul_right _ hlc
  by_cases hin:len+ys.length≤cap
  ·have hcapm:len*(E.T e).size+ys.length*(E.T e).size≤cap*(E.T e).size:=by rw [←Nat.add_mul];exact Nat.mul_le_mul_right _ hin
   have husl':us.length=ys.length*(E.T e).size:=helsY.1
   have hrun:=run_append_at (E:=E) (w:=w) (ty:=ty) (off:=off) (sLen:=len) (sCap:=cap) hk hi hh husl (fun j v hv=>(hcellY j v hv).2.1) (c:=capY) honeY hin (by rw [hsize,hasz];omega)
   obtain ⟨R1,X1⟩:=R.setBox (arr':=(arr.toList.take (off+len*i.size)++us++arr.toList.drop (off+len*i.size+us.length)).toArray)
    (cs':=cells.take (off+len*(E.T e).size)++((ys.flatMap PV.cells).map SV.val++cells.drop (off+len*(E.T e).size+ys.length*(E.T e).size))) hb hc' hh
    (by simp [hsize,hYcells,husl',hasz]) (fun j c v hc hv=>by
     rw [List.getElem?_toArray,List.append_assoc,hsize,husl'] at hv
     have hlt1:(cells.take (off+len*(E.T e).size)).length=off+len*(E.T e).size:=by rw [List.length_take];omega
     have hlt2:(arr.toList.take (off+len*(E.T e).size)).length=off+len*(E.T e).size:=by rw [List.length_take,Array.length_toList,hasz];omega
     by_cases h1:j<off+len*(E.T e).size
     ·rw [List.getElem?_append_left (by omega),List.getElem?_take,if_pos h1] at hc
      rw [List.getElem?_append_left (by omega),List.getElem?_take,if_pos h1,Array.getElem?_toList] at hv
      exact har j c v hc hv
     ·rw [List.getElem?_append_right (by omega),hlt1] at hc
      rw [List.getElem?_append_right (by omega),hlt2] at hv
      by_cases h2:j - (off+len*(E.T e).size)<us.length
      ·rw [List.getElem?_append_left (by simp [hYcells];omega),List.getElem?_map] at hc
       rw [List.getElem?_append_left h2] at hv
       cases hq:(ys.flatMap PV.cells)[j - (off+len*(E.T e).size)]? with
       | none=>rw [hq] at hc;cases hc
       | some p=>rw [hq] at hc;cases hc;exact ⟨hrY.2 _ p v hq hv,honeY v (List.mem_of_getElem? hv)⟩
      ·rw [List.getElem?_append_right (by simp [hYcells];omega),List.getElem?_drop] at hc
       rw [List.getElem?_append_right (by omega),List.getElem?_drop,Array.getElem?_toList] at hv
       simp only [List.length_map,hYcells,husl'] at hc
       rw [husl'] at hv
       exact har _ c v hc hv)
   refine ⟨_,_,hrun,_,_,G,S,hK1 hin,R1,⟨b,hb,rfl,hin,hcm⟩,X1⟩
  ·have hge:=grownCap_ge w (len+ys.length) cap e
   have hle:=grownCap_le_maxLen w (len+ys.length) cap e (by simp only [maxLen];omega)
   have hcell:∀(j:Nat) (v:Value),((arr.toList.drop off).take (len*(E.T e).size))[j]?=some v→w.cell? ((⟨b,off,none⟩:Addr).add j)=some v:=fun j v hv=>by
    rw [addr_box]
    rw [List.getElem?_take] at hv
    split at hv
    ·rw [List.getElem?_drop,Array.getElem?_toList] at hv
     simp [World.cell?,hh,hv]
    ·cases hv
   have hol:((arr.toList.drop off).take (len*(E.T e).size)).length=len*(E.T e).size:=by rw [List.length_take,List.length_drop,Array.length_toList,hasz];omega
   obtain ⟨G',R1,X1,hbx⟩:=grown ((arr.toList.drop off).take (len*(E.T e).size)) ((cells.drop off).take (len*(E.T e).size)) len (grownCap w (len+ys.length) cap e) hol (by rw [hol,List.length_take,List.length_drop];omega) (fun j c v hc hv=>by
    rw [List.getElem?_take] at hc hv
    split at hc
    ·rename_i hj
     rw [if_pos hj,List.getElem?_drop,Array.getElem?_toList] at hv
     rw [List.getElem?_drop] at hc
     exact har _ c v hc hv
    ·cases hc) hge
   have hrun:=run_append_grow (P:=E.P) w t ty e i z hk hi hzz ⟨b,off,none⟩ len cap _ (by rw [hsize];exact hol) hcell adY ys.length capY us husl (fun j v hv=>(hcellY j v hv).2.1) (by omega) (by omega) (by rw [hby];exact growslice_fits (by omega) hb2)
   exact ⟨_,_,hrun,_,_,G',S,hK2 (by omega) _ hge hle,R1,⟨w.heap.size,hbx,rfl,hge,hle⟩,X1⟩
 ·exact h.elim
end
end Go.Abs
/-
  The abstract walk is sound: the ninth part: calls, regions in the order of the text.
-/
namespace Go.Abs
open Go.RowKit
def Fr (r:Option Nat):Fence:={ Fence.wide with round:=r }
section
variable {E:Env} {B:Nat} {S0:Addr→Prop} {w0:World} {st:St} {G:Gh} {S:Addr→Prop} {w:World} {tmps:Array Value} {r:Option Nat} {n:Nat}
theorem Rel.put (R:Rel E B S0 w0 st G S w tmps) {s:SV} {v:Value} (h:RSV st.tk G S w s v) (dst:Option Tmp) (d:List Deferred) :
  Rel E B S0 w0 (st.put dst s) G S w (({ tmps:=tmps,defers:=d }:Act).put dst v).tmps∧(({ tmps:=tmps,defers:=d }:Act).put dst v).defers=d:=by
 cases dst with
 | none=>exact ⟨R,rfl⟩
 | some t =>
  refine ⟨⟨R.inv,R.below,by simp [St.put,Act.put,R.len],fun i s' v' h1 h2=>?_⟩,rfl⟩
  simp only [St.put,List.getElem?_set] at h1
  simp only [Act.put,Array.getElem?_setIfInBounds] at h2
  by_cases hi:t=i
  ·subst hi
   by_cases hlt:t<st.sl.length
   ·have hlt':t<tmps.size:=by rw [←R.len];exact hlt
    simp [hlt] at h1
    simp [hlt'] at h2
    subst h1;subst h2
    exact h
   ·simp [hlt] at h1
  ·simp [hi] at h1 h2
   exact R.sl i s' v' h1 h2
theorem run_call (R:Rel E B S0 w0 st G S w tmps) {f:FuncId} {args:List PV} {p:PV} {vs:List Value} (h:CallsPV E.P f args p) (hv:RVs S w args vs) {K:Act→World→Prop} {Q:Exit→Act→World→Prop} {o:Oper} {a:Act}
  (hK:∀(v:Value) (S':Addr→Prop) (w':World),Rel E B S0 w0 st G S' w' tmps→Ext st.tk G S w st.tk G S' w'→RV S' w' p v→K (a.put o.dst v) w') :
  CallsIn (Fr r) n E.P f vs.toArray w fun
   | .returned v,w''=>K (a.put o.dst v) w''
   | .panicked chain,w''=>Q (.panic chain) a w''
   | .outgrown,_=>LetsOut Q:=by
 have h1:CallsIn Fence.wide n E.P f vs.toArray w fun e w'=>∃v,e=.returned v∧Below w.heap.size w w'∧RV (Snew S w w') w' p v:=callsIn_wide.2 (h.2 S w vs R.inv.slt hv)
 have h2:=h1.mono (R':=fun
   | .returned v,w''=>K (a.put o.dst v) w''
   | .panicked chain,w''=>Q (.panic chain) a w''
   | .outgrown,_=>LetsOut Q) (fun e w' ⟨v,he,hb,hr⟩=>by
  subst he
  obtain ⟨R1,X1⟩:=R.transport (S':=Snew S w w') (w':=w') (fun _ h=>.inl h) (fun _ h=>h) hb
  exact hK v _ w' R1 X1 hr)
 exact h2
theorem run_lent (R:Rel E B S0 w0 st G S w tmps) {f:FuncId} {m:Nat} {xs:List PV} {p:PV} {id off len cap:Nat} {cells:List SV} {v:Value} (h:CallsFresh E.P f m xs p) (hv:RSV st.tk G S w (.row id off m len cap) v) (hc:st.bx.getD id none=some cells)
  (hx:(cells.drop off).take (len*m)=(xs.flatMap PV.cells).map SV.val) (hl:xs.length=len) (hm:∀x∈xs,x.cells.length=m) {K:Act→World→Prop} {Q:Exit→Act→World→Prop} {o:Oper} {a:Act}
  (hK:∀(v:Value) (S':Addr→Prop) (w':World),Rel E B S0 w0 st G S' w' tmps→Ext st.tk G S w st.tk G S' w'→RV S' w' p v→K (a.put o.dst v) w') :
  CallsIn (Fr r) n E.P f #[v] w fun
   | .returned v,w''=>K (a.put o.dst v) w''
   | .panicked chain,w''=>Q (.panic chain) a w''
   | .outgrown,_=>LetsOut Q:=by
 obtain ⟨b,hb,rfl,hlc,hcm⟩:=hv
 have hc':=getD_some hc
 obtain ⟨⟨tb,arr,hh,hasz,har⟩,hSb⟩:=R.inv.box id b cells hc' hb
 have hxl:(xs.flatMap PV.cells).length=len*m:=by
  have hr:∀(l:List PV),(∀y∈l,y.cells.length=m)→(l.flatMap PV.cells).length=l.length*m:=by
   intro l
   induction l with
   | nil=>intro _;simp
   | cons y l ih2=>intro hy;rw [List.flatMap_cons,List.length_append,ih2 (fun z hz=>hy z (List.mem_cons_of_mem _ hz)),hy y List.mem_cons_self,List.length_cons,Nat.succ_mul];omega
  rw [hr xs hm,hl]
 have hcl:((cells.drop off).take (len*m)).length=len*m:=by rw [hx,List.length_map,hxl]
 have hfit:len*m≤cells.length - off:=by
  rw [List.length_take,List.length_drop] at hcl;omega
 have hvl:((arr.toList.drop off).take (len*m)).length=len*m:=by rw [List.length_take,List.length_drop,Array.length_toList,hasz];omega
 have hcell:∀(j:Nat) (v:Value),((arr.toList.drop off).take (len*m))[j]?=some v→arr[off+j]?=some v∧j<len*m:=fun j v hv=>by
  rw [List.getElem?_take] at hv
  split at hv
  ·rename_i hj
   rw [List.getElem?_drop,Array.getElem?_toList] at hv
   exact ⟨hv,hj⟩
  ·cases hv
 have hget:∀(j:Nat),j<len*m→∀(p:PV),(xs.flatMap PV.cells)[j]?=some p→cells[off+j]?=some (.val p):=fun j hj p hp=>by
  have:((cells.drop off).take (len*m))[j]?=some (.val p):=by rw [hx,List.getElem?_map,hp];rfl
  rw [List.getElem?_take,if_pos hj,List.getElem?_drop] at this
  exact this
 have hrel:RVs S w (xs.flatMap PV.cells) ((arr.toList.drop off).take (len*m)):=⟨by rw [hxl,hvl],fun j p v hp hv=>by
  obtain ⟨q1,q2⟩:=hcell j v hv
  exact (har _ _ v (hget j q2 p hp) q1).1⟩
 have h0:=h.2 S w ⟨b,off,none⟩ cap ((arr.toList.drop off).take (len*m)) R.inv.slt (by rw [hvl,hl]) (fun j v hv=>by
  obtain ⟨q1,q2⟩:=hcell j v hv
  rw [addr_box]
  have hj:j<(xs.flatMap PV.cells).length:=by rw [hxl];exact q2
  exact ⟨by simp [World.cell?,hh,q1],(har _ _ v (hget j q2 _ (List.getElem?_eq_getElem hj)) q1).2⟩) hrel (by rw [hl];exact hlc) hcm
 rw [hl] at h0
 have h1:CallsIn Fence.wide n E.P f #[.slice (some ⟨b,off,none⟩) len cap] w fun e w'=>∃v,e=.returned v∧Below w.heap.size w w'∧RV (Snew S w w') w' p v:=callsIn_wide.2 h0
 have h2:=h1.mono (R':=fun
   | .returned v,w''=>K (a.put o.dst v) w''
   | .panicked chain,w''=>Q (.panic chain) a w''
   | .outgrown,_=>LetsOut Q) (fun e w' ⟨v,he,hb,hr⟩=>by
  subst he
  obtain ⟨R1,X1⟩:=R.transport (S':=Snew S w w') (w':=w') (fun _ h=>.inl h) (fun _ h=>h) hb
  exact hK v _ w' R1 X1 hr)
 exact h2
theorem run_deep (R:Rel E B S0 w0 st G S w tmps) {f:FuncId} {svs:List SV} {QR:SV→List (Option (List SV))→List (Nat × TypeId)→Ax→Prop} {vs:List Value} (h:CallsR E f svs st.bx st.tk st.ax QR) (hl:svs.length=vs.length)
  (hv:∀(i:Nat) (s:SV) (v:Value),svs[i]?=some s→vs[i]?=some v→RSV st.tk G S w s v) {K:Act→World→Prop} {Q:Exit→Act→World→Prop} {o:Oper} {a:Act}
  (hK:∀(v:Value) (rv:SV) (bx':List (Option (List SV))) (tk':List (Nat × TypeId)) (ax':Ax) (G':Gh) (S':Addr→Prop) (w':World),QR rv bx' tk' ax'→Rel E B S0 w0 ⟨st.sl,bx',tk',ax'⟩ G' S' w' tmps→Ext st.tk G S w tk' G' S' w'→RSV tk' G' S' w' rv v→K (a.put o.dst v) w') :
  CallsIn (Fr r) n E.P f vs.toArray w fun
   | .returned v,w''=>K (a.put o.dst v) w''
   | .panicked chain,w''=>Q (.panic chain) a w''
   | .outgrown,_=>LetsOut Q:=by
 have h1:=callsIn_wide (n:=n).2 (h.2 B S0 w0 G S w vs R.inv R.below hl hv)
 have h2:=h1.mono (R':=fun
   | .returned v,w''=>K (a.put o.dst v) w''
   | .panicked chain,w''=>Q (.panic chain) a w''
   | .outgrown,_=>LetsOut Q) (fun e w' ⟨v,rv,bx',tk',ax',G',S',hq,he,hi,hb,hx,hr⟩=>by
  subst he
  exact hK v rv bx' tk' ax' G' S' w' hq ⟨hi,hb,R.len,fun t s v a1 a2=>RSV.mono hx (R.sl t s v a1 a2)⟩ hx hr)
 exact h2
theorem Rel.yielded (R:Rel E B S0 w0 st G S w tmps) (hB:B=0) {k':Nat} {F':Nat→Prop} {S':Addr→Prop} {w':World} (hJ:E.Y.J k' F' S' w') (hc:Below 0 w w') (hsame:∀b,b<w.heap.size→¬G.fp b→w'.heap[b]?=w.heap[b]?)
  (hF:∀b,F' b→(G.fp b∨w.heap.size≤b)∧b<w'.heap.size) (hsub:∀a,S a→S' a) (hcell:∀a,S a→Still w w' a) (hS:∀a,S' a→(S a∨G.fp a.block∨w.heap.size≤a.block)∧a.block<w'.heap.size) :
  Rel E B S0 w0 (st.yks k') ⟨G.bx,G.tk,G.mp,F'⟩ S' w' tmps∧Ext st.tk G S w st.tk ⟨G.bx,G.tk,G.mp,F'⟩ S' w':=by
 subst hB
 have hI:=R.inv
 have hX:Ext st.tk G S w st.tk ⟨G.bx,G.tk,G.mp,F'⟩ S' w':=⟨fun _ _ h=>h,fun _ hv le h1 h2=>⟨hv,le,h1,h2,.inl ⟨rfl,rfl⟩⟩,hsub,hcell,fun _ _ h=>h,hc,fun b hb hf=>hsame b hb (fun h=>hf (.inr (.inr (.inr h)))),fun b hb hf=>by
  rcases hf with h | h | h | h
  ·exact .inl h
  ·exact .inr (.inl h)
  ·exact .inr (.inr (.inl h))
  ·rcases (hF b h).1 with h | h
   ·exact .inr (.inr (.inr h))
   ·omega,fun a ha=>by
  rcases (hS a ha).1 with h | h | h
  ·exact .inl h
  ·exact .inr (.inl (.inr (.inr (.inr h))))
  ·exact .inr (.inr h)⟩
 have htk:∀{t n cap g:Nat},G.tk[t]?=some (.slice (some ⟨g,0,none⟩) n cap)→n<cap→g<w.heap.size:=by
  intro t n cap g h1 h2
  have hl:t<st.tk.length:=by rw [←hI.ltk];exact (List.getElem?_eq_some_iff.1 h1).1
  obtain ⟨a,cap1,k1,k2,k3,k4⟩:=hI.tok t _ _ _ (List.getElem?_eq_getElem hl) h1
  injection k1 with k1 k5 k6
  subst k6
  rw [←k5] at k4
  obtain ⟨g',cur,c1,c2,c3,_⟩:=k4 h2
  rw [←k1] at c1
  injection c1 with c1
  injection c1 with c1
  rw [c1]
  exact (Array.getElem?_eq_some_iff.1 c3).1
 refine ⟨⟨⟨Nat.zero_le _,fun a _=>.inr (Nat.zero_le _),fun a ha=>(hS a ha).2,hI.lbx,hI.ltk,fun i b h=>⟨Nat.zero_le _,Nat.lt_of_lt_of_le (hI.old i b h).2 hc.size⟩,hI.dist,fun id b cs h1 h2=>?_,fun t n e hv h1 h2=>?_,hI.apart,hI.lmp,hI.dmp,
  fun i b h=>⟨Nat.zero_le _,Nat.lt_of_lt_of_le (hI.mpo i b h).2 hc.size⟩,fun i b c h1 h2=>(hI.mpk i b c h1 h2).mono (Kept.of_eq (hsame b (hI.mpo i b h2).2 (hI.fmp i b h2))) (fun m bm h=>⟨h,Kept.of_eq (hsame bm (hI.mpo m bm h).2 (hI.fmp m bm h))⟩) hsub hcell (fun a ha=>by
   rcases (hS a ha).1 with h | h | h
   ·exact .inl h
   ·exact .inr (.inl fun e=>hI.fmp i b h2 (e▸h))
   ·exact .inr (.inl fun e=>by have:=(hI.mpo i b h2).2;omega)),fun b h=>(hF b h).2,fun i b h hf=>?_,fun t n cap g h1 h2 hf=>?_,fun i b h hf=>?_,hJ,hI.yl.2⟩,
  R.below.trans hc,R.len,fun t s v a1 a2=>RSV.mono hX (R.sl t s v a1 a2)⟩,hX⟩
 ·obtain ⟨⟨t',arr,b1,b2,b3⟩,b4⟩:=hI.box id b cs h1 h2
  have hlt:=(hI.old id b h2).2
  have hf:=hI.fbx id b h2
  refine ⟨⟨t',arr,(hsame b hlt hf).trans b1,b2,fun j c v a1 a2=>⟨RSV.mono hX (b3 j c v a1 a2).1,(b3 j c v a1 a2).2⟩⟩,fun a ha hab=>?_⟩
  rcases (hS a ha).1 with h | h | h
  ·exact b4 a h hab
  ·rw [hab] at h;exact hf h
  ·omega
 ·obtain ⟨a,cap,k1,k2,k3,k4⟩:=hI.tok t n e hv h1 h2
  refine ⟨a,cap,k1,k2,k3,fun hlt=>?_⟩
  obtain ⟨g,cur,c1,c2,c3,c4,c5,c6⟩:=k4 hlt
  have hg:=(Array.getElem?_eq_some_iff.1 c3).1
  have hf:¬G.fp g:=hI.ftk t n cap g (by rw [h2,k1,c1]) hlt
  refine ⟨g,cur,c1,Nat.zero_le _,(hsame g hg hf).trans c3,c4,fun a ha hab=>?_,c6⟩
  rcases (hS a ha).1 with h | h | h
  ·exact c5 a h hab
  ·rw [hab] at h;exact absurd h hf
  ·omega
 ·rcases (hF b hf).1 with h' | h'
  ·exact hI.fbx i b h h'
  ·have:=(hI.old i b h).2;omega
 ·rcases (hF g hf).1 with h' | h'
  ·exact hI.ftk t n cap g h1 h2 h'
  ·have:=htk h1 h2;omega
 ·rcases (hF b hf).1 with h' | h'
  ·exact hI.fmp i b h h'
  ·have:=(hI.mpo i b h).2;omega
theorem run_yieldA (hE:EnvOk E) (R:Rel E B S0 w0 st G S w tmps) {l:Nat} {ps:List PV} {vs:List Value} {K:SV→St→Prop} (h:wpYield E l ps st K) (hv:RVs S w ps vs) {next:Act→World→Prop} {Q:Exit→Act→World→Prop} {o:Oper} {a:Act}
  (hn:∀(v:Value) (s:SV) (st':St) (G':Gh) (S':Addr→Prop) (w':World),K s st'→Rel E B S0 w0 st' G' S' w' tmps→RSV st'.tk G' S' w' s v→Ext st.tk G S w st'.tk G' S' w'→next (a.put o.dst v) w') :
  o.uponIn (Fr r) n E.P a next Q ((Instr.yield l vs.toArray).run E.P w):=by
 obtain ⟨rfl,k1,hy,h1,h2⟩:=h
 obtain ⟨fn,tm,asg,body,hrun,hR⟩:=hE.yok r (n - 1) _ k1 ps vs G.fp S w hy R.inv.yl.1 R.inv.flt R.inv.slt hv
 rw [hrun]
 refine ⟨fun h=>absurd h (by simp [Fr,Fence.wide]),hR.mono ?_⟩
 rintro e w' ⟨k',F',S',he,hJ,hc,hsame,hF,hsub,hcell,hS⟩
 have hB:B=0:=R.inv.yl.2 (fun e=>by have:=nxOf_mem hy;rw [e] at this;cases this)
 obtain ⟨R1,X1⟩:=R.yielded hB hJ hc hsame hF hsub hcell hS
 rcases he with ⟨rfl,rfl⟩ | ⟨rfl,rfl⟩
 ·exact hn _ _ _ _ _ _ h1 R1 (RV.bool _) X1
 ·exact hn _ _ _ _ _ _ h2 R1 (RV.bool _) X1
theorem pvs_rel (R:Rel E B S0 w0 st G S w tmps) (d:List Deferred) {args:Array Operand} {l:List PV} (h:pvsOf (args.toList.map (valOf st))=some l) :
  RVs S w l (args.map ({ tmps:=tmps,defers:=d }:Act).eval).toList :=
 RSVs.pvs (tk:=st.tk) (G:=G) h (by simp) (rel_list R d args)
theorem eqGuard_slice (op:BinOp) (t:TypeId) (x y:Operand) (a b:Option Addr) (n c n' c':Nat):(eqGuard op t x y (.slice a n c) (.slice b n' c')).run E.P w=.ok () w:=by
 unfold eqGuard
 cases op<;>simp
theorem ok_nilq (hE:EnvOk E) {b:Bool} {op:BinOp} {t:TypeId} {x:SV} {ox y:Operand} {st:St} {K:SV→St→Prop} (h:wpNilq E b t x st K) (hb:nilOp op y=some b) {vx:Value} (hx:RSV st.tk G S w x vx) (ev:Operand→Value) (hev:∀v,ev (.const v)=v) :
  ∃v,(eqGuard op t ox y vx (ev y)).run E.P w=.ok () w∧(binOp op t vx (ev y)).run E.P w=.ok v w∧∃sv,K sv st∧RSV st.tk G S w sv v:=by
 unfold wpNilq at h
 have hk:=(hE.td t).k
 split at h
 ·rename_i e m xs hke hel
  rw [hke] at hk
  have hR:=RSV.elems hx hel
  have key:∃a n cap,vx=.slice a n cap∧(a=none→xs=[]):=by
   cases hR with
   | list _ _ a ad cap g ha hcap hmax hm hc hr hz=>exact ⟨a,_,cap,rfl,fun e1=>Classical.byContradiction fun hne=>by have h9:=ha hne;rw [e1] at h9;cases h9⟩
  obtain ⟨a,n,cap,rfl,h1⟩:=key
  have hK:K (.val (.bool (if a.isNone then b else !b))) st:=by
   cases a with
   | none=>exact h.1 (h1 rfl)
   | some a=>exact h.2
  unfold nilOp at hb
  split at hb
  ·cases hb
   rw [hev]
   refine ⟨.bool a.isNone,eqGuard_slice _ _ _ _ _ _ _ _ _ _,Go.Lib.run_eql_slice_nil w t e a n cap 0 0 hk,_,hK,?_⟩
   cases a<;>exact RV.bool _
  ·cases hb
   rw [hev]
   have hq:=Go.Lib.run_equalIn_slice_nil (P:=E.P) w 9999 t e a n cap 0 0 hk
   refine ⟨.bool (!a.isNone),eqGuard_slice _ _ _ _ _ _ _ _ _ _,by simp only [binOp];simp [Op.equal,Op.maxDepth,hq],_,hK,?_⟩
   cases a<;>exact RV.bool _
  ·cases hb
 ·exact h.elim
theorem wpOp_ok (hE:EnvOk E) (R:Rel E B S0 w0 st G S w tmps) (o:Oper) (d:List Deferred) {dr:Bool} {K:SV→St→Prop} (h:wpOp E dr o.op st K) {next:Act→World→Prop} {Q:Exit→Act→World→Prop}
  (hn:∀(v:Value) (s:SV) (st':St) (G':Gh) (S':Addr→Prop) (w':World),K s st'→Rel E B S0 w0 st' G' S' w' tmps→RSV st'.tk G' S' w' s v→Ext st.tk G S w st'.tk G' S' w'→next (({ tmps:=tmps,defers:=d }:Act).put o.dst v) w') :
  o.wpIn (Fr r) n E.P { tmps:=tmps,defers:=d } w next Q:=by
 refine ⟨fun _ _=>trivial,?_⟩
 have plain:∀(hnd:∀c,o.op≠.defer c),Res.go (evalOp E o.op st) K→o.uponIn (Fr r) n E.P { tmps:=tmps,defers:=d } next Q ((o.semAt (Fr r).round ({ tmps:=tmps,defers:=d }:Act).eval).run E.P w):=by
  intro hnd hg
  rw [Oper.semAt_eq _ _ _ hnd]
  unfold Res.go at hg
  split at hg
  ·rename_i r' hr'
   obtain ⟨nx,v,w',hrun,hnx,G',S',R',V',X'⟩:=ok_op hE R o d r' hr' hg.1
   rw [hrun]
   rcases hnx with rfl | ⟨rfl,rfl⟩
   ·exact hn v _ _ G' S' w' hg.2 R' V' X'
   ·exact hn undef _ _ G' S' w' hg.2 R' V' X'
  ·exact hg.elim
 unfold wpOp at h
 split at h
 ·rename_i x args ts ho
  rw [Oper.semAt_eq _ _ _ (fun c hc=>by rw [ho] at hc;cases hc)]
  have hx:=R.val x d
  have hargs:=rel_list R d args
  have hrun:∀(f:FuncId) (cvs:List Value),({ tmps:=tmps,defers:=d }:Act).eval x=.func (.func f) #[] cvs.toArray→Enters E.P f →
    (execOp ({ tmps:=tmps,defers:=d }:Act).eval o).run E.P w=.ok (.enter f ((args.map ({ tmps:=tmps,defers:=d }:Act).eval).toList++cvs).toArray) w:=by
   intro f cvs hvf hen
   unfold execOp
   rw [ho]
   simp only [resolve,hvf,Deferred.ofValue,Sem.run_bind,Sem.run_pure,Result.andThen_ok,invoke,hen _ w]
   congr 2
   simp
  split at h
  ·rename_i f caps hf
   rw [hf] at hx
   generalize hvf:({ tmps:=tmps,defers:=d }:Act).eval x=vf at hx
   cases hx with
   | fn _ _ cvs hlc hc =>
    split at h
    ·rename_i l hl
     obtain ⟨p,hp,hk⟩:=h
     rw [hrun f cvs hvf hp.1]
     refine ⟨fun h=>absurd h (by simp [Fr,Fence.wide]),?_⟩
     exact run_call R hp (RVs.append (pvs_rel R d (argsOf_some hl)) ⟨hlc,hc⟩) (fun v S' w' R' X' V'=>hn v _ _ G S' w' hk R' V' X')
    ·obtain ⟨_,h⟩:=h
     rcases h with h | ⟨hcaps,h⟩ | h
     rotate_left
     ·subst hcaps
      have hc0:cvs=[]:=List.eq_nil_of_length_eq_zero hlc.symm
      subst hc0
      obtain ⟨id,off,m,len,cap,cells,xs,p,hargs1,hcells,hx1,hxl,hxm,hp,hk⟩:=h
      rw [hrun f [] hvf hp.1]
      refine ⟨fun h=>absurd h (by simp [Fr,Fence.wide]),?_⟩
      have hone:∃v,(args.map ({ tmps:=tmps,defers:=d }:Act).eval).toList=[v]:=by
       have hlen:((args.map ({ tmps:=tmps,defers:=d }:Act).eval).toList).length=1:=by
        have:=congrArg List.length hargs1
        simpa using this
       match hq:(args.map ({ tmps:=tmps,defers:=d }:Act).eval).toList,hlen with
       | [v],_=>exact ⟨v,rfl⟩
      obtain ⟨v,hv1⟩:=hone
      have hvr:=hargs 0 (.row id off m len cap) v (by rw [hargs1];rfl) (by rw [hv1];rfl)
      rw [hv1]
      exact run_lent R hp hvr hcells hx1 hxl hxm (fun v S' w' R' X' V'=>hn v _ _ G S' w' hk R' V' X')
     ·obtain ⟨QR,hp,hk⟩:=h
      rw [hrun f cvs hvf hp.1]
      refine ⟨fun h=>absurd h (by simp [Fr,Fence.wide]),?_⟩
      refine run_deep R hp (by simp [hlc]) (fun i s v a1 a2=>?_) (fun v rv bx' tk' ax' G' S' w' hq R' X' V'=>hn v rv ⟨st.sl,bx',tk',ax'⟩ G' S' w' (hk _ _ _ _ hq) R' V' X')
      by_cases hi:i<args.size
      ·rw [List.getElem?_append_left (by simpa using hi)] at a1 a2
       exact hargs i s v a1 (by simpa using a2)
      ·rw [List.getElem?_append_right (by simp;omega)] at a1 a2
       simp only [List.length_map,Array.length_toList,Array.size_map] at a1 a2
       rw [List.getElem?_map] at a1
       cases hq:caps[i - args.size]? with
       | none=>rw [hq] at a1;cases a1
       | some c =>
        rw [hq] at a1
        simp only [Option.map_some,Option.some.injEq] at a1
        subst a1
        exact hc _ c v hq a2
     obtain ⟨st',l',ps,hF,hps,p,hp,hk⟩:=h
     obtain ⟨S',R1,X1,hl1,V1⟩:=hF.ok (vs:=(args.map ({ tmps:=tmps,defers:=d }:Act).eval).toList) R (by simpa using hargs)
     have hlen:l'.length=((args.map ({ tmps:=tmps,defers:=d }:Act).eval).toList).length:=by rw [hl1];simp
     have hrvs:=RSVs.pvs (tk:=st'.tk) (G:=G) hps hlen V1
     have hcap:RVs S' w caps cvs:=RVs.mono X1.sub X1.cell ⟨hlc,hc⟩
     rw [hrun f cvs hvf hp.1]
     refine ⟨fun h=>absurd h (by simp [Fr,Fence.wide]),?_⟩
     exact run_call R1 hp (RVs.append hrvs hcap) (fun v S'' w' R' X' V'=>hn v _ _ G S'' w' hk R' V' (X1.trans X'))
  ·rename_i f caps hf
   rw [hf] at hx
   obtain ⟨_,QR,hp,hk⟩:=h
   obtain ⟨cvs,hvf,hlc,hc⟩:=hx
   rw [hrun f cvs hvf hp.1]
   refine ⟨fun h=>absurd h (by simp [Fr,Fence.wide]),?_⟩
   refine run_deep R hp (by simp [hlc]) (fun i s v a1 a2=>?_) (fun v rv bx' tk' ax' G' S' w' hq R' X' V'=>hn v rv ⟨st.sl,bx',tk',ax'⟩ G' S' w' (hk _ _ _ _ hq) R' V' X')
   by_cases hi:i<args.size
   ·rw [List.getElem?_append_left (by simpa using hi)] at a1 a2
    exact hargs i s v a1 (by simpa using a2)
   ·rw [List.getElem?_append_right (by simp;omega)] at a1 a2
    simp only [List.length_map,Array.length_toList,Array.size_map] at a1 a2
    rw [List.getElem?_map] at a1
    cases hq:caps[i - args.size]? with
    | none=>rw [hq] at a1;cases a1
    | some c =>
     rw [hq] at a1
     simp only [Option.map_some,Option.some.injEq] at a1
     subst a1
     have:=hc _ c v hq a2
     cases c<;>exact this
  ·rename_i l hf
   rw [hf] at hx
   generalize hvf:({ tmps:=tmps,defers:=d }:Act).eval x=vf at hx
   cases hx with
   | yld _ =>
    have hry:(execOp ({ tmps:=tmps,defers:=d }:Act).eval o).run E.P w=(Instr.yield l (args.map ({ tmps:=tmps,defers:=d }:Act).eval)).run E.P w:=by
     unfold execOp
     rw [ho]
     simp only [resolve,hvf,Deferred.ofValue,Sem.run_bind,Sem.run_pure,Result.andThen_ok,invoke]
     simp
    rw [hry]
    split at h
    ·rename_i ps hps
     have:=run_yieldA (r:=r) (n:=n) (Q:=Q) (o:=o) (a:={ tmps:=tmps,defers:=d }) (next:=next) hE R h.2 (pvs_rel R d hps) hn
     rw [Array.toArray_toList] at this
     exact this
    ·obtain ⟨_,st',l',ps,hF,hps,hy⟩:=h
     obtain ⟨S',R1,X1,hl1,V1⟩:=hF.ok (vs:=(args.map ({ tmps:=tmps,defers:=d }:Act).eval).toList) R (by simpa using hargs)
     have hlen:l'.length=((args.map ({ tmps:=tmps,defers:=d }:Act).eval).toList).length:=by rw [hl1];simp
     have hrvs:=RSVs.pvs (tk:=st'.tk) (G:=G) hps hlen V1
     have:=run_yieldA (r:=r) (n:=n) (Q:=Q) (o:=o) (a:={ tmps:=tmps,defers:=d }) (next:=next) hE R1 hy hrvs (fun v s st2 G2 S2 w2 hk R2 V2 X2=>hn v s st2 G2 S2 w2 hk R2 V2 (X1.trans X2))
     rw [Array.toArray_toList] at this
     exact this
  ·exact h.elim
 ·rename_i args ts ho
  split at h
  ·obtain ⟨_,h⟩:=h
   rw [Oper.semAt_eq _ _ _ (fun c hc=>by rw [ho] at hc;cases hc)]
   obtain ⟨v,w',hrun,sv,st',G',S',hk,R',V',X'⟩:=ok_appR hE R h (vs:=(args.map ({ tmps:=tmps,defers:=d }:Act).eval).toList) (by simp) (by simpa using rel_list R d args) o.type
   have hex:(execOp ({ tmps:=tmps,defers:=d }:Act).eval o).run E.P w=.ok (.value v) w':=by
    unfold execOp
    rw [ho]
    simp only [Array.toArray_toList] at hrun
    simp [resolve,invoke,builtin,hrun]
   rw [hex]
   exact hn v _ _ G' S' w' hk R' V' X'
  ·refine plain (fun c hc=>?_) h
   rw [hc] at ho
   cases ho
 ·rename_i x ho
  obtain ⟨_,h⟩:=h
  rw [Oper.semAt_eq _ _ _ (fun c hc=>by rw [ho] at hc;cases hc)]
  obtain ⟨v,w',hrun,sv,st',hk,R',V',X'⟩:=ok_next R h (R.val x d) o.type
  have hex:(execOp ({ tmps:=tmps,defers:=d }:Act).eval o).run E.P w=.ok (.value v) w':=by
   unfold execOp
   rw [ho]
   simp [hrun,Result.andThen]
  rw [hex]
  exact hn v _ _ G S w' hk R' V' X'
 ·rename_i t m x ho
  obtain ⟨_,h⟩:=h
  rw [Oper.semAt_eq _ _ _ (fun c hc=>by rw [ho] at hc;cases hc)]
  obtain ⟨v,w',hrun,sv,st',hk,R',V',X'⟩:=ok_mapEntry hE R h (R.val m d) (R.val x d)
  have hex:(execOp ({ tmps:=tmps,defers:=d }:Act).eval o).run E.P w=.ok (.value v) w':=by
   unfold execOp
   rw [ho]
   simp [hrun,Result.andThen]
  rw [hex]
  exact hn v _ _ G S w' hk R' V' X'
 ·rename_i op t x y u ho
  split at h
  ·rename_i b hb
   obtain ⟨_,h⟩:=h
   rw [Oper.semAt_eq _ _ _ (fun c hc=>by rw [ho] at hc;cases hc)]
   obtain ⟨v,hgr,hrun,sv,hk,V'⟩:=ok_nilq (ox:=x) (y:=y) hE h hb (R.val x d) ({ tmps:=tmps,defers:=d }:Act).eval (fun _=>rfl)
   have hex:(execOp ({ tmps:=tmps,defers:=d }:Act).eval o).run E.P w=.ok (.value v) w:=by
    unfold execOp
    rw [ho]
    simp [hgr,hrun,Result.andThen]
   rw [hex]
   exact hn v _ _ G S w hk R V' (Ext.refl _ _ _ _)
  ·rw [←ho] at h
   exact plain (fun c hc=>by rw [ho] at hc;cases hc) h
 ·rename_i hne1 hne2 hne3 hne4 hne5
  refine plain (fun c hc=>?_) h
  rw [hc] at h
  exact h
theorem put_tk (m:St) (d:Option Tmp) (v:SV):(m.put d v).tk=m.tk:=by cases d<;>rfl
theorem wpOne_ok (hE:EnvOk E) {ops:Array Oper} {i:Nat} {o:Oper} (ho:ops[i]?=some o) {dr:Bool} {K:St→Prop} {Kont:Act→World→Prop} {Q:Exit→Act→World→Prop} (d:List Deferred) {tk0:List (Nat × TypeId)} {G0:Gh} {S1:Addr→Prop} {w1:World}
  (h:wpOps E dr ops.toList [o] st K) (R:Rel E B S0 w0 st G S w tmps) (X:Ext tk0 G0 S1 w1 st.tk G S w)
  (hK:∀(st':St) (G':Gh) (S':Addr→Prop) (w':World) (tmps':Array Value),K st'→Rel E B S0 w0 st' G' S' w' tmps'→Ext tk0 G0 S1 w1 st'.tk G' S' w'→Kont { tmps:=tmps',defers:=d } w') :
  wpOpIn (Fr r) n E.P ops Q i Kont { tmps:=tmps,defers:=d } w:=by
 have go:∀(v:Value) (s:SV) (st':St) (G':Gh) (S':Addr→Prop) (w':World),K (st'.put o.dst s)→Rel E B S0 w0 st' G' S' w' tmps→RSV st'.tk G' S' w' s v→Ext tk0 G0 S1 w1 st'.tk G' S' w' →
   Kont (({ tmps:=tmps,defers:=d }:Act).put o.dst v) w':=by
  intro v s st' G' S' w' hk R' V' X'
  obtain ⟨R2,hd⟩:=R'.put V' o.dst d
  have hact:({ tmps:=tmps,defers:=d }:Act).put o.dst v={ tmps:=(({ tmps:=tmps,defers:=d }:Act).put o.dst v).tmps,defers:=d }:=by
   cases hq:({ tmps:=tmps,defers:=d }:Act).put o.dst v with
   | mk t ds=>rw [hq] at hd;simp only at hd;rw [hd]
  rw [hact]
  exact hK _ G' S' w' _ hk R2 (by rw [put_tk];exact X')
 simp only [wpOpIn,ho]
 simp only [wpOps] at h
 split at h
 ·rename_i hg
  rw [if_pos (by simp [Region.wanted,hg])]
  exact wpOp_ok hE R o d h (fun v s st' G' S' w' hk R' V' X'=>go v s st' G' S' w' hk R' V' (X.trans X'))
 ·rename_i j want hg
  split at h
  ·exact h.elim
  ·rename_i t ht
   have hty:(ops[j]?).bind (·.dst)=some t:=by simpa [dstOf] using ht
   split at h
   ·rename_i hu
    have hno:Region.wanted o (yielded ops tmps)=false:=by
     simp only [Region.wanted,hg,yielded,hty,Option.bind_some]
     by_cases hlt:t<st.sl.length
     ·have hlt':t<tmps.size:=by rw [←R.len];exact hlt
      have hs:st.sl[t]?=some .undef:=by
       rw [List.getD_eq_getElem?_getD,List.getElem?_eq_getElem hlt] at hu
       rw [List.getElem?_eq_getElem hlt]
       simpa using hu
      have hv:=R.sl t _ _ hs (Array.getElem?_eq_getElem hlt')
      rw [Array.getElem?_eq_getElem hlt',show tmps[t]=undef from hv]
      rfl
     ·have hlt':¬t<tmps.size:=by rw [←R.len];exact hlt
      rw [Array.getElem?_eq_none (Nat.le_of_not_lt hlt')]
      rfl
    rw [if_neg (by rw [hno];simp)]
    exact ⟨fun _ _=>trivial,go undef .undef st G S w h R rfl X⟩
   ·rename_i b hb
    have hlt:t<st.sl.length:=by
     rcases Nat.lt_or_ge t st.sl.length with h' | h'
     ·exact h'
     ·rw [List.getD_eq_getElem?_getD,List.getElem?_eq_none h'] at hb;cases hb
    have hlt':t<tmps.size:=by rw [←R.len];exact hlt
    have hs:st.sl[t]?=some (.val (.bool b)):=by
     rw [List.getD_eq_getElem?_getD,List.getElem?_eq_getElem hlt] at hb
     rw [List.getElem?_eq_getElem hlt]
     simpa using hb
    have hv:tmps[t]=.bool b:=RV.bool_inv (R.sl t _ _ hs (Array.getElem?_eq_getElem hlt'))
    have hyl:yielded ops tmps j=some b:=by
     simp only [yielded,hty,Option.bind_some,Array.getElem?_eq_getElem hlt',hv]
    have hput:∀b',b=b'→st.put (some t) (.val (.bool b'))=st:=by
     intro b' e
     subst e
     have:st.sl.set t (.val (.bool b))=st.sl:=by
      apply List.ext_getElem?
      intro i
      rw [List.getElem?_set]
      split
      ·rename_i hi;subst hi;rw [hs]
      ·rfl
     simp [St.put,this]
    by_cases hbw:b=want
    ·rw [if_pos (by simp [Region.wanted,hg,hyl,hbw])]
     have h1:=h.1 hbw
     rw [hput want hbw] at h1
     exact wpOp_ok hE R o d h1 (fun v s st' G' S' w' hk R' V' X'=>go v s st' G' S' w' hk R' V' (X.trans X'))
    ·rw [if_neg (by simp [Region.wanted,hg,hyl,hbw])]
     have hbn:b=!want:=by cases b<;>cases want<;>simp_all
     have h1:=h.2 hbn
     rw [hput (!want) hbn] at h1
     exact ⟨fun _ _=>trivial,go undef .undef st G S w h1 R rfl X⟩
   ·exact h.elim
theorem wpAll_ok (hE:EnvOk E) (ops:Array Oper) {K:St→Prop} {Q:Exit→Act→World→Prop} (d:List Deferred) {tk0:List (Nat × TypeId)} {G0:Gh} {S1:Addr→Prop} {w1:World}
  (hQ:∀(st':St) (G':Gh) (S':Addr→Prop) (w':World) (tmps':Array Value),K st'→Rel E B S0 w0 st' G' S' w' tmps'→Ext tk0 G0 S1 w1 st'.tk G' S' w'→Q .normal { tmps:=tmps',defers:=d } w') :
  ∀(fuel:Nat) (listed:Array Bool) (st:St) (G:Gh) (S:Addr→Prop) (w:World) (tmps:Array Value),wpAll E ops fuel listed st K→Rel E B S0 w0 st G S w tmps→Ext tk0 G0 S1 w1 st.tk G S w →
   wpAnyIn (Fr r) n E.P .any ops Q fuel listed { tmps:=tmps,defers:=d } w
 | 0,listed,st,G,S,w,tmps,h,R,X=>by
  simp only [wpAll] at h
  split at h
  ·rename_i h0;exact ⟨h0,hQ st G S w tmps h R X⟩
  ·exact h.elim
 | fuel+1,listed,st,G,S,w,tmps,h,R,X=>by
  simp only [wpAll] at h
  split at h
  ·rename_i h0
   refine ⟨fun _=>hQ st G S w tmps h R X,fun i hi=>?_⟩
   rw [h0] at hi;cases hi
  ·rename_i i0 rest h0
   refine ⟨fun e=>(by rw [e] at h0;cases h0),fun i hi=>?_⟩
   rw [h0] at hi
   have h1:=allL_get h i hi
   split at h1
   ·exact h1.elim
   ·rename_i o ho
    exact wpOne_ok hE ho d h1 R X fun st' G' S' w' tmps' hk R' X'=>wpAll_ok hE ops d hQ fuel _ st' G' S' w' tmps' hk R' X'
theorem wpOps_ok (hE:EnvOk E) (ops:Array Oper) {dr:Bool} {K:St→Prop} {Q:Exit→Act→World→Prop} (d:List Deferred) {tk0:List (Nat × TypeId)} {G0:Gh} {S1:Addr→Prop} {w1:World} :
  ∀(l:List Oper) (k:Nat) (st:St) (G:Gh) (S:Addr→Prop) (w:World) (tmps:Array Value),(∀j,l[j]?=ops[k+j]?)→wpOps E dr ops.toList l st K→Rel E B S0 w0 st G S w tmps→Ext tk0 G0 S1 w1 st.tk G S w →
   (∀(st':St) (G':Gh) (S':Addr→Prop) (w':World) (tmps':Array Value),K st'→Rel E B S0 w0 st' G' S' w' tmps'→Ext tk0 G0 S1 w1 st'.tk G' S' w'→Q .normal { tmps:=tmps',defers:=d } w') →
   wpOpsIn (Fr r) n E.P ops Q (List.range' k l.length) { tmps:=tmps,defers:=d } w
 | [],k,st,G,S,w,tmps,_,h,R,X,hQ=>hQ st G S w tmps h R X
 | o::rest,k,st,G,S,w,tmps,hl,h,R,X,hQ=>by
  have ho:ops[k]?=some o:=by simpa using (hl 0).symm
  have hl':∀j,rest[j]?=ops[k+1+j]?:=fun j=>by have:=hl (j+1);simpa [Nat.add_assoc,Nat.add_comm 1 j] using this
  have go:∀(v:Value) (s:SV) (st':St) (G':Gh) (S':Addr→Prop) (w':World),wpOps E dr ops.toList rest (st'.put o.dst s) K→Rel E B S0 w0 st' G' S' w' tmps→RSV st'.tk G' S' w' s v→Ext tk0 G0 S1 w1 st'.tk G' S' w' →
    wpOpsIn (Fr r) n E.P ops Q (List.range' (k+1) rest.length) (({ tmps:=tmps,defers:=d }:Act).put o.dst v) w':=by
   intro v s st' G' S' w' hk R' V' X'
   obtain ⟨R2,hd⟩:=R'.put V' o.dst d
   have hact:({ tmps:=tmps,defers:=d }:Act).put o.dst v={ tmps:=(({ tmps:=tmps,defers:=d }:Act).put o.dst v).tmps,defers:=d }:=by
    cases hq:({ tmps:=tmps,defers:=d }:Act).put o.dst v with
    | mk t ds=>rw [hq] at hd;simp only at hd;rw [hd]
   rw [hact]
   exact wpOps_ok hE ops d rest (k+1) _ G' S' w' _ hl' hk R2 (by rw [put_tk];exact X') hQ
  simp only [List.length_cons,List.range'_succ,wpOpsIn,ho]
  simp only [wpOps] at h
  split at h
  ·rename_i hg
   rw [if_pos (by simp [Region.wanted,hg])]
   exact wpOp_ok hE R o d h (fun v s st' G' S' w' hk R' V' X'=>go v s st' G' S' w' hk R' V' (X.trans X'))
  ·rename_i j want hg
   split at h
   ·exact h.elim
   ·rename_i t ht
    have hty:(ops[j]?).bind (·.dst)=some t:=by simpa [dstOf] using ht
    split at h
    ·rename_i hu
     have hno:Region.wanted o (yielded ops tmps)=false:=by
      simp only [Region.wanted,hg,yielded,hty,Option.bind_some]
      by_cases hlt:t<st.sl.length
      ·have hlt':t<tmps.size:=by rw [←R.len];exact hlt
       have hs:st.sl[t]?=some .undef:=by
        rw [List.getD_eq_getElem?_getD,List.getElem?_eq_getElem hlt] at hu
        rw [List.getElem?_eq_getElem hlt]
        simpa using hu
       have hv:=R.sl t _ _ hs (Array.getElem?_eq_getElem hlt')
       rw [Array.getElem?_eq_getElem hlt',show tmps[t]=undef from hv]
       rfl
      ·have hlt':¬t<tmps.size:=by rw [←R.len];exact hlt
       rw [Array.getElem?_eq_none (Nat.le_of_not_lt hlt')]
       rfl
     rw [if_neg (by rw [hno];simp)]
     exact ⟨fun _ _=>trivial,go undef .undef st G S w h R rfl X⟩
    ·rename_i b hb
     have hlt:t<st.sl.length:=by
      rcases Nat.lt_or_ge t st.sl.length with h' | h'
      ·exact h'
      ·rw [List.getD_eq_getElem?_getD,List.getElem?_eq_none h'] at hb;cases hb
     have hlt':t<tmps.size:=by rw [←R.len];exact hlt
     have hs:st.sl[t]?=some (.val (.bool b)):=by
      rw [List.getD_eq_getElem?_getD,List.getElem?_eq_getElem hlt] at hb
      rw [List.getElem?_eq_getElem hlt]
      simpa using hb
     have hv:tmps[t]=.bool b:=RV.bool_inv (R.sl t _ _ hs (Array.getElem?_eq_getElem hlt'))
     have hyl:yielded ops tmps j=some b:=by
      simp only [yielded,hty,Option.bind_some,Array.getElem?_eq_getElem hlt',hv]
     have hput:∀b',b=b'→st.put (some t) (.val (.bool b'))=st:=by
      intro b' e
      subst e
      have:st.sl.set t (.val (.bool b))=st.sl:=by
       apply List.ext_getElem?
       intro i
       rw [List.getElem?_set]
       split
       ·rename_i hi;subst hi;rw [hs]
       ·rfl
      simp [St.put,this]
     by_cases hbw:b=want
     ·rw [if_pos (by simp [Region.wanted,hg,hyl,hbw])]
      have h1:=h.1 hbw
      rw [hput want hbw] at h1
      exact wpOp_ok hE R o d h1 (fun v s st' G' S' w' hk R' V' X'=>go v s st' G' S' w' hk R' V' (X.trans X'))
     ·rw [if_neg (by simp [Region.wanted,hg,hyl,hbw])]
      have hbn:b=!want:=by cases b<;>cases want<;>simp_all
      have h1:=h.2 hbn
      rw [hput (!want) hbn] at h1
      exact ⟨fun _ _=>trivial,go undef .undef st G S w h1 R rfl X⟩
    ·exact h.elim
theorem act_eta {a:Act} {d:List Deferred} (h:a.defers=d):a={ tmps:=a.tmps,defers:=d }:=by cases a;simp at h;subst h;rfl
theorem rsv_getD (R:Rel E B S0 w0 st G S w tmps) (t:Nat):RSV st.tk G S w (st.sl.getD t .undef) (tmps.getD t undef):=by
 have:=R.val (.tmp t) []
 simpa [valOf,Act.eval] using this
end
end Go.Abs
