/- Contracts of the functions, and what they rest on: part 3. -/
import Derived.Test.YtcafjndjnfdnpaaGreatT2
set_option linter.unusedVariables false
set_option linter.unusedSimpArgs false
namespace Go.Abs
open Go.RowKit
section
variable {E:Env} {B:Nat} {S0:Addr->Prop} {w0:World} {st:St} {G:Gh} {S:Addr->Prop} {w:World} {tmps:Array Value}
theorem getD_some {bx:List (Option (List SV))} {id:Nat} {cs:List SV} (h:bx.getD id none=some cs):bx[id]?=some (some cs):=by
 rw [Zyj] at h
 cases hq:bx[id]? with
 | none=>simp [hq] at h
 | some x=>simp [hq] at h;rw [h]
theorem ZbI.row {b b':Nat} {arr arr':Array Value} {t:TypeId} {m:Nat × Nat} (hh:w.heap[b]?=some (.cells arr t m)):ZbI w (w.setRow b arr') b':=λ o ho h=>by
 rcases Decidable.em (b'=b) with rfl | hne
 ·rw [hh] at h;cases h;cases ho
 ·exact (setRow_other w b b' arr' hne).trans h
theorem ZvW {b:Nat} {arr:Array Value} {t:TypeId} {m:Nat × Nat} (hh:w.heap[b]?=some (.cells arr t m)):∀o,Zhd o=true->w.heap[b]?≠some o:=λ o ho h=>by
 rw [hh] at h;cases h;cases ho
theorem Rel.setBox (R:Rel E B S0 w0 st G S w tmps) {id b:Nat} {t:TypeId} {arr arr':Array Value} {cs cs':List SV} (hb:G.bx[id]?=some b) (hc:st.bx[id]?=some (some cs)) (hh:w.heap[b]?=some (.cells arr t (0,0)))
  (hl:arr'.size=cs'.length) (hr:∀(j:Nat) (c:SV) (v:Value),cs'[j]?=some c->arr'[j]?=some v->RSV st.tk G S w c v/\v.oneCell'=true) :
  Rel E B S0 w0 (st.setBx id (some cs')) G S (w.setRow b arr') tmps/\Ext st.tk G S w st.tk G S (w.setRow b arr'):=by
 have hI:=R.inv
 have hSb:∀a,S a->a.block≠b:=(hI.box id b cs hc hb).2
 have hE:Ext st.tk G S w st.tk G S (w.setRow b arr'):=⟨λ _ _ h=>h,λ _ hv le h1 h2=>⟨hv,le,h1,h2,.inl ⟨rfl,rfl⟩⟩,λ _ h=>h,λ a ha=>Qq.of_block (setRow_other w b a.block arr' (hSb a ha)),λ _ _ h=>h,⟨rfl,rfl,rfl,by simp,λ k hk=>absurd hk (ZzB _),Zyp _⟩,λ b' _ hf=>setRow_other w b b' arr' (λ e=>hf (.inl ⟨id,by rw [e];exact hb⟩)),λ _ _ h=>h,λ _ h=>.inl h⟩
 have hBb:=(hI.old id b hb).1
 have hid:id<st.bx.length:=(ZxZ.1 hc).1
 refine ⟨⟨⟨by simpa using hI.base,hI.s0,λ a ha=>by simpa using hI.slt a ha,by simp [St.setBx,hI.lbx],hI.ltk,λ i b' h=>by simpa using hI.old i b' h,hI.dist,?_,?_,hI.apart,hI.lmp,hI.dmp,λ i b' h=>by simpa using hI.mpo i b' h,λ i b' c h1 h2=>(hI.mpk i b' c h1 h2).mono (ZbI.row hh) (λ m bm h=>⟨h,ZbI.row hh⟩) (λ _ h=>h) hE.cell (λ _ h=>.inl h),λ b' h=>by simpa using hI.flt b' h,hI.fbx,hI.ftk,hI.fmp,
  ⟨E.Y.ok _ _ _ _ _ _ hI.yl.1 ⟨hE.calm,λ b' h=>setRow_other w b b' arr' (λ e=>hI.fbx id b' (by rw [e];exact hb) h),λ _ h=>h,hE.cell,λ _ h=>.inl h,λ a ha=>by simpa using hI.slt a ha⟩,hI.yl.2⟩⟩,?_,R.len,λ t s v a1 a2=>RSV.mono hE (R.sl t s v a1 a2)⟩,hE⟩
 ·intro id' b' cs'' h1 h2
  simp only [St.setBx,ZyC] at h1
  split at h1
  ·rename_i he
   subst he
   simp only [Zyu] at h1
   subst h1
   rw [hb] at h2
   cases h2
   exact ⟨⟨t,arr',setRow_heap w b arr arr' t _ hh,hl,λ j c v a1 a2=>⟨RSV.mono hE (hr j c v a1 a2).1,(hr j c v a1 a2).2⟩⟩,hSb⟩
  ·rename_i hne
   have hbb:b'≠b:=λ e=>hne (hI.dist id id' b hb (by rw [<-e];exact h2))
   obtain ⟨⟨t',a',k1,k2,k3⟩,k4⟩:=hI.box id' b' cs'' h1 h2
   exact ⟨⟨t',a',by rw [setRow_other w b b' arr' hbb];exact k1,k2,λ j c v a1 a2=>⟨RSV.mono hE (k3 j c v a1 a2).1,(k3 j c v a1 a2).2⟩⟩,k4⟩
 ·intro t' n e hv h1 h2
  obtain ⟨a,cap,k1,k2,k3,k4⟩:=hI.tok t' n e hv h1 h2
  refine ⟨a,cap,k1,k2,k3,λ hlt=>?_⟩
  obtain ⟨g,cur,c1,c2,c3,c4,c5,c6⟩:=k4 hlt
  have hgb:g≠b:=λ e=>c6 id (by rw [e];exact hb)
  exact ⟨g,cur,c1,c2,by rw [setRow_other w b g arr' hgb];exact c3,c4,c5,c6⟩
 ·exact R.below.trans ⟨rfl,rfl,rfl,by simp,λ k hk=>setRow_other w b k arr' (by omega),Zyp _⟩
theorem Zok {v:Value} (h:v.oneCell'=true):v.cells=#[v]:=by cases v<;>simp_all [Value.cells,Value.oneCell']
theorem Zt9 (hE:ZQ E) (R:Rel E B S0 w0 st G S w tmps) {t:TypeId} {x y:SV} {vx vy:Value} (hx:RSV st.tk G S w x vx) (hy:RSV st.tk G S w y vy) :
  QK E B S0 w0 (Zai E t x y st) G S w st.tk tmps (do Instr.storeAt t vx vy;pure .skip):=by
 intro r' hr hside
 unfold Zai at hr
 split at hr
 ·rename_i id off
  obtain ⟨b,hb,rfl⟩:=hx
  split at hr
  ·rename_i cs hcs
   have hcs':=getD_some hcs
   obtain ⟨ty,arr,hh,hl,hrr,hcell,_⟩:=R.inv.read hb hcs
   split at hr
   ·rename_i hag
    split at hr
    ·rename_i l
     split at hr
     ·rename_i hl1
      cases hr
      have hside':off+l.length<=cs.length:=hside
      obtain ⟨vs,rfl,hvs⟩:=RV.agg_iff hy
      obtain ⟨i,z,u,hi,hsz,_⟩:=(hE.td t).info (.inr hag)
      have hvl:vs.length=l.length:=hvs.1.symm
      have hone:∀v∈vs,v.oneCell'=true:=λ v hv=>by
       obtain ⟨k,hk⟩:=ZyO.1 hv
       have hk':k<l.length:=by rw [hvs.1];exact (ZxZ.1 hk).1
       exact RV.of_one (hvs.2 k _ v (Zya hk') hk) (Zym.1 hl1.2 _ (Zzg hk'))
      have hst:=run_storeCells_at E.P b off ty vs 0 arr w hh (by omega) hone
      simp only [Zzj] at hst
      obtain ⟨R1,X1⟩:=R.setBox hb hcs' hh (arr':=(arr.toList.take off++vs++arr.toList.drop (off+vs.length)).toArray) (cs':=cs.take off++(l.map SV.val++cs.drop (off+l.length)))
       (by simp [hl,hvl]) (λ j c v a1 a2=>by
        simp only [Zy9,Z0o] at a2
        rcases Zzs j off with hj | hj | hj
        ·rw [Zye (by simp;omega),Zyx,if_pos hj] at a1 a2
         exact hrr j c v a1 (by simpa using a2)
        all_goals
         have ht:(cs.take off).length=off:=by simp;omega
         have ht':(arr.toList.take off).length=off:=by simp;omega
         rw [Zyd (by omega),ht] at a1
         rw [Zyd (by omega),ht'] at a2
         by_cases hj2:j - off<l.length
         ·rw [Zye (by simpa using hj2),Zyh,Zya hj2] at a1
          rw [Zye (by omega)] at a2
          simp only [Zy5,Zyu] at a1
          subst a1
          exact ⟨hvs.2 _ _ v (Zya hj2) a2,hone v (Zyb a2)⟩
         ·rw [Zyd (by simp;omega),Zy8] at a1
          rw [Zyd (by omega),Zy8] at a2
          refine hrr _ c v a1 ?_
          rw [<-Zy2,<-a2]
          congr 1
          simp
          omega)
      refine ⟨_,undef,_,?_,.inr ⟨rfl,rfl⟩,G,S,R1,rfl,X1⟩
      have hn:¬(Value.agg vs.toArray).cells.size≠i.size:=by simp [Value.cells,hvl,hl1.1,hsz]
      have hcl:(Value.agg vs.toArray).cells.toList=vs:=rfl
      simp only [Instr.storeAt,Instr.sureAddr,storeVar,Sem.run_bind,Sem.run_pure,Result.andThen_ok,Qw hi,if_neg hn,Sem.run_ite,hcl,hst]
     ·cases hr
    ·cases hr
   ·split at hr
    ·rename_i h1
     cases hr
     have hside':off<cs.length:=hside
     have hone:=RSV.of_one hy h1.1
     obtain ⟨i,z,u,hi,hsz,_⟩:=(hE.td t).info (.inl (by omega))
     have hst:=run_storeCells_at E.P b off ty [vy] 0 arr w hh (by simp;omega) (by simpa using hone)
     simp only [Zzj] at hst
     obtain ⟨R1,X1⟩:=R.setBox hb hcs' hh (arr':=(arr.toList.take off++[vy]++arr.toList.drop (off+[vy].length)).toArray) (cs':=cs.set off y)
      (by simp [hl];omega) (λ j c v a1 a2=>by
       simp only [Zy9,Z0o] at a2
       rw [ZyC] at a1
       have ht':(arr.toList.take off).length=off:=by simp;omega
       split at a1
       ·rename_i he
        subst he
        rw [Zyd (by omega),ht'] at a2
        simp only [Zzw,Zzq,ZzZ,Zyu] at a2
        cases a1
        subst a2
        exact ⟨hy,hone⟩
       ·rename_i hne
        rcases Zy6 j off with hj | hj
        ·rw [Zye (by omega),Zyx,if_pos hj] at a2
         exact hrr j c v a1 (by simpa using a2)
        ·rw [Zyd (by omega),ht',Zyd (by simp;omega),Zy8] at a2
         refine hrr j c v a1 ?_
         rw [<-Zy2,<-a2]
         congr 1
         simp
         omega)
     refine ⟨_,undef,_,?_,.inr ⟨rfl,rfl⟩,G,S,R1,rfl,X1⟩
     have hn:¬vy.cells.size≠i.size:=by rw [Zok hone,hsz,h1.2];simp
     have hcl:vy.cells.toList=[vy]:=by rw [Zok hone]
     simp only [Instr.storeAt,Instr.sureAddr,storeVar,Sem.run_bind,Sem.run_pure,Result.andThen_ok,Qw hi,if_neg hn,Sem.run_ite,hcl,hst]
    ·cases hr
  ·cases hr
 ·cases hr
theorem ZjC:∀{cs:List Cap} {ps:List PV},Zgv cs=some ps->ps.length=cs.length/\∀(i:Nat) (p:PV),ps[i]?=some p->cs[i]?=some (.pv p)
 | [],ps,h=>by simp only [Zgv,Zyu] at h;subst h;exact ⟨rfl,λ i p h=>by simp at h⟩
 | .box a b::r,ps,h=>by simp [Zgv] at h
 | .pv p::r,ps,h=>by
  simp only [Zgv] at h
  cases hq:Zgv r with
  | none=>simp [hq] at h
  | some q =>
   simp only [hq,Zy5,Zyu] at h
   subst h
   obtain ⟨a,b⟩:=ZjC hq
   refine ⟨by simp [a],λ i x hx=>?_⟩
   cases i with
   | zero=>simp at hx;subst hx;rfl
   | succ i=>simpa using b i x (by simpa using hx)
theorem Rel.seal_ (R:Rel E B S0 w0 st G S w tmps) {id b:Nat} {cs:List SV} {ps:List PV} (hb:G.bx[id]?=some b) (hc:st.bx.getD id none=some cs) (hp:Zam cs=some ps) :
  Rel E B S0 w0 (st.sealBx id ps) G (λ a=>S a\/a.block=b) w tmps/\Ext st.tk G S w st.tk G (λ a=>S a\/a.block=b) w /\
   (∀off,RV (λ a=>S a\/a.block=b) w (.ptr ps off) (.pointer (some ⟨b,off,none⟩))) /\
   ∀(s:SV) (v:Value),RSV st.tk G S w s v->RSV st.tk G (λ a=>S a\/a.block=b) w (Zgw id ps s) v:=by
 have hI:=R.inv
 obtain ⟨ty,arr,hh,hl,hrr,hcell,hSb⟩:=hI.read hb hc
 have hE:Ext st.tk G S w st.tk G (λ a=>S a\/a.block=b) w:=⟨λ _ _ h=>h,λ _ hv le h1 h2=>⟨hv,le,h1,h2,.inl ⟨rfl,rfl⟩⟩,λ _ h=>.inl h,λ _ _=>Qq.refl _ _,λ _ _ h=>h,Below.refl _ _,λ _ _ _=>rfl,λ _ _ h=>h,λ a ha=>ha.imp (λ h=>h) λ h=>.inl (.inl ⟨id,by rw [h];exact hb⟩)⟩
 have hold:=hI.old id b hb
 have hptr:∀off,RV (λ a=>S a\/a.block=b) w (.ptr ps off) (.pointer (some ⟨b,off,none⟩)):=by
  intro off
  have hlen:=Zej hp
  have:=RV.ptr (S:=λ a=>S a\/a.block=b) (w:=w) ps off ⟨b,0,none⟩ (λ j=>arr.getD j undef) (λ j c hj=>by
   obtain ⟨s,hs,hsp⟩:=ZfF hp j c hj
   have hj':j<arr.size:=by rw [hl];exact (ZxZ.1 hs).1
   have hv:arr[j]?=some (arr.getD j undef):=by simp [Array.getD,hj']
   rw [Y0,ZyK,hcell]
   exact ⟨.inr rfl,hv,(hrr j s _ hs hv).2⟩) (λ j c hj=>by
   obtain ⟨s,hs,hsp⟩:=ZfF hp j c hj
   have hj':j<arr.size:=by rw [hl];exact (ZxZ.1 hs).1
   have hv:arr[j]?=some (arr.getD j undef):=by simp [Array.getD,hj']
   exact RSV.pv (RSV.mono hE (hrr j s _ hs hv).1) hsp)
  rw [Y0,ZyK] at this
  exact this
 have hseal:∀(s:SV) (v:Value),RSV st.tk G S w s v->RSV st.tk G (λ a=>S a\/a.block=b) w (Zgw id ps s) v:=by
  intro s v hs
  have h0:=RSV.mono hE hs
  cases s with
  | box i o =>
   simp only [Zgw]
   split
   ·rename_i hi
    subst hi
    obtain ⟨b',hb',rfl⟩:=h0
    rw [hb] at hb'
    cases hb'
    exact hptr o
   ·exact h0
  | clo f caps =>
   obtain ⟨vs,rfl,hl2,hv⟩:=h0
   have hc2:∀(i:Nat) (c:Cap) (u:Value),(caps.map (Zjj id ps))[i]?=some c->vs[i]?=some u->ZmC G (λ a=>S a\/a.block=b) w c u:=by
    intro i c u h1 h2
    rw [Zyh] at h1
    cases hq:caps[i]? with
    | none=>rw [hq] at h1;cases h1
    | some c0 =>
     rw [hq] at h1
     simp only [Zy5,Zyu] at h1
     have hcu:=hv i c0 u hq h2
     cases c0 with
     | pv p=>subst h1;exact hcu
     | box j o =>
      simp only [Zjj] at h1
      split at h1
      ·rename_i hj
       subst hj
       subst h1
       obtain ⟨b',hb',rfl⟩:=hcu
       rw [hb] at hb'
       cases hb'
       exact hptr o
      ·subst h1;exact hcu
   simp only [Zgw]
   split
   ·rename_i qs hq
    obtain ⟨a1,a2⟩:=ZjC hq
    refine RV.fn f qs vs (by rw [a1];simp [hl2]) λ i c u h1 h2=>?_
    exact hc2 i _ u (a2 i c h1) h2
   ·exact ⟨vs,rfl,by simp [hl2],hc2⟩
  | _=>exact h0
 refine ⟨⟨⟨hI.base,λ a ha=>?_,λ a ha=>?_,by simp [St.sealBx,hI.lbx],hI.ltk,hI.old,hI.dist,?_,?_,hI.apart,hI.lmp,hI.dmp,hI.mpo,λ i b' c h1 h2=>(hI.mpk i b' c h1 h2).mono (ZbI.refl _ _) (λ m bm h=>⟨h,ZbI.refl _ _⟩) (λ _ h=>.inl h) (λ _ _=>Qq.refl _ _) (λ a ha=>ha.imp (λ h=>h) λ h=>by rcases Decidable.em (b'=b) with rfl | hne;exact .inr (ZvW hh);exact .inl λ e=>hne (e.symm.trans h)),hI.flt,hI.fbx,hI.ftk,hI.fmp,
  ⟨E.Y.ok _ _ _ _ _ _ hI.yl.1 ⟨Below.refl _ _,λ _ _=>rfl,λ _ h=>.inl h,λ _ _=>Qq.refl _ _,λ a ha=>ha.imp (λ h=>h) λ h hf=>hI.fbx id b hb (by rw [<-h];exact hf),λ a ha=>ha.elim (hI.slt a) (λ h=>by omega)⟩,hI.yl.2⟩⟩,R.below,by simp [St.sealBx,R.len],?_⟩,hE,hptr,hseal⟩
 ·rcases ha with ha | ha
  ·exact hI.s0 a ha
  ·exact .inr (by omega)
 ·rcases ha with ha | ha
  ·exact hI.slt a ha
  ·omega
 ·intro id' b' cs'' h1 h2
  simp only [St.sealBx,ZyC] at h1
  split at h1
  ·split at h1
   ·cases h1
   ·cases h1
  ·rename_i hne
   have hbb:b'≠b:=λ e=>hne (hI.dist id id' b hb (by rw [<-e];exact h2))
   obtain ⟨⟨t',a',k1,k2,k3⟩,k4⟩:=hI.box id' b' cs'' h1 h2
   refine ⟨⟨t',a',k1,k2,λ j c v a1 a2=>⟨RSV.mono hE (k3 j c v a1 a2).1,(k3 j c v a1 a2).2⟩⟩,λ a ha=>?_⟩
   rcases ha with ha | ha
   ·exact k4 a ha
   ·omega
 ·intro t' n e hv h1 h2
  obtain ⟨a,cap,k1,k2,k3,k4⟩:=hI.tok t' n e hv h1 h2
  refine ⟨a,cap,k1,k2,k3,λ hlt=>?_⟩
  obtain ⟨g,cur,c1,c2,c3,c4,c5,c6⟩:=k4 hlt
  refine ⟨g,cur,c1,c2,c3,c4,λ a ha hab=>?_,c6⟩
  rcases ha with ha | ha
  ·exact c5 a ha hab
  ·exact absurd (by rw [<-hab,ha];exact hb) (c6 id)
 ·intro t s v h1 h2
  simp only [St.sealBx,Zyh] at h1
  cases hq:st.sl[t]? with
  | none=>rw [hq] at h1;cases h1
  | some s0 =>
   rw [hq] at h1
   simp only [Zy5,Zyu] at h1
   subst h1
   exact hseal s0 v (R.sl t s0 v hq h2)
theorem ZfG:∀(l:List SV) (vs:List Value) (st st':St) (ps:List PV) (S:Addr->Prop),Rel E B S0 w0 st G S w tmps->l.length=vs.length ->
  (∀(i:Nat) (s:SV) (v:Value),l[i]?=some s->vs[i]?=some v->RSV st.tk G S w s v)->Zaa st l=some (ps,st') ->
  ∃S',Rel E B S0 w0 st' G S' w tmps/\Ext st.tk G S w st'.tk G S' w/\RVs S' w ps vs
 | [],[],st,st',ps,S,R,_,_,h=>by
  simp only [Zaa,Zyu,Zzo] at h
  obtain ⟨rfl,rfl⟩:=h
  exact ⟨S,R,Ext.refl _ _ _ _,RVs.nil⟩
 | [],_::_,_,_,_,_,_,hl,_,_=>by simp at hl
 | _::_,[],_,_,_,_,_,hl,_,_=>by simp at hl
 | s::l,v::vs,st,st',ps,S,R,hl,hr,h=>by
  have hs:=hr 0 s v rfl rfl
  have hr':∀(i:Nat) (s:SV) (v:Value),l[i]?=some s->vs[i]?=some v->RSV st.tk G S w s v:=λ i s v a b=>hr (i+1) s v (by simpa using a) (by simpa using b)
  have hl':l.length=vs.length:=by simpa using hl
  cases s with
  | undef=>simp [Zaa] at h
  | own t m xs=>simp [Zaa] at h
  | msl id off len=>simp [Zaa] at h
  | it id=>simp [Zaa] at h
  | mtup id ps=>simp [Zaa] at h
  | clo f caps=>simp [Zaa] at h
  | rbx a b c d e=>simp [Zaa] at h
  | mp a=>simp [Zaa] at h
  | row a b c d e=>simp [Zaa] at h
  | val p =>
   simp only [Zaa] at h
   cases hq:Zaa st l with
   | none=>simp [hq] at h
   | some q =>
    obtain ⟨qs,st1⟩:=q
    simp only [hq,Zy5,Zyu,Zzo] at h
    obtain ⟨rfl,rfl⟩:=h
    obtain ⟨S',R',X',V'⟩:=ZfG l vs st st1 qs S R hl' hr' hq
    exact ⟨S',R',X',RVs.cons (RSV.mono X' hs) V'⟩
  | lit m xs =>
   simp only [Zaa] at h
   cases hq:Zaa st l with
   | none=>simp [hq] at h
   | some q =>
    obtain ⟨qs,st1⟩:=q
    simp only [hq,Zy5,Zyu,Zzo] at h
    obtain ⟨rfl,rfl⟩:=h
    obtain ⟨S',R',X',V'⟩:=ZfG l vs st st1 qs S R hl' hr' hq
    exact ⟨S',R',X',RVs.cons (RSV.pv (RSV.mono X' hs) rfl) V'⟩
  | box id off =>
   simp only [Zaa] at h
   cases hq:Zaa st l with
   | none=>simp [hq] at h
   | some q =>
    obtain ⟨qs,st1⟩:=q
    simp only [hq] at h
    obtain ⟨S',R',X',V'⟩:=ZfG l vs st st1 qs S R hl' hr' hq
    split at h
    ·rename_i cs hcs
     split at h
     ·rename_i ps' hps
      simp only [Zyu,Zzo] at h
      obtain ⟨rfl,rfl⟩:=h
      obtain ⟨b,hb,rfl⟩:=hs
      obtain ⟨R2,X2,V2,_⟩:=R'.seal_ hb hcs hps
      exact ⟨_,R2,X'.trans X2,RVs.cons (V2 off) (V'.mono X2.sub X2.cell)⟩
     ·cases h
    ·cases h
theorem RV.ptr_iff {cs:List PV} {off:Nat} {v:Value} (h:RV S w (.ptr cs off) v):∃(ad:Addr) (g:Nat->Value),v=.pointer (some (ad.add off)) /\
  (∀(j:Nat) (c:PV),cs[j]?=some c->S (ad.add j)/\w.cell? (ad.add j)=some (g j)/\(g j).oneCell'=true)/\(∀(j:Nat) (c:PV),cs[j]?=some c->RV S w c (g j)):=by
 cases h with
 | ptr _ _ ad g hc hr=>exact ⟨ad,g,rfl,hc,hr⟩
theorem Zol:∀(ps:List PV),Zam (ps.map SV.val)=some ps
 | []=>rfl
 | p::r=>by simp [Zam,SV.pv,Zol r]
theorem Zhg {m:Nat}:∀{xs:List PV},(∀x∈xs,x.cells.length=m)->∀(i:Nat) (x:PV) (j:Nat) (c:PV),xs[i]?=some x->x.cells[j]?=some c->(xs.flatMap PV.cells)[i*m+j]?=some c
 | [],_,i,x,j,c,h,_=>by simp at h
 | y::r,hm,i,x,j,c,h,hc=>by
  have hy:y.cells.length=m:=hm y ZzU
  rw [ZyW]
  cases i with
  | zero =>
   simp at h
   subst h
   rw [Z09,ZyK,Zye (ZxZ.1 hc).1]
   exact hc
  | succ i =>
   have e:(i+1)*m+j - y.cells.length=i*m+j:=by rw [hy,Z0j];omega
   rw [Zyd (by rw [hy,Z0j];omega),e]
   exact Zhg (λ x hx=>hm x (ZyN _ hx)) i x j c (by simpa using h) hc
theorem Rel.sealRow_ (R:Rel E B S0 w0 st G S w tmps) {id b m:Nat} {xs:List PV} (hb:G.bx[id]?=some b) (hc:st.bx.getD id none=some ((xs.flatMap PV.cells).map SV.val)) (hm:∀x∈xs,x.cells.length=m) (hm0:m≠0) :
  Rel E B S0 w0 (st.sealRow id m xs) G (λ a=>S a\/a.block=b) w tmps/\Ext st.tk G S w st.tk G (λ a=>S a\/a.block=b) w /\
   ∀(s:SV) (v:Value),RSV st.tk G S w s v->RSV st.tk G (λ a=>S a\/a.block=b) w (Zcw id m xs s) v:=by
 obtain ⟨R1,X1,hptr,hseal⟩:=R.seal_ hb hc (Zol _)
 have hslice:∀(b' len cap:Nat),G.bx[id]?=some b'->len<=cap->cap<=maxLen->len<=xs.length->RV (λ a=>S a\/a.block=b) w (.list m (xs.take len)) (.slice (some ⟨b',0,none⟩) len cap):=by
  intro b' len cap hb' h1 h2 hlen
  rw [hb] at hb'
  cases hb'
  have hp:=hptr 0
  obtain ⟨ad,g,he,hcc,hrr⟩:=RV.ptr_iff hp
  simp only [Value.pointer.injEq,Zyu] at he
  have hadd:∀k,ad.add k=(⟨b,0,none⟩:Addr).add k:=λ k=>by rw [he,Addr.add_add',ZyK]
  have hl:(xs.take len).length=len:=by simp;omega
  have htake:∀(i:Nat) (x:PV),(xs.take len)[i]?=some x->xs[i]?=some x:=λ i x h=>by
   rw [Zyx] at h
   split at h
   ·exact h
   ·cases h
  have:=RV.list (S:=λ a=>S a\/a.block=b) (w:=w) m (xs.take len) (some ⟨b,0,none⟩) ⟨b,0,none⟩ cap (λ i j=>g (i*m+j)) (λ _=>rfl) (by rw [hl];exact h1) h2
   (λ i x hx=>hm x (Zyb (htake i x hx)))
   (λ i x j c hx hc=>by
    have h3:=Zhg hm i x j c (htake i x hx) hc
    rw [<-hadd]
    exact hcc _ c h3)
   (λ i x j c hx hc=>hrr _ c (Zhg hm i x j c (htake i x hx) hc)) (λ h=>absurd h hm0)
  rw [hl] at this
  exact this
 have hrow:∀(s:SV) (v:Value),RSV st.tk G S w s v->RSV st.tk G (λ a=>S a\/a.block=b) w (Zcw id m xs s) v:=by
  intro s v hs
  cases s with
  | msl i off len =>
   simp only [Zcw]
   split
   ·rename_i hi
    obtain ⟨rfl,rfl,hlen⟩:=hi
    obtain ⟨b',cap,hb',rfl,h1,h2⟩:=hs
    exact hslice b' len cap hb' h1 h2 hlen
   ·exact RSV.mono X1 hs
  | undef=>exact hseal _ v hs
  | it i=>exact hseal _ v hs
  | mtup i ps=>exact hseal _ v hs
  | val p=>exact hseal _ v hs
  | lit m' xs'=>exact hseal _ v hs
  | own t m' xs'=>exact hseal _ v hs
  | box i o=>exact hseal _ v hs
  | clo f caps=>exact hseal _ v hs
  | rbx a b c d e=>exact hseal _ v hs
  | mp a=>exact hseal _ v hs
  | row i off m' len cap =>
   simp only [Zcw]
   split
   ·rename_i hi
    obtain ⟨rfl,rfl,rfl,hlen⟩:=hi
    obtain ⟨b',hb',rfl,h1,h2⟩:=hs
    exact hslice b' len cap hb' h1 h2 hlen
   ·exact RSV.mono X1 hs
 refine ⟨⟨R1.inv,R1.below,by simp [St.sealRow,R.len],λ t s v h1 h2=>?_⟩,X1,hrow⟩
 simp only [St.sealRow,Zyh] at h1
 cases hq:st.sl[t]? with
 | none=>rw [hq] at h1;cases h1
 | some s0 =>
  rw [hq] at h1
  simp only [Zy5,Zyu] at h1
  subst h1
  exact hrow s0 v (R.sl t s0 v hq h2)
theorem Rel.sealMp_ (R:Rel E B S0 w0 st G S w tmps) {id b:Nat} {es:List (PV × PV)} {mk:Option (PV × Int)} {ks vs:List PV} (hb:G.mp[id]?=some b) (hc:st.ax.mp[id]?=some (.ents es mk)) (hp:es.Perm (ks.zip vs)) (hl:ks.length=vs.length) :
  Rel E B S0 w0 (st.sealMp id ks vs) G (λ a=>S a\/a=⟨b,0,none⟩) w tmps/\Ext st.tk G S w st.tk G (λ a=>S a\/a=⟨b,0,none⟩) w /\
   ∀(s:SV) (v:Value),RSV st.tk G S w s v->RSV st.tk G (λ a=>S a\/a=⟨b,0,none⟩) w (ZnV id ks vs s) v:=by
 have hI:=R.inv
 obtain ⟨⟨arr,clock,es0,h1,h2,h3,h4,_⟩,hSb⟩:=hI.mpk id b _ hc hb
 have hold:=hI.mpo id b hb
 have hE:Ext st.tk G S w st.tk G (λ a=>S a\/a=⟨b,0,none⟩) w:=⟨λ _ _ h=>h,λ _ hv le h1 h2=>⟨hv,le,h1,h2,.inl ⟨rfl,rfl⟩⟩,λ _ h=>.inl h,λ _ _=>Qq.refl _ _,λ _ _ h=>h,Below.refl _ _,λ _ _ _=>rfl,λ _ _ h=>h,λ a ha=>ha.imp (λ h=>h) λ h=>.inl (.inr (.inr (.inl ⟨id,by rw [h];exact hb⟩)))⟩
 have hmap:RV (λ a=>S a\/a=⟨b,0,none⟩) w (.map ks vs) (.map (some b)):=RV.map ks vs es0 b arr clock (h2.trans hp) hl (.inr rfl) h1 h3 (λ i p x a1 a2=>(h4 i p x a1 a2).mono (λ _ h=>.inl h) (λ _ _=>Qq.refl _ _))
 have hseal:∀(s:SV) (v:Value),RSV st.tk G S w s v->RSV st.tk G (λ a=>S a\/a=⟨b,0,none⟩) w (ZnV id ks vs s) v:=by
  intro s v hs
  have h0:=RSV.mono hE hs
  cases s with
  | mp i =>
   simp only [ZnV]
   split
   ·rename_i e
    subst e
    obtain ⟨b',hb',rfl⟩:=h0
    rw [hb] at hb'
    cases hb'
    exact hmap
   ·exact h0
  | _=>exact h0
 have hcell:∀{b':Nat} {arr':Array Value} {t:TypeId} {m:Nat × Nat},w.heap[b']?=some (.cells arr' t m)->b'≠b:=λ h e=>by rw [e,h1] at h;cases h
 refine ⟨⟨⟨hI.base,λ a ha=>?_,λ a ha=>?_,hI.lbx,hI.ltk,hI.old,hI.dist,?_,?_,hI.apart,by simp [St.sealMp,hI.lmp],hI.dmp,hI.mpo,λ i b' c k1 k2=>?_,hI.flt,hI.fbx,hI.ftk,hI.fmp,
  ⟨E.Y.ok _ _ _ _ _ _ hI.yl.1 ⟨Below.refl _ _,λ _ _=>rfl,λ _ h=>.inl h,λ _ _=>Qq.refl _ _,λ a ha=>ha.imp (λ h=>h) λ h hf=>hI.fmp id b hb (by rw [h] at hf;exact hf),λ a ha=>ha.elim (hI.slt a) (λ h=>by rw [h];exact hold.2)⟩,hI.yl.2⟩⟩,R.below,by simp [St.sealMp,R.len],?_⟩,hE,hseal⟩
 ·rcases ha with ha | ha
  ·exact hI.s0 a ha
  ·exact .inr (by rw [ha];exact hold.1)
 ·rcases ha with ha | ha
  ·exact hI.slt a ha
  ·rw [ha];exact hold.2
 ·intro id' b' cs'' k1 k2
  obtain ⟨⟨t',a',q1,q2,q3⟩,q4⟩:=hI.box id' b' cs'' k1 k2
  refine ⟨⟨t',a',q1,q2,λ j c v a1 a2=>⟨RSV.mono hE (q3 j c v a1 a2).1,(q3 j c v a1 a2).2⟩⟩,λ a ha=>?_⟩
  rcases ha with ha | ha
  ·exact q4 a ha
  ·rw [ha];exact λ e=>hcell q1 e.symm
 ·intro t' n e hv k1 k2
  obtain ⟨a,cap,q1,q2,q3,q4⟩:=hI.tok t' n e hv k1 k2
  refine ⟨a,cap,q1,q2,q3,λ hlt=>?_⟩
  obtain ⟨g,cur,c1,c2,c3,c4,c5,c6⟩:=q4 hlt
  refine ⟨g,cur,c1,c2,c3,c4,λ a ha hab=>?_,c6⟩
  rcases ha with ha | ha
  ·exact c5 a ha hab
  ·rw [ha] at hab;exact absurd hab.symm (hcell c3)
 ·simp only [St.sealMp,ZyC] at k1
  split at k1
  ·split at k1
   ·cases k1;trivial
   ·cases k1
  ·rename_i hne
   have hbb:b'≠b:=λ e=>hne (hI.dmp id i b hb (by rw [<-e];exact k2))
   exact (hI.mpk i b' c k1 k2).mono (ZbI.refl _ _) (λ m bm h=>⟨h,ZbI.refl _ _⟩) (λ _ h=>.inl h) (λ _ _=>Qq.refl _ _) (λ a ha=>ha.imp (λ h=>h) λ h=>.inl (by rw [h];exact λ e=>hbb e.symm))
 ·intro t s v k1 k2
  simp only [St.sealMp,Zyh] at k1
  cases hq:st.sl[t]? with
  | none=>rw [hq] at k1;cases k1
  | some s0 =>
   rw [hq] at k1
   simp only [Zy5,Zyu] at k1
   subst k1
   exact hseal s0 v (R.sl t s0 v hq k2)
theorem Frz.ok {st st':St} {l l':List SV} (h:Frz st l st' l'):∀{S:Addr->Prop} {vs:List Value},Rel E B S0 w0 st G S w tmps->(∀(i:Nat) (s:SV) (v:Value),l[i]?=some s->vs[i]?=some v->RSV st.tk G S w s v) ->
  ∃S',Rel E B S0 w0 st' G S' w tmps/\Ext st.tk G S w st'.tk G S' w/\l'.length=l.length/\∀(i:Nat) (s:SV) (v:Value),l'[i]?=some s->vs[i]?=some v->RSV st'.tk G S' w s v:=by
 induction h with
 | refl st l=>exact λ R hv=>⟨_,R,Ext.refl _ _ _ _,rfl,hv⟩
 | still id cs ps st st' l l' h1 h2 h3 ih =>
  intro S vs R hv
  have hid:id<G.bx.length:=by rw [R.inv.lbx];exact (ZxZ.1 (getD_some h1)).1
  obtain ⟨R2,X2,_,V2⟩:=R.seal_ (Zya hid) h1 h2
  obtain ⟨S',R3,X3,hl3,V3⟩:=ih (vs:=vs) R2 (λ i s v a b=>by
   rw [Zyh] at a
   cases hq:l[i]? with
   | none=>rw [hq] at a;cases a
   | some s0 =>
    rw [hq] at a
    simp only [Zy5,Zyu] at a
    subst a
    exact V2 s0 v (hv i s0 v hq b))
  exact ⟨S',R3,X2.trans X3,by rw [hl3];simp,V3⟩
 | row id m cs xs st st' l l' h1 h2 hm h3 hm0 ih =>
  intro S vs R hv
  subst h2
  have hid:id<G.bx.length:=by rw [R.inv.lbx];exact (ZxZ.1 (getD_some h1)).1
  obtain ⟨R2,X2,V2⟩:=R.sealRow_ (Zya hid) h1 hm hm0
  obtain ⟨S',R3,X3,hl3,V3⟩:=ih (vs:=vs) R2 (λ i s v a b=>by
   rw [Zyh] at a
   cases hq:l[i]? with
   | none=>rw [hq] at a;cases a
   | some s0 =>
    rw [hq] at a
    simp only [Zy5,Zyu] at a
    subst a
    exact V2 s0 v (hv i s0 v hq b))
  exact ⟨S',R3,X2.trans X3,by rw [hl3];simp,V3⟩
 | map id es mk ks us st st' l l' h1 h2 hlk h3 ih =>
  intro S vs R hv
  have hid:id<G.mp.length:=by rw [R.inv.lmp];exact (ZxZ.1 h1).1
  obtain ⟨R2,X2,V2⟩:=R.sealMp_ (Zya hid) h1 h2 hlk
  obtain ⟨S',R3,X3,hl3,V3⟩:=ih (vs:=vs) R2 (λ i s v a b=>by
   rw [Zyh] at a
   cases hq:l[i]? with
   | none=>rw [hq] at a;cases a
   | some s0 =>
    rw [hq] at a
    simp only [Zy5,Zyu] at a
    subst a
    exact V2 s0 v (hv i s0 v hq b))
  exact ⟨S',R3,X2.trans X3,by rw [hl3];simp,V3⟩
theorem ZlL {tk:List (Nat × TypeId)}:∀(l:List SV) (vs:List Value) (cs:List Cap),l.length=vs.length->(∀(i:Nat) (s:SV) (v:Value),l[i]?=some s->vs[i]?=some v->RSV tk G S w s v)->ZaL l=some cs ->
  cs.length=vs.length/\∀(i:Nat) (c:Cap) (u:Value),cs[i]?=some c->vs[i]?=some u->ZmC G S w c u
 | [],[],cs,_,_,h=>by simp only [ZaL,Zyu] at h;subst h;exact ⟨rfl,λ i c u h=>by simp at h⟩
 | [],_::_,_,hl,_,_=>by simp at hl
 | _::_,[],_,hl,_,_=>by simp at hl
 | s::l,v::vs,cs,hl,hr,h=>by
  have hs:=hr 0 s v rfl rfl
  have hl':l.length=vs.length:=by simpa using hl
  have hr':∀(i:Nat) (s:SV) (v:Value),l[i]?=some s->vs[i]?=some v->RSV tk G S w s v:=λ i s v a b=>hr (i+1) s v (by simpa using a) (by simpa using b)
  have key:∀(c0:Cap),ZmC G S w c0 v->(ZaL l).map (c0::·)=some cs->cs.length=(v::vs).length/\∀(i:Nat) (c:Cap) (u:Value),cs[i]?=some c->(v::vs)[i]?=some u->ZmC G S w c u:=by
   intro c0 h0 h
   cases hq:ZaL l with
   | none=>simp [hq] at h
   | some q =>
    simp only [hq,Zy5,Zyu] at h
    subst h
    obtain ⟨a,b⟩:=ZlL l vs q hl' hr' hq
    refine ⟨by simp [a],λ i c u h1 h2=>?_⟩
    cases i with
    | zero=>simp at h1 h2;subst h1;subst h2;exact h0
    | succ i=>exact b i c u (by simpa using h1) (by simpa using h2)
  cases s with
  | val p=>exact key (.pv p) hs h
  | lit m xs=>exact key (.pv (.list m xs)) hs.1 h
  | box id off=>exact key (.box id off) hs h
  | undef=>simp [ZaL] at h
  | own t m xs=>simp [ZaL] at h
  | msl id off len=>simp [ZaL] at h
  | it id=>simp [ZaL] at h
  | mtup id ps=>simp [ZaL] at h
  | clo f caps=>simp [ZaL] at h
  | rbx a b c d e=>simp [ZaL] at h
  | mp a=>simp [ZaL] at h
  | row a b c d e=>simp [ZaL] at h
theorem Zom (R:Rel E B S0 w0 st G S w tmps) {fn:Fn} {first cap:List SV} {vf vc:Array Value} (hf:first.length=vf.size) (hc:cap.length=vc.size)
  (hr:∀(i:Nat) (s:SV) (v:Value),cap[i]?=some s->vc.toList[i]?=some v->RSV st.tk G S w s v) :
  QK E B S0 w0 (Zed E fn first cap st) G S w st.tk tmps (do pure (.value (<-Instr.makeFunc fn vf vc))):=by
 intro r' hr' _
 unfold Zed at hr'
 split at hr'
 ·rename_i f
  have hvf:vf=#[]:=by
   have:vf.size=0:=by simpa using hf.symm
   exact Array.eq_empty_of_size_eq_zero this
  subst hvf
  split at hr'
  ·split at hr'
   ·rename_i l hl
    cases hr'
    have:=ZlL cap vc.toList l (by simpa using hc) hr hl
    exact ⟨_,_,w,by simp [Instr.makeFunc];rfl,.inl rfl,G,S,R,⟨vc.toList,by simp,this.1,this.2⟩,Ext.refl _ _ _ _⟩
   ·cases hr'
  ·split at hr'
   ·rename_i l st' hl
    cases hr'
    obtain ⟨S',R',X',V'⟩:=ZfG cap vc.toList st st' l S R (by simpa using hc) hr hl
    refine ⟨_,_,w,by simp [Instr.makeFunc];rfl,.inl rfl,G,S',R',?_,X'⟩
    have:=RV.fn (S:=S') (w:=w) f l vc.toList V'.1 V'.2
    simpa [RSV] using this
   ·cases hr'
 ·cases hr'
end
section
variable {E:Env} {B:Nat} {S0:Addr->Prop} {w0:World} {st:St} {G:Gh} {S:Addr->Prop} {w:World} {tmps:Array Value}
structure Zsa (E:Env) (B:Nat) (G:Gh) (S:Addr->Prop) (w:World) (k:Nat) (n:Nat) (e:TypeId) (hv:Value):Prop where
 ok:∃a cap,hv=.slice a n cap/\n<=cap/\cap<=maxLen /\
  (n<cap->∃(g:Nat) (cur:Array Value),a=some ⟨g,0,none⟩/\B<=g/\w.heap[g]?=some (.cells cur e (0,0))/\cur.size=cap*(E.T e).size /\
   (∀a,S a->a.block=g->a.off<n*(E.T e).size)/\(∀(i:Nat),G.bx[i]?≠some g))
 apart:∀(g n' cap t' n'' cap'':Nat),hv=.slice (some ⟨g,0,none⟩) n' cap->n'<cap->t'≠k->G.tk[t']?=some (.slice (some ⟨g,0,none⟩) n'' cap'')->¬n''<cap''
 fp:∀(g n' cap:Nat),hv=.slice (some ⟨g,0,none⟩) n' cap->n'<cap->¬G.fp g
theorem Inv.noTwo (hI:Inv E B S0 st.bx st.tk st.ax G S w) {t t' g n n' cap cap':Nat} (hne:t≠t') (h1:G.tk[t]?=some (.slice (some ⟨g,0,none⟩) n cap)) (h2:n<cap)
  (h3:G.tk[t']?=some (.slice (some ⟨g,0,none⟩) n' cap')):¬n'<cap':=by
 rcases hI.apart t t' n n' cap cap' g hne h1 h2 with h | h
 ·exact absurd h3 h
 ·omega
theorem Rel.tokNew (R:Rel E B S0 w0 st G S w tmps) {tk0:List (Nat × TypeId)} {G0:Gh} {S1:Addr->Prop} {w1:World} (X:Ext tk0 G0 S1 w1 st.tk G S w) {n:Nat} {e:TypeId} {hv:Value} (hh:Zsa E B G S w st.tk.length n e hv)
  (hfr:∀(g n' cap:Nat),hv=.slice (some ⟨g,0,none⟩) n' cap->n'<cap->w1.heap.size<=g) :
  Rel E B S0 w0 { st with tk:=st.tk++[(n,e)] } ⟨G.bx,G.tk++[hv],G.mp,G.fp⟩ S w tmps/\Ext tk0 G0 S1 w1 (st.tk++[(n,e)]) ⟨G.bx,G.tk++[hv],G.mp,G.fp⟩ S w /\
   (G.tk++[hv])[st.tk.length]?=some hv/\(st.tk++[(n,e)])[st.tk.length]?=some (n,e):=by
 have hI:=R.inv
 have hlen:=hI.ltk
 have hX:ZgT st.tk G S w (st.tk++[(n,e)]) ⟨G.bx,G.tk++[hv],G.mp,G.fp⟩ S w :=
  ⟨λ _ _ h=>h,λ t hv' le h1 h2=>⟨hv',le,by
   show (G.tk++[hv])[t]?=_
   rw [Zye (ZxZ.1 h1).1];exact h1,by
   rw [Zye (ZxZ.1 h2).1];exact h2,.inl ⟨rfl,rfl⟩⟩,λ _ h=>h,λ _ _=>Qq.refl _ _,λ _ _ h=>h⟩
 have hnew:∀(t:Nat) (x:Value),(G.tk++[hv])[t]?=some x->(G.tk[t]?=some x/\t<st.tk.length)\/(t=st.tk.length/\x=hv):=by
  intro t x hx
  rcases Zzs t G.tk.length with h | h | h
  ·rw [Zye h] at hx;exact .inl ⟨hx,by omega⟩
  ·subst h;simp at hx;exact .inr ⟨hlen,hx.symm⟩
  ·rw [Zyw (by simp;omega)] at hx;cases hx
 refine ⟨⟨⟨hI.base,hI.s0,hI.slt,hI.lbx,by simp [hlen],hI.old,hI.dist,λ id b cs h1 h2=>?_,λ t n' e' hv' h1 h2=>?_,λ t t' n1 n2 c1 c2 g hne h1 h2=>?_,hI.lmp,hI.dmp,hI.mpo,hI.mpk,hI.flt,hI.fbx,λ t n' cap g h1 h2=>?_,hI.fmp,hI.yl⟩,R.below,R.len,λ t s v a1 a2=>RSV.mono0 hX (R.sl t s v a1 a2)⟩,
  X.step hX (λ b hb hf=>?_),by simp [<-hlen],by simp⟩
 ·obtain ⟨⟨t',arr,b1,b2,b3⟩,b4⟩:=hI.box id b cs h1 h2
  exact ⟨⟨t',arr,b1,b2,λ j c v a1 a2=>⟨RSV.mono0 hX (b3 j c v a1 a2).1,(b3 j c v a1 a2).2⟩⟩,b4⟩
 ·rcases hnew t hv' h2 with h | ⟨rfl,rfl⟩
  ·rw [Zye h.2] at h1
   exact hI.tok t n' e' hv' h1 h.1
  ·simp at h1
   obtain ⟨rfl,rfl⟩:=h1
   exact hh.ok
 ·by_cases hq:n2<c2
  ·left
   intro h3
   rcases hnew t _ h1 with ⟨h,hl⟩ | ⟨rfl,h⟩<;>rcases hnew t' _ h3 with ⟨k,kl⟩ | ⟨rfl,k⟩
   ·exact hI.noTwo hne h h2 k hq
   ·exact hh.apart g n2 c2 t n1 c1 k.symm hq (by omega) h h2
   ·exact hh.apart g n1 c1 t' n2 c2 h.symm h2 (by omega) k hq
   ·exact hne rfl
  ·exact .inr (by omega)
 ·rcases hnew t _ h1 with ⟨h,_⟩ | ⟨_,h⟩
  ·exact hI.ftk t n' cap g h h2
  ·exact hh.fp g n' cap h.symm h2
 ·rcases hf with hf | ⟨t,n',cap,h1,h2⟩ | hf
  ·exact .inl hf
  ·rcases hnew t _ h1 with ⟨h,_⟩ | ⟨_,h⟩
   ·exact .inr (.inl ⟨t,n',cap,h,h2⟩)
   ·have:=hfr b n' cap h.symm h2;omega
  ·exact .inr (.inr hf)
theorem Rel.tokSet (R:Rel E B S0 w0 st G S w tmps) {tk0:List (Nat × TypeId)} {G0:Gh} {S1:Addr->Prop} {w1:World} (X:Ext tk0 G0 S1 w1 st.tk G S w) {k n:Nat} {e:TypeId} {hv:Value} (hk:k<st.tk.length) (hlt:∀le,st.tk[k]?=some le->le.1<n) (hh:Zsa E B G S w k n e hv)
  (hfr:∀(g n' cap:Nat),hv=.slice (some ⟨g,0,none⟩) n' cap->n'<cap->w1.heap.size<=g) :
  Rel E B S0 w0 { st with tk:=st.tk.set k (n,e) } ⟨G.bx,G.tk.set k hv,G.mp,G.fp⟩ S w tmps/\Ext tk0 G0 S1 w1 (st.tk.set k (n,e)) ⟨G.bx,G.tk.set k hv,G.mp,G.fp⟩ S w /\
   (G.tk.set k hv)[k]?=some hv/\(st.tk.set k (n,e))[k]?=some (n,e):=by
 have hI:=R.inv
 have hlen:=hI.ltk
 have hX:ZgT st.tk G S w (st.tk.set k (n,e)) ⟨G.bx,G.tk.set k hv,G.mp,G.fp⟩ S w:=by
  refine ⟨λ _ _ h=>h,λ t hv' le h1 h2=>?_,λ _ h=>h,λ _ _=>Qq.refl _ _,λ _ _ h=>h⟩
  by_cases ht:k=t
  ·subst ht
   exact ⟨hv,(n,e),by simp [hlen,hk],by simp [hk],.inr (hlt le h2)⟩
  ·exact ⟨hv',le,by simp [ht,h1],by simp [ht,h2],.inl ⟨rfl,rfl⟩⟩
 have hnew:∀(t:Nat) (x:Value),(G.tk.set k hv)[t]?=some x->(G.tk[t]?=some x/\t≠k)\/(t=k/\x=hv):=by
  intro t x hx
  by_cases ht:k=t
  ·subst ht
   simp [hlen,hk] at hx
   exact .inr ⟨rfl,hx.symm⟩
  ·simp [ht] at hx
   exact .inl ⟨hx,λ h=>ht h.symm⟩
 refine ⟨⟨⟨hI.base,hI.s0,hI.slt,hI.lbx,by simp [hlen],hI.old,hI.dist,λ id b cs h1 h2=>?_,λ t n' e' hv' h1 h2=>?_,λ t t' n1 n2 c1 c2 g hne h1 h2=>?_,hI.lmp,hI.dmp,hI.mpo,hI.mpk,hI.flt,hI.fbx,λ t n' cap g h1 h2=>?_,hI.fmp,hI.yl⟩,R.below,R.len,λ t s v a1 a2=>RSV.mono0 hX (R.sl t s v a1 a2)⟩,
  X.step hX (λ b hb hf=>?_),by simp [hlen,hk],by simp [hk]⟩
 ·obtain ⟨⟨t',arr,b1,b2,b3⟩,b4⟩:=hI.box id b cs h1 h2
  exact ⟨⟨t',arr,b1,b2,λ j c v a1 a2=>⟨RSV.mono0 hX (b3 j c v a1 a2).1,(b3 j c v a1 a2).2⟩⟩,b4⟩
 ·rcases hnew t hv' h2 with h | ⟨rfl,rfl⟩
  ·have:¬k=t:=λ e=>h.2 e.symm
   simp [this] at h1
   exact hI.tok t n' e' hv' h1 h.1
  ·simp [hk] at h1
   obtain ⟨rfl,rfl⟩:=h1
   exact hh.ok
 ·by_cases hq:n2<c2
  ·left
   intro h3
   rcases hnew t _ h1 with ⟨h,hl⟩ | ⟨rfl,h⟩<;>rcases hnew t' _ h3 with ⟨k',kl⟩ | ⟨rfl,k'⟩
   ·exact hI.noTwo hne h h2 k' hq
   ·exact hh.apart g n2 c2 t n1 c1 k'.symm hq hne h h2
   ·exact hh.apart g n1 c1 t' n2 c2 h.symm h2 (Z0B hne) k' hq
   ·exact hne rfl
  ·exact .inr (by omega)
 ·rcases hnew t _ h1 with ⟨h,_⟩ | ⟨_,h⟩
  ·exact hI.ftk t n' cap g h h2
  ·exact hh.fp g n' cap h.symm h2
 ·rcases hf with hf | ⟨t,n',cap,h1,h2⟩ | hf
  ·exact .inl hf
  ·rcases hnew t _ h1 with ⟨h,_⟩ | ⟨_,h⟩
   ·exact .inr (.inl ⟨t,n',cap,h,h2⟩)
   ·have:=hfr b n' cap h.symm h2;omega
  ·exact .inr (.inr hf)
theorem ZeG {t ty e:TypeId} {i:TypeInfo} (ht:E.P.underlying t=some (.slice e)) (hi:E.P.info? e=some i) (a A:Option Addr) (n cap c:Nat) (hn:n<=cap) :
  (Builtin.append_ #[t,t] ty #[.slice a n cap,.slice A 0 c]).run E.P w=.ok (.slice a n cap) w:=by
 cases A<;>cases a<;>simp [Builtin.append_,run_underlying ht,sizeOf,typeInfo,hi,Builtin.lenOf,Builtin.firstCells,hn,loadCells,loadCellsFrom,storeCells]
theorem Rel.grownRow (R:Rel E B S0 w0 st G S w tmps) (e:TypeId) (arr:Array Value) (n cap:Nat) (hn:n<=cap) (hcap:cap<=maxLen) (hsz:arr.size=cap*(E.T e).size) (k:Nat) :
  ∃S':Addr->Prop,Rel E B S0 w0 st G S' (w.drew.alloc (.cells arr e)) tmps/\Ext st.tk G S w st.tk G S' (w.drew.alloc (.cells arr e)) /\
   (∀j,j<n*(E.T e).size->S' ⟨w.heap.size,j,none⟩)/\(∀j,(w.drew.alloc (.cells arr e)).cell? ⟨w.heap.size,j,none⟩=arr[j]?) /\
   Zsa E B G S' (w.drew.alloc (.cells arr e)) k n e (.slice (some ⟨w.heap.size,0,none⟩) n cap):=by
 have hbel:Below w.heap.size w (w.drew.alloc (.cells arr e)):=⟨rfl,rfl,rfl,by simp,λ k hk=>Below.heap_alloc w.drew _ k hk,Nat.le_succ _⟩
 obtain ⟨R1,X1⟩:=R.transport (S':=λ a=>S a\/(a.block=w.heap.size/\a.off<n*(E.T e).size)) (w':=w.drew.alloc (.cells arr e)) (λ _ h=>.inl h) (λ a ha=>by
  rcases ha with ha | ha
  ·exact .inl ha
  ·exact .inr ⟨by omega,by rw [ha.1];simp⟩) hbel
 have hI:=R.inv
 refine ⟨_,R1,X1,λ j hj=>.inr ⟨rfl,hj⟩,λ j=>World.cell?_alloc_new w.drew arr e j,⟨⟨some ⟨w.heap.size,0,none⟩,cap,rfl,hn,hcap,λ _=>⟨w.heap.size,arr,rfl,hI.base,heap_alloc_new w.drew _,hsz,λ a ha hab=>?_,λ i hi=>?_⟩⟩,λ g n' cap' t' n'' cap'' h1 h2 h3 h4 h5=>?_,λ g n' cap' h1 _ hf=>by
  injection h1 with h1 _ _
  injection h1 with h1
  injection h1 with h1
  subst h1
  exact Z0r _ (hI.flt _ hf)⟩⟩
 ·rcases ha with ha | ha
  ·have:=hI.slt a ha;omega
  ·exact ha.2
 ·have:=(hI.old i _ hi).2;omega
 ·injection h1 with h1 _ _
  injection h1 with h1
  injection h1 with h1
  subst h1
  have hl:t'<st.tk.length:=by rw [<-hI.ltk];exact (ZxZ.1 h4).1
  obtain ⟨a,cap1,k1,k2,k3,k4⟩:=hI.tok t' _ _ _ (Zya hl) h4
  injection k1 with k1 k5 k6
  subst k6
  rw [<-k5] at k4
  obtain ⟨g,cur,c1,c2,c3,_⟩:=k4 h5
  rw [<-k1] at c1
  injection c1 with c1
  injection c1 with c1
  rw [<-c1,Zzb (Zyp _)] at c3
  cases c3
theorem Rel.roomRow (R:Rel E B S0 w0 st G S w tmps) {k g n n' cap:Nat} {e:TypeId} {arr:Array Value} (hkt:st.tk[k]?=some (n,e)) (hkg:G.tk[k]?=some (.slice (some ⟨g,0,none⟩) n cap)) (hnc:n<cap) (hn:n'<=cap) (hnn:n<n')
  {cur:Array Value} (hcur:w.heap[g]?=some (.cells cur e (0,0))) (hsz:arr.size=cap*(E.T e).size) (hsame:∀j,j<n*(E.T e).size->arr[j]?=cur[j]?) :
  ∃(G':Gh) (S':Addr->Prop),Rel E B S0 w0 { st with tk:=st.tk.set k (n',e) } G' S' (w.setRow g arr) tmps/\Ext st.tk G S w (st.tk.set k (n',e)) G' S' (w.setRow g arr) /\
   (∀j,j<n'*(E.T e).size->S' ⟨g,j,none⟩)/\(∀j,(w.setRow g arr).cell? ⟨g,j,none⟩=arr[j]?) /\
   G'.tk[k]?=some (.slice (some ⟨g,0,none⟩) n' cap)/\(st.tk.set k (n',e))[k]?=some (n',e):=by
 have hI:=R.inv
 have hlen:=hI.ltk
 have hk:k<st.tk.length:=(ZxZ.1 hkt).1
 obtain ⟨a,cap1,k1,k2,k3,k4⟩:=hI.tok k n e _ hkt hkg
 injection k1 with k1 _ k6
 subst k6
 obtain ⟨g',cur',c1,hBg,c3,_,hSg,hbxg⟩:=k4 hnc
 rw [<-k1] at c1
 injection c1 with c1
 injection c1 with c1
 subst c1
 have hg:g<w.heap.size:=by
  rcases Zy6 g w.heap.size with h | h
  ·exact h
  ·rw [Zzb h] at hcur;cases hcur
 have hcell:∀a,S a->Qq w (w.setRow g arr) a:=by
  intro a ha
  by_cases hab:a.block=g
  ·have hlt:=hSg a ha hab
   have h1:=setRow_heap w g cur arr e _ hcur
   refine Qq.of_cells ?_ (by rw [hab];exact hcur)
   simp only [World.cell?,hab,h1,hcur]
   rw [hsame a.off hlt]
  ·exact Qq.of_block (setRow_other w g a.block arr hab)
 have hfg:Zag G g:=.inr (.inl ⟨k,n,cap,hkg,hnc⟩)
 have hnew:∀(t:Nat) (x:Value),(G.tk.set k (.slice (some ⟨g,0,none⟩) n' cap))[t]?=some x->(G.tk[t]?=some x/\t≠k)\/(t=k/\x=.slice (some ⟨g,0,none⟩) n' cap):=by
  intro t x hx
  by_cases ht:k=t
  ·subst ht
   simp [hlen,hk] at hx
   exact .inr ⟨rfl,hx.symm⟩
  ·simp [ht] at hx
   exact .inl ⟨hx,λ h=>ht h.symm⟩
 have hX:Ext st.tk G S w (st.tk.set k (n',e)) ⟨G.bx,G.tk.set k (.slice (some ⟨g,0,none⟩) n' cap),G.mp,G.fp⟩ (λ a=>S a\/(a.block=g/\a.off<n'*(E.T e).size)) (w.setRow g arr):=by
  refine ⟨λ _ _ h=>h,λ t hv' le h1 h2=>?_,λ _ h=>.inl h,hcell,λ _ _ h=>h,⟨rfl,rfl,rfl,by simp,λ k hk=>absurd hk (ZzB _),Zyp _⟩,λ b _ hf=>setRow_other w g b arr (λ e=>hf (by rw [e];exact hfg)),λ b _ hf=>?_,λ a ha=>ha.imp (λ h=>h) λ h=>.inl (by rw [h.1];exact hfg)⟩
  rotate_left
  ·rcases hf with hf | ⟨t,n2,cap2,h1,h2⟩ | hf
   ·exact .inl hf
   ·rcases hnew t _ h1 with ⟨h,_⟩ | ⟨_,h⟩
    ·exact .inr (.inl ⟨t,n2,cap2,h,h2⟩)
    ·injection h with h _ _
     injection h with h
     injection h with h
     rw [h];exact hfg
   ·exact .inr (.inr hf)
  by_cases ht:k=t
  ·subst ht
   rw [hkt] at h2
   cases h2
   exact ⟨.slice (some ⟨g,0,none⟩) n' cap,(n',e),by simp [hlen,hk],by simp [hk],.inr hnn⟩
  ·exact ⟨hv',le,by simp [ht,h1],by simp [ht,h2],.inl ⟨rfl,rfl⟩⟩
 refine ⟨⟨G.bx,G.tk.set k (.slice (some ⟨g,0,none⟩) n' cap),G.mp,G.fp⟩,λ a=>S a\/(a.block=g/\a.off<n'*(E.T e).size),⟨⟨by simpa using hI.base,λ a ha=>?_,λ a ha=>?_,hI.lbx,by simp [hlen],λ i b h=>by simpa using hI.old i b h,hI.dist,λ id b cs h1 h2=>?_,λ t m e' hv' h1 h2=>?_,λ t t' n1 n2 c1 c2 g1 hne h1 h2=>?_,hI.lmp,hI.dmp,λ i b h=>by simpa using hI.mpo i b h,λ i b c h1 h2=>(hI.mpk i b c h1 h2).mono (ZbI.row hcur) (λ m bm h=>⟨h,ZbI.row hcur⟩) (λ _ h=>.inl h) hcell (λ a ha=>ha.imp id λ h=>by rcases Decidable.em (b=g) with rfl | hne;exact .inr (ZvW hcur);exact .inl λ e=>hne (e.symm.trans h.1)),λ b h=>by simpa using hI.flt b h,hI.fbx,λ t n2 cap2 g2 h1 h2=>by
   rcases hnew t _ h1 with ⟨h,_⟩ | ⟨_,h⟩
   ·exact hI.ftk t n2 cap2 g2 h h2
   ·injection h with h _ _
    injection h with h
    injection h with h
    rw [h];exact hI.ftk k n cap g hkg hnc,hI.fmp,
   ⟨E.Y.ok _ _ _ _ _ _ hI.yl.1 ⟨hX.calm,λ b hb=>setRow_other w g b arr (λ e=>hI.ftk k n cap g hkg hnc (by rw [<-e];exact hb)),λ _ h=>.inl h,hcell,λ a ha=>ha.imp (λ h=>h) λ h=>by rw [h.1];exact hI.ftk k n cap g hkg hnc,λ a ha=>by
    rcases ha with ha | ha
    ·simpa using hI.slt a ha
    ·simp;omega⟩,hI.yl.2⟩⟩,
  R.below.trans ⟨rfl,rfl,rfl,by simp,λ k' hk'=>setRow_other w g k' arr (by omega),Zyp _⟩,R.len,λ t s v a1 a2=>RSV.mono hX (R.sl t s v a1 a2)⟩,hX,λ j hj=>.inr ⟨rfl,hj⟩,λ j=>cell_setRow_same w g j cur arr e _ hcur,by simp [hlen,hk],by simp [hk]⟩
 ·rcases ha with ha | ha
  ·exact hI.s0 a ha
  ·exact .inr (by omega)
 ·rcases ha with ha | ha
  ·simpa using hI.slt a ha
  ·simp;omega
 ·obtain ⟨⟨t',arr',b1,b2,b3⟩,b4⟩:=hI.box id b cs h1 h2
  have hbg:b≠g:=λ e=>hbxg id (by rw [<-e];exact h2)
  refine ⟨⟨t',arr',by rw [setRow_other w g b arr hbg];exact b1,b2,λ j c v a1 a2=>⟨RSV.mono hX (b3 j c v a1 a2).1,(b3 j c v a1 a2).2⟩⟩,λ a ha=>?_⟩
  rcases ha with ha | ha
  ·exact b4 a ha
  ·omega
 ·rcases hnew t hv' h2 with h | ⟨rfl,rfl⟩
  ·have hkt':¬k=t:=λ e=>h.2 e.symm
   simp [hkt'] at h1
   obtain ⟨a,cap2,d1,d2,d3,d4⟩:=hI.tok t m e' hv' h1 h.1
   refine ⟨a,cap2,d1,d2,d3,λ hlt=>?_⟩
   obtain ⟨g2,cur2,e1,e2,e3,e4,e5,e6⟩:=d4 hlt
   have hgg:g2≠g:=λ eq=>by
    subst eq
    rw [d1,e1] at h
    exact hI.noTwo hkt' hkg hnc h.1 hlt
   refine ⟨g2,cur2,e1,e2,by rw [setRow_other w g g2 arr hgg];exact e3,e4,λ a ha hab=>?_,e6⟩
   rcases ha with ha | ha
   ·exact e5 a ha hab
   ·omega
  ·simp [hk] at h1
   obtain ⟨rfl,rfl⟩:=h1
   exact ⟨_,cap,rfl,hn,k3,λ _=>⟨g,arr,rfl,hBg,setRow_heap w g cur arr e _ hcur,hsz,λ a ha hab=>by
    rcases ha with ha | ha
    ·have:=hSg a ha hab
     have:n*(E.T e).size<=n'*(E.T e).size:=ZyY _ (by omega)
     omega
    ·exact ha.2,hbxg⟩⟩
 ·by_cases hq:n2<c2
  ·left
   intro h3
   rcases hnew t _ h1 with ⟨h,hl⟩ | ⟨rfl,h⟩<;>rcases hnew t' _ h3 with ⟨k',kl⟩ | ⟨rfl,k'⟩
   ·exact hI.noTwo hne h h2 k' hq
   ·injection k' with k' _ _
    injection k' with k'
    injection k' with k'
    subst k'
    exact hI.noTwo hne h h2 hkg hnc
   ·injection h with h _ _
    injection h with h
    injection h with h
    subst h
    exact hI.noTwo hne hkg hnc k' hq
   ·exact hne rfl
  ·exact .inr (by omega)
theorem RV.of_row {S':Addr->Prop} {w':World} {g n cap sz:Nat} {zs:List PV} {arr:Array Value} {vals:List Value} (hsz0:sz≠0) (hlen:zs.length=n) (hn:n<=cap) (hcap:cap<=maxLen) (hS:∀j,j<n*sz->S' ⟨g,j,none⟩) (hcell:∀j,w'.cell? ⟨g,j,none⟩=arr[j]?)
  (htake:arr.toList.take (n*sz)=vals) (hone:∀v∈vals,v.oneCell'=true) (hels:Els S' w' sz zs vals):RV S' w' (.list sz zs) (.slice (some ⟨g,0,none⟩) n cap):=by
 have:=RV.of_flat (ad:=⟨g,0,none⟩) (a:=some ⟨g,0,none⟩) (cap:=cap) hsz0 (λ _=>rfl) (by omega) hcap (λ j u hu=>by
  have hj:j<n*sz:=by
   have:=(ZxZ.1 hu).1
   rw [hels.1,hlen] at this
   exact this
  rw [Y0,ZyK]
  refine ⟨hS j hj,?_,hone u (Zyb hu)⟩
  rw [hcell,<-Zy2]
  rw [<-htake,Zyx,if_pos hj] at hu
  exact hu) hels
 rw [hlen] at this
 exact this
theorem Zsb (hE:ZQ E) (R:Rel E B S0 w0 st G S w tmps) {t ty:TypeId} {s y:SV} {vs vy:Value} (hs:RSV st.tk G S w s vs) (hy:RSV st.tk G S w y vy) :
  QK E B S0 w0 (ZdD E t s y st) G S w st.tk tmps (do pure (.value (<-Builtin.append_ #[t,t] ty #[vs,vy]))):=by
 intro r' hr hside
 unfold ZdD at hr
 have hk:=(hE.td t).k
 replace hs:=RSV.litz hs
 generalize s.litz=s at hr hs
 split at hr
 ·rename_i e m' ys hke hye
  rw [hke] at hk
  split at hr
  ·rename_i hcond
   obtain ⟨hm',hsz,hzl⟩:=hcond
   obtain ⟨i,z,hi,hsize,hby,hzz,hzc,hone,hcs,_⟩:=hE.cells (t:=e) (by omega)
   obtain ⟨aY,adY,capY,us,rfl,haY,hcY,hmY,hcellY,helsY⟩:=RV.flat (RSV.elems hy hye)
   have helsY':Els S w (E.T e).size ys us:=by
    rcases hm' with h | h
    ·rw [<-h];exact helsY
    ·subst h
     have:us=[]:=Zyy (by have:=helsY.1;simpa using this)
     subst this
     exact Els.nil _
   have honeY:∀u∈us,u.oneCell'=true:=λ u hu=>by
    obtain ⟨j,hj⟩:=ZyO.1 hu
    exact (hcellY j u hj).2.2
   have grow:∀(xs:List PV) (vals:List Value) (a:Option Addr) (ad:Addr) (cap:Nat),Els S w (E.T e).size xs vals->(∀v∈vals,v.oneCell'=true)->(xs≠[]->a=some ad)->(∀j u,vals[j]?=some u->w.cell? (ad.add j)=some u) ->
     (a=none->xs=[]/\cap=0)->ys≠[]->cap<xs.length+ys.length->(xs.length+ys.length)*((E.T e).bytes+1)<=140737488355328->∀k,∃(cap':Nat) (arr:Array Value) (S':Addr->Prop),
     (Builtin.append_ #[t,t] ty #[.slice a xs.length cap,.slice aY ys.length capY]).run E.P w=.ok (.slice (some ⟨w.heap.size,0,none⟩) (xs.length+ys.length) cap') (w.drew.alloc (.cells arr e)) /\
     Rel E B S0 w0 st G S' (w.drew.alloc (.cells arr e)) tmps/\Ext st.tk G S w st.tk G S' (w.drew.alloc (.cells arr e)) /\
     Zsa E B G S' (w.drew.alloc (.cells arr e)) k (xs.length+ys.length) e (.slice (some ⟨w.heap.size,0,none⟩) (xs.length+ys.length) cap') /\
     RV S' (w.drew.alloc (.cells arr e)) (.list (E.T e).size (xs++ys)) (.slice (some ⟨w.heap.size,0,none⟩) (xs.length+ys.length) cap'):=by
    intro xs vals a ad cap hX honeX haX hcX hnone hyne hcap hbytes k
    have haY':=haY hyne
    subst haY'
    have hbytes1:(xs.length+ys.length)*(E.T e).bytes<=140737488355328:=by
     rw [Nat.mul_add] at hbytes;omega
    have hsmall:xs.length+ys.length<=140737488355328:=by
     rw [Nat.mul_add] at hbytes;omega
    have hys:0<ys.length:=Zz0.2 hyne
    have hge:=grownCap_ge w (xs.length+ys.length) cap e
    have hle:=grownCap_le_maxLen w (xs.length+ys.length) cap e (by simp only [maxLen];omega)
    have hrun:(Builtin.append_ #[t,t] ty #[.slice a xs.length cap,.slice (some adY) ys.length capY]).run E.P w =
      .ok (.slice (some ⟨w.heap.size,0,none⟩) (xs.length+ys.length) (grownCap w (xs.length+ys.length) cap e))
       (w.drew.alloc (.cells (vals.toArray++us.toArray++Builtin.zeroCells z.cells (grownCap w (xs.length+ys.length) cap e - (xs.length+ys.length))) e)):=by
     cases a with
     | none =>
      obtain ⟨rfl,rfl⟩:=hnone rfl
      have:vals=[]:=Zyy (by have:=hX.1;simpa using this)
      subst this
      have:=run_append_nil (P:=E.P) w t ty e i z hk hi hzz adY ys.length capY us (by rw [hsize];exact helsY'.1) (λ j v hv=>(hcellY j v hv).2.1) hys (by omega) (by rw [hby];simp at hbytes1;omega)
      simpa using this
     | some b =>
      have hb:xs=[]\/b=ad:=by
       by_cases hx:xs=[]
       ·exact .inl hx
       ·have:=haX hx;injection this with this;exact .inr this
      have holds:∀j v,vals[j]?=some v->w.cell? (b.add j)=some v:=by
       rcases hb with rfl | rfl
       ·have:vals=[]:=Zyy (by have:=hX.1;simpa using this)
        subst this
        simp
       ·exact hcX
      exact run_append_grow (P:=E.P) w t ty e i z hk hi hzz b xs.length cap vals (by rw [hsize];exact hX.1) holds adY ys.length capY us (by rw [hsize];exact helsY'.1) (λ j v hv=>(hcellY j v hv).2.1) hcap (by omega) (by rw [hby];exact growslice_fits hcap hbytes1)
    have hels:Els S w (E.T e).size (xs++ys) (vals++us):=hX.append helsY'
    have hvl:(vals++us).length=(xs.length+ys.length)*(E.T e).size:=by rw [hels.1];simp
    obtain ⟨S',R1,X1,hS1,hc1,hH⟩:=R.grownRow e (vals.toArray++us.toArray++Builtin.zeroCells z.cells (grownCap w (xs.length+ys.length) cap e - (xs.length+ys.length))) (xs.length+ys.length) (grownCap w (xs.length+ys.length) cap e) hge hle
     (by
      have h1:=hX.1
      have h2:=helsY'.1
      simp only [Array.size_append,Z07,size_zeroCells,hcs,h1,h2,<-Zzi]
      congr 1
      omega) k
    refine ⟨_,_,S',hrun,R1,X1,hH,RV.of_row (hsz0:=by omega) (vals:=vals++us) (by simp) hge hle hS1 hc1 ?_ (λ v hv=>?_) (hels.mono X1.sub X1.cell)⟩
    ·rw [<-hvl]
     have e1:(vals.toArray++us.toArray++Builtin.zeroCells z.cells (grownCap w (xs.length+ys.length) cap e - (xs.length+ys.length))).toList=(vals++us)++(Builtin.zeroCells z.cells (grownCap w (xs.length+ys.length) cap e - (xs.length+ys.length))).toList:=by simp
     rw [e1]
     exact List.take_left
    ·rcases Zy4.1 hv with h | h
     ·exact honeX v h
     ·exact honeY v h
   split at hr
   ·rename_i m xs
    split at hr
    ·rename_i hm
     cases hr
     obtain ⟨hX,aX,hvX⟩:=hs
     obtain ⟨a,ad,cap,vals,hvv,haX,hcX,hmX,hcellX,helsX⟩:=RV.flat hX
     rw [hvv] at hvX
     injection hvX with _ _ hcapX
     subst hcapX
     subst hvv
     have helsX':Els S w (E.T e).size xs vals:=by
      rcases hm with h | h
      ·rw [<-h];exact helsX
      ·subst h
       have:vals=[]:=Zyy (by have:=helsX.1;simpa using this)
       subst this
       exact Els.nil _
     have honeX:∀u∈vals,u.oneCell'=true:=λ u hu=>by
      obtain ⟨j,hj⟩:=ZyO.1 hu
      exact (hcellX j u hj).2.2
     by_cases hyn:ys=[]
     ·subst hyn
      have hlist:RV S w (.list (E.T e).size xs) (.slice a xs.length xs.length):=RV.of_flat (by omega) haX (Zyp _) hmX hcellX helsX'
      obtain ⟨R1,X1,h1,h2⟩:=R.tokNew (Ext.refl _ _ _ _) (n:=xs.length) (e:=e) (hv:=.slice a xs.length xs.length) ⟨⟨a,xs.length,rfl,Zyp _,hmX,λ h=>absurd h (Z0r _)⟩,λ g n' cap' t' n'' cap'' h1 h2 _ _=>by injection h1 with _ h3 h4;omega,λ g n' cap' h1 h2=>by injection h1 with _ h3 h4;omega⟩ (λ g n' cap' h1 h2=>by injection h1 with _ h3 h4;omega)
      refine ⟨_,_,w,by simp only [Sem.run_bind,Zz3,ZeG hk hi a aY xs.length xs.length capY (Zyp _),Result.andThen_ok,Sem.run_pure];rfl,.inl rfl,⟨G.bx,G.tk++[.slice a xs.length xs.length],G.mp,G.fp⟩,S,?_,?_,?_⟩
      ·simp only [Zzp];exact R1
      ·simp only [Zzp]
       exact ⟨hlist,_,_,h1,h2,Zyp _,λ _=>rfl⟩
      ·simp only [Zzp];exact X1
     ·obtain ⟨cap',arr,S',hrun,R1,X1,hH,hV⟩:=grow xs vals a ad xs.length helsX' honeX haX (λ j u hu=>(hcellX j u hu).2.1) (λ hn=>by
       subst hn
       have:xs=[]:=by
        rcases xs with _ | ⟨x,xs⟩
        ·rfl
        ·exact absurd (haX (by simp)) (by simp)
       subst this
       exact ⟨rfl,rfl⟩) hyn (by have:=Zz0.2 hyn;omega) hside st.tk.length
      obtain ⟨R2,X2,h1,h2⟩:=R1.tokNew X1 hH (λ g n' c h _=>by injection h with h _ _;injection h with h;injection h with h;omega)
      have hL:(xs++ys).length=xs.length+ys.length:=by simp
      refine ⟨_,_,_,by simp only [Sem.run_bind,hrun,Result.andThen_ok,Sem.run_pure];rfl,.inl rfl,⟨G.bx,G.tk++[.slice (some ⟨w.heap.size,0,none⟩) (xs.length+ys.length) cap'],G.mp,G.fp⟩,S',?_,?_,?_⟩
      ·simp only [hL];exact R2
      ·simp only [hL]
       exact ⟨hV,_,_,h1,h2,by omega,λ _=>rfl⟩
      ·simp only [hL];exact X2
    ·cases hr
   ·rename_i k m xs
    split at hr
    ·rename_i hm
     cases hr
     obtain ⟨hlen,hkl,hbytes⟩:=hside
     obtain ⟨hX,hv,le,hG,hle,hxl,hveq⟩:=hs
     have hle':st.tk.getD k (0,0)=le:=by rw [Zyj,hle];rfl
     rw [hle'] at hlen hm
     have hvh:=hveq hlen.symm
     subst hvh
     have hle2:st.tk[k]?=some (xs.length,e):=by
      rw [hle]
      congr 1
      exact Prod.ext hlen hm.2
     obtain ⟨a,ad,cap,vals,rfl,haX,hcX,hmX,hcellX,helsX⟩:=RV.flat hX
     have helsX':Els S w (E.T e).size xs vals:=by
      rcases hm.1 with h | h
      ·rw [<-h];exact helsX
      ·subst h
       have:vals=[]:=Zyy (by have:=helsX.1;simpa using this)
       subst this
       exact Els.nil _
     have honeX:∀u∈vals,u.oneCell'=true:=λ u hu=>by
      obtain ⟨j,hj⟩:=ZyO.1 hu
      exact (hcellX j u hj).2.2
     obtain ⟨a2,cap2,q1,q2,q3,q4⟩:=R.inv.tok k xs.length e _ hle2 hG
     injection q1 with q1 _ q5
     subst q5
     subst q1
     by_cases hyn:ys=[]
     ·subst hyn
      have hlist:RV S w (.list (E.T e).size xs) (.slice a xs.length cap):=RV.of_flat (by omega) haX hcX hmX hcellX helsX'
      have hset:st.tk.set k ((xs++[]).length,e)=st.tk:=by
       apply ZyS
       intro j
       rw [ZyC]
       split
       ·rename_i hj
        subst hj
        rw [hle2]
        simp
       ·rfl
      refine ⟨_,_,w,by simp only [Sem.run_bind,Zz3,ZeG hk hi a aY xs.length cap capY hcX,Result.andThen_ok,Sem.run_pure];rfl,.inl rfl,G,S,?_,?_,?_⟩
      ·simp only [hset];exact R
      ·simp only [hset]
       exact ⟨by simpa using hlist,_,_,hG,hle2,by simp,by simp⟩
      ·simp only [hset];exact Ext.refl _ _ _ _
     ·have hys:0<ys.length:=Zz0.2 hyn
      by_cases hroom:xs.length+ys.length<=cap
      ·have hlt:xs.length<cap:=by omega
       obtain ⟨g,cur,rfl,hBg,hcur,hcsz,hSg,hbxg⟩:=q4 hlt
       have haY':=haY hyn
       subst haY'
       have hsame0:xs=[]\/ad=⟨g,0,none⟩:=by
        by_cases hx:xs=[]
        ·exact .inl hx
        ·have:=haX hx;injection this with this;exact .inr this.symm
       have hcv:cur.toList.take (xs.length*(E.T e).size)=vals:=by
        rcases hsame0 with rfl | rfl
        ·have:vals=[]:=Zyy (by have:=helsX.1;simpa using this)
         subst this
         simp
        ·apply ZyS
         intro j
         rw [Zyx]
         by_cases hj:j<xs.length*(E.T e).size
         ·rw [if_pos hj]
          have hjv:j<vals.length:=by rw [helsX'.1];exact hj
          have h1:=(hcellX j _ (Zya hjv)).2.1
          rw [Y0,ZyK] at h1
          simp only [World.cell?,hcur] at h1
          rw [Zya hjv,<-h1]
          simp
         ·rw [if_neg hj,Zyw (by rw [helsX'.1];omega)]
       have hfit:xs.length*i.size+us.length<=cur.size:=by
        rw [hsize,helsY'.1,hcsz,<-Zzi];exact ZyY _ hroom
       have hrun:=run_append_room (P:=E.P) w t ty e i hk hi g xs.length cap cur hcur adY ys.length capY us (by rw [hsize];exact helsY'.1) (λ j v hv=>(hcellY j v hv).2.1) honeY hroom hfit
       have hels:Els S w (E.T e).size (xs++ys) (vals++us):=helsX'.append helsY'
       have hvl:(vals++us).length=(xs.length+ys.length)*(E.T e).size:=by rw [hels.1];simp
       have harr:(cur.toList.take (xs.length*i.size)++us++cur.toList.drop (xs.length*i.size+us.length))=vals++us++cur.toList.drop (xs.length*i.size+us.length):=by rw [hsize,hcv]
       rw [harr] at hrun
       obtain ⟨G',S',R1,X1,hS1,hc1,hG1,htk1⟩:=R.roomRow (n':=xs.length+ys.length) (arr:=(vals++us++cur.toList.drop (xs.length*i.size+us.length)).toArray) hle2 hG hlt hroom (by omega) hcur
        (by
         have h1:=helsX'.1
         have h2:=helsY'.1
         simp only [Z07,Zyg,ZzS,Zzk,hcsz,h1,h2,hsize]
         have:(xs.length+ys.length)*(E.T e).size<=cap*(E.T e).size:=ZyY _ hroom
         rw [Zzi] at this
         omega) (λ j hj=>by
         have hjv:j<vals.length:=by rw [helsX'.1];exact hj
         rw [Zy9,Z0o,Zye hjv,<-hcv,Zyx,if_pos hj]
         simp)
       have hL:(xs++ys).length=xs.length+ys.length:=by simp
       refine ⟨_,_,_,by simp only [Sem.run_bind,hrun,Result.andThen_ok,Sem.run_pure];rfl,.inl rfl,G',S',?_,?_,?_⟩
       ·simp only [hL];exact R1
       ·simp only [hL]
        refine ⟨RV.of_row (hsz0:=by omega) (vals:=vals++us) hL hroom hmX hS1 hc1 ?_ (λ v hv=>?_) (hels.mono X1.sub X1.cell),_,_,hG1,htk1,by omega,λ _=>rfl⟩
        ·rw [<-hvl]
         exact List.take_left
        ·rcases Zy4.1 hv with h | h
         ·exact honeX v h
         ·exact honeY v h
       ·simp only [hL];exact X1
      ·obtain ⟨cap',arr,S',hrun,R1,X1,hH,hV⟩:=grow xs vals a ad cap helsX' honeX haX (λ j u hu=>(hcellX j u hu).2.1) (λ hn=>by
        subst hn
        have hx:xs=[]:=by
         rcases xs with _ | ⟨x,xs⟩
         ·rfl
         ·exact absurd (haX (by simp)) (by simp)
        subst hx
        refine ⟨rfl,?_⟩
        by_cases hc:0<cap
        ·obtain ⟨g,cur,hq,_⟩:=q4 hc
         cases hq
        ·omega) hyn (by omega) hbytes k
       obtain ⟨R2,X2,h1,h2⟩:=R1.tokSet X1 hkl (λ le' hle'=>by rw [hle2] at hle';cases hle';simp;omega) hH (λ g n' c h _=>by injection h with h _ _;injection h with h;injection h with h;omega)
       have hL:(xs++ys).length=xs.length+ys.length:=by simp
       refine ⟨_,_,_,by simp only [Sem.run_bind,hrun,Result.andThen_ok,Sem.run_pure];rfl,.inl rfl,⟨G.bx,G.tk.set k (.slice (some ⟨w.heap.size,0,none⟩) (xs.length+ys.length) cap'),G.mp,G.fp⟩,S',?_,?_,?_⟩
       ·simp only [hL];exact R2
       ·simp only [hL]
        exact ⟨hV,_,_,h1,h2,by omega,λ _=>rfl⟩
       ·simp only [hL];exact X2
    ·cases hr
   ·cases hr
  ·cases hr
 ·cases hr
end
section
variable {E:Env} {B:Nat} {S0:Addr->Prop} {w0:World} {st:St} {G:Gh} {S:Addr->Prop} {w:World} {tmps:Array Value}
theorem QK.none {s:Sem Next}:QK E B S0 w0 none G S w st.tk tmps s:=λ _ h=>by cases h
theorem ZlM (R:Rel E B S0 w0 st G S w tmps) (mn:Bool) {xs:List SV} {vs:Array Value} (ts:Array TypeId) (ty:TypeId) (hl:xs.length=vs.size) (hr:∀(i:Nat) (s:SV) (v:Value),xs[i]?=some s->vs.toList[i]?=some v->RSV st.tk G S w s v) :
  QK E B S0 w0 (ZdE mn xs st) G S w st.tk tmps (do pure (.value (<-if mn then Builtin.min_ ts ty vs else Builtin.max_ ts ty vs))) :=
 QK.same R λ r' hr' _=>by
  unfold ZdE at hr'
  split at hr'
  ·rename_i a b
   cases hr'
   obtain ⟨l⟩:=vs
   match l,hl,hr with
   | [x,y],_,hr =>
    cases RV.int_inv (hr 0 _ x rfl rfl)
    cases RV.int_inv (hr 1 _ y rfl rfl)
    refine ⟨rfl,.int .i64 (if mn then min a b else max a b),?_,RV.int _ _⟩
    have h1:min a b=if b<a then b else a:=by omega
    have h2:max a b=if a<b then b else a:=by omega
    cases mn
    ·simp [Builtin.max_,Builtin.max2,h2]
    ·simp [Builtin.min_,Builtin.min2,h1]
  ·cases hr'
theorem ZeZ (R:Rel E B S0 w0 st G S w tmps) (d:List Deferred) (xs:Array Operand) :
  ∀(i:Nat) (s:SV) (v:Value),(xs.toList.map (Zp st))[i]?=some s->(xs.map ({ tmps:=tmps,defers:=d }:Act).eval).toList[i]?=some v->RSV st.tk G S w s v:=by
 intro i s v h1 h2
 simp only [Array.toList_map,Zyh] at h1 h2
 cases hq:xs.toList[i]? with
 | none=>rw [hq] at h1;cases h1
 | some x =>
  rw [hq] at h1 h2
  cases h1;cases h2
  exact R.val x d
theorem Zon (R:Rel E B S0 w0 st G S w tmps) (d:List Deferred) (o:Option Operand):Zja st.tk G S w (o.map (Zp st)) (o.map ({ tmps:=tmps,defers:=d }:Act).eval):=by
 cases o with
 | none=>trivial
 | some x=>exact R.val x d
theorem Zoo (R:Rel E B S0 w0 st G S w tmps) (x:Operand) (d:List Deferred) (o:Oper) (ho:o.op=.nilCheck x) :
  QK E B S0 w0 (ZR E (.nilCheck x) st) G S w st.tk tmps (execOp ({ tmps:=tmps,defers:=d }:Act).eval o) :=
 QK.same R λ r' hr _=>by
  have hx:=R.val x d
  unfold execOp
  rw [ho]
  simp only
  generalize hv:({ tmps:=tmps,defers:=d }:Act).eval x=vx at hx ⊢
  simp only [ZR] at hr
  split at hr
  ·rename_i cs o' he
   cases hr
   rw [he] at hx
   have hx':=hx
   cases hx with
   | ptr _ _ ad g hc hrr=>exact ⟨rfl,_,rfl,hx'⟩
  ·rename_i id o' he
   cases hr
   rw [he] at hx
   have hx':=hx
   obtain ⟨b,hb,rfl⟩:=hx
   exact ⟨rfl,_,rfl,hx'⟩
  ·rename_i f cs he
   cases hr
   rw [he] at hx
   have hx':=hx
   cases hx with
   | fn _ _ vs hl h=>exact ⟨rfl,_,rfl,hx'⟩
  ·rename_i f cs he
   cases hr
   rw [he] at hx
   have hx':=hx
   obtain ⟨vs,rfl,_⟩:=hx
   exact ⟨rfl,_,rfl,hx'⟩
  ·rename_i a b c d' e he
   cases hr
   rw [he] at hx
   have hx':=hx
   obtain ⟨b,hb,rfl⟩:=hx
   exact ⟨rfl,_,rfl,hx'⟩
  ·rename_i l he
   cases hr
   rw [he] at hx
   have hx':=hx
   cases hx
   exact ⟨rfl,_,rfl,hx'⟩
  ·cases hr
theorem Rel.newMap (R:Rel E B S0 w0 st G S w tmps) (o:Obj) (c:ZaK) (hk:ZaD E (G.mp++[w.heap.size]) S (w.alloc o) w.heap.size c) :
  Rel E B S0 w0 { st with ax:={ st.ax with mp:=st.ax.mp++[c] } } ⟨G.bx,G.tk,G.mp++[w.heap.size],G.fp⟩ S (w.alloc o) tmps/\Ext st.tk G S w st.tk ⟨G.bx,G.tk,G.mp++[w.heap.size],G.fp⟩ S (w.alloc o)/\(G.mp++[w.heap.size])[st.ax.mp.length]?=some w.heap.size:=by
 have hbel:Below w.heap.size w (w.alloc o):=(Below.refl _ _).alloc (Zyp _) _
 obtain ⟨R1,X1⟩:=R.transport (S':=S) (w':=w.alloc o) (λ _ h=>h) (λ _ h=>.inl h) hbel
 have hI:=R1.inv
 have hlen:=hI.lmp
 have hnew:∀(i b:Nat),(G.mp++[w.heap.size])[i]?=some b->G.mp[i]?=some b\/(i=st.ax.mp.length/\b=w.heap.size):=by
  intro i b hb
  rcases Zzs i G.mp.length with h | h | h
  ·rw [Zye h] at hb;exact .inl hb
  ·subst h;simp at hb;exact .inr ⟨hlen,hb.symm⟩
  ·rw [Zyw (by simp;omega)] at hb;cases hb
 have hX0:ZgT st.tk G S (w.alloc o) st.tk ⟨G.bx,G.tk,G.mp++[w.heap.size],G.fp⟩ S (w.alloc o) :=
  ⟨λ _ _ h=>h,λ _ hv le h1 h2=>⟨hv,le,h1,h2,.inl ⟨rfl,rfl⟩⟩,λ _ h=>h,λ _ _=>Qq.refl _ _,λ i b hb=>by
   show (G.mp++[w.heap.size])[i]?=some b
   rw [Zye (ZxZ.1 hb).1];exact hb⟩
 refine ⟨⟨⟨hI.base,hI.s0,hI.slt,hI.lbx,hI.ltk,hI.old,hI.dist,λ id b cs h1 h2=>?_,hI.tok,hI.apart,by simp [hlen],λ i j b h1 h2=>?_,λ i b h=>?_,λ i b c h1 h2=>?_,hI.flt,hI.fbx,hI.ftk,λ i b h hf=>?_,hI.yl⟩,
  R1.below,R1.len,λ t s v a1 a2=>RSV.mono0 hX0 (R1.sl t s v a1 a2)⟩,X1.step hX0 (λ b hb hf=>?_),by simp [<-hlen]⟩
 ·obtain ⟨⟨t',arr,b1,b2,b3⟩,b4⟩:=hI.box id b cs h1 h2
  exact ⟨⟨t',arr,b1,b2,λ j c v a1 a2=>⟨RSV.mono0 hX0 (b3 j c v a1 a2).1,(b3 j c v a1 a2).2⟩⟩,b4⟩
 ·rcases hnew i b h1 with h | ⟨h,hh⟩<;>rcases hnew j b h2 with k | ⟨k,kk⟩
  ·exact hI.dmp i j b h k
  ·have:=(R.inv.mpo i b h).2;omega
  ·have:=(R.inv.mpo j b k).2;omega
  ·omega
 ·rcases hnew i b h with h | ⟨_,rfl⟩
  ·exact hI.mpo i b h
  ·exact ⟨R.inv.base,by simp⟩
 ·rcases hnew i b h2 with h | ⟨rfl,rfl⟩
  ·have hi:i<st.ax.mp.length:=by rw [<-hlen];exact (ZxZ.1 h).1
   simp only [Zye hi] at h1
   exact (hI.mpk i b c h1 h).mono (ZbI.refl _ _) (λ m bm h=>⟨hX0.mp m bm h,ZbI.refl _ _⟩) (λ _ h=>h) (λ _ _=>Qq.refl _ _) (λ _ h=>.inl h)
  ·simp at h1
   subst h1
   exact hk
 ·rcases hnew i b h with h | ⟨_,rfl⟩
  ·exact hI.fmp i b h hf
  ·exact Z0r _ (R.inv.flt _ hf)
 ·rcases hf with hf | hf | ⟨i,hf⟩ | hf
  ·exact .inl hf
  ·exact .inr (.inl hf)
  ·rcases hnew i b hf with h | ⟨_,rfl⟩
   ·exact .inr (.inr (.inl ⟨i,h⟩))
   ·omega
  ·exact .inr (.inr (.inr hf))
theorem Zqk (hE:ZQ E) (R:Rel E B S0 w0 st G S w tmps) {t:TypeId} {reserve:Option Operand} {a:Act} :
  QK E B S0 w0 (ZfE E t reserve st) G S w st.tk tmps (do pure (.value (<-Instr.makeMap t (reserve.map a.eval)))):=by
 intro r' hr _
 unfold ZfE at hr
 split at hr
 ·rename_i k e hk
  have hS:∀a,S a->a.block≠w.heap.size:=λ a ha e=>by have:=R.inv.slt a ha;omega
  split at hr
  ·cases hr
   obtain ⟨R1,X1,hb⟩:=R.newMap (.map #[] 0) (.ents [] none) ⟨⟨#[],0,[],(MapKept.heap_alloc w _).1,.refl _,⟨rfl,by simp,by simp,by simp,by simp⟩,by simp,by simp⟩,hS⟩
   exact ⟨_,_,_,by simp [run_makeMap],.inl rfl,_,S,R1,⟨w.heap.size,hb,rfl⟩,X1⟩
  ·cases hr
   obtain ⟨R1,X1,hb⟩:=R.newMap (.map #[] 0) (.plain k e 0) ⟨⟨_,World.ownsMap_made _ _ _ _⟩,hS⟩
   exact ⟨_,_,_,by simp [run_makeMap],.inl rfl,_,S,R1,⟨w.heap.size,hb,rfl⟩,X1⟩
 ·cases hr
theorem Rel.setMaps (R:Rel E B S0 w0 st G S w tmps) {id b:Nat} {c:ZaK} {w':World} {mp':List ZaK} (hc:st.ax.mp[id]?=some c) (hne:c≠.gone) (hb:G.mp[id]?=some b) (hg:w.grownBy w' (some b)) (hd:w.drawn<=w'.drawn) (hl:mp'.length=st.ax.mp.length)
  (hk:(∀b',b'<w.heap.size->b'≠b->w'.heap[b']?=w.heap[b']?)->(∀a,S a->Qq w w' a)->∀(i b':Nat) (c':ZaK),mp'[i]?=some c'->G.mp[i]?=some b'->ZaD E G.mp S w' b' c') :
  Rel E B S0 w0 { st with ax:={ st.ax with mp:=mp' } } G S w' tmps/\Ext st.tk G S w st.tk G S w':=by
 have hI:=R.inv
 obtain ⟨⟨o,ho,hh⟩,hSb⟩:(∃o,Zhd o=true/\w.heap[b]?=some o)/\∀a,S a->a.block≠b:=by
  have:=hI.mpk id b c hc hb
  match c,hne,this with
  | .plain k e n,_,h=>obtain ⟨⟨D,es,clock,h1,_⟩,h2⟩:=h;exact ⟨⟨_,rfl,h1⟩,h2⟩
  | .ents es um,_,h=>obtain ⟨⟨arr,clock,es0,h1,_⟩,h2⟩:=h;exact ⟨⟨_,rfl,h1⟩,h2⟩
  | .iter (some m) es left cur,_,h=>obtain ⟨⟨bm,_,arr,clock,since,seen,last,_,h1,_⟩,h2⟩:=h;exact ⟨⟨_,rfl,h1⟩,h2⟩
  | .iter none es left cur,_,h =>
   obtain ⟨h1,h2⟩:=h
   rcases h1 with ⟨h1,_⟩ | ⟨bm,_,_,arr,clock,since,seen,last,_,h1,_⟩
   ·exact ⟨⟨_,rfl,h1⟩,h2⟩
   ·exact ⟨⟨_,rfl,h1⟩,h2⟩
  | .gone,h,_=>exact absurd rfl h
 have hbl:∀b',b'<w.heap.size->b'≠b->w'.heap[b']?=w.heap[b']?:=λ b' h1 h2=>hg.block b' h1 (λ e=>h2 (by cases e;rfl))
 have hcell:∀a,S a->Qq w w' a:=λ a ha=>Qq.of_block (hbl _ (hI.slt a ha) (hSb a ha))
 have hcalm:Below 0 w w':=⟨hg.os,hg.tape,hg.output,hg.size,λ k hk=>absurd hk (ZzB _),hd⟩
 have hX:Ext st.tk G S w st.tk G S w':=⟨λ _ _ h=>h,λ _ hv le h1 h2=>⟨hv,le,h1,h2,.inl ⟨rfl,rfl⟩⟩,λ _ h=>h,hcell,λ _ _ h=>h,hcalm,λ b' hb' hf=>hbl b' hb' (λ e=>hf (.inr (.inr (.inl ⟨id,by rw [e];exact hb⟩)))),λ _ _ h=>h,λ _ h=>.inl h⟩
 have hne:∀{b':Nat} {arr:Array Value} {t:TypeId} {m:Nat × Nat},w.heap[b']?=some (.cells arr t m)->b'<w.heap.size/\b'≠b:=λ {b'} _ _ _ h=>⟨(Zyv.1 h).1,λ e=>by rw [e,hh] at h;cases h;cases ho⟩
 refine ⟨⟨⟨Zy1 hI.base hg.size,hI.s0,λ a ha=>Zy7 (hI.slt a ha) hg.size,hI.lbx,hI.ltk,λ i b' h=>⟨(hI.old i b' h).1,Zy7 (hI.old i b' h).2 hg.size⟩,hI.dist,λ id' b' cs h1 h2=>?_,λ t n e hv h1 h2=>?_,hI.apart,by rw [hl];exact hI.lmp,hI.dmp,
  λ i b' h=>⟨(hI.mpo i b' h).1,Zy7 (hI.mpo i b' h).2 hg.size⟩,hk hbl hcell,λ b' h=>Zy7 (hI.flt b' h) hg.size,hI.fbx,hI.ftk,hI.fmp,
  ⟨E.Y.ok _ _ _ _ _ _ hI.yl.1 ⟨hcalm,λ b' h=>hbl b' (hI.flt b' h) (λ e=>hI.fmp id b hb (by rw [<-e];exact h)),λ _ h=>h,hcell,λ _ h=>.inl h,λ a ha=>Zy7 (hI.slt a ha) hg.size⟩,hI.yl.2⟩⟩,
  R.below.trans ⟨hg.os,hg.tape,hg.output,hg.size,λ k hk=>hbl k (Zy7 hk hI.base) (λ e=>by have:=(hI.mpo id b hb).1;omega),hd⟩,R.len,λ t s v a1 a2=>RSV.mono hX (R.sl t s v a1 a2)⟩,hX⟩
 ·obtain ⟨⟨t',arr,b1,b2,b3⟩,b4⟩:=hI.box id' b' cs h1 h2
  exact ⟨⟨t',arr,(hbl b' (hne b1).1 (hne b1).2).trans b1,b2,λ j c v a1 a2=>⟨RSV.mono hX (b3 j c v a1 a2).1,(b3 j c v a1 a2).2⟩⟩,b4⟩
 ·obtain ⟨a,cap,k1,k2,k3,k4⟩:=hI.tok t n e hv h1 h2
  refine ⟨a,cap,k1,k2,k3,λ hlt=>?_⟩
  obtain ⟨g,cur,c1,c2,c3,c4⟩:=k4 hlt
  exact ⟨g,cur,c1,c2,(hbl g (hne c3).1 (hne c3).2).trans c3,c4⟩
theorem ZaD.other (hI:Inv E B S0 st.bx st.tk st.ax G S w) {id b:Nat} {w':World} (hb:G.mp[id]?=some b) (hbl:∀b',b'<w.heap.size->b'≠b->w'.heap[b']?=w.heap[b']?) (hcell:∀a,S a->Qq w w' a)
  {i b':Nat} {c:ZaK} (h1:st.ax.mp[i]?=some c) (h2:G.mp[i]?=some b') (hne:i≠id) (hit:∀es left cur,c≠.iter (some id) es left cur):ZaD E G.mp S w' b' c:=by
 have h:=hI.mpk i b' c h1 h2
 have hbb:b'≠b:=λ e=>hne (hI.dmp i id b (by rw [<-e];exact h2) hb)
 have hk:ZbI w w' b':=ZbI.of_eq (hbl b' (hI.mpo i b' h2).2 hbb)
 match c,hit,h with
 | .plain k e n,_,h=>exact ZaD.mono (M:=[]) (c:=.plain k e n) h hk (by simp) (λ _ h=>h) hcell (λ _ h=>.inl h)
 | .ents es um,_,h=>exact ZaD.mono (M:=[]) (c:=.ents es um) h hk (by simp) (λ _ h=>h) hcell (λ _ h=>.inl h)
 | .iter none es left cur,_,h=>exact ZaD.mono (M:=[]) (c:=.iter none es left cur) h hk (by simp) (λ _ h=>h) hcell (λ _ h=>.inl h)
 | .iter (some m) es left cur,hit,h =>
  obtain ⟨⟨bm,k1,arr,clock,since,seen,last,k2,k3,k4⟩,k5⟩:=h
  have hm:bm≠b:=λ e=>hit es left cur (by rw [hI.dmp m id b (by rw [<-e];exact k1) hb])
  exact ⟨⟨bm,k1,arr,clock,since,seen,last,(hbl bm (hI.mpo m bm k1).2 hm).trans k2,hk _ rfl k3,k4⟩,k5⟩
 | .gone,_,_=>trivial
theorem ZlN {b:Nat} {o:Obj} (hb:w.heap[b]?=some o) (o':Obj):w.grownBy (ChangeMaps.setBlock w b o') (some b) :=
 ⟨rfl,rfl,rfl,by simp [ChangeMaps.setBlock],λ i _ hi=>(MapKept.heap_set hb).2 i (λ e=>hi (by rw [e]))⟩
theorem ZjD {id:Nat} {mp:List ZaK} (h:Zd1 id mp=true) {i:Nat} {es:List (PV × PV)} {left:List PV} {cur:Option PV}:mp[i]?≠some (.iter (some id) es left cur):=λ hi=>by
 have:=Zym.1 h _ (Zyb hi)
 simp at this
theorem Rel.wrote (R:Rel E B S0 w0 st G S w tmps) {id b:Nat} {es es' es0':List (PV × PV)} {mk mk':Option (PV × Int)} {arr arr':Array MapEntry} {clock clock':Nat} (hid:st.ax.mp[id]?=some (.ents es mk)) (hb:G.mp[id]?=some b) (hh:w.heap[b]?=some (.map arr clock))
  (hW:ZlK S w b arr clock es' arr' clock' es0') (hcl:Zd1 id st.ax.mp=true\/clock'=clock) (hmk:∀(k:PV) (n:Int),mk'=some (k,n)->∃x∈arr'.toList,x.key=k.toVal/\(x.born:Int)=n) :
  Rel E B S0 w0 (st.mps (st.ax.mp.set id (.ents es' mk'))) G S (ChangeMaps.setBlock w b (.map arr' clock')) tmps/\Ext st.tk G S w st.tk G S (ChangeMaps.setBlock w b (.map arr' clock')):=by
 have hSb:=(R.inv.mpk id b _ hid hb).2
 have hset:=MapKept.heap_set (o':=Obj.map arr' clock') hh
 refine R.setMaps hid (by simp) hb (ZlN hh _) (Zyp _) (by simp) (λ hbl hcell i b' c' k1 k2=>?_)
 rw [ZyC] at k1
 split at k1
 ·rename_i e1
  subst e1
  split at k1
  ·cases k1
   rw [hb] at k2
   cases k2
   exact ⟨⟨arr',clock',es0',hset.1,hW.perm,hW.ents,λ i p x a1 a2=>(hW.vals i p x a1 a2).mono (λ _ h=>h) hcell,hmk⟩,hSb⟩
  ·cases k1
 ·rename_i e1
  by_cases hit:∃es left cur,c'=.iter (some id) es left cur
  ·obtain ⟨es2,left,cur,rfl⟩:=hit
   rcases hcl with hcl | hcl
   ·exact absurd k1 (ZjD hcl)
   ·obtain ⟨⟨bm,q1,arr1,clock1,since,seen,last,q2,q3,q4,q5,q6,q7,q8,q9,q10⟩,qS⟩:=R.inv.mpk i b' _ k1 k2
    rw [hb] at q1
    cases q1
    rw [hh] at q2
    cases q2
    have hne:b'≠b:=λ e=>e1 (R.inv.dmp id i b hb (e▸k2))
    refine ⟨⟨b,hb,arr',clock',since,seen,last,hset.1,(hset.2 b' hne).trans q3,λ y hy=>?_,q5,by rw [hcl];exact q6,q7,λ k hk=>?_,λ y hy hs=>?_,λ k hk=>?_⟩,qS⟩
    ·obtain ⟨x,hx,_,e⟩:=hW.back hcl y hy
     rw [e]
     exact q4 x hx
    ·obtain ⟨h1,x,hx,h2,h3⟩:=q8 k hk
     obtain ⟨x',hx',h4,h5⟩:=hW.keep x hx
     exact ⟨h1,x',hx',h4.trans h2,by rw [h5];exact h3⟩
    ·obtain ⟨x,hx,h4,h5⟩:=hW.back hcl y hy
     obtain ⟨k,hk,h6⟩:=q9 x hx (by rw [<-h5];exact hs)
     exact ⟨k,hk,h4.trans h6⟩
    ·obtain ⟨h1,x,hx,h2,h3⟩:=q10 k hk
     obtain ⟨x',hx',h4,h5⟩:=hW.keep x hx
     exact ⟨by rw [hcl];exact h1,x',hx',h4.trans h2,by rw [h5];exact h3⟩
  ·exact ZaD.other R.inv hb hbl hcell k1 k2 (λ e=>e1 e.symm) (λ es2 left cur e=>hit ⟨es2,left,cur,e⟩)
theorem ZmQ (hE:ZQ E) (R:Rel E B S0 w0 st G S w tmps) {t:TypeId} {m x y:SV} {vm vx vy:Value} (hm:RSV st.tk G S w m vm) (hx:RSV st.tk G S w x vx) (hy:RSV st.tk G S w y vy) :
  QK E B S0 w0 (Zcc E t m x y st) G S w st.tk tmps (do Instr.mapUpdate t vm vx vy;pure .skip):=by
 intro r' hr hside
 unfold Zcc at hr
 split at hr
 ·rename_i id
  obtain ⟨b,hb,rfl⟩:=hm
  split at hr
  ·rename_i k e n k' e' hid hk
   split at hr
   ·rename_i kk' kk a bv hkk hee
    split at hr
    ·rename_i he
     obtain ⟨rfl,rfl,rfl,hno⟩:=he
     cases hr
     obtain ⟨hn,hw1,hw2⟩:=hside
     cases hx
     cases hy
     have ht:=(hE.td t).k
     rw [hk] at ht
     have hku:=(hE.td k).k
     rw [hkk] at hku
     have heu:=(hE.td e).k
     rw [hee] at heu
     obtain ⟨⟨D,hown⟩,hSb⟩:=R.inv.mpk id b _ hid hb
     have hwf:(Lit.int kk a).wf=true:=by simp [Lit.wf,hw1,hw2]
     obtain ⟨w',hrun,hown',hg⟩:=hown.update (Maps.int_keyed hku) ht (by simpa [maxLen] using hn) (Maps.keyOf_int_mk hku hwf) (plainElem_bool heu bv)
     have hdr:w.drawn<=w'.drawn:=by
      obtain ⟨es,clock,hb',F,hs,_⟩:=hown
      obtain ⟨es',clock',hrun',_⟩:=Maps.fit_store (R':=plainElem E.P e) (Maps.int_keyed hku) ht hb' F (Nat.lt_of_le_of_lt hs (by simpa [maxLen] using hn)) (λ _ _ _ _ hz=>hz) (Maps.keyOf_int_mk hku hwf) (plainElem_bool heu bv)
      have h:=hrun.symm.trans hrun'
      injection h with _ h
      rw [h]
      exact Zyp _
     obtain ⟨R1,X1⟩:=R.setMaps (mp':=st.ax.mp.set id (.plain k e (n+1))) hid (by simp) hb hg hdr (by simp) (λ hbl hcell i b' c' k1 k2=>by
      rw [ZyC] at k1
      split at k1
      ·rename_i e1
       subst e1
       split at k1
       ·cases k1
        rw [hb] at k2
        cases k2
        exact ⟨⟨_,hown'⟩,hSb⟩
       ·cases k1
      ·rename_i e1
       exact ZaD.other R.inv hb hbl hcell k1 k2 (λ e=>e1 e.symm) (λ es left cur e=>ZjD hno (e▸k1)))
     exact ⟨_,_,w',by simp [hrun],.inr ⟨rfl,rfl⟩,G,S,R1,rfl,X1⟩
    ·cases hr
   ·cases hr
  ·rename_i es mk k e hid hk
   have ht:=(hE.td t).k
   rw [hk] at ht
   split at hr
   ·rename_i ks key p hks hp
    cases hr
    obtain ⟨ho,hno⟩:=hside
    obtain rfl:=RV.flat_val hx ho.1.1
    obtain ⟨⟨arr,clock,es0,h1,h2,h3,h4,h5⟩,hSb⟩:=R.inv.mpk id b _ hid hb
    obtain ⟨arr',clock',es0',hrun,hW,hcl⟩:=Zld hE ht hks h1 h2 h3 h4 ho (RSV.pv hy hp)
    obtain ⟨R1,X1⟩:=R.wrote (mk':=mk) hid hb h1 hW (hno.imp (λ h=>h) hcl) (λ k' n' e=>by
     obtain ⟨z,hz,e1,e2⟩:=h5 k' n' e
     obtain ⟨z',hz',e3,e4⟩:=hW.keep z hz
     exact ⟨z',hz',e3.trans e1,by rw [e4];exact e2⟩)
    exact ⟨_,_,_,by simp [hrun],.inr ⟨rfl,rfl⟩,G,S,R1,rfl,X1⟩
   ·cases hr
  ·cases hr
 ·cases hr
theorem Zsc (hE:ZQ E) (R:Rel E B S0 w0 st G S w tmps) {t:TypeId} {m x:SV} {ok:Bool} {vm vx:Value} (hm:RSV st.tk G S w m vm) (hx:RSV st.tk G S w x vx) :
  QK E B S0 w0 (ZcC E t m x ok st) G S w st.tk tmps (do pure (.value (<-Instr.lookup t vm vx ok))) :=
 QK.same R λ r' hr hside=>by
  unfold ZcC at hr
  have ht:=(hE.td t).k
  split at hr
  ·rename_i k e key hk
   rw [hk] at ht
   split at hr
   ·rename_i ks es z hks hes hz
    cases hr
    obtain rfl:=RV.flat_val hx hside.1.1
    rcases R.ents hm hes with ⟨rfl,rfl⟩ | ⟨b,arr,clock,es0,rfl,h1,h2,h3,h4⟩
    ·obtain ⟨v,hrun,hv⟩:=Zlc (S:=S) (w:=w) hE ht hks hz hside ok
     exact ⟨rfl,v,by simp [hrun],hv⟩
    ·obtain ⟨v,hrun,hv⟩:=Zqi hE ht hks hz h1 h2 h3 h4 hside ok
     exact ⟨rfl,v,by simp [hrun],hv⟩
   ·cases hr
  ·cases hr
theorem Zsd {id:Nat} {k:PV} {c:ZaK} (h:∀es left cur,c≠.iter (some id) es left cur):ZhK id k c=c:=by
 match c,h with
 | .iter (some m) es left cur,h =>
  simp only [ZhK]
  rw [if_neg]
  rintro rfl
  exact h es left cur rfl
 | .iter none es left cur,_=>rfl
 | .plain _ _ _,_=>rfl
 | .ents _ _,_=>rfl
 | .gone,_=>rfl
theorem ZtA (hE:ZQ E) (R:Rel E B S0 w0 st G S w tmps) {t:TypeId} {x:SV} {vx:Value} (hx:RSV st.tk G S w x vx) (ty:TypeId) :
  QK E B S0 w0 (ZgW E t x st) G S w st.tk tmps (do pure (.value (<-Builtin.clear_ #[t] ty #[vx]))):=by
 intro r' hr hside
 unfold ZgW at hr
 have hk:=(hE.td t).k
 split at hr
 ·rename_i e id off m len cap hke
  rw [hke] at hk
  split at hr
  ·rename_i hc
   obtain ⟨rfl,hsz,hzl⟩:=hc
   split at hr
   ·rename_i cs hcs
    cases hr
    have hside':off+len*(E.T e).size<=cs.length:=hside
    obtain ⟨b,hb,rfl,hlc,hcm⟩:=hx
    have hcs':=getD_some hcs
    obtain ⟨ty',arr,hh,hl,hrr,hcell,_⟩:=R.inv.read hb hcs
    obtain ⟨i,z,hi,hsize,hby,hzz,hzc,hone,hzs,_⟩:=hE.cells (t:=e) (by omega)
    obtain ⟨vs,hvs⟩:∃vs,vs=(Builtin.zeroCells z.cells len).toList:=⟨_,rfl⟩
    have hvl:vs.length=len*(E.T e).size:=by rw [hvs,Zzk,size_zeroCells,hzs]
    have hvone:∀v∈vs,v.oneCell'=true:=λ v hv=>by
     rw [hvs] at hv
     simp only [Builtin.zeroCells,Array.toList_map,Zyz] at hv
     obtain ⟨k,_,rfl⟩:=hv
     have hlt:k % z.cells.size<z.cells.size:=Z0f _ (by rw [hzs];exact hsz)
     rw [getElem!_pos z.cells _ hlt]
     exact hone _ (by simp)
    have hst:=run_storeCells_at E.P b off ty' vs 0 arr w hh (by omega) hvone
    simp only [Zzj] at hst
    obtain ⟨R1,X1⟩:=R.setBox hb hcs' hh (arr':=(arr.toList.take off++vs++arr.toList.drop (off+vs.length)).toArray) (cs':=cs.take off++(List.replicate (len*(E.T e).size) (.val .any)++cs.drop (off+len*(E.T e).size)))
     (by simp [hl,hvl]) (λ j c v a1 a2=>by
      simp only [Zy9,Z0o] at a2
      rcases Zzs j off with hj | hj | hj
      ·rw [Zye (by simp;omega),Zyx,if_pos hj] at a1 a2
       exact hrr j c v a1 (by simpa using a2)
      all_goals
       have ht:(cs.take off).length=off:=by simp;omega
       have ht':(arr.toList.take off).length=off:=by simp;omega
       rw [Zyd (by omega),ht] at a1
       rw [Zyd (by omega),ht'] at a2
       by_cases hj2:j - off<len*(E.T e).size
       ·rw [Zye (by simpa using hj2)] at a1
        rw [Zye (by omega)] at a2
        have h1:=Zyb a1
        rw [ZzG] at h1
        obtain ⟨_,rfl⟩:=h1
        exact ⟨RV.any v,hvone v (Zyb a2)⟩
       ·rw [Zyd (by simp;omega),Zy8] at a1
        rw [Zyd (by omega),Zy8] at a2
        refine hrr _ c v a1 ?_
        rw [<-Zy2,<-a2]
        congr 1
        simp
        omega)
    by_cases h0:len=0
    ·subst h0
     have hv0:vs=[]:=Zyy (by rw [hvl,Z09])
     subst hv0
     have e1:cs.take off++(List.replicate (0*(E.T e).size) (.val .any)++cs.drop (off+0*(E.T e).size))=cs:=by simp
     have e2:st.setBx id (some (cs.take off++(List.replicate (0*(E.T e).size) (.val .any)++cs.drop (off+0*(E.T e).size))))=st:=by
      rw [e1]
      unfold St.setBx
      have e3:st.bx.set id (some cs)=st.bx:=by
       apply ZyS
       intro k
       rw [ZyC]
       split
       ·rename_i hkk
        subst hkk
        rw [if_pos (ZxZ.1 hcs').1,hcs']
       ·rfl
      rw [e3]
     refine ⟨_,_,w,by simp [Builtin.clear_,run_underlying hk];rfl,.inl rfl,G,S,?_,RV.any _,?_⟩
     ·rw [e2];exact R
     ·rw [e2];exact Ext.refl _ _ _ _
    ·obtain ⟨k,rfl⟩:∃k,len=k+1:=⟨len - 1,by omega⟩
     have hzv:∀w,(zeroValue e).run E.P w=.ok z w:=λ w=>by simp [zeroValue,typeInfo,hi,hzz]
     refine ⟨_,_,_,by simp [Builtin.clear_,run_underlying hk,hzv,<-hvs,hst];rfl,.inl rfl,G,S,R1,RV.any _,X1⟩
   ·cases hr
  ·cases hr
 ·cases hr
theorem Zse (hE:ZQ E) (R:Rel E B S0 w0 st G S w tmps) {t k':TypeId} {m x:SV} {vm vx:Value} (hm:RSV st.tk G S w m vm) (hx:RSV st.tk G S w x vx) (ty:TypeId) :
  QK E B S0 w0 (ZeT E t k' m x st) G S w st.tk tmps (do pure (.value (<-Builtin.delete_ #[t,k'] ty #[vm,vx]))):=by
 intro r' hr hside
 unfold ZeT at hr
 have ht:=(hE.td t).k
 split at hr
 ·rename_i k e id key hk
  rw [hk] at ht
  obtain ⟨b,hb,rfl⟩:=hm
  split at hr
  ·rename_i ks es mk hks hid
   split at hr
   ·rename_i hkk
    subst hkk
    cases hr
    obtain rfl:=RV.flat_val hx hside.1.1
    obtain ⟨⟨arr,clock,es0,h1,h2,h3,h4,h5⟩,hSb⟩:=R.inv.mpk id b _ hid hb
    obtain ⟨arr',es0',hrun,p1,p2,p3,p4⟩:=Zqj (ty:=ty) hE ht hks h1 h2 h3 h4 hside
    have hset:=MapKept.heap_set (o':=Obj.map arr' clock) h1
    have hidl:=(ZxZ.1 hid).1
    obtain ⟨R1,X1⟩:=R.setMaps (mp':=(st.ax.mp.map (ZhK id key)).set id (.ents (ZiZ es key) none)) hid (by simp) hb (ZlN h1 (.map arr' clock)) (Zyp _) (by simp) (λ hbl hcell i b' c' k1 k2=>by
     rw [ZyC] at k1
     split at k1
     ·rename_i e1
      subst e1
      split at k1
      ·cases k1
       rw [hb] at k2
       cases k2
       exact ⟨⟨arr',clock,es0',hset.1,p1,p2,λ i p x a1 a2=>(p3 i p x a1 a2).mono (λ _ h=>h) hcell,by simp⟩,hSb⟩
      ·cases k1
     ·rename_i e1
      rw [Zyh] at k1
      obtain ⟨c,hc,rfl⟩:=ZyG.1 k1
      by_cases hit:∃es left cur,c=.iter (some id) es left cur
      ·obtain ⟨es2,left,cur,rfl⟩:=hit
       obtain ⟨⟨bm,q1,arr1,clock1,since,seen,last,q2,q3,q4,q5,q6,q7,q8,q9,q10⟩,qS⟩:=R.inv.mpk i b' _ hc k2
       rw [hb] at q1
       cases q1
       rw [h1] at q2
       cases q2
       have hne:b'≠b:=λ e=>e1 (R.inv.dmp id i b hb (e▸k2))
       simp only [ZhK,if_true]
       have hkne:∀{k2:PV},k2.flat=true->keq key k2=false->k2.toVal≠key.toVal:=λ {k2} h6 h7 h8=>by
        rw [ZbQ h6 hside.1.1 h8,ZdI hside.1.1] at h7
        cases h7
       refine ⟨⟨b,hb,arr',clock,since,seen,last,hset.1,(hset.2 b' hne).trans q3,λ y hy=>q4 y ((p4 y).1 hy).1,q5,q6,q7.filter _,λ k2 hk2=>?_,λ y hy hs=>?_,λ k2 hk2=>?_⟩,qS⟩
       ·rw [ZyB] at hk2
        obtain ⟨h6,x,hx,h7,h8⟩:=q8 k2 hk2.1
        exact ⟨h6,x,(p4 x).2 ⟨hx,by rw [h7];exact hkne h6 (by simpa using hk2.2)⟩,h7,h8⟩
       ·obtain ⟨h6,h7⟩:=(p4 y).1 hy
        obtain ⟨k2,h8,h9⟩:=q9 y h6 hs
        refine ⟨k2,ZyB.2 ⟨h8,?_⟩,h9⟩
        cases hq:keq key k2 with
        | false=>rfl
        | true=>rw [(Za3 hside.1.1).1 hq] at h7;exact absurd h9 h7
       ·have hcur:cur=some k2/\keq key k2=false:=by
         cases cur with
         | none=>cases hk2
         | some c =>
          simp only at hk2
          split at hk2
          ·cases hk2
          ·rename_i hq
           cases hk2
           exact ⟨rfl,by simpa using hq⟩
        obtain ⟨h6,x,hx,h7,h8⟩:=q10 k2 hcur.1
        exact ⟨h6,x,(p4 x).2 ⟨hx,by rw [h7];exact hkne h6.2 hcur.2⟩,h7,h8⟩
      ·rw [Zsd (λ es2 left cur e=>hit ⟨es2,left,cur,e⟩)]
       exact ZaD.other R.inv hb hbl hcell hc k2 (λ e=>e1 e.symm) (λ es2 left cur e=>hit ⟨es2,left,cur,e⟩))
    exact ⟨.value (.tuple #[]),.tuple #[],_,by simp [hrun],.inl rfl,G,S,R1,RV.tup [] [] rfl (by simp),X1⟩
   ·cases hr
  ·cases hr
 ·cases hr
theorem Zle (R:Rel E B S0 w0 st G S w tmps) {t:TypeId} {m x y:SV} {vm vx vy:Value} (hm:RSV st.tk G S w m vm) (hx:RSV st.tk G S w x vx) (hy:RSV st.tk G S w y vy) :
  QK E B S0 w0 (Zei m x y st) G S w st.tk tmps (do Instr.entryStore t vm vx vy;pure .skip):=by
 intro r' hr hside
 unfold Zei at hr
 split at hr
 ·rename_i id n p hp
  obtain ⟨b,hb,rfl⟩:=hm
  split at hr
  ·rename_i es k n' hid
   split at hr
   ·rename_i hf
    cases hr
    have hnn:n=n':=hside
    subst hnn
    cases RV.int_inv hx
    obtain ⟨⟨arr,clock,es0,h1,h2,h3,h4,h5⟩,hSb⟩:=R.inv.mpk id b _ hid hb
    obtain ⟨arr',es0',hrun,hW⟩:=ZjB (E:=E) (t:=t) h1 h2 h3 h4 hf (h5 k n rfl) (RSV.pv hy hp)
    obtain ⟨R1,X1⟩:=R.wrote (mk':=none) hid hb h1 hW (.inr rfl) (λ _ _ e=>by cases e)
    exact ⟨_,_,_,by simp [hrun],.inr ⟨rfl,rfl⟩,G,S,R1,rfl,X1⟩
   ·cases hr
  ·cases hr
 ·cases hr
theorem map_fst_zip {ks vs:List PV} (h:ks.length=vs.length):(ks.zip vs).map (·.1)=ks:=by
 rw [List.map_fst_zip (by omega)]
theorem ZtB (hE:ZQ E) (R:Rel E B S0 w0 st G S w tmps) {t:TypeId} {m:SV} {vm:Value} (hm:RSV st.tk G S w m vm) :
  QK E B S0 w0 (ZmE E t m st) G S w st.tk tmps (do pure (.value (<-Instr.range t vm))):=by
 intro r' hr _
 unfold ZmE at hr
 have ht:=(hE.td t).k
 have hS:∀a,S a->a.block≠w.heap.size:=λ a ha e=>by have:=R.inv.slt a ha;omega
 have hnew:=λ o=>MapKept.heap_alloc w o
 have key:∀(bm:Nat) (arr:Array MapEntry) (clock:Nat) (es0:List (PV × PV)) (left:List PV),w.heap[bm]?=some (.map arr clock)->ZbM es0 arr clock->(es0.map (·.1)).Perm left ->
   Zgt (w.alloc (.mapIter (some bm) clock #[] clock)) w.heap.size bm left none:=λ bm arr clock es0 left h1 h3 hp=>by
  have hlt:bm<w.heap.size:=(Zyv.1 h1).1
  refine ⟨arr,clock,clock,#[],clock,((hnew _).2 bm hlt).trans h1,(hnew _).1,h3.born,Zyp _,Zyp _,hp.nodup_iff.1 h3.nodK,λ k hk=>?_,λ x hx _=>?_,by simp⟩
  ·obtain ⟨p,hp1,rfl⟩:=Zyz.1 (hp.mem_iff.2 hk)
   obtain ⟨i,hi⟩:=ZyF hp1
   have hil:i<arr.size:=by rw [<-h3.len];exact (ZxZ.1 hi).1
   obtain ⟨h4,h5⟩:=h3.key i p _ hi (Zyn hil)
   exact ⟨h4,arr[i],by simp,h5,by simp⟩
  ·obtain ⟨i,hi⟩:=ZyF hx
   have hi':arr[i]?=some x:=by simpa using hi
   have hil:i<es0.length:=by rw [h3.len];exact (Zyv.1 hi').1
   exact ⟨_,hp.mem_iff.1 (Zyz.2 ⟨_,Zzg hil,rfl⟩),(h3.key i _ x (Zya hil) hi').2⟩
 split at hr
 ·rename_i k e id hk
  rw [hk] at ht
  obtain ⟨b,hb,rfl⟩:=hm
  split at hr
  ·rename_i es um hid
   cases hr
   obtain ⟨⟨arr,clock,es0,h1,h2,h3,h4,h5⟩,hSb⟩:=R.inv.mpk id b _ hid hb
   obtain ⟨R1,X1,hb1⟩:=R.newMap (.mapIter (some b) clock #[] clock) (.iter (some id) [] (es.map (·.1)) none) ⟨⟨b,by rw [Zye (ZxZ.1 hb).1];exact hb,key b arr clock es0 _ h1 h3 (h2.map _)⟩,hS⟩
   exact ⟨_,_,_,by simp [run_range_map w t k e b arr clock ht h1],.inl rfl,_,S,R1,⟨w.heap.size,hb1,rfl⟩,X1⟩
  ·cases hr
 ·rename_i k e ks vs hk
  rw [hk] at ht
  cases hr
  cases hm with
  | mapNil =>
   obtain ⟨R1,X1,hb1⟩:=R.newMap (.mapIter none 0 #[] 0) (.iter none [] [] none) ⟨.inl ⟨(hnew _).1,rfl,rfl⟩,hS⟩
   exact ⟨_,_,_,by simp [run_range_nilMap w t k e ht],.inl rfl,_,S,R1,⟨w.heap.size,hb1,rfl⟩,X1⟩
  | map _ _ es0 b arr clock hp hl hSb hb he hv =>
   have hlt:b<w.heap.size:=(Zyv.1 hb).1
   have hstill:∀a,S a->Qq w (w.alloc (.mapIter (some b) clock #[] clock)) a:=λ a ha=>Qq.of_block ((hnew _).2 _ (R.inv.slt a ha))
   obtain ⟨R1,X1,hb1⟩:=R.newMap (.mapIter (some b) clock #[] clock) (.iter none (ks.zip vs) ks none) ⟨.inr ⟨b,hSb,⟨arr,clock,es0,((hnew _).2 b hlt).trans hb,hp,he,λ i p x a1 a2=>(hv i p x a1 a2).mono (λ _ h=>h) hstill,by simp⟩,
    key b arr clock es0 ks hb he (by have:=hp.map (·.1);rwa [map_fst_zip hl] at this)⟩,hS⟩
   exact ⟨_,_,_,by simp [run_range_map w t k e b arr clock ht hb],.inl rfl,_,S,R1,⟨w.heap.size,hb1,rfl⟩,X1⟩
 ·cases hr
theorem Rel.iter (R:Rel E B S0 w0 st G S w tmps) {id b:Nat} {src:Option Nat} {es es':List (PV × PV)} {left:List PV} {cur:Option PV} (hid:st.ax.mp[id]?=some (.iter src es left cur)) (hb:G.mp[id]?=some b) (he:Zeg st src es=some es') :
  (w.heap[b]?=some (.mapIter none 0 #[] 0)/\left=[]/\cur=none)\/∃(bm:Nat) (arr:Array MapEntry) (clock since:Nat) (seen:Array Nat) (last:Nat) (es0:List (PV × PV)),w.heap[bm]?=some (.map arr clock)/\es0.Perm es'/\ZbM es0 arr clock /\
   (∀(i:Nat) (p:PV × PV) (x:MapEntry),es0[i]?=some p->arr[i]?=some x->RV S w p.2 x.val)/\bm≠b/\w.heap[b]?=some (.mapIter (some bm) since seen last)/\(∀x∈arr.toList,x.born<since)/\since<=last/\since<=clock /\
   left.Nodup/\(∀k∈left,k.flat=true/\∃x∈arr.toList,x.key=k.toVal/\seen.contains x.born=false)/\(∀x∈arr.toList,seen.contains x.born=false->∃k∈left,x.key=k.toVal) /\
   (∀k,cur=some k->(last=clock/\k.flat=true)/\∃x∈arr.toList,x.key=k.toVal/\seen.back?=some x.born)/\((∃m,src=some m/\G.mp[m]?=some bm)\/(src=none/\S ⟨bm,0,none⟩/\es=es')):=by
 have h:=R.inv.mpk id b _ hid hb
 cases src with
 | some m =>
  obtain ⟨⟨bm,q1,arr,clock,since,seen,last,q2,q3,q4,q5,q6,q7,q8,q9,q10⟩,qS⟩:=h
  simp only [Zeg] at he
  split at he
  ·rename_i es1 um hm
   cases he
   obtain ⟨⟨arr1,clock1,es0,h1,h2,h3,h4,_⟩,_⟩:=R.inv.mpk m bm _ hm q1
   rw [h1] at q2
   cases q2
   exact .inr ⟨bm,arr,clock,since,seen,last,es0,h1,h2,h3,h4,(λ e=>by rw [e,q3] at h1;cases h1),q3,q4,q5,q6,q7,q8,q9,q10,.inl ⟨m,rfl,q1⟩⟩
  ·cases he
 | none =>
  cases he
  obtain ⟨h,qS⟩:=h
  rcases h with ⟨h1,h2⟩ | ⟨bm,h1,⟨arr1,clock1,es0,p1,p2,p3,p4,_⟩,arr,clock,since,seen,last,q2,q3,q4,q5,q6,q7,q8,q9,q10⟩
  ·refine .inl ⟨h1,h2.1,h2.2⟩
  ·rw [p1] at q2
   cases q2
   exact .inr ⟨bm,arr1,clock1,since,seen,last,es0,p1,p2,p3,p4,(λ e=>by rw [e,q3] at p1;cases p1),q3,q4,q5,q6,q7,q8,q9,q10,.inr ⟨rfl,h1,rfl⟩⟩
theorem ZjE {es:List (PV × PV)} {arr:Array MapEntry} {clock:Nat} (h:ZbM es arr clock) {x y:MapEntry} (hx:x∈arr.toList) (hy:y∈arr.toList) (e:x.key=y.key\/x.born=y.born):x=y:=by
 obtain ⟨i,hi⟩:=ZyF hx
 obtain ⟨j,hj⟩:=ZyF hy
 have hi':arr[i]?=some x:=by simpa using hi
 have hj':arr[j]?=some y:=by simpa using hj
 have hil:i<es.length:=by rw [h.len];exact (Zyv.1 hi').1
 have hjl:j<es.length:=by rw [h.len];exact (Zyv.1 hj').1
 have hij:i=j:=by
  rcases e with e | e
  ·have h1:=h.key i _ x (Zya hil) hi'
   have h2:=h.key j _ y (Zya hjl) hj'
   have h3:es[i].1=es[j].1:=ZbQ h1.1 h2.1 (by rw [<-h1.2,<-h2.2,e])
   refine (ZzM (by simpa using hil) h.nodK).1 ?_
   rw [Zyh,Zyh,Zya hil,Zya hjl]
   simp [h3]
  ·refine (ZzM (by have:=(Zyv.1 hi').1;simpa using this) h.nodB).1 ?_
   rw [Zyh,Zyh,hi,hj]
   simp [e]
 subst hij
 rw [hi] at hj
 exact Zyc hj
theorem ZtC {es:List (PV × PV)} {arr:Array MapEntry} {clock:Nat} (h:ZbM es arr clock) {x:MapEntry} (hx:x∈arr.toList):∃(i:Nat) (p:PV × PV),es[i]?=some p/\arr[i]?=some x/\p.1.flat=true/\x.key=p.1.toVal:=by
 obtain ⟨i,hi⟩:=ZyF hx
 have hi':arr[i]?=some x:=by simpa using hi
 have hil:i<es.length:=by rw [h.len];exact (Zyv.1 hi').1
 have:=h.key i _ x (Zya hil) hi'
 exact ⟨i,_,Zya hil,hi',this.1,this.2⟩
theorem ZtD (R:Rel E B S0 w0 st G S w tmps) {x:SV} {vx:Value} (hx:RSV st.tk G S w x vx) :
  QK E B S0 w0 (Zeh x st) G S w st.tk tmps (do pure (.value (<-Instr.entry vx))) :=
 QK.same R λ r' hr hside=>by
  unfold Zeh at hr
  split at hr
  ·rename_i id
   obtain ⟨b,hb,rfl⟩:=hx
   split at hr
   ·rename_i src es left k hid
    split at hr
    ·rename_i es' he
     cases hr
     rcases R.iter hid hb he with ⟨_,_,h⟩ | ⟨bm,arr,clock,since,seen,last,es0,h1,h2,h3,h4,_,h5,_,_,_,_,_,_,h6,_⟩
     ·cases h
     ·obtain ⟨⟨rfl,hf⟩,y,hy,hyk,hyb⟩:=h6 k rfl
      obtain ⟨i,p,a1,a2,a3,a4⟩:=ZtC h3 hy
      have hkp:k=p.1:=ZbQ hf a3 (hyk.symm.trans a4)
      have hn:ZhM es':=show (es'.map (·.1)).Nodup from (h2.map (·.1)).nodup_iff.1 h3.nodK
      have hl:QG es' k=some p.2:=(ZbR hn hf).2 (h2.mem_iff.1 (by rw [hkp];exact Zyb a1))
      have hfind:arr.find? (·.born == y.born)=some y:=by rw [<-Array.find?_toList];exact find_born y arr.toList h3.nodB hy
      refine ⟨rfl,.tuple #[y.key,y.val],?_,?_⟩
      ·simp [Instr.entry,getObj,Sem.run,h5,h1,hyb,hfind,Result.andThen]
      ·show RV S w (.tup [k,(QG es' k).getD .any]) _
       rw [hl]
       exact RV.tup [k,p.2] [y.key,y.val] rfl (RVs.cons (by rw [hyk];exact RV.of_key hf) (RVs.cons (h4 i p y a1 a2) RVs.nil)).2
    ·cases hr
   ·cases hr
  ·cases hr
theorem Zvj (R:Rel E B S0 w0 st G S w tmps) {x:SV} {K:SV->St->Prop} (h:ZmF x st K) {vx:Value} (hx:RSV st.tk G S w x vx) (ty:TypeId) :
  ∃v w',(Instr.next vx false ty).run E.P w=.ok v w'/\∃sv st',K sv st'/\Rel E B S0 w0 st' G S w' tmps/\RSV st'.tk G S w' sv v/\Ext st.tk G S w st'.tk G S w':=by
 unfold ZmF at h
 split at h
 ·rename_i id
  obtain ⟨b,hb,rfl⟩:=hx
  split at h
  ·rename_i src es left cur hid
   split at h
   ·rename_i es' he
    obtain ⟨hdone,hmore⟩:=h
    rcases R.iter hid hb he with ⟨h1,rfl,_⟩ | ⟨bm,arr,clock,since,seen,last,es0,h1,h2,h3,h4,hne,h5,q4,q5,q6,q7,q8,q9,_,q11⟩
    ·exact ⟨_,w,by simp [Instr.next,getObj,Sem.run,h1,Result.andThen],_,st,hdone rfl,R,RV.tup [.bool false] [.bool false] rfl (RVs.cons (.bool _) RVs.nil).2,Ext.refl _ _ _ _⟩
    ·rcases run_next_at (P:=E.P) w ty b bm since last seen arr clock h5 h1 q4 q5 with ⟨h0,hrun⟩ | ⟨y,hy,w1,hal,hrun⟩
     ·have hleft:left=[]:=by
       cases hq:left with
       | nil=>rfl
       | cons k r =>
        obtain ⟨_,z,hz,_,hzs⟩:=q8 k (by rw [hq];simp)
        have:z∈(leftOf arr seen):=by
         unfold leftOf
         rw [Array.mem_filter]
         exact ⟨by simpa using hz,by simpa using hzs⟩
        have h6:=Array.size_pos_of_mem this
        omega
      exact ⟨_,w,hrun,_,st,hdone hleft,R,RV.tup [.bool false] [.bool false] rfl (RVs.cons (.bool _) RVs.nil).2,Ext.refl _ _ _ _⟩
     ·obtain ⟨hym,hys⟩:=mem_left hy
      obtain ⟨k,hk,hyk⟩:=q9 y hym hys
      have hkf:=(q8 k hk).1
      obtain ⟨i,p,a1,a2,a3,a4⟩:=ZtC h3 hym
      have hkp:k=p.1:=ZbQ hkf a3 (hyk.symm.trans a4)
      have hmem:(k,p.2)∈es':=h2.mem_iff.1 (by rw [hkp];exact Zyb a1)
      have hw1:∀j:Nat,w1.heap[j]?=w.heap[j]?:=λ j=>by rcases hal with h | h<;>(rw [h];try rfl)
      have hset:=MapKept.heap_set (w:=w1) (o':=Obj.mapIter (some bm) since (seen.push y.born) clock) ((hw1 b).trans h5)
      have hg:w.grownBy (ChangeMaps.setBlock w1 b (.mapIter (some bm) since (seen.push y.born) clock)) (some b):=by
       refine ⟨?_,?_,?_,?_,λ j _ hj=>(hset.2 j (λ e=>hj (by rw [e]))).trans (hw1 j)⟩
       all_goals rcases hal with h | h<;>(rw [h];simp [ChangeMaps.setBlock];try rfl)
      obtain ⟨R1,X1⟩:=R.setMaps (mp':=st.ax.mp.set id (.iter src es (left.filter λ z=>!keq k z) (some k))) hid (by simp) hb hg (by show w.drawn<=w1.drawn;rcases hal with h | h<;>rw [h];exact Zyp _;exact Nat.le_succ _) (by simp) (λ hbl hcell j b' c' k1 k2=>by
       rw [ZyC] at k1
       have hiter:Zgt (ChangeMaps.setBlock w1 b (.mapIter (some bm) since (seen.push y.born) clock)) b bm (left.filter λ z=>!keq k z) (some k):=by
        refine ⟨arr,clock,since,seen.push y.born,clock,(hset.2 bm hne).trans ((hw1 bm).trans h1),hset.1,q4,q6,q6,q7.filter _,λ k' hk'=>?_,λ z hz hs=>?_,λ k' hk'=>?_⟩
        ·rw [ZyB] at hk'
         obtain ⟨h6,z,hz,h7,h8⟩:=q8 k' hk'.1
         refine ⟨h6,z,hz,h7,?_⟩
         have hnb:z.born≠y.born:=λ e=>by
          have:=ZjE h3 hz hym (.inr e)
          subst this
          have h9:k=k':=ZbQ hkf h6 (hyk.symm.trans h7)
          rw [<-h9,ZdI hkf] at hk'
          simp at hk'
         rw [contains_push,h8]
         simpa using hnb
        ·rw [contains_push] at hs
         simp only [ZzV] at hs
         obtain ⟨k',h6,h7⟩:=q9 z hz hs.1
         refine ⟨k',ZyB.2 ⟨h6,?_⟩,h7⟩
         cases hq:keq k k' with
         | false=>rfl
         | true =>
          rw [<-(Za3 hkf).1 hq] at h7
          have:=ZjE h3 hz hym (.inl (h7.trans hyk.symm))
          rw [this] at hs
          simp at hs
        ·cases hk'
         exact ⟨⟨rfl,hkf⟩,y,hym,hyk,by simp⟩
       split at k1
       ·rename_i e1
        subst e1
        split at k1
        ·cases k1
         rw [hb] at k2
         cases k2
         have hSb:∀a,S a->a.block≠b:=by
          have:=R.inv.mpk id b _ hid hb
          cases src with
          | none=>exact this.2
          | some m=>exact this.2
         rcases q11 with ⟨m,rfl,hm⟩ | ⟨rfl,hSm,rfl⟩
         ·exact ⟨⟨bm,hm,hiter⟩,hSb⟩
         ·exact ⟨.inr ⟨bm,hSm,⟨arr,clock,es0,(hset.2 bm hne).trans ((hw1 bm).trans h1),h2,h3,λ i p z b1 b2=>(h4 i p z b1 b2).mono (λ _ h=>h) hcell,by simp⟩,hiter⟩,hSb⟩
        ·cases k1
       ·rename_i e1
        refine ZaD.other R.inv hb hbl hcell k1 k2 (λ e=>e1 e.symm) (λ es2 left2 cur2 e=>?_)
        subst e
        obtain ⟨⟨bm2,r1,arr2,clock2,_,_,_,r2,_⟩,_⟩:=R.inv.mpk j b' _ k1 k2
        rw [hb] at r1
        cases r1
        rw [h5] at r2
        cases r2)
      refine ⟨_,_,hrun,_,_,hmore k p.2 hk hmem,R1,?_,X1⟩
      refine RV.tup [.bool true,k,p.2] [.bool true,y.key,y.val] rfl (RVs.cons (.bool _) (RVs.cons (by rw [hyk];exact RV.of_key hkf) (RVs.cons ?_ RVs.nil))).2
      exact (h4 i p y a1 a2).mono (λ _ h=>h) X1.cell
   ·exact h.elim
  ·exact h.elim
 ·exact h.elim
theorem Zop (hE:ZQ E) (R:Rel E B S0 w0 st G S w tmps) {t:TypeId} {m x:SV} {K:SV->St->Prop} (h:ZbP E t m x st K) {vm vx:Value} (hm:RSV st.tk G S w m vm) (hx:RSV st.tk G S w x vx) :
  ∃v w',(Instr.mapEntry t vm vx).run E.P w=.ok v w'/\∃sv st',K sv st'/\Rel E B S0 w0 st' G S w' tmps/\RSV st'.tk G S w' sv v/\Ext st.tk G S w st'.tk G S w':=by
 unfold ZbP at h
 have ht:=(hE.td t).k
 split at h
 ·rename_i k e id key hk
  rw [hk] at ht
  split at h
  ·rename_i ks es um z hks hid hz
   obtain ⟨ho,hno,hK⟩:=h
   obtain ⟨b,hb,rfl⟩:=hm
   obtain rfl:=RV.flat_val hx ho.1.1
   obtain ⟨⟨arr,clock,es0,h1,h2,h3,h4,h5⟩,hSb⟩:=R.inv.mpk id b _ hid hb
   obtain ⟨arr',clock',es0',v,n,hrun,hW,hcl,hv,hn⟩:=ZmP hE ht hks hz h1 h2 h3 h4 ho
   obtain ⟨R1,X1⟩:=R.wrote (mk':=some (key,n)) hid hb h1 hW (hno.imp (λ h=>h) hcl) (λ k' n' e=>by cases e;exact hn)
   exact ⟨_,_,hrun,_,_,hK n,R1,RV.tup [_,.int .i64 n] [v,.int .i64 n] rfl (RVs.cons (hv.mono (λ _ h=>h) X1.cell) (RVs.cons (.int _ _) RVs.nil)).2,X1⟩
  ·exact h.elim
 ·exact h.elim
theorem Zql (hE:ZQ E) (R:Rel E B S0 w0 st G S w tmps) (b:Builtin) (args:Array Operand) (ts:Array TypeId) (d:List Deferred) (o:Oper) (ho:o.op=.call { callee:=.builtin b,args:=args,argTypes:=ts }) :
  QK E B S0 w0 (ZdF E b ts.toList (args.toList.map (Zp st)) st) G S w st.tk tmps (execOp ({ tmps:=tmps,defers:=d }:Act).eval o):=by
 have hrun:execOp ({ tmps:=tmps,defers:=d }:Act).eval o=builtin b ts o.type (args.map fun | .const _=>true | _=>false) (args.map ({ tmps:=tmps,defers:=d }:Act).eval):=by
  unfold execOp
  rw [ho]
  rfl
 rw [hrun]
 have hrel:=ZeZ R d args
 have hlen:(args.toList.map (Zp st)).length=(args.map ({ tmps:=tmps,defers:=d }:Act).eval).size:=by simp
 generalize args.toList.map (Zp st)=xs at hrel hlen ⊢
 generalize args.map ({ tmps:=tmps,defers:=d }:Act).eval=vs at hrel hlen ⊢
 generalize (args.map fun | .const _=>true | _=>false)=cn
 obtain ⟨tl⟩:=ts
 obtain ⟨vl⟩:=vs
 simp only at hrel hlen ⊢
 unfold ZdF
 split
 ·rename_i t x
  match vl,hlen,hrel with
  | [v],_,hrel=>exact Zwp hE R (hrel 0 _ v rfl rfl) o.type
 ·rename_i t t' s y
  match vl,hlen,hrel with
  | [v,u],_,hrel =>
   split
   ·rename_i ht
    subst ht
    exact Zsb hE R (hrel 0 _ v rfl rfl) (hrel 1 _ u rfl rfl)
   ·exact QK.none
 ·exact ZlM R true _ o.type hlen hrel
 ·exact ZlM R false _ o.type hlen hrel
 ·rename_i t k m x
  match vl,hlen,hrel with
  | [v,u],_,hrel=>exact Zse hE R (hrel 0 _ v rfl rfl) (hrel 1 _ u rfl rfl) o.type
 ·rename_i t x
  match vl,hlen,hrel with
  | [v],_,hrel=>exact ZtA hE R (hrel 0 _ v rfl rfl) o.type
 ·exact QK.none
theorem ZwQ (hE:ZQ E) (R:Rel E B S0 w0 st G S w tmps) (o:Oper) (d:List Deferred) :
  QK E B S0 w0 (ZR E o.op st) G S w st.tk tmps (execOp ({ tmps:=tmps,defers:=d }:Act).eval o):=by
 obtain ⟨dst,op,type,pos,after,guard⟩:=o
 cases op with
 | move x=>exact ZrC R x d
 | assign x=>exact ZrC R x d
 | pick c a b=>exact Zvg R (R.val c d) (R.val a d) (R.val b d)
 | alloc t=>exact Zt7 hE R
 | box t x=>exact Zwq R (R.val x d)
 | build t parts =>
  refine Zt8 hE R ?_
  have:=R.parts d parts.toList
  simpa using this
 | buildSlice t n parts =>
  refine Zla hE R ?_
  have:=R.parts d parts.toList
  simpa using this
 | load t a=>exact Zvh hE R (R.val a d).norm
 | store t a x=>exact Zt9 hE R (R.val a d).norm (R.val x d)
 | nilCheck x=>exact Zoo R x d _ rfl
 | makeMap t r=>exact Zqk hE R
 | mapUpdate t m x v=>exact ZmQ hE R (R.val m d) (R.val x d) (R.val v d)
 | lookup t m x ok=>exact Zsc hE R (R.val m d) (R.val x d)
 | range t m=>exact ZtB hE R (R.val m d)
 | entry x=>exact ZtD R (R.val x d)
 | entryStore t m s x=>exact Zle R (R.val m d) (R.val s d) (R.val x d)
 | binOp op t x y ty=>exact Zwo hE R x y (R.val x d) (R.val y d)
 | unOp op t x=>exact ZwP R (R.val x d)
 | convert s t x=>exact Zqf hE R (R.val x d)
 | makeFunc fn first cap =>
  refine Zom R (by simp) (by simp) ?_
  exact ZeZ R d cap
 | makeSlice t l c=>exact ZmM hE R (R.val l d) (R.val c d)
 | slice t x lo hi mx =>
  have hx:=R.val x d
  simp only [ZR]
  split
  ·rename_i id off he
   rw [he] at hx
   exact Zoa hE R hx (Zon R d lo) (Zon R d hi) (Zon R d mx)
  ·rename_i id off m len cap he
   rw [he] at hx
   exact ZnZ hE R hx (Zon R d lo) (Zon R d hi) (Zon R d mx)
  ·exact Zt6 hE R hx (Zon R d lo) (Zon R d hi) (λ h=>by cases mx with | none=>rfl | some m=>cases h)
 | fieldAddr s x f=>exact ZmK hE R (R.val x d)
 | field t x f=>exact Zt4 hE R (R.val x d)
 | indexAddr t x i=>exact ZmL hE R (R.val x d) (R.val i d)
 | index t x i=>exact Zt5 hE R (R.val x d) (R.val i d)
 | extract x i=>exact Zqe R (R.val x d)
 | call c =>
  obtain ⟨callee,args,ts⟩:=c
  cases callee with
  | builtin b=>exact Zql hE R b args ts d _ rfl
  | value f=>exact QK.none
  | invoke r m=>exact QK.none
 | _=>exact QK.none
end
section
variable {E:Env} {B:Nat} {S0:Addr->Prop} {w0:World} {st:St} {G:Gh} {S:Addr->Prop} {w:World} {tmps:Array Value}
theorem Zlf {t ty e e':TypeId} {i:TypeInfo} (ht:E.P.underlying t=some (.slice e)) (hi:E.P.info? e=some i) {g off sLen sCap:Nat} {cur:Array Value} (hg:w.heap[g]?=some (.cells cur e' (0,0)))
  {a:Addr} {m c:Nat} {news:List Value} (hl:news.length=m*i.size) (hnews:∀(j:Nat) (u:Value),news[j]?=some u->w.cell? (a.add j)=some u) (h1:∀u∈news,u.oneCell'=true) (hroom:sLen+m<=sCap) (hfit:off+sLen*i.size+news.length<=cur.size) :
  (Builtin.append_ #[t,t] ty #[.slice (some ⟨g,off,none⟩) sLen sCap,.slice (some a) m c]).run E.P w =
   .ok (.slice (some ⟨g,off,none⟩) (sLen+m) sCap) (w.setRow g (cur.toList.take (off+sLen*i.size)++news++cur.toList.drop (off+sLen*i.size+news.length)).toArray):=by
 have hf:=run_firstCells_some (P:=E.P) w i.size m a m c news hl hnews
 have hst:=run_storeCells_at E.P g (off+sLen*i.size) e' news 0 cur w hg (by simpa using hfit) h1
 simp only [Zzj] at hst
 simp [Builtin.append_,run_underlying ht,sizeOf,typeInfo,hi,Builtin.lenOf,hroom,hf,Y0,hst]
theorem ZlO {m:Nat} {xs:List PV} {vs:List Value} (h:Els S w m xs vs):RVs S w (xs.flatMap PV.cells) vs:=by
 obtain ⟨h1,h2,h3⟩:=h
 have hm:∀x∈xs,x.cells.length=m:=λ x hx=>by
  obtain ⟨i,hi⟩:=ZyO.1 hx
  exact h2 i x hi
 have hlen:(xs.flatMap PV.cells).length=xs.length*m:=by
  clear h1 h2 h3
  induction xs with
  | nil=>simp
  | cons x r ih=>rw [ZyW,Zyg,ih (λ y hy=>hm y (ZyN _ hy)),hm x ZzU,ZyM,Z0j];omega
 refine ⟨by rw [hlen,h1],λ k c u hc hu=>?_⟩
 have hk:k<xs.length*m:=by rw [<-hlen];exact (ZxZ.1 hc).1
 have hm0:0<m:=by
  rcases ZzE m with h | h
  ·subst h;simp at hk
  ·exact h
 have hi:k / m<xs.length:=(Nat.div_lt_iff_lt_mul hm0).2 hk
 have hx:xs[k / m]?=some xs[k / m]:=Zya hi
 have hxl:xs[k / m].cells.length=m:=h2 _ _ hx
 have hj:k % m<xs[k / m].cells.length:=by rw [hxl];exact Z0f _ hm0
 have hcj:xs[k / m].cells[k % m]?=some xs[k / m].cells[k % m]:=Zya hj
 have hk2:k / m*m+k % m=k:=by rw [Z0A];exact Nat.div_add_mod k m
 have:=Zhg hm (k / m) _ (k % m) _ hx hcj
 rw [hk2,hc] at this
 have hce:=Zyc this
 refine hce▸h3 (k / m) _ (k % m) _ u hx hcj (by rw [hk2];exact hu)
theorem Zvk (hE:ZQ E) (R:Rel E B S0 w0 st G S w tmps) {ts:List TypeId} {xs:List SV} {K:SV->St->Prop} (h:Zcq E ts xs st K) {vs:List Value} (hl:xs.length=vs.length)
  (hv:∀(i:Nat) (s:SV) (v:Value),xs[i]?=some s->vs[i]?=some v->RSV st.tk G S w s v) (ty:TypeId) :
  ∃v w',(Builtin.append_ ts.toArray ty vs.toArray).run E.P w=.ok v w'/\∃(sv:SV) (st':St) (G':Gh) (S':Addr->Prop),K sv st'/\Rel E B S0 w0 st' G' S' w' tmps/\RSV st'.tk G' S' w' sv v/\Ext st.tk G S w st'.tk G' S' w':=by
 unfold Zcq at h
 split at h
 rotate_left
 ·exact h.elim
 rename_i t t' s y
 match vs,hl with
 | [vsl,vy],hl0 =>
 clear hl0
 have hs:=hv 0 s vsl rfl rfl
 have hy:=hv 1 y vy rfl rfl
 split at h
 rotate_left
 ·exact h.elim
 rename_i e m' ys hke hye
 have hk:=(hE.td t).k
 rw [hke] at hk
 obtain ⟨rfl,rfl,hyne,hsz,hzl,h⟩:=h
 obtain ⟨i,z,hi,hsize,hby,hzz,hzc,hone,hcs,_⟩:=hE.cells (t:=e) (by omega)
 obtain ⟨aY,adY,capY,us,rfl,haY,hcY,hmY,hcellY,helsY⟩:=RV.flat (RSV.elems hy hye)
 have honeY:∀u∈us,u.oneCell'=true:=λ u hu=>by
  obtain ⟨j,hj⟩:=ZyO.1 hu
  exact (hcellY j u hj).2.2
 have haY':=haY hyne
 subst haY'
 have hys:0<ys.length:=Zz0.2 hyne
 have husl:us.length=ys.length*i.size:=by rw [hsize];exact helsY.1
 have hrY:=ZlO helsY
 have hYcells:(ys.flatMap PV.cells).length=us.length:=hrY.1
 have zone:∀(n j:Nat) (v:Value),(Builtin.zeroCells z.cells n)[j]?=some v->v.oneCell'=true:=by
  intro n j v hj
  have hm:=Array.mem_of_getElem? hj
  simp only [Builtin.zeroCells,Array.mem_map] at hm
  obtain ⟨k,_,rfl⟩:=hm
  have hsz0:0<z.cells.size:=by rw [hcs];exact hsz
  have hlt:k % z.cells.size<z.cells.size:=Z0f _ hsz0
  rw [getElem!_pos z.cells _ hlt]
  exact hone _ (by simp)
 have grown:∀(olds:List Value) (oc:List SV) (n cap:Nat),olds.length=n*(E.T e).size->oc.length=olds.length->(∀(j:Nat) (c:SV) (v:Value),oc[j]?=some c->olds[j]?=some v->RSV st.tk G S w c v/\v.oneCell'=true)->n+ys.length<=cap ->
   ∃G',Rel E B S0 w0 (st.newBx (oc++((ys.flatMap PV.cells).map SV.val++List.replicate ((cap - (n+ys.length))*(E.T e).size) (.val .any)))) G' S (w.drew.alloc (.cells (olds.toArray++us.toArray++Builtin.zeroCells z.cells (cap - (n+ys.length))) e)) tmps /\
    Ext st.tk G S w st.tk G' S (w.drew.alloc (.cells (olds.toArray++us.toArray++Builtin.zeroCells z.cells (cap - (n+ys.length))) e))/\G'.bx[st.bx.length]?=some w.heap.size:=by
  intro olds oc n cap ho hoc hrel hcap
  obtain ⟨R1,X1⟩:=R.drew
  obtain ⟨G',R2,X2,b,hb,hp⟩:=R1.newBox e (olds.toArray++us.toArray++Builtin.zeroCells z.cells (cap - (n+ys.length))) (oc++((ys.flatMap PV.cells).map SV.val++List.replicate ((cap - (n+ys.length))*(E.T e).size) (.val .any)))
   (by simp [size_zeroCells,hcs,hoc,hYcells];omega) (λ j c v hc hv=>by
    rw [<-Zy2] at hv
    simp only [Array.toList_append,Zy9] at hv
    by_cases h1:j<olds.length
    ·rw [Zye (by omega)] at hc
     rw [Zye h1] at hv
     obtain ⟨q1,q2⟩:=hrel j c v hc hv
     exact ⟨RSV.mono X1 q1,q2⟩
    ·rw [Zyd (by omega),hoc] at hc
     rw [Zyd (by omega)] at hv
     generalize j - olds.length=j2 at hc hv
     by_cases h2:j2<us.length
     ·rw [Zye (by simp [hYcells];omega),Zyh] at hc
      rw [Zye h2] at hv
      cases hq:(ys.flatMap PV.cells)[j2]? with
      | none=>rw [hq] at hc;cases hc
      | some p =>
       rw [hq] at hc
       cases hc
       exact ⟨(hrY.2 j2 p v hq hv).mono (λ _ h=>h) (λ a h=>X1.cell a h),honeY v (Zyb hv)⟩
     ·rw [Zyd (by simp [hYcells];omega)] at hc
      rw [Zyd (by omega)] at hv
      have:=Zyb hc
      rw [ZzG] at this
      obtain ⟨_,rfl⟩:=this
      exact ⟨RV.any v,zone _ _ v (by rw [Zy2] at hv;exact hv)⟩)
  refine ⟨G',R2,X1.trans X2,?_⟩
  have hb2:b=w.heap.size:=by injection hp with hp;injection hp with hp;injection hp with hp;exact hp.symm
  rw [<-hb2]
  exact hb
 have hsmall:∀n,(n+ys.length)*((E.T e).bytes+1)<=140737488355328->n+ys.length<=140737488355328/\(n+ys.length)*(E.T e).bytes<=140737488355328:=λ n hn=>by
  rw [Nat.mul_add] at hn;omega
 replace hs:=RSV.litz hs
 generalize s.litz=s at h hs
 split at h
 ·rename_i ms zs
  obtain ⟨hms,hroom,hK⟩:=h
  obtain ⟨hlist,aS,haS⟩:=hs
  obtain ⟨hb1,hb2⟩:=hsmall _ hroom
  obtain ⟨aX,adX,capX,vals,hvx,haX,hcX,hmX,hcellX,helsX⟩:=RV.flat hlist
  rw [haS] at hvx
  injection hvx with e1 _ e3
  subst e1;subst e3
  have helsX':Els S w (E.T e).size zs vals:=by
   rcases hms with h | h
   ·rw [<-h];exact helsX
   ·subst h
    have:vals=[]:=Zyy (by have:=helsX.1;simpa using this)
    subst this
    exact Els.nil _
  have hrX:=ZlO helsX'
  have hge:=grownCap_ge w (zs.length+ys.length) zs.length e
  have hle:=grownCap_le_maxLen w (zs.length+ys.length) zs.length e (by simp only [maxLen];omega)
  obtain ⟨G',R1,X1,hbx⟩:=grown vals ((zs.flatMap PV.cells).map SV.val) zs.length (grownCap w (zs.length+ys.length) zs.length e) helsX'.1 (by simp [hrX.1]) (λ j c v hc hv=>by
   rw [Zyh] at hc
   cases hq:(zs.flatMap PV.cells)[j]? with
   | none=>rw [hq] at hc;cases hc
   | some p=>rw [hq] at hc;cases hc;exact ⟨hrX.2 j p v hq hv,(hcellX j v hv).2.2⟩) hge
  have hrun:(Builtin.append_ #[t,t] ty #[.slice aS zs.length zs.length,.slice (some adY) ys.length capY]).run E.P w =
    .ok (.slice (some ⟨w.heap.size,0,none⟩) (zs.length+ys.length) (grownCap w (zs.length+ys.length) zs.length e))
     (w.drew.alloc (.cells (vals.toArray++us.toArray++Builtin.zeroCells z.cells (grownCap w (zs.length+ys.length) zs.length e - (zs.length+ys.length))) e)):=by
   by_cases hz:zs=[]
   ·subst hz
    have hv0:vals=[]:=Zyy (by have:=helsX'.1;simpa using this)
    subst hv0
    cases aS with
    | none =>
     have:=run_append_nil (P:=E.P) w t ty e i z hk hi hzz adY ys.length capY us husl (λ j v hv=>(hcellY j v hv).2.1) hys (by simp at hb1;omega) (by rw [hby];simp at hb2;omega)
     simpa using this
    | some b =>
     have:=run_append_grow (P:=E.P) w t ty e i z hk hi hzz b 0 0 [] (by simp) (by simp) adY ys.length capY us husl (λ j v hv=>(hcellY j v hv).2.1) (by omega) (by simp at hb1;omega) (by rw [hby];exact growslice_fits (by omega) (by simpa using hb2))
     simpa using this
   ·have:=haX hz
    subst this
    exact run_append_grow (P:=E.P) w t ty e i z hk hi hzz adX zs.length zs.length vals (by rw [hsize];exact helsX'.1) (λ j v hv=>(hcellX j v hv).2.1) adY ys.length capY us husl (λ j v hv=>(hcellY j v hv).2.1) (by omega) (by omega) (by rw [hby];exact growslice_fits (by omega) hb2)
  refine ⟨_,_,by rw [haS];exact hrun,_,_,G',S,hK _ hge hle,?_,⟨w.heap.size,hbx,rfl,hge,hle⟩,X1⟩
  have e4:((zs++ys).flatMap PV.cells).map SV.val++List.replicate ((grownCap w (zs.length+ys.length) zs.length e - (zs.length+ys.length))*(E.T e).size) (.val .any) =
    (zs.flatMap PV.cells).map SV.val++((ys.flatMap PV.cells).map SV.val++List.replicate ((grownCap w (zs.length+ys.length) zs.length e - (zs.length+ys.length))*(E.T e).size) (.val .any)):=by simp
  rw [e4]
  exact R1
 ·rename_i id off m len cap
  obtain ⟨rfl,hroom,cells,hcells,hfit,hK1,hK2⟩:=h
  obtain ⟨hb1,hb2⟩:=hsmall _ hroom
  obtain ⟨b,hb,rfl,hlc,hcm⟩:=hs
  have hc':=getD_some hcells
  obtain ⟨⟨tb,arr,hh,hasz,har⟩,hSb⟩:=R.inv.box id b cells hc' hb
  have hlm:len*(E.T e).size<=cap*(E.T e).size:=ZyY _ hlc
  by_cases hin:len+ys.length<=cap
  ·have hcapm:len*(E.T e).size+ys.length*(E.T e).size<=cap*(E.T e).size:=by rw [<-Zzi];exact ZyY _ hin
   have husl':us.length=ys.length*(E.T e).size:=helsY.1
   have hrun:=Zlf (E:=E) (w:=w) (ty:=ty) (off:=off) (sLen:=len) (sCap:=cap) hk hi hh husl (λ j v hv=>(hcellY j v hv).2.1) (c:=capY) honeY hin (by rw [hsize,hasz];omega)
   obtain ⟨R1,X1⟩:=R.setBox (arr':=(arr.toList.take (off+len*i.size)++us++arr.toList.drop (off+len*i.size+us.length)).toArray)
    (cs':=cells.take (off+len*(E.T e).size)++((ys.flatMap PV.cells).map SV.val++cells.drop (off+len*(E.T e).size+ys.length*(E.T e).size))) hb hc' hh
    (by simp [hsize,hYcells,husl',hasz]) (λ j c v hc hv=>by
     rw [Z0o,Zy9,hsize,husl'] at hv
     have hlt1:(cells.take (off+len*(E.T e).size)).length=off+len*(E.T e).size:=by rw [ZyE];omega
     have hlt2:(arr.toList.take (off+len*(E.T e).size)).length=off+len*(E.T e).size:=by rw [ZyE,Zzk,hasz];omega
     by_cases h1:j<off+len*(E.T e).size
     ·rw [Zye (by omega),Zyx,if_pos h1] at hc
      rw [Zye (by omega),Zyx,if_pos h1,Zy2] at hv
      exact har j c v hc hv
     ·rw [Zyd (by omega),hlt1] at hc
      rw [Zyd (by omega),hlt2] at hv
      by_cases h2:j - (off+len*(E.T e).size)<us.length
      ·rw [Zye (by simp [hYcells];omega),Zyh] at hc
       rw [Zye h2] at hv
       cases hq:(ys.flatMap PV.cells)[j - (off+len*(E.T e).size)]? with
       | none=>rw [hq] at hc;cases hc
       | some p=>rw [hq] at hc;cases hc;exact ⟨hrY.2 _ p v hq hv,honeY v (Zyb hv)⟩
      ·rw [Zyd (by simp [hYcells];omega),Zy8] at hc
       rw [Zyd (by omega),Zy8,Zy2] at hv
       simp only [Zys,hYcells,husl'] at hc
       rw [husl'] at hv
       exact har _ c v hc hv)
   refine ⟨_,_,hrun,_,_,G,S,hK1 hin,R1,⟨b,hb,rfl,hin,hcm⟩,X1⟩
  ·have hge:=grownCap_ge w (len+ys.length) cap e
   have hle:=grownCap_le_maxLen w (len+ys.length) cap e (by simp only [maxLen];omega)
   have hcell:∀(j:Nat) (v:Value),((arr.toList.drop off).take (len*(E.T e).size))[j]?=some v->w.cell? ((⟨b,off,none⟩:Addr).add j)=some v:=λ j v hv=>by
    rw [Y0]
    rw [Zyx] at hv
    split at hv
    ·rw [Zy8,Zy2] at hv
     simp [World.cell?,hh,hv]
    ·cases hv
   have hol:((arr.toList.drop off).take (len*(E.T e).size)).length=len*(E.T e).size:=by rw [ZyE,ZzS,Zzk,hasz];omega
   obtain ⟨G',R1,X1,hbx⟩:=grown ((arr.toList.drop off).take (len*(E.T e).size)) ((cells.drop off).take (len*(E.T e).size)) len (grownCap w (len+ys.length) cap e) hol (by rw [hol,ZyE,ZzS];omega) (λ j c v hc hv=>by
    rw [Zyx] at hc hv
    split at hc
    ·rename_i hj
     rw [if_pos hj,Zy8,Zy2] at hv
     rw [Zy8] at hc
     exact har _ c v hc hv
    ·cases hc) hge
   have hrun:=run_append_grow (P:=E.P) w t ty e i z hk hi hzz ⟨b,off,none⟩ len cap _ (by rw [hsize];exact hol) hcell adY ys.length capY us husl (λ j v hv=>(hcellY j v hv).2.1) (by omega) (by omega) (by rw [hby];exact growslice_fits (by omega) hb2)
   exact ⟨_,_,hrun,_,_,G',S,hK2 (by omega) _ hge hle,R1,⟨w.heap.size,hbx,rfl,hge,hle⟩,X1⟩
 ·exact h.elim
end
def Fr (r:Option Nat):Fence:={ Fence.wide with round:=r }
section
variable {E:Env} {B:Nat} {S0:Addr->Prop} {w0:World} {st:St} {G:Gh} {S:Addr->Prop} {w:World} {tmps:Array Value} {r:Option Nat} {n:Nat}
theorem Rel.put (R:Rel E B S0 w0 st G S w tmps) {s:SV} {v:Value} (h:RSV st.tk G S w s v) (dst:Option Tmp) (d:List Deferred) :
  Rel E B S0 w0 (st.put dst s) G S w (({ tmps:=tmps,defers:=d }:Act).put dst v).tmps/\(({ tmps:=tmps,defers:=d }:Act).put dst v).defers=d:=by
 cases dst with
 | none=>exact ⟨R,rfl⟩
 | some t =>
  refine ⟨⟨R.inv,R.below,by simp [St.put,Act.put,R.len],λ i s' v' h1 h2=>?_⟩,rfl⟩
  simp only [St.put,ZyC] at h1
  simp only [Act.put,ZyV] at h2
  by_cases hi:t=i
  ·subst hi
   by_cases hlt:t<st.sl.length
   ·have hlt':t<tmps.size:=by rw [<-R.len];exact hlt
    simp [hlt] at h1
    simp [hlt'] at h2
    subst h1;subst h2
    exact h
   ·simp [hlt] at h1
  ·simp [hi] at h1 h2
   exact R.sl i s' v' h1 h2
theorem Zoq (R:Rel E B S0 w0 st G S w tmps) {f:FuncId} {args:List PV} {p:PV} {vs:List Value} (h:Zc E.P f args p) (hv:RVs S w args vs) {K:Act->World->Prop} {Q:Exit->Act->World->Prop} {o:Oper} {a:Act}
  (hK:∀(v:Value) (S':Addr->Prop) (w':World),Rel E B S0 w0 st G S' w' tmps->Ext st.tk G S w st.tk G S' w'->RV S' w' p v->K (a.put o.dst v) w') :
  CallsIn (Fr r) n E.P f vs.toArray w fun
   | .returned v,w''=>K (a.put o.dst v) w''
   | .panicked chain,w''=>Q (.panic chain) a w''
   | .outgrown,_=>LetsOut Q:=by
 have h1:CallsIn Fence.wide n E.P f vs.toArray w λ e w'=>∃v,e=.returned v/\Below w.heap.size w w'/\RV (ZnS S w w') w' p v:=callsIn_wide.2 (h.2 S w vs R.inv.slt hv)
 have h2:=h1.mono (R':=fun
   | .returned v,w''=>K (a.put o.dst v) w''
   | .panicked chain,w''=>Q (.panic chain) a w''
   | .outgrown,_=>LetsOut Q) (λ e w' ⟨v,he,hb,hr⟩=>by
  subst he
  obtain ⟨R1,X1⟩:=R.transport (S':=ZnS S w w') (w':=w') (λ _ h=>.inl h) (λ _ h=>h) hb
  exact hK v _ w' R1 X1 hr)
 exact h2
theorem ZtE (R:Rel E B S0 w0 st G S w tmps) {f:FuncId} {m:Nat} {xs:List PV} {p:PV} {id off len cap:Nat} {cells:List SV} {v:Value} (h:Zj0 E.P f m xs p) (hv:RSV st.tk G S w (.row id off m len cap) v) (hc:st.bx.getD id none=some cells)
  (hx:(cells.drop off).take (len*m)=(xs.flatMap PV.cells).map SV.val) (hl:xs.length=len) (hm:∀x∈xs,x.cells.length=m) {K:Act->World->Prop} {Q:Exit->Act->World->Prop} {o:Oper} {a:Act}
  (hK:∀(v:Value) (S':Addr->Prop) (w':World),Rel E B S0 w0 st G S' w' tmps->Ext st.tk G S w st.tk G S' w'->RV S' w' p v->K (a.put o.dst v) w') :
  CallsIn (Fr r) n E.P f #[v] w fun
   | .returned v,w''=>K (a.put o.dst v) w''
   | .panicked chain,w''=>Q (.panic chain) a w''
   | .outgrown,_=>LetsOut Q:=by
 obtain ⟨b,hb,rfl,hlc,hcm⟩:=hv
 have hc':=getD_some hc
 obtain ⟨⟨tb,arr,hh,hasz,har⟩,hSb⟩:=R.inv.box id b cells hc' hb
 have hxl:(xs.flatMap PV.cells).length=len*m:=by
  have hr:∀(l:List PV),(∀y∈l,y.cells.length=m)->(l.flatMap PV.cells).length=l.length*m:=by
   intro l
   induction l with
   | nil=>intro _;simp
   | cons y l ih2=>intro hy;rw [ZyW,Zyg,ih2 (λ z hz=>hy z (ZyN _ hz)),hy y ZzU,ZyM,Z0j];omega
  rw [hr xs hm,hl]
 have hcl:((cells.drop off).take (len*m)).length=len*m:=by rw [hx,Zys,hxl]
 have hfit:len*m<=cells.length - off:=by
  rw [ZyE,ZzS] at hcl;omega
 have hvl:((arr.toList.drop off).take (len*m)).length=len*m:=by rw [ZyE,ZzS,Zzk,hasz];omega
 have hcell:∀(j:Nat) (v:Value),((arr.toList.drop off).take (len*m))[j]?=some v->arr[off+j]?=some v/\j<len*m:=λ j v hv=>by
  rw [Zyx] at hv
  split at hv
  ·rename_i hj
   rw [Zy8,Zy2] at hv
   exact ⟨hv,hj⟩
  ·cases hv
 have hget:∀(j:Nat),j<len*m->∀(p:PV),(xs.flatMap PV.cells)[j]?=some p->cells[off+j]?=some (.val p):=λ j hj p hp=>by
  have:((cells.drop off).take (len*m))[j]?=some (.val p):=by rw [hx,Zyh,hp];rfl
  rw [Zyx,if_pos hj,Zy8] at this
  exact this
 have hrel:RVs S w (xs.flatMap PV.cells) ((arr.toList.drop off).take (len*m)):=⟨by rw [hxl,hvl],λ j p v hp hv=>by
  obtain ⟨q1,q2⟩:=hcell j v hv
  exact (har _ _ v (hget j q2 p hp) q1).1⟩
 have h0:=h.2 S w ⟨b,off,none⟩ cap ((arr.toList.drop off).take (len*m)) R.inv.slt (by rw [hvl,hl]) (λ j v hv=>by
  obtain ⟨q1,q2⟩:=hcell j v hv
  rw [Y0]
  have hj:j<(xs.flatMap PV.cells).length:=by rw [hxl];exact q2
  exact ⟨by simp [World.cell?,hh,q1],(har _ _ v (hget j q2 _ (Zya hj)) q1).2⟩) hrel (by rw [hl];exact hlc) hcm
 rw [hl] at h0
 have h1:CallsIn Fence.wide n E.P f #[.slice (some ⟨b,off,none⟩) len cap] w λ e w'=>∃v,e=.returned v/\Below w.heap.size w w'/\RV (ZnS S w w') w' p v:=callsIn_wide.2 h0
 have h2:=h1.mono (R':=fun
   | .returned v,w''=>K (a.put o.dst v) w''
   | .panicked chain,w''=>Q (.panic chain) a w''
   | .outgrown,_=>LetsOut Q) (λ e w' ⟨v,he,hb,hr⟩=>by
  subst he
  obtain ⟨R1,X1⟩:=R.transport (S':=ZnS S w w') (w':=w') (λ _ h=>.inl h) (λ _ h=>h) hb
  exact hK v _ w' R1 X1 hr)
 exact h2
theorem Zor (R:Rel E B S0 w0 st G S w tmps) {f:FuncId} {svs:List SV} {QR:SV->List (Option (List SV))->List (Nat × TypeId)->Ax->Prop} {vs:List Value} (h:ZV E f svs st.bx st.tk st.ax QR) (hl:svs.length=vs.length)
  (hv:∀(i:Nat) (s:SV) (v:Value),svs[i]?=some s->vs[i]?=some v->RSV st.tk G S w s v) {K:Act->World->Prop} {Q:Exit->Act->World->Prop} {o:Oper} {a:Act}
  (hK:∀(v:Value) (rv:SV) (bx':List (Option (List SV))) (tk':List (Nat × TypeId)) (ax':Ax) (G':Gh) (S':Addr->Prop) (w':World),QR rv bx' tk' ax'->Rel E B S0 w0 ⟨st.sl,bx',tk',ax'⟩ G' S' w' tmps->Ext st.tk G S w tk' G' S' w'->RSV tk' G' S' w' rv v->K (a.put o.dst v) w') :
  CallsIn (Fr r) n E.P f vs.toArray w fun
   | .returned v,w''=>K (a.put o.dst v) w''
   | .panicked chain,w''=>Q (.panic chain) a w''
   | .outgrown,_=>LetsOut Q:=by
 have h1:=callsIn_wide (n:=n).2 (h.2 B S0 w0 G S w vs R.inv R.below hl hv)
 have h2:=h1.mono (R':=fun
   | .returned v,w''=>K (a.put o.dst v) w''
   | .panicked chain,w''=>Q (.panic chain) a w''
   | .outgrown,_=>LetsOut Q) (λ e w' ⟨v,rv,bx',tk',ax',G',S',hq,he,hi,hb,hx,hr⟩=>by
  subst he
  exact hK v rv bx' tk' ax' G' S' w' hq ⟨hi,hb,R.len,λ t s v a1 a2=>RSV.mono hx (R.sl t s v a1 a2)⟩ hx hr)
 exact h2
theorem Rel.yielded (R:Rel E B S0 w0 st G S w tmps) (hB:B=0) {k':Nat} {F':Nat->Prop} {S':Addr->Prop} {w':World} (hJ:E.Y.J k' F' S' w') (hc:Below 0 w w') (hsame:∀b,b<w.heap.size->¬G.fp b->w'.heap[b]?=w.heap[b]?)
  (hF:∀b,F' b->(G.fp b\/w.heap.size<=b)/\b<w'.heap.size) (hsub:∀a,S a->S' a) (hcell:∀a,S a->Qq w w' a) (hS:∀a,S' a->(S a\/G.fp a.block\/w.heap.size<=a.block)/\a.block<w'.heap.size) :
  Rel E B S0 w0 (st.yks k') ⟨G.bx,G.tk,G.mp,F'⟩ S' w' tmps/\Ext st.tk G S w st.tk ⟨G.bx,G.tk,G.mp,F'⟩ S' w':=by
 subst hB
 have hI:=R.inv
 have hX:Ext st.tk G S w st.tk ⟨G.bx,G.tk,G.mp,F'⟩ S' w':=⟨λ _ _ h=>h,λ _ hv le h1 h2=>⟨hv,le,h1,h2,.inl ⟨rfl,rfl⟩⟩,hsub,hcell,λ _ _ h=>h,hc,λ b hb hf=>hsame b hb (λ h=>hf (.inr (.inr (.inr h)))),λ b hb hf=>by
  rcases hf with h | h | h | h
  ·exact .inl h
  ·exact .inr (.inl h)
  ·exact .inr (.inr (.inl h))
  ·rcases (hF b h).1 with h | h
   ·exact .inr (.inr (.inr h))
   ·omega,λ a ha=>by
  rcases (hS a ha).1 with h | h | h
  ·exact .inl h
  ·exact .inr (.inl (.inr (.inr (.inr h))))
  ·exact .inr (.inr h)⟩
 have htk:∀{t n cap g:Nat},G.tk[t]?=some (.slice (some ⟨g,0,none⟩) n cap)->n<cap->g<w.heap.size:=by
  intro t n cap g h1 h2
  have hl:t<st.tk.length:=by rw [<-hI.ltk];exact (ZxZ.1 h1).1
  obtain ⟨a,cap1,k1,k2,k3,k4⟩:=hI.tok t _ _ _ (Zya hl) h1
  injection k1 with k1 k5 k6
  subst k6
  rw [<-k5] at k4
  obtain ⟨g',cur,c1,c2,c3,_⟩:=k4 h2
  rw [<-k1] at c1
  injection c1 with c1
  injection c1 with c1
  rw [c1]
  exact (Zyv.1 c3).1
 refine ⟨⟨⟨ZyQ _,λ a _=>.inr (ZyQ _),λ a ha=>(hS a ha).2,hI.lbx,hI.ltk,λ i b h=>⟨ZyQ _,Zy7 (hI.old i b h).2 hc.size⟩,hI.dist,λ id b cs h1 h2=>?_,λ t n e hv h1 h2=>?_,hI.apart,hI.lmp,hI.dmp,
  λ i b h=>⟨ZyQ _,Zy7 (hI.mpo i b h).2 hc.size⟩,λ i b c h1 h2=>(hI.mpk i b c h1 h2).mono (ZbI.of_eq (hsame b (hI.mpo i b h2).2 (hI.fmp i b h2))) (λ m bm h=>⟨h,ZbI.of_eq (hsame bm (hI.mpo m bm h).2 (hI.fmp m bm h))⟩) hsub hcell (λ a ha=>by
   rcases (hS a ha).1 with h | h | h
   ·exact .inl h
   ·exact .inr (.inl λ e=>hI.fmp i b h2 (e▸h))
   ·exact .inr (.inl λ e=>by have:=(hI.mpo i b h2).2;omega)),λ b h=>(hF b h).2,λ i b h hf=>?_,λ t n cap g h1 h2 hf=>?_,λ i b h hf=>?_,hJ,hI.yl.2⟩,
  R.below.trans hc,R.len,λ t s v a1 a2=>RSV.mono hX (R.sl t s v a1 a2)⟩,hX⟩
 ·obtain ⟨⟨t',arr,b1,b2,b3⟩,b4⟩:=hI.box id b cs h1 h2
  have hlt:=(hI.old id b h2).2
  have hf:=hI.fbx id b h2
  refine ⟨⟨t',arr,(hsame b hlt hf).trans b1,b2,λ j c v a1 a2=>⟨RSV.mono hX (b3 j c v a1 a2).1,(b3 j c v a1 a2).2⟩⟩,λ a ha hab=>?_⟩
  rcases (hS a ha).1 with h | h | h
  ·exact b4 a h hab
  ·rw [hab] at h;exact hf h
  ·omega
 ·obtain ⟨a,cap,k1,k2,k3,k4⟩:=hI.tok t n e hv h1 h2
  refine ⟨a,cap,k1,k2,k3,λ hlt=>?_⟩
  obtain ⟨g,cur,c1,c2,c3,c4,c5,c6⟩:=k4 hlt
  have hg:=(Zyv.1 c3).1
  have hf:¬G.fp g:=hI.ftk t n cap g (by rw [h2,k1,c1]) hlt
  refine ⟨g,cur,c1,ZyQ _,(hsame g hg hf).trans c3,c4,λ a ha hab=>?_,c6⟩
  rcases (hS a ha).1 with h | h | h
  ·exact c5 a h hab
  ·rw [hab] at h;exact absurd h hf
  ·omega
 ·rcases (hF b hf).1 with h' | h'
  ·exact hI.fbx i b h h'
  ·have:=(hI.old i b h).2;omega
 ·rcases (hF g hf).1 with h' | h'
  ·exact hI.ftk t n cap g h1 h2 h'
  ·have:=htk h1 h2;omega
 ·rcases (hF b hf).1 with h' | h'
  ·exact hI.fmp i b h h'
  ·have:=(hI.mpo i b h).2;omega
theorem ZjF (hE:ZQ E) (R:Rel E B S0 w0 st G S w tmps) {l:Nat} {ps:List PV} {vs:List Value} {K:SV->St->Prop} (h:ZgX E l ps st K) (hv:RVs S w ps vs) {next:Act->World->Prop} {Q:Exit->Act->World->Prop} {o:Oper} {a:Act}
  (hn:∀(v:Value) (s:SV) (st':St) (G':Gh) (S':Addr->Prop) (w':World),K s st'->Rel E B S0 w0 st' G' S' w' tmps->RSV st'.tk G' S' w' s v->Ext st.tk G S w st'.tk G' S' w'->next (a.put o.dst v) w') :
  o.uponIn (Fr r) n E.P a next Q ((Instr.yield l vs.toArray).run E.P w):=by
 obtain ⟨rfl,k1,hy,h1,h2⟩:=h
 obtain ⟨fn,tm,asg,body,hrun,hR⟩:=hE.yok r (n - 1) _ k1 ps vs G.fp S w hy R.inv.yl.1 R.inv.flt R.inv.slt hv
 rw [hrun]
 refine ⟨λ h=>absurd h (by simp [Fr,Fence.wide]),hR.mono ?_⟩
 rintro e w' ⟨k',F',S',he,hJ,hc,hsame,hF,hsub,hcell,hS⟩
 have hB:B=0:=R.inv.yl.2 (λ e=>by have:=Zjs hy;rw [e] at this;cases this)
 obtain ⟨R1,X1⟩:=R.yielded hB hJ hc hsame hF hsub hcell hS
 rcases he with ⟨rfl,rfl⟩ | ⟨rfl,rfl⟩
 ·exact hn _ _ _ _ _ _ h1 R1 (RV.bool _) X1
 ·exact hn _ _ _ _ _ _ h2 R1 (RV.bool _) X1
theorem ZrF (R:Rel E B S0 w0 st G S w tmps) (d:List Deferred) {args:Array Operand} {l:List PV} (h:Zam (args.toList.map (Zp st))=some l) :
  RVs S w l (args.map ({ tmps:=tmps,defers:=d }:Act).eval).toList :=
 RSVs.pvs (tk:=st.tk) (G:=G) h (by simp) (ZeZ R d args)
theorem Zge (op:BinOp) (t:TypeId) (x y:Operand) (a b:Option Addr) (n c n' c':Nat):(eqGuard op t x y (.slice a n c) (.slice b n' c')).run E.P w=.ok () w:=by
 unfold eqGuard
 cases op<;>simp
theorem Zvl (hE:ZQ E) {b:Bool} {op:BinOp} {t:TypeId} {x:SV} {ox y:Operand} {st:St} {K:SV->St->Prop} (h:Zj1 E b t x st K) (hb:ZnX op y=some b) {vx:Value} (hx:RSV st.tk G S w x vx) (ev:Operand->Value) (hev:∀v,ev (.const v)=v) :
  ∃v,(eqGuard op t ox y vx (ev y)).run E.P w=.ok () w/\(binOp op t vx (ev y)).run E.P w=.ok v w/\∃sv,K sv st/\RSV st.tk G S w sv v:=by
 unfold Zj1 at h
 have hk:=(hE.td t).k
 split at h
 ·rename_i e m xs hke hel
  rw [hke] at hk
  have hR:=RSV.elems hx hel
  have key:∃a n cap,vx=.slice a n cap/\(a=none->xs=[]):=by
   cases hR with
   | list _ _ a ad cap g ha hcap hmax hm hc hr hz=>exact ⟨a,_,cap,rfl,λ e1=>Classical.byContradiction λ hne=>by have h9:=ha hne;rw [e1] at h9;cases h9⟩
  obtain ⟨a,n,cap,rfl,h1⟩:=key
  have hK:K (.val (.bool (if a.isNone then b else !b))) st:=by
   cases a with
   | none=>exact h.1 (h1 rfl)
   | some a=>exact h.2
  unfold ZnX at hb
  split at hb
  ·cases hb
   rw [hev]
   refine ⟨.bool a.isNone,Zge _ _ _ _ _ _ _ _ _ _,Go.Lib.run_eql_slice_nil w t e a n cap 0 0 hk,_,hK,?_⟩
   cases a<;>exact RV.bool _
  ·cases hb
   rw [hev]
   have hq:=Go.Lib.run_equalIn_slice_nil (P:=E.P) w 9999 t e a n cap 0 0 hk
   refine ⟨.bool (!a.isNone),Zge _ _ _ _ _ _ _ _ _ _,by simp only [binOp];simp [Op.equal,Op.maxDepth,hq],_,hK,?_⟩
   cases a<;>exact RV.bool _
  ·cases hb
 ·exact h.elim
theorem Zhh (hE:ZQ E) (R:Rel E B S0 w0 st G S w tmps) (o:Oper) (d:List Deferred) {dr:Bool} {K:SV->St->Prop} (h:Zcy E dr o.op st K) {next:Act->World->Prop} {Q:Exit->Act->World->Prop}
  (hn:∀(v:Value) (s:SV) (st':St) (G':Gh) (S':Addr->Prop) (w':World),K s st'->Rel E B S0 w0 st' G' S' w' tmps->RSV st'.tk G' S' w' s v->Ext st.tk G S w st'.tk G' S' w'->next (({ tmps:=tmps,defers:=d }:Act).put o.dst v) w') :
  o.wpIn (Fr r) n E.P { tmps:=tmps,defers:=d } w next Q:=by
 refine ⟨λ _ _=>trivial,?_⟩
 have plain:∀(hnd:∀c,o.op≠.defer c),Res.go (ZR E o.op st) K->o.uponIn (Fr r) n E.P { tmps:=tmps,defers:=d } next Q ((o.semAt (Fr r).round ({ tmps:=tmps,defers:=d }:Act).eval).run E.P w):=by
  intro hnd hg
  rw [Oper.semAt_eq _ _ _ hnd]
  unfold Res.go at hg
  split at hg
  ·rename_i r' hr'
   obtain ⟨nx,v,w',hrun,hnx,G',S',R',V',X'⟩:=ZwQ hE R o d r' hr' hg.1
   rw [hrun]
   rcases hnx with rfl | ⟨rfl,rfl⟩
   ·exact hn v _ _ G' S' w' hg.2 R' V' X'
   ·exact hn undef _ _ G' S' w' hg.2 R' V' X'
  ·exact hg.elim
 unfold Zcy at h
 split at h
 ·rename_i x args ts ho
  rw [Oper.semAt_eq _ _ _ (λ c hc=>by rw [ho] at hc;cases hc)]
  have hx:=R.val x d
  have hargs:=ZeZ R d args
  have hrun:∀(f:FuncId) (cvs:List Value),({ tmps:=tmps,defers:=d }:Act).eval x=.func (.func f) #[] cvs.toArray->ZaJ E.P f ->
    (execOp ({ tmps:=tmps,defers:=d }:Act).eval o).run E.P w=.ok (.enter f ((args.map ({ tmps:=tmps,defers:=d }:Act).eval).toList++cvs).toArray) w:=by
   intro f cvs hvf hen
   unfold execOp
   rw [ho]
   simp only [resolve,hvf,Deferred.ofValue,Sem.run_bind,Sem.run_pure,Result.andThen_ok,invoke,hen _ w]
   congr 2
   simp
  split at h
  ·rename_i f caps hf
   rw [hf] at hx
   generalize hvf:({ tmps:=tmps,defers:=d }:Act).eval x=vf at hx
   cases hx with
   | fn _ _ cvs hlc hc =>
    split at h
    ·rename_i l hl
     obtain ⟨p,hp,hk⟩:=h
     rw [hrun f cvs hvf hp.1]
     refine ⟨λ h=>absurd h (by simp [Fr,Fence.wide]),?_⟩
     exact Zoq R hp (RVs.append (ZrF R d (ZnW hl)) ⟨hlc,hc⟩) (λ v S' w' R' X' V'=>hn v _ _ G S' w' hk R' V' X')
    ·obtain ⟨_,h⟩:=h
     rcases h with h | ⟨hcaps,h⟩ | h
     rotate_left
     ·subst hcaps
      have hc0:cvs=[]:=Zyy hlc.symm
      subst hc0
      obtain ⟨id,off,m,len,cap,cells,xs,p,hargs1,hcells,hx1,hxl,hxm,hp,hk⟩:=h
      rw [hrun f [] hvf hp.1]
      refine ⟨λ h=>absurd h (by simp [Fr,Fence.wide]),?_⟩
      have hone:∃v,(args.map ({ tmps:=tmps,defers:=d }:Act).eval).toList=[v]:=by
       have hlen:((args.map ({ tmps:=tmps,defers:=d }:Act).eval).toList).length=1:=by
        have:=congrArg List.length hargs1
        simpa using this
       match hq:(args.map ({ tmps:=tmps,defers:=d }:Act).eval).toList,hlen with
       | [v],_=>exact ⟨v,rfl⟩
      obtain ⟨v,hv1⟩:=hone
      have hvr:=hargs 0 (.row id off m len cap) v (by rw [hargs1];rfl) (by rw [hv1];rfl)
      rw [hv1]
      exact ZtE R hp hvr hcells hx1 hxl hxm (λ v S' w' R' X' V'=>hn v _ _ G S' w' hk R' V' X')
     ·obtain ⟨QR,hp,hk⟩:=h
      rw [hrun f cvs hvf hp.1]
      refine ⟨λ h=>absurd h (by simp [Fr,Fence.wide]),?_⟩
      refine Zor R hp (by simp [hlc]) (λ i s v a1 a2=>?_) (λ v rv bx' tk' ax' G' S' w' hq R' X' V'=>hn v rv ⟨st.sl,bx',tk',ax'⟩ G' S' w' (hk _ _ _ _ hq) R' V' X')
      by_cases hi:i<args.size
      ·rw [Zye (by simpa using hi)] at a1 a2
       exact hargs i s v a1 (by simpa using a2)
      ·rw [Zyd (by simp;omega)] at a1 a2
       simp only [Zys,Zzk,Array.size_map] at a1 a2
       rw [Zyh] at a1
       cases hq:caps[i - args.size]? with
       | none=>rw [hq] at a1;cases a1
       | some c =>
        rw [hq] at a1
        simp only [Zy5,Zyu] at a1
        subst a1
        exact hc _ c v hq a2
     obtain ⟨st',l',ps,hF,hps,p,hp,hk⟩:=h
     obtain ⟨S',R1,X1,hl1,V1⟩:=hF.ok (vs:=(args.map ({ tmps:=tmps,defers:=d }:Act).eval).toList) R (by simpa using hargs)
     have hlen:l'.length=((args.map ({ tmps:=tmps,defers:=d }:Act).eval).toList).length:=by rw [hl1];simp
     have hrvs:=RSVs.pvs (tk:=st'.tk) (G:=G) hps hlen V1
     have hcap:RVs S' w caps cvs:=RVs.mono X1.sub X1.cell ⟨hlc,hc⟩
     rw [hrun f cvs hvf hp.1]
     refine ⟨λ h=>absurd h (by simp [Fr,Fence.wide]),?_⟩
     exact Zoq R1 hp (RVs.append hrvs hcap) (λ v S'' w' R' X' V'=>hn v _ _ G S'' w' hk R' V' (X1.trans X'))
  ·rename_i f caps hf
   rw [hf] at hx
   obtain ⟨_,QR,hp,hk⟩:=h
   obtain ⟨cvs,hvf,hlc,hc⟩:=hx
   rw [hrun f cvs hvf hp.1]
   refine ⟨λ h=>absurd h (by simp [Fr,Fence.wide]),?_⟩
   refine Zor R hp (by simp [hlc]) (λ i s v a1 a2=>?_) (λ v rv bx' tk' ax' G' S' w' hq R' X' V'=>hn v rv ⟨st.sl,bx',tk',ax'⟩ G' S' w' (hk _ _ _ _ hq) R' V' X')
   by_cases hi:i<args.size
   ·rw [Zye (by simpa using hi)] at a1 a2
    exact hargs i s v a1 (by simpa using a2)
   ·rw [Zyd (by simp;omega)] at a1 a2
    simp only [Zys,Zzk,Array.size_map] at a1 a2
    rw [Zyh] at a1
    cases hq:caps[i - args.size]? with
    | none=>rw [hq] at a1;cases a1
    | some c =>
     rw [hq] at a1
     simp only [Zy5,Zyu] at a1
     subst a1
     have:=hc _ c v hq a2
     cases c<;>exact this
  ·rename_i l hf
   rw [hf] at hx
   generalize hvf:({ tmps:=tmps,defers:=d }:Act).eval x=vf at hx
   cases hx with
   | yld _ =>
    have hry:(execOp ({ tmps:=tmps,defers:=d }:Act).eval o).run E.P w=(Instr.yield l (args.map ({ tmps:=tmps,defers:=d }:Act).eval)).run E.P w:=by
     unfold execOp
     rw [ho]
     simp only [resolve,hvf,Deferred.ofValue,Sem.run_bind,Sem.run_pure,Result.andThen_ok,invoke]
     simp
    rw [hry]
    split at h
    ·rename_i ps hps
     have:=ZjF (r:=r) (n:=n) (Q:=Q) (o:=o) (a:={ tmps:=tmps,defers:=d }) (next:=next) hE R h.2 (ZrF R d hps) hn
     rw [ZzJ] at this
     exact this
    ·obtain ⟨_,st',l',ps,hF,hps,hy⟩:=h
     obtain ⟨S',R1,X1,hl1,V1⟩:=hF.ok (vs:=(args.map ({ tmps:=tmps,defers:=d }:Act).eval).toList) R (by simpa using hargs)
     have hlen:l'.length=((args.map ({ tmps:=tmps,defers:=d }:Act).eval).toList).length:=by rw [hl1];simp
     have hrvs:=RSVs.pvs (tk:=st'.tk) (G:=G) hps hlen V1
     have:=ZjF (r:=r) (n:=n) (Q:=Q) (o:=o) (a:={ tmps:=tmps,defers:=d }) (next:=next) hE R1 hy hrvs (λ v s st2 G2 S2 w2 hk R2 V2 X2=>hn v s st2 G2 S2 w2 hk R2 V2 (X1.trans X2))
     rw [ZzJ] at this
     exact this
  ·exact h.elim
 ·rename_i args ts ho
  split at h
  ·obtain ⟨_,h⟩:=h
   rw [Oper.semAt_eq _ _ _ (λ c hc=>by rw [ho] at hc;cases hc)]
   obtain ⟨v,w',hrun,sv,st',G',S',hk,R',V',X'⟩:=Zvk hE R h (vs:=(args.map ({ tmps:=tmps,defers:=d }:Act).eval).toList) (by simp) (by simpa using ZeZ R d args) o.type
   have hex:(execOp ({ tmps:=tmps,defers:=d }:Act).eval o).run E.P w=.ok (.value v) w':=by
    unfold execOp
    rw [ho]
    simp only [ZzJ] at hrun
    simp [resolve,invoke,builtin,hrun]
   rw [hex]
   exact hn v _ _ G' S' w' hk R' V' X'
  ·refine plain (λ c hc=>?_) h
   rw [hc] at ho
   cases ho
 ·rename_i x ho
  obtain ⟨_,h⟩:=h
  rw [Oper.semAt_eq _ _ _ (λ c hc=>by rw [ho] at hc;cases hc)]
  obtain ⟨v,w',hrun,sv,st',hk,R',V',X'⟩:=Zvj R h (R.val x d) o.type
  have hex:(execOp ({ tmps:=tmps,defers:=d }:Act).eval o).run E.P w=.ok (.value v) w':=by
   unfold execOp
   rw [ho]
   simp [hrun,Result.andThen]
  rw [hex]
  exact hn v _ _ G S w' hk R' V' X'
 ·rename_i t m x ho
  obtain ⟨_,h⟩:=h
  rw [Oper.semAt_eq _ _ _ (λ c hc=>by rw [ho] at hc;cases hc)]
  obtain ⟨v,w',hrun,sv,st',hk,R',V',X'⟩:=Zop hE R h (R.val m d) (R.val x d)
  have hex:(execOp ({ tmps:=tmps,defers:=d }:Act).eval o).run E.P w=.ok (.value v) w':=by
   unfold execOp
   rw [ho]
   simp [hrun,Result.andThen]
  rw [hex]
  exact hn v _ _ G S w' hk R' V' X'
 ·rename_i op t x y u ho
  split at h
  ·rename_i b hb
   obtain ⟨_,h⟩:=h
   rw [Oper.semAt_eq _ _ _ (λ c hc=>by rw [ho] at hc;cases hc)]
   obtain ⟨v,hgr,hrun,sv,hk,V'⟩:=Zvl (ox:=x) (y:=y) hE h hb (R.val x d) ({ tmps:=tmps,defers:=d }:Act).eval (λ _=>rfl)
   have hex:(execOp ({ tmps:=tmps,defers:=d }:Act).eval o).run E.P w=.ok (.value v) w:=by
    unfold execOp
    rw [ho]
    simp [hgr,hrun,Result.andThen]
   rw [hex]
   exact hn v _ _ G S w hk R V' (Ext.refl _ _ _ _)
  ·rw [<-ho] at h
   exact plain (λ c hc=>by rw [ho] at hc;cases hc) h
 ·rename_i hne1 hne2 hne3 hne4 hne5
  refine plain (λ c hc=>?_) h
  rw [hc] at h
  exact h
theorem ZhN (m:St) (d:Option Tmp) (v:SV):(m.put d v).tk=m.tk:=by cases d<;>rfl
theorem Zos (hE:ZQ E) {ops:Array Oper} {i:Nat} {o:Oper} (ho:ops[i]?=some o) {dr:Bool} {K:St->Prop} {Kont:Act->World->Prop} {Q:Exit->Act->World->Prop} (d:List Deferred) {tk0:List (Nat × TypeId)} {G0:Gh} {S1:Addr->Prop} {w1:World}
  (h:Zbb E dr ops.toList [o] st K) (R:Rel E B S0 w0 st G S w tmps) (X:Ext tk0 G0 S1 w1 st.tk G S w)
  (hK:∀(st':St) (G':Gh) (S':Addr->Prop) (w':World) (tmps':Array Value),K st'->Rel E B S0 w0 st' G' S' w' tmps'->Ext tk0 G0 S1 w1 st'.tk G' S' w'->Kont { tmps:=tmps',defers:=d } w') :
  wpOpIn (Fr r) n E.P ops Q i Kont { tmps:=tmps,defers:=d } w:=by
 have go:∀(v:Value) (s:SV) (st':St) (G':Gh) (S':Addr->Prop) (w':World),K (st'.put o.dst s)->Rel E B S0 w0 st' G' S' w' tmps->RSV st'.tk G' S' w' s v->Ext tk0 G0 S1 w1 st'.tk G' S' w' ->
   Kont (({ tmps:=tmps,defers:=d }:Act).put o.dst v) w':=by
  intro v s st' G' S' w' hk R' V' X'
  obtain ⟨R2,hd⟩:=R'.put V' o.dst d
  have hact:({ tmps:=tmps,defers:=d }:Act).put o.dst v={ tmps:=(({ tmps:=tmps,defers:=d }:Act).put o.dst v).tmps,defers:=d }:=by
   cases hq:({ tmps:=tmps,defers:=d }:Act).put o.dst v with
   | mk t ds=>rw [hq] at hd;simp only at hd;rw [hd]
  rw [hact]
  exact hK _ G' S' w' _ hk R2 (by rw [ZhN];exact X')
 simp only [wpOpIn,ho]
 simp only [Zbb] at h
 split at h
 ·rename_i hg
  rw [if_pos (by simp [Region.wanted,hg])]
  exact Zhh hE R o d h (λ v s st' G' S' w' hk R' V' X'=>go v s st' G' S' w' hk R' V' (X.trans X'))
 ·rename_i j want hg
  split at h
  ·exact h.elim
  ·rename_i t ht
   have hty:(ops[j]?).bind (·.dst)=some t:=by simpa [ZgY] using ht
   split at h
   ·rename_i hu
    have hno:Region.wanted o (yielded ops tmps)=false:=by
     simp only [Region.wanted,hg,yielded,hty,Z0F]
     by_cases hlt:t<st.sl.length
     ·have hlt':t<tmps.size:=by rw [<-R.len];exact hlt
      have hs:st.sl[t]?=some .undef:=by
       rw [Zyj,Zya hlt] at hu
       rw [Zya hlt]
       simpa using hu
      have hv:=R.sl t _ _ hs (Zyn hlt')
      rw [Zyn hlt',show tmps[t]=undef from hv]
      rfl
     ·have hlt':¬t<tmps.size:=by rw [<-R.len];exact hlt
      rw [Zzb (Z0c hlt')]
      rfl
    rw [if_neg (by rw [hno];simp)]
    exact ⟨λ _ _=>trivial,go undef .undef st G S w h R rfl X⟩
   ·rename_i b hb
    have hlt:t<st.sl.length:=by
     rcases Zy6 t st.sl.length with h' | h'
     ·exact h'
     ·rw [Zyj,Zyw h'] at hb;cases hb
    have hlt':t<tmps.size:=by rw [<-R.len];exact hlt
    have hs:st.sl[t]?=some (.val (.bool b)):=by
     rw [Zyj,Zya hlt] at hb
     rw [Zya hlt]
     simpa using hb
    have hv:tmps[t]=.bool b:=RV.bool_inv (R.sl t _ _ hs (Zyn hlt'))
    have hyl:yielded ops tmps j=some b:=by
     simp only [yielded,hty,Z0F,Zyn hlt',hv]
    have hput:∀b',b=b'->st.put (some t) (.val (.bool b'))=st:=by
     intro b' e
     subst e
     have:st.sl.set t (.val (.bool b))=st.sl:=by
      apply ZyS
      intro i
      rw [ZyC]
      split
      ·rename_i hi;subst hi;rw [hs]
      ·rfl
     simp [St.put,this]
    by_cases hbw:b=want
    ·rw [if_pos (by simp [Region.wanted,hg,hyl,hbw])]
     have h1:=h.1 hbw
     rw [hput want hbw] at h1
     exact Zhh hE R o d h1 (λ v s st' G' S' w' hk R' V' X'=>go v s st' G' S' w' hk R' V' (X.trans X'))
    ·rw [if_neg (by simp [Region.wanted,hg,hyl,hbw])]
     have hbn:b=!want:=by cases b<;>cases want<;>simp_all
     have h1:=h.2 hbn
     rw [hput (!want) hbn] at h1
     exact ⟨λ _ _=>trivial,go undef .undef st G S w h1 R rfl X⟩
   ·exact h.elim
theorem ZjG (hE:ZQ E) (ops:Array Oper) {K:St->Prop} {Q:Exit->Act->World->Prop} (d:List Deferred) {tk0:List (Nat × TypeId)} {G0:Gh} {S1:Addr->Prop} {w1:World}
  (hQ:∀(st':St) (G':Gh) (S':Addr->Prop) (w':World) (tmps':Array Value),K st'->Rel E B S0 w0 st' G' S' w' tmps'->Ext tk0 G0 S1 w1 st'.tk G' S' w'->Q .normal { tmps:=tmps',defers:=d } w') :
  ∀(fuel:Nat) (listed:Array Bool) (st:St) (G:Gh) (S:Addr->Prop) (w:World) (tmps:Array Value),ZeC E ops fuel listed st K->Rel E B S0 w0 st G S w tmps->Ext tk0 G0 S1 w1 st.tk G S w ->
   wpAnyIn (Fr r) n E.P .any ops Q fuel listed { tmps:=tmps,defers:=d } w
 | 0,listed,st,G,S,w,tmps,h,R,X=>by
  simp only [ZeC] at h
  split at h
  ·rename_i h0;exact ⟨h0,hQ st G S w tmps h R X⟩
  ·exact h.elim
 | fuel+1,listed,st,G,S,w,tmps,h,R,X=>by
  simp only [ZeC] at h
  split at h
  ·rename_i h0
   refine ⟨λ _=>hQ st G S w tmps h R X,λ i hi=>?_⟩
   rw [h0] at hi;cases hi
  ·rename_i i0 rest h0
   refine ⟨λ e=>(by rw [e] at h0;cases h0),λ i hi=>?_⟩
   rw [h0] at hi
   have h1:=ZnY h i hi
   split at h1
   ·exact h1.elim
   ·rename_i o ho
    exact Zos hE ho d h1 R X λ st' G' S' w' tmps' hk R' X'=>ZjG hE ops d hQ fuel _ st' G' S' w' tmps' hk R' X'
theorem Zot (hE:ZQ E) (ops:Array Oper) {dr:Bool} {K:St->Prop} {Q:Exit->Act->World->Prop} (d:List Deferred) {tk0:List (Nat × TypeId)} {G0:Gh} {S1:Addr->Prop} {w1:World} :
  ∀(l:List Oper) (k:Nat) (st:St) (G:Gh) (S:Addr->Prop) (w:World) (tmps:Array Value),(∀j,l[j]?=ops[k+j]?)->Zbb E dr ops.toList l st K->Rel E B S0 w0 st G S w tmps->Ext tk0 G0 S1 w1 st.tk G S w ->
   (∀(st':St) (G':Gh) (S':Addr->Prop) (w':World) (tmps':Array Value),K st'->Rel E B S0 w0 st' G' S' w' tmps'->Ext tk0 G0 S1 w1 st'.tk G' S' w'->Q .normal { tmps:=tmps',defers:=d } w') ->
   wpOpsIn (Fr r) n E.P ops Q (List.range' k l.length) { tmps:=tmps,defers:=d } w
 | [],k,st,G,S,w,tmps,_,h,R,X,hQ=>hQ st G S w tmps h R X
 | o::rest,k,st,G,S,w,tmps,hl,h,R,X,hQ=>by
  have ho:ops[k]?=some o:=by simpa using (hl 0).symm
  have hl':∀j,rest[j]?=ops[k+1+j]?:=λ j=>by have:=hl (j+1);simpa [Zz6,Zz2 1 j] using this
  have go:∀(v:Value) (s:SV) (st':St) (G':Gh) (S':Addr->Prop) (w':World),Zbb E dr ops.toList rest (st'.put o.dst s) K->Rel E B S0 w0 st' G' S' w' tmps->RSV st'.tk G' S' w' s v->Ext tk0 G0 S1 w1 st'.tk G' S' w' ->
    wpOpsIn (Fr r) n E.P ops Q (List.range' (k+1) rest.length) (({ tmps:=tmps,defers:=d }:Act).put o.dst v) w':=by
   intro v s st' G' S' w' hk R' V' X'
   obtain ⟨R2,hd⟩:=R'.put V' o.dst d
   have hact:({ tmps:=tmps,defers:=d }:Act).put o.dst v={ tmps:=(({ tmps:=tmps,defers:=d }:Act).put o.dst v).tmps,defers:=d }:=by
    cases hq:({ tmps:=tmps,defers:=d }:Act).put o.dst v with
    | mk t ds=>rw [hq] at hd;simp only at hd;rw [hd]
   rw [hact]
   exact Zot hE ops d rest (k+1) _ G' S' w' _ hl' hk R2 (by rw [ZhN];exact X') hQ
  simp only [ZyM,List.range'_succ,wpOpsIn,ho]
  simp only [Zbb] at h
  split at h
  ·rename_i hg
   rw [if_pos (by simp [Region.wanted,hg])]
   exact Zhh hE R o d h (λ v s st' G' S' w' hk R' V' X'=>go v s st' G' S' w' hk R' V' (X.trans X'))
  ·rename_i j want hg
   split at h
   ·exact h.elim
   ·rename_i t ht
    have hty:(ops[j]?).bind (·.dst)=some t:=by simpa [ZgY] using ht
    split at h
    ·rename_i hu
     have hno:Region.wanted o (yielded ops tmps)=false:=by
      simp only [Region.wanted,hg,yielded,hty,Z0F]
      by_cases hlt:t<st.sl.length
      ·have hlt':t<tmps.size:=by rw [<-R.len];exact hlt
       have hs:st.sl[t]?=some .undef:=by
        rw [Zyj,Zya hlt] at hu
        rw [Zya hlt]
        simpa using hu
       have hv:=R.sl t _ _ hs (Zyn hlt')
       rw [Zyn hlt',show tmps[t]=undef from hv]
       rfl
      ·have hlt':¬t<tmps.size:=by rw [<-R.len];exact hlt
       rw [Zzb (Z0c hlt')]
       rfl
     rw [if_neg (by rw [hno];simp)]
     exact ⟨λ _ _=>trivial,go undef .undef st G S w h R rfl X⟩
    ·rename_i b hb
     have hlt:t<st.sl.length:=by
      rcases Zy6 t st.sl.length with h' | h'
      ·exact h'
      ·rw [Zyj,Zyw h'] at hb;cases hb
     have hlt':t<tmps.size:=by rw [<-R.len];exact hlt
     have hs:st.sl[t]?=some (.val (.bool b)):=by
      rw [Zyj,Zya hlt] at hb
      rw [Zya hlt]
      simpa using hb
     have hv:tmps[t]=.bool b:=RV.bool_inv (R.sl t _ _ hs (Zyn hlt'))
     have hyl:yielded ops tmps j=some b:=by
      simp only [yielded,hty,Z0F,Zyn hlt',hv]
     have hput:∀b',b=b'->st.put (some t) (.val (.bool b'))=st:=by
      intro b' e
      subst e
      have:st.sl.set t (.val (.bool b))=st.sl:=by
       apply ZyS
       intro i
       rw [ZyC]
       split
       ·rename_i hi;subst hi;rw [hs]
       ·rfl
      simp [St.put,this]
     by_cases hbw:b=want
     ·rw [if_pos (by simp [Region.wanted,hg,hyl,hbw])]
      have h1:=h.1 hbw
      rw [hput want hbw] at h1
      exact Zhh hE R o d h1 (λ v s st' G' S' w' hk R' V' X'=>go v s st' G' S' w' hk R' V' (X.trans X'))
     ·rw [if_neg (by simp [Region.wanted,hg,hyl,hbw])]
      have hbn:b=!want:=by cases b<;>cases want<;>simp_all
      have h1:=h.2 hbn
      rw [hput (!want) hbn] at h1
      exact ⟨λ _ _=>trivial,go undef .undef st G S w h1 R rfl X⟩
    ·exact h.elim
theorem Zvm {a:Act} {d:List Deferred} (h:a.defers=d):a={ tmps:=a.tmps,defers:=d }:=by cases a;simp at h;subst h;rfl
theorem Zfa (R:Rel E B S0 w0 st G S w tmps) (t:Nat):RSV st.tk G S w (st.sl.getD t .undef) (tmps.getD t undef):=by
 have:=R.val (.tmp t) []
 simpa [Zp,Act.eval] using this
end
end Go.Abs
