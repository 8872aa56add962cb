/- Contracts of the functions, and what they rest on: part 8. -/
import Derived.Test.YtcafjndjnfdnpaaGreatU7
set_option linter.unusedVariables false
set_option linter.unusedSimpArgs false
namespace Go.Abs
open Go.RowKit Go.Proofs
def pathCells (t:Tables) (s:List Change) (p:Path):List Cell:=cellsOf t s (staysP t p)
def cntC (css:List (List Cell)) (c:Cell):Nat:=(css.filter fun l=>decide (c∈l)).length
def cntO (n:Nat):Option Int:=if n=0 then none else some (n:Int)
def CntOk (es:List (Cell × Int)) (css:List (List Cell)):Prop:=NodM es∧∀c,lookM es c=cntO (cntC css c)
def cntErr (t:Tables) (s:List Change) (cl:Int) (l:List Path):Int:=if capErr t s≠0 then capErr t s else if cl<0∨(t.Kinds.length:Int)≤cl then 200 else stErr t l
theorem cntC_snoc (css:List (List Cell)) (L:List Cell) (c:Cell):cntC (css++[L]) c=cntC css c+if c∈L then 1 else 0:=by
 unfold cntC
 rw [List.filter_append,List.length_append]
 by_cases h:c∈L
 ·simp [h]
 ·simp [h]
theorem cntC_le (css:List (List Cell)) (c:Cell):cntC css c≤css.length:=List.length_filter_le _ _
def cloCt (n:Nat):Bool:=n == 9000000 || n == 1000020
def cntQ (t:Tables) (s:List Change) (cl:Int) (l:List Path) (bx:List (Option (List SV))) (r:SV) (bx':List (Option (List SV))) (tk':List (Nat × TypeId)) (ax':Ax):Prop :=
 bx'=bx∧tk'=[]∧((cntErr t s cl l≠0∧r=.val (.tup [.map [] [],.int .i64 (cntErr t s cl l)])∧ax'=⟨[],0⟩) ∨
  (cntErr t s cl l=0∧r=.mtup 0 [.int .i64 0]∧∃es,CntOk es (l.map (pathCells t s))∧ax'=⟨[.ents (encM encCell encInt es) none],0⟩))
set_option maxRecDepth 40000 in
set_option maxHeartbeats 4000000 in
theorem dm_counted (t:Tables) (s:List Change) (cl:Int) (l:List Path) (c0 c1:List SV) (hc0:∀c∈c0,∃p,c=.val p) (hc1:∀c∈c1,∃p,c=.val p) {xs:List PV} (hx:xs=encPaths l) (hlen:l.length≤1000000) :
  CallsR ⟨Tryz.prog,tab,cloCt,true,.none⟩ 216 [.val (encTables t),.val (encScheme s),.val (.int .i64 cl),.val (.list 2 xs)] [some c0,some c1] [] ⟨[],0⟩ (cntQ t s cl l [some c0,some c1]):=by
 refine callsR_by (clo:=cloCt) (rows:=true) env_ok Tryz.func216 rfl (enters_of Tryz.func216 (by kernel_rfl) rfl) (by intro h;simp at h) (fun A P Y nb R hA hnb hR=>?_)
 have hck:=cap_Check t s
 have hst:=fun p=>occ_Stays t p
 have hxl:xs.length=l.length:=by rw [hx];simp [encPaths]
 have hin:∀M:List MapC,([some c0,some c1]:List (Option (List SV))).all (fun o=>match o with | none=>true | some cs=>cs.all (SV.within 2 M.length 0))=true:=fun M=>by
  have h:∀cs:List SV,(∀c∈cs,∃p,c=.val p)→cs.all (SV.within 2 M.length 0)=true:=fun cs h=>by
   rw [List.all_eq_true]
   intro c hc
   obtain ⟨p,rfl⟩:=h c hc
   rfl
  simp [h c0 hc0,h c1 hc1]
 have hinN:∀(a b:Nat) (r:List (Option (List SV))),2≤a→r.all (fun o=>match o with | none=>true | some cs=>cs.all (SV.within a b 0))=true→(some c0::some c1::r).all (fun o=>match o with | none=>true | some cs=>cs.all (SV.within a b 0))=true:=fun a b r _ hr=>by
  have h:∀cs:List SV,(∀c∈cs,∃p,c=.val p)→cs.all (SV.within a b 0)=true:=fun cs h=>by
   rw [List.all_eq_true]
   intro c hc
   obtain ⟨p,rfl⟩:=h c hc
   rfl
  rw [List.all_cons,List.all_cons,hr]
  simp [h c0 hc0,h c1 hc1]
 have hretE:∀(sl:List SV) (B:List (Option (List SV))) (M:List MapC) (e:Int),leL sl (((List.replicate 70 (SV.val .any)).set 8 (.val (.map [] []))).set 9 (.val (.int .i64 e)))→e≠0→e=cntErr t s cl l→R ⟨sl,[some c0,some c1]++B,[],⟨M,0⟩⟩:=fun sl B M e h1 h2 h3=>by
  refine hR _ ⟨_,_,wk_round (bx:=[some c0,some c1]) (bx':=B) (mp:=[]) (mp':=M) h1 (by rw [hnb];simp) (.inr ⟨by rw [hnb];simp,rfl⟩) rfl (hin []),.inl ⟨_,rfl,by (conv=>cbv);first | exact ⟨trivial,rfl⟩ | rfl⟩,rfl,rfl,.inl ⟨by rw [←h3];exact h2,by rw [←h3];rfl,rfl⟩⟩
 have hretO:∀(sl:List SV) (B:List (Option (List SV))) (es:List (Cell × Int)),leL sl (((List.replicate 70 (SV.val .any)).set 8 (.mp 0)).set 9 (.val (.int .i64 0)))→cntErr t s cl l=0→CntOk es (l.map (pathCells t s))→R ⟨sl,[some c0,some c1]++B,[],⟨[.ents (encM encCell encInt es) none],0⟩⟩:=fun sl B es h1 h2 h3=>by
  refine hR _ ⟨_,_,wk_round (bx:=[some c0,some c1]) (bx':=B) (mp:=[_]) (mp':=[]) h1 (by rw [hnb];simp) (.inl rfl) rfl (hin [_]),.inr (.inr ⟨_,0,_,_,_,_,rfl,rfl,rfl,by first | trivial | exact ⟨trivial,trivial⟩,rfl⟩),rfl,rfl,.inr ⟨h2,rfl,es,h3,rfl⟩⟩
 clear hR
 obtain ⟨ss,hss⟩:∃ss,ss=encSectors t.Sectors:=⟨_,rfl⟩
 obtain ⟨cs,hcs⟩:∃cs,cs=encConfigs t.Configs:=⟨_,rfl⟩
 obtain ⟨ws,hws⟩:∃ws,ws=encWays t.Ways:=⟨_,rfl⟩
 obtain ⟨ms,hms⟩:∃ms,ms=encIntLs t.Modes:=⟨_,rfl⟩
 obtain ⟨ks,hks⟩:∃ks,ks=encKinds t.Kinds:=⟨_,rfl⟩
 obtain ⟨nv,hnv⟩:∃nv,nv=t.Volumes:=⟨_,rfl⟩
 have htab:encTables t=.agg [.int .i64 nv,.list 5 ss,.list 3 cs,.list 3 ws,.list 1 ms,.list 6 ks]:=by rw [encTables_eq t hss hcs hws hms hks,hnv]
 rw [htab] at hck hst ⊢
 have hkl:ks.length=t.Kinds.length:=by rw [hks];simp [encKinds]
 obtain ⟨sc,hsc⟩:∃sc,sc=encChanges s:=⟨_,rfl⟩
 rw [encScheme_eq hsc] at hck ⊢
 subst hnb
 conv=>cbv
 refine callI hA hck rfl (fun r hr=>?_)
 conv=>cbv
 split
 ·rename_i hc
  have h1:=neT hA hc
  conv=>cbv
  subst hr
  exact hretE _ [_,_] [] _ (by repeat (first | refine leL_any ?_ | refine leL_same ?_ | exact leL_nil)) h1 (by unfold cntErr;rw [if_pos h1])
 rename_i hc
 have h1:=neF hA hc
 rw [hr] at h1
 have hE:cntErr t s cl l=if cl<0∨(t.Kinds.length:Int)≤cl then 200 else stErr t l:=by unfold cntErr;rw [if_neg (by simp [h1])]
 rw [hE] at hretE hretO
 have hret2:cl<0∨(t.Kinds.length:Int)≤cl→(200:Int)=if cl<0∨(t.Kinds.length:Int)≤cl then 200 else stErr t l:=fun h=>by rw [if_pos h]
 conv=>cbv
 split
 ·rename_i hc
  have g1:=ltT hA hc
  conv=>cbv
  exact hretE _ [_,_] [] _ (by repeat (first | refine leL_any ?_ | refine leL_same ?_ | exact leL_nil)) (by decide) (hret2 (.inl g1))
 rename_i g1;replace g1:=ltF hA g1
 conv=>cbv
 split
 ·rename_i hc
  have g2:=leT' hA (lenI hA hkl) rfl hc
  conv=>cbv
  exact hretE _ [_,_] [] _ (by repeat (first | refine leL_any ?_ | refine leL_same ?_ | exact leL_nil)) (by decide) (hret2 (.inr g2))
 rename_i g2;replace g2:=leF' hA (lenI hA hkl) rfl g2
 rw [if_neg (by omega)] at hretE hretO
 clear hret2
 conv=>cbv
 refine loop_set hA (fun (z:Int × List (PV × PV)) s=>{ ((s.put (some 35) (.val (.int .i64 z.1))).put (some 8) (.mp 0)) with ax:=⟨[.ents z.2 none],s.ax.yk⟩ })
  (fun z=>0≤z.1∧z.1≤l.length∧stErr t (l.take z.1.toNat)=0∧∃es,z.2=encM encCell encInt es∧CntOk es ((l.take z.1.toNat).map (pathCells t s))) (fun z=>(l.length - z.1).toNat) (0,[]) ?_ ?_ ?_
 ·conv=>cbv
  exact wk_sl (by repeat (first | refine leL_same ?_ | refine leL_any ?_ | exact leL_nil))
 ·exact ⟨Int.le_refl _,by omega,rfl,[],rfl,by simp [NodM],fun c=>rfl⟩
 rintro R2 ⟨i,m⟩ ⟨hi0,hi1,hi2,es,hm,hes⟩ hR2
 simp only at hi0 hi1 hi2 hm hes
 conv=>cbv
 split
 rotate_left
 ·rename_i hc
  have hi:i=l.length:=by have:=ltF' hA rfl (lenI hA hxl) hc;omega
  rw [List.take_of_length_le (show l.length≤i.toNat by omega)] at hi2 hes
  subst hm
  have hO:=fun sl B h=>hretO sl B es h hi2 hes
  generalize encM encCell encInt es=m at hO
  conv=>cbv
  exact hO _ [_,_] (by repeat (first | refine leL_any ?_ | refine leL_same ?_ | exact leL_nil))
 rename_i hc
 have hi:i<l.length:=ltT' hA rfl (lenI hA hxl) hc
 have his:A.iAdd i 1=i+1:=addI hA _ _
 conv=>cbv
 refine idx_Path hA hx hi0 hi (fun p v hp hv=>?_)
 have ht:=take_snoc' hi0 hp
 have hst1:=hst p
 rw [encPath_eq p hv] at hst1
 have hset:stErr t (l.take (i+1).toNat)=stErr1 t p:=by
  rw [ht,stErr_append t _ _ hi2]
  unfold stErr
  split
  ·rename_i h;rw [h];rfl
  ·rfl
 have hsta:stErr1 t p≠0→stErr t l=stErr1 t p:=fun h=>by
  have hll:=List.getElem?_eq_some_iff.1 hp
  conv=>lhs;rw [←List.take_append_drop i.toNat l,List.drop_eq_getElem_cons hll.1,hll.2]
  rw [stErr_append t _ _ hi2]
  unfold stErr
  rw [if_neg h]
 obtain ⟨sy,hsy⟩:∃sy,sy=encStays (staysP t p):=⟨_,rfl⟩
 have hsyl:stErr1 t p=0→(staysP t p).length≤10:=staysP_len
 have hres:stRes1 t p=if stErr1 t p=0 then .list 4 sy else .list 0 []:=by rw [hsy];rfl
 rw [hres] at hst1
 clear hres
 have hseq:=fun h=>dm_cells1 t s (staysP t p) htab hsc hsy h
 have hpc:cellsOf t s (staysP t p)=pathCells t s p:=rfl
 have hset2:(l.take (i+1).toNat).map (pathCells t s)=(l.take i.toNat).map (pathCells t s)++[pathCells t s p]:=by rw [ht];simp
 rw [hpc] at hseq
 generalize pathCells t s p=L at hseq hset2
 generalize stErr1 t p=e1 at hst1 hset hsta hsyl
 obtain ⟨p1,p2⟩:=p
 simp only at hst1
 by_cases g3:e1=0
 rotate_left
 ·rw [if_neg g3] at hst1
  conv=>cbv
  refine call_intro hA hst1 ?_
  conv=>cbv
  split
  ·rename_i hc
   conv=>cbv
   exact hretE _ [_,_,_] [_] _ (by repeat (first | refine leL_any ?_ | refine leL_same ?_ | exact leL_nil)) g3 (hsta g3).symm
  ·rename_i hc
   exact absurd (neF hA hc) g3
 rw [if_pos g3] at hst1
 subst g3
 have hsyl:=hsyl rfl
 conv=>cbv
 refine call_intro hA hst1 ?_
 conv=>cbv
 split
 ·rename_i hc
  cases ((neT hA hc rfl))
 conv=>cbv
 refine call_intro hA (dm_cells nv ss cs ws ms ks sc sy) ?_
 conv=>cbv
 refine rng_intro hA (hseq (by omega)) (fun x hx=>?_) (fun (y:List (PV × PV)) s=>{ s with ax:=⟨[.ents m none,.ents y none],s.ax.yk⟩ })
  (fun k y=>∃hs:List (Cell × Unit),y=encM encCell (fun _=>.bool true) hs∧NodM hs∧∀c,hasM hs c=decide (c∈L.take k)) [] (fun _=>rfl) ?_ ?_ ?_ ?_
 ·obtain ⟨c,_,rfl⟩:=List.mem_map.1 hx
  rfl
 ·conv=>cbv
  exact Wk.refl _
 ·exact ⟨[],rfl,by simp [NodM],fun c=>by simp [hasM]⟩
 ·rintro R3 k y x hx ⟨hs,hy1,hy2,hy3⟩ hR3
  rw [List.getElem?_map] at hx
  obtain ⟨c,hc,hx⟩:=Option.map_eq_some_iff.1 hx
  subst hx
  have hkk:keysOk true [.bool,.int,.int] y (encCell c):=by rw [hy1];exact keysOk_Cell _ _
  have hpt:putE y (encCell c) (.bool true)=encM encCell (fun _=>.bool true) (putM hs c ()):=by rw [hy1];exact putE_enc keq_Cell (f:=fun _:Unit=>PV.bool true) hs c ()
  have hnx:NodM (putM hs c ())∧∀d,hasM (putM hs c ()) d=decide (d∈L.take (k+1)):=by
   refine ⟨hy2.put _ _,fun d=>?_⟩
   rw [List.take_add_one,hc]
   have h1:hasM (putM hs c ()) d=(decide (d=c) || hasM hs d):=by
    cases h:hasM (putM hs c ()) d with
    | true =>
     have h2:lookM (putM hs c ()) d≠none:=fun e=>by rw [lookM_none.1 e] at h;cases h
     rw [lookM_put] at h2
     by_cases e:d=c
     ·simp [e]
     ·rw [if_neg e] at h2
      cases h3:hasM hs d with
      | true=>simp
      | false=>exact absurd (lookM_none.2 h3) h2
    | false =>
     have h2:=lookM_none.2 h
     rw [lookM_put] at h2
     by_cases e:d=c
     ·rw [if_pos e] at h2;cases h2
     ·rw [if_neg e] at h2
      rw [lookM_none.1 h2];simp [e]
   rw [h1,hy3]
   rw [Bool.eq_iff_iff]
   simp [or_comm]
  obtain ⟨k1,k2,k3⟩:=c
  have hpt2:A.ePut y (.agg [.bool k1,.int .i64 k2,.int .i64 k3]) (.bool true)=encM encCell (fun _=>.bool true) (putM hs ⟨k1,k2,k3⟩ ()):=by rw [←hpt];subst hA;rfl
  conv=>cbv
  refine ⟨⟨kOk_intro hA hkk,trivial⟩,hR3 (A.ePut y (.agg [.bool k1,.int .i64 k2,.int .i64 k3]) (.bool true)) _ ?_ ⟨_,hpt2,hnx⟩⟩
  (conv=>cbv)
  exact wk_round (bx:=[_,_,_,_,_,_]) (bx':=[_]) (mp:=[_,_]) (mp':=[]) (by repeat (first | refine leL_same ?_ | refine leL_any ?_ | exact leL_nil)) (by simp) (by simp) rfl (hinN 6 2 _ (by decide) rfl)
 ·rintro y ⟨hs,hy1,hy2,hy3⟩
  conv=>cbv
  refine loop_set hA (fun (z:List PV × List (PV × PV)) s=>{ s with ax:=⟨[.ents z.2 none,.ents y none,.iter (some 1) [] z.1 none],s.ax.yk⟩ })
   (fun z=>∃(left:List Cell) (es:List (Cell × Int)),z.1=left.map encCell∧left.Nodup∧(∀c∈left,c∈L)∧z.2=encM encCell encInt es∧NodM es∧∀c,lookM es c=cntO (cntC ((l.take i.toNat).map (pathCells t s)) c+if c∈L∧c∉left then 1 else 0))
   (fun z=>z.1.length) (A.eKeys y,m) ?_ ?_ ?_
  ·conv=>cbv
   exact wk_sl (by repeat (first | refine leL_same ?_ | refine leL_any ?_ | exact leL_nil))
  ·have hkeys:∀c,c∈hs.map (·.1)↔c∈L:=fun c=>by
    rw [←hasM_iff,hy3,decide_eq_true_eq,List.take_of_length_le (by simp)]
   refine ⟨hs.map fun p:Cell × Unit=>p.1,es,?_,hy2,fun c h=>(hkeys c).1 h,hm,hes.1,fun c=>?_⟩
   ·show A.eKeys y=_
    subst hA
    rw [hy1]
    show (encM encCell _ hs).map (·.1)=_
    unfold encM
    rw [List.map_map,List.map_map]
    rfl
   ·rw [if_neg (fun h=>h.2 ((hkeys c).2 h.1))]
    exact hes.2 c
  rintro R3 ⟨lf,m2⟩ ⟨left,es2,hl1,hl2',hl3,hl4,hl5,hl6⟩ hR3
  simp only at hl1 hl4
  refine seq_stop (fun R4 hR4=>?_)
  conv=>cbv
  refine nxt_intro hA (fun h0=>?_) (fun k w hk hkv=>?_)
  ·conv=>cbv
   refine hR4 _ ?_
   conv=>cbv
   refine ⟨inR' hA his (by unfold inI64;omega),hR2 (A.iAdd i 1,m2) _ ?_ ?_ ?_⟩
   ·(conv=>cbv)
    exact wk_round (bx:=[_,_,_,_]) (bx':=[_,_]) (mp:=[_]) (mp':=[_,_]) (by repeat (first | refine leL_same ?_ | refine leL_any ?_ | exact leL_nil)) (by simp) (.inr ⟨by simp,rfl⟩) rfl (hinN 4 1 _ (by decide) rfl)
   ·have hl0:left=[]:=List.map_eq_nil_iff.1 (hl1.symm.trans h0)
    rw [his]
    refine ⟨by show 0≤i+1;omega,by show i+1≤_;omega,hset,es2,hl4,hl5,fun c=>?_⟩
    show lookM es2 c=cntO (cntC ((l.take (i+1).toNat).map (pathCells t s)) c)
    rw [hset2,cntC_snoc,hl6,hl0]
    simp
   ·show (l.length - A.iAdd i 1).toNat<(l.length - i).toNat
    rw [his];omega
  ·rw [hl1] at hk
   obtain ⟨c,hcl,hck2⟩:=List.mem_map.1 hk
   subst hck2
   obtain ⟨k1,k2,k3⟩:=c
   conv=>cbv
   refine hR4 _ ?_
   refine seq_stop (fun R5 hR5=>?_)
   conv=>cbv
   refine hR5 _ ?_
   refine block_tail (fun R6 hR6=>?_)
   conv=>cbv
   refine ent_intro hA (v:=.bool true) ?_ ?_
   ·show lookE y (encCell ⟨k1,k2,k3⟩)=_
    rw [hy1,lookE_enc keq_Cell (f:=fun _:Unit=>PV.bool true)]
    have h:=hy3 ⟨k1,k2,k3⟩
    rw [List.take_of_length_le (by simp),decide_eq_true (hl3 _ hcl)] at h
    cases hl:lookM hs ⟨k1,k2,k3⟩ with
    | none=>rw [lookM_none.1 hl] at h;cases h
    | some u=>rfl
   conv=>cbv
   refine hR6 _ ?_
   obtain ⟨o,ho⟩:∃o,o=(lookM es2 ⟨k1,k2,k3⟩).getD 0:=⟨_,rfl⟩
   have hoc:o=(cntC ((l.take i.toNat).map (pathCells t s)) ⟨k1,k2,k3⟩:Nat):=by
    rw [ho,hl6,if_neg (fun h=>h.2 hcl),Nat.add_zero]
    unfold cntO
    split
    ·rename_i h;rw [h];rfl
    ·rfl
   have hoL:0≤o∧o≤1000000:=by
    have:=cntC_le ((l.take i.toNat).map (pathCells t s)) ⟨k1,k2,k3⟩
    rw [List.length_map,List.length_take] at this
    omega
   have hos:A.iAdd o 1=o+1:=addI hA _ _
   have hor:A.inR (A.iAdd o 1):=inR' hA hos (by unfold inI64;omega)
   have hl2:lookE m2 (encCell ⟨k1,k2,k3⟩)=(lookM es2 ⟨k1,k2,k3⟩).map encInt:=by rw [hl4,lookE_enc keq_Cell]
   have hk2:keysOk true [.bool,.int,.int] m2 (encCell ⟨k1,k2,k3⟩):=by rw [hl4];exact keysOk_Cell _ _
   have hv2:(lookE m2 (encCell ⟨k1,k2,k3⟩)).getD (.int .i64 0)=.int .i64 o:=by
    rw [hl2,ho]
    cases lookM es2 ⟨k1,k2,k3⟩<;>rfl
   obtain ⟨m3,hm3⟩:∃m3,m3=entE m2 (encCell ⟨k1,k2,k3⟩) (encInt 0):=⟨_,rfl⟩
   have hv3:(lookE m3 (encCell ⟨k1,k2,k3⟩)).getD (.int .i64 0)=.int .i64 o:=by
    rw [hm3,hl4,entE_enc keq_Cell,lookE_enc keq_Cell,lookM_ent,ho]
    rfl
   have hk3:keysOk true [.bool,.int,.int] m3 (encCell ⟨k1,k2,k3⟩):=by rw [hm3,hl4,entE_enc keq_Cell];exact keysOk_Cell _ _
   obtain ⟨m4,hm4⟩:∃m4,m4=putE m3 (encCell ⟨k1,k2,k3⟩) (encInt (A.iAdd o 1)):=⟨_,rfl⟩
   have he3:m3=A.eEnt m2 (.agg [.bool k1,.int .i64 k2,.int .i64 k3]) (.int .i64 0):=by rw [hm3];subst hA;rfl
   have he4:m4=A.ePut m3 (.agg [.bool k1,.int .i64 k2,.int .i64 k3]) (.int .i64 (A.iAdd o 1)):=by rw [hm4];subst hA;rfl
   refine region_inv3 rfl (0:Int) (fun n=>[.mp 0,.val (.agg [.bool k1,.int .i64 k2,.int .i64 k3]),.val (.int .i64 o),.val (.int .i64 (A.iAdd o 1)),.val (.tup [.int .i64 o,.int .i64 n]),.val (.int .i64 n),.undef])
    (fun _ _=>[some c0,some c1,some [.val (.int .i64 nv),.val (.list 5 ss),.val (.list 3 cs),.val (.list 3 ws),.val (.list 1 ms),.val (.list 6 ks)],some [.val (.list 3 sc)],some [.val (.int .i64 p1),.val (.list 1 v)],some [.mp 1],some [.val (.bool k1),.val (.int .i64 k2),.val (.int .i64 k3)]])
    (fun L n=>[.ents (sel3 (L 6) (L 4) m4 m3 m2) (sel3 (L 6) (L 4) none (some (.agg [.bool k1,.int .i64 k2,.int .i64 k3],n)) none),.ents y none,.iter (some 1) [] (A.lDrop lf (.agg [.bool k1,.int .i64 k2,.int .i64 k3])) (some (.agg [.bool k1,.int .i64 k2,.int .i64 k3]))])
    rfl (fun _ _ _ _=>rfl) (fun L L' h n=>by simp only [h 6 (by decide),h 4 (by decide)]) rfl ?_ ?_
   intro L' i' o' hi' hL hC he K' n hK
   rcases i' with _ | i'
   ·cases hi'
    conv=>cbv
    exact hK n
   rcases i' with _ | i'
   ·cases hi'
    conv=>cbv
    exact hK n
   rcases i' with _ | i'
   ·cases hi'
    have h0:L' 0=true:=he ⟨0,.data⟩ (by simp) rfl
    have h1':L' 1=true:=he ⟨1,.data⟩ (by simp) rfl
    have h6:L' 6=false:=by
     cases h:L' 6 with
     | false=>rfl
     | true=>exact absurd (hC 3 _ rfl (hC 6 _ rfl h ⟨3,.data⟩ (by simp) rfl) ⟨2,.data⟩ (by simp) rfl) (by rw [hL];simp)
    cases h4:L' 4 with
    | false =>
     conv=>cbv
     simp only [h0,h1',h4,h6]
     conv=>cbv
     refine ⟨kOk_intro hA hk2,look_intro hA hv2 rfl ?_⟩
     conv=>cbv
     refine cast (congrArg K' ?_) (hK n)
     conv=>lhs;cbv
     simp only [h0,h1',h4,h6]<;>rfl
    | true =>
     conv=>cbv
     simp only [h0,h1',h4,h6]
     conv=>cbv
     refine ⟨kOk_intro hA hk3,look_intro hA hv3 rfl ?_⟩
     conv=>cbv
     refine cast (congrArg K' ?_) (hK n)
     conv=>lhs;cbv
     simp only [h0,h1',h4,h6]<;>rfl
   rcases i' with _ | i'
   ·cases hi'
    have h2:L' 2=true:=he ⟨2,.data⟩ (by simp) rfl
    conv=>cbv
    simp only [h2]
    conv=>cbv
    refine ⟨hor,?_⟩
    refine cast (congrArg K' ?_) (hK n)
    conv=>lhs;cbv
    simp only [h2]<;>rfl
   rcases i' with _ | i'
   ·cases hi'
    have h0:L' 0=true:=he ⟨0,.data⟩ (by simp) rfl
    have h1':L' 1=true:=he ⟨1,.data⟩ (by simp) rfl
    have h5:L' 5=false:=by
     cases h:L' 5 with
     | false=>rfl
     | true=>exact absurd (hC 5 _ rfl h ⟨4,.data⟩ (by simp) rfl) (by rw [hL];simp)
    have h6:L' 6=false:=by
     cases h:L' 6 with
     | false=>rfl
     | true=>exact absurd (hC 6 _ rfl h ⟨5,.data⟩ (by simp) rfl) (by rw [h5];simp)
    conv=>cbv
    simp only [h0,h1',hL,h6]
    conv=>cbv
    subst he3
    first
     | refine ⟨kOk_intro hA hk2,look_intro hA hv2 rfl (ment_intro hA fun n'=>?_)⟩
     | refine ⟨kOk_intro hA hk2,trivial,look_intro hA hv2 rfl (ment_intro hA fun n'=>?_)⟩
    conv=>cbv
    refine cast (congrArg K' ?_) (hK n')
    conv=>lhs;cbv
    simp only [h0,h1',h5,hL,h6]<;>rfl
   rcases i' with _ | i'
   ·cases hi'
    have h4:L' 4=true:=he ⟨4,.data⟩ (by simp) rfl
    conv=>cbv
    simp only [h4]
    conv=>cbv
    refine cast (congrArg K' ?_) (hK n)
    conv=>lhs;cbv
    simp only [h4]<;>rfl
   rcases i' with _ | i'
   ·cases hi'
    have h0:L' 0=true:=he ⟨0,.data⟩ (by simp) rfl
    have h3:L' 3=true:=he ⟨3,.data⟩ (by simp) rfl
    have h5:L' 5=true:=he ⟨5,.data⟩ (by simp) rfl
    have h4:L' 4=true:=hC 5 _ rfl h5 ⟨4,.data⟩ (by simp) rfl
    conv=>cbv
    simp only [h0,h3,h4,h5,hL]
    conv=>cbv
    subst he4
    refine ⟨same_intro hA rfl,?_⟩
    refine cast (congrArg K' ?_) (hK n)
    conv=>lhs;cbv
    simp only [h0,h3,h4,h5]<;>rfl
   ·simp at hi'
   intro n
   conv=>cbv
   have hdr:A.lDrop lf (.agg [.bool k1,.int .i64 k2,.int .i64 k3])=(left.filter fun d=>!decide ((⟨k1,k2,k3⟩:Cell)=d)).map encCell:=by
    subst hA
    rw [hl1]
    show (left.map encCell).filter (fun y=>!keq (encCell ⟨k1,k2,k3⟩) y)=_
    rw [List.filter_map]
    simp only [Function.comp_def,keq_Cell]
   refine hR3 (A.lDrop lf (.agg [.bool k1,.int .i64 k2,.int .i64 k3]),m4) _ ?_ ?_ ?_
   ·(conv=>cbv)
    exact Wk.trans _ _ _ (Wk.forgetMp _ _ _ _ [.ents m4 none,.ents y none,.iter (some 1) [] (A.lDrop lf (.agg [.bool k1,.int .i64 k2,.int .i64 k3])) none] _ ⟨⟨List.Perm.refl _,.inl rfl⟩,⟨List.Perm.refl _,.inl rfl⟩,⟨rfl,rfl,rfl,.inl rfl⟩,trivial⟩) (wk_round (bx:=[_,_,_,_,_,_]) (bx':=[_]) (mp:=[_,_,_]) (mp':=[]) (by repeat (first | refine leL_same ?_ | refine leL_any ?_ | exact leL_nil)) (by simp) (.inl rfl) rfl (hinN 6 3 _ (by decide) rfl))
   ·refine ⟨left.filter fun d=>!decide ((⟨k1,k2,k3⟩:Cell)=d),putM es2 ⟨k1,k2,k3⟩ (o+1),hdr,hl2'.filter _,fun c h=>hl3 c (List.mem_filter.1 h).1,?_,hl5.put _ _,fun d=>?_⟩
    ·show m4=_
     rw [hm4,hm3,hl4,entE_enc keq_Cell,putE_enc keq_Cell,putM_ent,hos]
    ·rw [lookM_put]
     by_cases e:d=⟨k1,k2,k3⟩
     ·rw [if_pos e,if_pos ⟨by rw [e];exact hl3 _ hcl,by rw [e];simp⟩,e,hoc]
      unfold cntO
      rw [if_neg (by omega)]
      rfl
     ·rw [if_neg e,hl6]
      congr 2
      have:(d∈left.filter fun d=>!decide ((⟨k1,k2,k3⟩:Cell)=d))↔d∈left:=by simp [Ne.symm e]
      simp only [this]
   ·show (A.lDrop lf _).length<lf.length
    rw [hdr,hl1,List.length_map,List.length_map]
    exact List.length_filter_lt_length_iff_exists.2 ⟨_,hcl,by simp⟩
end Go.Abs
namespace Go.Abs
open Go.RowKit Go.Proofs Go.Sort Go.Lib
theorem Below.grown_ {w w':World} (h:Below w.heap.size w w'):∃q os',w'=grow (w.drewN q) os':=by
 refine ⟨w'.drawn - w.drawn,w'.heap.extract w.heap.size w'.heap.size,?_⟩
 obtain ⟨h1,h2,h3,h4,h5,h6⟩:=h
 have hh:w'.heap=w.heap++w'.heap.extract w.heap.size w'.heap.size:=by
  apply Array.ext_getElem?
  intro i
  by_cases hi:i<w.heap.size
  ·rw [h5 i hi,Array.getElem?_append_left hi]
  ·rw [Array.getElem?_append_right (by omega),Array.getElem?_extract]
   by_cases hj:i<w'.heap.size
   ·rw [if_pos (by simp;omega)];congr 1;omega
   ·rw [if_neg (by simp;omega)];exact Array.getElem?_eq_none (by omega)
 cases w
 cases w'
 simp only [grow,World.drewN] at *
 simp only [World.mk.injEq]
 refine ⟨hh,h2,by omega,h1,h3⟩
theorem rv_toVal1 {S:Addr→Prop} {w:World} {p:PV} {v:Value} (h:p.flat1=true) (hv:RV S w p v):v=p.toVal1:=by
 cases p<;>simp [PV.flat1] at h<;>cases hv<;>rfl
theorem toVal1_rv {S:Addr→Prop} {w:World} {p:PV} (h:p.flat1=true):RV S w p p.toVal1:=by
 cases p<;>simp [PV.flat1] at h
 ·exact .int _ _
 ·exact .bool _
 ·exact .str _
theorem toVal1_one {p:PV} (h:p.flat1=true):p.toVal1.oneCell'=true:=by
 cases p<;>simp [PV.flat1] at h<;>rfl
def valsK {α:Type} (pv:α→List PV) (x:α):List Value:=(pv x).map PV.toVal1
theorem get_flat {α:Type} (f:α→List Value) (k:Nat) (hk:∀x,(f x).length=k) (h0:0<k):∀(l:List α) (t:Nat),(l.flatMap f)[t]?=(l[t / k]?).bind fun x=>(f x)[t % k]?
 | [],t=>by simp
 | x::l,t=>by
  rw [List.flatMap_cons]
  by_cases h:t<k
  ·rw [List.getElem?_append_left (by rw [hk];exact h),Nat.div_eq_of_lt h,Nat.mod_eq_of_lt h];rfl
  ·rw [List.getElem?_append_right (by rw [hk];omega),hk,get_flat f k hk h0 l (t - k)]
   have h1:t / k=(t - k) / k+1:=by rw [Nat.div_eq_sub_div h0 (by omega)]
   have h2:t % k=(t - k) % k:=by rw [Nat.mod_eq_sub_mod (by omega)]
   rw [h1,h2];rfl
theorem flatK_list {α:Type} [Inhabited α] (f:α→List Value) (k:Nat) (hk:∀x,(f x).length=k) (h0:0<k) (l:List α):Go.Sort.flatK f k l.toArray=(l.flatMap f).toArray:=by
 have hl:(l.flatMap f).length=l.length*k:=by
  induction l with
  | nil=>simp
  | cons x l ih=>rw [List.flatMap_cons,List.length_append,ih,hk,List.length_cons,Nat.add_mul,Nat.one_mul,Nat.add_comm]
 apply Array.ext_getElem?
 intro t
 by_cases ht:t<l.length*k
 ·have hd:t / k<l.length:=Nat.div_lt_of_lt_mul (by rw [Nat.mul_comm];exact ht)
  have hm:t % k<k:=Nat.mod_lt _ h0
  rw [show ((l.flatMap f).toArray)[t]?=(l.flatMap f)[t]? from by simp,get_flat f k hk h0,List.getElem?_eq_getElem hd]
  rw [Array.getElem?_eq_getElem (by simpa using ht)]
  show some _=(f l[t / k])[t % k]?
  rw [List.getElem?_eq_getElem (by rw [hk];exact hm)]
  congr 1
  have:=get_flatK f k l.toArray t (by simpa using ht)
  rw [getElem!_pos _ t (by simpa using ht)] at this
  rw [this]
  simp [hd,hm,hk]
 ·rw [Array.getElem?_eq_none (by simp;omega),show ((l.flatMap f).toArray)[t]?=(l.flatMap f)[t]? from by simp,List.getElem?_eq_none (by omega)]
section
variable {E:Env}
theorem callsR_rowK {α:Type} [Inhabited α] (pv:α→List PV) (k:Nat) (hk:∀x,(pv x).length=k) (h0:0<k) (hfl:∀x,∀p∈pv x,p.flat1=true) {f g:FuncId} (he:Enters E.P f) {bx:List (Option (List SV))} {tk:List (Nat × TypeId)} {ax:Ax} {id n cap:Nat} {zs d:List α} {rest:List SV}
  (hc:bx[id]?=some (some ((zs.flatMap pv).map SV.val++rest))) (hd:d.length=zs.length)
  (h:∀(w:World) (b:Nat),HoldsK (valsK pv) k w b 0 zs.toArray→b<w.heap.size→n≤cap→cap≤maxLen →
   Calls E.P f #[.slice (some ⟨b,0,none⟩) n cap,.func (.func g) #[] #[]] w fun e w'=>e=.returned (.tuple #[])∧∃q os,w'=sortWorldK (valsK pv) k w b 0 q d.toArray os) :
  CallsR E f [.row id 0 k n cap,.val (.fn g [])] bx tk ax fun r bx' tk' ax'=>r=.val (.tup [])∧bx'=bx.set id (some ((d.flatMap pv).map SV.val++rest))∧tk'=tk∧ax'=ax:=by
 have hkv:∀x,(valsK pv x).length=k:=fun x=>by simp [valsK,hk]
 have hlen:∀l:List α,(l.flatMap pv).length=l.length*k:=fun l=>by
  induction l with
  | nil=>simp
  | cons x l ih=>rw [List.flatMap_cons,List.length_append,ih,hk,List.length_cons,Nat.add_mul,Nat.one_mul,Nat.add_comm]
 have hmv:∀l:List α,l.flatMap (valsK pv)=(l.flatMap pv).map PV.toVal1:=fun l=>by
  rw [List.map_flatMap];rfl
 have hflat:∀(l:List α) (j:Nat) (p:PV),(l.flatMap pv)[j]?=some p→p.flat1=true:=fun l j p hj=>by
  obtain ⟨x,_,hx⟩:=List.mem_flatMap.1 (List.mem_of_getElem? hj)
  exact hfl x p hx
 refine ⟨he,fun B S0 w0 G S w vs hI hw hl hvs=>?_⟩
 match vs,hl with
 | [v,u],_ =>
  obtain ⟨b,hb,rfl,hcap,hmax⟩:=hvs 0 _ v rfl rfl
  have hu:RV S w (.fn g []) u:=hvs 1 _ u rfl rfl
  have hu':u=.func (.func g) #[] #[]:=by
   cases hu with
   | fn _ _ us hl _=>cases us with
    | nil=>rfl
    | cons _ _=>cases hl
  subst hu'
  obtain ⟨⟨t,arr,hh,hsz,hcells⟩,hS⟩:=hI.box id b _ hc hb
  have hval:∀j,j<zs.length*k→arr[j]?=((zs.flatMap pv).map PV.toVal1)[j]?:=fun j hj=>by
   have hj':j<(zs.flatMap pv).length:=by rw [hlen];exact hj
   have h1:((zs.flatMap pv).map SV.val++rest)[j]?=some (.val (zs.flatMap pv)[j]):=by
    rw [List.getElem?_append_left (by simpa using hj')]
    simp [hj']
   have hjs:j<arr.size:=by rw [hsz,List.length_append,List.length_map];omega
   obtain ⟨h2,_⟩:=hcells j _ arr[j] h1 (by simp [hjs])
   rw [Array.getElem?_eq_getElem hjs]
   have h3:RV S w (zs.flatMap pv)[j] arr[j]:=h2
   rw [rv_toVal1 (hflat zs j _ (List.getElem?_eq_getElem hj')) h3,List.getElem?_map,List.getElem?_eq_getElem hj',Option.map_some]
  have hlt:b<w.heap.size:=(hI.old id b hb).2
  have hold:HoldsK (valsK pv) k w b 0 zs.toArray:=by
   unfold HoldsK
   rw [flatK_list (valsK pv) k hkv h0,hmv]
   intro j hj
   have hj':j<zs.length*k:=by rw [←hlen];simpa using hj
   refine ⟨?_,by simp [World.frozen?,hh]⟩
   simp only [World.cell?,hh,Nat.zero_add]
   simp only [Option.isSome_none,Bool.false_eq_true,if_false]
   rw [hval j hj']
   have hj2:j<((zs.flatMap pv).map PV.toVal1).length:=by simpa using hj
   rw [List.getElem?_eq_getElem hj2,getElem!_pos _ j hj]
   rfl
  refine (h w b hold hlt hcap hmax).mono ?_
  rintro e w' ⟨rfl,q,os,rfl⟩
  have hD:Go.Sort.flatK (valsK pv) k d.toArray=((d.flatMap pv).map PV.toVal1).toArray:=by rw [flatK_list (valsK pv) k hkv h0,hmv]
  have hW:sortWorldK (valsK pv) k w b 0 q d.toArray os=grow (putRow _root_.id (Sort.ahead w q) b 0 ((d.flatMap pv).map PV.toVal1).toArray) os:=by
   unfold sortWorldK putRowK;rw [hD]
  rw [hW]
  have hg:w.grownBy (grow (putRow _root_.id (Sort.ahead w q) b 0 ((d.flatMap pv).map PV.toVal1).toArray) os) (some b):=by
   refine ⟨rfl,rfl,rfl,by simp,fun i hi hne=>?_⟩
   rw [heap_grow_old _ _ (by simpa using hi)]
   have:b≠i:=fun e=>hne (by rw [e])
   simp [putRow,mapBlock,Sort.ahead,Array.getElem?_modify,this]
  have hh':(grow (putRow _root_.id (Sort.ahead w q) b 0 ((d.flatMap pv).map PV.toVal1).toArray) os).heap[b]?=some (.cells (putCells _root_.id 0 ((d.flatMap pv).map PV.toVal1).toArray arr) t (0,0)):=by
   rw [heap_grow_old _ _ (by simpa using hlt)]
   simp [putRow,mapBlock,Sort.ahead,Array.getElem?_modify,hh,onCells]
  have hdl:(d.flatMap pv).length=(zs.flatMap pv).length:=by rw [hlen,hlen,hd]
  have harr:∀(j:Nat) (c:SV) (v:Value),((d.flatMap pv).map SV.val++rest)[j]?=some c→(putCells _root_.id 0 ((d.flatMap pv).map PV.toVal1).toArray arr)[j]?=some v→RSV tk G S w c v∧v.oneCell'=true:=by
   intro j c v h1 h2
   by_cases hj:j<(d.flatMap pv).length
   ·rw [List.getElem?_append_left (by simpa using hj)] at h1
    have hja:j<arr.size:=by rw [hsz,List.length_append,List.length_map];omega
    simp only [List.getElem?_map,List.getElem?_eq_getElem hj,Option.map_some,Option.some.injEq] at h1
    simp only [putCells,Array.getElem?_mapIdx,Array.getElem?_eq_getElem hja,Option.map_some,Option.some.injEq] at h2
    rw [if_pos ⟨Nat.zero_le _,by rw [List.size_toArray,List.length_map];omega⟩] at h2
    have h3:v=(d.flatMap pv)[j].toVal1:=by
     rw [←h2,getElem!_pos _ _ (by simpa using hj)]
     simp
    subst h1;subst h3
    have:=hflat d j _ (List.getElem?_eq_getElem hj)
    exact ⟨toVal1_rv this,toVal1_one this⟩
   ·rw [List.getElem?_append_right (by simpa using hj)] at h1
    have h3:((zs.flatMap pv).map SV.val++rest)[j]?=some c:=by
     rw [List.getElem?_append_right (by rw [List.length_map];omega)]
     rw [List.length_map,←hdl]
     simpa using h1
    have h4:arr[j]?=some v:=by
     simp only [putCells,Array.getElem?_mapIdx] at h2
     rw [Option.map_eq_some_iff] at h2
     obtain ⟨x,h5,h6⟩:=h2
     rw [if_neg (by rw [List.size_toArray,List.length_map];omega)] at h6
     rw [h5,h6]
    exact hcells j c v h3 h4
  obtain ⟨k1,k2,k3⟩:=hI.rebox hb hc hh hg (by simp [grow,putRow,mapBlock,Sort.ahead]) hh' (by simp [putCells,hsz,hdl]) harr
  exact ⟨_,.val (.tup []),_,tk,ax,G,S,⟨rfl,rfl,rfl,rfl⟩,rfl,k1,k3 _ hw,k2,RV.tup [] [] rfl (by simp)⟩
theorem cmpLays_of {α:Type} [Inhabited α] {P:Program} {g:FuncId} (pv:α→List PV) (k:Nat) (hfl:∀x,∀p∈pv x,p.flat1=true) (cf:α→α→Int) (hcf:∀x y,CallsPV P g [.agg (pv x),.agg (pv y)] (.int .i64 (cf x y))) (b off size:Nat) (w:World):CmpLays P g #[] (valsK pv) k cf b off size w:=by
 intro m os dk hs x y
 have hrv:∀(W:World) (z:α),RV (fun _=>False) W (.agg (pv z)) (.agg (valsK pv z).toArray):=fun W z =>
  RV.agg (pv z) (valsK pv z) (by simp [valsK]) fun i c v h1 h2=>by
   simp only [valsK,List.getElem?_map,h1,Option.map_some,Option.some.injEq] at h2
   rw [←h2]
   exact toVal1_rv (hfl z c (List.mem_of_getElem? h1))
 generalize sortWorldK (valsK pv) k w b off m dk os=W
 have h:=(hcf x y).2 (fun _=>False) W [.agg (valsK pv x).toArray,.agg (valsK pv y).toArray] (fun _ h=>h.elim) (RVs.cons (hrv W x) (RVs.cons (hrv W y) RVs.nil))
 refine Calls.mono (show Calls P g #[.agg (valsK pv x).toArray,.agg (valsK pv y).toArray] W _ from h) ?_
 rintro e w' ⟨v,rfl,hb,hv⟩
 cases hv
 exact ⟨rfl,hb.grown_⟩
end
def rowCells {α:Type} (pv:α→List PV) (b:List α) (junk:List (List PV)):List SV:=((b.map pv++junk).flatten).map SV.val
def RowS {α:Type} (pv:α→List PV) (m:Nat) (b:List α) (rs:List (Option (List SV))) (j cap:Nat):Prop :=
 ∃junk:List (List PV),rs[j]?=some (some (rowCells pv b junk))∧(∀q∈junk,q.length=m)∧b.length+junk.length=cap∧cap≤maxLen
def ArgM {α:Type} (pv:α→List PV) (m:Nat) (k0:Nat) (b:List α) (rs:List (Option (List SV))) (arg:SV):Prop :=
 (b=[]∧arg=.lit 0 [])∨b≠[]∧∃j cap,arg=.row (k0+j) 0 m b.length cap∧RowS pv m b rs j cap
theorem flatten_len {m:Nat}:∀{l:List (List PV)},(∀q∈l,q.length=m)→l.flatten.length=l.length*m
 | [],_=>by simp
 | q::l,h=>by
  rw [List.flatten_cons,List.length_append,flatten_len (fun x hx=>h x (by simp [hx])),h q (by simp),List.length_cons,Nat.add_mul,Nat.one_mul,Nat.add_comm]
theorem flatM_len {α:Type} {pv:α→List PV} {m:Nat} (hm:∀x,(pv x).length=m) (l:List α):(l.flatMap pv).length=l.length*m:=by
 rw [List.flatMap_def,flatten_len (fun q hq=>by obtain ⟨x,_,rfl⟩:=List.mem_map.1 hq;exact hm x),List.length_map]
theorem rowCells_split {α:Type} (pv:α→List PV) (b:List α) (junk:List (List PV)):rowCells pv b junk=(b.flatMap pv).map SV.val++(junk.flatten).map SV.val:=by
 unfold rowCells
 rw [List.flatten_append,List.map_append,List.flatMap_def]
theorem rowCells_snoc {α:Type} (pv:α→List PV) (b:List α) (x:α) (junk:List (List PV)):rowCells pv (b++[x]) junk=(b.flatMap pv).map SV.val++((pv x).map SV.val++(junk.flatten).map SV.val):=by
 rw [rowCells_split,List.flatMap_append,List.map_append,List.append_assoc]
 simp
theorem rowCells_agg {α:Type} (pv:α→List PV) (b:List α) (junk:List (List PV)):rowCells pv b junk=(((b.map pv++junk).map PV.agg).flatMap PV.cells).map SV.val:=by
 unfold rowCells
 rw [List.flatMap_map]
 congr 1
 rw [List.flatMap_def]
 congr 1
 exact (List.map_id' _).symm
theorem replicate_flat (n m:Nat):List.replicate (n*m) (SV.val .any)=(((List.replicate n (List.replicate m PV.any)).flatten).map SV.val):=by
 rw [List.flatten_replicate_replicate,List.map_replicate]
theorem appM {E:Env} {A:Ops} (hA:A=stdOps E) {α:Type} {pv:α→List PV} {m:Nat} {ts e:TypeId} (hk:(E.T ts).k=.slice e) (hs:(E.T e).size=m) (hz:(E.T e).zero.length=m) (h0:0<m) (hby:(E.T e).bytes+1≤10000000) (hm:∀x,(pv x).length=m)
  {b:List α} {arg:SV} {rs:List (Option (List SV))} {bx0:List (Option (List SV))} {k0:Nat} (hbx:bx0.length=k0) (harg:ArgM pv m k0 b rs arg) (hb:b.length≤10000000) (x:α) (sl:List SV) (tk:List (Nat × TypeId)) (ax:Ax) (K:SV→St→Prop)
  (hK:∀(j cap:Nat) (rs':List (Option (List SV))),RowS pv m (b++[x]) rs' j cap→K (.row (k0+j) 0 m (b.length+1) cap) ⟨sl,bx0++rs',tk,ax⟩) :
  A.appR [ts,ts] [arg,.lit m [.agg (pv x)]] ⟨sl,bx0++rs,tk,ax⟩ K:=by
 refine appR_intro hA ?_
 unfold wpAppR
 simp only [hk,SV.elems,hs]
 refine ⟨trivial,trivial,by simp,h0,hz,?_⟩
 have hbig:(b.length+1)*((E.T e).bytes+1)≤140737488355328:=by
  refine Nat.le_trans (Nat.mul_le_mul (Nat.succ_le_succ hb) hby) (by decide)
 have hpx:[PV.agg (pv x)].flatMap PV.cells=pv x:=by simp [PV.cells]
 have hfresh:∀(cap:Nat),b.length+1≤cap→cap≤maxLen→K (.row (bx0++rs).length 0 m (b.length+1) cap) ⟨sl,bx0++(rs++[some ((b.flatMap pv).map SV.val++((pv x).map SV.val++List.replicate ((cap - (b.length+1))*m) (.val .any)))]),tk,ax⟩:=by
  intro cap hc1 hc2
  rw [List.length_append,hbx,replicate_flat,←rowCells_snoc]
  exact hK _ cap _ ⟨List.replicate (cap - (b.length+1)) (List.replicate m .any),by simp,fun q hq=>by rw [(List.mem_replicate.1 hq).2,List.length_replicate],by simp;omega,hc2⟩
 rcases harg with ⟨rfl,rfl⟩ | ⟨_,j,cap,rfl,junk,h3,h4,h5,h6⟩
 ·refine ⟨.inr rfl,by simpa using hbig,fun cap hc1 hc2=>?_⟩
  have:=hfresh cap (by simpa using hc1) hc2
  simp only [St.newBx,List.nil_append,List.length_nil,Nat.zero_add,List.length_singleton,hpx,List.flatMap_nil,List.map_nil,List.map_append,List.append_assoc] at this ⊢
  exact this
 ·have hlen:(rowCells pv b junk).length=cap*m:=by
   rw [rowCells_split,List.length_append,List.length_map,List.length_map,flatM_len hm,flatten_len h4,←Nat.add_mul,h5]
  have htake:(rowCells pv b junk).take (b.length*m)=(b.flatMap pv).map SV.val:=by
   rw [rowCells_split]
   exact List.take_left' (by rw [List.length_map,flatM_len hm])
  refine ⟨rfl,by simpa using hbig,rowCells pv b junk,?_,by rw [hlen];omega,fun hin=>?_,fun hout cap' hc1 hc2=>?_⟩
  ·show (bx0++rs).getD (k0+j) none=some (rowCells pv b junk)
   rw [List.getD_eq_getElem?_getD,List.getElem?_append_right (by omega)]
   simp [hbx,h3]
  ·simp only [List.length_singleton] at hin
   obtain ⟨q,junk',rfl⟩:∃q junk',junk=q::junk':=by
    cases junk with
    | nil=>simp at h5;omega
    | cons q r=>exact ⟨q,r,rfl⟩
   have hdrop:(rowCells pv b (q::junk')).drop (b.length*m+m)=(junk'.flatten).map SV.val:=by
    rw [rowCells_split,List.flatten_cons,List.map_append,←List.append_assoc]
    exact List.drop_left' (by rw [List.length_append,List.length_map,List.length_map,flatM_len hm,h4 q (by simp)])
   have e:(St.mk sl (bx0++rs) tk ax).setBx (k0+j) (some ((rowCells pv b (q::junk')).take (0+b.length*m)++(([PV.agg (pv x)].flatMap PV.cells).map SV.val++(rowCells pv b (q::junk')).drop (0+b.length*m+[PV.agg (pv x)].length*m))))=⟨sl,bx0++rs.set j (some (rowCells pv (b++[x]) junk')),tk,ax⟩:=by
    simp only [St.setBx,St.mk.injEq,true_and,and_true,hpx,Nat.zero_add,List.length_singleton,Nat.one_mul]
    rw [List.set_append_right _ _ (by omega),htake,hdrop,rowCells_snoc]
    simp [hbx]
   rw [e]
   have hjl:j<rs.length:=(List.getElem?_eq_some_iff.1 h3).1
   exact hK j cap _ ⟨junk',List.getElem?_set_self hjl,fun q hq=>h4 q (by simp [hq]),by simp at h5 ⊢;omega,h6⟩
  ·simp only [List.length_singleton] at hout hc1 ⊢
   have:=hfresh cap' hc1 hc2
   simp only [St.newBx,List.drop_zero,hpx,List.append_assoc,htake] at this ⊢
   exact this
/-! ### Rows handed on in whatever order -/
def Got {α:Type} (cs:List α) (k:Nat) (b:List α):Prop :=
 k<2 ^ cs.length∧b.Nodup∧(∀c∈b,c∈cs)∧∀(i:Nat) (c:α),cs[i]?=some c→(k.testBit i=true↔c∈b)
theorem Got.nil {α:Type} (cs:List α):Got cs 0 []:=⟨Nat.two_pow_pos _,List.nodup_nil,by simp,by simp⟩
theorem Got.next {α:Type} {cs:List α} {en:α→List PV} {k k':Nat} {b:List α} {x:List PV} (hn:cs.Nodup) (h:Got cs k b) (hx:nxOf true (cs.map en) k x k'):∃c,x=en c∧c∈cs∧c∉b∧Got cs k' (b++[c]):=by
 obtain ⟨h1,h2,h3,h4⟩:=h
 obtain ⟨_,i,k1,k2,rfl⟩:=hx
 rw [List.getElem?_map,Option.map_eq_some_iff] at k1
 obtain ⟨c,hc,rfl⟩:=k1
 have hil:=(List.getElem?_eq_some_iff.1 hc).1
 have hcb:c∉b:=fun h=>by rw [(h4 i c hc).2 h] at k2;cases k2
 refine ⟨c,rfl,List.mem_of_getElem? hc,hcb,Nat.or_lt_two_pow h1 (Nat.pow_lt_pow_right (by decide) hil),?_,fun d hd=>?_,fun j d hd=>?_⟩
 ·rw [List.nodup_append]
  exact ⟨h2,by simp,fun a ha b hb=>by simp at hb;subst hb;intro e;subst e;exact hcb ha⟩
 ·rcases List.mem_append.1 hd with h | h
  ·exact h3 d h
  ·simp at h;subst h;exact List.mem_of_getElem? hc
 ·rw [Nat.testBit_or,Nat.testBit_two_pow,List.mem_append,List.mem_singleton,Bool.or_eq_true,h4 j d hd,decide_eq_true_eq]
  refine or_congr Iff.rfl ⟨fun e=>?_,fun e=>?_⟩
  ·subst e;exact Option.some.inj (hd.symm.trans hc)
  ·subst e;exact (List.getElem?_inj hil hn).1 (hc.trans hd.symm)
theorem Got.fin {α:Type} {cs:List α} {en:α→List PV} {k:Nat} {b:List α} (hn:cs.Nodup) (h:Got cs k b) (hx:finOf true (cs.map en) k):b.Perm cs:=by
 obtain ⟨h1,h2,h3,h4⟩:=h
 have hk:k=2 ^ cs.length - 1:=by
  have hx:k+1=2 ^ (cs.map en).length:=hx
  rw [List.length_map] at hx
  omega
 have hall:∀c∈cs,c∈b:=fun c hc=>by
  obtain ⟨i,hi⟩:=List.getElem?_of_mem hc
  refine (h4 i c hi).1 ?_
  rw [hk,Nat.testBit_two_pow_sub_one]
  exact decide_eq_true (List.getElem?_eq_some_iff.1 hi).1
 classical
 exact (List.perm_ext_iff_of_nodup h2 hn).2 fun c=>⟨h3 c,hall c⟩
theorem sorted_perm_eq {α:Type} {r:α→α→Prop} (has:∀x y,r x y→r y x→x=y):∀{l l':List α},l.Perm l'→l.Pairwise r→l'.Pairwise r→l=l'
 | [],l',h,_,_=>(List.nil_perm.1 h).symm
 | x::l,l',h,h1,h2=>by
  match l',h with
  | [],h=>exact absurd h (by simp)
  | y::l',h =>
   have hxy:x=y:=by
    have m1:x∈y::l':=h.subset (by simp)
    have m2:y∈x::l:=h.symm.subset (by simp)
    rcases List.mem_cons.1 m1 with e | e
    ·exact e
    ·rcases List.mem_cons.1 m2 with e' | e'
     ·exact e'.symm
     ·exact has _ _ ((List.pairwise_cons.1 h1).1 y e') ((List.pairwise_cons.1 h2).1 x e)
   subst hxy
   rw [sorted_perm_eq has (List.Perm.cons_inv h) (List.pairwise_cons.1 h1).2 (List.pairwise_cons.1 h2).2]
end Go.Abs
namespace Go.Abs
open Go.RowKit Go.Proofs Go.Sort
def cellLt (a b:Cell):Prop:=rankB a.Airport<rankB b.Airport∨(rankB a.Airport=rankB b.Airport∧(a.Index<b.Index∨(a.Index=b.Index∧a.Minute<b.Minute)))
theorem rankB_inj {a b:Bool} (h:rankB a=rankB b):a=b:=by
 cases a<;>cases b<;>simp [rankB] at h<;>rfl
theorem cell_ext {a b:Cell} (h1:rankB a.Airport=rankB b.Airport) (h2:a.Index=b.Index) (h3:a.Minute=b.Minute):a=b:=by
 cases a;cases b;cases rankB_inj h1;cases h2;cases h3;rfl
theorem cmpC_def (a b:Cell):cmpC a b=if rankB a.Airport<rankB b.Airport then -1 else if rankB b.Airport<rankB a.Airport then 1 else if a.Index<b.Index then -1 else if b.Index<a.Index then 1 else if a.Minute<b.Minute then -1 else if b.Minute<a.Minute then 1 else 0:=by
 unfold cmpC cmpI
 simp only [orI]
 repeat' split
 all_goals first | rfl | omega | simp_all
theorem cmpC_neg (a b:Cell):cmpC a b<0↔cellLt a b:=by
 rw [cmpC_def]
 unfold cellLt
 repeat' split
 all_goals omega
theorem cellLt_irrefl (a:Cell):¬cellLt a a:=by unfold cellLt;omega
theorem cellLt_trans {a b c:Cell} (h:cellLt a b) (k:cellLt b c):cellLt a c:=by unfold cellLt at *;omega
theorem cellLt_asymm {a b:Cell} (h:cellLt a b) (k:cellLt b a):False:=cellLt_irrefl a (cellLt_trans h k)
theorem cellLt_tri (a b:Cell):cellLt a b∨a=b∨cellLt b a:=by
 by_cases h:cellLt a b
 ·exact .inl h
 by_cases k:cellLt b a
 ·exact .inr (.inr k)
 refine .inr (.inl ?_)
 unfold cellLt at h k
 exact cell_ext (by omega) (by omega) (by omega)
theorem ltC_iff (a b:Cell):Go.Proofs.ltOf cmpC a b=true↔cellLt a b:=by
 unfold Go.Proofs.ltOf
 rw [decide_eq_true_eq,cmpC_neg]
theorem ltC_false (a b:Cell):Go.Proofs.ltOf cmpC a b=false↔¬cellLt a b:=by
 rw [←ltC_iff];simp
theorem swoC:SWO (Go.Proofs.ltOf cmpC) where
 irrefl x:=by rw [ltC_false];exact cellLt_irrefl x
 trans x y z h k:=by rw [ltC_iff] at *;exact cellLt_trans h k
 ntrans x y z h k:=by
  rw [ltC_false] at *
  unfold cellLt at *
  omega
theorem ltC_tri (x y:Cell) (h:Go.Proofs.ltOf cmpC x y=false) (k:Go.Proofs.ltOf cmpC y x=false):x=y:=by
 rw [ltC_false] at *
 rcases cellLt_tri x y with e | e | e
 ·exact absurd e h
 ·exact e
 ·exact absurd e k
def sortC (l:List Cell):List Cell:=l.mergeSort fun x y=>!(Go.Proofs.ltOf cmpC) y x
theorem sortC_perm (l:List Cell):(sortC l).Perm l:=List.mergeSort_perm _ _
theorem sortC_le (l:List Cell):(sortC l).Pairwise fun x y=>¬cellLt y x:=by
 have:=List.pairwise_mergeSort (le:=fun x y=>!(Go.Proofs.ltOf cmpC) y x) (fun a b c h k=>by
  simp only [Bool.not_eq_true',ltC_false] at *
  unfold cellLt at *
  omega) (fun a b=>by
  simp only [Bool.or_eq_true,Bool.not_eq_true',ltC_false]
  rcases cellLt_tri a b with h | h | h
  ·exact .inl fun k=>cellLt_asymm h k
  ·subst h;exact .inl (cellLt_irrefl _)
  ·exact .inr fun k=>cellLt_asymm h k) l
 exact this.imp fun h=>by simpa [ltC_false] using h
theorem sortC_lt {l:List Cell} (hn:l.Nodup):(sortC l).Pairwise cellLt:=by
 have h1:=sortC_le l
 have h2:(sortC l).Nodup:=(sortC_perm l).nodup_iff.2 hn
 refine (h1.and h2).imp ?_
 rintro a b ⟨k1,k2⟩
 rcases cellLt_tri a b with h | h | h
 ·exact h
 ·exact absurd h k2
 ·exact absurd h k1
theorem sortC_congr {l l':List Cell} (h:l.Perm l'):sortC l=sortC l':=by
 refine sorted_perm_eq (r:=fun x y=>¬cellLt y x) (fun x y h k=>?_) (((sortC_perm l).trans h).trans (sortC_perm l').symm) (sortC_le l) (sortC_le l')
 rcases cellLt_tri x y with e | e | e
 ·exact absurd e k
 ·exact e
 ·exact absurd e h
theorem sortC_eq {l l':List Cell} (h:l.Perm l') (hs:l'.Pairwise cellLt):sortC l=l':=by
 refine sorted_perm_eq (r:=fun x y=>¬cellLt y x) (fun x y h k=>?_) ((sortC_perm l).trans h) (sortC_le l) (hs.imp fun h k=>cellLt_asymm h k)
 rcases cellLt_tri x y with e | e | e
 ·exact absurd e k
 ·exact e
 ·exact absurd e h
end Go.Abs
namespace Go.Abs
open Go.RowKit Go.Proofs Go.Shelf Go.Sort Go.Lib
def renSortCell:Ren:=⟨fun x=>if x=6 then 89 else if x=14 then 159 else if x=15 then 160 else if x=20 then 218 else if x=21 then 219 else if x=22 then 220 else if x=23 then 221 else if x=24 then 222 else if x=25 then 223 else if x=26 then 224 else if x=27 then 225 else if x=28 then 226 else if x=29 then 227 else if x=46 then 271 else if x=47 then 272 else if x=48 then 273 else if x=49 then 274 else if x=50 then 275 else 293,fun x=>if x=0 then 0 else if x=3 then 3 else if x=4 then 4 else if x=5 then 5 else if x=9 then 9 else if x=22 then 104 else if x=24 then 87 else if x=25 then 107 else if x=39 then 36 else if x=45 then 299 else if x=46 then 300 else if x=50 then 88 else if x=53 then 95 else if x=55 then 307 else if x=66 then 342 else if x=70 then 346 else if x=76 then 361 else 362,id⟩
theorem laySortCell:SlLaysF0.n6 Tryz.prog renSortCell where
 mixed:=by kernel_rfl
 f6:=⟨"slices.SortFunc[[]overflight/api.Cell,overflight/api.Cell]",rfl,by kernel_rfl⟩
 f14:=⟨"slices.pdqsortCmpFunc[overflight/api.Cell]",rfl,by kernel_rfl⟩
 f15:=by kernel_rfl
 f20:=⟨"slices.insertionSortCmpFunc[overflight/api.Cell]",rfl,by kernel_rfl⟩
 f21:=⟨"slices.heapSortCmpFunc[overflight/api.Cell]",rfl,by kernel_rfl⟩
 f22:=⟨"slices.breakPatternsCmpFunc[overflight/api.Cell]",rfl,by kernel_rfl⟩
 f23:=⟨"slices.choosePivotCmpFunc[overflight/api.Cell]",rfl,by kernel_rfl⟩
 f24:=⟨"slices.reverseRangeCmpFunc[overflight/api.Cell]",rfl,by kernel_rfl⟩
 f25:=⟨"slices.partialInsertionSortCmpFunc[overflight/api.Cell]",rfl,by kernel_rfl⟩
 f26:=⟨"slices.partitionEqualCmpFunc[overflight/api.Cell]",rfl,by kernel_rfl⟩
 f27:=⟨"slices.partitionCmpFunc[overflight/api.Cell]",rfl,by kernel_rfl⟩
 f28:=by kernel_rfl
 f29:=by kernel_rfl
 f46:=⟨"slices.siftDownCmpFunc[overflight/api.Cell]",rfl,by kernel_rfl⟩
 f47:=by kernel_rfl
 f48:=by kernel_rfl
 f49:=⟨"slices.medianAdjacentCmpFunc[overflight/api.Cell]",rfl,by kernel_rfl⟩
 f50:=⟨"slices.medianCmpFunc[overflight/api.Cell]",rfl,by kernel_rfl⟩
 f57:=⟨"slices.order2CmpFunc[overflight/api.Cell]",rfl,by kernel_rfl⟩
 t0:=Tryz.underlying0
 a0:=Tryz.isAgg0
 z0:=Tryz.sizeOf0
 v0:=Tryz.zeroValue0
 t3:=Tryz.underlying3
 a3:=Tryz.isAgg3
 z3:=Tryz.sizeOf3
 v3:=Tryz.zeroValue3
 t4:=Tryz.underlying4
 a4:=Tryz.isAgg4
 z4:=Tryz.sizeOf4
 v4:=Tryz.zeroValue4
 t5:=Tryz.underlying5
 a5:=Tryz.isAgg5
 z5:=Tryz.sizeOf5
 v5:=Tryz.zeroValue5
 t9:=Tryz.underlying9
 a9:=Tryz.isAgg9
 z9:=Tryz.sizeOf9
 v9:=Tryz.zeroValue9
 t22:=Tryz.underlying104
 a22:=Tryz.isAgg104
 z22:=Tryz.sizeOf104
 v22:=Tryz.zeroValue104
 t25:=Tryz.underlying107
 a25:=Tryz.isAgg107
 z25:=Tryz.sizeOf107
 v25:=Tryz.zeroValue107
 t39:=Tryz.underlying36
 a39:=Tryz.isAgg36
 z39:=Tryz.sizeOf36
 v39:=Tryz.zeroValue36
 t45:=Tryz.underlying299
 a45:=Tryz.isAgg299
 z45:=Tryz.sizeOf299
 v45:=Tryz.zeroValue299
 t46:=Tryz.underlying300
 a46:=Tryz.isAgg300
 z46:=Tryz.sizeOf300
 v46:=Tryz.zeroValue300
 t50:=Tryz.underlying88
 a50:=Tryz.isAgg88
 z50:=Tryz.sizeOf88
 v50:=Tryz.zeroValue88
 t53:=Tryz.underlying95
 a53:=Tryz.isAgg95
 z53:=Tryz.sizeOf95
 v53:=Tryz.zeroValue95
 t55:=Tryz.underlying307
 a55:=Tryz.isAgg307
 z55:=Tryz.sizeOf307
 v55:=Tryz.zeroValue307
 t66:=Tryz.underlying342
 a66:=Tryz.isAgg342
 z66:=Tryz.sizeOf342
 v66:=Tryz.zeroValue342
 t70:=Tryz.underlying346
 a70:=Tryz.isAgg346
 z70:=Tryz.sizeOf346
 v70:=Tryz.zeroValue346
 t76:=Tryz.underlying361
 a76:=Tryz.isAgg361
 z76:=Tryz.sizeOf361
 v76:=Tryz.zeroValue361
 t77:=Tryz.underlying362
 a77:=Tryz.isAgg362
 z77:=Tryz.sizeOf362
 v77:=Tryz.zeroValue362
instance:Inhabited Cell:=⟨⟨false,0,0⟩⟩
def pvC (c:Cell):List PV:=[.bool c.Airport,.int .i64 c.Index,.int .i64 c.Minute]
theorem sortFunc_Cell {rows:Bool} {clo:FuncId→Bool} {Y:YS} {bx:List (Option (List SV))} {tk:List (Nat × TypeId)} {ax:Ax} {id n cap:Nat} {zs:List Cell} {rest:List SV} (hc:bx[id]?=some (some ((zs.flatMap pvC).map SV.val++rest))) (hn:n=zs.length) (hz:zs.length<4611686018427387904) :
  CallsR ⟨Tryz.prog,tab,clo,rows,Y⟩ 89 [.row id 0 3 n cap,.val (.fn 35 [])] bx tk ax
   fun r bx' tk' ax'=>r=.val (.tup [])∧bx'=bx.set id (some (((sortC zs).flatMap pvC).map SV.val++rest))∧tk'=tk∧ax'=ax:=by
 subst hn
 have hfl:∀x,∀p∈pvC x,p.flat1=true:=fun x p hp=>by
  simp only [pvC,List.mem_cons,List.not_mem_nil,or_false] at hp
  rcases hp with rfl | rfl | rfl<;>rfl
 refine callsR_rowK (E:=⟨Tryz.prog,tab,clo,rows,Y⟩) pvC 3 (fun _=>rfl) (by decide) hfl (enters_of Tryz.func89 (by kernel_rfl) rfl) hc ((sortC_perm zs).length_eq) fun w b hH hb hcap hmax=>?_
 have h:=AnyQ.slices_SortFunc_total laySortCell 3 Tryz.isAgg87 Tryz.sizeOf87 (valsK pvC) (fun _=>rfl) (fun x v hv=>by
  obtain ⟨p,hp,rfl⟩:=List.mem_map.1 hv
  exact toVal1_one (hfl x p hp)) cmpC swoC 35 #[] b 0 cap zs.toArray w (enters_of Tryz.func35 (by kernel_rfl) rfl) (cmpLays_of pvC 3 hfl cmpC (fun x y=>dm_Compare x y) b 0 zs.toArray.size w) hH hb (by simpa using hz) ltC_tri
 refine Calls.mono (show Calls Tryz.prog 89 _ w _ from h) ?_
 rintro e w' ⟨rfl,q,os,rfl⟩
 exact ⟨rfl,q,os,rfl⟩
theorem sortFunc_none {m:Nat} {g:FuncId}:CallsPV Tryz.prog 89 [.list m [],.fn g []] (.tup []):=by
 refine ⟨enters_of Tryz.func89 (by kernel_rfl) rfl,fun S w vs hS hv=>?_⟩
 obtain ⟨hl,hv⟩:=hv
 match vs,hl with
 | [u,f],_ =>
  have h0:RV S w (.list m []) u:=hv 0 _ u rfl rfl
  obtain ⟨a,ad,cap,g',rfl,_⟩:=RV.slice_iff h0
  refine (AnyF.slices_SortFunc_none laySortCell a cap f w).mono ?_
  rintro e w' ⟨rfl,rfl⟩
  exact ⟨_,rfl,Below.refl _ _,RV.tup [] [] rfl (by simp)⟩
end Go.Abs
namespace Go.Abs
open Go.RowKit Go.Proofs
theorem maps_Keys (ks vs:List PV):CallsPV Tryz.prog 270 [.map ks vs] (.fn 292 [.ptr [.map ks vs] 0]):=by
 refine callsPV_by (clo:=fun _=>false) (rows:=false) env_ok Tryz.func270 rfl (enters_of Tryz.func270 (by kernel_rfl) rfl) (fun A q P Y hr hA hq=>?_)
 conv=>cbv
 rw [←hq]
theorem keys_seq (cs:List Cell) (vs:List PV) (hn:cs.Nodup) (hl:cs.length=vs.length) {ks:List PV} (hks:ks=cs.map encCell) :
  SeqG Tryz.prog 292 [.ptr [.map ks vs] 0] (cs.map fun c=>[encCell c]) true:=by
 refine seqAny_by (clo:=fun _=>false) (rows:=false) env_ok Tryz.func292 rfl (enters_of Tryz.func292 (by kernel_rfl) rfl) rfl (fun A P Y Y' y R hr hys hy hA hR=>?_)
 have hyl:Y.ys.length=cs.length:=by rw [hys];simp
 obtain ⟨es,hes⟩:∃es,es=A.eZip ks vs:=⟨_,rfl⟩
 conv=>cbv
 refine loop_set hA (fun (z:List PV × Nat) s=>{ s with ax:=⟨[.iter none (A.eZip ks vs) z.1 none],z.2⟩ })
  (fun z=>∃left:List Cell,z.1=left.map encCell∧left.Nodup∧(∀c∈left,c∈cs)∧(∀(i:Nat) (c:Cell),cs[i]?=some c→z.2.testBit i=!decide (c∈left))∧z.2<2 ^ cs.length) (fun z=>z.1.length) (ks,0) ?_ ?_ ?_
 ·conv=>cbv
  exact wk_sl (by repeat (first | refine leL_same ?_ | refine leL_any ?_ | exact leL_nil))
 ·exact ⟨cs,hks,hn,fun _ h=>h,fun i c h=>by simp [List.mem_of_getElem? h],Nat.two_pow_pos _⟩
 rintro R2 ⟨lf,k⟩ ⟨left,hl1,hl2,hl3,hl4,hl5⟩ hR2
 simp only at hl1 hl4 hl5
 conv=>cbv
 refine nxt_intro hA (fun h0=>?_) (fun q w hq hqv=>?_)
 ·conv=>cbv
  refine hR _ (.inl ?_)
  have hl0:left=[]:=List.map_eq_nil_iff.1 (hl1.symm.trans h0)
  have e:k=2 ^ cs.length - 1:=by
   refine Nat.eq_of_testBit_eq fun i=>?_
   rw [Nat.testBit_two_pow_sub_one]
   rcases Nat.lt_or_ge i cs.length with h | h
   ·rw [hl4 i _ (List.getElem?_eq_getElem h),hl0,decide_eq_true h];simp
   ·rw [decide_eq_false (by omega)]
    exact Nat.testBit_lt_two_pow (Nat.lt_of_lt_of_le hl5 (Nat.pow_le_pow_right (by decide) h))
  show k+1=2 ^ _
  rw [List.length_map]
  have:=Nat.two_pow_pos cs.length
  omega
 ·rw [hl1] at hq
  obtain ⟨c,hc,hcq⟩:=List.mem_map.1 hq
  subst hcq
  obtain ⟨i,hi⟩:=List.getElem?_of_mem (hl3 c hc)
  have hb:k.testBit i=false:=by rw [hl4 i c hi,decide_eq_true hc];rfl
  have hyi:Y.ys[i]?=some [encCell c]:=by rw [hys,List.getElem?_map,hi];rfl
  have hil:=(List.getElem?_eq_some_iff.1 hi).1
  obtain ⟨k1,k2,k3⟩:=c
  have hdr:A.lDrop lf (.agg [.bool k1,.int .i64 k2,.int .i64 k3])=(left.filter fun d=>!decide ((⟨k1,k2,k3⟩:Cell)=d)).map encCell:=by
   subst hA
   rw [hl1]
   show (left.map encCell).filter (fun y=>!keq (encCell ⟨k1,k2,k3⟩) y)=_
   rw [List.filter_map]
   simp only [Function.comp_def,keq_Cell]
  have hlk:lookE (A.eZip ks vs) (encCell ⟨k1,k2,k3⟩)=some w:=by
   subst hA
   refine (lookE_some (es:=ks.zip vs) ?_ rfl).2 hqv
   unfold NodK
   rw [show (ks.zip vs).map (·.1)=ks from List.map_fst_zip (by rw [hks,List.length_map];omega),hks]
   exact List.Pairwise.map _ (fun a b h e=>h (by have:=keq_Cell a b;rw [e,keq_self rfl] at this;simpa using this)) hn
  conv=>cbv
  refine ent_intro hA hlk ?_
  conv=>cbv
  refine yld_any hA rfl hy i (by rw [hyl];exact hl5) hyi hb (fun n hn'=>?_) (fun n hn'=>?_)
  ·conv=>cbv
   split
   ·rename_i hc
    cases (nT hA hc)
   conv=>cbv
   refine hR2 (A.lDrop lf (.agg [.bool k1,.int .i64 k2,.int .i64 k3]),n) _ ?_ ?_ ?_
   ·(conv=>cbv)
    exact Wk.trans _ _ _ (Wk.forgetMp _ _ _ _ [.iter none (A.eZip ks vs) (A.lDrop lf (.agg [.bool k1,.int .i64 k2,.int .i64 k3])) none] _ ⟨⟨rfl,rfl,rfl,.inl rfl⟩,trivial⟩) (wk_round (bx:=[]) (bx':=[_]) (mp:=[_]) (mp':=[]) (by repeat (first | refine leL_same ?_ | refine leL_any ?_ | exact leL_nil)) (by simp) (.inl rfl) rfl rfl)
   ·refine ⟨left.filter fun d=>!decide ((⟨k1,k2,k3⟩:Cell)=d),hdr,hl2.filter _,fun c h=>hl3 c (List.mem_filter.1 h).1,fun j d hd=>?_,?_⟩
    ·show n.testBit j=_
     rw [hn',Nat.testBit_or,Nat.testBit_two_pow]
     rw [hl4 j d hd]
     by_cases e:i=j
     ·subst e
      have:d=⟨k1,k2,k3⟩:=Option.some.inj (hd.symm.trans hi)
      subst this
      simp
     ·have e2:(⟨k1,k2,k3⟩:Cell)≠d:=fun h=>e ((List.getElem?_inj hil hn).1 (hi.trans (by rw [h,←hd])))
      simp [e,e2]
    ·show n < _
     rw [hn']
     exact Nat.or_lt_two_pow hl5 (Nat.pow_lt_pow_right (by decide) hil)
   ·show (A.lDrop lf _).length<lf.length
    rw [hdr,hl1,List.length_map,List.length_map]
    exact List.length_filter_lt_length_iff_exists.2 ⟨_,hc,by simp⟩
  ·conv=>cbv
   split
   ·conv=>cbv
    refine hR _ (.inr ?_)
    show n=_
    rw [hn',hyl,List.length_map]
   ·rename_i hc
    cases nF hA hc
end Go.Abs
namespace Go.Abs
open Go.RowKit Go.Proofs
def cloSC (n:Nat):Bool:=n == 10000000 || n == 5000000+291 || n == 5000000+305
theorem ArgM.more {α:Type} {pv:α→List PV} {m k0:Nat} {b:List α} {rs:List (Option (List SV))} {arg:SV} (h:ArgM pv m k0 b rs arg) (ex:List (Option (List SV))):ArgM pv m k0 b (rs++ex) arg:=by
 rcases h with h | ⟨h0,j,cap,h1,junk,h2,h3⟩
 ·exact .inl h
 ·exact .inr ⟨h0,j,cap,h1,junk,by rw [List.getElem?_append_left (List.getElem?_eq_some_iff.1 h2).1,h2],h3⟩
theorem appendSeqC {f:FuncId} {caps:List PV} (cs:List Cell) (hn:cs.Nodup) (hlen:cs.length≤10000000) (hseq:SeqG Tryz.prog f caps (cs.map fun c=>[encCell c]) true) :
  CallsR ⟨Tryz.prog,tab,cloSC,true,.none⟩ 305 [.lit 0 [],.val (.fn f caps)] [] [] ⟨[],0⟩
   (fun r bx' tk' ax'=>∃b,tk'=[]∧ax'=⟨[],0⟩∧b.Perm cs∧ArgM pvC 3 0 b bx' r):=by
 refine callsR_by (clo:=cloSC) (rows:=true) env_ok Tryz.func305 rfl (enters_of Tryz.func305 (by kernel_rfl) rfl) (by intro h;rfl) (fun A P' Y' nb R hA hnb hR=>?_)
 conv=>cbv
 refine bxo_intro hA ⟨by trivial,?_⟩
 conv=>cbv
 refine rng_introG hA hseq (fun x hx=>?_) (fun (y:List (Option (List SV))) s=>{ s with bx:=y }) (fun k y=>∃b arg rs,y=some [arg]::rs∧Got cs k b∧ArgM pvC 3 1 b rs arg) [some [.lit 0 []]] ?_ ?_ ?_ ?_ ?_
 ·obtain ⟨y,_,rfl⟩:=List.mem_map.1 hx;rfl
 ·exact fun y=>rfl
 ·exact Wk.refl _
 ·exact ⟨[],_,_,rfl,Got.nil _,.inl ⟨rfl,rfl⟩⟩
 ·rintro R2 k k1 B x hk ⟨b,arg,rs,hB,hgot,harg⟩ hR2
  obtain ⟨c,rfl,hc,hcb,hgot1⟩:=hgot.next hn hk
  have hbl:b.length≤10000000:=Nat.le_trans (hgot.2.1.length_le_of_subset hgot.2.2.1) hlen
  have hap:=fun ex sl K=>appM (E:=⟨Tryz.prog,tab,cloSC,true,.none⟩) hA (pv:=pvC) (m:=3) (ts:=104) (e:=87) rfl rfl rfl (by decide) (by decide) (fun _=>rfl) (bx0:=[some [arg]]) (k0:=1) rfl (harg.more ex) hbl c sl [] ⟨[],0⟩ K
  have hone:arg.one=true:=by
   rcases harg with ⟨_,rfl⟩ | ⟨_,_,_,rfl,_⟩<;>rfl
  have hpv:pvC c=[.bool c.Airport,.int .i64 c.Index,.int .i64 c.Minute]:=rfl
  obtain ⟨ca,ci,cm⟩:=c
  conv=>cbv
  refine alc_at hA (z:=[.bool false,.int .i64 0,.int .i64 0]) rfl rfl (by decide) (fun n B1 hn1 hB1=>?_)
  simp only at hn1 hB1
  have hn2:n=1+rs.length:=by rw [hn1,hB];simp;omega
  conv=>cbv
  have h1:B1[n]?=some (some [.val (.bool false),.val (.int .i64 0),.val (.int .i64 0)]):=by
   rw [hB1,hn1,List.getElem?_append_right (Nat.le_refl _),Nat.sub_self];rfl
  refine rstA_at hA h1 rfl rfl rfl (Nat.le_refl 3) (fun B2 hB2=>?_)
  have hB2':B2=[some [arg]]++(rs++[some [.val (.bool ca),.val (.int .i64 ci),.val (.int .i64 cm)]]):=by
   rw [hB2,hB1,hB,hn1,hB]
   simp
  conv=>cbv
  refine rld_at hA (cs:=[arg]) (c:=arg) (by rw [hB2'];rfl) rfl rfl rfl ?_
  conv=>cbv
  refine rldA_at hA (cs:=[.val (.bool ca),.val (.int .i64 ci),.val (.int .i64 cm)]) (by rw [hB2',hn2,List.getElem?_append_right (by simp),List.getElem?_append_right (by simp)];simp) rfl rfl (Nat.le_refl 3) ?_
  conv=>cbv
  have hap1:=hap [some [.val (.bool ca),.val (.int .i64 ci),.val (.int .i64 cm)]]
  rw [←hB2'] at hap1
  refine hap1 _ _ (fun j cap rs' hrow=>?_)
  obtain ⟨B3,hB3⟩:∃B3,B3=[some [arg]]++rs':=⟨_,rfl⟩
  obtain ⟨id,hid⟩:∃id,id=1+j:=⟨_,rfl⟩
  obtain ⟨nn,hnn⟩:∃nn,nn=b.length+1:=⟨_,rfl⟩
  rw [←hB3,←hid,←hnn]
  conv=>cbv
  refine rst_at hA (cs:=[arg]) (by rw [hB3];rfl) rfl rfl rfl Nat.zero_lt_one (fun B4 hB4=>?_)
  conv=>cbv
  refine hR2 B4 _ (Wk.refl _) ⟨_,.row id 0 3 nn cap,rs',by rw [hB4,hB3];rfl,hgot1,.inr ⟨by simp,j,cap,?_,hrow⟩⟩
  rw [hid,hnn];simp
 ·rintro k B hfin ⟨b,arg,rs,hB,hgot,harg⟩
  have hperm:=hgot.fin hn hfin
  conv=>cbv
  refine rld_at hA (cs:=[arg]) (c:=arg) (by rw [hB];rfl) rfl rfl rfl ?_
  rcases harg with ⟨hb,rfl⟩ | ⟨hb0,j,cap,harg,hrow⟩
  ·conv=>cbv
   exact hR _ ⟨_,.lit 0 [],Wk.refl _,.inr (.inl ⟨4,rfl,rfl⟩),b,rfl,rfl,hperm,.inl ⟨hb,rfl⟩⟩
  ·obtain ⟨id,hid⟩:∃id,id=1+j:=⟨_,rfl⟩
   obtain ⟨n,hn⟩:∃n,n=b.length:=⟨_,rfl⟩
   rw [←hid,←hn] at harg
   subst harg
   conv=>cbv
   refine hR _ ⟨_,.row id 0 3 n cap,Wk.refl _,.inr (.inl ⟨4,rfl,rfl⟩),b,rfl,rfl,hperm,.inr ⟨hb0,j+1,cap,?_,?_⟩⟩
   ·rw [hid,hn,show 1+j=0+(j+1) by omega]
   ·obtain ⟨junk,h1,h2⟩:=hrow
    exact ⟨junk,by rw [hB];exact h1,h2⟩
theorem collectC {f:FuncId} {caps:List PV} (cs:List Cell) (hn:cs.Nodup) (hlen:cs.length≤10000000) (hseq:SeqG Tryz.prog f caps (cs.map fun c=>[encCell c]) true) :
  CallsR ⟨Tryz.prog,tab,cloSC,true,.none⟩ 291 [.val (.fn f caps)] [] [] ⟨[],0⟩
   (fun r bx' tk' ax'=>∃b,tk'=[]∧ax'=⟨[],0⟩∧b.Perm cs∧ArgM pvC 3 0 b bx' r):=by
 refine callsR_by (clo:=cloSC) (rows:=true) env_ok Tryz.func291 rfl (enters_of Tryz.func291 (by kernel_rfl) rfl) (by intro h;rfl) (fun A P' Y' nb R hA hnb hR=>?_)
 conv=>cbv
 refine shareR_intro hA (appendSeqC cs hn hlen hseq) (fun r bx' tk' ax' h=>?_)
 obtain ⟨b,rfl,rfl,hperm,harg⟩:=h
 have h2:ArgM pvC 3 0 b bx' r:=harg
 rcases harg with ⟨hb,rfl⟩ | ⟨hb0,j,cap,harg,hrow⟩
 ·conv=>cbv
  exact hR _ ⟨_,.lit 0 [],Wk.refl _,.inr (.inl ⟨2,rfl,rfl⟩),b,rfl,rfl,hperm,h2⟩
 ·obtain ⟨id,hid⟩:∃id,id=0+j:=⟨_,rfl⟩
  obtain ⟨n,hn⟩:∃n,n=b.length:=⟨_,rfl⟩
  rw [←hid,←hn] at harg
  subst harg
  conv=>cbv
  exact hR _ ⟨_,.row id 0 3 n cap,Wk.refl _,.inr (.inl ⟨2,rfl,rfl⟩),b,rfl,rfl,hperm,h2⟩
theorem CallsPV.nilm {P:Program} {f:FuncId} {args:List PV} {m m':Nat} (h:CallsPV P f args (.list m [])) (h0:m'=0→m=0:=by intro h;first | rfl | cases h):CallsPV P f args (.list m' []):=by
 refine ⟨h.1,fun S w vs hS hv=>(h.2 S w vs hS hv).mono ?_⟩
 rintro e w' ⟨v,rfl,hb,hr⟩
 refine ⟨v,rfl,hb,?_⟩
 obtain ⟨a,ad,cap,g,rfl,h1,h2,h3,h4,h5,h6⟩:=RV.slice_iff hr
 exact RV.list_nil m' a cap h3 (fun e=>RV.nilz hr (h0 e))
set_option maxRecDepth 4000 in
/-- slices.SortedFunc of cells that come in whatever order,each once. -/
theorem sortedFuncC {f:FuncId} {caps:List PV} (cs:List Cell) (hn:cs.Nodup) (hlen:cs.length≤10000000) (hseq:SeqG Tryz.prog f caps (cs.map fun c=>[encCell c]) true) :
  CallsPV Tryz.prog 269 [.fn f caps,.fn 35 []] (.list 3 (encCells (sortC cs))):=by
 by_cases h0:cs=[]
 ·subst h0
  rw [show encCells (sortC [])=[] by simp [encCells,sortC]]
  refine CallsPV.nilm (m:=0) ?_
  refine callsPV_by (clo:=cloSC) (rows:=true) env_ok Tryz.func269 rfl (enters_of Tryz.func269 (by kernel_rfl) rfl) (fun A q P Y hr hA hq=>?_)
  conv=>cbv
  refine shareR_intro hA (collectC [] hn hlen hseq) (fun r bx' tk' ax' h=>?_)
  obtain ⟨b,rfl,rfl,hperm,harg⟩:=h
  have hb:=hperm.eq_nil
  subst hb
  rcases harg with ⟨_,rfl⟩ | ⟨hb0,j,cap,harg,hrow⟩
  ·conv=>cbv
   refine call_intro hA sortFunc_none ?_
   conv=>cbv
   exact ⟨_,Frz.refl _ _,by (conv=>cbv);exact hq⟩
  ·exact absurd rfl hb0
 refine callsPV_by (clo:=cloSC) (rows:=true) env_ok Tryz.func269 rfl (enters_of Tryz.func269 (by kernel_rfl) rfl) (fun A q P Y hr hA hq=>?_)
 conv=>cbv
 refine shareR_intro hA (collectC cs hn hlen hseq) (fun r bx' tk' ax' h=>?_)
 obtain ⟨b,rfl,rfl,hperm,harg⟩:=h
 rcases harg with ⟨hb,rfl⟩ | ⟨hb0,j,cap,harg,hrow⟩
 ·subst hb
  exact absurd hperm.nil_eq.symm h0
 ·obtain ⟨id,hid⟩:∃id,id=0+j:=⟨_,rfl⟩
  obtain ⟨n,hn'⟩:∃n,n=b.length:=⟨_,rfl⟩
  rw [←hid,←hn'] at harg
  subst harg
  obtain ⟨junk,h1,h2,h3,h4⟩:=hrow
  have hc:bx'[id]?=some (some ((b.flatMap pvC).map SV.val++(junk.flatten).map SV.val)):=by
   rw [hid,Nat.zero_add,h1,rowCells_split]
  have hbl:b.length<4611686018427387904:=by have:=hperm.length_eq;omega
  have hs:=sortFunc_Cell (rows:=true) (clo:=cloSC) (Y:=.none) (tk:=[]) (ax:=⟨[],0⟩) (cap:=cap) hc hn' hbl
  conv=>cbv
  refine shareR_intro hA hs (fun r bx2 tk2 ax2 h=>?_)
  obtain ⟨rfl,hbx2,rfl,rfl⟩:=h
  conv=>cbv
  have hget:bx2[id]?=some (some (rowCells pvC (sortC b) junk)):=by
   rw [hbx2,List.getElem?_set_self (List.getElem?_eq_some_iff.1 hc).1,rowCells_split]
  have hx:rowSV id 3 (((sortC b).map pvC++junk).map PV.agg) (.row id 0 3 n cap)=.val (.list 3 (encCells (sortC cs))):=by
   unfold rowSV
   have hsl:(sortC b).length=b.length:=(sortC_perm b).length_eq
   simp only
   rw [if_pos ⟨trivial,trivial,trivial,by simp;omega⟩,List.map_append,List.take_left' (by simp;omega),sortC_congr hperm,List.map_map]
   rfl
  generalize encCells (sortC cs)=zs at hx hq
  refine ⟨_,Frz.row id 3 _ (((sortC b).map pvC++junk).map PV.agg) _ _ _ _ (by rw [List.getD_eq_getElem?_getD,hget];rfl) (rowCells_agg _ _ _) (fun x hx=>?_) (Frz.refl _ _),?_⟩
  ·obtain ⟨y,hy,rfl⟩:=List.mem_map.1 hx
   rcases List.mem_append.1 hy with h | h
   ·obtain ⟨z,_,rfl⟩:=List.mem_map.1 h;rfl
   ·exact h2 y h
  ·simp only [St.sealRow,List.map_cons,List.map_nil,hx]
   (conv=>cbv)
   exact hq
def usesM (es:List (Cell × Int)):List Use:=(sortC (es.map (·.1))).map fun c=>⟨c,(lookM es c).getD 0⟩
set_option maxHeartbeats 4000000 in
theorem dm_sorted (es:List (Cell × Int)) (hn:NodM es) (hlen:es.length≤10000000) {ks vs xs:List PV} (hks:ks=keysM es) (hvs:vs=valsM es) (hxs:xs=encUses (usesM es)) :
  CallsPV Tryz.prog 217 [.map ks vs] (.list 4 xs):=by
 refine callsPV_by (clo:=fun _=>false) (rows:=false) env_ok Tryz.func217 rfl (enters_of Tryz.func217 (by kernel_rfl) rfl) (fun A q P Y hr hA hq=>?_)
 have hkl:ks.length=vs.length:=by rw [hks,hvs];simp [keysM,valsM]
 have hks':ks=(es.map (·.1)).map encCell:=by rw [hks];simp [keysM]
 have hs:=sortedFuncC (es.map fun p:Cell × Int=>p.1) hn (by simpa using hlen) (keys_seq (es.map fun p:Cell × Int=>p.1) vs hn (by rw [←hkl,hks'];simp) hks')
 obtain ⟨L,hL⟩:∃L,L=sortC (es.map (·.1)):=⟨_,rfl⟩
 have hLl:L.length=es.length:=by rw [hL,(sortC_perm _).length_eq,List.length_map]
 have hxs':xs=encUses (L.map fun c=>⟨c,(lookM es c).getD 0⟩):=by rw [hxs,hL];rfl
 rw [←hL] at hs
 obtain ⟨ys,hys⟩:∃ys,ys=encCells L:=⟨_,rfl⟩
 rw [←hys] at hs
 have hyl:ys.length=L.length:=by rw [hys];simp [encCells]
 conv=>cbv
 refine call_intro hA (maps_Keys ks vs) ?_
 conv=>cbv
 refine call_intro hA hs ?_
 conv=>cbv
 refine loop_set hA (fun (z:Int × List PV) s=>{ (s.put (some 9) (.val (.int .i64 z.1))).put (some 2) (.own 0 4 z.2) with tk:=[(A.nLen z.2,100)] })
  (fun z=>0≤z.1∧z.1≤L.length∧z.2=encUses ((L.take z.1.toNat).map fun c=>⟨c,(lookM es c).getD 0⟩)) (fun z=>(L.length - z.1).toNat) (0,[]) ?_ ?_ ?_
 ·conv=>cbv
  exact wk_own 2 0 4 [] _ rfl (.inr rfl) (by repeat (first | refine leL_same ?_ | refine leL_any ?_ | exact leL_nil)) (by subst hA;rfl)
 ·exact ⟨Int.le_refl _,by omega,rfl⟩
 ·rintro R ⟨i,U⟩ ⟨hi0,hi1,hU⟩ hR
  simp only at hi0 hi1 hU
  conv=>cbv
  split
  ·rename_i hc
   have hi:i<L.length:=ltT' hA rfl (lenI hA hyl) hc
   have his:A.iAdd i 1=i+1:=addI hA _ _
   have hir:A.inR (A.iAdd i 1):=inR' hA his (by unfold inI64;omega)
   conv=>cbv
   refine idx_Cell hA hys hi0 hi (fun c hc=>?_)
   have htake:=take_snoc' hi0 hc
   obtain ⟨o,ho⟩:∃o,o=(lookM es c).getD 0:=⟨_,rfl⟩
   have hkk:keysOk true [.bool,.int,.int] (ks.zip vs) (encCell c):=by rw [hks,hvs,←encM_zip];exact keysOk_Cell _ _
   have hlk:(lookE (ks.zip vs) (encCell c)).getD (.int .i64 0)=.int .i64 o:=by
    rw [hks,hvs,←encM_zip,lookE_enc keq_Cell,ho]
    cases lookM es c<;>rfl
   have hnext:A.lApp U [.agg [.bool c.Airport,.int .i64 c.Index,.int .i64 c.Minute,.int .i64 o]]=encUses ((L.take (i+1).toNat).map fun c=>⟨c,(lookM es c).getD 0⟩):=by
    rw [htake]
    subst hA hU
    show encUses _++_=_
    simp [encUses,encUse,ho]
   have hUl:U.length=i.toNat:=by rw [hU];simp [encUses];omega
   have hroom:A.room (A.nLen (A.lApp U [.agg [.bool c.Airport,.int .i64 c.Index,.int .i64 c.Minute,.int .i64 o]])) 32:=by
    subst hA
    show (U++[_]).length*(32+1)≤140737488355328
    rw [List.length_append,List.length_singleton]
    omega
   have htk:A.tkEq (A.nLen U) (A.nLen U):=by subst hA;rfl
   obtain ⟨c1,c2,c3⟩:=c
   simp only at hnext hroom
   have hkk2:keysOk true [.bool,.int,.int] (A.eZip ks vs) (.agg [.bool c1,.int .i64 c2,.int .i64 c3]):=by subst hA;exact hkk
   have hlk2:(lookE (A.eZip ks vs) (.agg [.bool c1,.int .i64 c2,.int .i64 c3])).getD (.int .i64 0)=.int .i64 o:=by subst hA;exact hlk
   conv=>cbv
   refine ⟨draw_intro hA (by kernel_rfl),?_⟩
   refine ⟨kOk_intro hA hkk2,look_intro hA hlk2 rfl ?_⟩
   conv=>cbv
   refine ⟨⟨htk,hroom⟩,hir,hR (A.iAdd i 1,A.lApp U [.agg [.bool c1,.int .i64 c2,.int .i64 c3,.int .i64 o]]) _ ?_ ?_ ?_⟩
   ·(conv=>cbv)
    exact wk_round (bx:=[]) (bx':=[_]) (mp:=[]) (mp':=[]) (by repeat (first | refine leL_same ?_ | refine leL_any ?_ | exact leL_nil)) (by simp) (by simp) rfl rfl
   ·rw [his];exact ⟨by omega,by omega,hnext⟩
   ·rw [his];simp only;omega
  ·rename_i hc
   have hi:L.length≤i:=ltF' hA rfl (lenI hA hyl) hc
   conv=>cbv
   rw [List.take_of_length_le (by omega),←hxs'] at hU
   rw [←hq,hU]
end Go.Abs
namespace Go.Abs
open Go.RowKit Go.Proofs
def placesC (t:Tables) (cl:Int):Int:=match t.Kinds[cl.toNat]? with | some k=>k.Places | none=>0
def leastC (css:List (List Cell)) (many:Int):List Cell:=sortC (css.flatten.eraseDups.filter fun c=>decide (many≤(cntC css c:Int)))
def leastU (css:List (List Cell)) (many pl:Int):List Use:=(leastC css many).map fun c=>⟨c,pl⟩
def leastR (t:Tables) (s:List Change) (cl:Int) (l:List Path) (many:Int):PV :=
 if cntErr t s cl l≠0 then .tup [.list 0 [],.int .i64 (cntErr t s cl l)] else .tup [.list 4 (encUses (leastU (l.map (pathCells t s)) many (placesC t cl))),.int .i64 0]
def LeastOk (es:List (Cell × Int)) (css:List (List Cell)) (many pl:Int):Prop:=NodM es∧∀c,lookM es c=if many≤(cntC css c:Int)∧cntC css c≠0 then some pl else none
theorem nodup_eraseDups {α:Type} [BEq α] [LawfulBEq α]:∀(n:Nat) (l:List α),l.length≤n→l.eraseDups.Nodup
 | 0,l,h=>by
  have h0:l=[]:=List.eq_nil_of_length_eq_zero (Nat.le_zero.1 h)
  subst h0;simp
 | n+1,[],_=>by simp
 | n+1,x::l,h=>by
  rw [List.eraseDups_cons,List.nodup_cons]
  refine ⟨fun hm=>?_,nodup_eraseDups n _ (Nat.le_trans (List.length_filter_le _ _) (by simp at h;omega))⟩
  rw [List.mem_eraseDups,List.mem_filter] at hm
  simp at hm
theorem cntC_pos {css:List (List Cell)} {c:Cell}:cntC css c≠0↔c∈css.flatten:=by
 unfold cntC
 rw [←Nat.pos_iff_ne_zero,List.length_filter_pos_iff]
 simp only [decide_eq_true_eq,List.mem_flatten]
theorem usesM_least {es:List (Cell × Int)} {css:List (List Cell)} {many pl:Int} (h:LeastOk es css many pl):usesM es=leastU css many pl:=by
 unfold usesM leastU leastC
 have hmem:∀c,c∈es.map (·.1)↔many≤(cntC css c:Int)∧cntC css c≠0:=fun c=>by
  rw [←hasM_iff]
  have h1:=h.2 c
  constructor
  ·intro h2
   by_cases h3:many≤(cntC css c:Int)∧cntC css c≠0
   ·exact h3
   ·rw [if_neg h3] at h1
    rw [lookM_none.1 h1] at h2;cases h2
  ·intro h3
   rw [if_pos h3] at h1
   cases h4:hasM es c with
   | true=>rfl
   | false=>rw [lookM_none.2 h4] at h1;cases h1
 have hperm:(es.map fun p:Cell × Int=>p.1).Perm (css.flatten.eraseDups.filter fun c=>decide (many≤(cntC css c:Int))):=by
  refine (List.perm_ext_iff_of_nodup h.1 (List.Nodup.sublist List.filter_sublist (nodup_eraseDups _ _ (Nat.le_refl _)))).2 fun c=>?_
  rw [hmem c,List.mem_filter,List.mem_eraseDups,decide_eq_true_eq,cntC_pos,and_comm]
 rw [sortC_congr hperm]
 refine List.map_congr_left fun c hc=>?_
 have h1:c∈es.map fun p:Cell × Int=>p.1:=hperm.mem_iff.2 ((sortC_perm _).mem_iff.1 hc)
 rw [h.2 c,if_pos ((hmem c).1 h1)]
 rfl
def cloL (n:Nat):Bool:=n == 9000000 || n == 1000009 || n == 3000908 || n == 5000000+216 || n == 5000000+217
theorem lookM_del {es:List (Cell × Int)} {c d:Cell}:lookM (delM es c) d=if d=c then none else lookM es d:=by
 unfold lookM delM
 by_cases h:d=c
 ·subst h
  rw [if_pos rfl]
  simp only [List.find?_filter,Option.map_eq_none_iff,List.find?_eq_none]
  intro p _
  simp
 ·rw [if_neg h]
  congr 1
  rw [List.find?_filter]
  congr 1
  funext p
  by_cases e:d=p.1
  ·subst e;simp [Ne.symm h]
  ·simp [e]
theorem pathCells_len {t:Tables} {s:List Change} {p:Path} (h:stErr1 t p=0):(pathCells t s p).length≤14400:=by
 have h1:=staysP_len h
 unfold pathCells cellsOf
 have h2:∀x:Stay,(cellsS t s x).length≤1440:=fun x=>by
  unfold cellsS
  refine Nat.le_trans (List.length_filterMap_le _ _) ?_
  rw [rangeL_len]
  unfold hiM loM
  omega
 generalize staysP t p=l at h1
 have h3:(l.flatMap (cellsS t s)).length≤l.length*1440:=by
  clear h1
  induction l with
  | nil=>simp
  | cons x l ih=>rw [List.flatMap_cons,List.length_append,List.length_cons];have:=h2 x;omega
 omega
theorem stErr_mem {t:Tables}:∀{l:List Path},stErr t l=0→∀p∈l,stErr1 t p=0
 | [],_,p,hp=>by cases hp
 | x::l,h,p,hp=>by
  unfold stErr at h
  split at h
  ·rename_i h1
   rcases List.mem_cons.1 hp with rfl | h2
   ·exact h1
   ·exact stErr_mem h p h2
  ·rename_i h1;exact absurd h h1
theorem cnt_len {t:Tables} {s:List Change} {cl:Int} {l:List Path} (h:cntErr t s cl l=0):(l.map (pathCells t s)).flatten.length≤14400*l.length:=by
 have h1:stErr t l=0:=by
  unfold cntErr at h
  split at h
  ·rename_i h1;exact absurd h h1
  ·split at h
   ·cases h
   ·exact h
 have h2:=stErr_mem h1
 clear h h1
 induction l with
 | nil=>simp
 | cons x l ih =>
  rw [List.map_cons,List.flatten_cons,List.length_append,List.length_cons]
  have h3:=ih fun p hp=>h2 p (by simp [hp])
  have h4:=pathCells_len (s:=s) (h2 x (by simp))
  omega
set_option maxRecDepth 40000 in
set_option maxHeartbeats 4000000 in
theorem dm_least (t:Tables) (s:List Change) (cl:Int) (l:List Path) (many:Int) {xs:List PV} (hx:xs=encPaths l) (hlen:l.length≤150) :
  CallsPV Tryz.prog 158 [encTables t,encScheme s,.int .i64 cl,.list 2 xs,.int .i64 many] (leastR t s cl l many):=by
 refine callsPV_by (clo:=cloL) (rows:=true) env_ok Tryz.func158 rfl (enters_of Tryz.func158 (by kernel_rfl) rfl) (fun A q P Y hr hA hq=>?_)
 have hct:=fun c0 c1 h0 h1=>CallsR.flags (clo':=cloL) (rows':=true) (dm_counted t s cl l c0 c1 h0 h1 hx (by omega))
 unfold leastR at hq
 unfold cntQ at hct
 obtain ⟨css,hcss⟩:∃css,css=l.map (pathCells t s):=⟨_,rfl⟩
 rw [←hcss] at hq hct
 have hclk:cntErr t s cl l=0→0≤cl∧cl<t.Kinds.length:=fun h=>by
  unfold cntErr at h
  split at h
  ·rename_i h1;exact absurd h h1
  ·split at h
   ·cases h
   ·omega
 have hcl:cntErr t s cl l=0→css.flatten.length≤14400*l.length:=fun h=>by rw [hcss];exact cnt_len h
 generalize cntErr t s cl l=e at hq hct hclk hcl
 have hsort:=fun es h1 h2=>dm_sorted es h1 h2 (ks:=keysM es) (vs:=valsM es) (xs:=encUses (usesM es)) rfl rfl rfl
 have hpl:∀k,t.Kinds[cl.toNat]?=some k→placesC t cl=k.Places:=fun k h=>by unfold placesC;rw [h]
 generalize placesC t cl=pl at hq hpl
 obtain ⟨ss,hss⟩:∃ss,ss=encSectors t.Sectors:=⟨_,rfl⟩
 obtain ⟨cs,hcs⟩:∃cs,cs=encConfigs t.Configs:=⟨_,rfl⟩
 obtain ⟨ws,hws⟩:∃ws,ws=encWays t.Ways:=⟨_,rfl⟩
 obtain ⟨ms,hms⟩:∃ms,ms=encIntLs t.Modes:=⟨_,rfl⟩
 obtain ⟨ks,hks⟩:∃ks,ks=encKinds t.Kinds:=⟨_,rfl⟩
 obtain ⟨nv,hnv⟩:∃nv,nv=t.Volumes:=⟨_,rfl⟩
 have htab:encTables t=.agg [.int .i64 nv,.list 5 ss,.list 3 cs,.list 3 ws,.list 1 ms,.list 6 ks]:=by rw [encTables_eq t hss hcs hws hms hks,hnv]
 rw [htab] at hct ⊢
 have hkl:ks.length=t.Kinds.length:=by rw [hks];simp [encKinds]
 obtain ⟨sc,hsc⟩:∃sc,sc=encChanges s:=⟨_,rfl⟩
 rw [encScheme_eq hsc] at hct ⊢
 have hct:=hct [.val (.int .i64 nv),.val (.list 5 ss),.val (.list 3 cs),.val (.list 3 ws),.val (.list 1 ms),.val (.list 6 ks)] [.val (.list 3 sc)] (by simp) (by simp)
 conv=>cbv
 refine shareR_intro hA hct (fun r bx' tk' ax' h=>?_)
 obtain ⟨rfl,rfl,h⟩:=h
 rcases h with ⟨he,rfl,rfl⟩ | ⟨he,rfl,es0,hes0,rfl⟩
 ·rw [if_pos he] at hq
  conv=>cbv
  split
  ·conv=>cbv
   exact ⟨_,Frz.refl _ _,by (conv=>cbv);exact hq⟩
  ·rename_i hc
   exact absurd (neF hA hc) he
 rw [if_neg (by simp [he])] at hq
 subst he
 obtain ⟨hcl0,hcl1⟩:=hclk rfl
 have hcl:=hcl rfl
 clear hclk
 obtain ⟨m,hm⟩:∃m,m=encM encCell encInt es0:=⟨_,rfl⟩
 rw [←hm]
 conv=>cbv
 split
 ·rename_i hc
  cases ((neT hA hc rfl))
 conv=>cbv
 refine loop_set hA (fun (z:List PV × List (PV × PV)) s=>{ s with ax:=⟨[.ents z.2 none,.iter (some 0) [] z.1 none],s.ax.yk⟩ })
  (fun z=>∃(left:List Cell) (es:List (Cell × Int)),z.1=left.map encCell∧left.Nodup∧(∀c∈left,cntC css c≠0)∧z.2=encM encCell encInt es∧NodM es∧∀c,lookM es c=if c∈left then cntO (cntC css c) else if many≤(cntC css c:Int)∧cntC css c≠0 then some pl else none)
  (fun z=>z.1.length) (A.eKeys m,m) ?_ ?_ ?_
 ·conv=>cbv
  exact wk_sl (by repeat (first | refine leL_same ?_ | refine leL_any ?_ | exact leL_nil))
 ·refine ⟨es0.map fun p:Cell × Int=>p.1,es0,?_,hes0.1,fun c h=>?_,hm,hes0.1,fun c=>?_⟩
  ·show A.eKeys m=_
   subst hA
   rw [hm]
   show (encM encCell _ es0).map (·.1)=_
   unfold encM
   rw [List.map_map,List.map_map]
   rfl
  ·intro h0
   have h1:=hes0.2 c
   rw [h0] at h1
   have h2:=lookM_none.1 h1
   rw [hasM_iff.2 h] at h2;cases h2
  ·split
   ·exact hes0.2 c
   ·rename_i h1
    have h2:lookM es0 c=none:=lookM_none.2 (by
     cases h:hasM es0 c with
     | false=>rfl
     | true=>exact absurd (hasM_iff.1 h) h1)
    have h3:=hes0.2 c
    rw [h2] at h3
    unfold cntO at h3
    split at h3
    ·rename_i h4
     rw [h2,if_neg (by simp [h4])]
    ·cases h3
 rintro R3 ⟨lf,m2⟩ ⟨left,es,hl1,hl2,hl3,hl4,hl5,hl6⟩ hR3
 simp only at hl1 hl4
 conv=>cbv
 refine nxt_intro hA (fun h0=>?_) (fun k w hk hkv=>?_)
 ·have hl0:left=[]:=List.map_eq_nil_iff.1 (hl1.symm.trans h0)
  have hLO:LeastOk es css many pl:=⟨hl5,fun c=>by rw [hl6 c,hl0];simp⟩
  have hel:es.length≤10000000:=by
   have h1:(es.map fun p:Cell × Int=>p.1).length≤css.flatten.length:=List.Nodup.length_le_of_subset hl5 fun c hc=>by
    obtain ⟨v,hv⟩:∃v,lookM es c=some v:=by
     cases h:lookM es c with
     | some v=>exact ⟨v,rfl⟩
     | none=>have:=lookM_none.1 h;rw [hasM_iff.2 hc] at this;cases this
    rw [hLO.2 c] at hv
    split at hv
    ·rename_i h;exact cntC_pos.1 h.2
    ·cases hv
   rw [List.length_map] at h1
   omega
  conv=>cbv
  refine frz_intro hA (Frz.map 0 m2 none (keysM es) (valsM es) _ _ _ _ rfl (by rw [hl4,encM_zip]) (by simp [keysM,valsM]) (Frz.refl _ _)) rfl (hsort es hl5 hel) ?_
  rw [usesM_least hLO]
  generalize encUses (leastU css many pl)=us at hq
  generalize keysM es=kk
  generalize valsM es=vv
  conv=>cbv
  exact ⟨_,Frz.refl _ _,by (conv=>cbv);exact hq⟩
 ·rw [hl1] at hk
  obtain ⟨c,hcl,hck2⟩:=List.mem_map.1 hk
  subst hck2
  obtain ⟨k1,k2,k3⟩:=c
  obtain ⟨o,ho⟩:∃o:Int,o=(cntC css ⟨k1,k2,k3⟩:Nat):=⟨_,rfl⟩
  have hlk:lookE m2 (encCell ⟨k1,k2,k3⟩)=some (.int .i64 o):=by
   rw [hl4,lookE_enc keq_Cell,hl6,if_pos hcl]
   unfold cntO
   rw [if_neg (hl3 _ hcl),ho]
   rfl
  conv=>cbv
  refine ent_intro hA (v:=.int .i64 o) hlk ?_
  conv=>cbv
  have hdr:A.lDrop lf (.agg [.bool k1,.int .i64 k2,.int .i64 k3])=(left.filter fun d=>!decide ((⟨k1,k2,k3⟩:Cell)=d)).map encCell:=by
   subst hA
   rw [hl1]
   show (left.map encCell).filter (fun y=>!keq (encCell ⟨k1,k2,k3⟩) y)=_
   rw [List.filter_map]
   simp only [Function.comp_def,keq_Cell]
  have hkk:keysOk true [.bool,.int,.int] m2 (.agg [.bool k1,.int .i64 k2,.int .i64 k3]):=by rw [hl4];exact keysOk_Cell es ⟨k1,k2,k3⟩
  split
  ·rename_i hc
   have hc:=ltT hA hc
   conv=>cbv
   refine ⟨kOk_intro hA hkk,hR3 (A.lDrop (A.lDrop lf (.agg [.bool k1,.int .i64 k2,.int .i64 k3])) (.agg [.bool k1,.int .i64 k2,.int .i64 k3]),A.eDel m2 (.agg [.bool k1,.int .i64 k2,.int .i64 k3])) _ ?_ ?_ ?_⟩
   ·(conv=>cbv)
    exact Wk.trans _ _ _ (Wk.forgetMp _ _ _ _ [.ents (A.eDel m2 (.agg [.bool k1,.int .i64 k2,.int .i64 k3])) none,.iter (some 0) [] (A.lDrop (A.lDrop lf (.agg [.bool k1,.int .i64 k2,.int .i64 k3])) (.agg [.bool k1,.int .i64 k2,.int .i64 k3])) none] _ ⟨⟨List.Perm.refl _,.inl rfl⟩,⟨rfl,rfl,rfl,.inl rfl⟩,trivial⟩) (wk_round (bx:=[_,_]) (bx':=[_]) (mp:=[_,_]) (mp':=[]) (by repeat (first | refine leL_same ?_ | refine leL_any ?_ | exact leL_nil)) (by simp) (by simp) rfl rfl)
   ·refine ⟨left.filter fun d=>!decide ((⟨k1,k2,k3⟩:Cell)=d),delM es ⟨k1,k2,k3⟩,?_,hl2.filter _,fun c h=>hl3 c (List.mem_filter.1 h).1,?_,hl5.del _,fun d=>?_⟩
    ·show A.lDrop (A.lDrop lf _) _=_
     rw [hdr]
     subst hA
     show (List.map encCell _).filter (fun y=>!keq (encCell ⟨k1,k2,k3⟩) y)=_
     rw [List.filter_map,List.filter_filter]
     simp only [Function.comp_def,keq_Cell,Bool.and_self]
    ·show A.eDel m2 _=_
     subst hA
     rw [hl4]
     exact delE_enc keq_Cell es ⟨k1,k2,k3⟩
    ·rw [lookM_del]
     by_cases e:d=⟨k1,k2,k3⟩
     ·subst e
      rw [if_pos rfl,if_neg (by simp),if_neg (by omega)]
     ·rw [if_neg e,hl6]
      have:(d∈left.filter fun d=>!decide ((⟨k1,k2,k3⟩:Cell)=d))↔d∈left:=by simp [Ne.symm e]
      simp only [this]
   ·show (A.lDrop (A.lDrop lf _) _).length<lf.length
    refine Nat.lt_of_le_of_lt (m:=(A.lDrop lf (.agg [.bool k1,.int .i64 k2,.int .i64 k3])).length) ?_ ?_
    ·subst hA;exact List.length_filter_le _ _
    ·rw [hdr,hl1,List.length_map,List.length_map]
     exact List.length_filter_lt_length_iff_exists.2 ⟨_,hcl,by simp⟩
  ·rename_i hc
   have hc:=ltF hA hc
   conv=>cbv
   refine ⟨cut_intro hA (by kernel_rfl),?_⟩
   refine idx_Kind hA hks hcl0 hcl1 (fun kd kv hkd hkv=>?_)
   have hplk:=hpl kd hkd
   obtain ⟨kd1,kd2,kd3,kd4,kd5,kd6⟩:=kd
   simp only at hplk
   subst hplk
   have hhas:A.eHas m2 (.agg [.bool k1,.int .i64 k2,.int .i64 k3]):=by
    subst hA
    show hasE m2 (encCell ⟨k1,k2,k3⟩)=true
    rw [hl4,hasE_enc keq_Cell]
    cases h:hasM es ⟨k1,k2,k3⟩ with
    | true=>rfl
    | false =>
     have h1:=hl6 ⟨k1,k2,k3⟩
     rw [lookM_none.2 h,if_pos hcl] at h1
     unfold cntO at h1
     rw [if_neg (hl3 _ hcl)] at h1
     cases h1
   conv=>cbv
   refine ⟨⟨kOk_intro hA hkk,hhas⟩,hR3 (A.lDrop lf (.agg [.bool k1,.int .i64 k2,.int .i64 k3]),A.ePut m2 (.agg [.bool k1,.int .i64 k2,.int .i64 k3]) (.int .i64 pl)) _ ?_ ?_ ?_⟩
   ·(conv=>cbv)
    exact Wk.trans _ _ _ (Wk.forgetMp _ _ _ _ [.ents (A.ePut m2 (.agg [.bool k1,.int .i64 k2,.int .i64 k3]) (.int .i64 pl)) none,.iter (some 0) [] (A.lDrop lf (.agg [.bool k1,.int .i64 k2,.int .i64 k3])) none] _ ⟨⟨List.Perm.refl _,.inl rfl⟩,⟨rfl,rfl,rfl,.inl rfl⟩,trivial⟩) (wk_round (bx:=[_,_]) (bx':=[_]) (mp:=[_,_]) (mp':=[]) (by repeat (first | refine leL_same ?_ | refine leL_any ?_ | exact leL_nil)) (by simp) (by simp) rfl rfl)
   ·refine ⟨left.filter fun d=>!decide ((⟨k1,k2,k3⟩:Cell)=d),putM es ⟨k1,k2,k3⟩ pl,hdr,hl2.filter _,fun c h=>hl3 c (List.mem_filter.1 h).1,?_,hl5.put _ _,fun d=>?_⟩
    ·show A.ePut m2 _ _=_
     subst hA
     rw [hl4]
     exact putE_enc keq_Cell es ⟨k1,k2,k3⟩ pl
    ·rw [lookM_put]
     by_cases e:d=⟨k1,k2,k3⟩
     ·subst e
      rw [if_pos rfl,if_neg (by simp),if_pos ⟨by omega,hl3 _ hcl⟩]
     ·rw [if_neg e,hl6]
      have:(d∈left.filter fun d=>!decide ((⟨k1,k2,k3⟩:Cell)=d))↔d∈left:=by simp [Ne.symm e]
      simp only [this]
   ·show (A.lDrop lf _).length<lf.length
    rw [hdr,hl1,List.length_map,List.length_map]
    exact List.length_filter_lt_length_iff_exists.2 ⟨_,hcl,by simp⟩
theorem leastR_cases (t:Tables) (s:List Change) (cl:Int) (l:List Path) (many:Int):∃(us:Nat × List PV) (e:Int),leastR t s cl l many=.tup [.list us.1 us.2,.int .i64 e]:=by
 unfold leastR
 split
 ·exact ⟨(0,[]),_,rfl⟩
 ·exact ⟨(4,_),_,rfl⟩
theorem dm_Uses (t:Tables) (s:List Change) (cl:Int) (l:List Path) {xs:List PV} (hx:xs=encPaths l) (hlen:l.length≤150) :
  CallsPV Tryz.prog 88 [encTables t,encScheme s,.int .i64 cl,.list 2 xs] (leastR t s cl l 1):=by
 refine callsPV_by (clo:=fun _=>false) (rows:=false) env_ok Tryz.func88 rfl (enters_of Tryz.func88 (by kernel_rfl) rfl) (fun A q P Y hr hA hq=>?_)
 have hcall:=dm_least t s cl l 1 hx hlen
 obtain ⟨⟨m,us⟩,e,hr2⟩:=leastR_cases t s cl l 1
 rw [hr2] at hq hcall
 obtain ⟨ss,hss⟩:∃ss,ss=encSectors t.Sectors:=⟨_,rfl⟩
 obtain ⟨cs,hcs⟩:∃cs,cs=encConfigs t.Configs:=⟨_,rfl⟩
 obtain ⟨ws,hws⟩:∃ws,ws=encWays t.Ways:=⟨_,rfl⟩
 obtain ⟨ms,hms⟩:∃ms,ms=encIntLs t.Modes:=⟨_,rfl⟩
 obtain ⟨ks,hks⟩:∃ks,ks=encKinds t.Kinds:=⟨_,rfl⟩
 obtain ⟨nv,hnv⟩:∃nv,nv=t.Volumes:=⟨_,rfl⟩
 have htab:encTables t=.agg [.int .i64 nv,.list 5 ss,.list 3 cs,.list 3 ws,.list 1 ms,.list 6 ks]:=by rw [encTables_eq t hss hcs hws hms hks,hnv]
 rw [htab] at hcall ⊢
 obtain ⟨sc,hsc⟩:∃sc,sc=encChanges s:=⟨_,rfl⟩
 rw [encScheme_eq hsc] at hcall ⊢
 conv=>cbv
 refine call_intro hA hcall ?_
 conv=>cbv
 exact hq
end Go.Abs
namespace Go.Abs
open Go.RowKit Go.Proofs
structure Choice where
 Delay:Int
 Cost:Int
 Changes:Int
 Uses:List Use
deriving DecidableEq
structure Vari where
 Flight:Int
 Node:Int
 Leaves:List Int
 Choices:List Choice
deriving DecidableEq
def encChoice (c:Choice):PV:=.agg [.int .i64 c.Delay,.int .i64 c.Cost,.int .i64 c.Changes,.list 4 (encUses c.Uses)]
def encChoices (l:List Choice):List PV:=l.map encChoice
def encVar (v:Vari):PV:=.agg [.int .i64 v.Flight,.int .i64 v.Node,.list 1 (encInts v.Leaves),.list 4 (encChoices v.Choices)]
def encVars (l:List Vari):List PV:=l.map encVar
section
variable {A:Ops} {E:Env}
theorem idx_Choice (hA:A=stdOps E) {l:List Choice} {xs:List PV} (hx:xs=encChoices l) {n:Int} {K:List PV→Prop} (h0:0≤n) (h1:n<l.length)
  (hk:∀x v,l[n.toNat]?=some x→v=encUses x.Uses→K [.int .i64 x.Delay,.int .i64 x.Cost,.int .i64 x.Changes,.list 4 v]):A.idx xs n K :=
 idx_var hA (l:=l) (enc:=encChoice) hx.symm h0 h1 fun x h=>hk x _ h rfl
theorem idx_Var (hA:A=stdOps E) {l:List Vari} {xs:List PV} (hx:xs=encVars l) {n:Int} {K:List PV→Prop} (h0:0≤n) (h1:n<l.length)
  (hk:∀x v w,l[n.toNat]?=some x→v=encInts x.Leaves→w=encChoices x.Choices→K [.int .i64 x.Flight,.int .i64 x.Node,.list 1 v,.list 4 w]):A.idx xs n K :=
 idx_var hA (l:=l) (enc:=encVar) hx.symm h0 h1 fun x h=>hk x _ _ h rfl rfl
end
theorem encChoice_eq (c:Choice) {us:List PV} (h:us=encUses c.Uses):encChoice c=.agg [.int .i64 c.Delay,.int .i64 c.Cost,.int .i64 c.Changes,.list 4 us]:=by rw [h];rfl
end Go.Abs
namespace Go.Abs
open Go.RowKit Go.Proofs
def curfewB (k:Kind) (a m:Int):Bool:=match k.Curfews[a.toNat]? with | some l=>inHours l m | none=>false
def coversL:List Leg→List Int→Bool
 | x::r,a::b::ts=>coversB x.Minutes ⟨a,b⟩&&coversL r (b::ts)
 | _,_=>true
def openB (k:Kind) (w:Way) (ts:List Int):Bool :=
 decide (ts.getLastD 0<1440)&&!curfewB k w.From (ts.headD 0)&&!curfewB k w.To (ts.getLastD 0)&&coversL w.Legs ts
def openP (t:Tables) (k:Kind) (p:Path):Bool:=match t.Ways[p.Way.toNat]? with | some w=>openB k w p.Times | none=>false
def allOpen (t:Tables) (f:Flight) (o:Opt):Bool:=match t.Kinds[f.Class.toNat]? with | some k=>(allP t f o).all (openP t k) | none=>false
def allowedE (t:Tables) (f:Flight) (o:Opt):Int :=
 if (delayF t f o).2.2≠0 then (delayF t f o).2.2 else if o.Cancel then 0 else if countE t f o≠0 then countE t f o else if allOpen t f o then 0 else 170
def optionsL (t:Tables) (f:Flight):List Opt:=(measuresF t f).filter fun o=>decide (allowedE t f o=0)
def leftB (f:Flight) (now:Int) (o:Opt):Bool:=o.Cancel || decide (now≤f.Window.From+o.Delay)
def forcedO:Opt:=⟨0,0,0,true⟩
def leftL (t:Tables) (f:Flight) (now:Int):List Opt:=(optionsL t f).filter (leftB f now)
def choicesO (t:Tables) (f:Flight) (now:Int):List Opt:=if leftL t f now=[] then [forcedO] else leftL t f now
def choicesE (t:Tables) (s:List Change) (f:Flight):Int:=if capErr t s≠0 then capErr t s else checkF t f
def usesL (t:Tables) (s:List Change) (cl:Int) (l:List Path):List Use:=if cntErr t s cl l=0 then leastU (l.map (pathCells t s)) 1 (placesC t cl) else []
def choiceF (t:Tables) (s:List Change) (f:Flight) (ann o:Opt):Choice :=
 ⟨if o.Cancel then 120 else (delayF t f o).1,if o.Cancel then 120*weightOf t f else (delayF t f o).2.1,if o=ann then 0 else 1,if o.Cancel then [] else usesL t s f.Class (allP t f o)⟩
def choicesC (t:Tables) (s:List Change) (f:Flight) (now:Int) (ann:Opt):List Choice:=(choicesO t f now).map (choiceF t s f ann)
def choicesR (t:Tables) (s:List Change) (f:Flight) (now:Int) (ann:Opt):PV :=
 if choicesE t s f=0 then .tup [.list 4 (encChoices (choicesC t s f now ann)),.list 4 (encOpts (choicesO t f now)),.int .i64 0] else .tup [.list 0 [],.list 0 [],.int .i64 (choicesE t s f)]
def fixedD (t:Tables) (f:Flight) (o:Opt):Int × Int × Int:=if o=forcedO then (120,120*weightOf t f,0) else delayF t f o
def fixedE (t:Tables) (s:List Change) (f:Flight) (o:Opt) (l:List Path):Int :=
 if capErr t s≠0 then capErr t s else if checkF t f≠0 then checkF t f else if (fixedD t f o).2.2≠0 then (fixedD t f o).2.2 else cntErr t s f.Class l
def fixedC (t:Tables) (s:List Change) (f:Flight) (o:Opt) (l:List Path):Choice:=⟨(fixedD t f o).1,(fixedD t f o).2.1,0,usesL t s f.Class l⟩
def fixedR (t:Tables) (s:List Change) (f:Flight) (o:Opt) (l:List Path):PV :=
 if fixedE t s f o l=0 then .tup [encChoice (fixedC t s f o l),.int .i64 0] else .tup [.agg [.int .i64 0,.int .i64 0,.int .i64 0,.list 0 []],.int .i64 (fixedE t s f o l)]
theorem allP_ok {t:Tables} {f:Flight} {o:Opt} {p:Path} (hp:p∈allP t f o):countE t f o=0:=by
 unfold allP at hp
 split at hp
 ·assumption
 ·cases hp
theorem stErr_all {t:Tables}:∀{l:List Path},(∀p∈l,stErr1 t p=0)→stErr t l=0
 | [],_=>rfl
 | p::r,h=>by
  unfold stErr
  rw [if_pos (h p (by simp))]
  exact stErr_all fun q hq=>h q (by simp [hq])
theorem cnt_all {t:Tables} {s:List Change} {f:Flight} {o:Opt} (hc:capErr t s=0) (hf:checkF t f=0):cntErr t s f.Class (allP t f o)=0:=by
 unfold cntErr
 rw [if_neg (by rw [hc];simp)]
 obtain ⟨k,hk,hk0,_⟩:=checkF_kind hf
 rw [if_neg (by have:=(List.getElem?_eq_some_iff.1 hk).1;omega)]
 refine stErr_all fun p hp=>?_
 obtain ⟨w,hw⟩:=flown_ok (allP_ok hp) hp
 exact hw.err
end Go.Abs
namespace Go.Abs
open Go.RowKit Go.Proofs
def optC (o:Opt):List SV:=(encOpt o).cells.map SV.val
def rowC (l:List Opt):List SV:=l.flatMap optC
theorem optC_len (o:Opt):(optC o).length=4:=rfl
theorem rowC_cons (o:Opt) (l:List Opt):rowC (o::l)=optC o++rowC l:=rfl
theorem rowC_append (a b:List Opt):rowC (a++b)=rowC a++rowC b:=by simp [rowC]
theorem rowC_len:∀(l:List Opt),(rowC l).length=l.length*4
 | []=>rfl
 | o::r=>by rw [rowC_cons,List.length_append,rowC_len r,optC_len,List.length_cons];omega
theorem rowC_get {l:List Opt} {i:Nat} {o:Opt} (h:l[i]?=some o) (z:List SV):((rowC l++z).drop (i*4)).take 4=optC o:=by
 have hi:=(List.getElem?_eq_some_iff.1 h).1
 have e:l=l.take i++(o::l.drop (i+1)):=by
  rw [←(List.getElem?_eq_some_iff.1 h).2,List.getElem_cons_drop,List.take_append_drop]
 have hl:(rowC (l.take i)).length=i*4:=by rw [rowC_len,List.length_take,Nat.min_eq_left (by omega)]
 rw [e,rowC_append,rowC_cons,List.append_assoc,List.drop_left' hl,List.append_assoc,List.take_left' (optC_len o)]
theorem rowC_set {l:List Opt} {i:Nat} (o:Opt) (h:i<l.length) (z:List SV):(rowC l++z).take (i*4)++(optC o++(rowC l++z).drop (i*4+4))=rowC (l.set i o)++z:=by
 obtain ⟨o0,h0⟩:∃o0,l[i]?=some o0:=⟨_,List.getElem?_eq_getElem h⟩
 have e:l=l.take i++(o0::l.drop (i+1)):=by
  rw [←(List.getElem?_eq_some_iff.1 h0).2,List.getElem_cons_drop,List.take_append_drop]
 have hl:(rowC (l.take i)).length=i*4:=by rw [rowC_len,List.length_take,Nat.min_eq_left (by omega)]
 have e2:l.set i o=l.take i++(o::l.drop (i+1)):=by
  rw [List.set_eq_take_append_cons_drop,if_pos h]
 generalize l.drop (i+1)=r at e e2
 generalize l.take i=p at e hl e2
 have e3:rowC l++z=rowC p++(optC o0++(rowC r++z)):=by rw [e,rowC_append,rowC_cons];simp
 have e4:rowC l++z=(rowC p++optC o0)++(rowC r++z):=by rw [e3];simp
 have h1:(rowC l++z).take (i*4)=rowC p:=by rw [e3];exact List.take_left' hl
 have h2:(rowC l++z).drop (i*4+4)=rowC r++z:=by rw [e4];exact List.drop_left' (by rw [List.length_append,hl,optC_len])
 rw [h1,h2,e2,rowC_append,rowC_cons]
 simp
theorem rowC_within (l:List Opt) (a b c:Nat):(rowC l).all (SV.within a b c)=true:=by
 rw [List.all_eq_true]
 intro x hx
 obtain ⟨o,_,hx⟩:=List.mem_flatMap.1 hx
 obtain ⟨p,_,rfl⟩:=List.mem_map.1 hx
 rfl
theorem anyC_within (n a b c:Nat):(List.replicate n (SV.val .any)).all (SV.within a b c)=true:=by
 rw [List.all_eq_true]
 intro x hx
 rw [(List.mem_replicate.1 hx).2]
 rfl
theorem pvsOf_val:∀(l:List PV),pvsOf (l.map SV.val)=some l
 | []=>rfl
 | p::r=>by
  show (match (SV.val p).pv,pvsOf (r.map SV.val) with | some p,some l=>some (p::l) | _,_=>none)=_
  rw [pvsOf_val r];rfl
section
variable {A:Ops} {E:Env}
theorem rldO (hA:A=stdOps E) {t:TypeId} (ha:(E.T t).agg=true) (hs:(E.T t).size=4) {id n:Nat} {l:List Opt} {z:List SV} {st:St} {K:SV→St→Prop} {o:Opt} (hb:st.bx[id]?=some (some (rowC l++z))) (ho:l[n]?=some o) (hK:K (.val (encOpt o)) st):A.rld t (.rbx id 0 n 4 0) st K:=by
 refine rld_intro hA ?_
 show Res.go (opLoad E t (.box id (0+n*4+0)) st) K
 have hi:=(List.getElem?_eq_some_iff.1 ho).1
 have hc:pvsOf (((rowC l++z).drop (n*4)).take 4)=some (encOpt o).cells:=by rw [rowC_get ho];exact pvsOf_val _
 unfold opLoad
 simp only [List.getD_eq_getElem?_getD,hb,Option.getD_some,ha,hs,if_true,Nat.zero_add,Nat.add_zero,hc]
 exact ⟨by rw [List.length_append,rowC_len];omega,hK⟩
theorem rstO (hA:A=stdOps E) {t:TypeId} (ha:(E.T t).agg=true) (hs:(E.T t).size=4) {id n:Nat} {l:List Opt} {z:List SV} {st:St} {K:SV→St→Prop} {o:Opt} (hb:st.bx[id]?=some (some (rowC l++z))) (hi:n<l.length) (hK:∀B,B=st.bx.set id (some (rowC (l.set n o)++z))→K .undef { st with bx:=B }):A.rst t (.rbx id 0 n 4 0) (.val (encOpt o)) st K:=by
 refine rst_intro hA ?_
 show Res.go (opStore E t (.box id (0+n*4+0)) (.val (.agg (encOpt o).cells)) st) K
 have h1:((encOpt o).cells.length=4∧(encOpt o).cells.all PV.one)=True:=by simp [encOpt,PV.cells,PV.one]
 unfold opStore
 simp only [List.getD_eq_getElem?_getD,hb,Option.getD_some,ha,hs,if_true,Nat.zero_add,Nat.add_zero,h1]
 refine ⟨by rw [List.length_append,rowC_len];show n*4+4≤_;omega,?_⟩
 have:=rowC_set o hi z
 refine hK _ ?_
 rw [←this]
 rfl
end
theorem choices1 (f:Flight) (now:Int) (o:Opt) (h:inI64 (f.Window.From+o.Delay)) {fl:List PV} (hfl:fl=encInts f.Ways) :
  CallsPV Tryz.prog 80 [encOpt o,.ptr [.int .i64 f.ID,.int .i64 f.Airline,.int .i64 f.Class,.str f.Call,.list 1 fl,.int .i64 f.Window.From,.int .i64 f.Window.To,.bool f.Cancel] 0,.ptr [.int .i64 now] 0] (.bool (!leftB f now o)):=by
 refine callsPV_by (clo:=fun _=>false) (rows:=false) env_ok Tryz.func80 rfl (enters_of Tryz.func80 (by kernel_rfl) rfl) (fun A q P Y hr hA hq=>?_)
 obtain ⟨f1,f2,f3,f4,f5,⟨f6,f7⟩,f8⟩:=f
 obtain ⟨o1,o2,o3,o4⟩:=o
 have hl:leftB ⟨f1,f2,f3,f4,f5,⟨f6,f7⟩,f8⟩ now ⟨o1,o2,o3,o4⟩=(o4 || decide (now≤f6+o1)):=rfl
 rw [hl] at hq
 simp only at h ⊢
 cases o4 with
 | true =>
  have hb:A.bNot true=false:=by subst hA;rfl
  conv=>cbv
  split
  ·rename_i hc
   cases (show False by have h9:true=false:=notT hA hc;cases h9)
  ·conv=>cbv
   rw [←hq]
   rfl
 | false =>
  have had:A.iAdd f6 o1=f6+o1:=addI hA _ _
  have hlt:A.iLt (A.iAdd f6 o1) now=!decide (now≤f6+o1):=by
   rw [had]
   subst hA
   show decide _=!decide _
   rw [Bool.eq_iff_iff]
   simp
  conv=>cbv
  split
  ·conv=>cbv
   refine ⟨inR' hA had h,?_⟩
   rw [←hq]
   exact congrArg PV.bool hlt
  ·rename_i hc
   cases (show False by have h9:false=true:=notF hA hc;cases h9)
set_option maxHeartbeats 1000000 in
theorem indexFunc_row {caps:List PV} (p:Opt→Bool) (l:List Opt) (hl:l.length≤1000000) (hg:∀x∈l,CallsPV Tryz.prog 80 (encOpt x::caps) (.bool (p x))) (pre:List (Option (List SV))) (z:List SV) {n id cap:Nat} (hn:n=l.length) (hid:id=pre.length) :
  CallsR ⟨Tryz.prog,tab,cloO,true,.none⟩ 148 [.row id 0 4 n cap,.val (.fn 80 caps)] (pre++[some (rowC l++z)]) [] ⟨[],0⟩
   (fun r bx' tk' ax'=>r=.val (.int .i64 (findI p l))∧bx'=pre++[some (rowC l++z)]∧tk'=[]∧ax'=⟨[],0⟩):=by
 refine callsR_by (clo:=cloO) (rows:=true) env_ok Tryz.func148 rfl (enters_of Tryz.func148 (by kernel_rfl) rfl) (by intro h;rfl) (fun A P' Y' nb R hA hnb hR=>?_)
 obtain ⟨B,hB⟩:∃B,B=pre++[some (rowC l++z)]:=⟨_,rfl⟩
 have hBi:B[id]?=some (some (rowC l++z)):=by rw [hB,hid,List.getElem?_append_right (Nat.le_refl _),Nat.sub_self];rfl
 rw [←hB]
 have hnI:A.iNat n=(l.length:Int):=by rw [natI hA,hn]
 conv=>cbv
 refine loop_set hA (fun (i:Int) s=>s.put (some 8) (.val (.int .i64 i))) (fun i=>0≤i∧i≤l.length∧∀x∈l.take i.toNat,p x=false) (fun i=>(l.length - i).toNat) 0 ?_ ?_ ?_
 ·conv=>cbv
  exact wk_sl (by repeat (first | refine leL_same ?_ | refine leL_any ?_ | exact leL_nil))
 ·exact ⟨Int.le_refl _,by omega,by simp⟩
 rintro R1 i ⟨hi0,hi1,hi2⟩ hR1
 conv=>cbv
 split
 ·rename_i hc
  have hi:i<l.length:=ltT' hA rfl hnI hc
  have his:A.iAdd i 1=i+1:=addI hA _ _
  have hir:A.inR (A.iAdd i 1):=inR' hA his (by unfold inI64;omega)
  obtain ⟨x,hx⟩:∃x,l[i.toNat]?=some x:=⟨_,List.getElem?_eq_getElem (show i.toNat<l.length by omega)⟩
  have ht:=take_snoc' hi0 hx
  have hgx:=hg x (List.mem_of_getElem? hx)
  have hpx:p x=true→findI p l=i:=fun h=>findI_hit hi0 hx h hi2
  have hnx:p x=false→0≤A.iAdd i 1∧A.iAdd i 1≤l.length∧∀y∈l.take (A.iAdd i 1).toNat,p y=false:=fun h=>by rw [his];exact ⟨by omega,by omega,mem_snoc ht hi2 h⟩
  generalize p x=b at hgx hpx hnx
  conv=>cbv
  refine ⟨withI hA hnI hi0 hi,?_⟩
  refine rldO hA rfl rfl hBi (by show l[A.nNat i]?=_;rw [natN hA];exact hx) ?_
  obtain ⟨x1,x2,x3,x4⟩:=x
  conv=>cbv
  refine call_intro hA (hgx) ?_
  conv=>cbv
  cases b with
  | true =>
   conv=>cbv
   refine hR _ ⟨_,.val (.int .i64 i),Wk.refl _,.inr (.inl ⟨4,rfl,rfl⟩),by rw [hpx rfl],hB,rfl,rfl⟩
  | false =>
   conv=>cbv
   exact ⟨hir,hR1 (A.iAdd i 1) _ (by (conv=>cbv);exact wk_sl (by repeat (first | refine leL_same ?_ | refine leL_any ?_ | exact leL_nil))) (hnx rfl) (by rw [his];omega)⟩
 ·rename_i hc
  have hi:(l.length:Int)≤i:=ltF' hA rfl hnI hc
  rw [List.take_of_length_le (by omega)] at hi2
  conv=>cbv
  refine hR _ ⟨_,.val (.int .i64 (-1)),Wk.refl _,.inr (.inl ⟨4,rfl,rfl⟩),by rw [findI_miss hi2],hB,rfl,rfl⟩
theorem rowC_enc (l:List Opt):((encOpts l).flatMap PV.cells).map SV.val=rowC l:=by
 induction l with
 | nil=>rfl
 | cons o r ih =>
  rw [rowC_cons,←ih]
  simp [encOpts,optC]
theorem appO {A:Ops} {E:Env} (hA:A=stdOps E) {ts e:TypeId} (hk:(E.T ts).k=.slice e) (hs:(E.T e).size=4) (hz:(E.T e).zero.length=4) (hby:(E.T e).bytes+1≤10000000) {l:List Opt} (hne:l≠[]) (hl:l.length≤1000000) {xs:List PV} (hx:xs=encOpts l) {m:Nat}
  {st:St} {K:SV→St→Prop} (hK:∀cap k id n B,l.length*4+k=cap*4→id=st.bx.length→n=l.length→B=st.bx++[some (rowC l++List.replicate k (.val .any))]→K (.row id 0 4 n cap) { st with bx:=B }):A.appR [ts,ts] [.lit m [],.val (.list 4 xs)] st K:=by
 refine appR_intro hA ?_
 unfold wpAppR
 have hxl:xs.length=l.length:=by rw [hx];simp [encOpts]
 have hxn:xs≠[]:=fun h=>hne (List.eq_nil_of_length_eq_zero (by rw [←hxl,h];rfl))
 have hbig:l.length*((E.T e).bytes+1)≤140737488355328:=Nat.le_trans (Nat.mul_le_mul hl hby) (by decide)
 simp only [hk,SV.elems,hs]
 refine ⟨trivial,trivial,hxn,by decide,hz,?_⟩
 refine ⟨.inr rfl,by simpa [hxl] using hbig,fun cap hc1 hc2=>?_⟩
 have:=hK cap ((cap - l.length)*4) _ _ _ (by simp [hxl] at hc1;omega) rfl rfl rfl
 simp only [St.newBx,List.nil_append,List.length_nil,Nat.zero_add,hxl]
 rw [hx,rowC_enc]
 exact this
theorem clone_Opt (l:List Opt) (hne:l≠[]) (hl:l.length≤1000000) {xs:List PV} (hx:xs=encOpts l) (pre:List (Option (List SV))) (hpn:pre≠[]) :
  CallsR ⟨Tryz.prog,tab,cloO,true,.none⟩ 79 [.val (.list 4 xs)] pre [] ⟨[],0⟩
   (fun r bx' tk' ax'=>∃cap k,r=.row pre.length 0 4 l.length cap∧bx'=pre++[some (rowC l++List.replicate k (.val .any))]∧l.length*4+k=cap*4∧tk'=[]∧ax'=⟨[],0⟩):=by
 refine callsR_by (clo:=cloO) (rows:=true) env_ok Tryz.func79 rfl (enters_of Tryz.func79 (by kernel_rfl) rfl) (by intro h;rfl) (fun A P' Y' nb R hA hnb hR=>?_)
 have hxl:xs.length=l.length:=by rw [hx];simp [encOpts]
 have hxn:xs≠[]:=fun h=>hne (List.eq_nil_of_length_eq_zero (by rw [←hxl,h];rfl))
 conv=>cbv
 refine ⟨fun h=>?_,?_⟩
 ·cases (show False from hxn h)
 conv=>cbv
 refine appO hA rfl rfl rfl (by decide) hne hl hx (fun cap k id n B hck hid hn hB=>?_)
 conv=>cbv
 exact hR _ ⟨_,.row id 0 4 n cap,Wk.refl _,.inr (.inl ⟨2,rfl,rfl⟩),cap,k,by rw [hid,hn],hB,hck,rfl,rfl⟩
theorem op_clear {A:Ops} {E:Env} {x:Operand} {t e:TypeId} {id off len cap:Nat} {cs:List SV} {st:St} {K:SV→St→Prop} (hv:valOf st x=.row id off 4 len cap) (hk:(E.T t).k=.slice e) (hs:(E.T e).size=4) (hz:(E.T e).zero.length=4) (hb:st.bx[id]?=some (some cs)) (hl:off+len*4≤cs.length)
  (h:∀B,B=st.bx.set id (some (cs.take off++(List.replicate (len*4) (.val .any)++cs.drop (off+len*4))))→K (.val .any) { st with bx:=B }):wpOp' A E false (.call { callee:=.builtin .clear,args:=#[x],argTypes:=#[t] }) st K:=by
 unfold wpOp'
 simp only [evalOp',List.map_cons,List.map_nil,hv,opBuiltin',opClear,hk,hs,hz,List.getD_eq_getElem?_getD,hb,Option.getD_some]
 exact ⟨hl,h _ rfl⟩
theorem filter_take_hit {p:Opt→Bool} {l:List Opt} {i:Int} (h:findI p l=i) (h0:i≠-1):∃k:Nat,i=k∧k<l.length∧l.take k=(l.take (k+1)).filter (fun o=>!p o):=by
 unfold findI at h
 cases hf:l.findIdx? p with
 | none=>rw [hf] at h;exact absurd h.symm h0
 | some k =>
  rw [hf] at h
  rw [List.findIdx?_eq_some_iff_getElem] at hf
  obtain ⟨h1,h2,h3⟩:=hf
  refine ⟨k,h.symm,h1,?_⟩
  rw [List.take_add_one,List.getElem?_eq_getElem h1,Option.toList_some,List.filter_append]
  have:(l.take k).filter (fun o=>!p o)=l.take k:=by
   rw [List.filter_eq_self]
   intro a ha
   obtain ⟨j,hj⟩:=List.mem_iff_getElem?.1 ha
   rw [List.getElem?_take] at hj
   split at hj
   ·rename_i hjk
    obtain ⟨hj1,hj2⟩:=List.getElem?_eq_some_iff.1 hj
    have:=h3 j hjk
    rw [hj2] at this
    simpa using this
   ·cases hj
  rw [this]
  simp [h2]
theorem filter_none {p:Opt→Bool} {l:List Opt} (h:findI p l=-1):l.filter (fun o=>!p o)=l:=by
 rw [List.filter_eq_self]
 intro a ha
 unfold findI at h
 cases hf:l.findIdx? p with
 | none=>rw [List.findIdx?_eq_none_iff] at hf;simpa using hf a ha
 | some k=>rw [hf] at h;simp at h
set_option maxRecDepth 4000 in
set_option maxHeartbeats 2000000 in
theorem deleteFunc_row {caps:List PV} (p:Opt→Bool) (l:List Opt) (hl:l.length≤1000000) (hg:∀x∈l,CallsPV Tryz.prog 80 (encOpt x::caps) (.bool (p x))) (pre:List (Option (List SV))) (hpre:inBx pre) {k n id cap:Nat} (hn:n=l.length) (hid:id=pre.length) (hck:l.length*4+k=cap*4) :
  CallsR ⟨Tryz.prog,tab,cloO,true,.none⟩ 78 [.row id 0 4 n cap,.val (.fn 80 caps)] (pre++[some (rowC l++List.replicate k (.val .any))]) [] ⟨[],0⟩
   (fun r bx' tk' ax'=>∃k2 n2,r=.row id 0 4 n2 cap∧n2=(l.filter fun o=>!p o).length∧bx'=pre++[some (rowC (l.filter fun o=>!p o)++List.replicate k2 (.val .any))]∧n2*4+k2=cap*4∧tk'=[]∧ax'=⟨[],0⟩):=by
 refine CallsR.flags (clo:=fun n=>n == 10000000 || n == 5000000+148) (rows:=true) ?_
 refine callsR_by (clo:=fun n=>n == 10000000 || n == 5000000+148) (rows:=true) env_ok Tryz.func78 rfl (enters_of Tryz.func78 (by kernel_rfl) rfl) (by intro h;rfl) (fun A P' Y' nb R hA hnb hR=>?_)
 have hidx:=indexFunc_row p l hl hg pre (List.replicate k (.val .any)) hn hid (cap:=cap)
 obtain ⟨z,hz⟩:∃z,z=List.replicate k (SV.val .any):=⟨_,rfl⟩
 rw [←hz] at hidx hnb ⊢
 obtain ⟨B0,hB0⟩:∃B0,B0=pre++[some (rowC l++z)]:=⟨_,rfl⟩
 rw [←hB0] at hidx hnb ⊢
 have hnI:A.iNat n=(l.length:Int):=by rw [natI hA,hn]
 have hnone:=filter_none (p:=p) (l:=l)
 have hhit:=fun h=>filter_take_hit (p:=p) (l:=l) (i:=findI p l) rfl h
 generalize findI p l=fi at hidx hnone hhit
 refine seq_stop (fun R1 hR1=>?_)
 conv=>cbv
 refine hR1 _ ?_
 clear hR1
 refine seq_stop (fun R1 hR1=>?_)
 conv=>cbv
 refine shareR_intro hA (CallsR.flags hidx) (fun r bx' tk' ax' h=>?_)
 obtain ⟨rfl,rfl,rfl,rfl⟩:=h
 conv=>cbv
 refine hR1 _ ?_
 clear hR1
 refine seq_stop (fun R1 hR1=>?_)
 conv=>cbv
 split
 ·rename_i hc
  have hf:=hnone (eqT hA hc)
  conv=>cbv
  rw [hf] at hR
  exact hR _ ⟨_,.row id 0 4 n cap,Wk.refl _,.inr (.inl ⟨4,rfl,rfl⟩),k,n,rfl,hn,by rw [hB0,hz],by omega,rfl,rfl⟩
 rename_i hc
 obtain ⟨i0,rfl,hi0l,hi0t⟩:=hhit (eqF hA hc)
 refine hR1 _ ?_
 clear hR1 hnone hhit hc hidx
 refine seq_stop (fun R1 hR1=>?_)
 conv=>cbv
 have hi0s:A.iAdd (i0:Int) 1=((i0+1:Nat):Int):=by rw [addI hA];rfl
 refine ⟨inR' hA hi0s (by unfold inI64;omega),?_⟩
 refine loop_set hA (fun (z:Int × Int × List (Option (List SV))) s=>{ (s.put (some 5) (.val (.int .i64 z.1))).put (some 6) (.val (.int .i64 z.2.1)) with bx:=z.2.2 })
  (fun y=>∃(i j:Nat) (M:List Opt),y.1=i∧y.2.1=j∧i<j∧j≤l.length∧M.length=l.length∧M.take i=(l.take j).filter (fun o=>!p o)∧M.drop j=l.drop j∧y.2.2=pre++[some (rowC M++z)]) (fun y=>(l.length - y.2.1).toNat) ((i0:Int),A.iAdd (i0:Int) 1,bx') ?_ ?_ ?_
 ·conv=>cbv
  exact wk_sl (by repeat (first | refine leL_same ?_ | refine leL_any ?_ | exact leL_nil))
 ·exact ⟨i0,i0+1,l,rfl,hi0s,by omega,by omega,rfl,hi0t,rfl,hB0⟩
 rintro R2 ⟨ii,jj,B⟩ ⟨i,j,M,hii,hjj,hij,hjl,hMl,hMt,hMd,hB⟩ hR2
 simp only at hii hjj hB
 have hBi:B[id]?=some (some (rowC M++z)):=by rw [hB,hid,List.getElem?_append_right (Nat.le_refl _),Nat.sub_self];rfl
 have hzw:∀a b c,z.all (SV.within a b c)=true:=fun a b c=>by rw [hz];exact anyC_within _ _ _ _
 conv=>cbv
 split
 ·rename_i hc
  have hj:jj<l.length:=ltT' hA rfl hnI hc
  have hjs:A.iAdd jj 1=((j+1:Nat):Int):=by rw [addI hA,hjj];rfl
  have hjr:A.inR (A.iAdd jj 1):=inR' hA hjs (by unfold inI64;omega)
  have his:A.iAdd ii 1=((i+1:Nat):Int):=by rw [addI hA,hii];rfl
  have hir:A.inR (A.iAdd ii 1):=inR' hA his (by unfold inI64;omega)
  obtain ⟨v,hv⟩:∃v,l[j]?=some v:=⟨_,List.getElem?_eq_getElem (show j<l.length by omega)⟩
  have hvM:M[j]?=some v:=by
   have:=congrArg (fun L=>L[0]?) hMd
   simpa [hv] using this
  have hgv:=hg v (List.mem_of_getElem? hv)
  have hfl:(l.take (j+1)).filter (fun o=>!p o)=(l.take j).filter (fun o=>!p o)++if p v=true then [] else [v]:=by
   rw [List.take_add_one,hv,Option.toList_some,List.filter_append]
   cases hb:p v<;>simp [hb]
  rw [←hMt] at hfl
  generalize p v=b at hgv hfl
  have hMd2:M.drop (j+1)=l.drop (j+1):=by
   rw [←List.drop_drop,←List.drop_drop,hMd]
  have hpos:0≤jj:=by omega
  conv=>cbv
  refine ⟨withI hA hnI (by omega) hj,?_⟩
  refine rldO hA rfl rfl hBi (by show M[A.nNat jj]?=_;rw [natN hA,hjj,Int.toNat_natCast];exact hvM) ?_
  obtain ⟨v1,v2,v3,v4⟩:=v
  conv=>cbv
  refine alc_at hA (z:=[.int .i64 0,.int .i64 0,.int .i64 0,.bool false]) rfl rfl (by decide) (fun n2 B2 hn2 hB2=>?_)
  have hn2:n2=B.length:=hn2
  have hB2:B2=B++[some [.val (.int .i64 0),.val (.int .i64 0),.val (.int .i64 0),.val (.bool false)]]:=hB2
  conv=>cbv
  refine rstA_at hA (cs:=[.val (.int .i64 0),.val (.int .i64 0),.val (.int .i64 0),.val (.bool false)]) (by rw [hB2,hn2,List.getElem?_append_right (Nat.le_refl _),Nat.sub_self];rfl) rfl rfl rfl (Nat.le_refl 4) (fun B3 hB3=>?_)
  have hB3:B3=B++[some [.val (.int .i64 v1),.val (.int .i64 v2),.val (.int .i64 v3),.val (.bool v4)]]:=by
   rw [hB3]
   show B2.set n2 _=_
   rw [hB2,hn2,List.set_append_right _ _ (Nat.le_refl _),Nat.sub_self]
   rfl
  have hB3n:B3[n2]?=some (some [.val (.int .i64 v1),.val (.int .i64 v2),.val (.int .i64 v3),.val (.bool v4)]):=by rw [hB3,hn2,List.getElem?_append_right (Nat.le_refl _),Nat.sub_self];rfl
  have hidB:id<B.length:=(List.getElem?_eq_some_iff.1 hBi).1
  conv=>cbv
  refine rldA_at hA (l:=[.int .i64 v1,.int .i64 v2,.int .i64 v3,.bool v4]) hB3n rfl rfl (Nat.le_refl 4) ?_
  conv=>cbv
  refine call_intro hA (hgv) ?_
  conv=>cbv
  have hdrop:∀(B5:List (Option (List SV))) (M5:List Opt) (sl sl':List SV),B5=pre++[some (rowC M5++z)]→leL sl sl'→sl'.all (SV.within B5.length 0 0)=true→Wk nb ⟨sl,B5++[some [.val (.int .i64 v1),.val (.int .i64 v2),.val (.int .i64 v3),.val (.bool v4)]],[],⟨[],0⟩⟩ ⟨sl',B5,[],⟨[],0⟩⟩:=fun B5 M5 sl sl' h5 hle hw=>by
   refine wk_round (bx:=B5) (bx':=[_]) (mp:=[]) (mp':=[]) hle (by rw [hnb,h5,hB0];simp) (.inl rfl) hw ?_
   rw [h5,List.all_append,List.all_cons,List.all_nil,Bool.and_true]
   refine Bool.and_eq_true_iff.2 ⟨hpre _ _ _,?_⟩
   show (rowC M5++z).all _=true
   rw [List.all_append]
   exact Bool.and_eq_true_iff.2 ⟨rowC_within _ _ _ _,hzw _ _ _⟩
  cases b with
  | true =>
   conv=>cbv
   split
   ·rename_i hc
    cases ((show False by have h9:true=false:=notT hA hc;cases h9))
   conv=>cbv
   refine ⟨hjr,hR2 (ii,A.iAdd jj 1,B) _ ?_ ⟨i,j+1,M,hii,hjs,by omega,by omega,hMl,by rw [hfl];simp,hMd2,hB⟩ (by simp only;rw [hjs];omega)⟩
   (conv=>cbv)
   rw [hB3]
   exact hdrop B M _ _ hB (by repeat (first | refine leL_same ?_ | refine leL_any ?_ | exact leL_nil)) (by simp [SV.within];omega)
  | false =>
   have hiM:i<M.length:=by omega
   conv=>cbv
   split
   rotate_left
   ·rename_i hc
    cases ((show False by have h9:false=true:=notF hA hc;cases h9))
   conv=>cbv
   refine rldA_at hA (l:=[.int .i64 v1,.int .i64 v2,.int .i64 v3,.bool v4]) hB3n rfl rfl (Nat.le_refl 4) ?_
   conv=>cbv
   refine ⟨withI hA hnI (by omega) (by omega),?_⟩
   refine rstO hA (o:=⟨v1,v2,v3,v4⟩) (l:=M) (z:=z) rfl rfl (by show B3[id]?=_;rw [hB3,List.getElem?_append_left hidB];exact hBi) (by show A.nNat ii < _;rw [natN hA,hii,Int.toNat_natCast];exact hiM) (fun B4 hB4=>?_)
   have hni:A.nNat ii=i:=by rw [natN hA,hii,Int.toNat_natCast]
   obtain ⟨B5,hB5⟩:∃B5,B5=pre++[some (rowC (M.set i ⟨v1,v2,v3,v4⟩)++z)]:=⟨_,rfl⟩
   have hB4:B4=B5++[some [.val (.int .i64 v1),.val (.int .i64 v2),.val (.int .i64 v3),.val (.bool v4)]]:=by
    rw [hB4]
    show B3.set id (some (rowC (M.set (A.nNat ii) _)++z))=_
    rw [hni,hB3,List.set_append_left _ _ hidB,hB,hB5,hid,List.set_append_right _ _ (Nat.le_refl _),Nat.sub_self]
    rfl
   have hBl:B5.length=B.length:=by rw [hB,hB5];simp
   conv=>cbv
   refine ⟨hir,hjr,hR2 (A.iAdd ii 1,A.iAdd jj 1,B5) _ ?_ ⟨i+1,j+1,M.set i ⟨v1,v2,v3,v4⟩,his,hjs,by omega,by omega,by simp [hMl],?_,?_,hB5⟩ (by simp only;rw [hjs];omega)⟩
   ·(conv=>cbv)
    rw [hB4]
    exact hdrop B5 _ _ _ hB5 (by repeat (first | refine leL_same ?_ | refine leL_any ?_ | exact leL_nil)) (by simp [SV.within];omega)
   ·rw [hfl,List.take_add_one,List.getElem?_set_self hiM,List.take_set_of_le (Nat.le_refl _)]
    simp
   ·rw [List.drop_set_of_lt (by omega)]
    exact hMd2
 rename_i hc
 have hj:(l.length:Int)≤jj:=ltF' hA rfl hnI hc
 have hjl2:j=l.length:=by omega
 rw [hjl2,List.take_length] at hMt
 refine hR1 _ ?_
 clear hR1 hR2
 have hiL:i<l.length:=by omega
 have hil:i=(l.filter fun o=>!p o).length:=by rw [←hMt,List.length_take];omega
 have hoff:A.nOff 0 ii 4=i*4:=by subst hA;show 0+ii.toNat*4=_;rw [hii,Int.toNat_natCast];omega
 have hlen:A.nNat (A.iSub (A.iNat n) ii)=l.length - i:=by rw [natN hA,subI hA,hnI,hii];omega
 have hMs:rowC M=rowC (l.filter fun o=>!p o)++rowC (M.drop i):=by rw [←hMt,←rowC_append,List.take_append_drop]
 have hc1:(rowC M++z).take (i*4)=rowC (l.filter fun o=>!p o):=by
  rw [hMs,List.append_assoc]
  exact List.take_left' (by rw [rowC_len,←hil])
 have hc2:(rowC M++z).drop (i*4+(l.length - i)*4)=z:=List.drop_left' (by rw [rowC_len,hMl];omega)
 refine seq_stop (fun R1 hR1=>?_)
 refine region_text ?_
 refine ops_step rfl (op_move ?_)
 refine ops_step rfl (op_move ?_)
 refine ops_step rfl ?_
 refine ⟨⟨?_,?_⟩,?_⟩
 ·show A.sl ii (A.iNat n) (A.iNat n)
  rw [hnI]
  subst hA
  exact ⟨by omega,by omega,Int.le_refl _⟩
 ·show A.within ii (A.iNat cap)
  exact withI hA (natI hA cap) (by omega) (by omega)
 refine ops_step rfl (op_clear (id:=id) (off:=A.nOff 0 ii 4) (len:=A.nNat (A.iSub (A.iNat n) ii)) (e:=35) (cs:=rowC M++z) rfl rfl rfl rfl hBi ?_ (fun B6 hB6=>?_))
 ·rw [hoff,hlen,List.length_append,rowC_len,hMl];omega
 have hB6:B6=B.set id (some ((rowC M++z).take (A.nOff 0 ii 4)++(List.replicate (A.nNat (A.iSub (A.iNat n) ii)*4) (.val .any)++(rowC M++z).drop (A.nOff 0 ii 4+A.nNat (A.iSub (A.iNat n) ii)*4)))):=hB6
 rw [hoff,hlen,hc1,hc2,hB,hid,List.set_append_right _ _ (Nat.le_refl _),Nat.sub_self,hz,List.replicate_append_replicate] at hB6
 refine hR1 _ ?_
 clear hR1
 conv=>cbv
 refine ⟨?_,?_⟩
 ·show A.sl 0 ii (A.iNat n)
  rw [hnI]
  subst hA
  exact ⟨Int.le_refl _,by omega,by omega⟩
 refine hR _ ⟨_,.row id 0 4 (A.nNat ii) cap,Wk.refl _,.inr (.inl ⟨4,rfl,rfl⟩),_,A.nNat ii,rfl,?_,hB6,?_,rfl,rfl⟩
 ·rw [natN hA,hii,Int.toNat_natCast];exact hil
 ·rw [natN hA,hii,Int.toNat_natCast];omega
end Go.Abs
namespace Go.Abs
open Go.RowKit Go.Proofs Go.Shelf
def renClone:Ren:=⟨fun _=>106,fun x=>if x=3 then 3 else if x=4 then 4 else 29,id⟩
theorem layClone:Lays2.n15 Tryz.prog renClone where
 mixed:=by kernel_rfl
 f15:=by kernel_rfl
 t3:=Tryz.underlying3
 a3:=Tryz.isAgg3
 z3:=Tryz.sizeOf3
 v3:=Tryz.zeroValue3
 t4:=Tryz.underlying4
 a4:=Tryz.isAgg4
 z4:=Tryz.sizeOf4
 v4:=Tryz.zeroValue4
 t22:=Tryz.underlying29
 a22:=Tryz.isAgg29
 z22:=Tryz.sizeOf29
 v22:=Tryz.zeroValue29
 i3:=by kernel_rfl
theorem wpList_append_dr {P:Program} {ops:Array Oper} {rest:List Oper} {o:Oper} {a:Act} {Q:Exit→Act→World→Prop} {w:World} (hgd:o.guard=none) (s x:Operand) (t:TypeId)
  (ho:o.op=.call { callee:=.builtin .append,args:=#[s,x],argTypes:=#[t,t] }) (B:Nat) (e:TypeId) (i:TypeInfo) (z:Value) (bytes:Nat) (ht:P.underlying t=some (.slice e)) (hi:P.info? e=some i) (hz:i.zero=some z) (hsize:i.size=1) (hby:i.bytes=bytes) (hzs:z.cells.size=1)
  (g:Nat) (hs:a.eval s=.slice (some ⟨g,0,none⟩) 0 0) (hown:w.ownsRow B e 1 (.slice (some ⟨g,0,none⟩) 0 0) 0 [])
  (ad:Addr) (m c:Nat) (news:List Value) (hx:a.eval x=.slice (some ad) m c) (hl:news.length=m) (hnews:∀j u,news[j]?=some u→w.cell? (ad.add j)=some u) (hbytes:m*bytes≤140737488355328) (h63:m≤140737488355328) (hB:B≤w.heap.size)
  (h:∀v' w',w'.ownsRow B e 1 v' m news→Below B w w'→wpList P ops Q rest (a.put o.dst v') w'):wpList P ops Q (o::rest) a w:=by
 have hrun:∃v' w',(Builtin.append_ #[t,t] o.type #[.slice (some ⟨g,0,none⟩) 0 0,.slice (some ad) m c]).run P w=.ok v' w'∧w'.ownsRow B e 1 v' m news∧Below B w w':=by
  by_cases hm:m=0
  ·subst hm
   have hn:news=[]:=List.eq_nil_of_length_eq_zero hl
   subst hn
   refine ⟨.slice (some ⟨g,0,none⟩) 0 0,w,?_,hown,Below.refl _ _⟩
   simp [Builtin.append_,run_underlying ht,sizeOf,typeInfo,hi,Builtin.lenOf,Builtin.firstCells,loadCells,loadCellsFrom,storeCells]
  ·have hr:=run_append_grow (P:=P) w t o.type e i z ht hi hz ⟨g,0,none⟩ 0 0 [] (by simp) (by simp) ad m c news (by rw [hsize,hl,Nat.mul_one]) hnews (by omega) (by omega) (by rw [hby];exact growslice_fits (by omega) (by simpa using hbytes))
   have hge:=grownCap_ge w (0+m) 0 e
   have hcm:grownCap w (0+m) 0 e≤maxLen:=grownCap_le_maxLen w (0+m) 0 e (by simp only [maxLen];omega)
   refine ⟨_,_,hr,⟨by rw [hl,Nat.mul_one],.inr ⟨w.heap.size,_,_,by rw [Nat.zero_add],hB,heap_alloc_new w.drew _,by omega,hcm,?_,?_⟩⟩,((Below.refl B w).drew).alloc hB _⟩
   ·simp only [Array.size_append,List.size_toArray,size_zeroCells,hzs,hl,Nat.mul_one,List.length_nil]
    omega
   ·simp only [Array.toList_append,List.append_assoc,Nat.mul_one,List.nil_append]
    rw [←hl]
    exact List.take_left
 obtain ⟨v',w',hr,h2,h3⟩:=hrun
 refine wpList_plain hgd fun K hK=>?_
 unfold Oper.wp execOp
 simp only [ho,resolve,invoke,builtin,Sem.run_bind,Sem.run_pure,Result.andThen_ok,List.map_toArray,List.map_cons,List.map_nil,hs,hx,hr]
 exact hK _ _ (h v' w' h2 h3)
theorem clone_some {P:Program} {ρ:Ren} (L:Lays2.n15 P ρ) (ad:Addr) (n c:Nat) (zs:List Int) (w:World) (hz:zs.length=n) (hbig:n*8≤140737488355328) (hc:∀j,j<zs.length→w.cell? (ad.add j)=some (.int .i64 (zs.getD j 0))) :
  Calls P (ρ.f 15) #[.slice (some ad) n c] w fun e w'=>∃v',e=.returned v'∧w'.ownsRow w.heap.size (ρ.t 3) 1 v' n (zs.map (Value.int .i64))∧Below w.heap.size w w':=by
 have mixed:=L.mixed;have t3:=L.t3;have a3:=L.a3;have z3:=L.z3;have v3:=L.v3;have t4:=L.t4;have a4:=L.a4;have z4:=L.z4;have v4:=L.v4;have t22:=L.t22;have a22:=L.a22;have z22:=L.z22;have v22:=L.v22
 obtain ⟨i0,hi,hz0,hz1,hz2⟩:=info_parts L.i3
 have q22:∀(w:World) (a:Option Addr) (n c n' c':Nat),(binOp .eql (ρ.t 22) (.slice a n c) (.slice none n' c')).run P w=.ok (.bool a.isNone) w:=fun w a n c n' c'=>Lib.run_eql_slice_nil w _ _ a n c n' c' L.t22
 have u22:∀w,Sem.run P (underlying (ρ.t 22)) w=.ok (TypeDesc.slice (ρ.t 3)) w:=run_underlying t22
 have A:Aside (∀j,j<zs.length→w.cell? (ad.add j)=some (.int .i64 (zs.getD j 0))):=hc
 clear hc
 go_enter L.f15,Body2.n15_ntmps ρ
 go_wp2_with (at_builtin;refine wpList_append_dr rfl _ _ (ρ.t 22) rfl w.heap.size (ρ.t 3) i0 (.int .i64 0) 8 t22 hi hz0 hz1 hz2 rfl w.heap.size rfl (World.ownsRow_made w #[] 0 (Nat.le_refl _) (Nat.zero_le _) rfl) ad n c (zs.map (Value.int .i64)) rfl ?qc1 ?qc2 ?qc3 ?qc4 ?qc5 ?_)
 case qc1=>simp [hz]
 case qc2 =>
  intro j u hj
  have hjn:j<zs.length:=by
   have:=(List.getElem?_eq_some_iff.1 hj).1
   simpa using this
  refine Lib.cell?_alloc_some _ ?_
  rw [A.out j hjn]
  have e:(zs.map (Value.int .i64))[j]?=some (Value.int .i64 (zs.getD j 0)):=by simp [List.getD,List.getElem?_eq_getElem hjn]
  rw [e] at hj
  exact hj
 case qc3=>omega
 case qc4=>omega
 case qc5=>simp
 intro v' w1 hown hbel
 go_wp2
 go_ret
 exact ⟨v',rfl,hown,((Below.refl _ w).alloc (Nat.le_refl _) _).trans hbel⟩
end Go.Abs
namespace Go.Abs
open Go.RowKit Go.Proofs Go.Shelf
set_option maxRecDepth 4000 in
theorem clone_calls (S:Addr→Prop) (w:World) (l:List Int) (hl:l.length≤1000000) (m:Nat) (v:Value) (hv:RV S w (.list m (encInts l)) v) :
  Calls Tryz.prog 106 #[v] w fun e w'=>∃v',e=.returned v'∧w'.ownsRow w.heap.size 3 1 v' l.length (l.map (Value.int .i64))∧Below w.heap.size w w':=by
 obtain ⟨a,ad,cap,g,rfl,h1,h2,h3,h4,h5,h6⟩:=RV.slice_iff hv
 have hel:(encInts l).length=l.length:=by simp [encInts]
 by_cases hnone:a=none
 ·subst hnone
  have h0:l=[]:=by
   by_cases h0:l=[]
   ·exact h0
   ·have:=h1 (by simp [encInts,h0]);cases this
  subst h0
  refine (Go.Proofs.Any.slices_Clone_int_nil layClone 0 cap w).mono ?_
  rintro e w' ⟨rfl,rfl⟩
  exact ⟨_,rfl,⟨rfl,.inl ⟨rfl,rfl⟩⟩,Below.refl _ _⟩
 ·obtain ⟨a',rfl⟩:=Option.ne_none_iff_exists'.1 hnone
  rw [hel]
  refine (clone_some layClone a' l.length cap l w rfl (by omega) (fun j hj=>?_)).mono ?_
  ·have hp:0<l.length:=by omega
   have ha:=h1 (by simp [encInts];intro e;subst e;simp at hp)
   cases ha
   have hm:m=1:=by
    have:=h4 0 (.int .i64 l[0]) (by simp [encInts,encInt,hp])
    simpa [PV.cells] using this.symm
   subst hm
   have e1:(encInts l)[j]?=some (.int .i64 l[j]):=by simp [encInts,encInt,hj]
   have k1:=(h5 j _ 0 (.int .i64 l[j]) e1 rfl).2.1
   have k2:=RV.int_inv (h6 j _ 0 (.int .i64 l[j]) e1 rfl)
   rw [k2,Nat.mul_one,Nat.add_zero] at k1
   rw [k1]
   simp [List.getD_eq_getElem?_getD,hj]
  ·rintro e w' ⟨v',rfl,k1,k3⟩
   exact ⟨v',rfl,k1,k3⟩
theorem clone_own {clo:FuncId→Bool} {rows:Bool} {Y:YS} (l:List Int) (hl:l.length≤1000000) (m:Nat) (bx:List (Option (List SV))) (tk:List (Nat × TypeId)) (ax:Ax) :
  CallsR ⟨Tryz.prog,tab,clo,rows,Y⟩ 106 [.val (.list m (encInts l))] bx tk ax
   (fun r bx' tk' ax'=>r=.own tk.length 1 (encInts l)∧bx'=bx∧tk'=tk++[(l.length,3)]∧ax'=ax):=by
 refine ⟨enters_of Tryz.func106 (by kernel_rfl) rfl,fun B S0 w0 G S w vs hI hbel hlen hv=>?_⟩
 match vs,hlen with
 | [v],_ =>
  have hv0:RV S w (.list m (encInts l)) v:=hv 0 _ v rfl rfl
  refine (clone_calls S w l hl m v hv0).mono ?_
  rintro e w' ⟨v',rfl,k1,k2⟩
  have hel:(encInts l).length=l.length:=by simp [encInts]
  have hsz:(tab 3).size=1:=rfl
  -- what is still behind the call: what was,and what the new slice holds
  have R:Rel ⟨Tryz.prog,tab,clo,rows,Y⟩ B S0 w0 ⟨[.val (.list m (encInts l))],bx,tk,ax⟩ G S w #[v]:=⟨hI,hbel,rfl,fun i s u h1 h2=>hv i s u h1 (by simpa using h2)⟩
  rcases k1.2 with ⟨rfl,h0⟩ | ⟨g,cap,cur,rfl,hb,hg,hn,hm,hs,ht⟩
  ·have hl0:l=[]:=List.eq_nil_of_length_eq_zero h0
   subst hl0
   obtain ⟨R1,X1⟩:=R.transport (S':=S) (fun _ h=>h) (fun _ h=>.inl h) k2
   have hH:Head ⟨Tryz.prog,tab,clo,rows,Y⟩ B G S w' tk.length 0 3 (.slice none 0 0):=⟨⟨none,0,rfl,Nat.le_refl _,by decide,fun h=>absurd h (Nat.lt_irrefl _)⟩,fun _ _ _ _ _ _ h1=>by (injection h1 with h1;cases h1),fun _ _ _ h1=>by (injection h1 with h1;cases h1)⟩
   obtain ⟨R2,X2,h1,h2⟩:=R1.tokNew X1 hH (fun _ _ _ h1=>by (injection h1 with h1;cases h1))
   refine ⟨_,_,_,_,_,_,_,⟨rfl,rfl,rfl,rfl⟩,rfl,R2.inv,R2.below,X2,?_⟩
   exact ⟨RV.list_nil 1 none 0 (by decide),_,_,h1,h2,Nat.le_refl _,fun _=>rfl⟩
  ·have hlt:g<w'.heap.size:=(Array.getElem?_eq_some_iff.1 hg).1
   obtain ⟨R1,X1⟩:=R.transport (S':=fun a=>S a∨(a.block=g∧a.off<l.length)) (fun _ h=>.inl h) (fun a h=>by
    rcases h with h | h
    ·exact .inl h
    ·exact .inr ⟨by omega,by omega⟩) k2
   have hold:∀(i b:Nat),G.bx[i]?=some b→b<w.heap.size:=fun i b h=>(hI.old i b h).2
   have hH:Head ⟨Tryz.prog,tab,clo,rows,Y⟩ B G (fun a=>S a∨(a.block=g∧a.off<l.length)) w' tk.length l.length 3 (.slice (some ⟨g,0,none⟩) l.length cap):=by
    refine ⟨⟨_,cap,rfl,hn,hm,fun _=>⟨g,cur,rfl,Nat.le_trans hI.base hb,hg,by rw [hs];rfl,fun a ha hab=>?_,fun i h=>?_⟩⟩,fun g' n' cap' t' n'' cap'' h1 h2 h3 h4 h5=>?_,fun g' n' cap' h1 h2 h3=>?_⟩
    ·show a.off<l.length*(tab 3).size
     rw [hsz,Nat.mul_one]
     rcases ha with h | h
     ·have:=hI.slt a h;omega
     ·exact h.2
    ·have:=hold i g h;omega
    ·injection h1 with h1 _ _
     injection h1 with h1
     injection h1 with h1
     subst h1
     have hle:t'<tk.length:=by
      have:=(List.getElem?_eq_some_iff.1 h4).1
      have:=hI.ltk
      omega
     obtain ⟨a,cp,q1,q2,q3,q4⟩:=hI.tok t' _ _ _ (List.getElem?_eq_getElem hle) h4
     injection q1 with q1 q1' q1''
     subst q1' q1''
     obtain ⟨g2,cur2,p1,p2,p3,_⟩:=q4 h5
     rw [←q1] at p1
     injection p1 with p1
     injection p1 with p1
     subst p1
     have:=(Array.getElem?_eq_some_iff.1 p3).1
     omega
    ·injection h1 with h1 _ _
     injection h1 with h1
     injection h1 with h1
     subst h1
     have:=hI.flt _ h3
     omega
   obtain ⟨R2,X2,h1,h2⟩:=R1.tokNew X1 hH (fun g' n' c h _=>by injection h with h _ _;injection h with h;injection h with h;omega)
   refine ⟨_,_,_,_,_,_,_,⟨rfl,rfl,rfl,rfl⟩,rfl,R2.inv,R2.below,X2,?_⟩
   refine ⟨?_,_,_,h1,h2,by rw [hel];exact Nat.le_refl _,fun _=>rfl⟩
   have hget:∀(i:Nat) (x:Int),l[i]?=some x→w'.cell? ⟨g,0+i,none⟩=some (.int .i64 x):=fun i x hx=>by
    have hi:i<l.length:=(List.getElem?_eq_some_iff.1 hx).1
    have e1:(cur.toList.take (l.length*1))[i]?=(l.map (Value.int .i64))[i]?:=by rw [ht]
    rw [List.getElem?_take,if_pos (by omega),Array.getElem?_toList,List.getElem?_map,hx] at e1
    simp only [World.cell?,hg,Nat.zero_add]
    simpa using e1
   rw [←hel]
   refine RV.list 1 (encInts l) (some ⟨g,0,none⟩) ⟨g,0,none⟩ cap (fun i _=>.int .i64 (l.getD i 0)) (fun _=>rfl) (by omega) hm (fun i x hx=>?_) (fun i x j c hx hc=>?_) (fun i x j c hx hc=>?_) (fun h=>absurd h (by decide))
   all_goals
    rw [encInts,List.getElem?_map] at hx
    cases hq:l[i]? with
    | none=>rw [hq] at hx;cases hx
    | some y=>?_
    rw [hq] at hx
    simp only [Option.map_some,Option.some.injEq] at hx
    subst hx
   ·rfl
   ·have hj:j=0:=by
     cases j with
     | zero=>rfl
     | succ j=>simp [encInt,PV.cells] at hc
    subst hj
    have hi:i<l.length:=(List.getElem?_eq_some_iff.1 hq).1
    rw [Addr.add_lit]
    refine ⟨.inr ⟨rfl,by show 0+(i*1+0) < _;omega⟩,?_,rfl⟩
    have:=hget i y hq
    simp only [List.getD_eq_getElem?_getD,hq,Option.getD_some,Nat.mul_one,Nat.add_zero]
    exact this
   ·have hj:j=0:=by
     cases j with
     | zero=>rfl
     | succ j=>simp [encInt,PV.cells] at hc
    subst hj
    simp [encInt,PV.cells] at hc
    subst hc
    simp only [List.getD_eq_getElem?_getD,hq,Option.getD_some]
    exact .int _ _
end Go.Abs
namespace Go.Abs
open Go.RowKit Go.Proofs
def extT (first:Bound) (legs:List Bound) (ts:List Int):List (List Int):=(extL (ts.getLastD 0) ((first::legs).drop ts.length)).map (ts++·)
theorem flatMap_get {α β:Type} {F:α→List β} {c:Nat}:∀{l:List α},(∀y∈l,(F y).length=c)→∀{i j:Nat} {x:α},l[i]?=some x→j<c→(l.flatMap F)[i*c+j]?=(F x)[j]?
 | [],_,i,j,x,h,_=>by simp at h
 | y::r,hc,i,j,x,h,hj=>by
  have hy:=hc y (by simp)
  rw [List.flatMap_cons]
  cases i with
  | zero =>
   simp at h;subst h
   rw [Nat.zero_mul,Nat.zero_add,List.getElem?_append_left (by omega)]
  | succ i =>
   rw [List.getElem?_append_right (by rw [hy,Nat.succ_mul];omega),hy,show (i+1)*c+j - c=i*c+j by rw [Nat.succ_mul];omega]
   exact flatMap_get (fun z hz=>hc z (by simp [hz])) (by simpa using h) hj
theorem extT_step {first:Bound} {legs:List Bound} {ts:List Int} {b:Bound} (hb:(first::legs)[ts.length]?=some b) :
  extT first legs ts=(rangeL (ts.getLastD 0+b.Lo) (ts.getLastD 0+b.Hi)).flatMap fun t=>extT first legs (ts++[t]):=by
 have hlt:=(List.getElem?_eq_some_iff.1 hb).1
 have hd:(first::legs).drop ts.length=b::(first::legs).drop (ts.length+1):=by
  rw [List.drop_eq_getElem_cons hlt,(List.getElem?_eq_some_iff.1 hb).2]
 unfold extT
 rw [hd]
 simp only [extL,List.map_flatMap,List.map_map]
 congr 1
 funext t
 rw [List.length_append,List.length_singleton,show (ts++[t]).getLastD 0=t by simp]
 simp [Function.comp_def]
theorem extT_len (first:Bound) (legs:List Bound) (ts:List Int):(extT first legs ts).length=prodB ((first::legs).drop ts.length):=by
 unfold extT;rw [List.length_map,extL_len]
theorem extT_end {first:Bound} {legs:List Bound} {ts:List Int} (h:ts.length=legs.length+1):extT first legs ts=[ts]:=by
 unfold extT
 rw [List.drop_eq_nil_of_le (by simp;omega)]
 simp [extL]
theorem extT_nil (first:Bound) (legs:List Bound):extT first legs []=extL 0 (first::legs):=by simp [extT]
theorem skip_eachB {A:Ops} {E:Env} {id b:Nat} {ops:Array Oper} {c d:Code} {nb:Nat × Nat} {st:St} {Q Q0:AX→St→Prop} {α β γ:Type} (P:α→β→γ→Prop) (st1:α→β→γ→St) (hQ:∀s,Q .normal s=wpC' A E (.seq (.block b (.seq (.region id ops true) c)) d) nb s Q0)
  (hm:drawMode E true id ops.size=.each) (h1:∀K:St→Prop,(∀x y z,P x y z→K (st1 x y z))→wpAll' A E ops ops.size (Array.replicate ops.size false) st K)
  (h2:∀x y z,P x y z→wpC' A E c nb (st1 x y z) fun e st'=>match e with | .normal=>wpC' A E d nb st' Q0 | .exit i=>if i=b then wpC' A E d nb st' Q0 else Q0 (.exit i) st' | .ret=>Q0 .ret st'):wpC' A E .skip nb st Q:=by
 unfold wpC'
 rw [hQ]
 unfold wpC'
 unfold wpC'
 unfold wpC'
 unfold wpC'
 rw [hm]
 refine h1 _ fun x y z hp=>?_
 have h:=h2 x y z hp
 exact h
def plainS:SV→SV
 | .val p=>.val p
 | _=>.val .any
theorem plainS_le:∀(l:List SV),leL l (l.map plainS)
 | []=>trivial
 | s::r=>by
  cases s<;>first | exact leL_same (plainS_le r) | exact leL_any (plainS_le r)
theorem plainS_within (n m k:Nat) (l:List SV):(l.map plainS).all (SV.within n m k)=true:=by
 rw [List.all_map,List.all_eq_true]
 intro s _
 cases s<;>rfl
theorem wk_ret {nb:Nat × Nat} {sl:List SV} {bx bx':List (Option (List SV))} {tk:List (Nat × TypeId)} {mp:List MapC} {yk:Nat} (hnb:nb.1≤bx.length)
  (h2:bx.all (fun o=>match o with | none=>true | some cs=>cs.all (SV.within bx.length mp.length tk.length))=true):Wk nb ⟨sl,bx++bx',tk,⟨mp,yk⟩⟩ ⟨sl.map plainS,bx,tk,⟨mp,yk⟩⟩:=by
 have:=wk_round (nb:=nb) (bx':=bx') (mp':=[]) (yk:=yk) (plainS_le sl) hnb (.inl rfl) (plainS_within bx.length mp.length tk.length sl) h2
 rw [List.append_nil] at this
 exact this
def cloG (n:Nat):Bool:=n == 134 || n == 1000010 || n == 1000006 || n == 5000000+106 || n == 8000000
def bxG (pc:List PV) (l:Nat):List (Option (List SV)):=[some [.val (.yld l)],some [.clo 134 [.pv (.ptr pc 0),.box 0 0,.box 1 0]]]
def growQ (pc:List PV) (l:Nat) (tk:List (Nat × TypeId)) (y1 y2:Nat) (r:SV) (bx':List (Option (List SV))) (tk':List (Nat × TypeId)) (ax':Ax):Prop :=
 bx'=bxG pc l∧(∃ex,tk'=tk++ex)∧((r=.val (.bool true)∧ax'=⟨[],y1⟩)∨(r=.val (.bool false)∧ax'=⟨[],y2⟩))
set_option maxHeartbeats 8000000 in
theorem grow_spec (Y:YS) (hE:EnvOk ⟨Tryz.prog,tab,cloG,false,Y⟩) (hYa:Y.any=false) (way:Int) (first:Bound) (legs:List Bound) (hb:∀b∈first::legs,-10000≤b.Lo∧b.Lo≤b.Hi∧b.Hi≤10000) (hl:legs.length≤100) {bl:List PV} (hbl:bl=encBounds legs) :
  ∀(d:Nat) (ts:List Int),ts.length+d=legs.length+1→(-10000*(ts.length:Int)≤ts.getLastD 0∧ts.getLastD 0≤10000*(ts.length:Int))→∀(yk:Nat) (tk:List (Nat × TypeId)) (m:Nat),(m=1∨ts=[]) →
   (∀(j:Nat) (x:List Int),(extT first legs ts)[j]?=some x→Y.ys[yk+j]?=some [.list 1 (encInts x)]) →
   CallsR ⟨Tryz.prog,tab,cloG,false,Y⟩ 134 [.val (.list m (encInts ts)),.val (.ptr [.int .i64 way,.int .i64 first.Lo,.int .i64 first.Hi,.list 2 bl] 0),.box 0 0,.box 1 0]
    (bxG [.int .i64 way,.int .i64 first.Lo,.int .i64 first.Hi,.list 2 bl] Y.l) tk ⟨[],yk⟩
    (growQ [.int .i64 way,.int .i64 first.Lo,.int .i64 first.Hi,.list 2 bl] Y.l tk (yk+(extT first legs ts).length) (Y.ys.length+1)):=by
 have hbll:bl.length=legs.length:=by rw [hbl];simp [encBounds]
 obtain ⟨b1,b2⟩:=first
 simp only
 intro d
 induction d with
 | zero =>
  intro ts hts hlast yk tk m hm hys
  have hm1:m=1:=by
   rcases hm with h | h
   ·exact h
   ·rw [h] at hts;simp at hts
  subst hm1
  rw [extT_end (by omega)] at hys ⊢
  have hy0:=hys 0 ts rfl
  rw [Nat.add_zero] at hy0
  refine callsR_by (clo:=cloG) (rows:=false) hE Tryz.func134 rfl (enters_of Tryz.func134 (by kernel_rfl) rfl) (by intro h;simp [bxG] at h) (fun A P' Y' nb R hA hnb hR=>?_)
  obtain ⟨xs,hxs⟩:∃xs,xs=encInts ts:=⟨_,rfl⟩
  have hxl:xs.length=ts.length:=by rw [hxs];simp [encInts]
  rw [←hxs] at hy0 ⊢
  have e1:A.iAdd (A.lLen bl) 1=(legs.length:Int)+1:=by rw [addI hA,lenI hA hbll]
  have e2:A.lLen xs=(ts.length:Int):=lenI hA hxl
  conv=>cbv
  refine ⟨inR' hA e1 (by unfold inI64;omega),?_⟩
  split
  rotate_left
  ·rename_i hc
   cases ((show False by have:=eqF' hA e2 e1 hc;omega))
  conv=>cbv
  refine yld_intro' hA rfl ⟨rfl,hYa⟩ hy0 ?_ (fun n' hn'=>?_)
  ·conv=>cbv
   exact hR _ ⟨_,_,Wk.refl _,.inr (.inl ⟨5,rfl,rfl⟩),rfl,⟨[],by simp⟩,.inl ⟨rfl,rfl⟩⟩
  ·conv=>cbv
   exact hR _ ⟨_,_,Wk.refl _,.inr (.inl ⟨5,rfl,rfl⟩),rfl,⟨[],by simp⟩,.inr ⟨rfl,by rw [hn']⟩⟩
 | succ d ih =>
  intro ts hts hlast yk tk m hm hys
  have hlt:ts.length<(⟨b1,b2⟩::legs).length:=by simp;omega
  obtain ⟨b,hbn⟩:∃b,(⟨b1,b2⟩::legs)[ts.length]?=some b:=⟨_,List.getElem?_eq_getElem hlt⟩
  have hbb:=hb b (List.mem_of_getElem? hbn)
  have hstep:=extT_step hbn
  obtain ⟨c,hcc⟩:∃c,c=prodB ((⟨b1,b2⟩::legs).drop (ts.length+1)):=⟨_,rfl⟩
  have hcl:∀t,(extT ⟨b1,b2⟩ legs (ts++[t])).length=c:=fun t=>by rw [extT_len,hcc];simp
  obtain ⟨last,hla⟩:∃last,last=ts.getLastD 0:=⟨_,rfl⟩
  rw [←hla] at hlast hstep
  have hlen:(extT ⟨b1,b2⟩ legs ts).length=(b.Hi - b.Lo+1).toNat*c:=by
   rw [hstep,List.length_flatMap,show (fun t=>(extT ⟨b1,b2⟩ legs (ts++[t])).length)=fun _=>c from funext hcl,List.map_const',List.sum_replicate_nat,rangeL_len]
   congr 1;congr 1;omega
  have hrow:∀(t:Int),last+b.Lo≤t→t≤last+b.Hi→∀(j:Nat) (x:List Int),(extT ⟨b1,b2⟩ legs (ts++[t]))[j]?=some x→Y.ys[yk+(t - (last+b.Lo)).toNat*c+j]?=some [.list 1 (encInts x)]:=fun t h1 h2 j x hx=>by
   have hj:j<c:=by rw [←hcl t];exact (List.getElem?_eq_some_iff.1 hx).1
   have hg:(rangeL (last+b.Lo) (last+b.Hi))[(t - (last+b.Lo)).toNat]?=some t:=by
    rw [rangeL_get (by omega)];congr 1;omega
   have:=flatMap_get (F:=fun t=>extT ⟨b1,b2⟩ legs (ts++[t])) (fun y _=>hcl y) hg hj
   rw [Nat.add_assoc]
   refine hys _ x ?_
   rw [hstep,this];exact hx
  have hih:=fun (t:Int) (h1:last+b.Lo≤t) (h2:t≤last+b.Hi) (tk':List (Nat × TypeId))=>ih (ts++[t]) (by simp;omega) (by simp;omega) (yk+(t - (last+b.Lo)).toNat*c) tk' 1 (.inl rfl) (hrow t h1 h2)
  obtain ⟨c1,c2⟩:=b
  simp only at hbb hstep hlen hrow hih
  rcases Nat.eq_zero_or_pos ts.length with hn0 | hpos
  ·have ht0:ts=[]:=List.eq_nil_of_length_eq_zero hn0
   have hl0:last=0:=by rw [hla,ht0];rfl
   obtain ⟨rfl,rfl⟩:b1=c1∧b2=c2:=by
    rw [hn0] at hbn
    simp at hbn
    exact hbn
   refine callsR_by (clo:=cloG) (rows:=false) hE Tryz.func134 rfl (enters_of Tryz.func134 (by kernel_rfl) rfl) (by intro h;simp [bxG] at h) (fun A P' Y' nb R hA hnb hR=>?_)
   obtain ⟨xs,hxs⟩:∃xs,xs=encInts ts:=⟨_,rfl⟩
   have hxl:xs.length=ts.length:=by rw [hxs];simp [encInts]
   rw [←hxs]
   have e1:A.iAdd (A.lLen bl) 1=(legs.length:Int)+1:=by rw [addI hA,lenI hA hbll]
   have e2:A.lLen xs=(ts.length:Int):=lenI hA hxl
   have e3:A.iSub (A.lLen xs) 1=(ts.length:Int) - 1:=by rw [subI hA,e2]
   conv=>cbv
   refine ⟨inR' hA e1 (by unfold inI64;omega),?_⟩
   split
   ·rename_i hc
    cases ((show False by have:=eqT' hA e2 e1 hc;omega))
   conv=>cbv
   split
   ·rename_i hc
    cases ((show False by have:=ltT' hA rfl e2 hc;omega))
   conv=>cbv
   refine loop_set hA (fun (z:Int × Nat × List (Nat × TypeId)) s=>{ s.put (some 9) (.val (.int .i64 z.1)) with tk:=z.2.2,ax:=⟨[],z.2.1⟩ }) (fun z=>b1≤z.1∧z.1≤b2+1∧z.2.1=yk+(z.1 - b1).toNat*c∧∃ex,z.2.2=tk++ex) (fun z=>(b2+1 - z.1).toNat) (b1,yk,tk) ?_ ?_ ?_
   ·conv=>cbv
    exact wk_sl (by repeat (first | refine leL_same ?_ | refine leL_any ?_ | exact leL_nil))
   ·exact ⟨Int.le_refl _,by omega,by simp,[],by simp⟩
   rintro R2 ⟨mm,y2,tz⟩ ⟨h1,h2,h3,ex,h4⟩ hR2
   simp only at h1 h2 h3 h4
   conv=>cbv
   split
   rotate_left
   ·rename_i hc
    have hmB:=leF hA hc
    have hmE:mm=b2+1:=by omega
    conv=>cbv
    refine hR _ ⟨_,_,wk_ret (bx:=[_,_]) (bx':=[_]) (by rw [hnb];exact Nat.le_refl 2) rfl,.inr (.inl ⟨5,rfl,rfl⟩),rfl,⟨ex,h4⟩,.inl ⟨rfl,?_⟩⟩
    rw [hlen,h3,hmE,show b2+1 - b1=b2 - b1+1 by omega]
   rename_i hc
   have hmB:=leT hA hc
   have hfm:A.iAdd 0 mm=last+mm:=by rw [addI hA]<;>omega
   obtain ⟨kz,hkz⟩:∃kz,kz=tz.length:=⟨_,rfl⟩
   obtain ⟨tk1,htk1⟩:∃tk1,tk1=tz++[(ts.length,3)]:=⟨_,rfl⟩
   have hclone:CallsR ⟨Tryz.prog,tab,cloG,false,Y⟩ 106 [.val (.list m xs)] [some [.val (.yld Y.l)],some [.clo 134 [.pv (.ptr [.int .i64 way,.int .i64 b1,.int .i64 b2,.list 2 bl] 0),.box 0 0,.box 1 0]],some [.val (.int .i64 b1),.val (.int .i64 b2)]] tz ⟨[],y2⟩
     (fun r bx' tk' ax'=>r=.own kz 1 xs∧bx'=[some [.val (.yld Y.l)],some [.clo 134 [.pv (.ptr [.int .i64 way,.int .i64 b1,.int .i64 b2,.list 2 bl] 0),.box 0 0,.box 1 0]],some [.val (.int .i64 b1),.val (.int .i64 b2)]]∧tk'=tk1∧ax'=⟨[],y2⟩):=by
    rw [hkz,htk1,hxs]
    exact clone_own ts (by omega) m _ _ _
   have hat:A.tkAt tk1 kz 3 (A.nLen xs):=by
    rw [htk1,hkz]
    subst hA
    refine ⟨by simp [List.getD_eq_getElem?_getD],?_,by simp⟩
    show ((tz++[(ts.length,3)]).getD tz.length (0,0)).1=xs.length
    simp [List.getD_eq_getElem?_getD,hxl]
   have hrm:A.room (A.nLen (A.lApp xs [.int .i64 (A.iAdd 0 mm)])) 8:=by
    subst hA
    show (xs++[_]).length*(8+1)≤140737488355328
    rw [List.length_append,List.length_singleton];omega
   have hin:A.inR (A.iAdd 0 mm):=inR' hA hfm (by unfold inI64;omega)
   have hmr:A.inR (A.iAdd mm 1):=inR' hA (addI hA mm 1) (by unfold inI64;omega)
   have hdeep:CallsR ⟨Tryz.prog,tab,cloG,false,Y⟩ 134 [.own kz 1 (A.lApp xs [.int .i64 (A.iAdd 0 mm)]),.val (.ptr [.int .i64 way,.int .i64 b1,.int .i64 b2,.list 2 bl] 0),.box 0 0,.box 1 0]
     [some [.val (.yld Y.l)],some [.clo 134 [.pv (.ptr [.int .i64 way,.int .i64 b1,.int .i64 b2,.list 2 bl] 0),.box 0 0,.box 1 0]],some [.val (.int .i64 b1),.val (.int .i64 b2)]] (A.tkPut tk1 kz (A.nLen (A.lApp xs [.int .i64 (A.iAdd 0 mm)]),3)) ⟨[],y2⟩
     (fun r bx' tk' ax'=>∃(b:Bool) (y':Nat),r=.val (.bool b)∧bx'=[some [.val (.yld Y.l)],some [.clo 134 [.pv (.ptr [.int .i64 way,.int .i64 b1,.int .i64 b2,.list 2 bl] 0),.box 0 0,.box 1 0]],some [.val (.int .i64 b1),.val (.int .i64 b2)]]∧ax'=⟨[],y'⟩∧(∃ex,tk'=tk++ex)∧((b=true∧y'=y2+c)∨(b=false∧y'=Y.ys.length+1))):=by
    have hg:=hih (last+mm) (by omega) (by omega) (A.tkPut tk1 kz (A.nLen (A.lApp xs [.int .i64 (A.iAdd 0 mm)]),3))
    rw [show (last+mm - (last+b1)).toNat=(mm - b1).toNat by congr 1;omega,←h3,hcl] at hg
    have hf:=CallsR.frame hg [some [.val (.int .i64 b1),.val (.int .i64 b2)]] (by intro o ho;simp at ho;exact ⟨_,ho,by intro c hc;simp at hc;rcases hc with rfl | rfl<;>exact ⟨_,rfl⟩⟩) (fun r bx' tk' ax' h=>by rw [h.1]) (by simp [SV.within,bxG]) (by simp [SV.within,bxG]) (by simp)
    have hap:A.lApp xs [.int .i64 (A.iAdd 0 mm)]=encInts (ts++[last+mm]):=by
     rw [hfm,hxs]
     subst hA
     show encInts ts++_=_
     simp [encInts,encInt]
    rw [hap]
    refine CallsR.wk (svs2:=[.val (.list 1 (encInts (ts++[last+mm]))),.val (.ptr [.int .i64 way,.int .i64 b1,.int .i64 b2,.list 2 bl] 0),.box 0 0,.box 1 0]) (bx2:=_) (tk2:=_) (ax2:=⟨[],y2⟩) (by intro h;simp at h) (Wk.forget _ _ _ _ _ (leL_own (leL_same (leL_same (leL_same leL_nil))))) ?_
    have hf':=hf
    rw [hap] at hf'
    refine ⟨hf'.1,fun B S0 w0 G S w vs a b c d=>(hf'.2 B S0 w0 G S w vs a b c d).mono ?_⟩
    rintro e w' ⟨v,r,bx',tk',ax',G2,S2,⟨b0,rfl,h5,⟨ex2,h6⟩,h7⟩,he⟩
    refine ⟨v,r,b0++[some [.val (.int .i64 b1),.val (.int .i64 b2)]],tk',ax',G2,S2,?_,he⟩
    have hex2:∃ex,tk'=tk++ex:=by
     obtain ⟨e3,he3⟩:∃e3,A.tkPut tk1 kz (A.nLen (encInts (ts++[last+mm])),3)=tk++e3:=by
      rw [htk1,hkz,h4]
      subst hA
      refine ⟨ex++[((encInts (ts++[last+mm])).length,3)],?_⟩
      show (tk++ex++[(ts.length,3)]).set (tk++ex).length ((encInts (ts++[last+mm])).length,3)=_
      rw [List.set_append_right _ _ (Nat.le_refl _)]
      simp
     rw [he3] at h6
     exact ⟨e3++ex2,by rw [h6,List.append_assoc]⟩
    rcases h7 with ⟨rfl,rfl⟩ | ⟨rfl,rfl⟩
    ·exact ⟨true,_,rfl,by rw [h5];rfl,rfl,hex2,.inl ⟨rfl,rfl⟩⟩
    ·exact ⟨false,_,rfl,by rw [h5];rfl,rfl,hex2,.inr ⟨rfl,rfl⟩⟩
   apply skip_eachB (fun (b:Bool) (y':Nat) (tk':List (Nat × TypeId))=>(∃ex,tk'=tk++ex)∧((b=true∧y'=y2+c)∨(b=false∧y'=Y.ys.length+1))) (hQ:=fun _=>rfl)
   case hm=>rfl
   case h1 =>
    intro K hK
    conv=>cbv
    repeat' first
     | exact hin
     | exact hrm
     | exact hat
     | (refine shareR_intro hA hclone ?_;rintro _ _ _ _ ⟨rfl,rfl,rfl,rfl⟩;conv=>cbv)
     | (refine deepR_intro hA hdeep ?_;rintro _ _ tk' _ ⟨bb,y',rfl,rfl,rfl,hP⟩;conv=>cbv)
     | exact hK _ _ _ hP
     | apply And.intro
   case h2 =>
    rintro bb y' tk' ⟨⟨ex',hex'⟩,h5⟩
    rcases h5 with ⟨rfl,hy'⟩ | ⟨rfl,hy'⟩
    ·conv=>cbv
     split
     ·rename_i hc
      cases (nT hA hc)
     conv=>cbv
     refine ⟨hmr,hR2 (A.iAdd mm 1,y',tk') _ ?_ ?_ ?_⟩
     ·conv=>cbv
      exact wk_sl (by repeat (first | refine leL_same ?_ | refine leL_any ?_ | exact leL_nil))
     ·show b1≤A.iAdd mm 1∧A.iAdd mm 1≤b2+1∧y'=yk+(A.iAdd mm 1 - b1).toNat*c∧∃ex,tk'=tk++ex
      rw [addI hA]
      refine ⟨by omega,by omega,?_,ex',hex'⟩
      rw [hy',h3,show (mm+1 - b1).toNat=(mm - b1).toNat+1 by omega,Nat.succ_mul];omega
     ·show (b2+1 - A.iAdd mm 1).toNat<(b2+1 - mm).toNat
      rw [addI hA];omega
    ·conv=>cbv
     split
     rotate_left
     ·rename_i hc
      cases (nF hA hc)
     conv=>cbv
     exact hR _ ⟨_,_,wk_ret (bx:=[_,_]) (bx':=[_]) (by rw [hnb];exact Nat.le_refl 2) rfl,.inr (.inl ⟨5,rfl,rfl⟩),rfl,⟨ex',hex'⟩,.inr ⟨rfl,by rw [hy']⟩⟩
  ·have hm1:m=1:=by
    rcases hm with h | h
    ·exact h
    ·rw [h] at hpos;simp at hpos
   subst hm1
   refine callsR_by (clo:=cloG) (rows:=false) hE Tryz.func134 rfl (enters_of Tryz.func134 (by kernel_rfl) rfl) (by intro h;simp [bxG] at h) (fun A P' Y' nb R hA hnb hR=>?_)
   obtain ⟨xs,hxs⟩:∃xs,xs=encInts ts:=⟨_,rfl⟩
   have hxl:xs.length=ts.length:=by rw [hxs];simp [encInts]
   rw [←hxs]
   have e1:A.iAdd (A.lLen bl) 1=(legs.length:Int)+1:=by rw [addI hA,lenI hA hbll]
   have e2:A.lLen xs=(ts.length:Int):=lenI hA hxl
   have e3:A.iSub (A.lLen xs) 1=(ts.length:Int) - 1:=by rw [subI hA,e2]
   conv=>cbv
   refine ⟨inR' hA e1 (by unfold inI64;omega),?_⟩
   split
   ·rename_i hc
    cases ((show False by have:=eqT' hA e2 e1 hc;omega))
   conv=>cbv
   split
   rotate_left
   ·rename_i hc
    cases (show False by have:=ltF' hA rfl e2 hc;omega)
   have i0:0≤A.iSub (A.lLen xs) 1:=by rw [e3];omega
   have i1:A.iSub (A.lLen xs) 1<legs.length:=by rw [e3];omega
   have i2:A.iSub (A.lLen xs) 1<ts.length:=by rw [e3];omega
   have hsr:A.inR (A.iSub (A.lLen xs) 1):=inR' hA e3 (by unfold inI64;omega)
   have hlb:legs[(A.iSub (A.lLen xs) 1).toNat]?=some ⟨c1,c2⟩:=by
    have h':=hbn
    rw [show ts.length=(A.iSub (A.lLen xs) 1).toNat+1 by have:=e3;omega,List.getElem?_cons_succ] at h'
    exact h'
   have hlt2:ts[(A.iSub (A.lLen xs) 1).toNat]?=some last:=by
    rw [e3,hla,show ((ts.length:Int) - 1).toNat=ts.length - 1 by omega,List.getLastD_eq_getLast?,List.getLast?_eq_getElem?]
    rw [List.getElem?_eq_getElem (by omega)]<;>rfl
   refine region_inv rfl [.val (.ptr [.int .i64 way,.int .i64 b1,.int .i64 b2,.list 2 bl] 3),.val (.list 2 bl),.val (.int .i64 (A.lLen xs)),.val (.int .i64 (A.iSub (A.lLen xs) 1)),.val (.ptr [.int .i64 c1,.int .i64 c2] 0),.val (.agg [.int .i64 c1,.int .i64 c2]),
     .val (.list 1 xs),.val (.int .i64 (A.lLen xs)),.val (.int .i64 (A.iSub (A.lLen xs) 1)),.val (.ptr [.int .i64 last] 0),.val (.int .i64 last),.undef,.val (.int .i64 last)]
    (fun L=>[some [.val (.yld Y.l)],some [.clo 134 [.pv (.ptr [.int .i64 way,.int .i64 b1,.int .i64 b2,.list 2 bl] 0),.box 0 0,.box 1 0]],some [.val (.int .i64 (cond (L 11) c1 b1)),.val (.int .i64 (cond (L 11) c2 b2))]])
    rfl (fun L L' h=>by simp only [h 11 (by decide)]) rfl ?_ ?_
   ·intro L i o hi he K' hK
    rcases i with _ | i
    ·cases hi
     conv=>cbv
     exact hK
    rcases i with _ | i
    ·cases hi
     have h0:L 0=true:=he ⟨0,.data⟩ (by simp) rfl
     conv=>cbv
     simp only [h0]
     conv=>cbv
     refine cast (congrArg K' ?_) hK
     conv=>lhs;cbv
     simp only [h0]
    rcases i with _ | i
    ·cases hi
     conv=>cbv
     exact hK
    rcases i with _ | i
    ·cases hi
     have h2:L 2=true:=he ⟨2,.data⟩ (by simp) rfl
     conv=>cbv
     simp only [h2]
     conv=>cbv
     refine ⟨hsr,?_⟩
     refine cast (congrArg K' ?_) hK
     conv=>lhs;cbv
     simp only [h2]
    rcases i with _ | i
    ·cases hi
     have h1:L 1=true:=he ⟨1,.data⟩ (by simp) rfl
     have h3:L 3=true:=he ⟨3,.data⟩ (by simp) rfl
     conv=>cbv
     simp only [h1,h3]
     conv=>cbv
     refine idx_Bound hA hbl i0 i1 (fun z hz=>?_)
     obtain rfl:=Option.some.inj (hlb.symm.trans hz)
     conv=>cbv
     refine cast (congrArg K' ?_) hK
     conv=>lhs;cbv
     simp only [h1,h3]
    rcases i with _ | i
    ·cases hi
     have h4:L 4=true:=he ⟨4,.data⟩ (by simp) rfl
     conv=>cbv
     simp only [h4]
     conv=>cbv
     refine cast (congrArg K' ?_) hK
     conv=>lhs;cbv
     simp only [h4]
    rcases i with _ | i
    ·cases hi
     conv=>cbv
     exact hK
    rcases i with _ | i
    ·cases hi
     conv=>cbv
     exact hK
    rcases i with _ | i
    ·cases hi
     have h7:L 7=true:=he ⟨7,.data⟩ (by simp) rfl
     conv=>cbv
     simp only [h7]
     conv=>cbv
     refine ⟨hsr,?_⟩
     refine cast (congrArg K' ?_) hK
     conv=>lhs;cbv
     simp only [h7]
    rcases i with _ | i
    ·cases hi
     have h6:L 6=true:=he ⟨6,.data⟩ (by simp) rfl
     have h8:L 8=true:=he ⟨8,.data⟩ (by simp) rfl
     conv=>cbv
     simp only [h6,h8]
     conv=>cbv
     refine idx_Int hA hxs i0 i2 (fun z hz=>?_)
     obtain rfl:=Option.some.inj (hlt2.symm.trans hz)
     conv=>cbv
     refine cast (congrArg K' ?_) hK
     conv=>lhs;cbv
     simp only [h6,h8]
    rcases i with _ | i
    ·cases hi
     have h9:L 9=true:=he ⟨9,.data⟩ (by simp) rfl
     conv=>cbv
     simp only [h9]
     conv=>cbv
     refine cast (congrArg K' ?_) hK
     conv=>lhs;cbv
     simp only [h9]
    rcases i with _ | i
    ·cases hi
     have h5:L 5=true:=he ⟨5,.data⟩ (by simp) rfl
     conv=>cbv
     simp only [h5]
     conv=>cbv
     refine cast (congrArg K' ?_) hK
     conv=>lhs;cbv
     simp only [h5]
    rcases i with _ | i
    ·cases hi
     have h10:L 10=true:=he ⟨10,.data⟩ (by simp) rfl
     conv=>cbv
     simp only [h10]
     conv=>cbv
     refine cast (congrArg K' ?_) hK
     conv=>lhs;cbv
     simp only [h10]
    simp at hi
   conv=>cbv
   refine loop_set hA (fun (z:Int × Nat × List (Nat × TypeId)) s=>{ s.put (some 9) (.val (.int .i64 z.1)) with tk:=z.2.2,ax:=⟨[],z.2.1⟩ }) (fun z=>c1≤z.1∧z.1≤c2+1∧z.2.1=yk+(z.1 - c1).toNat*c∧∃ex,z.2.2=tk++ex) (fun z=>(c2+1 - z.1).toNat) (c1,yk,tk) ?_ ?_ ?_
   ·conv=>cbv
    exact wk_sl (by repeat (first | refine leL_same ?_ | refine leL_any ?_ | exact leL_nil))
   ·exact ⟨Int.le_refl _,by omega,by simp,[],by simp⟩
   rintro R2 ⟨mm,y2,tz⟩ ⟨h1,h2,h3,ex,h4⟩ hR2
   simp only at h1 h2 h3 h4
   conv=>cbv
   split
   rotate_left
   ·rename_i hc
    have hmB:=leF hA hc
    have hmE:mm=c2+1:=by omega
    conv=>cbv
    refine hR _ ⟨_,_,wk_ret (bx:=[_,_]) (bx':=[_]) (by rw [hnb];exact Nat.le_refl 2) rfl,.inr (.inl ⟨5,rfl,rfl⟩),rfl,⟨ex,h4⟩,.inl ⟨rfl,?_⟩⟩
    rw [hlen,h3,hmE,show c2+1 - c1=c2 - c1+1 by omega]
   rename_i hc
   have hmB:=leT hA hc
   have hfm:A.iAdd last mm=last+mm:=by rw [addI hA]<;>omega
   obtain ⟨kz,hkz⟩:∃kz,kz=tz.length:=⟨_,rfl⟩
   obtain ⟨tk1,htk1⟩:∃tk1,tk1=tz++[(ts.length,3)]:=⟨_,rfl⟩
   have hclone:CallsR ⟨Tryz.prog,tab,cloG,false,Y⟩ 106 [.val (.list 1 xs)] [some [.val (.yld Y.l)],some [.clo 134 [.pv (.ptr [.int .i64 way,.int .i64 b1,.int .i64 b2,.list 2 bl] 0),.box 0 0,.box 1 0]],some [.val (.int .i64 c1),.val (.int .i64 c2)]] tz ⟨[],y2⟩
     (fun r bx' tk' ax'=>r=.own kz 1 xs∧bx'=[some [.val (.yld Y.l)],some [.clo 134 [.pv (.ptr [.int .i64 way,.int .i64 b1,.int .i64 b2,.list 2 bl] 0),.box 0 0,.box 1 0]],some [.val (.int .i64 c1),.val (.int .i64 c2)]]∧tk'=tk1∧ax'=⟨[],y2⟩):=by
    rw [hkz,htk1,hxs]
    exact clone_own ts (by omega) 1 _ _ _
   have hat:A.tkAt tk1 kz 3 (A.nLen xs):=by
    rw [htk1,hkz]
    subst hA
    refine ⟨by simp [List.getD_eq_getElem?_getD],?_,by simp⟩
    show ((tz++[(ts.length,3)]).getD tz.length (0,0)).1=xs.length
    simp [List.getD_eq_getElem?_getD,hxl]
   have hrm:A.room (A.nLen (A.lApp xs [.int .i64 (A.iAdd last mm)])) 8:=by
    subst hA
    show (xs++[_]).length*(8+1)≤140737488355328
    rw [List.length_append,List.length_singleton];omega
   have hin:A.inR (A.iAdd last mm):=inR' hA hfm (by unfold inI64;omega)
   have hmr:A.inR (A.iAdd mm 1):=inR' hA (addI hA mm 1) (by unfold inI64;omega)
   have hdeep:CallsR ⟨Tryz.prog,tab,cloG,false,Y⟩ 134 [.own kz 1 (A.lApp xs [.int .i64 (A.iAdd last mm)]),.val (.ptr [.int .i64 way,.int .i64 b1,.int .i64 b2,.list 2 bl] 0),.box 0 0,.box 1 0]
     [some [.val (.yld Y.l)],some [.clo 134 [.pv (.ptr [.int .i64 way,.int .i64 b1,.int .i64 b2,.list 2 bl] 0),.box 0 0,.box 1 0]],some [.val (.int .i64 c1),.val (.int .i64 c2)]] (A.tkPut tk1 kz (A.nLen (A.lApp xs [.int .i64 (A.iAdd last mm)]),3)) ⟨[],y2⟩
     (fun r bx' tk' ax'=>∃(b:Bool) (y':Nat),r=.val (.bool b)∧bx'=[some [.val (.yld Y.l)],some [.clo 134 [.pv (.ptr [.int .i64 way,.int .i64 b1,.int .i64 b2,.list 2 bl] 0),.box 0 0,.box 1 0]],some [.val (.int .i64 c1),.val (.int .i64 c2)]]∧ax'=⟨[],y'⟩∧(∃ex,tk'=tk++ex)∧((b=true∧y'=y2+c)∨(b=false∧y'=Y.ys.length+1))):=by
    have hg:=hih (last+mm) (by omega) (by omega) (A.tkPut tk1 kz (A.nLen (A.lApp xs [.int .i64 (A.iAdd last mm)]),3))
    rw [show (last+mm - (last+c1)).toNat=(mm - c1).toNat by congr 1;omega,←h3,hcl] at hg
    have hf:=CallsR.frame hg [some [.val (.int .i64 c1),.val (.int .i64 c2)]] (by intro o ho;simp at ho;exact ⟨_,ho,by intro c hc;simp at hc;rcases hc with rfl | rfl<;>exact ⟨_,rfl⟩⟩) (fun r bx' tk' ax' h=>by rw [h.1]) (by simp [SV.within,bxG]) (by simp [SV.within,bxG]) (by simp)
    have hap:A.lApp xs [.int .i64 (A.iAdd last mm)]=encInts (ts++[last+mm]):=by
     rw [hfm,hxs]
     subst hA
     show encInts ts++_=_
     simp [encInts,encInt]
    rw [hap]
    refine CallsR.wk (svs2:=[.val (.list 1 (encInts (ts++[last+mm]))),.val (.ptr [.int .i64 way,.int .i64 b1,.int .i64 b2,.list 2 bl] 0),.box 0 0,.box 1 0]) (bx2:=_) (tk2:=_) (ax2:=⟨[],y2⟩) (by intro h;simp at h) (Wk.forget _ _ _ _ _ (leL_own (leL_same (leL_same (leL_same leL_nil))))) ?_
    have hf':=hf
    rw [hap] at hf'
    refine ⟨hf'.1,fun B S0 w0 G S w vs a b c d=>(hf'.2 B S0 w0 G S w vs a b c d).mono ?_⟩
    rintro e w' ⟨v,r,bx',tk',ax',G2,S2,⟨b0,rfl,h5,⟨ex2,h6⟩,h7⟩,he⟩
    refine ⟨v,r,b0++[some [.val (.int .i64 c1),.val (.int .i64 c2)]],tk',ax',G2,S2,?_,he⟩
    have hex2:∃ex,tk'=tk++ex:=by
     obtain ⟨e3,he3⟩:∃e3,A.tkPut tk1 kz (A.nLen (encInts (ts++[last+mm])),3)=tk++e3:=by
      rw [htk1,hkz,h4]
      subst hA
      refine ⟨ex++[((encInts (ts++[last+mm])).length,3)],?_⟩
      show (tk++ex++[(ts.length,3)]).set (tk++ex).length ((encInts (ts++[last+mm])).length,3)=_
      rw [List.set_append_right _ _ (Nat.le_refl _)]
      simp
     rw [he3] at h6
     exact ⟨e3++ex2,by rw [h6,List.append_assoc]⟩
    rcases h7 with ⟨rfl,rfl⟩ | ⟨rfl,rfl⟩
    ·exact ⟨true,_,rfl,by rw [h5];rfl,rfl,hex2,.inl ⟨rfl,rfl⟩⟩
    ·exact ⟨false,_,rfl,by rw [h5];rfl,rfl,hex2,.inr ⟨rfl,rfl⟩⟩
   apply skip_eachB (fun (b:Bool) (y':Nat) (tk':List (Nat × TypeId))=>(∃ex,tk'=tk++ex)∧((b=true∧y'=y2+c)∨(b=false∧y'=Y.ys.length+1))) (hQ:=fun _=>rfl)
   case hm=>rfl
   case h1 =>
    intro K hK
    conv=>cbv
    repeat' first
     | exact hin
     | exact hrm
     | exact hat
     | (refine shareR_intro hA hclone ?_;rintro _ _ _ _ ⟨rfl,rfl,rfl,rfl⟩;conv=>cbv)
     | (refine deepR_intro hA hdeep ?_;rintro _ _ tk' _ ⟨bb,y',rfl,rfl,rfl,hP⟩;conv=>cbv)
     | exact hK _ _ _ hP
     | apply And.intro
   case h2 =>
    rintro bb y' tk' ⟨⟨ex',hex'⟩,h5⟩
    rcases h5 with ⟨rfl,hy'⟩ | ⟨rfl,hy'⟩
    ·conv=>cbv
     split
     ·rename_i hc
      cases (nT hA hc)
     conv=>cbv
     refine ⟨hmr,hR2 (A.iAdd mm 1,y',tk') _ ?_ ?_ ?_⟩
     ·conv=>cbv
      exact wk_sl (by repeat (first | refine leL_same ?_ | refine leL_any ?_ | exact leL_nil))
     ·show c1≤A.iAdd mm 1∧A.iAdd mm 1≤c2+1∧y'=yk+(A.iAdd mm 1 - c1).toNat*c∧∃ex,tk'=tk++ex
      rw [addI hA]
      refine ⟨by omega,by omega,?_,ex',hex'⟩
      rw [hy',h3,show (mm+1 - c1).toNat=(mm - c1).toNat+1 by omega,Nat.succ_mul];omega
     ·show (c2+1 - A.iAdd mm 1).toNat<(c2+1 - mm).toNat
      rw [addI hA];omega
    ·conv=>cbv
     split
     rotate_left
     ·rename_i hc
      cases (nF hA hc)
     conv=>cbv
     exact hR _ ⟨_,_,wk_ret (bx:=[_,_]) (bx':=[_]) (by rw [hnb];exact Nat.le_refl 2) rfl,.inr (.inl ⟨5,rfl,rfl⟩),rfl,⟨ex',hex'⟩,.inr ⟨rfl,by rw [hy']⟩⟩
end Go.Abs
namespace Go.Abs
open Go.RowKit Go.Proofs
theorem tr_times1 (way:Int) (first:Bound) (legs:List Bound) (hb:∀b∈first::legs,-10000≤b.Lo∧b.Lo≤b.Hi∧b.Hi≤10000) (hl:legs.length≤100) {bl:List PV} (hbl:bl=encBounds legs) :
  SeqPV Tryz.prog 133 [.ptr [.int .i64 way,.int .i64 first.Lo,.int .i64 first.Hi,.list 2 bl] 0] ((extL 0 (first::legs)).map fun ts=>[.list 1 (encInts ts)]):=by
 refine seqPV_byY (clo:=cloG) (rows:=false) env_ok Tryz.func133 rfl (enters_of Tryz.func133 (by kernel_rfl) rfl) rfl (fun A P Y Y' y R hr hys hE hy hA hR=>?_)
 have hg:=grow_spec Y hE hy.2 way first legs hb hl hbl (legs.length+1) [] (by simp) (by simp) 0 [] 0 (.inr rfl) (fun j x hx=>by
  rw [extT_nil] at hx
  rw [hys,Nat.zero_add,List.getElem?_map,hx];rfl)
 rw [extT_nil,Nat.zero_add] at hg
 have hlen:Y.ys.length=(extL 0 (first::legs)).length:=by rw [hys,List.length_map]
 have hR1:=fun k (h:k=(extL 0 (first::legs)).length∨k=Y.ys.length+1)=>hR k (by rw [List.length_map];omega)
 have hcall:CallsR ⟨Tryz.prog,tab,cloG,false,Y⟩ 134 [.lit 0 [],.val (.ptr [.int .i64 way,.int .i64 first.Lo,.int .i64 first.Hi,.list 2 bl] 0),.box 0 0,.box 1 0]
   (bxG [.int .i64 way,.int .i64 first.Lo,.int .i64 first.Hi,.list 2 bl] Y.l) [] ⟨[],0⟩ (growQ [.int .i64 way,.int .i64 first.Lo,.int .i64 first.Hi,.list 2 bl] Y.l [] (extL 0 (first::legs)).length (Y.ys.length+1)) :=
  CallsR.wk (by intro h;rfl) (Wk.forget _ _ _ _ _ (leL_lit (leL_same (leL_same (leL_same leL_nil))))) hg
 rw [hy.1]
 generalize (extL 0 (first::legs)).length=n at hcall hR1
 generalize Y.ys.length+1=n2 at hcall hR1
 obtain ⟨b1,b2⟩:=first
 simp only at hcall ⊢
 unfold bxG at hcall
 conv=>cbv
 refine deepR_intro hA hcall ?_
 rintro r bx' tk' ax' ⟨rfl,_,h | h⟩
 ·obtain ⟨rfl,rfl⟩:=h
  conv=>cbv
  exact hR1 _ (.inl rfl)
 ·obtain ⟨rfl,rfl⟩:=h
  conv=>cbv
  exact hR1 _ (.inr rfl)
theorem tr_times (pw b1 b2:Int) (bl:List PV):CallsPV Tryz.prog 59 [.agg [.int .i64 pw,.int .i64 b1,.int .i64 b2,.list 2 bl]] (.fn 133 [.ptr [.int .i64 pw,.int .i64 b1,.int .i64 b2,.list 2 bl] 0]):=by
 refine callsPV_by (clo:=fun _=>false) (rows:=false) env_ok Tryz.func59 rfl (enters_of Tryz.func59 (by kernel_rfl) rfl) (fun A q P Y hr hA hq=>?_)
 conv=>cbv
 rw [←hq]
set_option maxHeartbeats 1000000 in
theorem tr_All (t:Tables) (f:Flight) (o:Opt):CallsPV Tryz.prog 16 [encTables t,encFlight f,encOpt o] (.tup [.list 2 (encPaths (allP t f o)),.int .i64 (countE t f o)]):=by
 have hcnt:=tr_Count t f o
 have hpl:=tr_planned t f o
 by_cases h0:countE t f o=0
 ·obtain ⟨hp0,hmany⟩:=countE_plan h0
  obtain ⟨k,w,h⟩:=planE_plan hp0
  have hall:allP t f o=(allT t f o).map fun ts=>⟨planW f o,ts⟩:=by rw [allP,if_pos h0]
  have hseq:=fun bl hbl=>tr_times1 (planW f o) (firstB f o) (planL t f o) h.all (by have:=h.bounds.2.2.2;omega) (bl:=bl) hbl
  have hTl:=allT_len t f o
  have hTe:extL 0 (firstB f o::planL t f o)=allT t f o:=rfl
  rw [hTe] at hseq
  rw [planPV_ok hp0,hp0] at hpl
  rw [h0] at hcnt
  rw [hall,h0]
  generalize countN t f o=cn at hcnt
  generalize allT t f o=T at hseq hTl
  generalize planW f o=pw at hpl hseq
  generalize firstB f o=fb at hpl hseq
  generalize planL t f o=pL at hpl hseq
  obtain ⟨b1,b2⟩:=fb
  obtain ⟨bl,hbl⟩:∃bl,bl=encBounds pL:=⟨_,rfl⟩
  have hs2:=hseq bl hbl
  rw [←hbl] at hpl
  have hmk:=tr_times pw b1 b2 bl
  clear hseq hall hTe h h0
  simp only at hpl hs2
  refine callsPV_by (clo:=fun _=>false) (rows:=false) env_ok Tryz.func16 rfl (enters_of Tryz.func16 (by kernel_rfl) rfl) (fun A q P Y hr hA hq=>?_)
  obtain ⟨ss,hss⟩:∃ss,ss=encSectors t.Sectors:=⟨_,rfl⟩
  obtain ⟨cs,hcs⟩:∃cs,cs=encConfigs t.Configs:=⟨_,rfl⟩
  obtain ⟨ws,hws⟩:∃ws,ws=encWays t.Ways:=⟨_,rfl⟩
  obtain ⟨ms,hms⟩:∃ms,ms=encIntLs t.Modes:=⟨_,rfl⟩
  obtain ⟨ks,hks⟩:∃ks,ks=encKinds t.Kinds:=⟨_,rfl⟩
  obtain ⟨nv,hnv⟩:∃nv,nv=t.Volumes:=⟨_,rfl⟩
  have htab:encTables t=.agg [.int .i64 nv,.list 5 ss,.list 3 cs,.list 3 ws,.list 1 ms,.list 6 ks]:=by rw [encTables_eq t hss hcs hws hms hks,hnv]
  rw [htab] at hpl hcnt ⊢
  obtain ⟨f1,f2,f3,f4,f5,⟨f6,f7⟩,f8⟩:=f
  obtain ⟨fl,hfl⟩:∃fl,fl=encInts f5:=⟨_,rfl⟩
  rw [encFlight_eq _ hfl] at hpl hcnt ⊢
  obtain ⟨o1,o2,o3,o4⟩:=o
  simp only at hpl hcnt ⊢
  conv=>cbv
  refine call_intro hA (hcnt) ?_
  conv=>cbv
  split
  ·rename_i hc
   cases (neT hA hc rfl)
  conv=>cbv
  refine call_intro hA (hpl) ?_
  conv=>cbv
  refine call_intro hA (hmk) ?_
  conv=>cbv
  refine rng_intro hA hs2 (fun x hx=>?_) (fun (L:List PV) s=>{ s with bx:=s.bx.set 3 (some [.own 0 2 L]),tk:=[(A.nLen L,49)] })
   (fun k L=>L=encPaths ((T.take k).map fun ts=>⟨pw,ts⟩)) [] (fun _=>rfl) ?_ ?_ ?_ ?_
  ·obtain ⟨o,_,rfl⟩:=List.mem_map.1 hx;rfl
  ·subst hA
   exact Wk.ownBx _ _ [] _ 3 0 0 2 [.lit 0 []] [] 49 rfl rfl (.inr rfl)
  ·rfl
  ·intro R k L x hx hL hR
   rw [List.getElem?_map,Option.map_eq_some_iff] at hx
   obtain ⟨ts,hts,rfl⟩:=hx
   have hkl:k<T.length:=(List.getElem?_eq_some_iff.1 hts).1
   have hLl:L.length≤5000:=by rw [hL];simp [encPaths];omega
   obtain ⟨tp,htp⟩:∃tp,tp=encInts ts:=⟨_,rfl⟩
   have hnext:A.lApp L [.agg [.int .i64 pw,.list 1 tp]]=encPaths ((T.take (k+1)).map fun ts=>⟨pw,ts⟩):=by
    subst hA hL
    rw [List.take_add_one,hts,htp]
    show encPaths _++_=_
    simp [encPaths,encPath]
   have htk:A.tkEq (A.nLen L) (A.nLen L):=by subst hA;rfl
   have hroom:A.room (A.nLen (A.lApp L [.agg [.int .i64 pw,.list 1 tp]])) 32:=by
    subst hA
    show (L++[_]).length*(32+1)≤140737488355328
    rw [List.length_append,List.length_singleton];omega
   rw [←htp]
   conv=>cbv
   refine ⟨⟨htk,hroom⟩,hR (A.lApp L [.agg [.int .i64 pw,.list 1 tp]]) _ ?_ hnext⟩
   conv=>cbv
   exact wk_sl (by repeat (first | refine leL_same ?_ | refine leL_any ?_ | exact leL_nil))
  ·intro L hL
   rw [List.take_of_length_le (by simp)] at hL
   conv=>cbv
   rw [←hq,hL]
 ·have hall:allP t f o=[]:=by rw [allP,if_neg h0]
  rw [hall]
  generalize countN t f o=cn at hcnt
  generalize countE t f o=ce at hcnt h0
  clear hpl hall
  refine CallsPV.le (p:=.tup [.list 0 [],.int .i64 ce]) (args':=[encTables t,encFlight f,encOpt o]) ?_ (.cons (.refl _) (.cons (.refl _) (.cons (.refl _) .nil))) (.tup _ _ rfl fun i x y hx hy=>?_)
  ·refine callsPV_by (clo:=fun _=>false) (rows:=false) env_ok Tryz.func16 rfl (enters_of Tryz.func16 (by kernel_rfl) rfl) (fun A q P Y hr hA hq=>?_)
   obtain ⟨ss,hss⟩:∃ss,ss=encSectors t.Sectors:=⟨_,rfl⟩
   obtain ⟨cs,hcs⟩:∃cs,cs=encConfigs t.Configs:=⟨_,rfl⟩
   obtain ⟨ws,hws⟩:∃ws,ws=encWays t.Ways:=⟨_,rfl⟩
   obtain ⟨ms,hms⟩:∃ms,ms=encIntLs t.Modes:=⟨_,rfl⟩
   obtain ⟨ks,hks⟩:∃ks,ks=encKinds t.Kinds:=⟨_,rfl⟩
   obtain ⟨nv,hnv⟩:∃nv,nv=t.Volumes:=⟨_,rfl⟩
   have htab:encTables t=.agg [.int .i64 nv,.list 5 ss,.list 3 cs,.list 3 ws,.list 1 ms,.list 6 ks]:=by rw [encTables_eq t hss hcs hws hms hks,hnv]
   rw [htab] at hcnt ⊢
   obtain ⟨f1,f2,f3,f4,f5,⟨f6,f7⟩,f8⟩:=f
   obtain ⟨fl,hfl⟩:∃fl,fl=encInts f5:=⟨_,rfl⟩
   rw [encFlight_eq _ hfl] at hcnt ⊢
   obtain ⟨o1,o2,o3,o4⟩:=o
   simp only at hcnt ⊢
   conv=>cbv
   refine call_intro hA (hcnt) ?_
   conv=>cbv
   split
   rotate_left
   ·rename_i hc
    cases ((h0 (neF hA hc)))
   conv=>cbv
   exact hq
  ·match i,hx,hy with
   | 0,hx,hy=>simp at hx hy;subst hx hy;exact .nil _ _
   | 1,hx,hy=>simp at hx hy;subst hx hy;exact .refl _
   | i+2,hx,hy=>simp at hx
end Go.Abs
namespace Go.Abs
open Go.RowKit Go.Proofs
def chPV (t:Tables) (s:List Change) (f:Flight) (ann o:Opt):PV :=
 .agg [.int .i64 (if o.Cancel then 120 else (delayF t f o).1),.int .i64 (if o.Cancel then 120*weightOf t f else (delayF t f o).2.1),.int .i64 (if o=ann then 0 else 1),if o.Cancel then .list 0 [] else .list 4 (encUses (usesL t s f.Class (allP t f o)))]
theorem chPV_le (t:Tables) (s:List Change) (f:Flight) (ann o:Opt):LeP (chPV t s f ann o) (encChoice (choiceF t s f ann o)):=by
 refine .agg _ _ rfl fun i x y hx hy=>?_
 match i,hx,hy with
 | 0,hx,hy=>simp [choiceF] at hx hy;subst hx hy;exact .refl _
 | 1,hx,hy=>simp [choiceF] at hx hy;subst hx hy;exact .refl _
 | 2,hx,hy=>simp [choiceF] at hx hy;subst hx hy;exact .refl _
 | 3,hx,hy =>
  simp [choiceF] at hx hy
  subst hx hy
  cases o.Cancel with
  | true=>exact .nil _ _
  | false=>exact .refl _
 | i+4,hx,hy=>simp at hx
theorem stages_choices (nv:Int) (ss cs ws ms ks sc wl os:List PV) (f1 f2 f3 f6 f7:Int) (f4:ByteArray) (f8:Bool) (a1 a2 a3:Int) (a4:Bool) :
  CallsPV Tryz.prog 81 [.agg [.int .i64 nv,.list 5 ss,.list 3 cs,.list 3 ws,.list 1 ms,.list 6 ks],.agg [.list 3 sc],.agg [.int .i64 f1,.int .i64 f2,.int .i64 f3,.str f4,.list 1 wl,.int .i64 f6,.int .i64 f7,.bool f8],.agg [.int .i64 a1,.int .i64 a2,.int .i64 a3,.bool a4],.list 4 os]
   (.fn 149 [.ptr [.list 4 os] 0,.ptr [.int .i64 nv,.list 5 ss,.list 3 cs,.list 3 ws,.list 1 ms,.list 6 ks] 0,.ptr [.int .i64 f1,.int .i64 f2,.int .i64 f3,.str f4,.list 1 wl,.int .i64 f6,.int .i64 f7,.bool f8] 0,.ptr [.list 3 sc] 0,.ptr [.int .i64 a1,.int .i64 a2,.int .i64 a3,.bool a4] 0]):=by
 refine callsPV_by (clo:=fun _=>false) (rows:=false) env_ok Tryz.func81 rfl (enters_of Tryz.func81 (by kernel_rfl) rfl) (fun A q P Y hr hA hq=>?_)
 conv=>cbv
 exact hq
set_option maxRecDepth 10000 in
set_option maxHeartbeats 4000000 in
theorem choices_1 (t:Tables) (s:List Change) (f:Flight) (ann:Opt) (L:List Opt) (hc:capErr t s=0) (hf:checkF t f=0) (hLp:∀o∈L,o.Cancel=true∨(allP t f o).length≤150) (hLl:L.length≤1000000)
  {nv:Int} {ss cs ws ms ks sc wl os:List PV} (htab:encTables t=.agg [.int .i64 nv,.list 5 ss,.list 3 cs,.list 3 ws,.list 1 ms,.list 6 ks]) (hks:ks=encKinds t.Kinds) (hsc:sc=encChanges s) (hwl:wl=encInts f.Ways) (hos:os=encOpts L) :
  SeqPV Tryz.prog 149 [.ptr [.list 4 os] 0,.ptr [.int .i64 nv,.list 5 ss,.list 3 cs,.list 3 ws,.list 1 ms,.list 6 ks] 0,.ptr [.int .i64 f.ID,.int .i64 f.Airline,.int .i64 f.Class,.str f.Call,.list 1 wl,.int .i64 f.Window.From,.int .i64 f.Window.To,.bool f.Cancel] 0,.ptr [.list 3 sc] 0,.ptr [.int .i64 ann.Delay,.int .i64 ann.Way,.int .i64 ann.Hold,.bool ann.Cancel] 0]
   (L.map fun o=>[encOpt o,chPV t s f ann o]):=by
 refine seqPV_by (clo:=fun n=>false) (rows:=false) env_ok Tryz.func149 rfl (enters_of Tryz.func149 (by kernel_rfl) rfl) rfl (fun A P Y Y' y R hr hys hy hA hR=>?_)
 obtain ⟨k,hk,hk0,hL0,hL1,_,hW1,hW8,_⟩:=checkF_kind hf
 have hkl:f.Class<t.Kinds.length:=by have:=(List.getElem?_eq_some_iff.1 hk).1;omega
 have hwt:weightOf t f=k.Weight:=by rw [weightOf,hk]
 have hall:=fun o=>tr_All t f o
 have hdel:=fun o=>fl_Delay t f o
 have huse:=fun o (xs:List PV) (hx:xs=encPaths (allP t f o)) (h:(allP t f o).length≤150)=>dm_Uses t s f.Class (allP t f o) hx h
 have hlr:∀o,leastR t s f.Class (allP t f o) 1=.tup [.list 4 (encUses (usesL t s f.Class (allP t f o))),.int .i64 0]:=fun o=>by
  have:=cnt_all (o:=o) hc hf
  unfold leastR usesL
  rw [if_neg (by rw [this];simp),if_pos this]
 have hyl:Y.ys.length=L.length:=by rw [hys];simp
 rw [List.length_map] at hR
 have hosl:os.length=L.length:=by rw [hos];simp [encOpts]
 have hget:∀(i:Nat) (o:Opt),L[i]?=some o→Y.ys[i]?=some [encOpt o,chPV t s f ann o]:=fun i o h=>by rw [hys,List.getElem?_map,h];rfl
 rw [htab,encScheme_eq hsc] at huse
 rw [htab] at hall hdel
 have hmul:A.iMul 120 k.Weight=120*k.Weight:=mulI hA _ _
 obtain ⟨f1,f2,f3,f4,f5,⟨f6,f7⟩,f8⟩:=f
 rw [encFlight_eq _ hwl] at hall hdel
 obtain ⟨a1,a2,a3,a4⟩:=ann
 obtain ⟨k1,k2,k3,k4,k5,k6⟩:=k
 simp only at hk hk0 hkl hwt hW1 hW8 hall hdel huse hlr hmul ⊢
 conv=>cbv
 refine loop_set hA (fun (k:Nat) s=>{ s.put (some 14) (.val (.int .i64 k)) with ax:=⟨s.ax.mp,k⟩ }) (fun k=>k≤L.length) (fun k=>L.length - k) 0 ?_ ?_ ?_
 ·conv=>cbv
  exact wk_sl (by repeat (first | refine leL_same ?_ | refine leL_any ?_ | exact leL_nil))
 ·exact Nat.zero_le _
 intro R2 i hi0 hR2
 have hi0:i≤L.length:=hi0
 obtain ⟨j,hj⟩:∃j,j=(i:Int):=⟨_,rfl⟩
 rw [←hj]
 conv=>cbv
 split
 rotate_left
 ·rename_i hc
  have hi:L.length≤i:=by have:=ltF' hA rfl (lenI hA hosl) hc;omega
  conv=>cbv
  have h9:i=L.length:=Nat.le_antisymm hi0 hi
  exact hR _ (.inl h9)
 rename_i hc
 have hi:i<L.length:=by have:=ltT' hA rfl (lenI hA hosl) hc;omega
 have hjs:A.iAdd j 1=((i+1:Nat):Int):=by rw [addI hA,hj];rfl
 have hjr:A.inR (A.iAdd j 1):=inR' hA hjs (by unfold inI64;omega)
 obtain ⟨o,ho⟩:∃o,L[i]?=some o:=⟨_,List.getElem?_eq_getElem hi⟩
 have hom:=hLp o (List.mem_of_getElem? ho)
 have hgo:=hget i o ho
 have hallo:=hall o
 have hdelo:=hdel o
 have huseo:=huse o
 rw [hlr] at huseo
 unfold chPV at hgo
 rw [hwt] at hgo
 clear hall hdel huse hlr hget
 generalize allP t ⟨f1,f2,f3,f4,f5,⟨f6,f7⟩,f8⟩ o=PL at hallo huseo hom hgo
 generalize countE t ⟨f1,f2,f3,f4,f5,⟨f6,f7⟩,f8⟩ o=ce at hallo
 generalize delayF t ⟨f1,f2,f3,f4,f5,⟨f6,f7⟩,f8⟩ o=dd at hdelo hgo
 obtain ⟨d1,d2,d3⟩:=dd
 obtain ⟨ps,hps⟩:∃ps,ps=encPaths PL:=⟨_,rfl⟩
 rw [←hps] at hallo
 have huse2:=huseo ps hps
 clear huseo
 simp only at hdelo hgo
 generalize usesL t s f3 PL=UL at huse2 hgo
 obtain ⟨us,hus⟩:∃us,us=encUses UL:=⟨_,rfl⟩
 rw [←hus] at huse2 hgo
 obtain ⟨o1,o2,o3,o4⟩:=o
 conv=>cbv
 refine idx_Opt hA hos (by omega) (by omega) (fun z hz=>?_)
 rw [hj,Int.toNat_natCast] at hz
 obtain rfl:=Option.some.inj (ho.symm.trans hz)
 clear hz
 conv=>cbv
 refine idx_Kind hA hks hk0 hkl (fun z v hz hv=>?_)
 obtain rfl:=Option.some.inj (hk.symm.trans hz)
 clear hz hv
 conv=>cbv
 refine ⟨inR' hA hmul (by unfold inI64;omega),?_⟩
 have hfin:∀(st':St) (hw:Wk (0,0) st' _),R2 st':=fun st' hw=>hR2 (i+1) st' hw (by omega) (by omega)
 have hT:A.bNot true=false:=by subst hA;rfl
 have hF:A.bNot false=true:=by subst hA;rfl
 have hne:∀(x y:Opt) (b:Bool),b=A.bNot (A.bAnd (A.iEq x.Delay y.Delay) (A.bAnd (A.iEq x.Way y.Way) (A.bAnd (A.iEq x.Hold y.Hold) (A.bAnd (A.bEq x.Cancel y.Cancel) true))))→b=true→x≠y:=fun x y b h1 h2 e=>by
  subst hA
  rw [h1] at h2
  cases e
  simp [stdOps] at h2
 have heq:∀(x y:Opt) (b:Bool),b=A.bNot (A.bAnd (A.iEq x.Delay y.Delay) (A.bAnd (A.iEq x.Way y.Way) (A.bAnd (A.iEq x.Hold y.Hold) (A.bAnd (A.bEq x.Cancel y.Cancel) true))))→b=false→x=y:=fun x y b h1 h2=>by
  subst hA
  rw [h1] at h2
  obtain ⟨x1,x2,x3,x4⟩:=x
  obtain ⟨y1,y2,y3,y4⟩:=y
  simp [stdOps] at h2 ⊢
  exact h2
 have hne2:=hne ⟨o1,o2,o3,o4⟩ ⟨a1,a2,a3,a4⟩ _ rfl
 have heq2:=heq ⟨o1,o2,o3,o4⟩ ⟨a1,a2,a3,a4⟩ _ rfl
 clear hne heq
 cases o4 with
 | true =>
  rw [if_pos rfl,if_pos rfl,if_pos rfl,←hmul] at hgo
  conv=>cbv
  split
  ·rename_i hc
   cases ((show False by have h9:true=false:=notT hA hc;cases h9))
  conv=>cbv
  split
  ·rename_i hc
   rw [if_neg (hne2 hc)] at hgo
   conv=>cbv
   refine yld_intro' hA rfl hy hgo ?_ (fun n hn=>?_)
   ·conv=>cbv
    split
    ·rename_i hc
     cases ((show False by have h9:true=false:=notT hA hc;cases h9))
    conv=>cbv
    refine ⟨hjr,hfin _ ?_⟩
    rw [←hjs]
    (conv=>cbv)
    exact wk_round (bx:=[]) (bx':=[_,_]) (mp:=[]) (mp':=[]) (by repeat (first | refine leL_same ?_ | refine leL_any ?_ | exact leL_nil)) (by simp) (by simp) rfl rfl
   ·conv=>cbv
    split
    rotate_left
    ·rename_i hc
     cases ((show False by have h9:false=true:=notF hA hc;cases h9))
    conv=>cbv
    exact hR _ (.inr (by rw [hn,hyl]))
  ·rename_i hc
   rw [if_pos (heq2 hc)] at hgo
   conv=>cbv
   refine yld_intro' hA rfl hy hgo ?_ (fun n hn=>?_)
   ·conv=>cbv
    split
    ·rename_i hc
     cases ((show False by have h9:true=false:=notT hA hc;cases h9))
    conv=>cbv
    refine ⟨hjr,hfin _ ?_⟩
    rw [←hjs]
    (conv=>cbv)
    exact wk_round (bx:=[]) (bx':=[_,_]) (mp:=[]) (mp':=[]) (by repeat (first | refine leL_same ?_ | refine leL_any ?_ | exact leL_nil)) (by simp) (by simp) rfl rfl
   ·conv=>cbv
    split
    rotate_left
    ·rename_i hc
     cases ((show False by have h9:false=true:=notF hA hc;cases h9))
    conv=>cbv
    exact hR _ (.inr (by rw [hn,hyl]))
 | false =>
  have hP:PL.length≤150:=by
   rcases hom with h | h
   ·cases h
   ·exact h
  have huse:=huse2 hP
  simp only [Bool.false_eq_true,if_false] at hgo
  conv=>cbv
  split
  rotate_left
  ·rename_i hc
   cases ((show False by have h9:false=true:=notF hA hc;cases h9))
  conv=>cbv
  refine call_intro hA (hallo) ?_
  conv=>cbv
  refine call_intro hA (huse) ?_
  conv=>cbv
  refine call_intro hA (hdelo) ?_
  conv=>cbv
  split
  ·rename_i hc
   rw [if_neg (hne2 hc)] at hgo
   conv=>cbv
   refine yld_intro' hA rfl hy hgo ?_ (fun n hn=>?_)
   ·conv=>cbv
    split
    ·rename_i hc
     cases ((show False by have h9:true=false:=notT hA hc;cases h9))
    conv=>cbv
    refine ⟨hjr,hfin _ ?_⟩
    rw [←hjs]
    (conv=>cbv)
    exact wk_round (bx:=[]) (bx':=[_,_]) (mp:=[]) (mp':=[]) (by repeat (first | refine leL_same ?_ | refine leL_any ?_ | exact leL_nil)) (by simp) (by simp) rfl rfl
   ·conv=>cbv
    split
    rotate_left
    ·rename_i hc
     cases ((show False by have h9:false=true:=notF hA hc;cases h9))
    conv=>cbv
    exact hR _ (.inr (by rw [hn,hyl]))
  ·rename_i hc
   rw [if_pos (heq2 hc)] at hgo
   conv=>cbv
   refine yld_intro' hA rfl hy hgo ?_ (fun n hn=>?_)
   ·conv=>cbv
    split
    ·rename_i hc
     cases ((show False by have h9:true=false:=notT hA hc;cases h9))
    conv=>cbv
    refine ⟨hjr,hfin _ ?_⟩
    rw [←hjs]
    (conv=>cbv)
    exact wk_round (bx:=[]) (bx':=[_,_]) (mp:=[]) (mp':=[]) (by repeat (first | refine leL_same ?_ | refine leL_any ?_ | exact leL_nil)) (by simp) (by simp) rfl rfl
   ·conv=>cbv
    split
    rotate_left
    ·rename_i hc
     cases ((show False by have h9:false=true:=notF hA hc;cases h9))
    conv=>cbv
    exact hR _ (.inr (by rw [hn,hyl]))
end Go.Abs
namespace Go.Abs
open Go.RowKit
theorem callsPV_ofW {E:Env} (hE:EnvOk E) (hY:E.Y=.none) {f:FuncId} {fn:Func} {c:Code} (hf:E.P.funcs[f]?=some fn) (hb:fn.body=some c) (he:Enters E.P f) {args:List PV} {p:PV}
  (h:Real args→wpC E c (0,0) ⟨args.map .val++List.replicate (fn.ntmps - args.length) .undef,[],[],⟨[],0⟩⟩ fun e st=>match e with | .exit _=>False | _=>∃st1,Wk (0,0) st st1∧retFz E fn.results.toList st1 p):CallsPV E.P f args p:=by
 refine ⟨he,fun S w vs hS hv=>?_⟩
 rw [←callsIn_wide (n:=0)]
 refine callsIn_of_wp_marks hf hb trivial ?_ rfl
 have R:=Rel.start (E:=E) hY S w args vs (fn.ntmps - args.length) hS hv
 have hlen:vs.toArray.size=args.length:=by simp [hv.1]
 rw [hlen]
 have hw:=wpC_ok hE c (0,0) w.heap.size none 0 w.heap.size S w [] _ _ S w (by simp) ⟨by simp,fun _=>rfl⟩ _ _ _ S w _ [] (h ⟨S,w,vs,hS,hv⟩) R (Ext.refl _ _ _ _) ⟨⟨[],rfl,List.nodup_nil,by simp⟩,fun x hx=>(by cases hx),Nat.le_refl _⟩
 refine wpIn_mono hw fun e a' w' hq=>body_ok (Nat.le_refl _) (Nat.le_refl _) hq (fun i st h=>h) ?_
 intro e st G S' w' hr R' X'
 have fin0:∀(st:St) (G:Gh) (S':Addr→Prop),retOk E fn.results.toList st p→Rel E w.heap.size S w st G S' w' a'.tmps →
   ∃v,(results fn a'.tmps).run E.P w'=.ok v w'∧∃v',Ending.returned v=.returned v'∧Below w.heap.size w w'∧RV (Snew S w w') w' p v':=by
  intro st G S' hr R'
  obtain ⟨v,h1,h2⟩:=results_ok hE R' hr
  refine ⟨v,h1,v,rfl,R'.below,RV.mono (fun a ha=>?_) (fun _ _=>Still.refl _ _) h2⟩
  rcases R'.inv.s0 a ha with h | h
  ·exact .inl h
  ·exact .inr ⟨h,R'.inv.slt a ha⟩
 have hr':∃st1,Wk (0,0) st st1∧retFz E fn.results.toList st1 p:=by cases e<;>first | exact hr | exact hr.elim
 obtain ⟨st1,hW,hr'⟩:=hr'
 obtain ⟨G1,R1,_,_⟩:=Rel.wk (nb:=(0,0)) (by simp) ⟨by simp,fun _=>rfl⟩ hW R' X'
 unfold retFz at hr'
 split at hr'
 ·exact fin0 st1 G1 S' hr' R1
 ·obtain ⟨st',hF,hr'⟩:=hr'
  obtain ⟨S2,R2,_,_,_⟩:=hF.ok (vs:=[]) R1 (fun i s v h=>by simp at h)
  exact fin0 st' G1 S2 hr' R2
theorem callsPV_byW {P:Program} {T:TypeId→TD} {clo:FuncId→Bool} {rows:Bool} (hE:EnvOk ⟨P,T,clo,rows,.none⟩) {f:FuncId} {fn:Func} {c:Code} (hf:P.funcs[f]?=some fn) (hb:fn.body=some c) (he:Enters P f) {args:List PV} {p:PV}
  (h:∀A q P' Y (R:St→Prop),Real args→A=stdOps ⟨P,T,clo,rows,.none⟩→p=q→(∀st st1,Wk (0,0) st st1→retFz ⟨P',T,clo,rows,Y⟩ fn.results.toList st1 q→R st) →
   wpC' A ⟨P',T,clo,rows,Y⟩ c (0,0) ⟨args.map .val++List.replicate (fn.ntmps - args.length) .undef,[],[],⟨[],0⟩⟩ fun e st=>match e with | .exit _=>False | _=>R st):CallsPV P f args p :=
 callsPV_ofW (E:=⟨P,T,clo,rows,.none⟩) hE rfl hf hb he fun hr=>wpC_impl (E:=⟨P,T,clo,rows,.none⟩) (h _ _ P .none _ hr rfl rfl fun st st1 h1 h2=>⟨st1,h1,h2⟩)
end Go.Abs
namespace Go.Abs
open Go.RowKit Go.Proofs
theorem clone_nil:CallsPV Tryz.prog 79 [.list 4 []] (.list 4 []):=by
 refine callsPV_byW (clo:=fun n=>n == 2000000+75) (rows:=true) env_ok Tryz.func79 rfl (enters_of Tryz.func79 (by kernel_rfl) rfl) (fun A q P Y R hr hA hq hR=>?_)
 conv=>cbv
 refine ⟨fun _=>?_,?_⟩
 ·conv=>cbv
  refine hR _ ⟨[.val (.list 4 []),.undef,.val (.list 4 []),.val (.list 4 []),.val .any,.undef,.undef,.undef],[],[],⟨[],0⟩⟩ (wk_sl ⟨leS_refl _,leS_refl _,.inr (.inr ⟨rfl,0,rfl,fun _=>rfl⟩),leS_refl _,trivial,leS_refl _,leS_refl _,leS_refl _,trivial⟩) ⟨_,Frz.refl _ _,(by (conv=>cbv);exact hq)⟩
 ·conv=>cbv
  have hroom:A.room (A.nLen (A.lApp [] [])) 32:=by subst hA;show 0*(32+1)≤140737488355328;decide
  have hap:A.lApp [] []=[]:=by subst hA;rfl
  refine ⟨hroom,hR _ _ (Wk.refl _) ⟨_,Frz.refl _ _,(by (conv=>cbv);exact (congrArg (PV.list 4) hap).trans hq)⟩⟩
theorem indexFunc_nil (caps:List PV):CallsPV Tryz.prog 148 [.list 4 [],.fn 80 caps] (.int .i64 (-1)):=by
 refine callsPV_by (clo:=fun _=>false) (rows:=false) env_ok Tryz.func148 rfl (enters_of Tryz.func148 (by kernel_rfl) rfl) (fun A q P Y hr hA hq=>?_)
 have hl:A.lLen []=0:=by subst hA;rfl
 conv=>cbv
 refine loop_set hA (fun (i:Int) s=>s.put (some 8) (.val (.int .i64 i))) (fun i=>i=0) (fun i=>0) 0 ?_ ?_ ?_
 ·conv=>cbv
  exact wk_sl (by repeat (first | refine leL_same ?_ | refine leL_any ?_ | exact leL_nil))
 ·rfl
 rintro R i rfl hR
 conv=>cbv
 split
 ·rename_i hc
  cases ((show False by have:=ltT' hA rfl hl hc;omega))
 conv=>cbv
 exact hq
theorem deleteFunc_nil (caps:List PV):CallsPV Tryz.prog 78 [.list 4 [],.fn 80 caps] (.list 4 []):=by
 refine callsPV_by (clo:=fun _=>false) (rows:=false) env_ok Tryz.func78 rfl (enters_of Tryz.func78 (by kernel_rfl) rfl) (fun A q P Y hr hA hq=>?_)
 conv=>cbv
 refine call_intro hA ((indexFunc_nil caps)) ?_
 conv=>cbv
 split
 rotate_left
 ·rename_i hc
  cases ((show False by exact eqF hA hc rfl))
 conv=>cbv
 exact hq
def anyO:PV:=.agg [.any,.any,.any,.any]
def stillO (l:List Opt) (k:Nat):List PV:=encOpts l++List.replicate k anyO
theorem stillO_cells (l:List Opt) (k:Nat):rowC l++List.replicate (k*4) (SV.val .any)=((stillO l k).flatMap PV.cells).map SV.val:=by
 unfold stillO
 rw [List.flatMap_append,List.map_append,rowC_enc]
 congr 1
 induction k with
 | zero=>rfl
 | succ k ih =>
  rw [List.replicate_succ,List.flatMap_cons,List.map_append,←ih,Nat.succ_mul,Nat.add_comm,←List.replicate_append_replicate]
  rfl
theorem stillO_one (l:List Opt) (k:Nat):∀x∈stillO l k,x.cells.length=4:=by
 intro x hx
 rcases List.mem_append.1 hx with hx | hx
 ·obtain ⟨o,_,rfl⟩:=List.mem_map.1 hx
  rfl
 ·rw [(List.mem_replicate.1 hx).2];rfl
theorem stillO_row (l:List Opt) (k id cap:Nat) {n:Nat} (hn:n=l.length):rowSV id 4 (stillO l k) (.row id 0 4 n cap)=.val (.list 4 (encOpts l)):=by
 unfold rowSV stillO
 have hl:(encOpts l).length=n:=by rw [hn];simp [encOpts]
 simp only
 rw [if_pos ⟨trivial,trivial,trivial,by rw [List.length_append];omega⟩,List.take_left' hl]
theorem opt_delay {t:Tables} {f:Flight} {o:Opt} (h:o∈optionsL t f):checkF t f=0∧inI64 (f.Window.From+o.Delay):=by
 have hm:=(List.mem_filter.1 h).1
 unfold measuresF at hm
 split at hm
 ·rename_i hc
  obtain ⟨k,hk,hc0,hL0,hL1,_⟩:=checkF_kind hc
  rw [measL,hk] at hm
  have h1:=measO_mem hL0 hL1 hm
  have h2:=(checkF_zero hc).2
  simp only [flightB,Bool.and_eq_true,Bool.not_eq_true'] at h2
  obtain ⟨⟨⟨⟨⟨⟨⟨⟨_,_⟩,_⟩,_⟩,_⟩,_⟩,hw⟩,_⟩,_⟩:=h2
  simp at hw
  exact ⟨hc,by unfold inI64;omega⟩
 ·cases hm
theorem leftL_eq (t:Tables) (f:Flight) (now:Int):(optionsL t f).filter (fun o=>!!leftB f now o)=leftL t f now:=by
 unfold leftL
 congr 1
 funext o
 simp
end Go.Abs
namespace Go.Abs
open Go.RowKit Go.Proofs
theorem occ_curfew (k:Kind) (a m:Int) (h0:0≤a):CallsPV Tryz.prog 93 [encKind k,.int .i64 a,.int .i64 m] (.bool (curfewB k a m)):=by
 refine callsPV_by (clo:=fun _=>false) (rows:=false) env_ok Tryz.func93 rfl (enters_of Tryz.func93 (by kernel_rfl) rfl) (fun A q P Y hr hA hq=>?_)
 obtain ⟨k1,k2,k3,k4,k5,cs⟩:=k
 obtain ⟨xs,hxs⟩:∃xs,xs=encSpanLs cs:=⟨_,rfl⟩
 have hxl:xs.length=cs.length:=by rw [hxs];simp [encSpanLs]
 have he:encKind ⟨k1,k2,k3,k4,k5,cs⟩=.agg [.int .i64 k1,.int .i64 k2,.int .i64 k3,.int .i64 k4,.int .i64 k5,.list 1 xs]:=by rw [hxs];rfl
 rw [he]
 unfold curfewB at hq
 simp only at hq
 conv=>cbv
 split
 ·rename_i hc
  have g:a<cs.length:=ltT' hA rfl (lenI hA hxl) hc
  conv=>cbv
  refine idx_SpanL hA hxs h0 g (fun x v hx hv=>?_)
  rw [hx] at hq
  have hq:PV.bool (inHours x m)=q:=hq
  have hh:=hours_Has x m hv
  generalize inHours x m=b at hh hq
  conv=>cbv
  refine call_intro hA (hh) ?_
  conv=>cbv
  exact hq
 ·rename_i hc
  have g:(cs.length:Int)≤a:=ltF' hA rfl (lenI hA hxl) hc
  rw [List.getElem?_eq_none (by omega)] at hq
  conv=>cbv
  exact hq
theorem coversL_iff:∀(ls:List Leg) (ts:List Int),coversL ls ts=true↔∀(k:Nat) (x:Leg) (a b:Int),ls[k]?=some x→ts[k]?=some a→ts[k+1]?=some b→coversB x.Minutes ⟨a,b⟩=true
 | [],ts=>by simp [coversL]
 | x::r,[]=>by simp [coversL]
 | x::r,[a]=>by
  simp only [coversL,true_iff]
  intro k y u v h1 h2 h3
  simp at h3
 | x::r,a::b::ts=>by
  simp only [coversL,Bool.and_eq_true,coversL_iff r (b::ts)]
  constructor
  ·rintro ⟨h0,h⟩ k y u v h1 h2 h3
   cases k with
   | zero =>
    simp at h1 h2 h3
    subst h1 h2 h3
    exact h0
   | succ k=>exact h k y u v (by simpa using h1) (by simpa using h2) (by simpa using h3)
  ·intro h
   exact ⟨h 0 x a b rfl rfl rfl,fun k y u v h1 h2 h3=>h (k+1) y u v (by simpa using h1) (by simpa using h2) (by simpa using h3)⟩
theorem legRows_inv:∀(ls:List Leg) (ts:List Int) (k:Nat) (r:List PV),(legRows ls ts)[k]?=some r→∃(x:Leg) (a b:Int),r=[encLeg x,encSpan ⟨a,b⟩]∧ls[k]?=some x∧ts[k]?=some a∧ts[k+1]?=some b
 | [],_,k,r,h=>by simp [legRows] at h
 | _::_,[],k,r,h=>by simp [legRows] at h
 | _::_,[_],k,r,h=>by simp [legRows] at h
 | y::q,u::v::ts,0,r,h=>by simp [legRows] at h;exact ⟨y,u,v,h.symm,rfl,rfl,rfl⟩
 | y::q,u::v::ts,k+1,r,h=>by
  simp only [legRows,List.getElem?_cons_succ] at h ⊢
  exact legRows_inv q (v::ts) k r h
def fewMin (t:Tables):Prop:=∀w∈t.Ways,∀x∈w.Legs,x.Minutes.length≤1000000
theorem air_ways {t:Tables} (h:airOk t=true) {w:Way} (hw:w∈t.Ways):0≤w.From∧0≤w.To:=by
 unfold airOk at h
 simp only [Bool.and_eq_true,List.all_eq_true] at h
 have:=h.1.1.2 w hw
 simp only [wayOk,inB,Bool.and_eq_true,decide_eq_true_eq] at this
 omega
set_option maxRecDepth 10000 in
set_option maxHeartbeats 4000000 in
theorem occ_Allowed (t:Tables) (f:Flight) (o:Opt) (hfew:fewMin t):CallsPV Tryz.prog 37 [encTables t,encFlight f,encOpt o] (.int .i64 (allowedE t f o)):=by
 refine callsPV_by (clo:=fun n=>n == 1000011) (rows:=false) env_ok Tryz.func37 rfl (enters_of Tryz.func37 (by kernel_rfl) rfl) (fun A q P Y hr hA hq=>?_)
 have hdel:=fl_Delay t f o
 have hall:=tr_All t f o
 have hcv:=fun (x:Leg) (s:Span) (xs:List PV) (hx:xs=encSpans x.Minutes) (hl:x.Minutes.length≤1000000)=>hours_Covers x.Minutes s hx hl
 have hE:allowedE t f o=if (delayF t f o).2.2≠0 then (delayF t f o).2.2 else if o.Cancel then 0 else if countE t f o≠0 then countE t f o else if allOpen t f o then 0 else 170:=rfl
 have hflw:=fun (hc:countE t f o=0) (p:Path) (hp:p∈allP t f o)=>flown_ok hc hp
 have hpl:=fun (hc:countE t f o=0)=>planE_plan (countE_plan hc).1
 have hao:allOpen t f o=match t.Kinds[f.Class.toNat]? with | some k=>(allP t f o).all (openP t k) | none=>false:=rfl
 have hdl:=fun (h:countE t f o=0)=>show (delayF t f o).2.2=0∧o.Cancel=false by
  obtain ⟨k,w,hP⟩:=planE_plan (countE_plan h).1
  exact ⟨hP.del,hP.can⟩
 generalize allowedE t f o=ae at hE hq
 generalize delayF t f o=dd at hdel hE hdl
 obtain ⟨d1,d2,d3⟩:=dd
 generalize countE t f o=ce at hall hE hflw hpl hdl
 generalize allOpen t f o=ao at hao hE
 have hPl:(allP t f o).length≤4096:=by
  unfold allP
  split
  ·rw [List.length_map,allT_len]
   exact (countE_plan (by assumption)).2
  ·simp
 obtain ⟨PL,hPL⟩:∃PL,PL=allP t f o:=⟨_,rfl⟩
 rw [←hPL] at hao hflw hall hPl
 obtain ⟨ps,hps⟩:∃ps,ps=encPaths PL:=⟨_,rfl⟩
 rw [←hps] at hall
 have hpsl:ps.length=PL.length:=by rw [hps];simp [encPaths]
 simp only at hdel hE
 obtain ⟨ss,hss⟩:∃ss,ss=encSectors t.Sectors:=⟨_,rfl⟩
 obtain ⟨cs,hcs⟩:∃cs,cs=encConfigs t.Configs:=⟨_,rfl⟩
 obtain ⟨ws,hws⟩:∃ws,ws=encWays t.Ways:=⟨_,rfl⟩
 obtain ⟨ms,hms⟩:∃ms,ms=encIntLs t.Modes:=⟨_,rfl⟩
 obtain ⟨ks,hks⟩:∃ks,ks=encKinds t.Kinds:=⟨_,rfl⟩
 obtain ⟨nv,hnv⟩:∃nv,nv=t.Volumes:=⟨_,rfl⟩
 have htab:encTables t=.agg [.int .i64 nv,.list 5 ss,.list 3 cs,.list 3 ws,.list 1 ms,.list 6 ks]:=by rw [encTables_eq t hss hcs hws hms hks,hnv]
 rw [htab] at hdel hall ⊢
 obtain ⟨f1,f2,f3,f4,f5,⟨f6,f7⟩,f8⟩:=f
 obtain ⟨fl,hfl⟩:∃fl,fl=encInts f5:=⟨_,rfl⟩
 rw [encFlight_eq _ hfl] at hdel hall ⊢
 obtain ⟨o1,o2,o3,o4⟩:=o
 simp only at hE hao hdel hall hpl hdl ⊢
 refine seq_stop (fun R hR=>?_)
 conv=>cbv
 refine hR _ ?_
 clear hR
 refine seq_stop (fun R hR=>?_)
 refine seq_stop (fun R0 hR0=>?_)
 conv=>cbv
 refine call_intro hA (hdel) ?_
 conv=>cbv
 refine hR0 _ ?_
 clear hR0
 conv=>cbv
 have hgood:∀n,ae=n→PV.int .i64 n=q:=fun n h=>by rw [←hq,h]
 split
 ·rename_i hc
  have g:d3≠0:=neT hA hc
  rw [if_pos g] at hE
  conv=>cbv
  exact hgood _ hE
 rename_i hc
 have g:d3=0:=neF hA hc
 rw [if_neg (by rw [g];decide)] at hE
 conv=>cbv
 cases o4 with
 | true =>
  rw [if_pos rfl] at hE
  conv=>cbv
  exact hgood _ (hE.trans g.symm)
 | false =>
 rw [if_neg (by decide)] at hE
 conv=>cbv
 refine hR _ ?_
 clear hR hdel
 refine seq_stop (fun R hR=>?_)
 conv=>cbv
 refine call_intro hA (hall) ?_
 conv=>cbv
 refine hR _ ?_
 clear hR
 refine seq_stop (fun R hR=>?_)
 conv=>cbv
 split
 ·rename_i hc
  have g2:ce≠0:=neT hA hc
  rw [if_pos g2] at hE
  conv=>cbv
  exact hgood _ hE
 rename_i hc
 have g2:ce=0:=neF hA hc
 rw [if_neg (by rw [g2];decide)] at hE
 obtain ⟨k,w0,hP⟩:=hpl g2
 have hflw:=hflw g2
 have hk:=hP.hk
 have hk0:=hP.k0
 have hair:=(checkF_zero hP.chk).1
 have hf3:f3<t.Kinds.length:=by have:=(List.getElem?_eq_some_iff.1 hk).1;simp only at this hk0;omega
 simp only at hk hk0
 rw [hk] at hao
 have hao:ao=PL.all (openP t k):=hao
 clear hP hpl hall
 refine hR _ ?_
 clear hR
 have hcur:=fun a m h=>occ_curfew k a m h
 have hop:∀p w,t.Ways[p.Way.toNat]?=some w→openP t k p=openB k w p.Times:=fun p w h=>by unfold openP;rw [h]
 obtain ⟨k1,k2,k3,k4,k5,k6⟩:=k
 obtain ⟨cl,hcl⟩:∃cl,cl=encSpanLs k6:=⟨_,rfl⟩
 have hke2:encKind ⟨k1,k2,k3,k4,k5,k6⟩=.agg [.int .i64 k1,.int .i64 k2,.int .i64 k3,.int .i64 k4,.int .i64 k5,.list 1 cl]:=by rw [hcl];rfl
 have hke:∀v,v=encSpanLs k6→v=cl:=fun v h=>h.trans hcl.symm
 refine seq_stop (fun R hR=>?_)
 conv=>cbv
 refine idx_Kind hA hks hk0 hf3 (fun z v hz hv=>?_)
 obtain rfl:=Option.some.inj (hk.symm.trans hz)
 obtain rfl:=hke v hv
 clear hz hv
 conv=>cbv
 refine hR _ ?_
 clear hR
 refine seq_stop (fun R hR=>?_)
 conv=>cbv
 refine hR _ ?_
 clear hR
 refine seq_stop (fun R hR=>?_)
 conv=>cbv
 refine loop_set hA (fun (i:Int) s=>s.put (some 51) (.val (.int .i64 i))) (fun i=>0≤i∧i≤PL.length∧∀p∈PL.take i.toNat,openP t ⟨k1,k2,k3,k4,k5,k6⟩ p=true) (fun i=>(PL.length - i).toNat) 0 ?_ ?_ ?_
 ·conv=>cbv
  exact wk_sl (by repeat (first | refine leL_same ?_ | refine leL_any ?_ | exact leL_nil))
 ·exact ⟨Int.le_refl _,by omega,by simp⟩
 rintro R2 i ⟨hi0,hi1,hi2⟩ hR2
 refine seq_stop (fun R3 hR3=>?_)
 conv=>cbv
 refine hR3 _ ?_
 clear hR3
 refine seq_stop (fun R3 hR3=>?_)
 conv=>cbv
 split
 rotate_left
 ·rename_i hc
  have hi:(PL.length:Int)≤i:=ltF' hA rfl (lenI hA hpsl) hc
  rw [List.take_of_length_le (by omega)] at hi2
  conv=>cbv
  refine hR _ ?_
  conv=>cbv
  exact hgood _ (by rw [hE,hao,List.all_eq_true.2 hi2,g2];rfl)
 rename_i hc
 have hi:i<PL.length:=ltT' hA rfl (lenI hA hpsl) hc
 have his:A.iAdd i 1=i+1:=addI hA _ _
 have hir:A.inR (A.iAdd i 1):=inR' hA his (by unfold inI64;omega)
 obtain ⟨p,hp⟩:∃p,PL[i.toNat]?=some p:=⟨_,List.getElem?_eq_getElem (show i.toNat<PL.length by omega)⟩
 have hpm:=List.mem_of_getElem? hp
 obtain ⟨w,hw⟩:=hflw p hpm
 have hopp:=hop p w hw.hw
 have hbad:openP t ⟨k1,k2,k3,k4,k5,k6⟩ p=false→PV.int .i64 170=q:=fun h=>hgood _ (by
  rw [hE,hao]
  have:PL.all (openP t ⟨k1,k2,k3,k4,k5,k6⟩)=false:=by
   rw [List.all_eq_false]
   exact ⟨p,hpm,by rw [h];decide⟩
  rw [this];rfl)
 have hnx:openP t ⟨k1,k2,k3,k4,k5,k6⟩ p=true→0≤A.iAdd i 1∧A.iAdd i 1≤PL.length∧∀p∈PL.take (A.iAdd i 1).toNat,openP t ⟨k1,k2,k3,k4,k5,k6⟩ p=true:=fun h=>by
  rw [his]
  exact ⟨by omega,by omega,mem_snoc (take_snoc' hi0 hp) hi2 h⟩
 rw [hopp] at hbad hnx
 clear hop hgood hflw hopp hao hE
 refine hR3 _ ?_
 clear hR3
 refine seq_stop (fun R3 hR3=>?_)
 refine block_seq (fun R4 hR4=>?_)
 conv=>cbv
 refine idx_Path hA hps hi0 hi (fun z ts hz hts=>?_)
 obtain rfl:=Option.some.inj (hp.symm.trans hz)
 clear hz
 have htl:ts.length=p.Times.length:=by rw [hts];simp [encInts]
 have hll:A.iSub (A.lLen ts) 1=(w.Legs.length:Int):=by rw [subI hA,lenI hA htl,hw.len];omega
 obtain ⟨m0,hm0⟩:∃m,p.Times[0]?=some m:=⟨_,List.getElem?_eq_getElem (show 0<p.Times.length by rw [hw.len];omega)⟩
 obtain ⟨m1,hm1⟩:∃m,p.Times[w.Legs.length]?=some m:=⟨_,List.getElem?_eq_getElem (show w.Legs.length<p.Times.length by rw [hw.len];omega)⟩
 have hh0:p.Times.headD 0=m0:=by rw [List.headD_eq_head?_getD,List.head?_eq_getElem?,hm0];rfl
 have hh1:p.Times.getLastD 0=m1:=by rw [List.getLastD_eq_getLast?,List.getLast?_eq_getElem?,hw.len,Nat.add_sub_cancel,hm1];rfl
 have hob:openB ⟨k1,k2,k3,k4,k5,k6⟩ w p.Times=(decide (m1<1440)&&!curfewB ⟨k1,k2,k3,k4,k5,k6⟩ w.From m0&&!curfewB ⟨k1,k2,k3,k4,k5,k6⟩ w.To m1&&coversL w.Legs p.Times):=by
  unfold openB
  rw [hh0,hh1]
 rw [hob] at hbad hnx
 have hwm:=List.mem_of_getElem? hw.hw
 have hft:=air_ways hair hwm
 have hc0:=hcur w.From m0 hft.1
 have hc1:=hcur w.To m1 hft.2
 rw [hke2] at hc0 hc1
 have hlen:=hw.len
 have hw0:=hw.w0
 have hww:=hw.hw
 have hl8:=hw.l1
 have hsr:A.inR (A.iSub (A.lLen ts) 1):=inR' hA hll (by unfold inI64;omega)
 have hrows:=legRows_inv w.Legs p.Times
 have hseq:=fun h0=>occ_legs1 t p w h0 hww hlen hl8.2 (ss:=ss) (cs:=cs) (ms:=ms) (ks:=ks) hws hts
 have hlgs:=occ_legs t.Volumes p.Way ss cs ws ms ks ts
 rw [←hnv] at hlgs hseq
 have hcov:=coversL_iff w.Legs p.Times
 have hmin:=hfew w hwm
 obtain ⟨way,T⟩:=p
 obtain ⟨w1,w2,wl⟩:=w
 simp only at *
 obtain ⟨lg,hlg⟩:∃lg,lg=encLegs wl:=⟨_,rfl⟩
 conv=>cbv
 refine hR4 _ ?_
 clear hR4 hw
 refine seq_stop (fun R4 hR4=>?_)
 refine region_inv2 rfl [.box 0 3,.val (.list 3 ws),.box 5 0,.val (.int .i64 way),.val (.ptr [.int .i64 w1,.int .i64 w2,.list 4 lg] 0),.val (.agg [.int .i64 w1,.int .i64 w2,.list 4 lg]),.box 5 1,.val (.list 1 ts),.box 5 1,.val (.list 1 ts),.val (.int .i64 (A.lLen ts)),.val (.int .i64 (A.iSub (A.lLen ts) 1)),.val (.ptr [.int .i64 m1] 0),.val (.int .i64 m1),.box 6 0,.undef,.val (.int .i64 m1)]
  (fun L=>[some [.val (.int .i64 nv),.val (.list 5 ss),.val (.list 3 cs),.val (.list 3 ws),.val (.list 1 ms),.val (.list 6 ks)],some [.val (.int .i64 f1),.val (.int .i64 f2),.val (.int .i64 f3),.val (.str f4),.val (.list 1 fl),.val (.int .i64 f6),.val (.int .i64 f7),.val (.bool f8)],
   some [.val (.int .i64 o1),.val (.int .i64 o2),.val (.int .i64 o3),.val (.bool false)],some [.val (.int .i64 ce)],some [.val (.int .i64 k1),.val (.int .i64 k2),.val (.int .i64 k3),.val (.int .i64 k4),.val (.int .i64 k5),.val (.list 1 v)],some [.val (.int .i64 way),.val (.list 1 ts)]]++(match L 14 with | true=>[some [.val (.int .i64 (cond (L 15) w1 0)),.val (.int .i64 (cond (L 15) w2 0)),cond (L 15) (.val (.list 4 lg)) (.lit 0 [])]] | false=>[]))
  (by conv=>lhs;cbv) (fun L L' h=>by simp only [h 14 (by decide),h 15 (by decide)]) rfl ?_ ?_
 ·intro L i' o hi' hL hC he K' hK'
  rcases i' with _ | i'
  ·cases hi'
   conv=>cbv
   refine cast (congrArg K' ?_) hK'
   conv=>lhs;cbv
   rw [show updL L 0 15=L 15 from rfl]
  rcases i' with _ | i'
  ·cases hi'
   have h0:L 0=true:=he ⟨0,.data⟩ (by simp) rfl
   conv=>cbv
   simp only [h0]
   conv=>cbv
   refine cast (congrArg K' ?_) hK'
   conv=>lhs;cbv
   simp only [h0]
   rw [show updL L 1 15=L 15 from rfl]
  rcases i' with _ | i'
  ·cases hi'
   conv=>cbv
   refine cast (congrArg K' ?_) hK'
   conv=>lhs;cbv
   rw [show updL L 2 15=L 15 from rfl]
  rcases i' with _ | i'
  ·cases hi'
   have h2:L 2=true:=he ⟨2,.data⟩ (by simp) rfl
   conv=>cbv
   simp only [h2]
   conv=>cbv
   refine cast (congrArg K' ?_) hK'
   conv=>lhs;cbv
   simp only [h2]
   rw [show updL L 3 15=L 15 from rfl]
  rcases i' with _ | i'
  ·cases hi'
   have h1:L 1=true:=he ⟨1,.data⟩ (by simp) rfl
   have h3:L 3=true:=he ⟨3,.data⟩ (by simp) rfl
   conv=>cbv
   simp only [h1,h3]
   conv=>cbv
   refine idx_Way hA hws hw0.1 hw0.2 (fun z lg' hz hlg'=>?_)
   obtain rfl:=Option.some.inj (hww.symm.trans hz)
   obtain rfl:=hlg.trans hlg'.symm
   conv=>cbv
   refine cast (congrArg K' ?_) hK'
   conv=>lhs;cbv
   simp only [h1,h3]
   rw [show updL L 4 15=L 15 from rfl]
  rcases i' with _ | i'
  ·cases hi'
   have h4:L 4=true:=he ⟨4,.data⟩ (by simp) rfl
   conv=>cbv
   simp only [h4]
   conv=>cbv
   refine cast (congrArg K' ?_) hK'
   conv=>lhs;cbv
   simp only [h4]
   rw [show updL L 5 15=L 15 from rfl]
  rcases i' with _ | i'
  ·cases hi'
   conv=>cbv
   refine cast (congrArg K' ?_) hK'
   conv=>lhs;cbv
   rw [show updL L 6 15=L 15 from rfl]
  rcases i' with _ | i'
  ·cases hi'
   have h6:L 6=true:=he ⟨6,.data⟩ (by simp) rfl
   conv=>cbv
   simp only [h6]
   conv=>cbv
   refine cast (congrArg K' ?_) hK'
   conv=>lhs;cbv
   simp only [h6]
   rw [show updL L 7 15=L 15 from rfl]
  rcases i' with _ | i'
  ·cases hi'
   conv=>cbv
   refine cast (congrArg K' ?_) hK'
   conv=>lhs;cbv
   rw [show updL L 8 15=L 15 from rfl]
  rcases i' with _ | i'
  ·cases hi'
   have h8:L 8=true:=he ⟨8,.data⟩ (by simp) rfl
   conv=>cbv
   simp only [h8]
   conv=>cbv
   refine cast (congrArg K' ?_) hK'
   conv=>lhs;cbv
   simp only [h8]
   rw [show updL L 9 15=L 15 from rfl]
  rcases i' with _ | i'
  ·cases hi'
   have h9:L 9=true:=he ⟨9,.data⟩ (by simp) rfl
   conv=>cbv
   simp only [h9]
   conv=>cbv
   refine cast (congrArg K' ?_) hK'
   conv=>lhs;cbv
   simp only [h9]
   rw [show updL L 10 15=L 15 from rfl]
  rcases i' with _ | i'
  ·cases hi'
   have h10:L 10=true:=he ⟨10,.data⟩ (by simp) rfl
   conv=>cbv
   simp only [h10]
   conv=>cbv
   refine ⟨hsr,?_⟩
   refine cast (congrArg K' ?_) hK'
   conv=>lhs;cbv
   simp only [h10]
   rw [show updL L 11 15=L 15 from rfl]
  rcases i' with _ | i'
  ·cases hi'
   have h7:L 7=true:=he ⟨7,.data⟩ (by simp) rfl
   have h11:L 11=true:=he ⟨11,.data⟩ (by simp) rfl
   conv=>cbv
   simp only [h7,h11]
   conv=>cbv
   refine idx_Int hA hts (n:=A.iSub (A.lLen ts) 1) (by rw [hll];omega) (by rw [hll,hlen];omega) (fun y hy=>?_)
   rw [hll,Int.toNat_natCast] at hy
   obtain rfl:=Option.some.inj (hm1.symm.trans hy)
   conv=>cbv
   refine cast (congrArg K' ?_) hK'
   conv=>lhs;cbv
   simp only [h7,h11]
   rw [show updL L 12 15=L 15 from rfl]
  rcases i' with _ | i'
  ·cases hi'
   have h12:L 12=true:=he ⟨12,.data⟩ (by simp) rfl
   conv=>cbv
   simp only [h12]
   conv=>cbv
   refine cast (congrArg K' ?_) hK'
   conv=>lhs;cbv
   simp only [h12]
   rw [show updL L 13 15=L 15 from rfl]
  rcases i' with _ | i'
  ·cases hi'
   conv=>cbv
   have h15:L 15=false:=by
    cases h:L 15 with
    | false=>rfl
    | true =>
     have:=hC 15 _ rfl h ⟨14,.data⟩ (by simp) rfl
     rw [hL] at this
     cases this
   simp only [hL,h15]
   conv=>cbv
   refine cast (congrArg K' ?_) hK'
   conv=>lhs;cbv
   simp only [hL,show updL L 14 15=L 15 from rfl,h15,cond_false]
  rcases i' with _ | i'
  ·cases hi'
   have h14:L 14=true:=he ⟨14,.data⟩ (by simp) rfl
   have h5:L 5=true:=he ⟨5,.data⟩ (by simp) rfl
   conv=>cbv
   simp only [h14,h5]
   conv=>cbv
   refine cast (congrArg K' ?_) hK'
   conv=>lhs;cbv
   simp only [h14,h5]
   simp only [show updL L 15 15=true from rfl,cond_true]
  rcases i' with _ | i'
  ·cases hi'
   have h13:L 13=true:=he ⟨13,.data⟩ (by simp) rfl
   conv=>cbv
   simp only [h13]
   conv=>cbv
   refine cast (congrArg K' ?_) hK'
   conv=>lhs;cbv
   simp only [h13]
   rw [show updL L 16 15=L 15 from rfl]
  simp at hi'
 conv=>cbv
 refine hR4 _ ?_
 clear hR4
 refine seq_stop (fun R4 hR4=>?_)
 conv=>cbv
 refine ⟨draw_intro hA (by kernel_rfl),?_⟩
 split
 ·rename_i hc
  have g3:=leT hA hc
  conv=>cbv
  refine hR _ ?_
  conv=>cbv
  exact hbad (by rw [decide_eq_false (show ¬m1<1440 by omega)];rfl)
 rename_i hc
 have g3:=leF hA hc
 rw [decide_eq_true (show m1<1440 by omega),Bool.true_and] at hbad hnx
 generalize curfewB ⟨k1,k2,k3,k4,k5,k6⟩ w1 m0=b0 at hc0 hbad hnx
 generalize curfewB ⟨k1,k2,k3,k4,k5,k6⟩ w2 m1=b1 at hc1 hbad hnx
 conv=>cbv
 refine idx_Int hA hts (n:=0) (Int.le_refl 0) (by omega) (fun y hy=>?_)
 obtain rfl:=Option.some.inj (hm0.symm.trans hy)
 clear hy
 conv=>cbv
 refine call_intro hA (hc0) ?_
 conv=>cbv
 cases b0 with
 | true =>
  conv=>cbv
  refine hR _ ?_
  conv=>cbv
  exact hbad rfl
 | false =>
 conv=>cbv
 refine call_intro hA (hc1) ?_
 conv=>cbv
 cases b1 with
 | true =>
  conv=>cbv
  refine hR _ ?_
  conv=>cbv
  exact hbad rfl
 | false =>
 have hbad:coversL wl T=false→PV.int .i64 170=q:=fun h=>hbad (by rw [h];rfl)
 have hnx:=fun (h:coversL wl T=true)=>hnx (by rw [h];rfl)
 conv=>cbv
 refine hR4 _ ?_
 clear hR4 hc0 hc1
 conv=>cbv
 refine call_intro hA (hlgs) ?_
 conv=>cbv
 refine rng_intro hA (hseq hw0.1) (fun x hx=>?_) (fun (y:Unit) s=>s) (fun k y=>∀(j:Nat) (x:Leg) (a b:Int),j<k→wl[j]?=some x→T[j]?=some a→T[j+1]?=some b→coversB x.Minutes ⟨a,b⟩=true) () (fun _=>rfl) ?_ ?_ ?_ ?_
 ·obtain ⟨j,hj⟩:=List.mem_iff_getElem?.1 hx
  obtain ⟨_,_,_,rfl,_⟩:=hrows j x hj
  rfl
 ·exact Wk.refl _
 ·intro j x a b hj;omega
 ·rintro R5 k y x hxk hinv hR5
  obtain ⟨lg0,a,b,rfl,q1,q2,q3⟩:=hrows k x hxk
  have hcv1:=hcv lg0 ⟨a,b⟩ (encSpans lg0.Minutes) rfl (hmin lg0 (List.mem_of_getElem? q1))
  have hb2:coversB lg0.Minutes ⟨a,b⟩=false→coversL wl T=false:=fun h=>by
   cases h2:coversL wl T with
   | false=>rfl
   | true =>
    have:=hcov.1 h2 k lg0 a b q1 q2 q3
    rw [h] at this;cases this
  have hn2:coversB lg0.Minutes ⟨a,b⟩=true→∀(j:Nat) (x:Leg) (a b:Int),j<k+1→wl[j]?=some x→T[j]?=some a→T[j+1]?=some b→coversB x.Minutes ⟨a,b⟩=true:=fun h j x a' b' hj h1 h2 h3=>by
   rcases Nat.lt_or_eq_of_le (Nat.le_of_lt_succ hj) with h4 | h4
   ·exact hinv j x a' b' h4 h1 h2 h3
   ·subst h4
    rw [q1] at h1;rw [q2] at h2;rw [q3] at h3
    cases h1;cases h2;cases h3
    exact h
  generalize coversB lg0.Minutes ⟨a,b⟩=c at hcv1 hb2 hn2
  obtain ⟨l1,l2,l3,l4⟩:=lg0
  obtain ⟨ms4,hms4⟩:∃ms4,ms4=encSpans l4:=⟨_,rfl⟩
  rw [show encLeg ⟨l1,l2,l3,l4⟩=.agg [.int .i64 l1,.int .i64 l2,.int .i64 l3,.list 2 ms4] by rw [hms4];rfl]
  simp only at hcv1
  rw [←hms4] at hcv1
  conv=>cbv
  refine call_intro hA (hcv1) ?_
  conv=>cbv
  cases c with
  | true =>
   conv=>cbv
   split
   ·rename_i hc
    cases ((show False by have h9:true=false:=notT hA hc;cases h9))
   conv=>cbv
   refine hR5 () _ ?_ (hn2 rfl)
   (conv=>cbv)
   exact wk_round (bx:=[_,_,_,_,_,_,_]) (bx':=[_,_]) (mp:=[]) (mp':=[]) (by repeat (first | refine leL_same ?_ | refine leL_any ?_ | exact leL_nil)) (by simp) (by simp) rfl rfl
  | false =>
   conv=>cbv
   split
   rotate_left
   ·rename_i hc
    cases ((show False by have h9:false=true:=notF hA hc;cases h9))
   conv=>cbv
   refine hR _ ?_
   conv=>cbv
   exact hbad (hb2 rfl)
 ·intro y hinv
  rw [legRows_len wl T hlen] at hinv
  have h1:coversL wl T=true:=hcov.2 fun j x a b h1 h2 h3=>hinv j x a b (List.getElem?_eq_some_iff.1 h1).1 h1 h2 h3
  conv=>cbv
  refine hR3 _ ?_
  conv=>cbv
  refine ⟨hir,hR2 (A.iAdd i 1) _ ?_ (hnx h1) (by rw [his];omega)⟩
  (conv=>cbv)
  exact wk_round (bx:=[_,_,_,_,_]) (bx':=[_,_]) (mp:=[]) (mp':=[]) (by repeat (first | refine leL_same ?_ | refine leL_any ?_ | exact leL_nil)) (by simp) (by simp) rfl rfl
end Go.Abs
namespace Go.Abs
open Go.RowKit Go.Proofs
theorem measL_len {t:Tables} {f:Flight} (h:checkF t f=0):(measL t f).length≤1000:=by
 obtain ⟨k,hk,hc0,hL0,hL1,_,_,_,hw1,hw4⟩:=checkF_kind h
 rw [measL,hk]
 simp only
 rw [measO_len]
 have h1:(k.Longest / 10+1).toNat≤7:=by omega
 have h2:(k.Longest / 10+1).toNat*(3*f.Ways.length)≤7*(3*4):=Nat.mul_le_mul h1 (by omega)
 split<;>omega
theorem measuresF_len (t:Tables) (f:Flight):(measuresF t f).length≤1000:=by
 unfold measuresF
 split
 ·exact measL_len (by assumption)
 ·simp
set_option maxRecDepth 10000 in
set_option maxHeartbeats 1000000 in
theorem occ_Options (t:Tables) (f:Flight) (hfew:fewMin t):CallsPV Tryz.prog 77 [encTables t,encFlight f] (.tup [.list 4 (encOpts (optionsL t f)),.int .i64 (checkF t f)]):=by
 have hmeas:=fl_Measures t f
 have hal:=fun o=>occ_Allowed t f o hfew
 have hO:optionsL t f=(measuresF t f).filter fun o=>decide (allowedE t f o=0):=rfl
 generalize optionsL t f=OL at hO
 generalize allowedE t f=g at hal hO
 have hml:=measuresF_len t f
 have hM0:checkF t f≠0→measuresF t f=[]:=fun h=>by rw [measuresF,if_neg h]
 generalize measuresF t f=M at hmeas hO hml hM0
 generalize checkF t f=ck at hmeas hM0
 subst hO
 by_cases h0:ck=0
 ·subst h0
  refine callsPV_by (clo:=fun _=>false) (rows:=false) env_ok Tryz.func77 rfl (enters_of Tryz.func77 (by kernel_rfl) rfl) (fun A q P Y hr hA hq=>?_)
  obtain ⟨ss,hss⟩:∃ss,ss=encSectors t.Sectors:=⟨_,rfl⟩
  obtain ⟨cs,hcs⟩:∃cs,cs=encConfigs t.Configs:=⟨_,rfl⟩
  obtain ⟨ws,hws⟩:∃ws,ws=encWays t.Ways:=⟨_,rfl⟩
  obtain ⟨ms,hms⟩:∃ms,ms=encIntLs t.Modes:=⟨_,rfl⟩
  obtain ⟨ks,hks⟩:∃ks,ks=encKinds t.Kinds:=⟨_,rfl⟩
  obtain ⟨nv,hnv⟩:∃nv,nv=t.Volumes:=⟨_,rfl⟩
  have htab:encTables t=.agg [.int .i64 nv,.list 5 ss,.list 3 cs,.list 3 ws,.list 1 ms,.list 6 ks]:=by rw [encTables_eq t hss hcs hws hms hks,hnv]
  rw [htab] at hmeas hal ⊢
  obtain ⟨f1,f2,f3,f4,f5,⟨f6,f7⟩,f8⟩:=f
  obtain ⟨fl,hfl⟩:∃fl,fl=encInts f5:=⟨_,rfl⟩
  rw [encFlight_eq _ hfl] at hmeas hal ⊢
  obtain ⟨xs,hxs⟩:∃xs,xs=encOpts M:=⟨_,rfl⟩
  rw [←hxs] at hmeas
  have hxl:xs.length=M.length:=by rw [hxs];simp [encOpts]
  simp only at hmeas hal ⊢
  conv=>cbv
  refine call_intro hA (hmeas) ?_
  conv=>cbv
  split
  ·rename_i hc
   cases (neT hA hc rfl)
  conv=>cbv
  refine loop_set hA (fun (z:Int × List PV) s=>{ (s.put (some 20) (.val (.int .i64 z.1))).put (some 4) (.own 0 4 z.2) with tk:=[(A.nLen z.2,35)] })
   (fun z=>0≤z.1∧z.1≤M.length∧z.2=encOpts ((M.take z.1.toNat).filter fun o=>decide (g o=0))) (fun z=>(M.length - z.1).toNat) (0,[]) ?_ ?_ ?_
  ·subst hA
   (conv=>cbv)
   exact wk_own 4 0 4 [] 35 rfl (.inr rfl) (by repeat (first | refine leL_same ?_ | refine leL_any ?_ | exact leL_nil)) rfl
  ·exact ⟨Int.le_refl _,by omega,rfl⟩
  rintro R ⟨i,L⟩ ⟨hi0,hi1,hL⟩ hR
  simp only at hi0 hi1 hL
  have hLl:L.length≤1000:=by
   have h1:=List.length_filter_le (fun o=>decide (g o=0)) (M.take i.toNat)
   rw [List.length_take] at h1
   rw [hL];simp only [encOpts,List.length_map];omega
  conv=>cbv
  split
  ·rename_i hc
   have hi:=ltT' hA rfl (lenI hA hxl) hc
   have his:A.iAdd i 1=i+1:=addI hA _ _
   have hir:A.inR (A.iAdd i 1):=inR' hA his (by unfold inI64;omega)
   obtain ⟨o,ho⟩:∃o,M[i.toNat]?=some o:=⟨_,List.getElem?_eq_getElem (show i.toNat<M.length by omega)⟩
   have ht:=take_snoc' hi0 ho
   have hao:=hal o
   have hnx:∀L',L'=(if g o=0 then L++[encOpt o] else L)→0≤A.iAdd i 1∧A.iAdd i 1≤M.length∧L'=encOpts ((M.take (A.iAdd i 1).toNat).filter fun o=>decide (g o=0)):=fun L' h=>by
    rw [his,ht,h,hL,List.filter_append]
    refine ⟨by omega,by omega,?_⟩
    split<;>rename_i h2<;>simp [encOpts,h2]
   have hmu:(M.length - A.iAdd i 1).toNat<(M.length - i).toNat:=by rw [his];omega
   generalize g o=e at hao hnx
   obtain ⟨o1,o2,o3,o4⟩:=o
   conv=>cbv
   refine idx_Opt hA hxs hi0 hi (fun z hz=>?_)
   obtain rfl:=Option.some.inj (ho.symm.trans hz)
   clear hz
   conv=>cbv
   refine call_intro hA (hao) ?_
   conv=>cbv
   split
   ·rename_i hc
    rw [if_pos (eqT hA hc)] at hnx
    have htk:A.tkEq (A.nLen L) (A.nLen L):=by subst hA;rfl
    have hroom:A.room (A.nLen (A.lApp L [encOpt ⟨o1,o2,o3,o4⟩])) 32:=by
     subst hA
     show (L++[_]).length*(32+1)≤140737488355328
     rw [List.length_append,List.length_singleton];omega
    conv=>cbv
    refine ⟨⟨htk,hroom⟩,hir,hR (A.iAdd i 1,A.lApp L [encOpt ⟨o1,o2,o3,o4⟩]) _ ?_ (hnx _ (by subst hA;rfl)) hmu⟩
    (conv=>cbv)
    exact wk_round (bx:=[_,_]) (bx':=[_]) (mp:=[]) (mp':=[]) (by repeat (first | refine leL_same ?_ | refine leL_any ?_ | exact leL_nil)) (by simp) (by simp) rfl rfl
   ·rename_i hc
    rw [if_neg (eqF hA hc)] at hnx
    conv=>cbv
    refine ⟨hir,hR (A.iAdd i 1,L) _ ?_ (hnx _ rfl) hmu⟩
    (conv=>cbv)
    exact wk_round (bx:=[_,_]) (bx':=[_]) (mp:=[]) (mp':=[]) (by repeat (first | refine leL_same ?_ | refine leL_any ?_ | exact leL_nil)) (by simp) (by simp) rfl rfl
  ·rename_i hc
   have hi:=ltF' hA rfl (lenI hA hxl) hc
   rw [List.take_of_length_le (by omega)] at hL
   conv=>cbv
   rw [←hq,hL]
 ·have hm:=hM0 h0
  subst hm
  refine CallsPV.le (p:=.tup [.list 0 [],.int .i64 ck]) (args':=[encTables t,encFlight f]) ?_ (.cons (.refl _) (.cons (.refl _) .nil)) (.tup _ _ rfl fun i x y hx hy=>?_)
  ·refine callsPV_by (clo:=fun _=>false) (rows:=false) env_ok Tryz.func77 rfl (enters_of Tryz.func77 (by kernel_rfl) rfl) (fun A q P Y hr hA hq=>?_)
   obtain ⟨ss,hss⟩:∃ss,ss=encSectors t.Sectors:=⟨_,rfl⟩
   obtain ⟨cs,hcs⟩:∃cs,cs=encConfigs t.Configs:=⟨_,rfl⟩
   obtain ⟨ws,hws⟩:∃ws,ws=encWays t.Ways:=⟨_,rfl⟩
   obtain ⟨ms,hms⟩:∃ms,ms=encIntLs t.Modes:=⟨_,rfl⟩
   obtain ⟨ks,hks⟩:∃ks,ks=encKinds t.Kinds:=⟨_,rfl⟩
   obtain ⟨nv,hnv⟩:∃nv,nv=t.Volumes:=⟨_,rfl⟩
   have htab:encTables t=.agg [.int .i64 nv,.list 5 ss,.list 3 cs,.list 3 ws,.list 1 ms,.list 6 ks]:=by rw [encTables_eq t hss hcs hws hms hks,hnv]
   rw [htab] at hmeas ⊢
   obtain ⟨f1,f2,f3,f4,f5,⟨f6,f7⟩,f8⟩:=f
   obtain ⟨fl,hfl⟩:∃fl,fl=encInts f5:=⟨_,rfl⟩
   rw [encFlight_eq _ hfl] at hmeas ⊢
   simp only at hmeas ⊢
   conv=>cbv
   refine call_intro hA (hmeas) ?_
   conv=>cbv
   split
   ·conv=>cbv
    exact hq
   ·rename_i h
    exact absurd (neF hA h) h0
  ·match i,hx,hy with
   | 0,hx,hy=>simp at hx hy;subst hx hy;exact .nil _ _
   | 1,hx,hy=>simp at hx hy;subst hx hy;exact .refl _
   | i+2,hx,hy=>simp at hx
end Go.Abs
namespace Go.Abs
open Go.RowKit Go.Proofs
def choicesR0 (t:Tables) (s:List Change) (f:Flight) (now:Int) (ann:Opt):PV :=
 if choicesE t s f=0 then .tup [.list 4 ((choicesO t f now).map (chPV t s f ann)),.list 4 (encOpts (choicesO t f now)),.int .i64 0] else .tup [.list 0 [],.list 0 [],.int .i64 (choicesE t s f)]
theorem choicesR0_le (t:Tables) (s:List Change) (f:Flight) (now:Int) (ann:Opt):LeP (choicesR0 t s f now ann) (choicesR t s f now ann):=by
 unfold choicesR0 choicesR choicesC
 split
 ·refine .tup _ _ rfl fun i x y hx hy=>?_
  match i,hx,hy with
  | 0,hx,hy =>
   simp at hx hy
   subst hx hy
   refine .list _ _ _ (by simp [encChoices]) fun j a b ha hb=>?_
   rw [List.getElem?_map,Option.map_eq_some_iff] at ha
   obtain ⟨o,ho,rfl⟩:=ha
   unfold encChoices at hb
   rw [List.getElem?_map,List.getElem?_map,ho] at hb
   simp at hb
   subst hb
   exact chPV_le t s f ann o
  | 1,hx,hy=>simp at hx hy;subst hx hy;exact .refl _
  | 2,hx,hy=>simp at hx hy;subst hx hy;exact .refl _
  | i+3,hx,hy=>simp at hx
 ·exact .refl _
def cloCh (n:Nat):Bool:=n == 5000000+79 || n == 2000000+74 || n == 2000000+75 || n == 1000014
set_option maxRecDepth 10000 in
set_option maxHeartbeats 8000000 in
theorem stages_Choices0 (t:Tables) (s:List Change) (f:Flight) (now:Int) (ann:Opt) (hfew:fewMin t) (hLp:∀o∈optionsL t f,o.Cancel=true∨(allP t f o).length≤150) :
  CallsPV Tryz.prog 25 [encTables t,encScheme s,encFlight f,.int .i64 now,encOpt ann] (choicesR0 t s f now ann):=by
 refine callsPV_by (clo:=cloCh) (rows:=true) env_ok Tryz.func25 rfl (enters_of Tryz.func25 (by kernel_rfl) rfl) (fun A q P Y hr hA hq=>?_)
 have hcap:=cap_Check t s
 have hopt:=occ_Options t f hfew
 have hR0:choicesR0 t s f now ann=if choicesE t s f=0 then .tup [.list 4 ((choicesO t f now).map (chPV t s f ann)),.list 4 (encOpts (choicesO t f now)),.int .i64 0] else .tup [.list 0 [],.list 0 [],.int .i64 (choicesE t s f)]:=rfl
 have hE:choicesE t s f=if capErr t s≠0 then capErr t s else checkF t f:=rfl
 have hO:choicesO t f now=if leftL t f now=[] then [forcedO] else leftL t f now:=rfl
 have hLL:=leftL_eq t f now
 have hlen:(optionsL t f).length≤1000:=Nat.le_trans (List.length_filter_le _ _) (measuresF_len t f)
 have hdl:=fun o (h:o∈optionsL t f)=>(opt_delay h).2
 have hch1:=fun (fl:List PV) (hfl:fl=encInts f.Ways) o (h:o∈optionsL t f)=>choices1 f now o (hdl o h) hfl
 have hsub:∀o∈leftL t f now,o∈optionsL t f:=fun o h=>(List.mem_filter.1 h).1
 have hseq0:=fun (L:List Opt) (h1:capErr t s=0) (h2:checkF t f=0) (h3:∀o∈L,o.Cancel=true∨(allP t f o).length≤150) (h4:L.length≤1000000) (nv:Int) (ss cs ws ms ks sc wl os:List PV) (e1:encTables t=.agg [.int .i64 nv,.list 5 ss,.list 3 cs,.list 3 ws,.list 1 ms,.list 6 ks]) (e2:ks=encKinds t.Kinds) (e3:sc=encChanges s) (e4:wl=encInts f.Ways) (e5:os=encOpts L)=>choices_1 t s f ann L h1 h2 h3 h4 (nv:=nv) (ss:=ss) (cs:=cs) (ws:=ws) (ms:=ms) (ks:=ks) (sc:=sc) (wl:=wl) (os:=os) e1 e2 e3 e4 e5
 generalize choicesR0 t s f now ann=r0 at hR0 hq
 generalize choicesE t s f=e0 at hE hR0
 generalize capErr t s=ec at hcap hE hseq0
 generalize checkF t f=ck at hopt hE hseq0
 generalize hLg:leftL t f now=LL at hO hLL hsub
 generalize hOg:choicesO t f now=OO at hR0 hO
 generalize hOL:optionsL t f=OL at hopt hLL hlen hdl hch1 hsub hLp
 have hcg:∀o,∃(d w ch:Int) (m:Nat) (us:List PV),chPV t s f ann o=.agg [.int .i64 d,.int .i64 w,.int .i64 ch,.list m us]:=fun o=>by
  unfold chPV
  split
  ·exact ⟨_,_,_,_,_,rfl⟩
  ·exact ⟨_,_,_,_,_,rfl⟩
 generalize chPV t s f ann=cg at hR0 hseq0 hcg
 have hOOl:OO.length≤1000:=by
  rw [hO]
  split
  ·simp
  ·rw [←hLL];exact Nat.le_trans (List.length_filter_le _ _) hlen
 have hOOp:∀o∈OO,o.Cancel=true∨(allP t f o).length≤150:=fun o ho=>by
  rw [hO] at ho
  split at ho
  ·rw [List.mem_singleton] at ho;subst ho;exact .inl rfl
  ·exact hLp o (hsub o ho)
 have hseq1:=fun h1 h2=>hseq0 OO h1 h2 hOOp (Nat.le_trans hOOl (by decide))
 clear hseq0
 obtain ⟨os,hos⟩:∃os,os=encOpts OL:=⟨_,rfl⟩
 rw [←hos] at hopt
 have hosl:os.length=OL.length:=by rw [hos];simp [encOpts]
 obtain ⟨ss,hss⟩:∃ss,ss=encSectors t.Sectors:=⟨_,rfl⟩
 obtain ⟨cs,hcs⟩:∃cs,cs=encConfigs t.Configs:=⟨_,rfl⟩
 obtain ⟨ws,hws⟩:∃ws,ws=encWays t.Ways:=⟨_,rfl⟩
 obtain ⟨ms,hms⟩:∃ms,ms=encIntLs t.Modes:=⟨_,rfl⟩
 obtain ⟨ks,hks⟩:∃ks,ks=encKinds t.Kinds:=⟨_,rfl⟩
 obtain ⟨nv,hnv⟩:∃nv,nv=t.Volumes:=⟨_,rfl⟩
 have htab:encTables t=.agg [.int .i64 nv,.list 5 ss,.list 3 cs,.list 3 ws,.list 1 ms,.list 6 ks]:=by rw [encTables_eq t hss hcs hws hms hks,hnv]
 obtain ⟨sc,hsc⟩:∃sc,sc=encChanges s:=⟨_,rfl⟩
 rw [encScheme_eq hsc] at hcap ⊢
 rw [htab] at hcap hopt ⊢
 obtain ⟨f1,f2,f3,f4,f5,⟨f6,f7⟩,f8⟩:=f
 obtain ⟨fl,hfl⟩:∃fl,fl=encInts f5:=⟨_,rfl⟩
 rw [encFlight_eq _ hfl] at hopt ⊢
 have hch2:=hch1 fl hfl
 have hseq2:=fun h1 h2 oo hoo=>hseq1 h1 h2 nv ss cs ws ms ks sc fl oo htab hks hsc hfl hoo
 clear hch1 hseq1
 obtain ⟨a1,a2,a3,a4⟩:=ann
 simp only at hopt hcap hch2 hseq2 ⊢
 refine seq_stop (fun R hR=>?_)
 conv=>cbv
 refine hR _ ?_
 clear hR
 refine seq_stop (fun R hR=>?_)
 conv=>cbv
 refine call_intro hA (hcap) ?_
 conv=>cbv
 split
 ·rename_i hc
  have g:=neT hA hc
  rw [if_pos g] at hE
  rw [if_neg (by rw [hE];exact g),hE] at hR0
  conv=>cbv
  refine ⟨_,Frz.refl _ _,?_⟩
  conv=>cbv
  exact (hR0.symm.trans hq)
 rename_i hc
 have g:=neF hA hc
 rw [if_neg (by rw [g];simp)] at hE
 refine hR _ ?_
 clear hR hcap
 refine seq_stop (fun R hR=>?_)
 conv=>cbv
 refine call_intro hA (hopt) ?_
 conv=>cbv
 refine hR _ ?_
 clear hR hopt
 refine seq_stop (fun R hR=>?_)
 conv=>cbv
 split
 ·rename_i hc
  have g2:=neT hA hc
  rw [if_neg (by rw [hE];exact g2),hE] at hR0
  conv=>cbv
  refine ⟨_,Frz.refl _ _,?_⟩
  conv=>cbv
  exact (hR0.symm.trans hq)
 rename_i hc
 have g2:=neF hA hc
 rw [if_pos (hE.trans g2)] at hR0
 have hseq:=hseq2 g g2
 subst g g2
 clear hseq2 hE hfew
 refine hR _ ?_
 clear hR
 refine seq_stop (fun R hR=>?_)
 conv=>cbv
 by_cases hnil:OL=[]
 ·have hos0:os=[]:=by rw [hos,hnil];rfl
  have hLn:LL=[]:=by rw [←hLL,hnil];rfl
  rw [if_pos hLn] at hO
  clear hos hosl hch2 hLL hsub
  subst hos0
  have hl0:A.lLen []=0:=by subst hA;rfl
  have hch:=stages_choices nv ss cs ws ms ks sc fl [.agg [.int .i64 0,.int .i64 0,.int .i64 0,.bool true]] f1 f2 f3 f6 f7 f4 f8 a1 a2 a3 a4
  refine frz_intro hA (Frz.refl _ _) rfl clone_nil ?_
  conv=>cbv
  refine call_intro hA ((deleteFunc_nil _)) ?_
  conv=>cbv
  refine hR _ ?_
  clear hR
  refine seq_stop (fun R hR=>?_)
  conv=>cbv
  split
  rotate_left
  ·rename_i hc
   cases ((show False by exact eqF' hA hl0 rfl hc rfl))
  conv=>cbv
  refine hR _ ?_
  clear hR
  refine seq_stop (fun R hR=>?_)
  conv=>cbv
  refine call_intro hA hch ?_
  conv=>cbv
  refine rng_intro hA (hseq _ (by rw [hO];rfl)) (fun x hx=>?_) (fun (z:List PV × List PV) s=>⟨[.val .any,.val .any,.val .any,.val .any,.val .any,.val .any,.val .any,.val .any,.val .any,.val .any,.box 5 0,.box 6 0,.val .any,.val .any,.val .any,.val .any,.val .any,.val .any,.val .any,.val .any,.val .any,.val .any,.val .any,.val .any,.val .any,.val .any,.val .any,.val .any,.val .any,.val .any,.val .any,.val .any,.val .any,.val .any,.val .any,.val .any,.val .any,.val .any,.val .any,.val .any,.val .any,.val .any,.val .any,.val .any,.val .any,.val .any,.val .any,.val .any,.val .any,.val .any,.val .any,.val .any,.val .any,.val .any,.val .any,.val .any,.val .any,.val .any,.val .any,.val .any],[some [.val (.int .i64 nv),.val (.list 5 ss),.val (.list 3 cs),.val (.list 3 ws),.val (.list 1 ms),.val (.list 6 ks)],some [.val (.list 3 sc)],none,none,some [.val (.int .i64 a1),.val (.int .i64 a2),.val (.int .i64 a3),.val (.bool a4)],some [.own 0 4 z.1],some [.own 1 4 z.2]],[(A.nLen z.1,83),(A.nLen z.2,35)],⟨[],0⟩⟩)
   (fun k z=>z.1=(OO.take k).map cg∧z.2=encOpts (OO.take k)) ([],[]) (fun _=>rfl) ?_ ?_ ?_ ?_
  ·obtain ⟨o,_,rfl⟩:=List.mem_map.1 hx;rfl
  ·subst hA
   (conv=>cbv)
   refine Wk.trans _ _ _ (Wk.ownBx _ _ [] _ 5 0 0 4 [.lit 0 []] [] 83 rfl rfl (.inr rfl)) (Wk.trans _ _ _ (Wk.ownBx _ _ _ _ 6 0 0 4 [.lit 0 []] [] 35 rfl rfl (.inr rfl)) ?_)
   exact wk_sl (by repeat (first | refine leL_same ?_ | refine leL_any ?_ | exact leL_nil))
  ·exact ⟨rfl,rfl⟩
  ·rintro R1 k ⟨z1,z2⟩ x hxk ⟨hz1,hz2⟩ hR1
   rw [List.getElem?_map,Option.map_eq_some_iff] at hxk
   obtain ⟨o,ho,rfl⟩:=hxk
   simp only at hz1 hz2
   have hkl:k<OO.length:=(List.getElem?_eq_some_iff.1 ho).1
   obtain ⟨d,w,ch,m,us,hcgo⟩:=hcg o
   have htk:OO.take (k+1)=OO.take k++[o]:=by rw [List.take_add_one,ho];rfl
   have hl1:z1.length≤1000:=by rw [hz1];simp;omega
   have hl2:z2.length≤1000:=by rw [hz2];simp [encOpts];omega
   have hn1:A.lApp z1 [.agg [.int .i64 d,.int .i64 w,.int .i64 ch,.list m us]]=(OO.take (k+1)).map cg:=by
    subst hA
    rw [htk,List.map_append,←hz1,←hcgo];rfl
   have hn2:A.lApp z2 [encOpt o]=encOpts (OO.take (k+1)):=by
    subst hA
    rw [htk,hz2]
    show encOpts _++_=_
    simp [encOpts]
   have ht1:A.tkEq (A.nLen z1) (A.nLen z1):=by subst hA;rfl
   have ht2:A.tkEq (A.nLen z2) (A.nLen z2):=by subst hA;rfl
   have hr1:A.room (A.nLen (A.lApp z1 [.agg [.int .i64 d,.int .i64 w,.int .i64 ch,.list m us]])) 48:=by
    subst hA
    show (z1++[_]).length*(48+1)≤140737488355328
    rw [List.length_append,List.length_singleton];omega
   have hr2:A.room (A.nLen (A.lApp z2 [encOpt o])) 32:=by
    subst hA
    show (z2++[_]).length*(32+1)≤140737488355328
    rw [List.length_append,List.length_singleton];omega
   rw [hcgo]
   obtain ⟨o1,o2,o3,o4⟩:=o
   conv=>cbv
   refine ⟨draw_intro hA (by kernel_rfl),?_⟩
   refine ⟨⟨ht2,hr2⟩,⟨ht1,hr1⟩,hR1 (A.lApp z1 [.agg [.int .i64 d,.int .i64 w,.int .i64 ch,.list m us]],A.lApp z2 [encOpt ⟨o1,o2,o3,o4⟩]) _ ?_ ⟨hn1,hn2⟩⟩
   (conv=>cbv)
   exact wk_round (bx:=[_,_,_,_,_,_,_]) (bx':=[_,_]) (mp:=[]) (mp':=[]) (by repeat (first | refine leL_same ?_ | refine leL_any ?_ | exact leL_nil)) (by simp) (by simp) rfl rfl
  ·rintro ⟨z1,z2⟩ ⟨hz1,hz2⟩
   simp only at hz1 hz2
   rw [List.length_map,List.take_length] at hz1 hz2
   rw [←hz1,←hz2] at hR0
   have hqq:=hR0.symm.trans hq
   conv=>cbv
   refine hR _ ?_
   clear hR
   conv=>cbv
   repeat' first
    | exact ⟨_,Frz.refl _ _,(by (conv=>cbv);exact hqq)⟩
    | apply And.intro
 refine shareR_intro hA (CallsR.flags (clone_Opt OL hnil (Nat.le_trans hlen (by decide)) hos [_,_,_,_,_,_,_] (by simp))) (fun r bx' tk' ax' h=>?_)
 obtain ⟨cap,k,hr,hb,hck,rfl,rfl⟩:=h
 obtain ⟨n,hn⟩:∃n,n=OL.length:=⟨_,rfl⟩
 obtain ⟨C,hC⟩:∃C,C=rowC OL++List.replicate k (SV.val .any):=⟨_,rfl⟩
 rw [←hn] at hr
 rw [←hC] at hb
 subst hr hb
 conv=>cbv
 have hdel:=fun (pre:List (Option (List SV))) (hpre:inBx pre) (hid:7=pre.length)=>deleteFunc_row _ OL (Nat.le_trans hlen (by decide)) hch2 pre hpre hn hid hck
 simp only [hLL,←hC] at hdel
 refine shareR_intro hA (CallsR.flags (hdel [_,_,_,_,_,_,_] (fun a b c=>rfl) rfl)) (fun r bx' tk' ax' h=>?_)
 obtain ⟨k2,n2,hr,hn2,hb,hk2,rfl,rfl⟩:=h
 obtain ⟨C2,hC2⟩:∃C2,C2=rowC LL++List.replicate k2 (SV.val .any):=⟨_,rfl⟩
 rw [←hC2] at hb
 subst hr hb
 clear hdel hC
 conv=>cbv
 refine hR _ ?_
 clear hR
 refine seq_stop (fun R hR=>?_)
 conv=>cbv
 split
 ·rename_i hc
  have hz:LL.length=0:=by
   have:=eqT' hA (natI hA n2) rfl hc
   omega
  have hLn:LL=[]:=List.eq_nil_of_length_eq_zero hz
  rw [if_pos hLn] at hO
  conv=>cbv
  refine hR _ ?_
  clear hR
  have hch:=stages_choices nv ss cs ws ms ks sc fl [.agg [.int .i64 0,.int .i64 0,.int .i64 0,.bool true]] f1 f2 f3 f6 f7 f4 f8 a1 a2 a3 a4
  refine seq_stop (fun R hR=>?_)
  conv=>cbv
  refine call_intro hA hch ?_
  conv=>cbv
  refine rng_intro hA (hseq _ (by rw [hO];rfl)) (fun x hx=>?_) (fun (z:List PV × List PV) s=>⟨[.val .any,.val .any,.val .any,.val .any,.val .any,.val .any,.val .any,.val .any,.val .any,.val .any,.box 5 0,.box 6 0,.val .any,.val .any,.val .any,.val .any,.val .any,.val .any,.val .any,.val .any,.val .any,.val .any,.val .any,.val .any,.val .any,.val .any,.val .any,.val .any,.val .any,.val .any,.val .any,.val .any,.val .any,.val .any,.val .any,.val .any,.val .any,.val .any,.val .any,.val .any,.val .any,.val .any,.val .any,.val .any,.val .any,.val .any,.val .any,.val .any,.val .any,.val .any,.val .any,.val .any,.val .any,.val .any,.val .any,.val .any,.val .any,.val .any,.val .any,.val .any],[some [.val (.int .i64 nv),.val (.list 5 ss),.val (.list 3 cs),.val (.list 3 ws),.val (.list 1 ms),.val (.list 6 ks)],some [.val (.list 3 sc)],none,none,some [.val (.int .i64 a1),.val (.int .i64 a2),.val (.int .i64 a3),.val (.bool a4)],some [.own 0 4 z.1],some [.own 1 4 z.2]],[(A.nLen z.1,83),(A.nLen z.2,35)],⟨[],0⟩⟩)
   (fun k z=>z.1=(OO.take k).map cg∧z.2=encOpts (OO.take k)) ([],[]) (fun _=>rfl) ?_ ?_ ?_ ?_
  ·obtain ⟨o,_,rfl⟩:=List.mem_map.1 hx;rfl
  ·subst hA
   (conv=>cbv)
   refine Wk.trans _ _ _ (Wk.ownBx _ _ [] _ 5 0 0 4 [.lit 0 []] [] 83 rfl rfl (.inr rfl)) (Wk.trans _ _ _ (Wk.ownBx _ _ _ _ 6 0 0 4 [.lit 0 []] [] 35 rfl rfl (.inr rfl)) ?_)
   exact wk_round (bx:=[_,_,_,_,_,_,_]) (bx':=[_]) (mp:=[]) (mp':=[]) (by repeat (first | refine leL_same ?_ | refine leL_any ?_ | exact leL_nil)) (by simp) (by simp) rfl rfl
  ·exact ⟨rfl,rfl⟩
  ·rintro R1 k ⟨z1,z2⟩ x hxk ⟨hz1,hz2⟩ hR1
   rw [List.getElem?_map,Option.map_eq_some_iff] at hxk
   obtain ⟨o,ho,rfl⟩:=hxk
   simp only at hz1 hz2
   have hkl:k<OO.length:=(List.getElem?_eq_some_iff.1 ho).1
   obtain ⟨d,w,ch,m,us,hcgo⟩:=hcg o
   have htk:OO.take (k+1)=OO.take k++[o]:=by rw [List.take_add_one,ho];rfl
   have hl1:z1.length≤1000:=by rw [hz1];simp;omega
   have hl2:z2.length≤1000:=by rw [hz2];simp [encOpts];omega
   have hn1:A.lApp z1 [.agg [.int .i64 d,.int .i64 w,.int .i64 ch,.list m us]]=(OO.take (k+1)).map cg:=by
    subst hA
    rw [htk,List.map_append,←hz1,←hcgo];rfl
   have hn2:A.lApp z2 [encOpt o]=encOpts (OO.take (k+1)):=by
    subst hA
    rw [htk,hz2]
    show encOpts _++_=_
    simp [encOpts]
   have ht1:A.tkEq (A.nLen z1) (A.nLen z1):=by subst hA;rfl
   have ht2:A.tkEq (A.nLen z2) (A.nLen z2):=by subst hA;rfl
   have hr1:A.room (A.nLen (A.lApp z1 [.agg [.int .i64 d,.int .i64 w,.int .i64 ch,.list m us]])) 48:=by
    subst hA
    show (z1++[_]).length*(48+1)≤140737488355328
    rw [List.length_append,List.length_singleton];omega
   have hr2:A.room (A.nLen (A.lApp z2 [encOpt o])) 32:=by
    subst hA
    show (z2++[_]).length*(32+1)≤140737488355328
    rw [List.length_append,List.length_singleton];omega
   rw [hcgo]
   obtain ⟨o1,o2,o3,o4⟩:=o
   conv=>cbv
   refine ⟨draw_intro hA (by kernel_rfl),?_⟩
   refine ⟨⟨ht2,hr2⟩,⟨ht1,hr1⟩,hR1 (A.lApp z1 [.agg [.int .i64 d,.int .i64 w,.int .i64 ch,.list m us]],A.lApp z2 [encOpt ⟨o1,o2,o3,o4⟩]) _ ?_ ⟨hn1,hn2⟩⟩
   (conv=>cbv)
   exact wk_round (bx:=[_,_,_,_,_,_,_]) (bx':=[_,_]) (mp:=[]) (mp':=[]) (by repeat (first | refine leL_same ?_ | refine leL_any ?_ | exact leL_nil)) (by simp) (by simp) rfl rfl
  ·rintro ⟨z1,z2⟩ ⟨hz1,hz2⟩
   simp only at hz1 hz2
   rw [List.length_map,List.take_length] at hz1 hz2
   rw [←hz1,←hz2] at hR0
   have hqq:=hR0.symm.trans hq
   conv=>cbv
   refine hR _ ?_
   clear hR
   conv=>cbv
   repeat' first
    | exact ⟨_,Frz.refl _ _,(by (conv=>cbv);exact hqq)⟩
    | apply And.intro
 ·rename_i hc
  have hLn:LL≠[]:=fun h=>by
   have:=eqF' hA (natI hA n2) rfl hc
   rw [h] at hn2
   simp at hn2
   omega
  rw [if_neg hLn] at hO
  conv=>cbv
  refine hR _ ?_
  clear hR
  obtain ⟨kk,hkk⟩:∃kk,k2=kk*4:=⟨cap - n2,by rw [Nat.sub_mul];omega⟩
  subst hkk
  obtain ⟨xs,hxs⟩:∃xs,xs=stillO LL kk:=⟨_,rfl⟩
  obtain ⟨ol,hol⟩:∃ol,ol=encOpts LL:=⟨_,rfl⟩
  have hx1:C2=(xs.flatMap PV.cells).map SV.val:=by rw [hC2,hxs];exact stillO_cells LL kk
  have hx2:∀x∈xs,x.cells.length=4:=by rw [hxs];exact stillO_one LL kk
  have hx3:rowSV 7 4 xs (.row 7 0 4 n2 cap)=.val (.list 4 ol):=by rw [hxs,hol];exact stillO_row LL kk 7 cap hn2
  obtain ⟨s2,hs2⟩:∃s2,rowSV 7 4 xs (.row 7 0 4 n cap)=s2:=⟨_,rfl⟩
  have hch:=stages_choices nv ss cs ws ms ks sc fl ol f1 f2 f3 f6 f7 f4 f8 a1 a2 a3 a4
  clear hxs hC2
  refine seq_stop (fun R hR=>?_)
  conv=>cbv
  refine frz_intro hA (Frz.row 7 4 C2 xs _ _ _ _ rfl hx1 hx2 (Frz.refl _ _)) (by simp only [List.map_cons,List.map_nil,hx3];rfl) hch ?_
  simp only [St.sealRow,List.map_cons,List.map_nil,hx3,hs2]
  conv=>cbv
  refine rng_intro hA (hseq _ (by rw [hol,hO])) (fun x hx=>?_) (fun (z:List PV × List PV) s=>⟨[.val .any,.val .any,.val .any,.val .any,.val .any,.val .any,.val .any,.val .any,.val .any,.val .any,.box 5 0,.box 6 0,.val .any,.val .any,.val .any,.val .any,.val .any,.val .any,.val .any,.val .any,.val .any,.val .any,.val .any,.val .any,.val .any,.val .any,.val .any,.val .any,.val .any,.val .any,.val .any,.val .any,.val .any,.val .any,.val .any,.val .any,.val .any,.val .any,.val .any,.val .any,.val .any,.val .any,.val .any,.val .any,.val .any,.val .any,.val .any,.val .any,.val .any,.val .any,.val .any,.val .any,.val .any,.val .any,.val .any,.val .any,.val .any,.val .any,.val .any,.val .any],[some [.val (.int .i64 nv),.val (.list 5 ss),.val (.list 3 cs),.val (.list 3 ws),.val (.list 1 ms),.val (.list 6 ks)],some [.val (.list 3 sc)],none,none,some [.val (.int .i64 a1),.val (.int .i64 a2),.val (.int .i64 a3),.val (.bool a4)],some [.own 0 4 z.1],some [.own 1 4 z.2]],[(A.nLen z.1,83),(A.nLen z.2,35)],⟨[],0⟩⟩)
   (fun k z=>z.1=(OO.take k).map cg∧z.2=encOpts (OO.take k)) ([],[]) (fun _=>rfl) ?_ ?_ ?_ ?_
  ·obtain ⟨o,_,rfl⟩:=List.mem_map.1 hx;rfl
  ·subst hA
   (conv=>cbv)
   refine Wk.trans _ _ _ (Wk.ownBx _ _ [] _ 5 0 0 4 [.lit 0 []] [] 83 rfl rfl (.inr rfl)) (Wk.trans _ _ _ (Wk.ownBx _ _ _ _ 6 0 0 4 [.lit 0 []] [] 35 rfl rfl (.inr rfl)) ?_)
   exact wk_round (bx:=[_,_,_,_,_,_,_]) (bx':=[_]) (mp:=[]) (mp':=[]) (by repeat (first | refine leL_same ?_ | refine leL_any ?_ | exact leL_nil)) (by simp) (by simp) rfl rfl
  ·exact ⟨rfl,rfl⟩
  ·rintro R1 k ⟨z1,z2⟩ x hxk ⟨hz1,hz2⟩ hR1
   rw [List.getElem?_map,Option.map_eq_some_iff] at hxk
   obtain ⟨o,ho,rfl⟩:=hxk
   simp only at hz1 hz2
   have hkl:k<OO.length:=(List.getElem?_eq_some_iff.1 ho).1
   obtain ⟨d,w,ch,m,us,hcgo⟩:=hcg o
   have htk:OO.take (k+1)=OO.take k++[o]:=by rw [List.take_add_one,ho];rfl
   have hl1:z1.length≤1000:=by rw [hz1];simp;omega
   have hl2:z2.length≤1000:=by rw [hz2];simp [encOpts];omega
   have hn1:A.lApp z1 [.agg [.int .i64 d,.int .i64 w,.int .i64 ch,.list m us]]=(OO.take (k+1)).map cg:=by
    subst hA
    rw [htk,List.map_append,←hz1,←hcgo];rfl
   have hn2:A.lApp z2 [encOpt o]=encOpts (OO.take (k+1)):=by
    subst hA
    rw [htk,hz2]
    show encOpts _++_=_
    simp [encOpts]
   have ht1:A.tkEq (A.nLen z1) (A.nLen z1):=by subst hA;rfl
   have ht2:A.tkEq (A.nLen z2) (A.nLen z2):=by subst hA;rfl
   have hr1:A.room (A.nLen (A.lApp z1 [.agg [.int .i64 d,.int .i64 w,.int .i64 ch,.list m us]])) 48:=by
    subst hA
    show (z1++[_]).length*(48+1)≤140737488355328
    rw [List.length_append,List.length_singleton];omega
   have hr2:A.room (A.nLen (A.lApp z2 [encOpt o])) 32:=by
    subst hA
    show (z2++[_]).length*(32+1)≤140737488355328
    rw [List.length_append,List.length_singleton];omega
   rw [hcgo]
   obtain ⟨o1,o2,o3,o4⟩:=o
   conv=>cbv
   refine ⟨draw_intro hA (by kernel_rfl),?_⟩
   refine ⟨⟨ht2,hr2⟩,⟨ht1,hr1⟩,hR1 (A.lApp z1 [.agg [.int .i64 d,.int .i64 w,.int .i64 ch,.list m us]],A.lApp z2 [encOpt ⟨o1,o2,o3,o4⟩]) _ ?_ ⟨hn1,hn2⟩⟩
   (conv=>cbv)
   exact wk_round (bx:=[_,_,_,_,_,_,_]) (bx':=[_,_]) (mp:=[]) (mp':=[]) (by repeat (first | refine leL_same ?_ | refine leL_any ?_ | exact leL_nil)) (by simp) (by simp) rfl rfl
  ·rintro ⟨z1,z2⟩ ⟨hz1,hz2⟩
   simp only at hz1 hz2
   rw [List.length_map,List.take_length] at hz1 hz2
   rw [←hz1,←hz2] at hR0
   have hqq:=hR0.symm.trans hq
   conv=>cbv
   refine hR _ ?_
   clear hR
   conv=>cbv
   repeat' first
    | exact ⟨_,Frz.refl _ _,(by (conv=>cbv);exact hqq)⟩
    | apply And.intro
theorem stages_Choices (t:Tables) (s:List Change) (f:Flight) (now:Int) (ann:Opt) (hfew:fewMin t) (hLp:∀o∈optionsL t f,o.Cancel=true∨(allP t f o).length≤150) :
  CallsPV Tryz.prog 25 [encTables t,encScheme s,encFlight f,.int .i64 now,encOpt ann] (choicesR t s f now ann) :=
 (stages_Choices0 t s f now ann hfew hLp).le (LeL.refl _) (choicesR0_le t s f now ann)
end Go.Abs
namespace Go.Abs
open Go.RowKit Go.Proofs
set_option maxRecDepth 10000 in
set_option maxHeartbeats 4000000 in
theorem stages_Fixed (t:Tables) (s:List Change) (f:Flight) (o:Opt) (l:List Path) {xs:List PV} (hx:xs=encPaths l) (hl:l.length≤150) :
  CallsPV Tryz.prog 31 [encTables t,encScheme s,encFlight f,encOpt o,.list 2 xs] (fixedR t s f o l):=by
 refine callsPV_by (clo:=fun _=>false) (rows:=false) env_ok Tryz.func31 rfl (enters_of Tryz.func31 (by kernel_rfl) rfl) (fun A q P Y hr hA hq=>?_)
 have hcap:=cap_Check t s
 have hchk:=fl_Check t f
 have hdel:=fl_Delay t f o
 have huse:=dm_Uses t s f.Class l hx hl
 have hR0:fixedR t s f o l=if fixedE t s f o l=0 then .tup [encChoice (fixedC t s f o l),.int .i64 0] else .tup [.agg [.int .i64 0,.int .i64 0,.int .i64 0,.list 0 []],.int .i64 (fixedE t s f o l)]:=rfl
 have hE:fixedE t s f o l=if capErr t s≠0 then capErr t s else if checkF t f≠0 then checkF t f else if (fixedD t f o).2.2≠0 then (fixedD t f o).2.2 else cntErr t s f.Class l:=rfl
 have hC:encChoice (fixedC t s f o l)=.agg [.int .i64 (fixedD t f o).1,.int .i64 (fixedD t f o).2.1,.int .i64 0,.list 4 (encUses (usesL t s f.Class l))]:=rfl
 have hD:fixedD t f o=if o=forcedO then (120,120*weightOf t f,0) else delayF t f o:=rfl
 have hU:usesL t s f.Class l=if cntErr t s f.Class l=0 then leastU (l.map (pathCells t s)) 1 (placesC t f.Class) else []:=rfl
 have hlr:leastR t s f.Class l 1=if cntErr t s f.Class l≠0 then .tup [.list 0 [],.int .i64 (cntErr t s f.Class l)] else .tup [.list 4 (encUses (leastU (l.map (pathCells t s)) 1 (placesC t f.Class))),.int .i64 0]:=rfl
 rw [hC] at hR0
 rw [hlr] at huse
 have hkk:=fun (h:checkF t f=0)=>checkF_kind h
 have hww:∀k,t.Kinds[f.Class.toNat]?=some k→weightOf t f=k.Weight:=fun k h=>by rw [weightOf,h]
 generalize fixedR t s f o l=r0 at hR0 hq
 generalize fixedE t s f o l=e0 at hE hR0
 generalize fixedD t f o=fd at hE hR0 hD
 generalize delayF t f o=dd at hdel hD
 generalize weightOf t f=wt at hD hww
 generalize capErr t s=ec at hcap hE
 generalize checkF t f=ck at hchk hE hkk
 generalize usesL t s f.Class l=UL at hR0 hU
 generalize leastU (l.map (pathCells t s)) 1 (placesC t f.Class)=LU at hU huse
 generalize cntErr t s f.Class l=ce at hE hU huse
 obtain ⟨d1,d2,d3⟩:=dd
 obtain ⟨ss,hss⟩:∃ss,ss=encSectors t.Sectors:=⟨_,rfl⟩
 obtain ⟨cs,hcs⟩:∃cs,cs=encConfigs t.Configs:=⟨_,rfl⟩
 obtain ⟨ws,hws⟩:∃ws,ws=encWays t.Ways:=⟨_,rfl⟩
 obtain ⟨ms,hms⟩:∃ms,ms=encIntLs t.Modes:=⟨_,rfl⟩
 obtain ⟨ks,hks⟩:∃ks,ks=encKinds t.Kinds:=⟨_,rfl⟩
 obtain ⟨nv,hnv⟩:∃nv,nv=t.Volumes:=⟨_,rfl⟩
 have htab:encTables t=.agg [.int .i64 nv,.list 5 ss,.list 3 cs,.list 3 ws,.list 1 ms,.list 6 ks]:=by rw [encTables_eq t hss hcs hws hms hks,hnv]
 obtain ⟨sc,hsc⟩:∃sc,sc=encChanges s:=⟨_,rfl⟩
 rw [encScheme_eq hsc] at hcap huse ⊢
 rw [htab] at hcap hchk hdel huse ⊢
 obtain ⟨f1,f2,f3,f4,f5,⟨f6,f7⟩,f8⟩:=f
 obtain ⟨fl,hfl⟩:∃fl,fl=encInts f5:=⟨_,rfl⟩
 rw [encFlight_eq _ hfl] at hchk hdel ⊢
 obtain ⟨us,hus⟩:∃us,us=encUses UL:=⟨_,rfl⟩
 rw [←hus] at hR0
 obtain ⟨o1,o2,o3,o4⟩:=o
 simp only at hcap hchk hdel huse hkk hww ⊢
 have hbad:∀n,n≠0→e0=n→PV.tup [.agg [.int .i64 0,.int .i64 0,.int .i64 0,.list 0 []],.int .i64 n]=q:=fun n h1 h2=>by
  rw [←hq,hR0,if_neg (by rw [h2];exact h1),h2]
 refine seq_stop (fun R hR=>?_)
 conv=>cbv
 refine hR _ ?_
 clear hR
 refine seq_stop (fun R hR=>?_)
 conv=>cbv
 refine call_intro hA (hcap) ?_
 conv=>cbv
 split
 ·rename_i hc
  have g:=neT hA hc
  rw [if_pos g] at hE
  conv=>cbv
  exact hbad _ g hE
 rename_i hc
 have g:=neF hA hc
 rw [if_neg (by rw [g];simp)] at hE
 refine hR _ ?_
 clear hR hcap
 refine seq_stop (fun R hR=>?_)
 conv=>cbv
 refine call_intro hA (hchk) ?_
 conv=>cbv
 split
 ·rename_i hc
  have g2:=neT hA hc
  rw [if_pos g2] at hE
  conv=>cbv
  exact hbad _ g2 hE
 rename_i hc
 have g2:=neF hA hc
 rw [if_neg (by rw [g2];simp)] at hE
 obtain ⟨k,hk,hk0,_,_,_,hW1,hW8,_⟩:=hkk g2
 have hkl:f3<t.Kinds.length:=by have:=(List.getElem?_eq_some_iff.1 hk).1;omega
 rw [hww k hk] at hD
 have hmul:A.iMul 120 k.Weight=120*k.Weight:=mulI hA _ _
 obtain ⟨k1,k2,k3,k4,k5,k6⟩:=k
 simp only at hW1 hW8 hmul hD
 refine hR _ ?_
 clear hR hchk hkk hww
 refine seq_stop (fun R hR=>?_)
 conv=>cbv
 refine ⟨draw_intro hA (by kernel_rfl),?_⟩
 refine idx_Kind hA hks hk0 hkl (fun z v hz hv=>?_)
 obtain rfl:=Option.some.inj (hk.symm.trans hz)
 clear hz hv
 conv=>cbv
 refine ⟨inR' hA hmul (by unfold inI64;omega),?_⟩
 refine hR _ ?_
 clear hR
 have hne:∀(x y:Opt) (b:Bool),b=A.bNot (A.bAnd (A.iEq x.Delay y.Delay) (A.bAnd (A.iEq x.Way y.Way) (A.bAnd (A.iEq x.Hold y.Hold) (A.bAnd (A.bEq x.Cancel y.Cancel) true))))→b=true→x≠y:=fun x y b h1 h2 e=>by
  subst hA
  rw [h1] at h2
  cases e
  simp [stdOps] at h2
 have heq:∀(x y:Opt) (b:Bool),b=A.bNot (A.bAnd (A.iEq x.Delay y.Delay) (A.bAnd (A.iEq x.Way y.Way) (A.bAnd (A.iEq x.Hold y.Hold) (A.bAnd (A.bEq x.Cancel y.Cancel) true))))→b=false→x=y:=fun x y b h1 h2=>by
  subst hA
  rw [h1] at h2
  obtain ⟨x1,x2,x3,x4⟩:=x
  obtain ⟨y1,y2,y3,y4⟩:=y
  simp [stdOps] at h2 ⊢
  exact h2
 have hne2:=hne ⟨o1,o2,o3,o4⟩ forcedO _ rfl
 have heq2:=heq ⟨o1,o2,o3,o4⟩ forcedO _ rfl
 clear hne heq
 refine seq_stop (fun R hR=>?_)
 conv=>cbv
 split
 case' h_1 =>
  rename_i hc
  rw [if_neg (hne2 hc)] at hD
  conv=>cbv
  refine call_intro hA (hdel) ?_
  conv=>cbv
  split
  case' h_1 =>
   rename_i hc
   have g3:=neT hA hc
   rw [hD,if_pos g3] at hE
   conv=>cbv
   exact hbad _ g3 hE
  rename_i hc
  have g3:=neF hA hc
 case' h_2 =>
  rename_i hc
  rw [if_pos (heq2 hc)] at hD
  have g3:(0:Int)=0:=rfl
  rw [←hmul] at hD
  conv=>cbv
 all_goals
  rw [hD,if_neg (fun h=>h g3)] at hE
  rw [hD] at hR0
  refine hR _ ?_
  clear hR
  refine seq_stop (fun R hR=>?_)
  conv=>cbv
  by_cases hce:ce=0
  ·rw [if_neg (by rw [hce];simp)] at huse
   rw [if_pos hce] at hU
   rw [if_pos (by rw [hE];exact hce)] at hR0
   rw [←hU,←hus] at huse
   refine call_intro hA huse ?_
   conv=>cbv
   refine hR _ ?_
   conv=>cbv
   split
   ·rename_i hc
    cases (neT hA hc rfl)
   conv=>cbv
   exact hR0.symm.trans hq
  ·rw [if_pos hce] at huse
   refine call_intro hA huse ?_
   conv=>cbv
   refine hR _ ?_
   conv=>cbv
   split
   rotate_left
   ·rename_i hc
    cases ((show False by exact hce (neF hA hc)))
   conv=>cbv
   exact hbad _ hce hE
end Go.Abs
namespace Go.Abs
open Go.RowKit Go.Proofs
def addC (b:List Cell) (c:Cell):List Cell:=if c∈b then b else b++[c]
def uniqC (l:List Cell):List Cell:=l.foldl addC []
theorem uniqC_snoc (l:List Cell) (c:Cell):uniqC (l++[c])=addC (uniqC l) c:=by simp [uniqC,List.foldl_append]
theorem uniqC_len (l:List Cell):(uniqC l).length≤l.length:=by
 refine snoc_ind (P:=fun l=>(uniqC l).length≤l.length) ?_ ?_ l
 ·simp [uniqC]
 ·intro l c ih
  rw [uniqC_snoc]
  unfold addC
  split<;>simp<;>omega
theorem uniqC_mem (l:List Cell) (c:Cell):c∈uniqC l↔c∈l:=by
 refine snoc_ind (P:=fun l=>c∈uniqC l↔c∈l) ?_ ?_ l
 ·simp [uniqC]
 ·intro l d ih
  rw [uniqC_snoc]
  unfold addC
  split
  ·rename_i h
   rw [ih]
   constructor
   ·intro h;simp [h]
   ·intro h2
    rcases List.mem_append.1 h2 with h2 | h2
    ·exact h2
    ·rw [List.mem_singleton] at h2
     subst h2
     exact ih.1 h
  ·simp [ih]
theorem uniqC_nodup (l:List Cell):(uniqC l).Nodup:=by
 refine snoc_ind (P:=fun l=>(uniqC l).Nodup) ?_ ?_ l
 ·simp [uniqC]
 ·intro l c ih
  rw [uniqC_snoc]
  unfold addC
  split
  ·exact ih
  ·rename_i h
   rw [List.nodup_append]
   exact ⟨ih,by simp,fun a ha b hb e=>by rw [List.mem_singleton] at hb;subst hb;subst e;exact h ha⟩
def cellsU (us:List Use):List Cell:=us.map (·.Cell)
def cellsH (cs:List Choice):List Cell:=cs.flatMap fun y=>cellsU y.Uses
def cellsV (v:List Vari):List Cell:=v.flatMap fun x=>cellsH x.Choices
structure CellsInv (b:List Cell) (arg:SV) (B:List (Option (List SV))) (m:List (PV × PV)):Prop where
 arg:ArgM pvC 3 0 b B arg
 map:∃hs:List (Cell × Unit),m=encM encCell (fun _=>.bool true) hs∧NodM hs∧∀c,hasM hs c=decide (c∈b)
theorem CellsInv.nil:CellsInv [] (.lit 0 []) [] []:=⟨.inl ⟨rfl,rfl⟩,[],rfl,by simp [NodM],fun c=>by simp [hasM]⟩
theorem CellsInv.more {b:List Cell} {arg:SV} {B:List (Option (List SV))} {m:List (PV × PV)} (h:CellsInv b arg B m) (ex:List (Option (List SV))):CellsInv b arg (B++ex) m:=⟨h.arg.more ex,h.map⟩
theorem CellsInv.look {b:List Cell} {arg:SV} {B:List (Option (List SV))} {m:List (PV × PV)} (h:CellsInv b arg B m) (c:Cell):keysOk true [.bool,.int,.int] m (encCell c)∧(lookE m (encCell c)).getD (.bool false)=.bool (decide (c∈b)):=by
 obtain ⟨hs,h1,h2,h3⟩:=h.map
 refine ⟨by rw [h1];exact keysOk_Cell _ _,?_⟩
 rw [h1,lookE_enc keq_Cell (f:=fun _:Unit=>PV.bool true),←h3]
 cases hl:lookM hs c with
 | none=>rw [lookM_none.1 hl];rfl
 | some u =>
  have:hasM hs c=true:=by
   cases hh:hasM hs c with
   | true=>rfl
   | false=>rw [lookM_none.2 hh] at hl;cases hl
  rw [this];rfl
theorem leL_lit3 {l l':List SV} (h:leL l l'):leL (.lit 0 []::l) (SV.val (.list 3 [])::l'):=⟨.inr (.inr ⟨rfl,0,rfl,fun _=>rfl⟩),h⟩
theorem CellsInv.put {b:List Cell} {arg:SV} {B:List (Option (List SV))} {m:List (PV × PV)} (h:CellsInv b arg B m) (c:Cell) {j cap id n:Nat} {rs:List (Option (List SV))} (hrow:RowS pvC 3 (b++[c]) rs j cap) (hid:id=0+j) (hn:n=b.length+1):CellsInv (b++[c]) (.row id 0 3 n cap) rs (putE m (encCell c) (.bool true)):=by
 obtain ⟨hs,h1,h2,h3⟩:=h.map
 refine ⟨.inr ⟨by simp,j,cap,by rw [hid,hn];simp,hrow⟩,putM hs c (),by rw [h1];exact putE_enc keq_Cell (f:=fun _:Unit=>PV.bool true) hs c (),h2.put _ _,fun d=>?_⟩
 rw [Bool.eq_iff_iff,hasM_iff,putM_keys,decide_eq_true_eq,List.mem_append,List.mem_singleton]
 have h4:∀d,d∈hs.map (·.1)↔d∈b:=fun d=>by rw [←hasM_iff,h3 d,decide_eq_true_eq]
 split
 ·rename_i hh
  rw [h4]
  have h5:c∈b:=(h4 c).1 (hasM_iff.1 hh)
  constructor
  ·exact .inl
  ·rintro (h | rfl)
   ·exact h
   ·exact h5
 ·rw [List.mem_append,List.mem_singleton,h4]
theorem box_get {B:List (Option (List SV))} {x:Option (List SV)} {n:Nat} (hn:n=B.length):(B++[x])[n]?=some x:=by
 rw [hn,List.getElem?_append_right (Nat.le_refl _),Nat.sub_self];rfl
theorem box_set {B:List (Option (List SV))} {x y:Option (List SV)} {n:Nat} (hn:n=B.length):(B++[x]).set n y=B++[y]:=by
 rw [hn,List.set_append_right _ _ (Nat.le_refl _),Nat.sub_self];rfl
def cloCe (n:Nat):Bool:=n == 10000000 || n == 9000000
set_option maxRecDepth 10000 in
set_option maxHeartbeats 8000000 in
theorem stages_Cells (v:List Vari) {xs:List PV} (hx:xs=encVars v) (hlen:(cellsV v).length≤1000000) (hl1:v.length≤1000000) (hl2:∀x∈v,x.Choices.length≤1000000) (hl3:∀x∈v,∀y∈x.Choices,y.Uses.length≤1000000) :
  CallsPV Tryz.prog 34 [.list 4 xs] (.list 3 (encCells (sortC (uniqC (cellsV v))))):=by
 refine callsPV_byW (clo:=cloCe) (rows:=true) env_ok Tryz.func34 rfl (enters_of Tryz.func34 (by kernel_rfl) rfl) (fun A q P Y R hr hA hq hR=>?_)
 have hxl:xs.length=v.length:=by rw [hx];simp [encVars]
 refine seq_stop (fun R0 hR0=>?_)
 conv=>cbv
 refine hR0 _ ?_
 clear hR0
 refine seq_stop (fun R0 hR0=>?_)
 conv=>cbv
 refine hR0 _ ?_
 clear hR0
 refine seq_stop (fun R0 hR0=>?_)
 conv=>cbv
 refine loop_set hA (fun (z:Int × SV × List (Option (List SV)) × List (PV × PV)) s=>{ (s.put (some 13) (.val (.int .i64 z.1))).put (some 2) z.2.1 with bx:=z.2.2.1,ax:=⟨[.ents z.2.2.2 none],s.ax.yk⟩ })
  (fun z=>0≤z.1∧z.1≤v.length∧CellsInv (uniqC (cellsV (v.take z.1.toNat))) z.2.1 z.2.2.1 z.2.2.2) (fun z=>(v.length - z.1).toNat) (0,.lit 0 [],[],[]) ?_ ?_ ?_
 ·conv=>cbv
  exact wk_sl (by repeat (first | refine leL_same ?_ | refine leL_any ?_ | exact leL_nil))
 ·exact ⟨Int.le_refl _,by omega,CellsInv.nil⟩
 rintro R1 ⟨i,arg,B,m⟩ ⟨hi0,hi1,hJ⟩ hR1
 simp only at hi0 hi1 hJ
 refine seq_stop (fun R2 hR2=>?_)
 conv=>cbv
 refine hR2 _ ?_
 clear hR2
 refine seq_stop (fun R2 hR2=>?_)
 conv=>cbv
 split
 rotate_left
 ·rename_i hc
  have hge:=ltF' hA rfl (lenI hA hxl) hc
  rw [List.take_of_length_le (by omega)] at hJ
  conv=>cbv
  refine hR0 _ ?_
  clear hR0 hR1 hR2
  have hnod:=uniqC_nodup (cellsV v)
  have hbl:=uniqC_len (cellsV v)
  generalize uniqC (cellsV v)=b at hJ hq hnod hbl
  rcases hJ.arg with ⟨hb,rfl⟩ | ⟨hb0,j,cap,harg,hrow⟩
  ·subst hb
   rw [show encCells (sortC [])=[] by simp [encCells,sortC]] at hq
   conv=>cbv
   refine call_intro hA (sortFunc_none) ?_
   conv=>cbv
   refine hR _ _ (wk_sl (leL_same (leL_same (leL_lit3 (leL_refl _))))) ⟨_,Frz.refl _ _,(by (conv=>cbv);exact hq)⟩
  ·obtain ⟨id,hid⟩:∃id,id=0+j:=⟨_,rfl⟩
   obtain ⟨n,hn'⟩:∃n,n=b.length:=⟨_,rfl⟩
   rw [←hid,←hn'] at harg
   subst harg
   obtain ⟨junk,h1,h2,h3,h4⟩:=hrow
   have hc:B[id]?=some (some ((b.flatMap pvC).map SV.val++(junk.flatten).map SV.val)):=by
    rw [hid,Nat.zero_add,h1,rowCells_split]
   have hs:=sortFunc_Cell (rows:=true) (clo:=cloCe) (Y:=.none) (tk:=[]) (ax:=⟨[.ents m none],0⟩) (cap:=cap) hc hn' (by omega)
   conv=>cbv
   refine shareR_intro hA hs (fun r bx2 tk2 ax2 h=>?_)
   obtain ⟨rfl,hbx2,rfl,rfl⟩:=h
   conv=>cbv
   have hget:bx2[id]?=some (some (rowCells pvC (sortC b) junk)):=by
    rw [hbx2,List.getElem?_set_self (List.getElem?_eq_some_iff.1 hc).1,rowCells_split]
   have hx9:rowSV id 3 (((sortC b).map pvC++junk).map PV.agg) (.row id 0 3 n cap)=.val (.list 3 (encCells (sortC b))):=by
    unfold rowSV
    have hsl:(sortC b).length=b.length:=(sortC_perm b).length_eq
    simp only
    rw [if_pos ⟨trivial,trivial,trivial,by simp;omega⟩,List.map_append,List.take_left' (by simp;omega),List.map_map]
    rfl
   generalize encCells (sortC b)=zs at hx9 hq
   refine hR _ _ (Wk.refl _) ⟨_,Frz.row id 3 _ (((sortC b).map pvC++junk).map PV.agg) _ _ _ _ (by rw [List.getD_eq_getElem?_getD,hget];rfl) (rowCells_agg _ _ _) (fun x hx=>?_) (Frz.refl _ _),?_⟩
   ·obtain ⟨y,hy,rfl⟩:=List.mem_map.1 hx
    rcases List.mem_append.1 hy with h | h
    ·obtain ⟨z,_,rfl⟩:=List.mem_map.1 h;rfl
    ·exact h2 y h
   ·simp only [St.sealRow,List.map_cons,List.map_nil,hx9]
    (conv=>cbv)
    exact hq
 rename_i hc
 have hi:i<v.length:=ltT' hA rfl (lenI hA hxl) hc
 have his:A.iAdd i 1=i+1:=addI hA _ _
 have hir:A.inR (A.iAdd i 1):=inR' hA his (by unfold inI64;omega)
 obtain ⟨x,hx0⟩:∃x,v[i.toNat]?=some x:=⟨_,List.getElem?_eq_getElem (show i.toNat<v.length by omega)⟩
 have hxm:=List.mem_of_getElem? hx0
 have hlx:=hl2 x hxm
 have htk:=take_snoc' hi0 hx0
 have hpre:(cellsV (v.take i.toNat)).length+(cellsH x.Choices).length≤1000000:=by
  have e:v=v.take i.toNat++(x::v.drop (i.toNat+1)):=by
   rw [←(List.getElem?_eq_some_iff.1 hx0).2,List.getElem_cons_drop,List.take_append_drop]
  have h:=hlen
  rw [e] at h
  unfold cellsV at h ⊢
  rw [List.flatMap_append,List.flatMap_cons,List.length_append,List.length_append] at h
  omega
 have hnxt:cellsV (v.take (i+1).toNat)=cellsV (v.take i.toNat)++cellsH x.Choices:=by
  rw [show (i+1).toNat=i.toNat+1 by omega,List.take_add_one,hx0]
  unfold cellsV
  rw [List.flatMap_append]
  simp
 generalize hp1:cellsV (v.take i.toNat)=pre1 at hJ hpre hnxt
 refine hR2 _ ?_
 clear hR2
 refine seq_stop (fun R2 hR2=>?_)
 refine block_seq (fun R3 hR3=>?_)
 conv=>cbv
 refine idx_Var hA hx hi0 hi (fun x' lv chs hx' hlv hch=>?_)
 obtain rfl:=Option.some.inj (hx0.symm.trans hx')
 clear hx'
 have hchl:chs.length=x.Choices.length:=by rw [hch];simp [encChoices]
 conv=>cbv
 refine alc_at hA (z:=[.int .i64 0,.int .i64 0,.list 0 [],.list 0 []]) rfl rfl (by decide) (fun n1 B1 hn1 hB1=>?_)
 have hn1:n1=B.length:=hn1
 have hB1:B1=B++[some [.val (.int .i64 0),.val (.int .i64 0),.lit 0 [],.lit 0 []]]:=hB1
 conv=>cbv
 refine rstA_at hA (cs:=[.val (.int .i64 0),.val (.int .i64 0),.lit 0 [],.lit 0 []]) (by rw [hB1];exact box_get hn1) rfl rfl rfl (Nat.le_refl 4) (fun B2 hB2=>?_)
 have hB2:B2=B++[some [.val (.int .i64 x.Flight),.val (.int .i64 x.Node),.val (.list 1 lv),.val (.list 4 chs)]]:=by
  rw [hB2,hB1];exact box_set hn1
 have hJ:=hJ.more [some [.val (.int .i64 x.Flight),.val (.int .i64 x.Node),.val (.list 1 lv),.val (.list 4 chs)]]
 have hB2g:B2[n1]?=some (some [.val (.int .i64 x.Flight),.val (.int .i64 x.Node),.val (.list 1 lv),.val (.list 4 chs)]):=by rw [hB2];exact box_get hn1
 rw [←hB2] at hJ
 clear hB1 hB2
 conv=>cbv
 refine hR3 _ ?_
 clear hR3
 refine seq_stop (fun R3 hR3=>?_)
 conv=>cbv
 refine rld_at hA (cs:=[.val (.int .i64 x.Flight),.val (.int .i64 x.Node),.val (.list 1 lv),.val (.list 4 chs)]) (c:=.val (.list 4 chs)) hB2g rfl rfl rfl ?_
 conv=>cbv
 refine hR3 _ ?_
 clear hR3 hB2g hx0 hlv
 refine loop_set hA (fun (z:Int × SV × List (Option (List SV)) × List (PV × PV)) s=>{ (s.put (some 20) (.val (.int .i64 z.1))).put (some 2) z.2.1 with bx:=z.2.2.1,ax:=⟨[.ents z.2.2.2 none],s.ax.yk⟩ })
  (fun z=>0≤z.1∧z.1≤x.Choices.length∧CellsInv (uniqC (pre1++cellsH (x.Choices.take z.1.toNat))) z.2.1 z.2.2.1 z.2.2.2) (fun z=>(x.Choices.length - z.1).toNat) (0,arg,B2,m) ?_ ?_ ?_
 ·conv=>cbv
  exact wk_sl (by repeat (first | refine leL_same ?_ | refine leL_any ?_ | exact leL_nil))
 ·exact ⟨Int.le_refl _,by omega,by simpa [cellsH] using hJ⟩
 rintro R4 ⟨j,arg2,B3,m2⟩ ⟨hj0,hj1,hJ2⟩ hR4
 simp only at hj0 hj1 hJ2
 refine seq_stop (fun R3 hR3=>?_)
 conv=>cbv
 refine hR3 _ ?_
 clear hR3
 refine seq_stop (fun R3 hR3=>?_)
 conv=>cbv
 split
 rotate_left
 ·rename_i hc
  have hge:=ltF' hA rfl (lenI hA hchl) hc
  rw [List.take_of_length_le (by omega),←hnxt] at hJ2
  conv=>cbv
  refine hR2 _ ?_
  clear hR2 hR3 hR4
  conv=>cbv
  refine ⟨hir,hR1 (A.iAdd i 1,arg2,B3,m2) _ ?_ ⟨by show 0≤A.iAdd i 1;omega,by show A.iAdd i 1≤_;omega,by rw [his];exact hJ2⟩ (by show (v.length - A.iAdd i 1).toNat < _;rw [his];omega)⟩
  conv=>cbv
  exact wk_sl (by repeat (first | refine leL_same ?_ | refine leL_any ?_ | exact leL_nil))
 rename_i hc
 have hj:j<x.Choices.length:=ltT' hA rfl (lenI hA hchl) hc
 have hjs:A.iAdd j 1=j+1:=addI hA _ _
 have hjr:A.inR (A.iAdd j 1):=inR' hA hjs (by unfold inI64;omega)
 obtain ⟨y,hy0⟩:∃y,x.Choices[j.toNat]?=some y:=⟨_,List.getElem?_eq_getElem (show j.toNat<x.Choices.length by omega)⟩
 have hym:=List.mem_of_getElem? hy0
 have hly:=hl3 x hxm y hym
 have hpre2:(pre1++cellsH (x.Choices.take j.toNat)).length+(cellsU y.Uses).length≤1000000:=by
  have e:x.Choices=x.Choices.take j.toNat++(y::x.Choices.drop (j.toNat+1)):=by
   rw [←(List.getElem?_eq_some_iff.1 hy0).2,List.getElem_cons_drop,List.take_append_drop]
  have h:=hpre
  rw [e] at h
  unfold cellsH at h ⊢
  rw [List.flatMap_append,List.flatMap_cons,List.length_append,List.length_append] at h
  rw [List.length_append]
  omega
 have hnxt2:pre1++cellsH (x.Choices.take (j+1).toNat)=pre1++cellsH (x.Choices.take j.toNat)++cellsU y.Uses:=by
  rw [show (j+1).toNat=j.toNat+1 by omega,List.take_add_one,hy0]
  unfold cellsH
  rw [List.flatMap_append,List.append_assoc]
  simp
 generalize hp2:pre1++cellsH (x.Choices.take j.toNat)=pre2 at hJ2 hpre2 hnxt2
 refine hR3 _ ?_
 clear hR3
 refine seq_stop (fun R3 hR3=>?_)
 refine block_seq (fun R5 hR5=>?_)
 conv=>cbv
 refine idx_Choice hA hch hj0 hj (fun y' us hy' hus=>?_)
 obtain rfl:=Option.some.inj (hy0.symm.trans hy')
 clear hy'
 have husl:us.length=y.Uses.length:=by rw [hus];simp [encUses]
 conv=>cbv
 refine alc_at hA (z:=[.int .i64 0,.int .i64 0,.int .i64 0,.list 0 []]) rfl rfl (by decide) (fun n2 B4 hn2 hB4=>?_)
 have hn2:n2=B3.length:=hn2
 have hB4:B4=B3++[some [.val (.int .i64 0),.val (.int .i64 0),.val (.int .i64 0),.lit 0 []]]:=hB4
 conv=>cbv
 refine rstA_at hA (cs:=[.val (.int .i64 0),.val (.int .i64 0),.val (.int .i64 0),.lit 0 []]) (by rw [hB4];exact box_get hn2) rfl rfl rfl (Nat.le_refl 4) (fun B5 hB5=>?_)
 have hB5:B5=B3++[some [.val (.int .i64 y.Delay),.val (.int .i64 y.Cost),.val (.int .i64 y.Changes),.val (.list 4 us)]]:=by
  rw [hB5,hB4];exact box_set hn2
 have hJ2:=hJ2.more [some [.val (.int .i64 y.Delay),.val (.int .i64 y.Cost),.val (.int .i64 y.Changes),.val (.list 4 us)]]
 have hB5g:B5[n2]?=some (some [.val (.int .i64 y.Delay),.val (.int .i64 y.Cost),.val (.int .i64 y.Changes),.val (.list 4 us)]):=by rw [hB5];exact box_get hn2
 rw [←hB5] at hJ2
 clear hB4 hB5
 conv=>cbv
 refine hR5 _ ?_
 clear hR5
 refine seq_stop (fun R5 hR5=>?_)
 conv=>cbv
 refine rld_at hA (cs:=[.val (.int .i64 y.Delay),.val (.int .i64 y.Cost),.val (.int .i64 y.Changes),.val (.list 4 us)]) (c:=.val (.list 4 us)) hB5g rfl rfl rfl ?_
 conv=>cbv
 refine hR5 _ ?_
 clear hR5 hB5g hy0
 refine loop_set hA (fun (z:Int × SV × List (Option (List SV)) × List (PV × PV)) s=>{ (s.put (some 27) (.val (.int .i64 z.1))).put (some 2) z.2.1 with bx:=z.2.2.1,ax:=⟨[.ents z.2.2.2 none],s.ax.yk⟩ })
  (fun z=>0≤z.1∧z.1≤y.Uses.length∧CellsInv (uniqC (pre2++cellsU (y.Uses.take z.1.toNat))) z.2.1 z.2.2.1 z.2.2.2) (fun z=>(y.Uses.length - z.1).toNat) (0,arg2,B5,m2) ?_ ?_ ?_
 ·conv=>cbv
  exact wk_sl (by repeat (first | refine leL_same ?_ | refine leL_any ?_ | exact leL_nil))
 ·exact ⟨Int.le_refl _,by omega,by simpa [cellsU] using hJ2⟩
 rintro R6 ⟨k,arg3,B6,m3⟩ ⟨hk0,hk1,hJ3⟩ hR6
 simp only at hk0 hk1 hJ3
 refine seq_stop (fun R5 hR5=>?_)
 conv=>cbv
 refine hR5 _ ?_
 clear hR5
 refine seq_stop (fun R5 hR5=>?_)
 conv=>cbv
 split
 rotate_left
 ·rename_i hc
  have hge:=ltF' hA rfl (lenI hA husl) hc
  rw [List.take_of_length_le (by omega),←hnxt2] at hJ3
  conv=>cbv
  refine hR3 _ ?_
  clear hR2 hR3 hR5 hR6
  conv=>cbv
  refine ⟨hjr,hR4 (A.iAdd j 1,arg3,B6,m3) _ ?_ ⟨by show 0≤A.iAdd j 1;omega,by show A.iAdd j 1≤_;omega,by rw [hjs];exact hJ3⟩ (by show (x.Choices.length - A.iAdd j 1).toNat < _;rw [hjs];omega)⟩
  conv=>cbv
  exact wk_sl (by repeat (first | refine leL_same ?_ | refine leL_any ?_ | exact leL_nil))
 rename_i hc
 have hk:k<y.Uses.length:=ltT' hA rfl (lenI hA husl) hc
 have hks:A.iAdd k 1=k+1:=addI hA _ _
 have hkr:A.inR (A.iAdd k 1):=inR' hA hks (by unfold inI64;omega)
 have hmu:(y.Uses.length - A.iAdd k 1).toNat<(y.Uses.length - k).toNat:=by rw [hks];omega
 obtain ⟨u,hu0⟩:∃u,y.Uses[k.toNat]?=some u:=⟨_,List.getElem?_eq_getElem (show k.toNat<y.Uses.length by omega)⟩
 have hnxt3:uniqC (pre2++cellsU (y.Uses.take (k+1).toNat))=addC (uniqC (pre2++cellsU (y.Uses.take k.toNat))) u.Cell:=by
  rw [show (k+1).toNat=k.toNat+1 by omega,List.take_add_one,hu0,←uniqC_snoc]
  unfold cellsU
  simp
 have hb3:(uniqC (pre2++cellsU (y.Uses.take k.toNat))).length≤1000000:=by
  refine Nat.le_trans (uniqC_len _) (Nat.le_trans ?_ hpre2)
  unfold cellsU
  simp
  omega
 generalize uniqC (pre2++cellsU (y.Uses.take k.toNat))=b at hJ3 hnxt3 hb3
 refine hR5 _ ?_
 clear hR5
 refine seq_stop (fun R5 hR5=>?_)
 refine block_seq (fun R7 hR7=>?_)
 conv=>cbv
 refine idx_Use hA hus hk0 hk (fun u' hu'=>?_)
 obtain rfl:=Option.some.inj (hu0.symm.trans hu')
 clear hu'
 obtain ⟨⟨u1,u2,u3⟩,u4⟩:=u
 conv=>cbv
 refine alc_at hA (z:=[.bool false,.int .i64 0,.int .i64 0,.int .i64 0]) rfl rfl (by decide) (fun n3 B7 hn3 hB7=>?_)
 have hn3:n3=B6.length:=hn3
 have hB7:B7=B6++[some [.val (.bool false),.val (.int .i64 0),.val (.int .i64 0),.val (.int .i64 0)]]:=hB7
 conv=>cbv
 refine rstA_at hA (cs:=[.val (.bool false),.val (.int .i64 0),.val (.int .i64 0),.val (.int .i64 0)]) (by rw [hB7];exact box_get hn3) rfl rfl rfl (Nat.le_refl 4) (fun B8 hB8=>?_)
 have hB8:B8=B6++[some [.val (.bool u1),.val (.int .i64 u2),.val (.int .i64 u3),.val (.int .i64 u4)]]:=by
  rw [hB8,hB7];exact box_set hn3
 have hJ3:=hJ3.more [some [.val (.bool u1),.val (.int .i64 u2),.val (.int .i64 u3),.val (.int .i64 u4)]]
 have hB8g:B8[n3]?=some (some [.val (.bool u1),.val (.int .i64 u2),.val (.int .i64 u3),.val (.int .i64 u4)]):=by rw [hB8];exact box_get hn3
 rw [←hB8] at hJ3
 clear hB7 hB8
 conv=>cbv
 refine hR7 _ ?_
 clear hR7
 obtain ⟨hko,hlo⟩:=hJ3.look ⟨u1,u2,u3⟩
 have hld:∀(K:SV→St→Prop) (st:St),st.bx=B8→K (.val (.agg [.bool u1,.int .i64 u2,.int .i64 u3])) st→A.rld 87 (.box n3 0) st K:=fun K st hst h=>rldA_at hA (cs:=[.val (.bool u1),.val (.int .i64 u2),.val (.int .i64 u3),.val (.int .i64 u4)]) (l:=[.bool u1,.int .i64 u2,.int .i64 u3]) (by rw [hst];exact hB8g) rfl rfl (by show 0+3≤4;omega) h
 have hadd:addC b ⟨u1,u2,u3⟩=if (⟨u1,u2,u3⟩:Cell)∈b then b else b++[⟨u1,u2,u3⟩]:=rfl
 refine seq_stop (fun R7 hR7=>?_)
 conv=>cbv
 refine hld _ _ rfl ?_
 conv=>cbv
 by_cases hmem:(⟨u1,u2,u3⟩:Cell)∈b
 ·rw [decide_eq_true hmem] at hlo
  rw [if_pos hmem] at hadd
  refine ⟨kOk_intro hA hko,look_intro hA (b:=_) hlo rfl ?_⟩
  conv=>cbv
  refine hR7 _ ?_
  clear hR7
  conv=>cbv
  split
  ·rename_i hc
   cases ((show False by have h9:true=false:=notT hA hc;cases h9))
  conv=>cbv
  refine hR5 _ ?_
  conv=>cbv
  refine ⟨hkr,hR6 (A.iAdd k 1,arg3,B8,m3) _ ?_ ⟨by show 0≤A.iAdd k 1;omega,by show A.iAdd k 1≤_;omega,by rw [hks,hnxt3,hadd];exact hJ3⟩ hmu⟩
  conv=>cbv
  exact wk_sl (by repeat (first | refine leL_same ?_ | refine leL_any ?_ | exact leL_nil))
 ·rw [decide_eq_false hmem] at hlo
  rw [if_neg hmem] at hadd
  refine ⟨kOk_intro hA hko,look_intro hA (b:=_) hlo rfl ?_⟩
  conv=>cbv
  refine hR7 _ ?_
  clear hR7
  have hput:=fun {jj cap id n:Nat} {rs:List (Option (List SV))} (h1:RowS pvC 3 (b++[⟨u1,u2,u3⟩]) rs jj cap) (h2:id=0+jj) (h3:n=b.length+1)=>hJ3.put ⟨u1,u2,u3⟩ h1 h2 h3
  have hep:A.ePut m3 (encCell ⟨u1,u2,u3⟩) (.bool true)=putE m3 (encCell ⟨u1,u2,u3⟩) (.bool true):=by subst hA;rfl
  rw [←hep] at hput
  conv=>cbv
  split
  rotate_left
  ·rename_i hc
   cases ((show False by have h9:false=true:=notF hA hc;cases h9))
  conv=>cbv
  refine hld _ _ rfl ?_
  conv=>cbv
  refine ⟨⟨kOk_intro hA hko,trivial⟩,?_⟩
  conv=>cbv
  refine hld _ _ rfl ?_
  conv=>cbv
  refine appM hA (pv:=pvC) (m:=3) (ts:=104) (e:=87) rfl rfl rfl (by decide) (by decide) (fun _=>rfl) (bx0:=[]) (k0:=0) rfl hJ3.arg (by omega) ⟨u1,u2,u3⟩ _ _ _ _ (fun jj cap rs' hrow=>?_)
  obtain ⟨id,hid⟩:∃id,id=0+jj:=⟨_,rfl⟩
  obtain ⟨nn,hnn⟩:∃nn,nn=b.length+1:=⟨_,rfl⟩
  rw [←hid,←hnn]
  have hnew:=hput hrow hid hnn
  conv=>cbv
  refine hR5 _ ?_
  conv=>cbv
  refine ⟨hkr,hR6 (A.iAdd k 1,.row id 0 3 nn cap,rs',A.ePut m3 (encCell ⟨u1,u2,u3⟩) (.bool true)) _ ?_ ⟨by show 0≤A.iAdd k 1;omega,by show A.iAdd k 1≤_;omega,by rw [hks,hnxt3,hadd];exact hnew⟩ hmu⟩
  conv=>cbv
  exact wk_sl (by repeat (first | refine leL_same ?_ | refine leL_any ?_ | exact leL_nil))
end Go.Abs
namespace Go.Abs
open Go.RowKit Go.Proofs
theorem cmp_isNaN60 (n:Int):CallsPV Tryz.prog 161 [.int .i64 n] (.bool false):=by
 refine callsPV_by (clo:=fun _=>false) (rows:=false) env_ok Tryz.func161 rfl (enters_of Tryz.func161 (by kernel_rfl) rfl) (fun A q P Y hr hA hq=>?_)
 conv=>cbv
 rw [←hq]
 have h:A.bNot (A.iEq n n)=false:=by subst hA;simp [stdOps]
 exact congrArg PV.bool h
theorem sl_isNaN (n:Int):CallsPV Tryz.prog 140 [.int .i64 n] (.bool false):=by
 refine callsPV_by (clo:=fun _=>false) (rows:=false) env_ok Tryz.func140 rfl (enters_of Tryz.func140 (by kernel_rfl) rfl) (fun A q P Y hr hA hq=>?_)
 conv=>cbv
 rw [←hq]
 have h:A.bNot (A.iEq n n)=false:=by subst hA;simp [stdOps]
 exact congrArg PV.bool h
theorem cmp_Less (a b:Int):CallsPV Tryz.prog 139 [.int .i64 a,.int .i64 b] (.bool (decide (a<b))):=by
 refine callsPV_by (clo:=fun _=>false) (rows:=false) env_ok Tryz.func139 rfl (enters_of Tryz.func139 (by kernel_rfl) rfl) (fun A q P Y hr hA hq=>?_)
 conv=>cbv
 refine call_intro hA (cmp_isNaN60 a) ?_
 conv=>cbv
 rw [←hq]
 subst hA;rfl
def posS (l:List Int) (t:Int):Int:=((l.countP fun x=>decide (x<t):Nat):Int)
theorem posS_eq {l:List Int} {t:Int} {i:Nat} (hi:i≤l.length) (h1:∀(k:Nat) (x:Int),k<i→l[k]?=some x→x<t) (h2:∀(k:Nat) (x:Int),i≤k→l[k]?=some x→t≤x):posS l t=i:=by
 unfold posS
 have e:l=l.take i++l.drop i:=(List.take_append_drop i l).symm
 have c1:(l.take i).countP (fun x=>decide (x<t))=i:=by
  rw [List.countP_eq_length.2,List.length_take,Nat.min_eq_left hi]
  intro x hx
  obtain ⟨k,hk⟩:=List.mem_iff_getElem?.1 hx
  rw [List.getElem?_take] at hk
  split at hk
  ·exact decide_eq_true (h1 k x (by assumption) hk)
  ·cases hk
 have c2:(l.drop i).countP (fun x=>decide (x<t))=0:=by
  rw [List.countP_eq_zero]
  intro x hx
  obtain ⟨k,hk⟩:=List.mem_iff_getElem?.1 hx
  rw [List.getElem?_drop] at hk
  have:=h2 (i+k) x (by omega) hk
  simp;omega
 conv=>lhs;rw [e]
 rw [List.countP_append,c1,c2];rfl
theorem sorted_get {l:List Int} (h:l.Pairwise (· < ·)) {a b:Nat} {x y:Int} (ha:l[a]?=some x) (hb:l[b]?=some y) (hab:a≤b):x≤y:=by
 rcases Nat.eq_or_lt_of_le hab with rfl | hlt
 ·rw [ha] at hb;cases hb;exact Int.le_refl _
 ·have h1:=(List.getElem?_eq_some_iff.1 ha)
  have h2:=(List.getElem?_eq_some_iff.1 hb)
  obtain ⟨ha1,rfl⟩:=h1
  obtain ⟨hb1,rfl⟩:=h2
  exact Int.le_of_lt (List.pairwise_iff_getElem.1 h a b ha1 hb1 hlt)
set_option maxRecDepth 20000 in
set_option maxHeartbeats 2000000 in
theorem binSearch (l:List Int) (t:Int) (hs:l.Pairwise (· < ·)) {xs:List PV} (hx:xs=encInts l) (hl:l.length≤1000000):CallsPV Tryz.prog 69 [.list 1 xs,.int .i64 t] (.tup [.int .i64 (posS l t),.bool (decide (t∈l))]):=by
 refine callsPV_by (clo:=fun _=>false) (rows:=false) env_ok Tryz.func69 rfl (enters_of Tryz.func69 (by kernel_rfl) rfl) (fun A q P Y hr hA hq=>?_)
 have hxl:xs.length=l.length:=by rw [hx];simp [encInts]
 have hll:A.lLen xs=(l.length:Int):=lenI hA hxl
 conv=>cbv
 refine loop_set hA (fun (z:Int × Int) s=>(s.put (some 7) (.val (.int .i64 z.1))).put (some 8) (.val (.int .i64 z.2)))
  (fun z=>0≤z.1∧z.1≤z.2∧z.2≤l.length∧(∀(k:Nat) (x:Int),(k:Int)<z.1→l[k]?=some x→x<t)∧(∀(k:Nat) (x:Int),z.2≤k→l[k]?=some x→t≤x)) (fun z=>(z.2 - z.1).toNat) (0,A.lLen xs) ?_ ?_ ?_
 ·conv=>cbv
  exact wk_sl (by repeat (first | refine leL_same ?_ | refine leL_any ?_ | exact leL_nil))
 ·refine ⟨Int.le_refl _,by rw [hll];omega,by rw [hll];exact Int.le_refl _,fun k x hk=>by omega,fun k x hk hx2=>?_⟩
  have:=(List.getElem?_eq_some_iff.1 hx2).1
  rw [hll] at hk
  omega
 rintro R ⟨i,j⟩ ⟨h0,h1,h2,hlo,hhi⟩ hR
 simp only at h0 h1 h2 hlo hhi
 conv=>cbv
 split
 ·rename_i hc
  have hij:i<j:=ltT hA hc
  have had:A.iAdd i j=i+j:=addI hA _ _
  have hw1:A.wrap .u64 (A.iAdd i j)=i+j:=by
   rw [had];subst hA
   obtain ⟨k,hk⟩:∃k:Nat,i+j=k:=⟨(i+j).toNat,by omega⟩
   rw [hk]
   exact u64_wrap (Nat.lt_of_le_of_lt (show k≤2000000 by omega) (by decide))
  obtain ⟨h,hh⟩:∃h,h=A.wrap .i64 (A.wShr (A.wrap .u64 (A.iAdd i j)) 1):=⟨_,rfl⟩
  have hh2:h=(i+j) / 2:=by
   rw [hh,hw1];subst hA
   show IntKind.i64.wrap ((i+j).fdiv (2 ^ (1:Int).toNat))=_
   rw [show ((2:Int) ^ (1:Int).toNat)=2 from rfl,Int.fdiv_eq_ediv_of_nonneg _ (by omega)]
   exact wrap_in (by unfold inI64;omega)
  obtain ⟨x,hx0⟩:∃x,l[h.toNat]?=some x:=⟨_,List.getElem?_eq_getElem (show h.toNat<l.length by omega)⟩
  have hls:=cmp_Less x t
  obtain ⟨b,hb⟩:∃b,b=decide (x<t):=⟨_,rfl⟩
  rw [←hb] at hls
  conv=>cbv
  refine ⟨inR' hA had (by unfold inI64;omega),?_⟩
  conv=>cbv
  refine ⟨by subst hA;exact ⟨by decide,by decide⟩,idx_Int hA hx (n:=A.wrap .i64 (A.wShr (A.wrap .u64 (A.iAdd i j)) 1)) (by rw [←hh];omega) (by rw [←hh];omega) (fun y hy=>?_)⟩
  rw [←hh] at hy
  rw [hx0] at hy
  obtain rfl:=Option.some.inj hy
  conv=>cbv
  refine call_intro hA (hls) ?_
  conv=>cbv
  have hH:A.iAdd (A.wrap .i64 (A.wShr (A.wrap .u64 (A.iAdd i j)) 1)) 1=h+1:=by rw [←hh];exact addI hA _ _
  cases b with
  | true =>
   have hxt:x<t:=of_decide_eq_true hb.symm
   conv=>cbv
   refine ⟨inR' hA hH (by unfold inI64;omega),hR (A.iAdd (A.wrap .i64 (A.wShr (A.wrap .u64 (A.iAdd i j)) 1)) 1,j) _ (by (conv=>cbv);exact wk_sl (by repeat (first | refine leL_same ?_ | refine leL_any ?_ | exact leL_nil))) ?_ ?_⟩
   ·rw [hH]
    exact ⟨by omega,by omega,h2,fun k y hk hy=>Int.lt_of_le_of_lt (sorted_get hs hy hx0 (by omega)) hxt,hhi⟩
   ·rw [hH];omega
  | false =>
   have hxt:t≤x:=Int.not_lt.1 (of_decide_eq_false hb.symm)
   conv=>cbv
   refine hR (i,A.wrap .i64 (A.wShr (A.wrap .u64 (A.iAdd i j)) 1)) _ (by (conv=>cbv);exact wk_sl (by repeat (first | refine leL_same ?_ | refine leL_any ?_ | exact leL_nil))) ?_ ?_
   ·rw [←hh]
    exact ⟨h0,by omega,by omega,hlo,fun k y hk hy=>Int.le_trans hxt (sorted_get hs hx0 hy (by omega))⟩
   ·rw [←hh];omega
 rename_i hc
 have hij:i=j:=by have:=ltF hA hc;omega
 subst hij
 clear hR
 obtain ⟨n,rfl⟩:∃n:Nat,i=n:=⟨i.toNat,by omega⟩
 have hpos:posS l t=n:=posS_eq (by omega) (fun k x hk=>hlo k x (by omega)) (fun k x hk=>hhi k x (by omega))
 rw [hpos] at hq
 have hll2:A.lLen xs=(l.length:Int):=hll
 obtain ⟨b,hb⟩:∃b,b=decide (t∈l):=⟨_,rfl⟩
 rw [←hb] at hq
 conv=>cbv
 split
 ·rename_i hc2
  have hnl:n<l.length:=Int.ofNat_lt.1 (ltT' hA rfl (lenI hA hxl) hc2)
  obtain ⟨x,hx0⟩:∃x,l[n]?=some x:=⟨_,List.getElem?_eq_getElem hnl⟩
  have htx:t≤x:=hhi n x (by omega) hx0
  conv=>cbv
  refine idx_Int hA hx (Int.natCast_nonneg n) (Int.ofNat_lt.2 hnl) (fun y hy=>?_)
  obtain rfl:=Option.some.inj (hx0.symm.trans hy)
  conv=>cbv
  split
  ·rename_i hc3
   have hxe:x=t:=eqT hA hc3
   conv=>cbv
   rw [hb,decide_eq_true (show t∈l from hxe▸List.mem_of_getElem? hx0)] at hq
   exact hq
  ·rename_i hc3
   have hxe:x≠t:=eqF hA hc3
   have hbf:b=false:=by
    rw [hb]
    refine decide_eq_false (fun hm=>?_)
    obtain ⟨k,hk⟩:=List.mem_iff_getElem?.1 hm
    rcases Nat.lt_trichotomy k n with h3 | h3 | h3
    ·exact Int.lt_irrefl _ (hlo k t (by omega) hk)
    ·rw [h3,hx0] at hk
     exact hxe (Option.some.inj hk)
    ·have:=sorted_get hs hx0 hk (by omega)
     omega
   subst hbf
   conv=>cbv
   refine idx_Int hA hx (Int.natCast_nonneg n) (Int.ofNat_lt.2 hnl) (fun y hy=>?_)
   conv=>cbv
   refine call_intro hA (sl_isNaN y) ?_
   conv=>cbv
   exact hq
 ·rename_i hc2
  have hnl:l.length≤n:=Int.ofNat_le.1 (ltF' hA rfl (lenI hA hxl) hc2)
  have hbf:b=false:=by
   rw [hb]
   refine decide_eq_false (fun hm=>?_)
   obtain ⟨k,hk⟩:=List.mem_iff_getElem?.1 hm
   have h3:=(List.getElem?_eq_some_iff.1 hk).1
   exact Int.lt_irrefl _ (hlo k t (by omega) hk)
  subst hbf
  conv=>cbv
  exact hq
end Go.Abs
