/- Contracts of the functions, and what they rest on: part 7. -/
import Derived.Test.YtcafjndjnfdnpaaGreatU6
set_option linter.unusedVariables false
set_option linter.unusedSimpArgs false
namespace Go.Abs
open Go.RowKit Go.Proofs
theorem timesFrom_drop (l:List Int) (i:Nat) (h:i<l.length) (p:Int):timesFrom p (l.drop i)=(decide (0≤l[i])&&decide (l[i]≤65535)&&decide (p<l[i])&&timesFrom l[i] (l.drop (i+1))):=by
 rw [List.drop_eq_getElem_cons h,timesFrom]
def prevT (l:List Int) (i:Int):Int:=if i=0 then -1 else l.getD (i - 1).toNat 0
set_option maxHeartbeats 1000000 in
theorem occ_check (t:Tables) (hair:airOk t=true) (p:Path):CallsPV Tryz.prog 60 [encTables t,encPath p] (.int .i64 (if pathOk t.Ways p then 0 else 160)):=by
 refine callsPV_by (clo:=fun _=>false) (rows:=false) env_ok Tryz.func60 rfl (enters_of Tryz.func60 (by kernel_rfl) rfl) (fun A q P Y hr hA hq=>?_)
 have bad:∀b,pathOk t.Ways p=b→b=false→PV.int .i64 160=q:=by
  intro b hb hbf
  subst hbf
  rw [←hq,hb];rfl
 have hlenT:p.Times.length≤9223372036854775807:=by
  have h1:=Real.cell (show Real [.agg _] from hr.mem (p:=encPath p) (by simp)) (c:=.list 1 (encInts p.Times)) (by simp)
  simpa [encInts] using h1.len
 obtain ⟨ss,hss⟩:∃ss,ss=encSectors t.Sectors:=⟨_,rfl⟩
 obtain ⟨cs,hcs⟩:∃cs,cs=encConfigs t.Configs:=⟨_,rfl⟩
 obtain ⟨ws,hws⟩:∃ws,ws=encWays t.Ways:=⟨_,rfl⟩
 obtain ⟨ms,hms⟩:∃ms,ms=encIntLs t.Modes:=⟨_,rfl⟩
 obtain ⟨ks,hks⟩:∃ks,ks=encKinds t.Kinds:=⟨_,rfl⟩
 obtain ⟨ts,hts⟩:∃ts,ts=encInts p.Times:=⟨_,rfl⟩
 have hwl:ws.length=t.Ways.length:=by rw [hws];simp [encWays]
 have htl:ts.length=p.Times.length:=by rw [hts];simp [encInts]
 rw [encTables_eq t hss hcs hws hms hks,encPath_eq p hts]
 obtain ⟨way,T⟩:=p
 simp only at bad hts htl hlenT hq ⊢
 obtain ⟨nv,hnv⟩:∃nv,nv=t.Volumes:=⟨_,rfl⟩
 rw [←hnv]
 conv=>cbv
 refine ⟨draw_intro hA (by kernel_rfl),?_⟩
 split
 ·rename_i h
  have h1:way<0:=by subst hA;simpa [stdOps] using h
  conv=>cbv
  exact bad _ rfl (by unfold pathOk;simp only;rw [if_neg (by omega)])
 rename_i h
 have h1:0≤way:=by subst hA;have t:=h;simp [stdOps] at t;omega
 conv=>cbv
 split
 ·rename_i h
  have h2:t.Ways.length≤way:=by subst hA;have t:=h;simp [stdOps] at t;omega
  conv=>cbv
  exact bad _ rfl (by unfold pathOk;simp only;rw [if_pos h1,List.getElem?_eq_none (by omega)])
 rename_i h
 have h2:way<t.Ways.length:=by subst hA;have t:=h;simp [stdOps] at t;omega
 conv=>cbv
 refine idx_Way hA hws h1 h2 (fun w v hw hv=>?_)
 have hvl:v.length=w.Legs.length:=by rw [hv];simp [encLegs]
 have hP:pathOk t.Ways ⟨way,T⟩=(decide (T.length=w.Legs.length+1)&&timesFrom (-1) T):=by
  unfold pathOk;simp only;rw [if_pos h1,hw]
 obtain ⟨w1,w2,w3⟩:=w
 have hw8:=air_legs hair (List.mem_of_getElem? hw)
 simp only at hvl hP hw8
 have hv8:A.lLen v=w3.length:=by subst hA;show (v.length:Int)=_;rw [hvl]
 have htT:A.lLen ts=T.length:=by subst hA;show (ts.length:Int)=_;rw [htl]
 have hadd:A.iAdd (A.lLen v) 1=w3.length+1:=by rw [hv8];subst hA;rfl
 conv=>cbv
 refine ⟨by subst hA;show inI64 (v.length+1);unfold inI64;omega,?_⟩
 split
 ·rename_i h
  have h3:¬T.length=w3.length+1:=by
   have h':A.bNot (A.iEq (A.lLen ts) (A.iAdd (A.lLen v) 1))=true:=h
   rw [htT,hadd] at h'
   subst hA;simp [stdOps] at h';omega
  conv=>cbv
  exact bad _ rfl (by rw [hP];simp [h3])
 rename_i h
 have h3:T.length=w3.length+1:=by
  have h':A.bNot (A.iEq (A.lLen ts) (A.iAdd (A.lLen v) 1))=false:=h
  rw [htT,hadd] at h'
  subst hA;simp [stdOps] at h';omega
 rw [show (decide (T.length=w3.length+1)&&timesFrom (-1) T)=timesFrom (-1) T by simp [h3]] at hP
 rw [hP] at hq bad
 conv=>cbv
 refine loop_set hA (fun (i:Int) s=>s.put (some 36) (.val (.int .i64 i))) (fun i=>0≤i∧i≤T.length∧timesFrom (-1) T=timesFrom (prevT T i) (T.drop i.toNat)) (fun i=>(T.length - i).toNat) 0 ?_ ?_ ?_
 ·conv=>cbv
  exact wk_sl (by simp [leL,leS])
 ·exact ⟨Int.le_refl _,by omega,by simp [prevT]⟩
 ·rintro R i ⟨hi0,hi1,hi2⟩ hR
  conv=>cbv
  split
  ·rename_i hc
   have hc':i<T.length:=by
    have h':A.iLt i (A.lLen ts)=true:=hc
    rw [htT] at h';subst hA;simpa [stdOps] using h'
   have hn:i.toNat<T.length:=by omega
   rw [timesFrom_drop T i.toNat hn] at hi2
   conv=>cbv
   refine idx_Int hA hts hi0 hc' (fun x hx=>?_)
   have hxv:T[i.toNat]=x:=(List.getElem?_eq_some_iff.1 hx).2
   rw [hxv] at hi2
   have step:0≤x→x≤65535→prevT T i<x→(0≤A.iAdd i 1∧A.iAdd i 1≤T.length∧timesFrom (-1) T=timesFrom (prevT T (A.iAdd i 1)) (T.drop (A.iAdd i 1).toNat))∧(T.length - A.iAdd i 1).toNat<(T.length - i).toNat:=by
    intro a1 a2 a3
    have e:A.iAdd i 1=i+1:=by subst hA;rfl
    rw [e]
    refine ⟨⟨by omega,by omega,?_⟩,by omega⟩
    rw [hi2,show (i+1).toNat=i.toNat+1 by omega]
    simp only [a1,a2,a3,decide_true,Bool.true_and]
    congr 1
    unfold prevT
    rw [if_neg (by omega),show (i+1 - 1)=i by omega,List.getD_eq_getElem?_getD,hx];rfl
   have hinr:A.inR (A.iAdd i 1):=by subst hA;show inI64 (i+1);unfold inI64;omega
   conv=>cbv
   split
   ·rename_i c1
    have d1:x<0:=by subst hA;simpa [stdOps] using c1
    conv=>cbv
    exact bad _ rfl (by rw [hi2];simp;omega)
   rename_i c1
   have d1:0≤x:=by subst hA;have t:=c1;simp [stdOps] at t;omega
   conv=>cbv
   split
   ·rename_i c2
    have d2:65535<x:=by subst hA;simpa [stdOps] using c2
    conv=>cbv
    exact bad _ rfl (by rw [hi2];simp;omega)
   rename_i c2
   have d2:x≤65535:=by subst hA;have t:=c2;simp [stdOps] at t;omega
   conv=>cbv
   split
   ·rename_i c3
    have d3:0<i:=by subst hA;simpa [stdOps] using c3
    conv=>cbv
    refine ⟨by subst hA;show inI64 (i - 1);unfold inI64;omega,?_⟩
    refine idx_Int hA hts (n:=A.iSub i 1) (by subst hA;show 0≤i - 1;omega) (by subst hA;show i - 1<T.length;omega) (fun y hy=>?_)
    have hpy:prevT T i=y:=by
     have hy':T[(i - 1).toNat]?=some y:=by subst hA;exact hy
     unfold prevT;rw [if_neg (by omega),List.getD_eq_getElem?_getD,hy'];rfl
    conv=>cbv
    split
    ·rename_i c4
     have d4:x≤y:=by subst hA;simpa [stdOps] using c4
     conv=>cbv
     exact bad _ rfl (by rw [hi2,hpy];simp;omega)
    rename_i c4
    have d4:y<x:=by subst hA;have t:=c4;simp [stdOps] at t;omega
    have s12:=step d1 d2 (by omega)
    conv=>cbv
    exact ⟨hinr,hR (A.iAdd i 1) _ (by (conv=>cbv);exact wk_sl (by simp [leL,leS])) s12.1 s12.2⟩
   ·rename_i c3
    have d3:i=0:=by subst hA;have t:=c3;simp [stdOps] at t;omega
    have hp0:prevT T i=-1:=by unfold prevT;rw [if_pos d3]
    have s12:=step d1 d2 (by omega)
    conv=>cbv
    exact ⟨hinr,hR (A.iAdd i 1) _ (by (conv=>cbv);exact wk_sl (by simp [leL,leS])) s12.1 s12.2⟩
  ·rename_i hc
   have hc':¬i<T.length:=by
    have h':A.iLt i (A.lLen ts)=false:=hc
    rw [htT] at h';subst hA;simp [stdOps] at h';omega
   conv=>cbv
   rw [←hq,hi2,List.drop_eq_nil_of_le (by omega)]
   rfl
end Go.Abs
namespace Go.Abs
open Go.RowKit Go.Proofs
def legRows:List Leg→List Int→List (List PV)
 | x::r,a::b::ts=>[encLeg x,encSpan ⟨a,b⟩]::legRows r (b::ts)
 | _,_=>[]
theorem legRows_get:∀(ls:List Leg) (ts:List Int) (k:Nat) (x:Leg) (a b:Int),ls[k]?=some x→ts[k]?=some a→ts[k+1]?=some b→(legRows ls ts)[k]?=some [encLeg x,encSpan ⟨a,b⟩]
 | [],_,k,x,a,b,h,_,_=>by simp at h
 | _::_,[],k,x,a,b,_,h,_=>by simp at h
 | _::_,[_],k,x,a,b,_,_,h=>by simp at h
 | y::r,u::v::ts,0,x,a,b,h1,h2,h3=>by simp at h1 h2 h3;subst h1 h2 h3;rfl
 | y::r,u::v::ts,k+1,x,a,b,h1,h2,h3=>by
  simp only [legRows,List.getElem?_cons_succ] at h1 h2 h3 ⊢
  exact legRows_get r (v::ts) k x a b h1 h2 h3
theorem legRows_len:∀(ls:List Leg) (ts:List Int),ts.length=ls.length+1→(legRows ls ts).length=ls.length
 | [],_,_=>by simp [legRows]
 | _::_,[],h=>by simp at h
 | _::_,[_],h=>by simp at h
 | y::r,u::v::ts,h=>by simp only [legRows,List.length_cons];rw [legRows_len r (v::ts) (by simpa using h)]
theorem occ_legs1 (t:Tables) (p:Path) (w:Way) (h0:0≤p.Way) (hw:t.Ways[p.Way.toNat]?=some w) (hl:p.Times.length=w.Legs.length+1) (h8:w.Legs.length≤8) {ss cs ws ms ks ts:List PV} (hws:ws=encWays t.Ways) (hts:ts=encInts p.Times) :
  SeqPV Tryz.prog 163 [.ptr [.int .i64 t.Volumes,.list 5 ss,.list 3 cs,.list 3 ws,.list 1 ms,.list 6 ks] 0,.ptr [.int .i64 p.Way,.list 1 ts] 0] (legRows w.Legs p.Times):=by
 refine seqPV_by (clo:=fun n=>n == 1000003 || n == 3000314) (rows:=false) env_ok Tryz.func163 rfl (enters_of Tryz.func163 (by kernel_rfl) rfl) rfl (fun A P Y Y' y R hr hys hy hA hR=>?_)
 have hT:A.bNot true=false:=by subst hA;rfl
 have hF:A.bNot false=true:=by subst hA;rfl
 have hlt:=(List.getElem?_eq_some_iff.1 hw).1
 obtain ⟨nv,hnv⟩:∃nv,nv=t.Volumes:=⟨_,rfl⟩
 rw [←hnv]
 obtain ⟨way,T⟩:=p
 obtain ⟨w1,w2,ls⟩:=w
 simp only at h0 hw hl h8 hts hys hR hlt ⊢
 rw [legRows_len ls T hl] at hR
 have hyl:Y.ys.length=ls.length:=by rw [hys];exact legRows_len ls T hl
 conv=>cbv
 refine idx_Way hA hws h0 (by omega) (fun w v hw' hv=>?_)
 rw [hw] at hw'
 simp only [Option.some.injEq] at hw'
 subst hw'
 simp only at hv
 have hvl:A.lLen v=ls.length:=by subst hA;show (v.length:Int)=_;rw [hv];simp [encLegs]
 conv=>cbv
 refine loop_set hA (fun (k:Nat) s=>{ s.put (some 14) (.val (.int .i64 k)) with ax:=⟨s.ax.mp,k⟩ }) (fun k=>k≤ls.length) (fun k=>ls.length - k) 0 ?_ ?_ ?_
 ·conv=>cbv
  exact wk_sl (by simp [leL,leS])
 ·exact Nat.zero_le _
 ·intro R2 k hk hR2
  obtain ⟨i,hi⟩:∃i,i=(k:Int):=⟨_,rfl⟩
  rw [←hi]
  conv=>cbv
  split
  ·rename_i hc
   have hc':k<ls.length:=by
    have h':A.iLt i (A.lLen v)=true:=hc
    rw [hvl,hi] at h';subst hA;simpa [stdOps] using h'
   conv=>cbv
   refine idx_Leg hA hv (by omega) (by omega) (fun x u hx hu=>?_)
   have hxk:ls[k]?=some x:=by rw [hi,Int.toNat_natCast] at hx;exact hx
   have hi1:A.iAdd i 1=((k+1:Nat):Int):=by subst hA;show i+1=_;omega
   have hinr:A.inR (A.iAdd i 1):=by rw [hi1];subst hA;show inI64 _;unfold inI64;omega
   have hfin:∀s',Wk (0,0) s' _→R2 s':=fun s' hw=>hR2 (k+1) s' hw (by omega) (by omega)
   obtain ⟨x1,x2,x3,x4⟩:=x
   conv=>cbv
   refine ⟨cut_intro hA (by kernel_rfl),?_⟩
   refine idx_Int hA hts (by omega) (by omega) (fun a ha=>?_)
   conv=>cbv
   refine ⟨hinr,?_⟩
   refine idx_Int hA hts (n:=A.iAdd i 1) (by omega) (by omega) (fun b hb=>?_)
   have hget:Y.ys[k]?=some [encLeg ⟨x1,x2,x3,x4⟩,encSpan ⟨a,b⟩]:=by
    rw [hys]
    refine legRows_get ls T k _ a b hxk ?_ ?_
    ·rw [hi,Int.toNat_natCast] at ha;exact ha
    ·rw [hi1,Int.toNat_natCast] at hb;exact hb
   have hgu:Y.ys[k]?=some [.agg [.int .i64 x1,.int .i64 x2,.int .i64 x3,.list 2 u],.agg [.int .i64 a,.int .i64 b]]:=by rw [hget,hu];rfl
   conv=>cbv
   refine yld_intro' hA rfl hy hgu ?_ (fun n hn=>?_)
   ·conv=>cbv
    split
    ·rename_i c3
     have hf:False:=absurd (show A.bNot true=true from c3) (by rw [hT];simp);cases hf
    ·conv=>cbv
     refine ⟨hinr,hfin _ ?_⟩
     rw [←hi1]
     (conv=>cbv)
     exact wk_round (bx:=[]) (bx':=[_]) (mp:=[]) (mp':=[]) (by simp [leL,leS]) (by simp) (by simp) rfl rfl
   ·conv=>cbv
    split
    ·conv=>cbv
     exact hR _ (.inr (by rw [hn,hyl]))
    ·rename_i c3
     have hf:False:=absurd (show A.bNot false=false from c3) (by rw [hF];simp);cases hf
  ·rename_i hc
   have hc':k=ls.length:=by
    have h':A.iLt i (A.lLen v)=false:=hc
    rw [hvl,hi] at h';subst hA;simp [stdOps] at h';omega
   conv=>cbv
   exact hR _ (.inl hc')
theorem legRows_stay:∀(ls:List Leg) (ts:List Int) (k:Nat) (x:List PV),(legRows ls ts)[k]?=some x→∃(lg:Leg) (a b:Int),x=[encLeg lg,encSpan ⟨a,b⟩]∧(legStays ls ts)[k]?=some ⟨false,lg.Volume,⟨a,b⟩⟩
 | [],_,k,x,h=>by simp [legRows] at h
 | _::_,[],k,x,h=>by simp [legRows] at h
 | _::_,[_],k,x,h=>by simp [legRows] at h
 | y::r,u::v::ts,0,x,h=>by simp [legRows] at h;exact ⟨y,u,v,h.symm,rfl⟩
 | y::r,u::v::ts,k+1,x,h=>by
  simp only [legRows,legStays,List.getElem?_cons_succ] at h ⊢
  exact legRows_stay r (v::ts) k x h
theorem legStays_len:∀(ls:List Leg) (ts:List Int),(legStays ls ts).length=(legRows ls ts).length
 | [],_=>by simp [legRows,legStays]
 | _::_,[]=>by simp [legRows,legStays]
 | _::_,[_]=>by simp [legRows,legStays]
 | y::r,u::v::ts=>by simp only [legRows,legStays,List.length_cons];rw [legStays_len r (v::ts)]
theorem occ_legs (nv way:Int) (ss cs ws ms ks ts:List PV):CallsPV Tryz.prog 94 [.agg [.int .i64 nv,.list 5 ss,.list 3 cs,.list 3 ws,.list 1 ms,.list 6 ks],.agg [.int .i64 way,.list 1 ts]]
  (.fn 163 [.ptr [.int .i64 nv,.list 5 ss,.list 3 cs,.list 3 ws,.list 1 ms,.list 6 ks] 0,.ptr [.int .i64 way,.list 1 ts] 0]):=by
 refine callsPV_by (clo:=fun _=>false) (rows:=false) env_ok Tryz.func94 rfl (enters_of Tryz.func94 (by kernel_rfl) rfl) (fun A q P Y hr hA hq=>?_)
 conv=>cbv
 rw [←hq]
theorem occ_stays1 (a m:Int) (hm:inI64 (m+1)):CallsPV Tryz.prog 135 [.int .i64 a,.int .i64 m] (.agg [.bool true,.int .i64 a,.int .i64 m,.int .i64 (m+1)]):=by
 refine callsPV_by (clo:=fun _=>false) (rows:=false) env_ok Tryz.func135 rfl (enters_of Tryz.func135 (by kernel_rfl) rfl) (fun A q P Y hr hA hq=>?_)
 conv=>cbv
 refine ⟨by subst hA;exact hm,?_⟩
 rw [←hq]
 subst hA
 rfl
theorem occ_stays (t:Tables) (p:Path) (w:Way) (h0:0≤p.Way) (hw:t.Ways[p.Way.toNat]?=some w) (hl:p.Times.length=w.Legs.length+1) (h8:w.Legs.length≤8) (hb:∀m∈p.Times,inI64 (m+1)) :
  CallsPV Tryz.prog 61 [encTables t,encPath p] (.list 4 (encStays (staysOf w p.Times))):=by
 refine callsPV_by (clo:=fun _=>false) (rows:=false) env_ok Tryz.func61 rfl (enters_of Tryz.func61 (by kernel_rfl) rfl) (fun A q P Y hr hA hq=>?_)
 have hlt:=(List.getElem?_eq_some_iff.1 hw).1
 obtain ⟨ss,hss⟩:∃ss,ss=encSectors t.Sectors:=⟨_,rfl⟩
 obtain ⟨cs,hcs⟩:∃cs,cs=encConfigs t.Configs:=⟨_,rfl⟩
 obtain ⟨ws,hws⟩:∃ws,ws=encWays t.Ways:=⟨_,rfl⟩
 obtain ⟨ms,hms⟩:∃ms,ms=encIntLs t.Modes:=⟨_,rfl⟩
 obtain ⟨ks,hks⟩:∃ks,ks=encKinds t.Kinds:=⟨_,rfl⟩
 obtain ⟨ts,hts⟩:∃ts,ts=encInts p.Times:=⟨_,rfl⟩
 have htl:ts.length=p.Times.length:=by rw [hts];simp [encInts]
 have hseq:=occ_legs1 t p w h0 hw hl h8 (ss:=ss) (cs:=cs) (ms:=ms) (ks:=ks) hws hts
 rw [encTables_eq t hss hcs hws hms hks,encPath_eq p hts]
 obtain ⟨way,T⟩:=p
 obtain ⟨w1,w2,ls⟩:=w
 simp only at h0 hw hl h8 hb hts hlt hq htl hseq ⊢
 obtain ⟨nv,hnv⟩:∃nv,nv=t.Volumes:=⟨_,rfl⟩
 rw [←hnv] at hseq ⊢
 have hlen0:A.lLen ts=T.length:=by subst hA;show (ts.length:Int)=_;rw [htl]
 conv=>cbv
 refine idx_Way hA hws h0 (by omega) (fun w v hw' hv=>?_)
 rw [hw] at hw'
 simp only [Option.some.injEq] at hw'
 subst hw'
 simp only at hv
 conv=>cbv
 refine ⟨draw_intro hA (by kernel_rfl),?_⟩
 refine idx_Int hA hts (n:=0) (by omega) (by omega) (fun a ha=>?_)
 have haT:a∈T:=List.mem_of_getElem? ha
 conv=>cbv
 refine call_intro hA (occ_stays1 w1 a (hb a haT)) ?_
 obtain ⟨a1,ha1⟩:∃a1,a1=a+1:=⟨_,rfl⟩
 rw [←ha1]
 conv=>cbv
 refine ⟨by subst hA;show (0+1)*(32+1)≤140737488355328;omega,?_⟩
 refine call_intro hA (occ_legs nv way ss cs ws ms ks ts) ?_
 conv=>cbv
 have hll:=legRows_len ls T hl
 have hsl:=legStays_len ls T
 refine rng_intro hA hseq (fun x hx=>?_) (fun (L:List PV) s=>{ s with bx:=s.bx.set 2 (some [.own 0 4 L]),tk:=[(A.nLen L,85)] })
  (fun k L=>L=encStays (⟨true,w1,⟨a,a1⟩⟩::(legStays ls T).take k)) [.agg [.bool true,.int .i64 w1,.int .i64 a,.int .i64 a1]] (fun _=>rfl) ?_ ?_ ?_ ?_
 ·obtain ⟨k,hk⟩:=List.getElem?_of_mem hx
  obtain ⟨lg,u,v,rfl,_⟩:=legRows_stay ls T k x hk
  rfl
 ·conv=>cbv
  exact Wk.refl _
 ·rfl
 ·intro R k L x hx hL hR
  have hkl:k<(legRows ls T).length:=(List.getElem?_eq_some_iff.1 hx).1
  obtain ⟨lg,u,v,rfl,hst⟩:=legRows_stay ls T k x hx
  have hLl:L.length≤9:=by rw [hL];simp [encStays];omega
  have hnext:A.lApp L [.agg [.bool false,.int .i64 lg.Volume,.int .i64 u,.int .i64 v]]=encStays (⟨true,w1,⟨a,a1⟩⟩::(legStays ls T).take (k+1)):=by
   subst hA hL
   rw [List.take_add_one,hst]
   show encStays _++_=_
   simp [encStays,encStay]
  have htk:A.tkEq (A.nLen L) (A.nLen L):=by subst hA;rfl
  have hroom:A.room (A.nLen (A.lApp L [.agg [.bool false,.int .i64 lg.Volume,.int .i64 u,.int .i64 v]])) 32:=by
   subst hA
   show (L++[_]).length*(32+1)≤140737488355328
   rw [List.length_append,List.length_singleton];omega
  obtain ⟨l1,l2,l3,l4⟩:=lg
  rw [show encLeg ⟨l1,l2,l3,l4⟩=.agg [.int .i64 l1,.int .i64 l2,.int .i64 l3,.list 2 (encSpans l4)] from rfl]
  generalize encSpans l4=u4
  simp only at hnext hroom
  conv=>cbv
  refine ⟨⟨htk,hroom⟩,hR (A.lApp L [.agg [.bool false,.int .i64 l2,.int .i64 u,.int .i64 v]]) _ ?_ hnext⟩
  conv=>cbv
  exact wk_round (bx:=[_,_,_,_]) (bx':=[_,_]) (mp:=[]) (mp':=[]) (by simp [leL,leS]) (by simp) (by simp) rfl rfl
 ·intro L hL
  rw [hll,List.take_of_length_le (by omega)] at hL
  have hLl:L.length≤9:=by rw [hL];simp [encStays];omega
  have hsub:A.iSub (A.lLen ts) 1=ls.length:=by rw [hlen0];subst hA;show (T.length:Int) - 1=_;omega
  conv=>cbv
  refine ⟨draw_intro hA (by kernel_rfl),by (show A.inR (A.iSub (A.lLen ts) 1));rw [hsub];subst hA;show inI64 _;unfold inI64;omega,?_⟩
  refine idx_Int hA hts (n:=A.iSub (A.lLen ts) 1) (by omega) (by omega) (fun z hz=>?_)
  rw [hsub,Int.toNat_natCast] at hz
  have hzT:z∈T:=List.mem_of_getElem? hz
  have hroom:A.room (A.nLen (A.lApp L [.agg [.bool true,.int .i64 w2,.int .i64 z,.int .i64 (z+1)]])) 32:=by
   subst hA
   show (L++[_]).length*(32+1)≤140737488355328
   rw [List.length_append,List.length_singleton];omega
  have hres:A.lApp L [.agg [.bool true,.int .i64 w2,.int .i64 z,.int .i64 (z+1)]]=encStays (staysOf ⟨w1,w2,ls⟩ T):=by
   have hh:T.headD 0=a:=by rw [Int.toNat_zero] at ha;cases T with
    | nil=>simp at ha
    | cons x r=>simp at ha;exact ha
   have hg:T.getLastD 0=z:=by
    rw [List.getLastD_eq_getLast?,List.getLast?_eq_getElem?,show T.length - 1=ls.length by omega,hz];rfl
   unfold staysOf
   rw [hh,hg,←ha1]
   subst hA hL
   show encStays _++_=_
   simp [encStays,encStay]
  have htk:A.tkEq (A.nLen L) (A.nLen L):=by subst hA;rfl
  conv=>cbv
  refine call_intro hA (occ_stays1 w2 z (hb z hzT)) ?_
  obtain ⟨z1,hz1⟩:∃z1,z1=z+1:=⟨_,rfl⟩
  rw [←hz1] at hroom hres ⊢
  conv=>cbv
  refine ⟨⟨htk,hroom⟩,?_⟩
  rw [←hq,←hres]
end Go.Abs
namespace Go.Abs
open Go.RowKit Go.Proofs
def staysP (t:Tables) (p:Path):List Stay :=
 match (if 0≤p.Way then t.Ways[p.Way.toNat]? else none) with
 | none=>[]
 | some w=>staysOf w p.Times
def stErr1 (t:Tables) (p:Path):Int:=if airOk t then (if pathOk t.Ways p then 0 else 160) else 140
def stRes1 (t:Tables) (p:Path):PV:=if stErr1 t p=0 then .list 4 (encStays (staysP t p)) else .list 0 []
theorem timesFrom_mem:∀(l:List Int) (p:Int),timesFrom p l=true→∀m∈l,0≤m∧m≤65535
 | [],_,_,m,hm=>by cases hm
 | x::r,p,h,m,hm=>by
  simp only [timesFrom,Bool.and_eq_true,decide_eq_true_eq] at h
  rcases List.mem_cons.1 hm with rfl | hm
  ·omega
  ·exact timesFrom_mem r x h.2 m hm
theorem pathOk_way {t:Tables} {p:Path} (h:pathOk t.Ways p=true):∃w,0≤p.Way∧t.Ways[p.Way.toNat]?=some w∧p.Times.length=w.Legs.length+1∧(∀m∈p.Times,0≤m∧m≤65535)∧staysP t p=staysOf w p.Times:=by
 unfold pathOk at h
 split at h
 ·cases h
 ·rename_i w hw
  split at hw
  ·rename_i h0
   simp only [Bool.and_eq_true,decide_eq_true_eq] at h
   exact ⟨w,h0,hw,h.1,timesFrom_mem _ _ h.2,by unfold staysP;rw [if_pos h0,hw]⟩
  ·cases hw
theorem occ_Stays (t:Tables) (p:Path):CallsPV Tryz.prog 17 [encTables t,encPath p] (.tup [stRes1 t p,.int .i64 (stErr1 t p)]):=by
 refine callsPV_by (clo:=fun _=>false) (rows:=false) env_ok Tryz.func17 rfl (enters_of Tryz.func17 (by kernel_rfl) rfl) (fun A q P Y hr hA hq=>?_)
 have h1:=air_Check t
 have h2:airOk t=true→CallsPV Tryz.prog 60 [encTables t,encPath p] (.int .i64 (if pathOk t.Ways p then 0 else 160)):=fun h=>occ_check t h p
 have h3:airOk t=true→pathOk t.Ways p=true→CallsPV Tryz.prog 61 [encTables t,encPath p] (.list 4 (encStays (staysP t p))):=fun ha h=>by
  obtain ⟨w,a1,a2,a3,a4,a5⟩:=pathOk_way h
  rw [a5]
  exact occ_stays t p w a1 a2 a3 (air_legs ha (List.mem_of_getElem? a2)).1 (fun m hm=>by have:=a4 m hm;unfold inI64;omega)
 have e0:stErr1 t p=if airOk t then (if pathOk t.Ways p then 0 else 160) else 140:=rfl
 have e1:stRes1 t p=if stErr1 t p=0 then .list 4 (encStays (staysP t p)) else .list 0 []:=rfl
 rw [e1,e0] at hq
 generalize encStays (staysP t p)=L at h3 hq
 generalize airOk t=b1 at h1 h2 h3 hq
 generalize pathOk t.Ways p=b2 at h2 h3 hq
 obtain ⟨ss,hss⟩:∃ss,ss=encSectors t.Sectors:=⟨_,rfl⟩
 obtain ⟨cs,hcs⟩:∃cs,cs=encConfigs t.Configs:=⟨_,rfl⟩
 obtain ⟨ws,hws⟩:∃ws,ws=encWays t.Ways:=⟨_,rfl⟩
 obtain ⟨ms,hms⟩:∃ms,ms=encIntLs t.Modes:=⟨_,rfl⟩
 obtain ⟨ks,hks⟩:∃ks,ks=encKinds t.Kinds:=⟨_,rfl⟩
 obtain ⟨ts,hts⟩:∃ts,ts=encInts p.Times:=⟨_,rfl⟩
 rw [encTables_eq t hss hcs hws hms hks] at h1 h2 h3 ⊢
 rw [encPath_eq p hts] at h2 h3 ⊢
 have hne:A.bNot (A.iEq 140 0)=true:=by subst hA;rfl
 have hne2:A.bNot (A.iEq 160 0)=true:=by subst hA;rfl
 have heq:A.bNot (A.iEq 0 0)=false:=by subst hA;rfl
 obtain ⟨nv,hnv⟩:∃nv,nv=t.Volumes:=⟨_,rfl⟩
 obtain ⟨way,hway⟩:∃way,way=p.Way:=⟨_,rfl⟩
 rw [←hnv] at h1 h2 h3 ⊢
 rw [←hway] at h2 h3 ⊢
 conv=>cbv
 cases b1 with
 | false =>
  refine call_intro hA h1 ?_
  conv=>cbv
  split
  ·conv=>cbv
   rw [←hq];rfl
  ·rename_i hc
   have hf:False:=absurd (show A.bNot (A.iEq 140 0)=false from hc) (by rw [hne];simp);cases hf
 | true =>
  refine call_intro hA h1 ?_
  conv=>cbv
  split
  ·rename_i hc
   have hf:False:=absurd (show A.bNot (A.iEq 0 0)=true from hc) (by rw [heq];simp);cases hf
  conv=>cbv
  cases b2 with
  | false =>
   refine call_intro hA (h2 rfl) ?_
   conv=>cbv
   split
   ·conv=>cbv
    rw [←hq];rfl
   ·rename_i hc
    have hf:False:=absurd (show A.bNot (A.iEq 160 0)=false from hc) (by rw [hne2];simp);cases hf
  | true =>
   refine call_intro hA (h2 rfl) ?_
   conv=>cbv
   split
   ·rename_i hc
    have hf:False:=absurd (show A.bNot (A.iEq 0 0)=true from hc) (by rw [heq];simp);cases hf
   conv=>cbv
   refine call_intro hA (h3 rfl rfl) ?_
   conv=>cbv
   rw [←hq];rfl
def stErr (t:Tables):List Path→Int
 | []=>0
 | p::r=>if stErr1 t p=0 then stErr t r else stErr1 t p
theorem stErr_append (t:Tables):∀(l m:List Path),stErr t l=0→stErr t (l++m)=stErr t m
 | [],m,_=>rfl
 | p::r,m,h=>by
  simp only [stErr,List.cons_append] at h ⊢
  split at h
  ·rename_i h0;rw [if_pos h0];exact stErr_append t r m h
  ·rename_i h0;exact absurd h h0
theorem legStays_le:∀(ls:List Leg) (ts:List Int),(legStays ls ts).length≤ls.length
 | [],_=>by simp [legStays]
 | _::_,[]=>by simp [legStays]
 | _::_,[_]=>by simp [legStays]
 | y::r,u::v::ts=>by simp only [legStays,List.length_cons];have:=legStays_le r (v::ts);omega
theorem staysP_len {t:Tables} {p:Path} (h:stErr1 t p=0):(staysP t p).length≤10:=by
 unfold stErr1 at h
 split at h
 ·rename_i ha
  split at h
  ·rename_i hp
   obtain ⟨w,a1,a2,a3,a4,a5⟩:=pathOk_way hp
   rw [a5]
   have:=(air_legs ha (List.mem_of_getElem? a2)).1
   have:=legStays_le w.Legs p.Times
   simp [staysOf];omega
  ·cases h
 ·cases h
end Go.Abs
namespace Go.Abs
open Go.RowKit Go.Proofs
theorem rld_cell {A:Ops} {E:Env} (hA:A=stdOps E) {t:TypeId} {id off i m k:Nat} {st:St} {K:SV→St→Prop} {C:List SV} {c:SV} (hb:st.bx.getD id none=some C) (ha:(E.T t).agg=false) (hs:(E.T t).size=1) (hc:C[off+i*m+k]?=some c) (hk:K c st) :
  A.rld t (.rbx id off i m k) st K:=by
 refine rld_intro hA ?_
 simp only [SV.norm,opLoad,hb,ha,hs,Bool.false_eq_true,if_false,if_true]
 refine ⟨(List.getElem?_eq_some_iff.1 hc).1,?_⟩
 simp only [List.getD_eq_getElem?_getD,hc,Option.getD_some]
 exact hk
theorem rst_cell {A:Ops} {E:Env} (hA:A=stdOps E) {t:TypeId} {id off i m k:Nat} {st:St} {K:SV→St→Prop} {C C2:List SV} {v:SV} (hb:st.bx.getD id none=some C) (ha:(E.T t).agg=false) (hs:(E.T t).size=1) (hv:v.one=true) (hc:off+i*m+k<C.length)
  (h2:C2=C.set (off+i*m+k) v) (hk:K .undef (st.setBx id (some C2))):A.rst t (.rbx id off i m k) v st K:=by
 refine rst_intro hA ?_
 simp only [SV.norm,opStore,hb,ha,hs,hv,Bool.false_eq_true,if_false,and_self,if_true]
 subst h2
 exact ⟨hc,hk⟩
end Go.Abs
namespace Go.Abs
open Go.RowKit Go.Proofs Go.Shelf
def renIdx:Ren:=⟨fun x=>if x=137 then 188 else if x=217 then 243 else 280,fun x=>if x=3 then 3 else if x=5 then 5 else 9,id⟩
theorem layIdx:Lays.n137 Tryz.prog renIdx where
 mixed:=by kernel_rfl
 f137:=by kernel_rfl
 f217:=by kernel_rfl
 f266:=by kernel_rfl
 t3:=Tryz.underlying3
 a3:=Tryz.isAgg3
 z3:=Tryz.sizeOf3
 v3:=Tryz.zeroValue3
 t5:=Tryz.underlying5
 a5:=Tryz.isAgg5
 z5:=Tryz.sizeOf5
 v5:=Tryz.zeroValue5
 t9:=Tryz.underlying9
 a9:=Tryz.isAgg9
 z9:=Tryz.sizeOf9
 v9:=Tryz.zeroValue9
theorem str_IndexByte (s:ByteArray) (c:Int):CallsPV Tryz.prog 188 [.str s,.int .u8 c] (.int .i64 (Lib.indexByte s.data.toList c.toNat.toUInt8)):=by
 refine ⟨enters_of Tryz.func188 (by kernel_rfl) rfl,fun S w vs hS hv=>?_⟩
 obtain ⟨hl,hv⟩:=hv
 match vs,hl with
 | [v0,v1],_ =>
  have h0:=hv 0 _ v0 rfl rfl
  have h1:=hv 1 _ v1 rfl rfl
  cases h0;cases h1
  have h:Calls Tryz.prog 188 #[.string s,.int .u8 c] w _:=Any.strings_IndexByte layIdx s c w
  refine h.mono ?_
  rintro e w' ⟨rfl,rfl⟩
  exact ⟨_,rfl,Below.refl _ _,.int _ _⟩
def marks:ByteArray:=⟨#[123,125,40,41,59,44,61,35,47,60,33,45,46]⟩
def classI (c:Int):Int :=
 if (97≤c∧c≤122)∨(65≤c∧c≤90) then 2 else if 48≤c∧c≤57 then 3 else if c=95 then 5 else if c=32∨c=9∨c=10∨c=13 then 1 else
  if 0≤Lib.indexByte marks.data.toList c.toNat.toUInt8 then 4 else 0
theorem lex_class (c:Int):CallsPV Tryz.prog 126 [.int .u8 c] (.int .i64 (classI c)):=by
 refine callsPV_by (clo:=fun _=>false) (rows:=false) env_ok Tryz.func126 rfl (enters_of Tryz.func126 (by kernel_rfl) rfl) (fun A q P Y hr hA hq=>?_)
 have hidx:=str_IndexByte marks c
 have hC:classI c=if (97≤c∧c≤122)∨(65≤c∧c≤90) then 2 else if 48≤c∧c≤57 then 3 else if c=95 then 5 else if c=32∨c=9∨c=10∨c=13 then 1 else
  if 0≤Lib.indexByte marks.data.toList c.toNat.toUInt8 then 4 else 0:=rfl
 generalize Lib.indexByte marks.data.toList c.toNat.toUInt8=ix at hidx hC
 generalize classI c=v at hq hC
 have two:((97≤c∧c≤122)∨(65≤c∧c≤90))→PV.int .i64 2=q:=fun h=>by rw [←hq,hC,if_pos h]
 have rest:¬((97≤c∧c≤122)∨(65≤c∧c≤90))→PV.int .i64 (if 48≤c∧c≤57 then 3 else if c=95 then 5 else if c=32∨c=9∨c=10∨c=13 then 1 else if 0≤ix then 4 else 0)=q:=fun h=>by rw [←hq,hC,if_neg h]
 clear hq hC
 have rest2:¬((97≤c∧c≤122)∨(65≤c∧c≤90))→¬(48≤c∧c≤57)→PV.int .i64 (if c=95 then 5 else if c=32∨c=9∨c=10∨c=13 then 1 else if 0≤ix then 4 else 0)=q:=fun h h2=>by rw [←rest h,if_neg h2]
 have rest3:¬((97≤c∧c≤122)∨(65≤c∧c≤90))→¬(48≤c∧c≤57)→c≠95→PV.int .i64 (if c=32∨c=9∨c=10∨c=13 then 1 else if 0≤ix then 4 else 0)=q:=fun h h2 h3=>by rw [←rest2 h h2,if_neg h3]
 have spc:¬((97≤c∧c≤122)∨(65≤c∧c≤90))→¬(48≤c∧c≤57)→c≠95→(c=32∨c=9∨c=10∨c=13)→PV.int .i64 1=q:=fun h h2 h3 h4=>by rw [←rest3 h h2 h3,if_pos h4]
 have rest4:¬((97≤c∧c≤122)∨(65≤c∧c≤90))→¬(48≤c∧c≤57)→c≠95→¬(c=32∨c=9∨c=10∨c=13)→PV.int .i64 (if 0≤ix then 4 else 0)=q:=fun h h2 h3 h4=>by rw [←rest3 h h2 h3,if_neg h4]
 rw [show marks=⟨#[123,125,40,41,59,44,61,35,47,60,33,45,46]⟩ from rfl] at hidx
 conv=>cbv
 split
 ·rename_i h1
  conv=>cbv
  split
  ·rename_i h2
   conv=>cbv
   exact two (.inl ⟨leT hA h1,leT hA h2⟩)
  ·rename_i h2
   conv=>cbv
   split
   ·rename_i h3
    conv=>cbv
    split
    ·rename_i h4
     conv=>cbv
     exact two (.inr ⟨leT hA h3,leT hA h4⟩)
    ·rename_i h4
     have hN:¬((97≤c∧c≤122)∨(65≤c∧c≤90)):=by have:=leF hA h2;have:=leF hA h4;omega
     conv=>cbv
     split
     ·rename_i d1
      conv=>cbv
      split
      ·rename_i d2
       conv=>cbv
       rw [←rest hN,if_pos ⟨leT hA d1,leT hA d2⟩]
      ·rename_i d2
       have hD:¬(48≤c∧c≤57):=by have:=leF hA d2;omega
       conv=>cbv
       split
       ·rename_i d3
        conv=>cbv
        rw [←rest2 hN hD,if_pos (eqT hA d3)]
       ·rename_i d3
        have hU:=eqF hA d3
        conv=>cbv
        split
        ·rename_i d4
         conv=>cbv
         exact spc hN hD hU (.inl (eqT hA d4))
        ·rename_i d4
         conv=>cbv
         split
         ·rename_i d5
          conv=>cbv
          exact spc hN hD hU (.inr (.inl (eqT hA d5)))
         ·rename_i d5
          conv=>cbv
          split
          ·rename_i d6
           conv=>cbv
           exact spc hN hD hU (.inr (.inr (.inl (eqT hA d6))))
          ·rename_i d6
           conv=>cbv
           split
           ·rename_i d7
            conv=>cbv
            exact spc hN hD hU (.inr (.inr (.inr (eqT hA d7))))
           ·rename_i d7
            have hS:¬(c=32∨c=9∨c=10∨c=13):=by have:=eqF hA d4;have:=eqF hA d5;have:=eqF hA d6;have:=eqF hA d7;omega
            conv=>cbv
            refine call_intro hA hidx ?_
            conv=>cbv
            split
            ·rename_i d8
             conv=>cbv
             rw [←rest4 hN hD hU hS,if_pos (leT hA d8)]
            ·rename_i d8
             conv=>cbv
             rw [←rest4 hN hD hU hS,if_neg (by have:=leF hA d8;omega)]
     ·rename_i d1
      have hD:¬(48≤c∧c≤57):=by have:=leF hA d1;omega
      conv=>cbv
      split
      ·rename_i d3
       conv=>cbv
       rw [←rest2 hN hD,if_pos (eqT hA d3)]
      ·rename_i d3
       have hU:=eqF hA d3
       conv=>cbv
       split
       ·rename_i d4
        conv=>cbv
        exact spc hN hD hU (.inl (eqT hA d4))
       ·rename_i d4
        conv=>cbv
        split
        ·rename_i d5
         conv=>cbv
         exact spc hN hD hU (.inr (.inl (eqT hA d5)))
        ·rename_i d5
         conv=>cbv
         split
         ·rename_i d6
          conv=>cbv
          exact spc hN hD hU (.inr (.inr (.inl (eqT hA d6))))
         ·rename_i d6
          conv=>cbv
          split
          ·rename_i d7
           conv=>cbv
           exact spc hN hD hU (.inr (.inr (.inr (eqT hA d7))))
          ·rename_i d7
           have hS:¬(c=32∨c=9∨c=10∨c=13):=by have:=eqF hA d4;have:=eqF hA d5;have:=eqF hA d6;have:=eqF hA d7;omega
           conv=>cbv
           refine call_intro hA hidx ?_
           conv=>cbv
           split
           ·rename_i d8
            conv=>cbv
            rw [←rest4 hN hD hU hS,if_pos (leT hA d8)]
           ·rename_i d8
            conv=>cbv
            rw [←rest4 hN hD hU hS,if_neg (by have:=leF hA d8;omega)]
   ·rename_i h3
    have hN:¬((97≤c∧c≤122)∨(65≤c∧c≤90)):=by have:=leF hA h2;have:=leF hA h3;omega
    conv=>cbv
    split
    ·rename_i d1
     conv=>cbv
     split
     ·rename_i d2
      conv=>cbv
      rw [←rest hN,if_pos ⟨leT hA d1,leT hA d2⟩]
     ·rename_i d2
      have hD:¬(48≤c∧c≤57):=by have:=leF hA d2;omega
      conv=>cbv
      split
      ·rename_i d3
       conv=>cbv
       rw [←rest2 hN hD,if_pos (eqT hA d3)]
      ·rename_i d3
       have hU:=eqF hA d3
       conv=>cbv
       split
       ·rename_i d4
        conv=>cbv
        exact spc hN hD hU (.inl (eqT hA d4))
       ·rename_i d4
        conv=>cbv
        split
        ·rename_i d5
         conv=>cbv
         exact spc hN hD hU (.inr (.inl (eqT hA d5)))
        ·rename_i d5
         conv=>cbv
         split
         ·rename_i d6
          conv=>cbv
          exact spc hN hD hU (.inr (.inr (.inl (eqT hA d6))))
         ·rename_i d6
          conv=>cbv
          split
          ·rename_i d7
           conv=>cbv
           exact spc hN hD hU (.inr (.inr (.inr (eqT hA d7))))
          ·rename_i d7
           have hS:¬(c=32∨c=9∨c=10∨c=13):=by have:=eqF hA d4;have:=eqF hA d5;have:=eqF hA d6;have:=eqF hA d7;omega
           conv=>cbv
           refine call_intro hA hidx ?_
           conv=>cbv
           split
           ·rename_i d8
            conv=>cbv
            rw [←rest4 hN hD hU hS,if_pos (leT hA d8)]
           ·rename_i d8
            conv=>cbv
            rw [←rest4 hN hD hU hS,if_neg (by have:=leF hA d8;omega)]
    ·rename_i d1
     have hD:¬(48≤c∧c≤57):=by have:=leF hA d1;omega
     conv=>cbv
     split
     ·rename_i d3
      conv=>cbv
      rw [←rest2 hN hD,if_pos (eqT hA d3)]
     ·rename_i d3
      have hU:=eqF hA d3
      conv=>cbv
      split
      ·rename_i d4
       conv=>cbv
       exact spc hN hD hU (.inl (eqT hA d4))
      ·rename_i d4
       conv=>cbv
       split
       ·rename_i d5
        conv=>cbv
        exact spc hN hD hU (.inr (.inl (eqT hA d5)))
       ·rename_i d5
        conv=>cbv
        split
        ·rename_i d6
         conv=>cbv
         exact spc hN hD hU (.inr (.inr (.inl (eqT hA d6))))
        ·rename_i d6
         conv=>cbv
         split
         ·rename_i d7
          conv=>cbv
          exact spc hN hD hU (.inr (.inr (.inr (eqT hA d7))))
         ·rename_i d7
          have hS:¬(c=32∨c=9∨c=10∨c=13):=by have:=eqF hA d4;have:=eqF hA d5;have:=eqF hA d6;have:=eqF hA d7;omega
          conv=>cbv
          refine call_intro hA hidx ?_
          conv=>cbv
          split
          ·rename_i d8
           conv=>cbv
           rw [←rest4 hN hD hU hS,if_pos (leT hA d8)]
          ·rename_i d8
           conv=>cbv
           rw [←rest4 hN hD hU hS,if_neg (by have:=leF hA d8;omega)]
 ·rename_i h1
  conv=>cbv
  split
  ·rename_i h3
   conv=>cbv
   split
   ·rename_i h4
    conv=>cbv
    exact two (.inr ⟨leT hA h3,leT hA h4⟩)
   ·rename_i h4
    have hN:¬((97≤c∧c≤122)∨(65≤c∧c≤90)):=by have:=leF hA h1;have:=leF hA h4;omega
    conv=>cbv
    split
    ·rename_i d1
     conv=>cbv
     split
     ·rename_i d2
      conv=>cbv
      rw [←rest hN,if_pos ⟨leT hA d1,leT hA d2⟩]
     ·rename_i d2
      have hD:¬(48≤c∧c≤57):=by have:=leF hA d2;omega
      conv=>cbv
      split
      ·rename_i d3
       conv=>cbv
       rw [←rest2 hN hD,if_pos (eqT hA d3)]
      ·rename_i d3
       have hU:=eqF hA d3
       conv=>cbv
       split
       ·rename_i d4
        conv=>cbv
        exact spc hN hD hU (.inl (eqT hA d4))
       ·rename_i d4
        conv=>cbv
        split
        ·rename_i d5
         conv=>cbv
         exact spc hN hD hU (.inr (.inl (eqT hA d5)))
        ·rename_i d5
         conv=>cbv
         split
         ·rename_i d6
          conv=>cbv
          exact spc hN hD hU (.inr (.inr (.inl (eqT hA d6))))
         ·rename_i d6
          conv=>cbv
          split
          ·rename_i d7
           conv=>cbv
           exact spc hN hD hU (.inr (.inr (.inr (eqT hA d7))))
          ·rename_i d7
           have hS:¬(c=32∨c=9∨c=10∨c=13):=by have:=eqF hA d4;have:=eqF hA d5;have:=eqF hA d6;have:=eqF hA d7;omega
           conv=>cbv
           refine call_intro hA hidx ?_
           conv=>cbv
           split
           ·rename_i d8
            conv=>cbv
            rw [←rest4 hN hD hU hS,if_pos (leT hA d8)]
           ·rename_i d8
            conv=>cbv
            rw [←rest4 hN hD hU hS,if_neg (by have:=leF hA d8;omega)]
    ·rename_i d1
     have hD:¬(48≤c∧c≤57):=by have:=leF hA d1;omega
     conv=>cbv
     split
     ·rename_i d3
      conv=>cbv
      rw [←rest2 hN hD,if_pos (eqT hA d3)]
     ·rename_i d3
      have hU:=eqF hA d3
      conv=>cbv
      split
      ·rename_i d4
       conv=>cbv
       exact spc hN hD hU (.inl (eqT hA d4))
      ·rename_i d4
       conv=>cbv
       split
       ·rename_i d5
        conv=>cbv
        exact spc hN hD hU (.inr (.inl (eqT hA d5)))
       ·rename_i d5
        conv=>cbv
        split
        ·rename_i d6
         conv=>cbv
         exact spc hN hD hU (.inr (.inr (.inl (eqT hA d6))))
        ·rename_i d6
         conv=>cbv
         split
         ·rename_i d7
          conv=>cbv
          exact spc hN hD hU (.inr (.inr (.inr (eqT hA d7))))
         ·rename_i d7
          have hS:¬(c=32∨c=9∨c=10∨c=13):=by have:=eqF hA d4;have:=eqF hA d5;have:=eqF hA d6;have:=eqF hA d7;omega
          conv=>cbv
          refine call_intro hA hidx ?_
          conv=>cbv
          split
          ·rename_i d8
           conv=>cbv
           rw [←rest4 hN hD hU hS,if_pos (leT hA d8)]
          ·rename_i d8
           conv=>cbv
           rw [←rest4 hN hD hU hS,if_neg (by have:=leF hA d8;omega)]
  ·rename_i h3
   have hN:¬((97≤c∧c≤122)∨(65≤c∧c≤90)):=by have:=leF hA h1;have:=leF hA h3;omega
   conv=>cbv
   split
   ·rename_i d1
    conv=>cbv
    split
    ·rename_i d2
     conv=>cbv
     rw [←rest hN,if_pos ⟨leT hA d1,leT hA d2⟩]
    ·rename_i d2
     have hD:¬(48≤c∧c≤57):=by have:=leF hA d2;omega
     conv=>cbv
     split
     ·rename_i d3
      conv=>cbv
      rw [←rest2 hN hD,if_pos (eqT hA d3)]
     ·rename_i d3
      have hU:=eqF hA d3
      conv=>cbv
      split
      ·rename_i d4
       conv=>cbv
       exact spc hN hD hU (.inl (eqT hA d4))
      ·rename_i d4
       conv=>cbv
       split
       ·rename_i d5
        conv=>cbv
        exact spc hN hD hU (.inr (.inl (eqT hA d5)))
       ·rename_i d5
        conv=>cbv
        split
        ·rename_i d6
         conv=>cbv
         exact spc hN hD hU (.inr (.inr (.inl (eqT hA d6))))
        ·rename_i d6
         conv=>cbv
         split
         ·rename_i d7
          conv=>cbv
          exact spc hN hD hU (.inr (.inr (.inr (eqT hA d7))))
         ·rename_i d7
          have hS:¬(c=32∨c=9∨c=10∨c=13):=by have:=eqF hA d4;have:=eqF hA d5;have:=eqF hA d6;have:=eqF hA d7;omega
          conv=>cbv
          refine call_intro hA hidx ?_
          conv=>cbv
          split
          ·rename_i d8
           conv=>cbv
           rw [←rest4 hN hD hU hS,if_pos (leT hA d8)]
          ·rename_i d8
           conv=>cbv
           rw [←rest4 hN hD hU hS,if_neg (by have:=leF hA d8;omega)]
   ·rename_i d1
    have hD:¬(48≤c∧c≤57):=by have:=leF hA d1;omega
    conv=>cbv
    split
    ·rename_i d3
     conv=>cbv
     rw [←rest2 hN hD,if_pos (eqT hA d3)]
    ·rename_i d3
     have hU:=eqF hA d3
     conv=>cbv
     split
     ·rename_i d4
      conv=>cbv
      exact spc hN hD hU (.inl (eqT hA d4))
     ·rename_i d4
      conv=>cbv
      split
      ·rename_i d5
       conv=>cbv
       exact spc hN hD hU (.inr (.inl (eqT hA d5)))
      ·rename_i d5
       conv=>cbv
       split
       ·rename_i d6
        conv=>cbv
        exact spc hN hD hU (.inr (.inr (.inl (eqT hA d6))))
       ·rename_i d6
        conv=>cbv
        split
        ·rename_i d7
         conv=>cbv
         exact spc hN hD hU (.inr (.inr (.inr (eqT hA d7))))
        ·rename_i d7
         have hS:¬(c=32∨c=9∨c=10∨c=13):=by have:=eqF hA d4;have:=eqF hA d5;have:=eqF hA d6;have:=eqF hA d7;omega
         conv=>cbv
         refine call_intro hA hidx ?_
         conv=>cbv
         split
         ·rename_i d8
          conv=>cbv
          rw [←rest4 hN hD hU hS,if_pos (leT hA d8)]
         ·rename_i d8
          conv=>cbv
          rw [←rest4 hN hD hU hS,if_neg (by have:=leF hA d8;omega)]
end Go.Abs
namespace Go.Abs
open Go.RowKit Go.Proofs
def byteAt (s:ByteArray) (i:Nat):Int:=((s.data.toList.getD i 0).toNat:Int)
def okC (c:Int):Bool:=decide (c=2) || decide (c=3) || decide (c=5)
def nameB (s:ByteArray):Bool:=!decide (s.size=0)&&decide ((s.size:Int)≤32)&&decide (classI (byteAt s 0)=2)&&(List.range s.size).all fun i=>okC (classI (byteAt s i))
section
variable {A:Ops} {E:Env}
theorem seqT (hA:A=stdOps E) {a b:ByteArray} (h:A.sEq a b=true):a=b:=by subst hA;simpa [stdOps] using h
theorem seqF (hA:A=stdOps E) {a b:ByteArray} (h:A.sEq a b=false):a≠b:=by subst hA;simpa [stdOps] using h
theorem szI (hA:A=stdOps E) (s:ByteArray):A.sSize s=(s.size:Int):=by subst hA;rfl
theorem byI (hA:A=stdOps E) (s:ByteArray) (n:Int):A.sByte s n=byteAt s n.toNat:=by subst hA;rfl
end
theorem ba_nil {s:ByteArray} (h:s.size=0):s=⟨#[]⟩:=by
 obtain ⟨d⟩:=s
 have h':d.size=0:=h
 rw [Array.size_eq_zero_iff.1 h']
theorem lex_byte {A:Ops} {E:Env} (hA:A=stdOps E) (s:ByteArray) (n:Int):CallsPV Tryz.prog 126 [.int .u8 (A.sByte s n)] (.int .i64 (classI (byteAt s n.toNat))):=by
 rw [byI hA];exact lex_class _
theorem nameB_no {s:ByteArray} {i:Nat} (hi:i<s.size) (h:okC (classI (byteAt s i))=false):nameB s=false:=by
 have:((List.range s.size).all fun i=>okC (classI (byteAt s i)))=false:=by
  rw [List.all_eq_false]
  exact ⟨i,List.mem_range.2 hi,by rw [h];decide⟩
 rw [nameB,this,Bool.and_false]
theorem lex_Name (s:ByteArray):CallsPV Tryz.prog 51 [.str s] (.bool (nameB s)):=by
 refine callsPV_by (clo:=fun _=>false) (rows:=false) env_ok Tryz.func51 rfl (enters_of Tryz.func51 (by kernel_rfl) rfl) (fun A q P Y hr hA hq=>?_)
 conv=>cbv
 split
 ·rename_i h
  conv=>cbv
  rw [←hq,nameB,seqT hA h];rfl
 rename_i h1
 have h1':s.size≠0:=fun e=>seqF hA h1 (ba_nil e)
 conv=>cbv
 split
 ·rename_i h
  have h':=ltT' hA rfl (szI hA s) h
  conv=>cbv
  rw [←hq,nameB,decide_eq_false (p:=(s.size:Int)≤32) (by omega)];simp
 rename_i h2
 have h2':(s.size:Int)≤32:=ltF' hA rfl (szI hA s) h2
 conv=>cbv
 refine ⟨withI hA (szI hA s) (by omega) (by omega),?_⟩
 conv=>cbv
 refine callI hA (lex_byte hA s 0) rfl (fun c hc=>?_)
 conv=>cbv
 split
 ·rename_i h
  have h':classI (byteAt s 0)≠2:=fun e=>neT hA h (hc.trans e)
  conv=>cbv
  rw [←hq,nameB,decide_eq_false (p:=classI (byteAt s 0)=2) h'];simp
 rename_i h3
 have h3':classI (byteAt s 0)=2:=hc.symm.trans (neF hA h3)
 clear hc
 conv=>cbv
 refine loop_set hA (fun (i:Int) s=>s.put (some 20) (.val (.int .i64 i))) (fun i=>0≤i∧i≤(s.size:Int)∧(fun i=>∀k,k<i.toNat→okC (classI (byteAt s k))=true) i) (fun i=>((s.size:Int) - i).toNat) 0 ?_ ?_ ?_
 ·conv=>cbv
  exact wk_sl (by repeat (first | refine leL_same ?_ | refine leL_any ?_ | exact leL_nil))
 ·exact ⟨Int.le_refl _,by omega,by simp⟩
 rintro R i ⟨hi0,hi1,hi2⟩ hRi
 conv=>cbv
 split
 · rename_i hc
   have hi:i<(s.size:Int):=ltT' hA rfl (szI hA s) hc
   have his:A.iAdd i 1=i+1:=addI hA _ _
   have hir:A.inR (A.iAdd i 1):=inR' hA his (by unfold inI64;omega)
   have him:((s.size:Int) - A.iAdd i 1).toNat<((s.size:Int) - i).toNat:=by rw [his];omega
   have hin:(fun i=>∀k,k<i.toNat→okC (classI (byteAt s k))=true) (i+1)→0≤A.iAdd i 1∧A.iAdd i 1≤(s.size:Int)∧(fun i=>∀k,k<i.toNat→okC (classI (byteAt s k))=true) (A.iAdd i 1):=fun h=>by rw [his];exact ⟨by omega,by omega,h⟩
   simp only at hin
   conv=>cbv
   refine ⟨withI hA (szI hA s) hi0 hi,?_⟩
   conv=>cbv
   refine callI hA (lex_byte hA s i) rfl (fun b hb=>?_)
   conv=>cbv
   have good:(b=2∨b=3∨b=5)→∀k,k<(i+1).toNat→okC (classI (byteAt s k))=true:=fun h k hk=>by
    rcases Nat.lt_or_eq_of_le (Nat.le_of_lt_succ (show k<i.toNat+1 by omega)) with h1 | h1
    ·exact hi2 k h1
    ·rw [h1,←hb,okC];rcases h with h | h | h<;>rw [h]<;>rfl
   split
   ·rename_i c1
    conv=>cbv
    split
    ·rename_i c2
     conv=>cbv
     split
     ·rename_i c3
      conv=>cbv
      rw [←hq,nameB_no (i:=i.toNat) (by omega) (by rw [←hb,okC,decide_eq_false (neT hA c1),decide_eq_false (neT hA c2),decide_eq_false (neT hA c3)];rfl)]
     ·rename_i c3
      conv=>cbv
      exact ⟨hir,hRi (A.iAdd i 1) _ (by (conv=>cbv);exact wk_sl (by repeat (first | refine leL_same ?_ | refine leL_any ?_ | exact leL_nil))) (hin (good (.inr (.inr (neF hA c3))))) him⟩
    ·rename_i c2
     conv=>cbv
     exact ⟨hir,hRi (A.iAdd i 1) _ (by (conv=>cbv);exact wk_sl (by repeat (first | refine leL_same ?_ | refine leL_any ?_ | exact leL_nil))) (hin (good (.inr (.inl (neF hA c2))))) him⟩
   ·rename_i c1
    conv=>cbv
    exact ⟨hir,hRi (A.iAdd i 1) _ (by (conv=>cbv);exact wk_sl (by repeat (first | refine leL_same ?_ | refine leL_any ?_ | exact leL_nil))) (hin (good (.inl (neF hA c1)))) him⟩
 rename_i hc
 have hi:i=(s.size:Int):=by have:=ltF' hA rfl (szI hA s) hc;omega
 conv=>cbv
 rw [←hq,nameB,decide_eq_false h1',decide_eq_true h2',decide_eq_true h3']
 have:((List.range s.size).all fun i=>okC (classI (byteAt s i)))=true:=by
  rw [List.all_eq_true]
  intro k hk
  exact hi2 k (by have:=List.mem_range.1 hk;omega)
 rw [this];rfl
end Go.Abs
namespace Go.Abs
open Go.RowKit Go.Proofs Go.Shelf Go.Sort Go.Lib
def renSort:Ren:=⟨fun x=>if x=5 then 128 else if x=7 then 190 else if x=8 then 160 else if x=10 then 244 else if x=11 then 245 else if x=12 then 246 else if x=13 then 247 else if x=14 then 248 else if x=15 then 249 else if x=16 then 139 else if x=17 then 250 else if x=18 then 251 else if x=19 then 226 else if x=20 then 227 else if x=30 then 281 else if x=31 then 272 else if x=32 then 273 else if x=33 then 282 else if x=34 then 283 else if x=35 then 161 else 296,fun x=>if x=0 then 0 else if x=3 then 3 else if x=4 then 4 else if x=5 then 5 else if x=9 then 9 else if x=22 then 29 else if x=23 then 29 else if x=25 then 3 else if x=32 then 36 else if x=35 then 299 else if x=36 then 300 else if x=41 then 88 else if x=44 then 95 else if x=46 then 307 else if x=53 then 342 else if x=57 then 346 else if x=63 then 361 else 362,id⟩
theorem laySort:SlLaysM.n5 Tryz.prog renSort where
 mixed:=by kernel_rfl
 f5:=⟨"slices.Sort[[]int,int]",rfl,by kernel_rfl⟩
 f7:=⟨"slices.pdqsortOrdered[int]",rfl,by kernel_rfl⟩
 f8:=by kernel_rfl
 f10:=⟨"slices.insertionSortOrdered[int]",rfl,by kernel_rfl⟩
 f11:=⟨"slices.heapSortOrdered[int]",rfl,by kernel_rfl⟩
 f12:=⟨"slices.breakPatternsOrdered[int]",rfl,by kernel_rfl⟩
 f13:=⟨"slices.choosePivotOrdered[int]",rfl,by kernel_rfl⟩
 f14:=⟨"slices.reverseRangeOrdered[int]",rfl,by kernel_rfl⟩
 f15:=⟨"slices.partialInsertionSortOrdered[int]",rfl,by kernel_rfl⟩
 f16:=⟨"cmp.Less[int]",rfl,by kernel_rfl⟩
 f17:=⟨"slices.partitionEqualOrdered[int]",rfl,by kernel_rfl⟩
 f18:=⟨"slices.partitionOrdered[int]",rfl,by kernel_rfl⟩
 f19:=by kernel_rfl
 f20:=by kernel_rfl
 f30:=⟨"slices.siftDownOrdered[int]",rfl,by kernel_rfl⟩
 f31:=by kernel_rfl
 f32:=by kernel_rfl
 f33:=⟨"slices.medianAdjacentOrdered[int]",rfl,by kernel_rfl⟩
 f34:=⟨"slices.medianOrdered[int]",rfl,by kernel_rfl⟩
 f35:=⟨"cmp.isNaN[int]",rfl,by kernel_rfl⟩
 f40:=⟨"slices.order2Ordered[int]",rfl,by kernel_rfl⟩
 t0:=Tryz.underlying0
 a0:=Tryz.isAgg0
 z0:=Tryz.sizeOf0
 v0:=Tryz.zeroValue0
 t3:=Tryz.underlying3
 a3:=Tryz.isAgg3
 z3:=Tryz.sizeOf3
 v3:=Tryz.zeroValue3
 t4:=Tryz.underlying4
 a4:=Tryz.isAgg4
 z4:=Tryz.sizeOf4
 v4:=Tryz.zeroValue4
 t5:=Tryz.underlying5
 a5:=Tryz.isAgg5
 z5:=Tryz.sizeOf5
 v5:=Tryz.zeroValue5
 t9:=Tryz.underlying9
 a9:=Tryz.isAgg9
 z9:=Tryz.sizeOf9
 v9:=Tryz.zeroValue9
 t22:=Tryz.underlying29
 a22:=Tryz.isAgg29
 z22:=Tryz.sizeOf29
 v22:=Tryz.zeroValue29
 t23:=Tryz.underlying29
 a23:=Tryz.isAgg29
 z23:=Tryz.sizeOf29
 v23:=Tryz.zeroValue29
 t25:=Tryz.underlying3
 a25:=Tryz.isAgg3
 z25:=Tryz.sizeOf3
 v25:=Tryz.zeroValue3
 t32:=Tryz.underlying36
 a32:=Tryz.isAgg36
 z32:=Tryz.sizeOf36
 v32:=Tryz.zeroValue36
 t35:=Tryz.underlying299
 a35:=Tryz.isAgg299
 z35:=Tryz.sizeOf299
 v35:=Tryz.zeroValue299
 t36:=Tryz.underlying300
 a36:=Tryz.isAgg300
 z36:=Tryz.sizeOf300
 v36:=Tryz.zeroValue300
 t41:=Tryz.underlying88
 a41:=Tryz.isAgg88
 z41:=Tryz.sizeOf88
 v41:=Tryz.zeroValue88
 t44:=Tryz.underlying95
 a44:=Tryz.isAgg95
 z44:=Tryz.sizeOf95
 v44:=Tryz.zeroValue95
 t46:=Tryz.underlying307
 a46:=Tryz.isAgg307
 z46:=Tryz.sizeOf307
 v46:=Tryz.zeroValue307
 t53:=Tryz.underlying342
 a53:=Tryz.isAgg342
 z53:=Tryz.sizeOf342
 v53:=Tryz.zeroValue342
 t57:=Tryz.underlying346
 a57:=Tryz.isAgg346
 z57:=Tryz.sizeOf346
 v57:=Tryz.zeroValue346
 t63:=Tryz.underlying361
 a63:=Tryz.isAgg361
 z63:=Tryz.sizeOf361
 v63:=Tryz.zeroValue361
 t64:=Tryz.underlying362
 a64:=Tryz.isAgg362
 z64:=Tryz.sizeOf362
 v64:=Tryz.zeroValue362
def renCompact:Ren:=⟨fun _=>53,fun x=>if x=0 then 0 else if x=3 then 3 else if x=4 then 4 else 29,id⟩
theorem layCompact:Lays2.n20 Tryz.prog renCompact where
 mixed:=by kernel_rfl
 f20:=by kernel_rfl
 t0:=Tryz.underlying0
 a0:=Tryz.isAgg0
 z0:=Tryz.sizeOf0
 v0:=Tryz.zeroValue0
 t3:=Tryz.underlying3
 a3:=Tryz.isAgg3
 z3:=Tryz.sizeOf3
 v3:=Tryz.zeroValue3
 t4:=Tryz.underlying4
 a4:=Tryz.isAgg4
 z4:=Tryz.sizeOf4
 v4:=Tryz.zeroValue4
 t22:=Tryz.underlying29
 a22:=Tryz.isAgg29
 z22:=Tryz.sizeOf29
 v22:=Tryz.zeroValue29
 i3:=by kernel_rfl
theorem compactUpTo_le {α:Type} [Inhabited α] [DecidableEq α] (d:Array α) (m:Nat):(compactUpTo d m).length≤m:=by
 unfold compactUpTo
 rw [List.length_map]
 exact Nat.le_trans (List.length_filter_le _ _) (by simp)
theorem slices_Sort {rows:Bool} {clo:FuncId→Bool} {Y:YS} {bx:List (Option (List SV))} {tk:List (Nat × TypeId)} {ax:Ax} {id n cap:Nat} {zs:List Int} {rest:List SV} (hc:bx[id]?=some (some ((encInts zs).map SV.val++rest))) (hn:n=zs.length) (hz:zs.length<4611686018427387904) :
  CallsR ⟨Tryz.prog,tab,clo,rows,Y⟩ 128 [.row id 0 1 n cap] bx tk ax fun r bx' tk' ax'=>r=.val (.tup [])∧(∃d,d.length=zs.length∧d=zs.mergeSort (fun x y=>decide (x≤y))∧bx'=bx.set id (some ((encInts d).map SV.val++rest)))∧tk'=tk∧ax'=ax:=by
 subst hn
 refine callsR_rowI (E:=⟨Tryz.prog,tab,clo,rows,Y⟩) (enters_of Tryz.func128 (by kernel_rfl) rfl) hc (.val (.tup [])) (fun _=>.tuple #[]) (fun tk G S w b hb=>RV.tup [] [] rfl (by simp)) (fun d=>d=zs.mergeSort fun x y=>decide (x≤y)) fun w b hH hb hcap hmax=>?_
 have h:=AnyM.slices_Sort_int laySort b 0 cap zs w hH hb hz
 refine Calls.mono (show Calls Tryz.prog 128 _ w _ from h) ?_
 rintro e w' ⟨rfl,k,os,rfl⟩
 exact ⟨rfl,k,os,_,by simp,rfl,rfl⟩
theorem slices_Compact {rows:Bool} {clo:FuncId→Bool} {Y:YS} {bx:List (Option (List SV))} {tk:List (Nat × TypeId)} {ax:Ax} {id n cap:Nat} {zs:List Int} {rest:List SV} (hc:bx[id]?=some (some ((encInts zs).map SV.val++rest))) (hn:n=zs.length) (hz:zs.length<4611686018427387904) (hcap:n≤cap) (hmax:cap≤maxLen) :
  CallsR ⟨Tryz.prog,tab,clo,rows,Y⟩ 53 [.row id 0 1 n cap] bx tk ax fun r bx' tk' ax'=>r=.row id 0 1 (compactUpTo zs.toArray zs.length).length cap∧(∃d,d.length=zs.length∧True∧bx'=bx.set id (some ((encInts d).map SV.val++rest)))∧tk'=tk∧ax'=ax:=by
 subst hn
 have hle:(compactUpTo zs.toArray zs.length).length≤zs.length:=compactUpTo_le _ _
 refine callsR_rowI (E:=⟨Tryz.prog,tab,clo,rows,Y⟩) (enters_of Tryz.func53 (by kernel_rfl) rfl) hc (.row id 0 1 (compactUpTo zs.toArray zs.length).length cap) (fun b=>.slice (some ⟨b,0,none⟩) (compactUpTo zs.toArray zs.length).length cap) (fun tk G S w b hb=>⟨b,hb,rfl,by omega,hmax⟩) (fun d=>True) fun w b hH hb hcap hmax=>?_
 have h:=Any.slices_Compact_int_arr layCompact b 0 cap zs.toArray w hH (by simp;omega) (by simpa using hcap)
 refine Calls.mono (show Calls Tryz.prog 53 _ w _ from h) ?_
 rintro e w' ⟨rfl,k,rfl⟩
 refine ⟨by simp,k,#[],compactUpTo zs.toArray zs.length++List.replicate (zs.length - (compactUpTo zs.toArray zs.length).length) 0,by simp;omega,trivial,?_⟩
 simp [grow]
 rfl
end Go.Abs
namespace Go.Abs
open Go.RowKit Go.Proofs
theorem slices_Values (xs:List PV):CallsPV Tryz.prog 55 [.list 1 xs] (.fn 129 [.ptr [.list 1 xs] 0]):=by
 refine callsPV_by (clo:=fun _=>false) (rows:=false) env_ok Tryz.func55 rfl (enters_of Tryz.func55 (by kernel_rfl) rfl) (fun A q P Y hr hA hq=>?_)
 conv=>cbv
 rw [←hq]
theorem values_seq (l:List Int) {xs:List PV} (hx:xs=encInts l) (hlen:l.length≤1000000):SeqPV Tryz.prog 129 [.ptr [.list 1 xs] 0] (l.map fun x=>[.int .i64 x]):=by
 refine seqPV_by (clo:=fun _=>false) (rows:=false) env_ok Tryz.func129 rfl (enters_of Tryz.func129 (by kernel_rfl) rfl) rfl (fun A P Y Y' y R hr hys hy hA hR=>?_)
 have hR':=fun q (h:q=Y.ys.length∨q=Y.ys.length+1)=>hR q (by rw [hys] at h;exact h)
 have hll:xs.length=l.length:=by rw [hx];simp [encInts]
 have hyl:Y.ys.length=l.length:=by rw [hys];simp
 conv=>cbv
 refine loop_set hA (fun (z:Int × Nat) s=>{ s.put (some 7) (.val (.int .i64 z.1)) with ax:=⟨s.ax.mp,z.2⟩ }) (fun z=>z.1=(z.2:Int)∧z.2≤l.length) (fun z=>(l.length - z.1).toNat) (0,0) ?_ ?_ ?_
 ·conv=>cbv
  exact wk_sl (by repeat (first | refine leL_same ?_ | refine leL_any ?_ | exact leL_nil))
 ·exact ⟨rfl,by omega⟩
 rintro R2 ⟨i,kk⟩ ⟨hi,hk⟩ hR2
 simp only at hi hk
 conv=>cbv
 split
 ·rename_i hc
  have hlt:i<l.length:=ltT' hA rfl (lenI hA hll) hc
  have his:A.iAdd i 1=i+1:=addI hA _ _
  conv=>cbv
  refine idx_Int hA hx (by omega) hlt (fun x hx0=>?_)
  have hyk:Y.ys[kk]?=some [.int .i64 x]:=by
   rw [hys,List.getElem?_map,show kk=i.toNat by omega,hx0];rfl
  conv=>cbv
  refine yld_intro' hA rfl hy hyk ?_ (fun n' hn'=>?_)
  ·conv=>cbv
   split
   ·rename_i hc
    cases (nT hA hc)
   conv=>cbv
   refine ⟨inR' hA his (by unfold inI64;omega),hR2 (A.iAdd i 1,kk+1) _ ?_ ?_ ?_⟩
   ·conv=>cbv
    exact wk_sl (by repeat (first | refine leL_same ?_ | refine leL_any ?_ | exact leL_nil))
   ·exact ⟨by show A.iAdd i 1=_;rw [his];omega,by omega⟩
   ·show (l.length - A.iAdd i 1).toNat<(l.length - i).toNat
    rw [his];omega
  ·conv=>cbv
   split
   ·conv=>cbv
    exact hR' _ (.inr hn')
   ·rename_i hc
    have hf:False:=nF hA hc
    cases hf
 ·rename_i hc
  have hge:(l.length:Int)≤i:=ltF' hA rfl (lenI hA hll) hc
  conv=>cbv
  exact hR' _ (.inl (by show kk=_;rw [hyl];omega))
def RowK (b:List Int) (rs:List (Option (List SV))) (j cap:Nat):Prop :=
 ∃cells,rs[j]?=some (some cells)∧cap≤cells.length∧b.length≤cap∧cap≤maxLen∧cells.take b.length=(encInts b).map SV.val
def ArgK (k0:Nat) (b:List Int) (rs:List (Option (List SV))) (arg:SV):Prop :=
 (b=[]∧arg=.lit 0 [])∨∃j cap,arg=.row (k0+j) 0 1 b.length cap∧RowK b rs j cap
theorem takeS1 {α:Type} (l:List α) (x:α) (r:List α) (n:Nat) (h:n=l.length+1):(l++x::r).take n=l++[x]:=by
 subst h;rw [List.append_cons];exact List.take_left' (by simp)
theorem appK {E:Env} (hE:E.T=tab) {A:Ops} (hA:A=stdOps E) {b:List Int} {arg:SV} {rs:List (Option (List SV))} {bx0:List (Option (List SV))} {k0:Nat} (h0:bx0.length=k0) (harg:ArgK k0 b rs arg) (hb:b.length≤1000000) (i:Int) (sl:List SV) (tk:List (Nat × TypeId)) (ax:Ax) (K:SV→St→Prop)
  (hK:∀(j cap:Nat) (rs':List (Option (List SV))),RowK (b++[i]) rs' j cap→K (.row (k0+j) 0 1 (b.length+1) cap) ⟨sl,bx0++rs',tk,ax⟩) :
  A.appR [29,29] [arg,.lit 1 [.int .i64 i]] ⟨sl,bx0++rs,tk,ax⟩ K:=by
 have hk:(E.T 29).k=.slice 3:=by rw [hE];rfl
 have hi:E.T 3=tab 3:=by rw [hE]
 refine appR_intro hA ?_
 unfold wpAppR
 simp only [hk,SV.elems,hi]
 refine ⟨trivial,rfl,by simp,by decide,rfl,?_⟩
 have hfresh:∀(cap:Nat) (junk:List SV),b.length+1≤cap→cap≤maxLen→cap=b.length+1+junk.length→K (.row (bx0++rs).length 0 1 (b.length+1) cap) ⟨sl,bx0++(rs++[some ((encInts b).map SV.val++(.val (.int .i64 i)::junk))]),tk,ax⟩:=by
  intro cap junk hc1 hc2 hc3
  rw [List.length_append,h0]
  refine hK _ cap _ ⟨(encInts b).map SV.val++(.val (.int .i64 i)::junk),by simp,by simp [encInts];omega,by simp;omega,hc2,?_⟩
  rw [takeS1 _ _ _ _ (by simp [encInts])];simp [encInts,encInt]
 rcases harg with ⟨rfl,rfl⟩ | ⟨j,cap,rfl,cells,h3,h4,h5,h6,h7⟩
 ·refine ⟨.inr rfl,by show (0+1)*(8+1)≤140737488355328;omega,fun cap hc1 hc2=>?_⟩
  have:=hfresh cap (List.replicate (cap - 1) (.val .any)) (by simpa using hc1) hc2 (by simp at hc1 ⊢;omega)
  have e1:(tab 3).size=1:=rfl
  rw [e1]
  simp only [St.newBx,List.length_nil,List.nil_append,Nat.zero_add,List.length_singleton,Nat.mul_one,List.append_assoc,List.flatMap_cons,List.flatMap_nil,List.append_nil] at this ⊢
  exact this
 ·refine ⟨rfl,by simp only [List.length_singleton];show (b.length+1)*(8+1)≤_;omega,cells,?_,by omega,fun hin=>?_,fun hout cap' hc1 hc2=>?_⟩
  ·show (bx0++rs).getD (k0+j) none=some cells
   rw [List.getD_eq_getElem?_getD,List.getElem?_append_right (by omega)]
   simp [h0,h3]
  ·simp only [List.length_singleton] at hin
   have e:(St.mk sl (bx0++rs) tk ax).setBx (k0+j) (some (cells.take (0+b.length*1)++(([PV.int IntKind.i64 i].flatMap PV.cells).map SV.val++cells.drop (0+b.length*1+[PV.int IntKind.i64 i].length*1))))=⟨sl,bx0++rs.set j (some (cells.take b.length++(.val (.int .i64 i)::cells.drop (b.length+1)))),tk,ax⟩:=by
    simp only [St.setBx,St.mk.injEq,true_and,and_true]
    rw [List.set_append_right _ _ (by omega)]
    simp [h0,PV.cells]
   rw [e]
   have hjl:j<rs.length:=(List.getElem?_eq_some_iff.1 h3).1
   refine hK j cap _ ⟨_,List.getElem?_set_self hjl,by simp;omega,by simpa using hin,h6,?_⟩
   rw [h7,takeS1 _ _ _ _ (by simp [encInts])]
   simp [encInts,encInt]
  ·simp only [List.length_singleton] at hout hc1 ⊢
   have:=hfresh cap' (List.replicate (cap' - (b.length+1)) (.val .any)) hc1 hc2 (by simp;omega)
   simp only [St.newBx,Nat.mul_one,List.drop_zero,List.append_assoc,List.flatMap_cons,List.flatMap_nil,List.append_nil] at this ⊢
   rw [h7]
   exact this
def cloS (n:Nat):Bool:=n == 5000000+54 || n == 5000000+127 || n == 5000000+189
theorem appendSeq (c0 c1 c2 c3:Option (List SV)) (tk:List (Nat × TypeId)) (ax:Ax) (l:List Int) {xs:List PV} (hx:xs=encInts l) (hlen:l.length≤1000000) :
  CallsR ⟨Tryz.prog,tab,cloS,true,.none⟩ 189 [.lit 0 [],.val (.fn 129 [.ptr [.list 1 xs] 0])] [c0,c1,c2,c3] tk ax
   (fun r bx' tk' ax'=>∃rs,bx'=[c0,c1,c2,c3]++rs∧tk'=tk∧ax'=ax∧ArgK 4 l rs r):=by
 refine callsR_by (clo:=cloS) (rows:=true) env_ok Tryz.func189 rfl (enters_of Tryz.func189 (by kernel_rfl) rfl) (by intro h;simp at h) (fun A P' Y' nb R hA hnb hR=>?_)
 conv=>cbv
 refine rng_intro hA (values_seq l hx hlen) (fun x hx=>?_) (fun (y:SV × List (Option (List SV))) s=>{ s with bx:=[c0,c1,c2,c3,some [y.1]]++y.2 }) (fun k y=>ArgK 5 (l.take k) y.2 y.1) (.lit 0 [],[]) ?_ ?_ ?_ ?_ ?_
 ·obtain ⟨y,_,rfl⟩:=List.mem_map.1 hx;rfl
 ·exact fun y=>rfl
 ·exact Wk.refl _
 ·exact .inl ⟨rfl,rfl⟩
 ·rintro R2 k ⟨arg,rs⟩ x hk hinv hR2
  rw [List.getElem?_map,Option.map_eq_some_iff] at hk
  obtain ⟨z,hz,rfl⟩:=hk
  have htk:l.take (k+1)=l.take k++[z]:=by rw [List.take_add_one,hz];rfl
  have hle:(l.take k).length≤1000000:=by simp;omega
  simp only at hinv
  have next:∀(j cap:Nat) (rs':List (Option (List SV))),RowK (l.take k++[z]) rs' j cap→ArgK 5 (l.take (k+1)) rs' (.row (5+j) 0 1 ((l.take k).length+1) cap):=fun j cap rs' h=>by
   rw [htk]
   exact .inr ⟨j,cap,by simp,h⟩
  have hap:=fun (bx0:List (Option (List SV))) (h0:bx0.length=5) sl K=>appK (E:=⟨Tryz.prog,tab,cloS,true,.none⟩) rfl hA h0 hinv hle z sl tk ax K
  have fin:∀(j cap id n:Nat) (rs':List (Option (List SV))),RowK (l.take k++[z]) rs' j cap→id=5+j→n=(l.take k).length+1→ArgK 5 (l.take (k+1)) rs' (.row id 0 1 n cap):=fun j cap id n rs' h h1 h2=>by
   rw [h1,h2];exact next j cap rs' h
  rcases id hinv with ⟨hb,rfl⟩ | ⟨j,cap,harg,hrow⟩
  ·conv=>cbv
   refine hap [c0,c1,c2,c3,some [.lit 0 []]] rfl _ _ (fun j' cap' rs' h'=>?_)
   have fin':=fun id n=>fin j' cap' id n rs' h'
   generalize 5+j'=id' at fin' ⊢
   generalize (l.take k).length+1=n' at fin' ⊢
   conv=>cbv
   exact hR2 (.row id' 0 1 n' cap',rs') _ (by (conv=>cbv);exact wk_sl (by repeat (first | refine leL_same ?_ | refine leL_any ?_ | exact leL_nil))) (fin' id' n' rfl rfl)
  ·obtain ⟨id,hid⟩:∃id,id=5+j:=⟨_,rfl⟩
   obtain ⟨n,hn⟩:∃n,n=(l.take k).length:=⟨_,rfl⟩
   rw [←hid,←hn] at harg
   subst harg
   conv=>cbv
   refine hap [c0,c1,c2,c3,some [.row id 0 1 n cap]] rfl _ _ (fun j' cap' rs' h'=>?_)
   have fin':=fun id n=>fin j' cap' id n rs' h'
   generalize 5+j'=id' at fin' ⊢
   generalize (l.take k).length+1=n' at fin' ⊢
   conv=>cbv
   exact hR2 (.row id' 0 1 n' cap',rs') _ (by (conv=>cbv);exact wk_sl (by repeat (first | refine leL_same ?_ | refine leL_any ?_ | exact leL_nil))) (fin' id' n' rfl rfl)
 ·rintro ⟨arg,rs⟩ hinv
  rw [List.take_of_length_le (by simp)] at hinv
  simp only at hinv
  rcases hinv with ⟨hb,rfl⟩ | ⟨j,cap,harg,hrow⟩
  ·conv=>cbv
   exact hR _ ⟨_,.lit 0 [],Wk.refl _,.inr (.inl ⟨4,rfl,rfl⟩),_::rs,rfl,rfl,rfl,.inl ⟨hb,rfl⟩⟩
  ·obtain ⟨id,hid⟩:∃id,id=5+j:=⟨_,rfl⟩
   obtain ⟨n,hn⟩:∃n,n=l.length:=⟨_,rfl⟩
   rw [←hid,←hn] at harg
   subst harg
   conv=>cbv
   refine hR _ ⟨_,.row id 0 1 n cap,Wk.refl _,.inr (.inl ⟨4,rfl,rfl⟩),_::rs,rfl,rfl,rfl,.inr ⟨j+1,cap,?_,?_⟩⟩
   ·rw [hid,hn,show 5+j=4+(j+1) by omega]
   ·obtain ⟨cells,h1,h2⟩:=hrow
    exact ⟨cells,h1,h2⟩
theorem collect (c0 c1 c2 c3:Option (List SV)) (tk:List (Nat × TypeId)) (ax:Ax) (l:List Int) {xs:List PV} (hx:xs=encInts l) (hlen:l.length≤1000000) :
  CallsR ⟨Tryz.prog,tab,cloS,true,.none⟩ 127 [.val (.fn 129 [.ptr [.list 1 xs] 0])] [c0,c1,c2,c3] tk ax
   (fun r bx' tk' ax'=>∃rs,bx'=[c0,c1,c2,c3]++rs∧tk'=tk∧ax'=ax∧ArgK 4 l rs r):=by
 refine callsR_by (clo:=cloS) (rows:=true) env_ok Tryz.func127 rfl (enters_of Tryz.func127 (by kernel_rfl) rfl) (by intro h;simp at h) (fun A P' Y' nb R hA hnb hR=>?_)
 conv=>cbv
 refine shareR_intro hA (appendSeq c0 c1 c2 c3 tk ax l hx hlen) (fun r bx' tk' ax' h=>?_)
 obtain ⟨rs,rfl,rfl,rfl,harg⟩:=h
 rcases harg with ⟨hb,rfl⟩ | ⟨j,cap,harg,hrow⟩
 ·conv=>cbv
  exact hR _ ⟨_,.lit 0 [],Wk.refl _,.inr (.inl ⟨2,rfl,rfl⟩),rs,rfl,rfl,rfl,.inl ⟨hb,rfl⟩⟩
 ·obtain ⟨id,hid⟩:∃id,id=4+j:=⟨_,rfl⟩
  obtain ⟨n,hn⟩:∃n,n=l.length:=⟨_,rfl⟩
  rw [←hid,←hn] at harg
  subst harg
  conv=>cbv
  refine hR _ ⟨_,.row id 0 1 n cap,Wk.refl _,.inr (.inl ⟨2,rfl,rfl⟩),rs,rfl,rfl,rfl,.inr ⟨j,cap,?_,hrow⟩⟩
  rw [hid,hn]
theorem sorted (c0 c1 c2 c3:Option (List SV)) (tk:List (Nat × TypeId)) (ax:Ax) (l:List Int) {xs:List PV} (hx:xs=encInts l) (hlen:l.length≤1000000) (hl0:0<l.length) :
  CallsR ⟨Tryz.prog,tab,cloS,true,.none⟩ 54 [.val (.fn 129 [.ptr [.list 1 xs] 0])] [c0,c1,c2,c3] tk ax
   (fun r bx' tk' ax'=>∃rs,bx'=[c0,c1,c2,c3]++rs∧tk'=tk∧ax'=ax∧∃j cap,r=.row (4+j) 0 1 l.length cap∧RowK (l.mergeSort fun x y=>decide (x≤y)) rs j cap):=by
 refine callsR_by (clo:=cloS) (rows:=true) env_ok Tryz.func54 rfl (enters_of Tryz.func54 (by kernel_rfl) rfl) (by intro h;simp at h) (fun A P' Y' nb R hA hnb hR=>?_)
 conv=>cbv
 refine shareR_intro hA (collect c0 c1 c2 c3 tk ax l hx hlen) (fun r bx' tk' ax' h=>?_)
 obtain ⟨rs,rfl,rfl,rfl,harg⟩:=h
 rcases harg with ⟨hb,rfl⟩ | ⟨j,cap,harg,hrow⟩
 ·rw [hb] at hl0;cases hl0
 ·obtain ⟨id,hid⟩:∃id,id=4+j:=⟨_,rfl⟩
  obtain ⟨n,hn⟩:∃n,n=l.length:=⟨_,rfl⟩
  rw [←hid,←hn] at harg
  subst harg
  obtain ⟨cells,h1,h2,h3,h4,h5⟩:=hrow
  have hcells:cells=(encInts l).map SV.val++cells.drop l.length:=by rw [←h5,List.take_append_drop]
  have hc:([c0,c1,c2,c3]++rs)[id]?=some (some ((encInts l).map SV.val++cells.drop l.length)):=by
   rw [←hcells,hid,List.getElem?_append_right (by simp)]
   simpa using h1
  have hs:=slices_Sort (rows:=true) (clo:=cloS) (Y:=.none) (tk:=tk') (ax:=ax') (cap:=cap) hc hn (by omega)
  conv=>cbv
  refine shareR_intro hA hs (fun r bx' tk2 ax2 h=>?_)
  obtain ⟨rfl,⟨d,hd,hds,rfl⟩,rfl,rfl⟩:=h
  have hset:([c0,c1,c2,c3]++rs).set id (some ((encInts d).map SV.val++cells.drop l.length))=[c0,c1,c2,c3]++rs.set j (some ((encInts d).map SV.val++cells.drop l.length)):=by
   rw [hid,List.set_append_right _ _ (by simp)]
   simp
  rw [hset]
  obtain ⟨rs2,hrs2⟩:∃rs2,rs2=rs.set j (some ((encInts d).map SV.val++cells.drop l.length)):=⟨_,rfl⟩
  rw [←hrs2]
  conv=>cbv
  refine hR _ ⟨_,.row id 0 1 n cap,Wk.refl _,.inr (.inl ⟨2,rfl,rfl⟩),rs2,rfl,rfl,rfl,j,cap,by rw [hid,hn],?_⟩
  have hjl:j<rs.length:=(List.getElem?_eq_some_iff.1 h1).1
  rw [←hds,hrs2]
  refine ⟨_,List.getElem?_set_self hjl,?_,by rw [hd];exact h3,h4,?_⟩
  ·simp [encInts,hd];omega
  ·rw [List.take_left' (by simp [encInts])]
end Go.Abs
namespace Go.Abs
open Go.RowKit Go.Proofs Go.Lib
def elsewhere (W:List Way) (w0:Way) (n:Int):Bool :=
 match W[n.toNat]? with
 | some w=>!decide (w.From=w0.From) || !decide (w.To=w0.To)
 | none=>true
theorem fl_Check1 (W:List Way) (w0:Way) (n nv:Int) (ss cs ws ms ks lg:List PV) (hws:ws=encWays W) (h0:0≤n) (h1:n<W.length) :
  CallsPV Tryz.prog 52 [.int .i64 n,.ptr [.int .i64 nv,.list 5 ss,.list 3 cs,.list 3 ws,.list 1 ms,.list 6 ks] 0,.ptr [.int .i64 w0.From,.int .i64 w0.To,.list 4 lg] 0] (.bool (elsewhere W w0 n)):=by
 refine callsPV_by (clo:=fun _=>false) (rows:=false) env_ok Tryz.func52 rfl (enters_of Tryz.func52 (by kernel_rfl) rfl) (fun A q P Y hr hA hq=>?_)
 obtain ⟨w1,w2,w3⟩:=w0
 have hE:∀w,W[n.toNat]?=some w→elsewhere W ⟨w1,w2,w3⟩ n=(!decide (w.From=w1) || !decide (w.To=w2)):=fun w h=>by simp only [elsewhere,h]
 generalize elsewhere W ⟨w1,w2,w3⟩ n=b at hq hE
 conv=>cbv
 refine ⟨draw_intro hA (by kernel_rfl),?_⟩
 refine idx_Way hA hws h0 h1 (fun w v hw hv=>?_)
 obtain ⟨x1,x2,x3⟩:=w
 have hb:=hE _ hw
 conv=>cbv
 split
 ·rename_i h
  have h':x1≠w1:=neT hA h
  conv=>cbv
  rw [←hq,hb,decide_eq_false h'];rfl
 ·rename_i h
  have h':x1=w1:=neF hA h
  conv=>cbv
  refine idx_Way hA hws h0 h1 (fun z v' hz hv'=>?_)
  obtain rfl:=Option.some.inj ((hw).symm.trans hz)
  conv=>cbv
  rw [←hq,hb,decide_eq_true h']
  subst hA;rfl
def onceB (l:List Int):Bool:=decide ((compactUpTo (l.mergeSort fun x y=>decide (x≤y)).toArray (l.mergeSort fun x y=>decide (x≤y)).length).length=l.length)
def head0 (t:Tables) (f:Flight):Way:=(t.Ways[(f.Ways.headD 0).toNat]?).getD ⟨0,0,[]⟩
def flightB (t:Tables) (f:Flight):Bool :=
 !outB 0 4095 f.ID&&!outB 0 7 f.Airline&&!outB 0 (t.Kinds.length - 1) f.Class&&nameB f.Call&&!outB 1 4 f.Ways.length&&!f.Ways.any (outB 0 (t.Ways.length - 1)) &&
  !(decide (f.Window.From<0) || decide (f.Window.To≤f.Window.From) || decide (1440<f.Window.To) || decide (16<f.Window.To - f.Window.From)) &&
  !f.Ways.any (elsewhere t.Ways (head0 t f))&&onceB f.Ways
def checkF (t:Tables) (f:Flight):Int:=if airOk t then if flightB t f then 0 else 150 else 140
theorem within1 (lo hi n:Int):CallsPV Tryz.prog 50 [.int .i64 lo,.int .i64 hi,.list 1 [.int .i64 n]] (.bool (!outB lo hi n)):=by
 have h:=fl_within lo hi [n] (xs:=[.int .i64 n]) rfl
 simpa using h
def cloC (n:Nat):Bool:=cloS n || n == 1000009
theorem skip_each {A:Ops} {E:Env} {id:Nat} {ops:Array Oper} {c:Code} {nb:Nat × Nat} {st:St} {Q Q2:AX→St→Prop} (st1:St) (hQ:∀s,Q .normal s=wpC' A E (.seq (.region id ops true) c) nb s Q2)
  (hm:drawMode E true id ops.size=.each) (h1:∀K:St→Prop,K st1→wpAll' A E ops ops.size (Array.replicate ops.size false) st K) (h2:wpC' A E c nb st1 Q2):wpC' A E .skip nb st Q:=by
 unfold wpC'
 rw [hQ]
 unfold wpC'
 unfold wpC'
 rw [hm]
 exact h1 _ h2
set_option maxHeartbeats 4000000 in
theorem fl_Check (t:Tables) (f:Flight):CallsPV Tryz.prog 14 [encTables t,encFlight f] (.int .i64 (checkF t f)):=by
 refine callsPV_by (clo:=cloC) (rows:=true) env_ok Tryz.func14 rfl (enters_of Tryz.func14 (by kernel_rfl) rfl) (fun A q P Y hr hA hq=>?_)
 have hair:=air_Check t
 obtain ⟨ck,hck⟩:∃ck,ck=checkF t f:=⟨_,rfl⟩
 have hlW:t.Ways.length≤9223372036854775807:=by
  have h1:=Real.cell (show Real [.agg _] from hr.mem (p:=encTables t) (by simp)) (c:=.list 3 (encWays t.Ways)) (by simp)
  have:=h1.len;simpa [encWays] using this
 have hlK:t.Kinds.length≤9223372036854775807:=by
  have h1:=Real.cell (show Real [.agg _] from hr.mem (p:=encTables t) (by simp)) (c:=.list 6 (encKinds t.Kinds)) (by simp)
  have:=h1.len;simpa [encKinds] using this
 rw [←hck] at hq
 obtain ⟨ss,hss⟩:∃ss,ss=encSectors t.Sectors:=⟨_,rfl⟩
 obtain ⟨cs,hcs⟩:∃cs,cs=encConfigs t.Configs:=⟨_,rfl⟩
 obtain ⟨ws,hws⟩:∃ws,ws=encWays t.Ways:=⟨_,rfl⟩
 obtain ⟨ms,hms⟩:∃ms,ms=encIntLs t.Modes:=⟨_,rfl⟩
 obtain ⟨ks,hks⟩:∃ks,ks=encKinds t.Kinds:=⟨_,rfl⟩
 obtain ⟨nv,hnv⟩:∃nv,nv=t.Volumes:=⟨_,rfl⟩
 have htab:encTables t=.agg [.int .i64 nv,.list 5 ss,.list 3 cs,.list 3 ws,.list 1 ms,.list 6 ks]:=by rw [encTables_eq t hss hcs hws hms hks,hnv]
 rw [htab] at hair ⊢
 have hkl:ks.length=t.Kinds.length:=by rw [hks];simp [encKinds]
 have hwl:ws.length=t.Ways.length:=by rw [hws];simp [encWays]
 obtain ⟨f1,f2,f3,f4,f5,⟨f6,f7⟩,f8⟩:=f
 obtain ⟨fl,hfl⟩:∃fl,fl=encInts f5:=⟨_,rfl⟩
 have hfl':fl.length=f5.length:=by rw [hfl];simp [encInts]
 rw [encFlight_eq _ hfl]
 simp only
 cases hao:airOk t with
 | false =>
  rw [hao] at hair
  have hck':ck=140:=by rw [hck,checkF,hao];rfl
  conv=>cbv
  refine call_intro hA hair ?_
  conv=>cbv
  split
  ·conv=>cbv
   refine ⟨_,Frz.refl _ _,?_⟩
   conv=>cbv
   exact (by rw [←hq,hck'])
  ·rename_i h
   have h':(140:Int)=0:=neF hA h
   cases h'
 | true =>
  rw [hao] at hair
  have hck':ck=if flightB t ⟨f1,f2,f3,f4,f5,⟨f6,f7⟩,f8⟩ then 0 else 150:=by rw [hck,checkF,hao];rfl
  clear hck hao
  obtain ⟨fb,hfb⟩:∃fb,fb=flightB t ⟨f1,f2,f3,f4,f5,⟨f6,f7⟩,f8⟩:=⟨_,rfl⟩
  rw [←hfb] at hck'
  simp only [flightB] at hfb
  have bad:fb=false→PV.int .i64 150=q:=fun h=>by rw [←hq,hck',h];rfl
  have good:fb=true→PV.int .i64 0=q:=fun h=>by rw [←hq,hck',h];rfl
  clear hck' hq
  have eK:A.iSub (A.lLen ks) 1=(t.Kinds.length:Int) - 1:=by rw [subI hA,lenI hA hkl]
  have eW:A.iSub (A.lLen ws) 1=(t.Ways.length:Int) - 1:=by rw [subI hA,lenI hA hwl]
  have wK:=within1 0 (t.Kinds.length - 1) f3
  have wW:=fl_within 0 (t.Ways.length - 1) f5 hfl
  have wL:=within1 1 4 f5.length
  rw [←eK] at wK
  rw [←eW] at wW
  rw [←lenI hA hfl'] at wL
  conv=>cbv
  refine call_intro hA hair ?_
  conv=>cbv
  split
  ·rename_i h
   cases (neT hA h rfl)
  conv=>cbv
  refine callB hA (within1 0 4095 f1) rfl (fun r1 hr1=>?_)
  conv=>cbv
  split
  ·rename_i h
   have h':=notT hA h
   conv=>cbv
   refine ⟨_,Frz.refl _ _,?_⟩
   conv=>cbv
   exact bad (by rw [hfb,←hr1,h'];simp)
  rename_i h
  have hr1':=notF hA h
  rw [hr1'] at hr1
  rw [←hr1] at hfb
  clear h
  conv=>cbv
  refine callB hA (within1 0 7 f2) rfl (fun r2 hr2=>?_)
  conv=>cbv
  split
  ·rename_i h
   have h':=notT hA h
   conv=>cbv
   refine ⟨_,Frz.refl _ _,?_⟩
   conv=>cbv
   exact bad (by rw [hfb,←hr2,h'];simp)
  rename_i h
  have hr2':=notF hA h
  rw [hr2'] at hr2
  rw [←hr2] at hfb
  clear h
  conv=>cbv
  refine ⟨inR' hA eK (by unfold inI64;omega),?_⟩
  refine callB hA (wK) rfl (fun r3 hr3=>?_)
  conv=>cbv
  split
  ·rename_i h
   have h':=notT hA h
   conv=>cbv
   refine ⟨_,Frz.refl _ _,?_⟩
   conv=>cbv
   exact bad (by rw [hfb,←eK,←hr3,h'];simp)
  rename_i h
  have hr3':=notF hA h
  rw [hr3'] at hr3
  rw [←eK,←hr3] at hfb
  clear h
  conv=>cbv
  refine callB hA (lex_Name f4) rfl (fun r4 hr4=>?_)
  conv=>cbv
  split
  ·rename_i h
   have h':=notT hA h
   conv=>cbv
   refine ⟨_,Frz.refl _ _,?_⟩
   conv=>cbv
   exact bad (by rw [hfb,←hr4,h'];simp)
  rename_i h
  have hr4':=notF hA h
  rw [hr4'] at hr4
  rw [←hr4] at hfb
  clear h
  conv=>cbv
  refine callB hA wL rfl (fun r5 hr5=>?_)
  conv=>cbv
  split
  ·rename_i h
   have h':=notT hA h
   conv=>cbv
   refine ⟨_,Frz.refl _ _,?_⟩
   conv=>cbv
   exact bad (by rw [hfb,←lenI hA hfl',←hr5,h'];simp)
  rename_i h
  have hr5':=notF hA h
  rw [hr5'] at hr5
  rw [←lenI hA hfl',←hr5] at hfb
  have hn5:1≤f5.length∧f5.length≤4:=by
   rw [lenI hA hfl'] at hr5
   have:=hr5.symm
   simp [outB] at this
   omega
  clear h
  conv=>cbv
  refine ⟨inR' hA eW (by unfold inI64;omega),?_⟩
  refine callB hA wW rfl (fun r6 hr6=>?_)
  conv=>cbv
  split
  ·rename_i h
   have h':=notT hA h
   conv=>cbv
   refine ⟨_,Frz.refl _ _,?_⟩
   conv=>cbv
   exact bad (by rw [hfb,←eW,←hr6,h'];simp)
  rename_i h
  have hr6':=notF hA h
  rw [hr6'] at hr6
  rw [←eW,←hr6] at hfb
  clear h
  conv=>cbv
  split
  ·rename_i h
   have h':=ltT hA h
   conv=>cbv
   refine ⟨_,Frz.refl _ _,?_⟩
   conv=>cbv
   exact bad (by rw [hfb,decide_eq_true h'];simp)
  rename_i h
  have h0:=ltF hA h
  rw [decide_eq_false (p:=f6<0) (by omega)] at hfb
  clear h
  conv=>cbv
  split
  ·rename_i h
   have h':=leT hA h
   conv=>cbv
   refine ⟨_,Frz.refl _ _,?_⟩
   conv=>cbv
   exact bad (by rw [hfb,decide_eq_true h'];simp)
  rename_i h
  have h1:=leF hA h
  rw [decide_eq_false (p:=f7≤f6) (by omega)] at hfb
  clear h
  conv=>cbv
  split
  ·rename_i h
   have h':=ltT hA h
   conv=>cbv
   refine ⟨_,Frz.refl _ _,?_⟩
   conv=>cbv
   exact bad (by rw [hfb,decide_eq_true h'];simp)
  rename_i h
  have h2:=ltF hA h
  rw [decide_eq_false (p:=1440<f7) (by omega)] at hfb
  clear h
  have e76:A.iSub f7 f6=f7 - f6:=subI hA _ _
  conv=>cbv
  refine ⟨inR' hA e76 (by unfold inI64;omega),?_⟩
  conv=>cbv
  split
  ·rename_i h
   have h':=ltT' hA rfl e76 h
   conv=>cbv
   refine ⟨_,Frz.refl _ _,?_⟩
   conv=>cbv
   exact bad (by rw [hfb,decide_eq_true h'];simp)
  rename_i h
  have h3:=ltF' hA rfl e76 h
  rw [decide_eq_false (p:=16<f7 - f6) (by omega)] at hfb
  clear h
  have hin:∀n∈f5,0≤n∧n<t.Ways.length:=fun n hn=>by
   have h1:(f5.any (outB 0 (A.iSub (A.lLen ws) 1)))=false:=by simpa using hr6.symm
   rw [eW,List.any_eq_false] at h1
   have:=h1 n hn
   simp [outB] at this
   omega
  obtain ⟨x,hx0⟩:∃x,f5[0]?=some x:=⟨f5[0]'(by omega),List.getElem?_eq_getElem (by omega)⟩
  have hx1:=hin x (List.mem_of_getElem? hx0)
  obtain ⟨w0,hw0⟩:∃w0,t.Ways[x.toNat]?=some w0:=⟨t.Ways[x.toNat]'(by omega),List.getElem?_eq_getElem (by omega)⟩
  have hhd:head0 t ⟨f1,f2,f3,f4,f5,⟨f6,f7⟩,f8⟩=w0:=by
   have:f5.headD 0=x:=by
    cases f5 with
    | nil=>simp at hn5
    | cons a r=>simpa using hx0
   simp only [head0,this,hw0]
   rfl
  rw [hhd] at hfb
  obtain ⟨lg,hlg⟩:∃lg,lg=encLegs w0.Legs:=⟨_,rfl⟩
  have hany:=containsFunc_Int (elsewhere t.Ways w0) f5 hfl (fun n hn=>fl_Check1 t.Ways w0 n nv ss cs ws ms ks lg hws (hin n hn).1 (hin n hn).2)
  obtain ⟨x1,x2,x3⟩:=w0
  simp only at hany hlg
  apply skip_each (hQ:=fun _=>rfl)
  case hm=>rfl
  case h1 =>
   intro K hK
   conv=>cbv
   repeat' first
    | exact hK
    | apply And.intro
    | (refine idx_Int hA hfl (Int.le_refl 0) (by omega) (fun z hz=>?_);obtain rfl:=Option.some.inj (hx0.symm.trans hz);clear hz;conv=>cbv)
    | (refine idx_Way hA hws hx1.1 hx1.2 (fun z v hz hv=>?_);obtain rfl:=Option.some.inj (hw0.symm.trans hz);obtain rfl:=hlg.trans hv.symm;clear hz hv;conv=>cbv)
  have hstep:∀c0 c1 c2 c3,CallsR ⟨Tryz.prog,tab,cloC,true,.none⟩ 54 [.val (.fn 129 [.ptr [.list 1 fl] 0])] [c0,c1,c2,c3] [] ⟨[],0⟩
    (fun r bx' tk' ax'=>∃rs,bx'=[c0,c1,c2,c3]++rs∧tk'=[]∧ax'=⟨[],0⟩∧∃j cap,r=.row (4+j) 0 1 f5.length cap∧RowK (f5.mergeSort fun x y=>decide (x≤y)) rs j cap):=fun c0 c1 c2 c3=>CallsR.flags (sorted c0 c1 c2 c3 [] ⟨[],0⟩ f5 hfl (by omega) (by omega))
  conv=>cbv
  refine call_intro hA (slices_Values fl) ?_
  conv=>cbv
  refine shareR_intro hA (hstep _ _ _ _) (fun r bx' tk' ax' h=>?_)
  obtain ⟨rs,rfl,rfl,rfl,j,cap,rfl,cells,g1,g2,g3,g4,g5⟩:=h
  obtain ⟨id,hid⟩:∃id,id=4+j:=⟨_,rfl⟩
  obtain ⟨n,hn⟩:∃n,n=f5.length:=⟨_,rfl⟩
  obtain ⟨zs,hzs⟩:∃zs,zs=f5.mergeSort fun x y=>decide (x≤y):=⟨_,rfl⟩
  rw [←hid,←hn]
  rw [←hzs] at g3 g5
  have hzl:zs.length=f5.length:=by rw [hzs,List.length_mergeSort]
  obtain ⟨k,hk⟩:∃k,k=(compactUpTo zs.toArray zs.length).length:=⟨_,rfl⟩
  have honce:onceB f5=decide (k=n):=by rw [onceB,←hzs,←hk,hn]
  have hcells:cells=(encInts zs).map SV.val++cells.drop zs.length:=by rw [←g5,List.take_append_drop]
  have hcc:∀c0 c1 c2 c3,([c0,c1,c2,c3]++rs)[id]?=some (some ((encInts zs).map SV.val++cells.drop zs.length)):=fun c0 c1 c2 c3=>by
   rw [←hcells,hid,List.getElem?_append_right (by simp)]
   simpa using g1
  have hset:∀c0 c1 c2 c3 y,([c0,c1,c2,c3]++rs).set id y=[c0,c1,c2,c3]++rs.set j y:=fun c0 c1 c2 c3 y=>by
   rw [hid,List.set_append_right _ _ (by simp)]
   simp
  have hcomp:∀c0 c1 c2 c3,CallsR ⟨Tryz.prog,tab,cloC,true,.none⟩ 53 [.row id 0 1 n cap] ([c0,c1,c2,c3]++rs) [] ⟨[],0⟩
    (fun r bx' tk' ax'=>r=.row id 0 1 k cap∧(∃rs',bx'=[c0,c1,c2,c3]++rs')∧tk'=[]∧ax'=⟨[],0⟩):=fun c0 c1 c2 c3=>by
   have h:=slices_Compact (clo:=cloC) (rows:=true) (Y:=.none) (tk:=[]) (ax:=⟨[],0⟩) (n:=n) (cap:=cap) (hcc c0 c1 c2 c3) (by omega) (by omega) (by omega) g4
   rw [←hk] at h
   refine ⟨h.1,fun B S0 w0 G S w vs a b c d=>(h.2 B S0 w0 G S w vs a b c d).mono ?_⟩
   rintro e w' ⟨v,r,bx',tk',ax',G',S',⟨q1,⟨dd,_,_,q2⟩,q3,q4⟩,h2⟩
   exact ⟨v,r,bx',tk',ax',G',S',⟨q1,⟨_,q2.trans (hset _ _ _ _ _)⟩,q3,q4⟩,h2⟩
  clear hcc hset hcells
  conv=>cbv
  refine shareR_intro hA (hcomp _ _ _ _) (fun r bx' tk' ax' h=>?_)
  obtain ⟨rfl,⟨rs',rfl⟩,rfl,rfl⟩:=h
  conv=>cbv
  refine callB hA hany rfl (fun r7 hr7=>?_)
  conv=>cbv
  split
  ·conv=>cbv
   refine ⟨_,Frz.refl _ _,?_⟩
   conv=>cbv
   exact bad (by rw [hfb,←hr7];simp)
  rw [←hr7,honce] at hfb
  conv=>cbv
  split
  ·rename_i h
   have h':=neT' hA (natI hA k) (lenI hA hfl') h
   conv=>cbv
   refine ⟨_,Frz.refl _ _,?_⟩
   conv=>cbv
   exact bad (by rw [hfb,decide_eq_false (by omega)];simp)
  ·rename_i h
   have h':=neF' hA (natI hA k) (lenI hA hfl') h
   conv=>cbv
   refine ⟨_,Frz.refl _ _,?_⟩
   conv=>cbv
   exact good (by rw [hfb,decide_eq_true (by omega)];rfl)
end Go.Abs
namespace Go.Abs
open Go.Lib
theorem onceB_iff (l:List Int):onceB l=true↔l.Nodup:=by
 obtain ⟨s,hs⟩:∃s,s=l.mergeSort fun x y=>decide (x≤y):=⟨_,rfl⟩
 have hl:s.length=l.length:=by rw [hs,List.length_mergeSort]
 have hp:List.Pairwise (fun x y=>decide (x≤y)=true) s:=by
  rw [hs]
  exact List.pairwise_mergeSort (fun a b c h1 h2=>by simp at h1 h2 ⊢;omega) (fun a b=>by simp;omega) l
 have hn:s.Nodup↔l.Nodup:=by rw [hs];exact (List.mergeSort_perm l _).nodup_iff
 have hget:∀j (h:j<s.length),s.toArray[j]! = s[j]:=fun j h=>by simp [h]
 have hO:onceB l=true↔∀j,j<s.length→(j=0∨s.toArray[j]!≠s.toArray[j - 1]!):=by
  unfold onceB
  rw [←hs,decide_eq_true_iff,←hl]
  unfold compactUpTo
  rw [List.length_map]
  have h:=List.length_filter_eq_length_iff (p:=keeps s.toArray) (l:=List.range s.length)
  rw [List.length_range] at h
  rw [h]
  simp only [List.mem_range,keeps,decide_eq_true_iff]
 rw [hO,←hn]
 constructor
 ·intro h
  refine (List.pairwise_iff_getElem.2 fun i j hi hj hij=>?_:List.Pairwise (· < ·) s).imp (fun hab=>by omega)
  have h1:s[i]≤s[j - 1]'(by omega):=by
   rcases Nat.lt_or_eq_of_le (Nat.le_sub_one_of_lt hij) with h2 | h2
   ·simpa using List.pairwise_iff_getElem.1 hp i (j - 1) hi (by omega) h2
   ·simp [h2]
  have h3:s[j - 1]'(by omega)≤s[j]:=by simpa using List.pairwise_iff_getElem.1 hp (j - 1) j (by omega) hj (by omega)
  have h4:=h j hj
  rw [hget j hj,hget (j - 1) (by omega)] at h4
  rcases h4 with h4 | h4
  ·omega
  ·omega
 ·intro h j hj
  rcases Nat.eq_zero_or_pos j with h0 | h0
  ·exact .inl h0
  ·refine .inr ?_
   rw [hget j hj,hget (j - 1) (by omega)]
   intro e
   exact List.pairwise_iff_getElem.1 h (j - 1) j (by omega) hj (by omega) e.symm
end Go.Abs
namespace Go.Abs
open Go.RowKit Go.Proofs
def measL (t:Tables) (f:Flight):List Opt :=
 match t.Kinds[f.Class.toNat]? with
 | some k=>measO k.Longest f.Ways.length f.Cancel
 | none=>[]
def measuresF (t:Tables) (f:Flight):List Opt:=if checkF t f=0 then measL t f else []
theorem checkF_zero {t:Tables} {f:Flight} (h:checkF t f=0):airOk t=true∧flightB t f=true:=by
 unfold checkF at h
 split at h
 ·split at h
  ·exact ⟨‹_›,‹_›⟩
  ·cases h
 ·cases h
theorem checkF_kind {t:Tables} {f:Flight} (h:checkF t f=0):∃k,t.Kinds[f.Class.toNat]?=some k∧0≤f.Class∧0≤k.Longest∧k.Longest≤60∧k.Longest.tmod 10=0∧1≤k.Weight∧k.Weight≤8∧1≤f.Ways.length∧f.Ways.length≤4:=by
 obtain ⟨h1,h2⟩:=checkF_zero h
 simp only [flightB,Bool.and_eq_true,Bool.not_eq_true'] at h2
 obtain ⟨⟨⟨⟨⟨⟨⟨⟨_,_⟩,hc⟩,_⟩,hw⟩,_⟩,_⟩,_⟩,_⟩:=h2
 simp [outB] at hc hw
 have hlt:f.Class.toNat<t.Kinds.length:=by omega
 refine ⟨t.Kinds[f.Class.toNat],List.getElem?_eq_getElem hlt,hc.1,?_⟩
 simp only [airOk,Bool.and_eq_true,List.all_eq_true,decide_eq_true_eq] at h1
 have hk:=(h1.2 _ (List.getElem_mem hlt)).1
 generalize t.Kinds[f.Class.toNat]=k at hk ⊢
 simp [kindOk,withinL] at hk
 refine ⟨by omega,by omega,by omega,by omega,by omega,by omega,by omega⟩
theorem fl_Measures (t:Tables) (f:Flight):CallsPV Tryz.prog 147 [encTables t,encFlight f] (.tup [.list 4 (encOpts (measuresF t f)),.int .i64 (checkF t f)]):=by
 have hchk:=fl_Check t f
 obtain ⟨ck,hck⟩:∃ck,ck=checkF t f:=⟨_,rfl⟩
 by_cases h0:ck=0
 ·obtain ⟨k,hk,hc0,hL0,hL1,_,_,_,hw1,hw4⟩:=checkF_kind (hck▸h0)
  have hml:measuresF t f=measO k.Longest f.Ways.length f.Cancel:=by
   rw [measuresF,if_pos (hck▸h0),measL,hk]
  rw [hml,←hck,h0]
  rw [←hck,h0] at hchk
  refine callsPV_by (clo:=fun _=>false) (rows:=false) env_ok Tryz.func147 rfl (enters_of Tryz.func147 (by kernel_rfl) rfl) (fun A q P Y hr hA hq=>?_)
  obtain ⟨ss,hss⟩:∃ss,ss=encSectors t.Sectors:=⟨_,rfl⟩
  obtain ⟨cs,hcs⟩:∃cs,cs=encConfigs t.Configs:=⟨_,rfl⟩
  obtain ⟨ws,hws⟩:∃ws,ws=encWays t.Ways:=⟨_,rfl⟩
  obtain ⟨ms,hms⟩:∃ms,ms=encIntLs t.Modes:=⟨_,rfl⟩
  obtain ⟨ks,hks⟩:∃ks,ks=encKinds t.Kinds:=⟨_,rfl⟩
  obtain ⟨nv,hnv⟩:∃nv,nv=t.Volumes:=⟨_,rfl⟩
  have htab:encTables t=.agg [.int .i64 nv,.list 5 ss,.list 3 cs,.list 3 ws,.list 1 ms,.list 6 ks]:=by rw [encTables_eq t hss hcs hws hms hks,hnv]
  have hseq:=fun wl (hwl:wl=encInts f.Ways)=>fl_measures1 t.Kinds f k hc0 hk hL0 hL1 (by omega) nv ss cs ws ms ks wl hks hwl
  have hmk:=fun wl=>fl_measures nv ss cs ws ms ks f.ID f.Airline f.Class f.Window.From f.Window.To f.Call wl f.Cancel
  rw [htab] at hchk ⊢
  have hlen:(measO k.Longest f.Ways.length f.Cancel).length≤1000:=by
   rw [measO_len]
   have h1:(k.Longest / 10+1).toNat≤7:=by omega
   have h2:(k.Longest / 10+1).toNat*(3*f.Ways.length)≤7*(3*4):=Nat.mul_le_mul h1 (by omega)
   split<;>omega
  generalize measO k.Longest f.Ways.length f.Cancel=M at hseq hq hlen
  obtain ⟨f1,f2,f3,f4,f5,⟨f6,f7⟩,f8⟩:=f
  obtain ⟨fl,hfl⟩:∃fl,fl=encInts f5:=⟨_,rfl⟩
  rw [encFlight_eq _ hfl] at hchk ⊢
  have hs:=hseq fl hfl
  have hm:=hmk fl
  simp only at hchk hs hm ⊢
  clear hseq hmk
  conv=>cbv
  refine call_intro hA hchk ?_
  conv=>cbv
  split
  ·rename_i h
   cases (neT hA h rfl)
  conv=>cbv
  refine call_intro hA hm ?_
  conv=>cbv
  refine rng_intro hA hs (fun x hx=>?_) (fun (L:List PV) s=>{ s with bx:=s.bx.set 2 (some [.own 0 4 L]),tk:=[(A.nLen L,35)] })
   (fun k L=>L=encOpts (M.take k)) [] (fun _=>rfl) ?_ ?_ ?_ ?_
  ·obtain ⟨o,_,rfl⟩:=List.mem_map.1 hx;rfl
  ·subst hA
   exact Wk.ownBx _ _ [] _ 2 0 0 4 [.lit 0 []] [] 35 rfl rfl (.inr rfl)
  ·rfl
  ·intro R k L x hx hL hR
   rw [List.getElem?_map,Option.map_eq_some_iff] at hx
   obtain ⟨o,ho,rfl⟩:=hx
   have hkl:k<M.length:=(List.getElem?_eq_some_iff.1 ho).1
   have hLl:L.length≤1000:=by rw [hL];simp [encOpts];omega
   obtain ⟨o1,o2,o3,o4⟩:=o
   have hnext:A.lApp L [encOpt ⟨o1,o2,o3,o4⟩]=encOpts (M.take (k+1)):=by
    subst hA hL
    rw [List.take_add_one,ho]
    show encOpts _++_=_
    simp [encOpts]
   have htk:A.tkEq (A.nLen L) (A.nLen L):=by subst hA;rfl
   have hroom:A.room (A.nLen (A.lApp L [encOpt ⟨o1,o2,o3,o4⟩])) 32:=by
    subst hA
    show (L++[_]).length*(32+1)≤140737488355328
    rw [List.length_append,List.length_singleton];omega
   conv=>cbv
   refine ⟨⟨htk,hroom⟩,hR (A.lApp L [.agg [.int .i64 o1,.int .i64 o2,.int .i64 o3,.bool o4]]) _ ?_ hnext⟩
   conv=>cbv
   exact wk_round (bx:=[_,_,_]) (bx':=[_]) (mp:=[]) (mp':=[]) (by repeat (first | refine leL_same ?_ | refine leL_any ?_ | exact leL_nil)) (by simp) (by simp) rfl rfl
  ·intro L hL
   rw [List.take_of_length_le (by simp)] at hL
   conv=>cbv
   rw [←hq,hL]
 ·have hml:measuresF t f=[]:=by rw [measuresF,if_neg (hck▸h0)]
  rw [hml,←hck]
  rw [←hck] at hchk
  refine CallsPV.le (p:=.tup [.list 0 [],.int .i64 ck]) (args':=[encTables t,encFlight f]) ?_ (.cons (.refl _) (.cons (.refl _) .nil)) (.tup _ _ rfl fun i x y hx hy=>?_)
  ·refine callsPV_by (clo:=fun _=>false) (rows:=false) env_ok Tryz.func147 rfl (enters_of Tryz.func147 (by kernel_rfl) rfl) (fun A q P Y hr hA hq=>?_)
   obtain ⟨ss,hss⟩:∃ss,ss=encSectors t.Sectors:=⟨_,rfl⟩
   obtain ⟨cs,hcs⟩:∃cs,cs=encConfigs t.Configs:=⟨_,rfl⟩
   obtain ⟨ws,hws⟩:∃ws,ws=encWays t.Ways:=⟨_,rfl⟩
   obtain ⟨ms,hms⟩:∃ms,ms=encIntLs t.Modes:=⟨_,rfl⟩
   obtain ⟨ks,hks⟩:∃ks,ks=encKinds t.Kinds:=⟨_,rfl⟩
   obtain ⟨nv,hnv⟩:∃nv,nv=t.Volumes:=⟨_,rfl⟩
   have htab:encTables t=.agg [.int .i64 nv,.list 5 ss,.list 3 cs,.list 3 ws,.list 1 ms,.list 6 ks]:=by rw [encTables_eq t hss hcs hws hms hks,hnv]
   rw [htab] at hchk ⊢
   obtain ⟨f1,f2,f3,f4,f5,⟨f6,f7⟩,f8⟩:=f
   obtain ⟨fl,hfl⟩:∃fl,fl=encInts f5:=⟨_,rfl⟩
   rw [encFlight_eq _ hfl] at hchk ⊢
   simp only at hchk ⊢
   conv=>cbv
   refine call_intro hA hchk ?_
   conv=>cbv
   split
   ·conv=>cbv
    exact hq
   ·rename_i h
    exact absurd (neF hA h) h0
  ·match i,hx,hy with
   | 0,hx,hy=>simp at hx hy;subst hx hy;exact .nil _ _
   | 1,hx,hy=>simp at hx hy;subst hx hy;exact .refl _
   | i+2,hx,hy=>simp at hx
end Go.Abs
namespace Go.Abs
theorem check_ways {t:Tables} {f:Flight} (h:checkF t f=0):∃(x:Int) (w0:Way),f.Ways[0]?=some x∧0≤x∧x<t.Ways.length∧t.Ways[x.toNat]?=some w0∧head0 t f=w0 ∧
  ∀n:Int,n∈f.Ways→0≤n∧n<t.Ways.length∧∃v,t.Ways[n.toNat]?=some v∧v.From=w0.From∧v.To=w0.To:=by
 obtain ⟨_,h2⟩:=checkF_zero h
 simp only [flightB,Bool.and_eq_true,Bool.not_eq_true'] at h2
 obtain ⟨⟨⟨⟨⟨⟨⟨⟨_,_⟩,_⟩,_⟩,hl⟩,hr⟩,_⟩,he⟩,_⟩:=h2
 have hl':1≤f.Ways.length:=by simp [outB] at hl;omega
 have hin:∀n∈f.Ways,0≤n∧n<t.Ways.length:=fun n hn=>by
  rw [List.any_eq_false] at hr
  have:=hr n hn
  simp [outB] at this
  omega
 obtain ⟨x,hx⟩:∃x,f.Ways[0]?=some x:=⟨f.Ways[0]'(by omega),List.getElem?_eq_getElem (by omega)⟩
 have hx1:=hin x (List.mem_of_getElem? hx)
 obtain ⟨w0,hw0⟩:∃w0,t.Ways[x.toNat]?=some w0:=⟨t.Ways[x.toNat]'(by omega),List.getElem?_eq_getElem (by omega)⟩
 have hhd:head0 t f=w0:=by
  have:f.Ways.headD 0=x:=by
   cases hf:f.Ways with
   | nil=>rw [hf] at hx;simp at hx
   | cons a r=>rw [hf] at hx;simpa using hx
  simp only [head0,this,hw0]
  rfl
 refine ⟨x,w0,hx,hx1.1,hx1.2,hw0,hhd,fun n hn=>⟨(hin n hn).1,(hin n hn).2,?_⟩⟩
 have hn1:=hin n hn
 rw [List.any_eq_false] at he
 have:=he n hn
 rw [hhd] at this
 unfold elsewhere at this
 rw [List.getElem?_eq_getElem (by omega)] at this ⊢
 simp at this
 exact ⟨_,rfl,this⟩
end Go.Abs
namespace Go.Abs
open Go.RowKit Go.Proofs
def weightOf (t:Tables) (f:Flight):Int:=match t.Kinds[f.Class.toNat]? with | some k=>k.Weight | none=>0
def minutesOf (o:Opt):Int:=if o.Cancel then 120 else o.Delay+o.Hold
def delayF (t:Tables) (f:Flight) (o:Opt):Int × Int × Int :=
 if checkF t f=0 then if o∈measL t f then (minutesOf o,minutesOf o*weightOf t f,0) else (0,0,150) else (0,0,checkF t f)
theorem measO_mem {L:Int} {n:Nat} {c:Bool} (hL0:0≤L) (hL:L≤60) {o:Opt} (h:o∈measO L n c):0≤o.Delay∧o.Delay≤60∧0≤o.Hold∧o.Hold≤10:=by
 unfold measO at h
 rcases List.mem_append.1 h with h | h
 ·obtain ⟨k,hk,rfl⟩:=List.mem_map.1 h
  have hk':=List.mem_range.1 hk
  have hB:0<3*n:=by
   rcases Nat.eq_zero_or_pos n with h0 | h0
   ·subst h0;simp at hk'
   ·omega
  have h1:k / (3*n)<(L / 10+1).toNat:=(Nat.div_lt_iff_lt_mul hB).2 hk'
  have h2:k % 3<3:=Nat.mod_lt _ (by omega)
  simp only [optAt]
  omega
 ·cases c
  ·simp at h
  ·simp at h;subst h;simp
theorem fl_Delay (t:Tables) (f:Flight) (o:Opt):CallsPV Tryz.prog 87 [encTables t,encFlight f,encOpt o] (.tup [.int .i64 (delayF t f o).1,.int .i64 (delayF t f o).2.1,.int .i64 (delayF t f o).2.2]):=by
 have hmeas:=fl_Measures t f
 obtain ⟨ck,hck⟩:∃ck,ck=checkF t f:=⟨_,rfl⟩
 rw [←hck] at hmeas
 by_cases h0:ck=0
 ·obtain ⟨k,hk,hc0,hL0,hL1,_,hW1,hW8,hw1,hw4⟩:=checkF_kind (hck▸h0)
  have hml:measuresF t f=measL t f:=by rw [measuresF,if_pos (hck▸h0)]
  have hmO:measL t f=measO k.Longest f.Ways.length f.Cancel:=by rw [measL,hk]
  have hwt:weightOf t f=k.Weight:=by rw [weightOf,hk]
  have hin:o∈measL t f→0≤o.Delay∧o.Delay≤60∧0≤o.Hold∧o.Hold≤10:=fun h=>measO_mem hL0 hL1 (hmO▸h)
  have hcon:=fun xs (hx:xs=encOpts (measL t f))=>contains_Opt o (measL t f) hx
  rw [hml,h0] at hmeas
  have hcf:checkF t f=0:=hck▸h0
  have hD:delayF t f o=if o∈measL t f then (minutesOf o,minutesOf o*k.Weight,0) else (0,0,150):=by rw [delayF,if_pos hcf,hwt]
  rw [hD]
  refine callsPV_by (clo:=fun _=>false) (rows:=false) env_ok Tryz.func87 rfl (enters_of Tryz.func87 (by kernel_rfl) rfl) (fun A q P Y hr hA hq=>?_)
  have hkl0:f.Class.toNat<t.Kinds.length:=(List.getElem?_eq_some_iff.1 hk).1
  obtain ⟨ss,hss⟩:∃ss,ss=encSectors t.Sectors:=⟨_,rfl⟩
  obtain ⟨cs,hcs⟩:∃cs,cs=encConfigs t.Configs:=⟨_,rfl⟩
  obtain ⟨ws,hws⟩:∃ws,ws=encWays t.Ways:=⟨_,rfl⟩
  obtain ⟨ms,hms⟩:∃ms,ms=encIntLs t.Modes:=⟨_,rfl⟩
  obtain ⟨ks,hks⟩:∃ks,ks=encKinds t.Kinds:=⟨_,rfl⟩
  obtain ⟨nv,hnv⟩:∃nv,nv=t.Volumes:=⟨_,rfl⟩
  have htab:encTables t=.agg [.int .i64 nv,.list 5 ss,.list 3 cs,.list 3 ws,.list 1 ms,.list 6 ks]:=by rw [encTables_eq t hss hcs hws hms hks,hnv]
  rw [htab] at hmeas ⊢
  generalize measL t f=M at hmeas hcon hin hq
  clear hml hmO hwt hcf hD
  obtain ⟨xs,hxs⟩:∃xs,xs=encOpts M:=⟨_,rfl⟩
  rw [←hxs] at hmeas
  have hco:=hcon xs hxs
  obtain ⟨f1,f2,f3,f4,f5,⟨f6,f7⟩,f8⟩:=f
  obtain ⟨fl,hfl⟩:∃fl,fl=encInts f5:=⟨_,rfl⟩
  rw [encFlight_eq _ hfl] at hmeas ⊢
  obtain ⟨o1,o2,o3,o4⟩:=o
  simp only at hmeas hco hk hkl0 hc0 hin hq ⊢
  clear hcon
  conv=>cbv
  refine call_intro hA hmeas ?_
  conv=>cbv
  split
  ·rename_i h
   cases (neT hA h rfl)
  conv=>cbv
  refine callB hA hco rfl (fun r hr=>?_)
  conv=>cbv
  split
  ·rename_i h
   have h':=notT hA h
   have hno:(⟨o1,o2,o3,o4⟩:Opt)∉M:=by rw [h'] at hr;exact of_decide_eq_false hr.symm
   rw [if_neg hno] at hq
   conv=>cbv
   exact hq
  rename_i h
  have h':=notF hA h
  have hyes:(⟨o1,o2,o3,o4⟩:Opt)∈M:=by rw [h'] at hr;exact of_decide_eq_true hr.symm
  rw [if_pos hyes] at hq
  have hb:=hin hyes
  have hadd:A.iAdd o1 o3=o1+o3:=addI hA _ _
  clear h
  conv=>cbv
  refine ⟨inR' hA hadd (by unfold inI64;omega),?_⟩
  obtain ⟨k1,k2,k3,k4,k5,k6⟩:=k
  simp only at hW1 hW8 hq
  cases o4 with
  | true =>
   have hm:A.iMul 120 k4=120*k4:=mulI hA _ _
   conv=>cbv
   refine ⟨draw_intro hA (by kernel_rfl),?_⟩
   refine idx_Kind hA hks hc0 (by omega) (fun z v hz hv=>?_)
   obtain rfl:=Option.some.inj (hk.symm.trans hz)
   conv=>cbv
   refine ⟨inR' hA hm (by unfold inI64;omega),?_⟩
   show PV.tup [_,.int .i64 (A.iMul 120 k4),_]=_
   rw [←hq,hm]
   rfl
  | false =>
   have hm:A.iMul (A.iAdd o1 o3) k4=(o1+o3)*k4:=by rw [mulI hA,hadd]
   have hu:(o1+o3)*k4≤70*8:=Int.mul_le_mul (by omega) hW8 (by omega) (by omega)
   have hl:0≤(o1+o3)*k4:=Int.mul_nonneg (by omega) (by omega)
   conv=>cbv
   refine ⟨draw_intro hA (by kernel_rfl),?_⟩
   refine idx_Kind hA hks hc0 (by omega) (fun z v hz hv=>?_)
   obtain rfl:=Option.some.inj (hk.symm.trans hz)
   conv=>cbv
   refine ⟨inR' hA hm (by unfold inI64;omega),?_⟩
   show PV.tup [.int .i64 (A.iAdd o1 o3),.int .i64 (A.iMul (A.iAdd o1 o3) k4),_]=_
   rw [←hq,hm,hadd]
   rfl
 ·have hD:delayF t f o=(0,0,ck):=by rw [delayF,if_neg (hck▸h0),hck]
  have hml:measuresF t f=[]:=by rw [measuresF,if_neg (hck▸h0)]
  rw [hml] at hmeas
  rw [hD]
  refine callsPV_by (clo:=fun _=>false) (rows:=false) env_ok Tryz.func87 rfl (enters_of Tryz.func87 (by kernel_rfl) rfl) (fun A q P Y hr hA hq=>?_)
  obtain ⟨ss,hss⟩:∃ss,ss=encSectors t.Sectors:=⟨_,rfl⟩
  obtain ⟨cs,hcs⟩:∃cs,cs=encConfigs t.Configs:=⟨_,rfl⟩
  obtain ⟨ws,hws⟩:∃ws,ws=encWays t.Ways:=⟨_,rfl⟩
  obtain ⟨ms,hms⟩:∃ms,ms=encIntLs t.Modes:=⟨_,rfl⟩
  obtain ⟨ks,hks⟩:∃ks,ks=encKinds t.Kinds:=⟨_,rfl⟩
  obtain ⟨nv,hnv⟩:∃nv,nv=t.Volumes:=⟨_,rfl⟩
  have htab:encTables t=.agg [.int .i64 nv,.list 5 ss,.list 3 cs,.list 3 ws,.list 1 ms,.list 6 ks]:=by rw [encTables_eq t hss hcs hws hms hks,hnv]
  rw [htab] at hmeas ⊢
  obtain ⟨f1,f2,f3,f4,f5,⟨f6,f7⟩,f8⟩:=f
  obtain ⟨fl,hfl⟩:∃fl,fl=encInts f5:=⟨_,rfl⟩
  rw [encFlight_eq _ hfl] at hmeas ⊢
  obtain ⟨o1,o2,o3,o4⟩:=o
  simp only at hmeas ⊢
  conv=>cbv
  refine call_intro hA hmeas ?_
  conv=>cbv
  split
  ·conv=>cbv
   exact hq
  ·rename_i h
   exact absurd (neF hA h) h0
end Go.Abs
namespace Go.Abs
def minutesC (len speed:Int):Int:=(len+speed - 1).tdiv speed
def boundK (k:Kind) (len hold:Int):Bound:=⟨minutesC len k.Fast+hold,minutesC len k.Slow+hold⟩
def legsB (k:Kind) (hold:Int) (ls:List Leg):List Bound:=ls.mapIdx fun i x=>boundK k x.Length (if i+1=ls.length then hold else 0)
theorem minutesC_spec {len speed:Int} (h0:1≤len) (h1:1≤speed):1≤minutesC len speed∧minutesC len speed≤len∧len≤minutesC len speed*speed∧(minutesC len speed - 1)*speed<len:=by
 unfold minutesC
 rw [Int.tdiv_eq_ediv_of_nonneg (by omega)]
 have e1:=Int.mul_ediv_add_emod (len+speed - 1) speed
 have e2:=Int.emod_nonneg (len+speed - 1) (show speed≠0 by omega)
 have e3:=Int.emod_lt_of_pos (len+speed - 1) (show 0<speed by omega)
 generalize hq:(len+speed - 1) / speed=q at e1 ⊢
 generalize (len+speed - 1) % speed=r at e1 e2 e3
 have e4:(q - 1)*speed=speed*q - speed:=by rw [Int.sub_mul,Int.mul_comm];omega
 have e5:q*speed=speed*q:=Int.mul_comm _ _
 have hq1:1≤q:=by
  rw [←hq,Int.le_ediv_iff_mul_le (by omega)];omega
 have hq2:q≤len:=by
  rw [←hq]
  refine Int.lt_add_one_iff.1 (Int.ediv_lt_of_lt_mul (by omega) ?_)
  have:(len+1)*speed=len*speed+speed:=by rw [Int.add_mul];omega
  have h2:len*1≤len*speed:=Int.mul_le_mul_of_nonneg_left h1 (by omega)
  omega
 exact ⟨hq1,hq2,by omega,by omega⟩
theorem minutesC_le {len a b:Int} (h0:1≤len) (ha:1≤a) (hab:a≤b):minutesC len b≤minutesC len a:=by
 have h1:=minutesC_spec h0 ha
 have h2:=minutesC_spec h0 (show 1≤b by omega)
 rcases Int.lt_or_le (minutesC len a) (minutesC len b) with h | h
 ·exfalso
  have h3:minutesC len a*a≤minutesC len a*b:=Int.mul_le_mul_of_nonneg_left hab (by omega)
  have h4:minutesC len a*b≤(minutesC len b - 1)*b:=Int.mul_le_mul_of_nonneg_right (by omega) (by omega)
  omega
 ·exact h
theorem legsB_len (k:Kind) (hold:Int) (ls:List Leg):(legsB k hold ls).length=ls.length:=by simp [legsB]
theorem legsB_get {k:Kind} {hold:Int} {ls:List Leg} {i:Nat} {x:Leg} (h:ls[i]?=some x):(legsB k hold ls)[i]?=some (boundK k x.Length (if i+1=ls.length then hold else 0)):=by
 unfold legsB
 rw [List.getElem?_mapIdx,h];rfl
def legsOk (ls:List Leg):Prop:=1≤ls.length∧ls.length≤8∧∀x∈ls,1≤x.Length∧x.Length≤4096
structure KindOk (k:Kind):Prop where
 ok:kindOk k=true
 s1:1≤k.Slow
 s2:k.Slow≤k.Fast
 s3:k.Fast≤64
theorem kindOk_speeds {k:Kind} (h:kindOk k=true):KindOk k:=by
 have h':=h
 simp [kindOk,withinL] at h'
 exact ⟨h,by omega,by omega,by omega⟩
theorem bound_facts {k:Kind} (hk:KindOk k) {len hold:Int} (h0:1≤len) (h1:len≤4096) (h2:0≤hold) (h3:hold≤10):1≤(boundK k len hold).Lo∧(boundK k len hold).Lo≤(boundK k len hold).Hi∧(boundK k len hold).Hi≤4106:=by
 have a:=minutesC_spec h0 hk.s1
 have b:=minutesC_spec h0 (show 1≤k.Fast by have:=hk.s1;have:=hk.s2;omega)
 have c:=minutesC_le h0 hk.s1 hk.s2
 unfold boundK
 simp only
 omega
theorem legsB_facts {k:Kind} (hk:KindOk k) {hold:Int} {ls:List Leg} (hl:legsOk ls) (h2:0≤hold) (h3:hold≤10):∀b∈legsB k hold ls,1≤b.Lo∧b.Lo≤b.Hi∧b.Hi≤4106:=by
 intro b hb
 obtain ⟨i,hi⟩:=List.getElem?_of_mem hb
 cases h:ls[i]? with
 | none =>
  have:ls.length≤i:=List.getElem?_eq_none_iff.1 h
  rw [List.getElem?_eq_none (by rw [legsB_len];exact this)] at hi
  cases hi
 | some x =>
  rw [legsB_get h] at hi
  obtain rfl:=Option.some.inj hi
  obtain ⟨c1,c2⟩:=hl.2.2 x (List.mem_of_getElem? h)
  split
  ·exact bound_facts hk c1 c2 h2 h3
  ·exact bound_facts hk c1 c2 (Int.le_refl _) (by omega)
def planE (t:Tables) (f:Flight) (o:Opt):Int:=if (delayF t f o).2.2=0 then if o.Cancel then 160 else 0 else (delayF t f o).2.2
def planW (f:Flight) (o:Opt):Int:=(f.Ways[o.Way.toNat]?).getD 0
def firstB (f:Flight) (o:Opt):Bound:=⟨f.Window.From+o.Delay,f.Window.To - 1+o.Delay⟩
def planL (t:Tables) (f:Flight) (o:Opt):List Bound :=
 match t.Kinds[f.Class.toNat]?,t.Ways[(planW f o).toNat]? with
 | some k,some w=>legsB k o.Hold w.Legs
 | _,_=>[]
structure PlanOk (t:Tables) (f:Flight) (o:Opt) (k:Kind) (w:Way):Prop where
 chk:checkF t f=0
 del:(delayF t f o).2.2=0
 can:o.Cancel=false
 k0:0≤f.Class
 hk:t.Kinds[f.Class.toNat]?=some k
 kok:KindOk k
 d0:0≤o.Delay∧o.Delay≤60∧o.Delay≤k.Longest∧o.Delay.tmod 10=0
 w0:0≤o.Way∧o.Way<f.Ways.length
 hw:f.Ways[o.Way.toNat]?=some (planW f o)
 p0:0≤planW f o∧planW f o<t.Ways.length
 hl:t.Ways[(planW f o).toNat]?=some w
 lok:legsOk w.Legs
 h0:0≤o.Hold∧o.Hold≤10∧o.Hold.tmod 5=0
 win:0≤f.Window.From∧f.Window.From<f.Window.To∧f.Window.To≤1440∧f.Window.To - f.Window.From≤16
 leg:planL t f o=legsB k o.Hold w.Legs
theorem way_legs {t:Tables} (h:airOk t=true) {w:Way} (hw:w∈t.Ways):legsOk w.Legs:=by
 unfold airOk at h
 simp only [Bool.and_eq_true,List.all_eq_true] at h
 have:=h.1.1.2 w hw
 simp only [wayOk,legOk,inB,Bool.and_eq_true,decide_eq_true_eq,List.all_eq_true] at this
 exact ⟨by omega,by omega,fun x hx=>by have:=this.2 x hx;omega⟩
theorem planE_plan {t:Tables} {f:Flight} {o:Opt} (h:planE t f o=0):∃k w,PlanOk t f o k w:=by
 unfold planE at h
 split at h
 ·rename_i hd
  split at h
  ·cases h
  ·rename_i hc
   have hc':o.Cancel=false:=by simpa using hc
   have hd':=hd
   unfold delayF at hd'
   split at hd'
   ·rename_i hck
    split at hd'
    ·rename_i hm
     obtain ⟨k,hk,hk0,hL0,hL1,_,_,_,hw1,hw4⟩:=checkF_kind hck
     have hm':=hm
     rw [measL,hk] at hm'
     rcases (measO_iff o).1 hm' with ⟨h1,_⟩ | ⟨_,h1,h2,h3,h4,h5,h6,h7,h8⟩
     ·rw [hc'] at h1;cases h1
     obtain ⟨x,w0,hx0,_,_,_,_,hin⟩:=check_ways hck
     have hlt:o.Way.toNat<f.Ways.length:=by omega
     have hw:f.Ways[o.Way.toNat]?=some (planW f o):=by
      unfold planW
      rw [List.getElem?_eq_getElem hlt];rfl
     obtain ⟨p0,p1,v,hv,_⟩:=hin _ (List.mem_of_getElem? hw)
     obtain ⟨ha,hb⟩:=checkF_zero hck
     have hkok:KindOk k:=by
      simp only [airOk,Bool.and_eq_true,List.all_eq_true,decide_eq_true_eq] at ha
      exact kindOk_speeds (ha.2 k (List.mem_of_getElem? hk)).1
     have hwin:0≤f.Window.From∧f.Window.From<f.Window.To∧f.Window.To≤1440∧f.Window.To - f.Window.From≤16:=by
      simp only [flightB,Bool.and_eq_true,Bool.not_eq_true'] at hb
      obtain ⟨⟨⟨⟨⟨⟨⟨⟨_,_⟩,_⟩,_⟩,_⟩,_⟩,hw⟩,_⟩,_⟩:=hb
      simp at hw
      omega
     exact ⟨k,v,⟨hck,hd,hc',hk0,hk,hkok,⟨h1,by omega,h3,h2⟩,⟨h4,h5⟩,hw,⟨p0,p1⟩,hv,way_legs ha (List.mem_of_getElem? hv),⟨h6,h8,h7⟩,hwin,by rw [planL,hk,hv]⟩⟩
    ·cases hd'
   ·rename_i hne
    exact absurd hd' hne
 ·rename_i hne
  exact absurd h hne
theorem PlanOk.bounds {t:Tables} {f:Flight} {o:Opt} {k:Kind} {w:Way} (h:PlanOk t f o k w):(∀b∈planL t f o,1≤b.Lo∧b.Lo≤b.Hi∧b.Hi≤4106)∧(planL t f o).length=w.Legs.length∧1≤(planL t f o).length∧(planL t f o).length≤8:=by
 have h1:=h.leg
 have h2:=h.lok
 refine ⟨fun b hb=>legsB_facts h.kok h2 h.h0.1 h.h0.2.1 b (h1▸hb),?_,?_,?_⟩
 ·rw [h1,legsB_len]
 ·rw [h1,legsB_len];exact h2.1
 ·rw [h1,legsB_len];exact h2.2.1
theorem PlanOk.first {t:Tables} {f:Flight} {o:Opt} {k:Kind} {w:Way} (h:PlanOk t f o k w):0≤(firstB f o).Lo∧(firstB f o).Lo≤(firstB f o).Hi∧(firstB f o).Hi≤1499∧(firstB f o).Hi - (firstB f o).Lo+1=f.Window.To - f.Window.From∧widthB (firstB f o)≤16:=by
 have:=h.d0
 have:=h.win
 unfold widthB firstB
 simp only
 omega
def manyT (t:Tables) (f:Flight) (o:Opt):Nat:=prodB (firstB f o::planL t f o)
def countE (t:Tables) (f:Flight) (o:Opt):Int:=if planE t f o=0 then if manyT t f o≤4096 then 0 else 160 else planE t f o
def countN (t:Tables) (f:Flight) (o:Opt):Int:=if countE t f o=0 then manyT t f o else 0
def allT (t:Tables) (f:Flight) (o:Opt):List (List Int):=extL 0 (firstB f o::planL t f o)
def allP (t:Tables) (f:Flight) (o:Opt):List Path:=if countE t f o=0 then (allT t f o).map fun ts=>⟨planW f o,ts⟩ else []
open Classical in
noncomputable def fliesB (t:Tables) (f:Flight) (o:Opt) (p:Path):Bool:=decide (planE t f o=0∧p.Way=planW f o∧fliesT 0 (firstB f o::planL t f o) p.Times)
theorem countE_plan {t:Tables} {f:Flight} {o:Opt} (h:countE t f o=0):planE t f o=0∧manyT t f o≤4096:=by
 unfold countE at h
 split at h
 ·rename_i h1
  split at h
  ·exact ⟨h1,‹_›⟩
  ·cases h
 ·exact absurd h ‹_›
theorem allT_len (t:Tables) (f:Flight) (o:Opt):(allT t f o).length=manyT t f o:=extL_len _ _
end Go.Abs
namespace Go.Abs
open Go.RowKit Go.Proofs
theorem speed_minutes (len speed:Int) (h0:1≤len∧len≤4096) (h1:1≤speed∧speed≤64):CallsPV Tryz.prog 284 [.int .i64 len,.int .i64 speed] (.int .i64 (minutesC len speed)):=by
 refine callsPV_by (clo:=fun _=>false) (rows:=false) env_ok Tryz.func284 rfl (enters_of Tryz.func284 (by kernel_rfl) rfl) (fun A q P Y hr hA hq=>?_)
 have e1:A.iAdd len speed=len+speed:=addI hA _ _
 have e2:A.iSub (A.iAdd len speed) 1=len+speed - 1:=by rw [subI hA,e1]
 have e3:A.iDiv (A.iSub (A.iAdd len speed) 1) speed=minutesC len speed:=by rw [divI hA,e2];rfl
 have hm:=minutesC_spec h0.1 h1.1
 have nz:A.nz speed:=by subst hA;show speed≠0;omega
 conv=>cbv
 refine ⟨inR' hA e1 (by unfold inI64;omega),inR' hA e2 (by unfold inI64;omega),⟨nz,inR' hA e3 (by unfold inI64;omega)⟩,?_⟩
 rw [←hq,←e3]
theorem kind_bound (k:Kind) (hk:KindOk k) (len:Int) (h0:1≤len∧len≤4096):CallsPV Tryz.prog 255 [encKind k,.int .i64 len] (encBound (boundK k len 0)):=by
 refine callsPV_by (clo:=fun _=>false) (rows:=false) env_ok Tryz.func255 rfl (enters_of Tryz.func255 (by kernel_rfl) rfl) (fun A q P Y hr hA hq=>?_)
 have c1:=speed_minutes len k.Fast h0 ⟨by have:=hk.s1;have:=hk.s2;omega,hk.s3⟩
 have c2:=speed_minutes len k.Slow h0 ⟨hk.s1,by have:=hk.s2;have:=hk.s3;omega⟩
 simp only [boundK,encBound,Int.add_zero] at hq
 generalize minutesC len k.Fast=n1 at c1 hq
 generalize minutesC len k.Slow=n2 at c2 hq
 obtain ⟨k1,k2,k3,k4,k5,k6⟩:=k
 simp only [encKind] at c1 c2 hq ⊢
 obtain ⟨cs,hcs⟩:∃cs,cs=encSpanLs k6:=⟨_,rfl⟩
 rw [←hcs]
 conv=>cbv
 refine ⟨draw_intro hA (by kernel_rfl),?_⟩
 refine call_intro hA (c1) ?_
 conv=>cbv
 refine call_intro hA (c2) ?_
 conv=>cbv
 exact hq
theorem speed_length (n:Int):CallsPV Tryz.prog 253 [.int .i64 n] (.bool (decide (1≤n)&&decide (n≤4096))):=by
 refine callsPV_by (clo:=fun _=>false) (rows:=false) env_ok Tryz.func253 rfl (enters_of Tryz.func253 (by kernel_rfl) rfl) (fun A q P Y hr hA hq=>?_)
 have h:=speed_within [n,1,4096] rfl (by simp)
 have e:withinL [n,1,4096]=(decide (1≤n)&&decide (n≤4096)):=by
  rw [Bool.eq_iff_iff];simp [withinL]
 rw [e] at h
 generalize (decide (1≤n)&&decide (n≤4096))=b at h hq
 conv=>cbv
 refine call_intro hA (h) ?_
 conv=>cbv
 exact hq
theorem speed_asked1 (x:Leg):CallsPV Tryz.prog 252 [encLeg x] (.bool (!(decide (1≤x.Length)&&decide (x.Length≤4096)))):=by
 refine callsPV_by (clo:=fun _=>false) (rows:=false) env_ok Tryz.func252 rfl (enters_of Tryz.func252 (by kernel_rfl) rfl) (fun A q P Y hr hA hq=>?_)
 obtain ⟨x1,x2,x3,x4⟩:=x
 have h:=speed_length x3
 simp only at hq
 generalize (decide (1≤x3)&&decide (x3≤4096))=b at h hq
 simp only [encLeg]
 obtain ⟨ms,hms⟩:∃ms,ms=encSpans x4:=⟨_,rfl⟩
 rw [←hms]
 conv=>cbv
 refine call_intro hA (h) ?_
 conv=>cbv
 refine Eq.trans ?_ hq
 show PV.bool (A.bNot b)=_
 subst hA;rfl
theorem speed_asked (k:Kind) (hk:KindOk k) (hkl:k.Curfews.length≤9223372036854775807) (ls:List Leg) (hl:legsOk ls) (hold:Int) (h0:0≤hold∧hold≤10) {lg:List PV} (hlg:lg=encLegs ls) :
  CallsPV Tryz.prog 191 [encKind k,.list 4 lg,.int .i64 hold] (.int .i64 0):=by
 refine callsPV_by (clo:=fun _=>false) (rows:=false) env_ok Tryz.func191 rfl (enters_of Tryz.func191 (by kernel_rfl) rfl) (fun A q P Y hr hA hq=>?_)
 have h1:=speed_Check k hkl
 rw [hk.ok] at h1
 have hll:lg.length=ls.length:=by rw [hlg];simp [encLegs]
 have h2:=speed_within [A.lLen lg,1,8,hold,0,10] rfl (by simp)
 have e:withinL [A.lLen lg,1,8,hold,0,10]=true:=by
  rw [lenI hA hll]
  have:=hl.1;have:=hl.2.1
  simp [withinL];omega
 rw [e] at h2
 have h3:=containsFunc_Leg (fun x=>!(decide (1≤x.Length)&&decide (x.Length≤4096))) ls hlg (fun x _=>speed_asked1 x)
 rw [any_f (l:=ls) (fun x hx=>by have:=hl.2.2 x hx;simp [this.1,this.2])] at h3
 obtain ⟨k1,k2,k3,k4,k5,k6⟩:=k
 simp only [encKind] at h1 ⊢
 obtain ⟨cs,hcs⟩:∃cs,cs=encSpanLs k6:=⟨_,rfl⟩
 rw [←hcs] at h1 ⊢
 conv=>cbv
 refine call_intro hA (h1) ?_
 conv=>cbv
 split
 ·rename_i hc
  cases (neT hA hc rfl)
 conv=>cbv
 refine call_intro hA (h2) ?_
 conv=>cbv
 split
 ·rename_i hc
  cases (nT hA hc)
 conv=>cbv
 refine call_intro hA (h3) ?_
 conv=>cbv
 exact hq
set_option maxHeartbeats 1000000 in
theorem kind_each1 (k:Kind) (hk:KindOk k) (ls:List Leg) (hl:legsOk ls) (hold:Int) (h0:0≤hold∧hold≤10) {lg cs:List PV} (hlg:lg=encLegs ls) (hcs:cs=encSpanLs k.Curfews) :
  SeqPV Tryz.prog 254 [.ptr [.list 4 lg] 0,.ptr [.int .i64 k.Slow,.int .i64 k.Fast,.int .i64 k.Places,.int .i64 k.Weight,.int .i64 k.Longest,.list 1 cs] 0,.ptr [.int .i64 hold] 0]
   ((legsB k hold ls).map fun b=>[encBound b]):=by
 refine seqPV_by (clo:=fun _=>false) (rows:=false) env_ok Tryz.func254 rfl (enters_of Tryz.func254 (by kernel_rfl) rfl) rfl (fun A P Y Y' y R hr hys hy hA hR=>?_)
 have hR':=fun q (h:q=Y.ys.length∨q=Y.ys.length+1)=>hR q (by rw [hys] at h;exact h)
 have hll:lg.length=ls.length:=by rw [hlg];simp [encLegs]
 have hyl:Y.ys.length=ls.length:=by rw [hys,List.length_map,legsB_len]
 have hl8:=hl.2.1
 have hyk:∀(i:Nat) (x:Leg),ls[i]?=some x→Y.ys[i]?=some [encBound (boundK k x.Length (if i+1=ls.length then hold else 0))]:=fun i x h=>by
  rw [hys,List.getElem?_map,legsB_get h];rfl
 have hbd:=fun (x:Leg) (hx:x∈ls)=>kind_bound k hk x.Length (hl.2.2 x hx)
 have hbf:=fun (x:Leg) (hx:x∈ls)=>bound_facts hk (hl.2.2 x hx).1 (hl.2.2 x hx).2 (Int.le_refl 0) (by omega)
 have hbK:∀n h,encBound (boundK k n h)=.agg [.int .i64 (minutesC n k.Fast+h),.int .i64 (minutesC n k.Slow+h)]:=fun n h=>rfl
 obtain ⟨k1,k2,k3,k4,k5,k6⟩:=k
 simp only at hcs hbK ⊢
 simp only [encKind,←hcs] at hbd
 conv=>cbv
 refine loop_set hA (fun (z:Int × Nat) s=>{ s.put (some 10) (.val (.int .i64 z.1)) with ax:=⟨s.ax.mp,z.2⟩ }) (fun z=>z.1=(z.2:Int)∧z.2≤ls.length) (fun z=>(ls.length - z.2)) (0,0) ?_ ?_ ?_
 ·conv=>cbv
  exact wk_sl (by repeat (first | refine leL_same ?_ | refine leL_any ?_ | exact leL_nil))
 ·exact ⟨rfl,Nat.zero_le _⟩
 rintro R2 ⟨i,kk⟩ ⟨hik,hkl⟩ hR2
 simp only at hik hkl
 conv=>cbv
 split
 ·rename_i hc
  have hi:i<ls.length:=ltT' hA rfl (lenI hA hll) hc
  have his:A.iAdd i 1=i+1:=addI hA _ _
  have hir:A.inR (A.iAdd i 1):=inR' hA his (by unfold inI64;omega)
  have hls1:A.iSub (A.lLen lg) 1=(ls.length:Int) - 1:=by rw [subI hA,lenI hA hll]
  have hlsr:A.inR (A.iSub (A.lLen lg) 1):=inR' hA hls1 (by unfold inI64;omega)
  conv=>cbv
  refine idx_Leg hA hlg (by omega) hi (fun x ms hx hms=>?_)
  have hxm:=List.mem_of_getElem? hx
  have h1:=hbd x hxm
  have h2:=hbf x hxm
  have h3:=hyk i.toNat x hx
  rw [show i.toNat=kk by omega] at h3
  rw [hbK] at h1 h3
  simp only [boundK] at h2
  obtain ⟨x1,x2,x3,x4⟩:=x
  simp only at h1 h2 h3 hms
  generalize minutesC x3 k2=m1 at h1 h2 h3
  generalize minutesC x3 k1=m2 at h1 h2 h3
  rw [Int.add_zero,Int.add_zero] at h1
  conv=>cbv
  refine call_intro hA (h1) ?_
  conv=>cbv
  refine ⟨hlsr,?_⟩
  split
  ·rename_i hc
   have hl1:i=(ls.length:Int) - 1:=eqT' hA rfl hls1 hc
   rw [if_pos (by omega)] at h3
   have a1:A.iAdd m1 hold=m1+hold:=addI hA _ _
   have a2:A.iAdd m2 hold=m2+hold:=addI hA _ _
   rw [←a1,←a2] at h3
   conv=>cbv
   refine ⟨inR' hA a1 (by unfold inI64;omega),inR' hA a2 (by unfold inI64;omega),?_⟩
   refine yld_intro' hA rfl hy h3 ?_ (fun n' hn'=>?_)
   ·conv=>cbv
    split
    ·rename_i hc
     cases (nT hA hc)
    conv=>cbv
    refine ⟨hir,hR2 (A.iAdd i 1,kk+1) _ ?_ ?_ ?_⟩
    ·conv=>cbv
     exact wk_round (bx:=[]) (bx':=[_,_]) (mp:=[]) (mp':=[]) (by repeat (first | refine leL_same ?_ | refine leL_any ?_ | exact leL_nil)) (by simp) (by simp) rfl rfl
    ·exact ⟨by show A.iAdd i 1=_;rw [his];omega,by show kk+1≤_;omega⟩
    ·show ls.length - (kk+1)<ls.length - kk
     omega
   ·conv=>cbv
    split
    rotate_left
    ·rename_i hc
     cases (nF hA hc)
    conv=>cbv
    exact hR' _ (.inr hn')
  ·rename_i hc
   have hl1:i≠(ls.length:Int) - 1:=eqF' hA rfl hls1 hc
   rw [if_neg (by omega),Int.add_zero,Int.add_zero] at h3
   conv=>cbv
   refine yld_intro' hA rfl hy h3 ?_ (fun n' hn'=>?_)
   ·conv=>cbv
    split
    ·rename_i hc
     cases (nT hA hc)
    conv=>cbv
    refine ⟨hir,hR2 (A.iAdd i 1,kk+1) _ ?_ ?_ ?_⟩
    ·conv=>cbv
     exact wk_round (bx:=[]) (bx':=[_,_]) (mp:=[]) (mp':=[]) (by repeat (first | refine leL_same ?_ | refine leL_any ?_ | exact leL_nil)) (by simp) (by simp) rfl rfl
    ·exact ⟨by show A.iAdd i 1=_;rw [his];omega,by show kk+1≤_;omega⟩
    ·show ls.length - (kk+1)<ls.length - kk
     omega
   ·conv=>cbv
    split
    rotate_left
    ·rename_i hc
     cases (nF hA hc)
    conv=>cbv
    exact hR' _ (.inr hn')
 ·rename_i hc
  have hi:i=ls.length:=by have:=ltF' hA rfl (lenI hA hll) hc;omega
  conv=>cbv
  exact hR' _ (.inl (by show kk=_;rw [hyl];omega))
theorem kind_each (c1 c2 c3 c4 c5:Int) (cs lg:List PV) (hold:Int):CallsPV Tryz.prog 192 [.agg [.int .i64 c1,.int .i64 c2,.int .i64 c3,.int .i64 c4,.int .i64 c5,.list 1 cs],.list 4 lg,.int .i64 hold]
  (.fn 254 [.ptr [.list 4 lg] 0,.ptr [.int .i64 c1,.int .i64 c2,.int .i64 c3,.int .i64 c4,.int .i64 c5,.list 1 cs] 0,.ptr [.int .i64 hold] 0]):=by
 refine callsPV_by (clo:=fun _=>false) (rows:=false) env_ok Tryz.func192 rfl (enters_of Tryz.func192 (by kernel_rfl) rfl) (fun A q P Y hr hA hq=>?_)
 conv=>cbv
 rw [←hq]
set_option maxHeartbeats 1000000 in
theorem speed_Legs (k:Kind) (hk:KindOk k) (ls:List Leg) (hl:legsOk ls) (hold:Int) (h0:0≤hold∧hold≤10) {lg:List PV} (hlg:lg=encLegs ls) :
  CallsPV Tryz.prog 131 [encKind k,.list 4 lg,.int .i64 hold] (.tup [.list 2 (encBounds (legsB k hold ls)),.int .i64 0]):=by
 refine callsPV_by (clo:=fun _=>false) (rows:=false) env_ok Tryz.func131 rfl (enters_of Tryz.func131 (by kernel_rfl) rfl) (fun A q P Y hr hA hq=>?_)
 have hkl:k.Curfews.length≤9223372036854775807:=by
  have h1:=Real.cell (show Real [.agg _] from hr.mem (p:=encKind k) (by simp)) (c:=.list 1 (encSpanLs k.Curfews)) (by simp)
  have:=h1.len;simpa [encSpanLs] using this
 have hask:=speed_asked k hk hkl ls hl hold h0 hlg
 obtain ⟨cs,hcs⟩:∃cs,cs=encSpanLs k.Curfews:=⟨_,rfl⟩
 have hseq:=kind_each1 k hk ls hl hold h0 hlg hcs
 have hbl:=legsB_len k hold ls
 have hl8:=hl.2.1
 generalize legsB k hold ls=M at hseq hq hbl
 obtain ⟨k1,k2,k3,k4,k5,k6⟩:=k
 simp only at hcs hseq
 simp only [encKind,←hcs] at hask ⊢
 have hmk:=kind_each k1 k2 k3 k4 k5 cs lg hold
 conv=>cbv
 refine call_intro hA (hask) ?_
 conv=>cbv
 split
 ·rename_i hc
  cases (neT hA hc rfl)
 conv=>cbv
 refine call_intro hA (hmk) ?_
 conv=>cbv
 refine rng_intro hA hseq (fun x hx=>?_) (fun (L:List PV) s=>{ s with bx:=s.bx.set 1 (some [.own 0 2 L]),tk:=[(A.nLen L,148)] })
  (fun k L=>L=encBounds (M.take k)) [] (fun _=>rfl) ?_ ?_ ?_ ?_
 ·obtain ⟨o,_,rfl⟩:=List.mem_map.1 hx;rfl
 ·subst hA
  exact Wk.ownBx _ _ [] _ 1 0 0 2 [.lit 0 []] [] 148 rfl rfl (.inr rfl)
 ·rfl
 ·intro R k L x hx hL hR
  rw [List.getElem?_map,Option.map_eq_some_iff] at hx
  obtain ⟨o,ho,rfl⟩:=hx
  have hkl:k<M.length:=(List.getElem?_eq_some_iff.1 ho).1
  have hLl:L.length≤1000:=by rw [hL];simp [encBounds];omega
  obtain ⟨o1,o2⟩:=o
  have hnext:A.lApp L [encBound ⟨o1,o2⟩]=encBounds (M.take (k+1)):=by
   subst hA hL
   rw [List.take_add_one,ho]
   show encBounds _++_=_
   simp [encBounds]
  have htk:A.tkEq (A.nLen L) (A.nLen L):=by subst hA;rfl
  have hroom:A.room (A.nLen (A.lApp L [encBound ⟨o1,o2⟩])) 16:=by
   subst hA
   show (L++[_]).length*(16+1)≤140737488355328
   rw [List.length_append,List.length_singleton];omega
  conv=>cbv
  refine ⟨⟨htk,hroom⟩,hR (A.lApp L [.agg [.int .i64 o1,.int .i64 o2]]) _ ?_ hnext⟩
  conv=>cbv
  exact wk_round (bx:=[_,_]) (bx':=[_]) (mp:=[]) (mp':=[]) (by repeat (first | refine leL_same ?_ | refine leL_any ?_ | exact leL_nil)) (by simp) (by simp) rfl rfl
 ·intro L hL
  rw [List.take_of_length_le (by simp)] at hL
  conv=>cbv
  rw [←hq,hL]
end Go.Abs
namespace Go.Abs
open Go.RowKit Go.Proofs
def planPV (t:Tables) (f:Flight) (o:Opt):PV:=if planE t f o=0 then .agg [.int .i64 (planW f o),.int .i64 (firstB f o).Lo,.int .i64 (firstB f o).Hi,.list 2 (encBounds (planL t f o))] else .agg [.int .i64 0,.int .i64 0,.int .i64 0,.list 0 []]
set_option maxHeartbeats 2000000 in
theorem tr_planned (t:Tables) (f:Flight) (o:Opt):CallsPV Tryz.prog 57 [encTables t,encFlight f,encOpt o] (.tup [planPV t f o,.int .i64 (planE t f o)]):=by
 have hdel:=fl_Delay t f o
 by_cases h0:planE t f o=0
 ·obtain ⟨k,w,h⟩:=planE_plan h0
  have h1:=h.del
  have h2:=h.can
  have h3:=h.k0
  have h4:=h.hk
  have h5:=h.d0
  have h6:=h.w0
  have h7:=h.hw
  have h8:=h.p0
  have h9:=h.hl
  have h10:=h.win
  have h11:=h.h0
  have hkl:=(List.getElem?_eq_some_iff.1 h4).1
  have hlegs:∀lg v,lg=encLegs w.Legs→v=encSpanLs k.Curfews→CallsPV Tryz.prog 131 [.agg [.int .i64 k.Slow,.int .i64 k.Fast,.int .i64 k.Places,.int .i64 k.Weight,.int .i64 k.Longest,.list 1 v],.list 4 lg,.int .i64 o.Hold] (.tup [.list 2 (encBounds (planL t f o)),.int .i64 0]):=fun lg v e1 e2=>by
   have:=speed_Legs k h.kok w.Legs h.lok o.Hold ⟨h11.1,h11.2.1⟩ e1
   rw [h.leg,e2];exact this
  rw [h1] at hdel
  rw [planPV,if_pos h0,h0]
  generalize (delayF t f o).1=d1 at hdel
  generalize (delayF t f o).2.1=d2 at hdel
  generalize planW f o=pw at h7 h8 h9
  simp only [firstB]
  generalize encBounds (planL t f o)=bl at hlegs
  clear h h0 h1
  refine callsPV_by (clo:=fun _=>false) (rows:=false) env_ok Tryz.func57 rfl (enters_of Tryz.func57 (by kernel_rfl) rfl) (fun A q P Y hr hA hq=>?_)
  obtain ⟨ss,hss⟩:∃ss,ss=encSectors t.Sectors:=⟨_,rfl⟩
  obtain ⟨cs,hcs⟩:∃cs,cs=encConfigs t.Configs:=⟨_,rfl⟩
  obtain ⟨ws,hws⟩:∃ws,ws=encWays t.Ways:=⟨_,rfl⟩
  obtain ⟨ms,hms⟩:∃ms,ms=encIntLs t.Modes:=⟨_,rfl⟩
  obtain ⟨ks,hks⟩:∃ks,ks=encKinds t.Kinds:=⟨_,rfl⟩
  obtain ⟨nv,hnv⟩:∃nv,nv=t.Volumes:=⟨_,rfl⟩
  have htab:encTables t=.agg [.int .i64 nv,.list 5 ss,.list 3 cs,.list 3 ws,.list 1 ms,.list 6 ks]:=by rw [encTables_eq t hss hcs hws hms hks,hnv]
  rw [htab] at hdel ⊢
  obtain ⟨f1,f2,f3,f4,f5,⟨f6,f7⟩,f8⟩:=f
  obtain ⟨fl,hfl⟩:∃fl,fl=encInts f5:=⟨_,rfl⟩
  rw [encFlight_eq _ hfl] at hdel ⊢
  obtain ⟨o1,o2,o3,o4⟩:=o
  simp only at hdel h2 h3 h4 h5 h6 h7 h10 h11 hkl hlegs hq ⊢
  subst h2
  obtain ⟨k1,k2,k3,k4,k5,k6⟩:=k
  obtain ⟨w1,w2,w3⟩:=w
  simp only at hlegs
  have e1:A.iAdd f6 o1=f6+o1:=addI hA _ _
  have e2:A.iSub f7 1=f7 - 1:=subI hA _ _
  have e3:A.iAdd (A.iSub f7 1) o1=f7 - 1+o1:=by rw [addI hA,e2]
  conv=>cbv
  refine call_intro hA (hdel) ?_
  conv=>cbv
  split
  ·rename_i hc
   cases (neT hA hc rfl)
  conv=>cbv
  refine idx_Int hA hfl h6.1 h6.2 (fun x hx=>?_)
  obtain rfl:=Option.some.inj (h7.symm.trans hx)
  conv=>cbv
  refine ⟨inR' hA e1 (by unfold inI64;omega),inR' hA e2 (by unfold inI64;omega),inR' hA e3 (by unfold inI64;omega),?_⟩
  refine ⟨draw_intro hA (by kernel_rfl),?_⟩
  refine idx_Kind hA hks h3 (by omega) (fun z v hz hv=>?_)
  obtain rfl:=Option.some.inj (h4.symm.trans hz)
  conv=>cbv
  refine idx_Way hA hws h8.1 h8.2 (fun z lg hz hlg=>?_)
  obtain rfl:=Option.some.inj (h9.symm.trans hz)
  conv=>cbv
  refine call_intro hA (hlegs lg v hlg hv) ?_
  conv=>cbv
  refine Eq.trans ?_ hq
  show PV.tup [.agg [_,.int .i64 (A.iAdd f6 o1),.int .i64 (A.iAdd (A.iSub f7 1) o1),_],_]=_
  rw [e1,e3]
 ·rw [planPV,if_neg h0]
  have hE:planE t f o=if (delayF t f o).2.2=0 then if o.Cancel then 160 else 0 else (delayF t f o).2.2:=rfl
  generalize (delayF t f o).1=d1 at hdel
  generalize (delayF t f o).2.1=d2 at hdel
  generalize (delayF t f o).2.2=d3 at hdel hE
  generalize planE t f o=pe at h0 hE
  refine callsPV_by (clo:=fun _=>false) (rows:=false) env_ok Tryz.func57 rfl (enters_of Tryz.func57 (by kernel_rfl) rfl) (fun A q P Y hr hA hq=>?_)
  obtain ⟨ss,hss⟩:∃ss,ss=encSectors t.Sectors:=⟨_,rfl⟩
  obtain ⟨cs,hcs⟩:∃cs,cs=encConfigs t.Configs:=⟨_,rfl⟩
  obtain ⟨ws,hws⟩:∃ws,ws=encWays t.Ways:=⟨_,rfl⟩
  obtain ⟨ms,hms⟩:∃ms,ms=encIntLs t.Modes:=⟨_,rfl⟩
  obtain ⟨ks,hks⟩:∃ks,ks=encKinds t.Kinds:=⟨_,rfl⟩
  obtain ⟨nv,hnv⟩:∃nv,nv=t.Volumes:=⟨_,rfl⟩
  have htab:encTables t=.agg [.int .i64 nv,.list 5 ss,.list 3 cs,.list 3 ws,.list 1 ms,.list 6 ks]:=by rw [encTables_eq t hss hcs hws hms hks,hnv]
  rw [htab] at hdel ⊢
  obtain ⟨f1,f2,f3,f4,f5,⟨f6,f7⟩,f8⟩:=f
  obtain ⟨fl,hfl⟩:∃fl,fl=encInts f5:=⟨_,rfl⟩
  rw [encFlight_eq _ hfl] at hdel ⊢
  obtain ⟨o1,o2,o3,o4⟩:=o
  simp only at hdel hE ⊢
  conv=>cbv
  refine call_intro hA (hdel) ?_
  conv=>cbv
  split
  ·rename_i hc
   have h1:=neT hA hc
   rw [if_neg h1] at hE
   conv=>cbv
   rw [←hq,hE]
  rename_i hc
  have h1:=neF hA hc
  rw [if_pos h1] at hE
  cases o4 with
  | true =>
   conv=>cbv
   rw [←hq,hE];rfl
  | false =>
   exact absurd hE h0
def prodI:List Int→Int
 | []=>1
 | x::r=>x*prodI r
theorem prodI_append:∀(a b:List Int),prodI (a++b)=prodI a*prodI b
 | [],b=>by simp [prodI]
 | x::a,b=>by rw [List.cons_append,prodI,prodI_append a b,prodI,Int.mul_assoc]
theorem prodI_pos:∀{l:List Int},(∀x∈l,1≤x)→1≤prodI l
 | [],_=>by simp [prodI]
 | x::r,h=>by
  have h1:=h x (by simp)
  have h2:=prodI_pos fun y hy=>h y (List.mem_cons_of_mem x hy)
  rw [prodI]
  have:1*1≤x*prodI r:=Int.mul_le_mul h1 h2 (by omega) (by omega)
  omega
theorem tr_product (l:List Int) {xs:List PV} (hx:xs=encInts l) (hl:∀x∈l,1≤x∧x≤1000000):CallsPV Tryz.prog 132 [.list 1 xs] (.int .i64 (if prodI l≤4096 then prodI l else 4097)):=by
 refine callsPV_by (clo:=fun _=>false) (rows:=false) env_ok Tryz.func132 rfl (enters_of Tryz.func132 (by kernel_rfl) rfl) (fun A q P Y hr hA hq=>?_)
 have hll:xs.length=l.length:=by rw [hx];simp [encInts]
 have hlen:l.length≤9223372036854775807:=by have:=(hr.mem (p:=.list 1 xs) (by simp)).len;omega
 conv=>cbv
 refine loop_set hA (fun (z:Int × Int) s=>(s.put (some 8) (.val (.int .i64 z.1))).put (some 3) (.val (.int .i64 z.2))) (fun z=>0≤z.1∧z.1≤l.length∧z.2=prodI (l.take z.1.toNat)∧z.2≤4096) (fun z=>((l.length:Int) - z.1).toNat) (0,1) ?_ ?_ ?_
 ·conv=>cbv
  exact wk_sl (by repeat (first | refine leL_same ?_ | refine leL_any ?_ | exact leL_nil))
 ·exact ⟨Int.le_refl _,by omega,by simp [prodI],by omega⟩
 rintro R ⟨i,n⟩ ⟨hi0,hi1,hn,hn4⟩ hR
 simp only at hi0 hi1 hn hn4
 have hn1:1≤n:=by rw [hn];exact prodI_pos fun x hx=>(hl x (List.mem_of_mem_take hx)).1
 conv=>cbv
 split
 ·rename_i hc
  have hi:i<l.length:=ltT' hA rfl (lenI hA hll) hc
  have his:A.iAdd i 1=i+1:=addI hA _ _
  have hir:A.inR (A.iAdd i 1):=inR' hA his (by unfold inI64;omega)
  conv=>cbv
  refine idx_Int hA hx hi0 hi (fun x hx0=>?_)
  have ht:=take_snoc' hi0 hx0
  have hxb:=hl x (List.mem_of_getElem? hx0)
  have e:A.iMul n x=n*x:=mulI hA _ _
  have hu:n*x≤4096*1000000:=Int.mul_le_mul hn4 hxb.2 (by omega) (by omega)
  have hlo:1*1≤n*x:=Int.mul_le_mul hn1 hxb.1 (by omega) (by omega)
  have hp:n*x=prodI (l.take (i+1).toNat):=by rw [ht,prodI_append,hn];simp [prodI]
  have hdvd:prodI l=n*x*prodI (l.drop (i+1).toNat):=by
   rw [hp,←prodI_append,List.take_append_drop]
  have hdp:1≤prodI (l.drop (i+1).toNat):=prodI_pos fun y hy=>(hl y (List.mem_of_mem_drop hy)).1
  conv=>cbv
  refine ⟨inR' hA e (by unfold inI64;omega),?_⟩
  split
  ·rename_i hc
   have h1:=ltT' hA rfl e hc
   have h2:n*x*1≤n*x*prodI (l.drop (i+1).toNat):=Int.mul_le_mul_of_nonneg_left hdp (by omega)
   conv=>cbv
   rw [←hq,if_neg (by omega)]
  ·rename_i hc
   have h1:=ltF' hA rfl e hc
   conv=>cbv
   refine ⟨hir,hR (A.iAdd i 1,A.iMul n x) _ ?_ ?_ ?_⟩
   ·conv=>cbv
    exact wk_sl (by repeat (first | refine leL_same ?_ | refine leL_any ?_ | exact leL_nil))
   ·show 0≤A.iAdd i 1∧A.iAdd i 1≤l.length∧A.iMul n x=prodI (l.take (A.iAdd i 1).toNat)∧A.iMul n x≤4096
    rw [his,e]
    exact ⟨by omega,by omega,hp,h1⟩
   ·show ((l.length:Int) - A.iAdd i 1).toNat<((l.length:Int) - i).toNat
    rw [his];omega
 ·rename_i hc
  have hi:l.length≤i:=ltF' hA rfl (lenI hA hll) hc
  rw [List.take_of_length_le (by omega)] at hn
  conv=>cbv
  rw [←hq,←hn,if_pos hn4]
def widthI (b:Bound):Int:=b.Hi - b.Lo+1
theorem prodI_width:∀{bs:List Bound},(∀b∈bs,b.Lo≤b.Hi)→prodI (bs.map widthI)=prodB bs
 | [],_=>rfl
 | b::r,h=>by
  have h1:=h b (by simp)
  rw [List.map_cons,prodI,prodB,prodI_width fun c hc=>h c (by simp [hc]),Int.natCast_mul]
  congr 1
  unfold widthI widthB
  omega
set_option maxHeartbeats 1000000 in
theorem tr_many (way:Int) (first:Bound) (legs:List Bound) (hb:∀b∈first::legs,-10000≤b.Lo∧b.Lo≤b.Hi∧b.Hi≤10000) (hl:legs.length≤100) {bl:List PV} (hbl:bl=encBounds legs) :
  CallsPV Tryz.prog 58 [.agg [.int .i64 way,.int .i64 first.Lo,.int .i64 first.Hi,.list 2 bl]] (.int .i64 (if prodB (first::legs)≤4096 then prodB (first::legs) else 4097)):=by
 have hprod:=fun xs (hx:xs=encInts ((first::legs).map widthI))=>tr_product _ hx (fun x hx=>by
  obtain ⟨b,hb1,rfl⟩:=List.mem_map.1 hx
  have:=hb b hb1
  unfold widthI;omega)
 rw [prodI_width (fun b h=>(hb b h).2.1)] at hprod
 have hif:(if (prodB (first::legs):Int)≤4096 then (prodB (first::legs):Int) else 4097)=(if prodB (first::legs)≤4096 then (prodB (first::legs):Int) else 4097):=by
  split<;>split<;>omega
 rw [hif] at hprod
 generalize (if prodB (first::legs)≤4096 then (prodB (first::legs):Int) else 4097)=r at hprod ⊢
 refine callsPV_by (clo:=fun _=>false) (rows:=false) env_ok Tryz.func58 rfl (enters_of Tryz.func58 (by kernel_rfl) rfl) (fun A q P Y hr hA hq=>?_)
 have hbll:bl.length=legs.length:=by rw [hbl];simp [encBounds]
 have hbf:=hb first (by simp)
 obtain ⟨f1,f2⟩:=first
 simp only at hbf hprod ⊢
 have e1:A.iSub f2 f1=f2 - f1:=subI hA _ _
 have e2:A.iAdd (A.iSub f2 f1) 1=f2 - f1+1:=by rw [addI hA,e1]
 conv=>cbv
 refine ⟨inR' hA e1 (by unfold inI64;omega),inR' hA e2 (by unfold inI64;omega),?_⟩
 refine loop_set hA (fun (z:Int × List PV) s=>{ (s.put (some 18) (.val (.int .i64 z.1))).put (some 3) (.own 0 1 z.2) with tk:=[(A.nLen z.2,3)] }) (fun z=>0≤z.1∧z.1≤legs.length∧z.2=encInts ((⟨f1,f2⟩::legs.take z.1.toNat).map widthI)) (fun z=>((legs.length:Int) - z.1).toNat) (0,[.int .i64 (A.iAdd (A.iSub f2 f1) 1)]) ?_ ?_ ?_
 ·conv=>cbv
  exact wk_own 3 1 1 _ _ rfl (.inl rfl) (by repeat (first | refine leL_same ?_ | refine leL_any ?_ | exact leL_nil)) (by subst hA;rfl)
 ·refine ⟨Int.le_refl _,by omega,?_⟩
  show [PV.int .i64 (A.iAdd (A.iSub f2 f1) 1)]=_
  rw [e2];rfl
 rintro R ⟨i,L⟩ ⟨hi0,hi1,hL⟩ hR
 simp only at hi0 hi1 hL
 conv=>cbv
 split
 ·rename_i hc
  have hi:i<legs.length:=ltT' hA rfl (lenI hA hbll) hc
  have his:A.iAdd i 1=i+1:=addI hA _ _
  have hir:A.inR (A.iAdd i 1):=inR' hA his (by unfold inI64;omega)
  conv=>cbv
  refine idx_Bound hA hbl hi0 hi (fun b hb0=>?_)
  have ht:=take_snoc' hi0 hb0
  have hbb:=hb b (List.mem_cons_of_mem _ (List.mem_of_getElem? hb0))
  obtain ⟨b1,b2⟩:=b
  simp only at hbb
  have g1:A.iSub b2 b1=b2 - b1:=subI hA _ _
  have g2:A.iAdd (A.iSub b2 b1) 1=b2 - b1+1:=by rw [addI hA,g1]
  have hLl:L.length≤1000:=by rw [hL];simp [encInts];omega
  have hnext:A.lApp L [.int .i64 (A.iAdd (A.iSub b2 b1) 1)]=encInts ((⟨f1,f2⟩::legs.take (i+1).toNat).map widthI):=by
   rw [ht,g2,hL]
   subst hA
   show encInts _++_=_
   simp [encInts,encInt,widthI]
  have htk:A.tkEq (A.nLen L) (A.nLen L):=by subst hA;rfl
  have hroom:A.room (A.nLen (A.lApp L [.int .i64 (A.iAdd (A.iSub b2 b1) 1)])) 8:=by
   subst hA
   show (L++[_]).length*(8+1)≤140737488355328
   rw [List.length_append,List.length_singleton];omega
  conv=>cbv
  refine ⟨inR' hA g1 (by unfold inI64;omega),inR' hA g2 (by unfold inI64;omega),⟨htk,hroom⟩,hir,hR (A.iAdd i 1,A.lApp L [.int .i64 (A.iAdd (A.iSub b2 b1) 1)]) _ ?_ ?_ ?_⟩
  ·conv=>cbv
   exact wk_round (bx:=[_]) (bx':=[_]) (mp:=[]) (mp':=[]) (by repeat (first | refine leL_same ?_ | refine leL_any ?_ | refine leL_own ?_ | exact leL_nil)) (by simp) (by simp) rfl rfl
  ·show 0≤A.iAdd i 1∧A.iAdd i 1≤legs.length∧_=encInts ((⟨f1,f2⟩::legs.take (A.iAdd i 1).toNat).map widthI)
   rw [his]
   exact ⟨by omega,by omega,hnext⟩
  ·show ((legs.length:Int) - A.iAdd i 1).toNat<((legs.length:Int) - i).toNat
   rw [his];omega
 ·rename_i hc
  have hi:legs.length≤i:=ltF' hA rfl (lenI hA hbll) hc
  rw [List.take_of_length_le (by omega)] at hL
  conv=>cbv
  refine call_intro hA (hprod L hL) ?_
  conv=>cbv
  exact hq
end Go.Abs
namespace Go.Abs
open Go.RowKit Go.Proofs
theorem planPV_ok {t:Tables} {f:Flight} {o:Opt} (h:planE t f o=0):planPV t f o=.agg [.int .i64 (planW f o),.int .i64 (firstB f o).Lo,.int .i64 (firstB f o).Hi,.list 2 (encBounds (planL t f o))]:=by rw [planPV,if_pos h]
theorem planPV_no {t:Tables} {f:Flight} {o:Opt} (h:planE t f o≠0):planPV t f o=.agg [.int .i64 0,.int .i64 0,.int .i64 0,.list 0 []]:=by rw [planPV,if_neg h]
theorem PlanOk.all {t:Tables} {f:Flight} {o:Opt} {k:Kind} {w:Way} (h:PlanOk t f o k w):∀b∈firstB f o::planL t f o,-10000≤b.Lo∧b.Lo≤b.Hi∧b.Hi≤10000:=by
 intro b hb
 rcases List.mem_cons.1 hb with rfl | hb
 ·have:=h.first;omega
 ·have:=h.bounds.1 b hb;omega
theorem tr_Count (t:Tables) (f:Flight) (o:Opt):CallsPV Tryz.prog 15 [encTables t,encFlight f,encOpt o] (.tup [.int .i64 (countN t f o),.int .i64 (countE t f o)]):=by
 have hpl:=tr_planned t f o
 by_cases h0:planE t f o=0
 ·obtain ⟨k,w,h⟩:=planE_plan h0
  have hmany:=fun bl hbl=>tr_many (planW f o) (firstB f o) (planL t f o) h.all (by have:=h.bounds.2.2.2;omega) (bl:=bl) hbl
  rw [planPV_ok h0,h0] at hpl
  have hN:countE t f o=if manyT t f o≤4096 then 0 else 160:=by rw [countE,if_pos h0]
  have hC:countN t f o=if countE t f o=0 then (manyT t f o:Int) else 0:=rfl
  rw [hC,hN]
  have hm:prodB (firstB f o::planL t f o)=manyT t f o:=rfl
  rw [hm] at hmany
  generalize manyT t f o=n at hmany
  generalize planW f o=pw at hpl hmany
  generalize firstB f o=fb at hpl hmany
  generalize planL t f o=pL at hpl hmany
  obtain ⟨b1,b2⟩:=fb
  obtain ⟨bl,hbl⟩:∃bl,bl=encBounds pL:=⟨_,rfl⟩
  have hm2:=hmany bl hbl
  rw [←hbl] at hpl
  obtain ⟨r,hr⟩:∃r:Int,r=if n≤4096 then (n:Int) else 4097:=⟨_,rfl⟩
  rw [←hr] at hm2
  have hr2:(n≤4096∧r=n)∨(4096<n∧r=4097):=by rw [hr];split<;>omega
  clear hr
  clear hmany hN hC hm h h0
  refine callsPV_by (clo:=fun _=>false) (rows:=false) env_ok Tryz.func15 rfl (enters_of Tryz.func15 (by kernel_rfl) rfl) (fun A q P Y hr hA hq=>?_)
  obtain ⟨ss,hss⟩:∃ss,ss=encSectors t.Sectors:=⟨_,rfl⟩
  obtain ⟨cs,hcs⟩:∃cs,cs=encConfigs t.Configs:=⟨_,rfl⟩
  obtain ⟨ws,hws⟩:∃ws,ws=encWays t.Ways:=⟨_,rfl⟩
  obtain ⟨ms,hms⟩:∃ms,ms=encIntLs t.Modes:=⟨_,rfl⟩
  obtain ⟨ks,hks⟩:∃ks,ks=encKinds t.Kinds:=⟨_,rfl⟩
  obtain ⟨nv,hnv⟩:∃nv,nv=t.Volumes:=⟨_,rfl⟩
  have htab:encTables t=.agg [.int .i64 nv,.list 5 ss,.list 3 cs,.list 3 ws,.list 1 ms,.list 6 ks]:=by rw [encTables_eq t hss hcs hws hms hks,hnv]
  rw [htab] at hpl ⊢
  obtain ⟨f1,f2,f3,f4,f5,⟨f6,f7⟩,f8⟩:=f
  obtain ⟨fl,hfl⟩:∃fl,fl=encInts f5:=⟨_,rfl⟩
  rw [encFlight_eq _ hfl] at hpl ⊢
  obtain ⟨o1,o2,o3,o4⟩:=o
  simp only at hpl hm2 ⊢
  conv=>cbv
  refine call_intro hA (hpl) ?_
  conv=>cbv
  split
  ·rename_i hc
   cases (neT hA hc rfl)
  conv=>cbv
  refine call_intro hA (hm2) ?_
  conv=>cbv
  split
  ·rename_i hc
   have h1:=ltT hA hc
   conv=>cbv
   rw [←hq,if_neg (show ¬n≤4096 by omega)];rfl
  ·rename_i hc
   have h1:=ltF hA hc
   have h2:n≤4096:=by omega
   have h3:r=n:=by omega
   rw [if_pos h2] at hq
   conv=>cbv
   rw [←hq,h3];rfl
 ·rw [planPV_no h0] at hpl
  have hE:countE t f o=planE t f o:=by rw [countE,if_neg h0]
  have hN:countN t f o=0:=by rw [countN,hE,if_neg h0]
  rw [hE,hN]
  generalize planE t f o=e at hpl h0
  refine callsPV_by (clo:=fun _=>false) (rows:=false) env_ok Tryz.func15 rfl (enters_of Tryz.func15 (by kernel_rfl) rfl) (fun A q P Y hr hA hq=>?_)
  obtain ⟨ss,hss⟩:∃ss,ss=encSectors t.Sectors:=⟨_,rfl⟩
  obtain ⟨cs,hcs⟩:∃cs,cs=encConfigs t.Configs:=⟨_,rfl⟩
  obtain ⟨ws,hws⟩:∃ws,ws=encWays t.Ways:=⟨_,rfl⟩
  obtain ⟨ms,hms⟩:∃ms,ms=encIntLs t.Modes:=⟨_,rfl⟩
  obtain ⟨ks,hks⟩:∃ks,ks=encKinds t.Kinds:=⟨_,rfl⟩
  obtain ⟨nv,hnv⟩:∃nv,nv=t.Volumes:=⟨_,rfl⟩
  have htab:encTables t=.agg [.int .i64 nv,.list 5 ss,.list 3 cs,.list 3 ws,.list 1 ms,.list 6 ks]:=by rw [encTables_eq t hss hcs hws hms hks,hnv]
  rw [htab] at hpl ⊢
  obtain ⟨f1,f2,f3,f4,f5,⟨f6,f7⟩,f8⟩:=f
  obtain ⟨fl,hfl⟩:∃fl,fl=encInts f5:=⟨_,rfl⟩
  rw [encFlight_eq _ hfl] at hpl ⊢
  obtain ⟨o1,o2,o3,o4⟩:=o
  simp only at hpl ⊢
  conv=>cbv
  refine call_intro hA (hpl) ?_
  conv=>cbv
  split
  rotate_left
  ·rename_i hc
   cases ((h0 (neF hA hc)))
  conv=>cbv
  exact hq
theorem flies_iff {first:Bound} {legs:List Bound} {ts:List Int}:fliesT 0 (first::legs) ts↔ts.length=legs.length+1∧(∀x,ts[0]?=some x→first.Lo≤x∧x≤first.Hi)∧∀(i:Nat) (b:Bound) (x y:Int),legs[i]?=some b→ts[i]?=some x→ts[i+1]?=some y→x+b.Lo≤y∧y≤x+b.Hi:=by
 rw [fliesT_get]
 constructor
 ·rintro ⟨h1,h2⟩
  refine ⟨h1,fun x hx=>by have:=h2 0 first x 0 rfl hx rfl;omega,fun i b x y hb hx hy=>h2 (i+1) b y x (by simpa using hb) hy (by simpa using hx)⟩
 ·rintro ⟨h1,h2,h3⟩
  refine ⟨h1,fun k b t p hb ht hp=>?_⟩
  cases k with
  | zero =>
   simp at hb hp
   subst hb hp
   have:=h2 t ht
   omega
  | succ k=>exact h3 k b p t (by simpa using hb) (by simpa using hp) ht
open Classical in
theorem fliesB_ok {t:Tables} {f:Flight} {o:Opt} {p:Path} (h:planE t f o=0):fliesB t f o p=true↔p.Way=planW f o∧fliesT 0 (firstB f o::planL t f o) p.Times:=by
 unfold fliesB
 rw [decide_eq_true_iff]
 exact ⟨fun x=>x.2,fun x=>⟨h,x⟩⟩
end Go.Abs
namespace Go.Abs
open Go.RowKit Go.Proofs
instance:DecidableEq Path:=fun a b=>decidable_of_iff (a.Way=b.Way∧a.Times=b.Times) ⟨fun h=>by cases a;cases b;simp only at h;rw [h.1,h.2],fun h=>by rw [h];exact ⟨rfl,rfl⟩⟩
end Go.Abs
namespace Go.Abs
open Go.RowKit
def Old (w:World) (a:Addr):Prop:=a.block<w.heap.size
def Rd {α:Type} (P:Program) (t:TypeId) (enc:α→PV) (ok:α→Prop):Prop :=
 ∀(H:Type) (en:TypeId × Value→H) (w:World) (sp:Nat→Bool) (held:Bool) (fuel:Nat) (cs:List Value) (x:DataW H × List MemPlace),
  DataW.trod en P w 0 sp held fuel t cs=some x→∃a,ok a∧RVs (Old w) w (enc a).cells cs∧∀v∈cs,v.oneCell'=true
theorem add_add (a:Addr) (i j:Nat):(a.add i).add j=a.add (i+j):=by
 obtain ⟨b,o,sp⟩:=a
 simp only [Addr.add]
 by_cases hi:i=0
 ·subst hi;simp
 ·by_cases hj:j=0
  ·subst hj;simp [hi]
  ·simp [hi,hj,Nat.add_assoc]
theorem RVs.one {S:Addr→Prop} {w:World} {p:PV} {v:Value} (h:RV S w p v):RVs S w [p] [v]:=RVs.cons h RVs.nil
theorem RVs.of_one {S:Addr→Prop} {w:World} {p:PV} {v:Value} (h:RVs S w [p] [v]):RV S w p v:=h.2 0 p v rfl rfl
section
variable {P:Program} {t e:TypeId}
theorem rd_int {k:IntKind} (ht:P.underlying t=some (.int k)):Rd P t (PV.int k) fun n=>(Lit.int k n).wf=true:=by
 intro H en w sp held fuel cs x h
 obtain ⟨n,rfl,_,hw⟩:=DataW.trod_int ht h
 exact ⟨n,hw,RVs.one (.int _ _),by simp [Value.oneCell']⟩
theorem rd_bool (ht:P.underlying t=some .bool):Rd P t PV.bool fun _=>True:=by
 intro H en w sp held fuel cs x h
 obtain ⟨b,rfl,_⟩:=DataW.trod_bool ht h
 exact ⟨b,trivial,RVs.one (.bool _),by simp [Value.oneCell']⟩
theorem rd_str (ht:P.underlying t=some .string):Rd P t PV.str fun s=>s.size≤maxLen:=by
 intro H en w sp held fuel cs x h
 obtain ⟨s,rfl,_,hw⟩:=DataW.trod_string ht h
 exact ⟨s,hw,RVs.one (.str _),by simp [Value.oneCell']⟩
theorem pick_list {α:Type} {Q:Nat→α→Prop}:∀(n:Nat),(∀i,i<n→∃a,Q i a)→∃l:List α,l.length=n∧∀i a,l[i]?=some a→Q i a
 | 0,_=>⟨[],rfl,fun i a h=>by simp at h⟩
 | n+1,h=>by
  obtain ⟨l,h1,h2⟩:=pick_list n fun i hi=>h i (by omega)
  obtain ⟨a,ha⟩:=h n (by omega)
  refine ⟨l++[a],by simp [h1],fun i b hb=>?_⟩
  by_cases hi:i<l.length
  ·rw [List.getElem?_append_left hi] at hb
   exact h2 i b hb
  ·rw [List.getElem?_append_right (by omega)] at hb
   have:i - l.length=0:=by
    by_cases h0:i - l.length=0
    ·exact h0
    ·rw [List.getElem?_eq_none (by simp;omega)] at hb;cases hb
   rw [this] at hb
   simp at hb
   subst hb
   have:i=n:=by omega
   subst this
   exact ha
theorem rd_slice {α:Type} {enc:α→PV} {ok:α→Prop} {m:Nat} (ht:P.underlying t=some (.slice e)) (hm:P.cellsOf e=m) (hm0:0<m) (hr:Rd P e enc ok) :
  Rd P t (fun l:List α=>.list m (l.map enc)) fun l=>∀x∈l,ok x:=by
 intro H en w sp held fuel cs x h
 rcases DataW.trod_slice ht h with ⟨rfl,_⟩ | ⟨a,len,cap,elems,rest,n,_,rfl,_,_,h1,h2,h3,h4,_⟩
 ·refine ⟨[],by simp,RVs.one ?_,by simp [Value.oneCell']⟩
  exact .list m [] none ⟨0,0,none⟩ 0 (fun _ _=>.int .i64 0) (by simp) (by simp) (by decide) (by simp) (by simp) (by simp) (fun _=>rfl)
 ·have hel:∀i,i<len→∃y:α × List Value,ok y.1∧RVs (Old w) w (enc y.1).cells y.2∧(∀v∈y.2,v.oneCell'=true)∧w.cells? 0 (a.add (i*P.cellsOf e)) (P.cellsOf e)=some y.2:=by
   intro i hi
   have h5:=h4 i hi
   rw [List.getElem?_eq_getElem (by omega),Option.bind_eq_some_iff] at h5
   obtain ⟨cs',h6,h7⟩:=h5
   obtain ⟨y,k1,k2,k3⟩:=hr H en w sp held n cs' _ h7
   exact ⟨(y,cs'),k1,k2,k3,h6⟩
  obtain ⟨l,hl,hq⟩:=pick_list len hel
  subst hm
  have hcell:∀(i:Nat) (y:α × List Value) (j:Nat) (c:PV),l[i]?=some y→(enc y.1).cells[j]?=some c→∃v,y.2[j]?=some v∧RV (Old w) w c v∧v.oneCell'=true∧w.cell? (a.add (i*P.cellsOf e+j))=some v:=by
   intro i y j c hy hc
   obtain ⟨q1,q2,q3,q4⟩:=hq i y hy
   obtain ⟨_,q5,q6⟩:=World.cells?_some q4
   have hj:j<y.2.length:=by rw [←q2.1];exact (List.getElem?_eq_some_iff.1 hc).1
   refine ⟨y.2[j],List.getElem?_eq_getElem hj,q2.2 j c _ hc (List.getElem?_eq_getElem hj),q3 _ (List.getElem_mem hj),?_⟩
   rw [←add_add,q6 j (by omega),List.getElem?_eq_getElem hj]
  have hget:∀(i:Nat) (p:PV),((l.map (·.1)).map enc)[i]?=some p→∃y,l[i]?=some y∧p=enc y.1:=by
   intro i p hp
   rw [List.map_map,List.getElem?_map,Option.map_eq_some_iff] at hp
   obtain ⟨y,hy,rfl⟩:=hp
   exact ⟨y,hy,rfl⟩
  refine ⟨l.map (·.1),?_,RVs.one ?_,by simp [Value.oneCell']⟩
  ·intro y hy
   rw [List.mem_map] at hy
   obtain ⟨z,hz,rfl⟩:=hy
   obtain ⟨i,hi⟩:=List.getElem?_of_mem hz
   exact (hq i z hi).1
  ·have hlen:((l.map (·.1)).map enc).length=len:=by simp [hl]
   rw [←hlen]
   refine .list _ _ _ a cap (fun i j=>((l[i]?.map (·.2)).getD []).getD j (.int .i64 0)) (fun _=>rfl) (by omega) h2 ?_ ?_ ?_ (fun h=>absurd h (Nat.ne_of_gt hm0))
   ·intro i p hp
    obtain ⟨y,hy,rfl⟩:=hget i p hp
    obtain ⟨q1,q2,q3,q4⟩:=hq i y hy
    rw [q2.1]
    exact (World.cells?_some q4).2.1
   ·intro i p j c hp hc
    obtain ⟨y,hy,rfl⟩:=hget i p hp
    obtain ⟨v,v1,v2,v3,v4⟩:=hcell i y j c hy hc
    have e1:((l[i]?.map (·.2)).getD []).getD j (.int .i64 0)=v:=by rw [hy];simp [v1]
    rw [e1]
    refine ⟨?_,v4,v3⟩
    have:=World.block_lt_of_cell? w _ v4
    simpa [Old] using this
   ·intro i p j c hp hc
    obtain ⟨y,hy,rfl⟩:=hget i p hp
    obtain ⟨v,v1,v2,v3,v4⟩:=hcell i y j c hy hc
    have e1:((l[i]?.map (·.2)).getD []).getD j (.int .i64 0)=v:=by rw [hy];simp [v1]
    rw [e1]
    exact v2
def tight (P:Program):Nat→List Field→Nat→Bool
 | o,[],n=>decide (o=n)
 | o,f::r,n=>decide (f.offset=o)&&tight P (o+P.cellsOf f.type) r n
theorem tight_pieces:∀{l:List Field} {o n:Nat} {cs:List Value},tight P o l n=true→cs.length=n→∃ps:List (List Value),ps.length=l.length∧cs.drop o=ps.flatten∧∀(i:Nat) (f:Field),l[i]?=some f→ps[i]?=some ((cs.drop f.offset).take (P.cellsOf f.type))
 | [],o,n,cs,h,hl=>by
  simp [tight] at h
  exact ⟨[],rfl,by rw [List.drop_eq_nil_of_le (by omega)];rfl,by simp⟩
 | f::r,o,n,cs,h,hl=>by
  simp only [tight,Bool.and_eq_true,decide_eq_true_eq] at h
  obtain ⟨ps,h1,h2,h3⟩:=tight_pieces h.2 hl
  refine ⟨((cs.drop f.offset).take (P.cellsOf f.type))::ps,by simp [h1],?_,fun i g hg=>?_⟩
  ·rw [List.flatten_cons,←h2,←h.1,←List.drop_drop,List.take_append_drop]
  ·cases i with
   | zero=>simp at hg;subst hg;rfl
   | succ i=>simpa using h3 i g (by simpa using hg)
theorem trod_fields {fs:Array Field} (ht:P.underlying t=some (.struct fs)) (hti:tight P 0 fs.toList (P.cellsOf t)=true) {H:Type} {en:TypeId × Value→H} {w:World} {sp:Nat→Bool} {held:Bool} {fuel:Nat} {cs:List Value} {x:DataW H × List MemPlace}
  (h:DataW.trod en P w 0 sp held fuel t cs=some x):∃(ps:List (List Value)) (n:Nat),ps.length=fs.toList.length∧cs=ps.flatten∧∀(i:Nat) (f:Field),fs.toList[i]?=some f→∃p y,ps[i]?=some p∧DataW.trod en P w 0 sp held n f.type p=some y:=by
 obtain ⟨xs,n,_,_,h1,h2,h3⟩:=DataW.trod_struct ht h
 obtain ⟨ps,k1,k2,k3⟩:=tight_pieces hti h1
 refine ⟨ps,n,k1,by simpa using k2,fun i f hf=>?_⟩
 have hi:i<fs.toList.length:=(List.getElem?_eq_some_iff.1 hf).1
 have hx:i<xs.length:=by rw [h2];simpa using hi
 refine ⟨_,xs[i],k3 i f hf,?_⟩
 rw [h3 i f (by simpa using hf),List.getElem?_eq_getElem hx]
def RdL {α:Type} (P:Program) (ts:List Field) (enc:α→List PV) (ok:α→Prop):Prop :=
 ∀(H:Type) (en:TypeId × Value→H) (w:World) (sp:Nat→Bool) (held:Bool) (n:Nat) (ps:List (List Value)),ps.length=ts.length →
  (∀(i:Nat) (f:Field),ts[i]?=some f→∃p y,ps[i]?=some p∧DataW.trod en P w 0 sp held n f.type p=some y) →
  ∃a,ok a∧RVs (Old w) w (enc a) ps.flatten∧∀v∈ps.flatten,v.oneCell'=true
theorem rdL_nil:RdL P [] (fun _:Unit=>[]) fun _=>True:=by
 intro H en w sp held n ps h1 h2
 match ps,h1 with
 | [],_=>exact ⟨(),trivial,RVs.nil,by simp⟩
theorem rdL_cons {A B:Type} {a:A→PV} {oka:A→Prop} {b:B→List PV} {okb:B→Prop} {f:Field} {r:List Field} (ra:Rd P f.type a oka) (rb:RdL P r b okb) :
  RdL P (f::r) (fun x:A × B=>(a x.1).cells++b x.2) fun x=>oka x.1∧okb x.2:=by
 intro H en w sp held n ps h1 h2
 match ps,h1 with
 | p::ps,h1 =>
  obtain ⟨p0,y0,e0,t0⟩:=h2 0 f rfl;simp at e0;subst e0
  obtain ⟨a0,o0,r0,s0⟩:=ra H en w sp held n _ _ t0
  obtain ⟨b0,o1,r1,s1⟩:=rb H en w sp held n ps (by simpa using h1) fun i g hg=>by simpa using h2 (i+1) g (by simpa using hg)
  refine ⟨(a0,b0),⟨o0,o1⟩,?_,?_⟩
  ·rw [List.flatten_cons];exact r0.append r1
  ·intro v hv
   rw [List.flatten_cons,List.mem_append] at hv
   rcases hv with hv | hv
   ·exact s0 v hv
   ·exact s1 v hv
theorem rd_struct {α B:Type} {enc:α→PV} {ok:α→Prop} {b:B→List PV} {okb:B→Prop} {fs:Array Field} (ht:P.underlying t=some (.struct fs)) (hti:tight P 0 fs.toList (P.cellsOf t)=true)
  (rb:RdL P fs.toList b okb) (mk:∀x,okb x→∃y,ok y∧(enc y).cells=b x):Rd P t enc ok:=by
 intro H en w sp held fuel cs x h
 obtain ⟨ps,n,h1,rfl,h3⟩:=trod_fields ht hti h
 obtain ⟨z,k1,k2,k3⟩:=rb H en w sp held n ps h1 h3
 obtain ⟨y,y1,y2⟩:=mk z k1
 exact ⟨y,y1,by rw [y2];exact k2,k3⟩
end
/-! ### Arguments -/
section
variable {P:Program} {ts:Array TypeId} {vs:Array Value} {t:TypeId} {w:World} {r:Reach} {b0:Nat} {v:Value} {H:Type} {en:TypeId × Value→H} {sp:Nat→Bool} {held:Bool} {d:DataW H} {ps:List MemPlace} {α:Type} {enc:α→PV} {ok:α→Prop}
theorem arg_plain (hv:v.cells.toList=[v]) (h1:∀a,(enc a).cells=[enc a]) (hr:Rd P t enc ok) (h:DataW.Trod en P w 0 sp held t v d ps):∃a,ok a∧RV (Old w) w (enc a) v:=by
 obtain ⟨fuel,hf⟩:=h
 obtain ⟨a,k1,k2,_⟩:=hr H en w sp held fuel _ _ hf
 rw [hv,h1] at k2
 exact ⟨a,k1,k2.of_one⟩
theorem arg_int {k:IntKind} (ht:P.underlying t=some (.int k)) (hval:∀(j:Nat) t v,ts[j]?=some t→vs[j]?=some v→Value.okWide P w r b0 t v) (j:Nat) (h1t:ts[j]?=some t) (h1v:vs[j]?=some v) (h:DataW.Trod en P w 0 sp held t v d ps):∃n,(Lit.int k n).wf=true∧RV (Old w) w (.int k n) v:=by
 obtain ⟨n,rfl⟩:=WideShapes.okWide_int ht (hval j _ _ h1t h1v)
 exact arg_plain rfl (fun _=>rfl) (rd_int ht) h
theorem arg_bool (ht:P.underlying t=some .bool) (hval:∀(j:Nat) t v,ts[j]?=some t→vs[j]?=some v→Value.okWide P w r b0 t v) (j:Nat) (h1t:ts[j]?=some t) (h1v:vs[j]?=some v) (h:DataW.Trod en P w 0 sp held t v d ps):∃b,RV (Old w) w (.bool b) v:=by
 obtain ⟨n,rfl⟩:=WideShapes.okWide_bool ht (hval j _ _ h1t h1v)
 obtain ⟨b,_,hb⟩:=arg_plain rfl (fun _=>rfl) (rd_bool ht) h
 exact ⟨b,hb⟩
theorem arg_slice {e:TypeId} (ht:P.underlying t=some (.slice e)) (hval:∀(j:Nat) t v,ts[j]?=some t→vs[j]?=some v→Value.okWide P w r b0 t v) (j:Nat) (h1t:ts[j]?=some t) (h1v:vs[j]?=some v) (hr:Rd P t enc ok) (h1:∀a,(enc a).cells=[enc a]) (h:DataW.Trod en P w 0 sp held t v d ps):∃a,ok a∧RV (Old w) w (enc a) v:=by
 obtain ⟨a,len,cap,rfl⟩:=WideShapes.okWide_slice ht (hval j _ _ h1t h1v)
 exact arg_plain rfl h1 hr h
theorem arg_struct {fs:Array Field} (ht:P.underlying t=some (.struct fs)) (hval:∀(j:Nat) t v,ts[j]?=some t→vs[j]?=some v→Value.okWide P w r b0 t v) (j:Nat) (h1t:ts[j]?=some t) (h1v:vs[j]?=some v) (hr:Rd P t enc ok) (h1:∀a,enc a=.agg (enc a).cells) (h:DataW.Trod en P w 0 sp held t v d ps):∃a,ok a∧RV (Old w) w (enc a) v:=by
 obtain ⟨cs,rfl,_⟩:=WideShapes.okWide_struct ht (hval j _ _ h1t h1v)
 obtain ⟨fuel,hf⟩:=h
 obtain ⟨a,k1,k2,_⟩:=hr H en w sp held fuel _ _ hf
 refine ⟨a,k1,?_⟩
 rw [h1]
 exact .agg _ cs.toList k2.1 k2.2
end
end Go.Abs
namespace Go.Abs
open Go.RowKit Go.Proofs
def okI (n:Int):Prop:=(Lit.int .i64 n).wf=true
def okIs (l:List Int):Prop:=∀x∈l,okI x
def okS (s:ByteArray):Prop:=s.size≤maxLen
def okSpan (s:Span):Prop:=okI s.From∧okI s.To∧True
theorem rdInt:Rd Tryz.prog 3 encInt okI:=rd_int Tryz.underlying3
theorem rdStr:Rd Tryz.prog 9 encStr okS:=rd_str Tryz.underlying9
theorem rdInts:Rd Tryz.prog 29 encIntL okIs:=rd_slice Tryz.underlying29 (by kernel_rfl) (by decide) rdInt
theorem rdSpan:Rd Tryz.prog 31 encSpan okSpan :=
 rd_struct Tryz.underlying31 (by kernel_rfl) (rdL_cons rdInt (rdL_cons rdInt rdL_nil)) fun ⟨a,b,()⟩ h=>⟨⟨a,b⟩,h,rfl⟩
end Go.Abs
namespace Go.Abs
open Go.RowKit Go.ChangeShapes
section
variable {H:Type} {enc:TypeId × Value→H} {P:Program} {W W':World}
theorem trodAll_below (hl:laidOutB P=true) (hb:Below W.heap.size W W') {sp:Nat→Bool}:∀{ts:List TypeId} {vs:List Value} {ds:List (DataW H)} {ps:List MemPlace},(∀t∈ts,P.readableRec t=true∧t<P.types.size) →
  DataW.TrodAll enc P W 0 (fun _=>true) true ts vs ds ps→(∀x∈ps,x.block<W.heap.size)→(∀x∈ps,sp x.block=true)→DataW.TrodAll enc P W' 0 sp true ts vs ds ps
 | [],_,_,_,_,h,_,_=>by
  obtain ⟨rfl,rfl,rfl⟩:=trodAll_nil h
  exact trodAll_mk0
 | t::ts,_,_,_,ht,h,hlt,hs=>by
  obtain ⟨v,vs,d,ds,p,q,rfl,rfl,rfl,h1,h2⟩:=trodAll_cons h
  have k:=ht t (by simp)
  exact trodAll_cons_mk (WideElems.Trod_stays hl k.1 k.2 h1 (fun x hx=>hb.same (hlt x (by simp [hx]))) fun x hx=>hs x (by simp [hx]))
   (trodAll_below hl hb (fun t' h'=>ht t' (by simp [h'])) h2 (fun x hx=>hlt x (by simp [hx])) fun x hx=>hs x (by simp [hx]))
theorem trodAll_len {sp:Nat→Bool} {held:Bool} {b:Nat}:∀{ts:List TypeId} {vs:List Value} {ds:List (DataW H)} {ps:List MemPlace},DataW.TrodAll enc P W b sp held ts vs ds ps→ds.length=ts.length
 | [],_,_,_,h=>by obtain ⟨_,rfl,_⟩:=trodAll_nil h;rfl
 | _::_,_,_,_,h=>by
  obtain ⟨v,vs,d,ds,p,q,rfl,rfl,rfl,h1,h2⟩:=trodAll_cons h
  simp [trodAll_len h2]
theorem law_contract {f:FuncId} {fn:Func} {s:ChangeSpec} {tb:TypeId} (hl:laidOutB P=true) (hpar:∀t∈fn.params.toList,P.readableRec t=true∧t<P.types.size) (hvars:s.vars=[])
  (hfn:∀ds:List (DataW H),ds.length=fn.params.toList.length→s.fn H ds={ results:=[.lit (.bool true)],args:=ds }) (hres:fn.resultTypes=#[tb]) (htb:P.underlying tb=some .bool)
  {args:Array Value} {ds gs:List (DataW H)} {before:List MemPlace} (hW:DataW.Whole enc P fn.params.toList s.vars false W args.toList ds gs before)
  {ps:List PV} (hc:CallsPV P f ps (.bool true)) (hr:RVs (Old W) W ps args.toList) :
  Calls P f args W fun e W'=>∃v,e=.returned v∧s.post enc P fn false true false false W args v W':=by
 have hcalls:=hc.2 (Old W) W args.toList (fun _ h=>h) hr
 rw [Array.toArray_toList] at hcalls
 refine hcalls.mono fun e W1 h=>?_
 obtain ⟨v,rfl,hb,hv⟩:=h
 cases hv
 refine ⟨_,rfl,?_⟩
 have hlt:∀x∈before,x.block<W.heap.size:=fun x hx=>hW.lt x hx
 have hW0:=hW
 obtain ⟨p,q,hA,hV,rfl,hz,_⟩:=hW
 rw [hvars] at hV
 obtain ⟨rfl,rfl⟩:=trodVars_none hV
 have hf:s.fn H (ds++[])={ results:=[.lit (.bool true)],args:=ds }:=by rw [List.append_nil];exact hfn ds (trodAll_len hA)
 have hargs:∀sp:Nat→Bool,(∀x∈p++[],sp x.block=true)→DataW.TrodAll enc P W1 0 sp true fn.params.toList args.toList ds p:=fun sp hs =>
  trodAll_below hl hb hpar hA (fun x hx=>hlt x (by simp [hx])) fun x hx=>hs x (by simp [hx])
 have hresT:∀(b:Nat) (sp:Nat→Bool) (hd:Bool),DataW.TrodAll enc P W1 b sp hd fn.resultTypes.toList ((Value.bool true).resultList fn.resultTypes.size) [.lit (.bool true)] []:=fun b sp hd=>by
  rw [hres]
  exact trodAll_cons_mk (shut_bool htb _) trodAll_mk0
 have hva:∀sp:Nat→Bool,DataW.TrodVars enc P W1 sp s.vars [] []:=fun sp=>by rw [hvars];rfl
 have hold:∀x∈p++[],(fun b=>decide (b<W.heap.size)) x.block=true:=fun x hx=>by simpa using hlt x hx
 refine ⟨ds,[],p++[],[],p,[],hW0,?_,?_,?_,World.keptBut_mono (fun x hx=>⟨hx,.inr (by simpa using hx)⟩) (hb.frame (·∈p++[])),fun _=>?_⟩
 ·rw [hf];exact hresT _ _ _
 ·rw [hf];exact hargs _ hold
 ·rw [hf];exact hva _
 ·refine ⟨ok_one hres rfl (okWide_bool_mk htb _),_,_,([]++p)++[],⟨[]++p,[],trodAll_append (hargs _ fun _ _=>rfl) (hresT _ _ _),hva _,rfl,?_,?_⟩,?_⟩
  ·intro b off hp
   have hin:MemPlace.cell b off∈p++[]:=by simpa using hp
   rw [hb.kit.frozen (hlt _ hin)]
   exact hz b off hin
  ·intro h;cases h
  ·intro x hx _
   simpa using hx
end
end Go.Abs
namespace Go.Abs
open Go.RowKit Go.Proofs
def encBool (b:Bool):PV:=.bool b
def okFlight (f:Flight):Prop:=okI f.ID∧okI f.Airline∧okI f.Class∧okS f.Call∧okIs f.Ways∧okSpan f.Window∧True∧True
theorem rdBool:Rd Tryz.prog 4 encBool fun _=>True:=rd_bool Tryz.underlying4
theorem rdFlight:Rd Tryz.prog 33 encFlight okFlight :=
 rd_struct Tryz.underlying33 (by kernel_rfl) (rdL_cons rdInt (rdL_cons rdInt (rdL_cons rdInt (rdL_cons rdStr (rdL_cons rdInts (rdL_cons rdSpan (rdL_cons rdBool rdL_nil))))))) fun ⟨a,b,c,d,e,f,g,()⟩ h=>⟨⟨a,b,c,d,e,f,g⟩,h,rfl⟩
end Go.Abs
namespace Go.Abs
open Go.RowKit Go.Proofs
theorem allP_iff {t:Tables} {f:Flight} {o:Opt} (h:countE t f o=0) {p:Path}:p∈allP t f o↔fliesB t f o p=true:=by
 rw [allP,if_pos h,fliesB_ok (countE_plan h).1,List.mem_map]
 constructor
 ·rintro ⟨ts,h1,rfl⟩
  exact ⟨rfl,mem_extL.1 h1⟩
 ·rintro ⟨h1,h2⟩
  refine ⟨p.Times,mem_extL.2 h2,?_⟩
  obtain ⟨w,T⟩:=p
  simp only at h1 ⊢
  rw [h1]
end Go.Abs
namespace Go.Abs
open Go.RowKit Go.Proofs
theorem allP_flies {t:Tables} {f:Flight} {o:Opt} (h:countE t f o=0) {p:Path} (hp:p∈allP t f o):p.Way=planW f o∧fliesT 0 (firstB f o::planL t f o) p.Times :=
 (fliesB_ok (countE_plan h).1).1 ((allP_iff h).1 hp)
theorem legs_dur {t:Tables} {f:Flight} {o:Opt} (h:countE t f o=0):∃k w,PlanOk t f o k w∧∀p∈allP t f o,p.Way=planW f o∧p.Times.length=w.Legs.length+1 ∧
  ∀(n:Nat) (l:Leg) (x y:Int),w.Legs[n]?=some l→p.Times[n]?=some x→p.Times[n+1]?=some y →
   1≤y - x - (if n+1=w.Legs.length then o.Hold else 0)∧l.Length≤(y - x - (if n+1=w.Legs.length then o.Hold else 0))*k.Fast∧(y - x - (if n+1=w.Legs.length then o.Hold else 0) - 1)*k.Slow<l.Length ∧
   y - x - (if n+1=w.Legs.length then o.Hold else 0)≤4096:=by
 obtain ⟨k,w,hp⟩:=planE_plan (countE_plan h).1
 refine ⟨k,w,hp,fun p hm=>?_⟩
 obtain ⟨h1,h2⟩:=allP_flies h hm
 have h3:=flies_iff.1 h2
 rw [hp.leg,legsB_len] at h3
 refine ⟨h1,h3.1,fun n l x y hl hx hy=>?_⟩
 have h4:=h3.2.2 n _ x y (legsB_get hl) hx hy
 obtain ⟨c1,c2⟩:=hp.lok.2.2 l (List.mem_of_getElem? hl)
 have k1:=hp.kok.s1
 have k2:=hp.kok.s2
 unfold boundK at h4
 simp only at h4
 generalize (if n+1=w.Legs.length then o.Hold else 0)=g at h4 ⊢
 obtain ⟨s1,s2,s3,s4⟩:=minutesC_spec c1 (show 1≤k.Fast by omega)
 obtain ⟨r1,r2,r3,r4⟩:=minutesC_spec c1 (show 1≤k.Slow by omega)
 refine ⟨by omega,?_,?_,by omega⟩
 ·refine Int.le_trans s3 (Int.mul_le_mul_of_nonneg_right (by omega) (by omega))
 ·refine Int.lt_of_le_of_lt (Int.mul_le_mul_of_nonneg_right (b:=minutesC l.Length k.Slow - 1) (by omega) (by omega)) r4
end Go.Abs
namespace Go.Abs
open Go.RowKit Go.Proofs
theorem times_small {t:Tables} {f:Flight} {o:Opt} (h:countE t f o=0) {p:Path} (hp:p∈allP t f o):2≤p.Times.length∧p.Times.length≤9∧∀(k:Nat) (x:Int),p.Times[k]?=some x→0≤x∧x≤1600+5000*(k:Int):=by
 obtain ⟨k,w,hP,hd⟩:=legs_dur h
 obtain ⟨_,hlen,hd⟩:=hd p hp
 have hlk:=hP.lok
 have hl8:=hlk.2.1
 have hl1:=hlk.1
 refine ⟨by omega,by omega,fun i=>?_⟩
 induction i with
 | zero =>
  intro x hx
  have h2:=(allP_flies h hp).2
  have hw:=hP.win
  have hd0:=hP.d0
  cases hT:p.Times with
  | nil=>rw [hT] at hx;cases hx
  | cons y r =>
   rw [hT] at h2 hx
   simp only [List.getElem?_cons_zero,Option.some.injEq] at hx
   subst hx
   have h3:=h2.1
   simp only [firstB] at h3
   omega
 | succ i ih =>
  intro y hy
  have hi1:i+1<p.Times.length:=(List.getElem?_eq_some_iff.1 hy).1
  have hi:i<w.Legs.length:=by omega
  have hx:p.Times[i]?=some p.Times[i]:=List.getElem?_eq_getElem (by omega)
  have h1:=ih _ hx
  have h2:=hd i w.Legs[i] p.Times[i] y (List.getElem?_eq_getElem hi) hx hy
  have h3:=hP.h0
  push_cast
  split at h2<;>omega
end Go.Abs
namespace Go.Abs
open Go.RowKit Go.Proofs
structure Flown (t:Tables) (p:Path) (w:Way):Prop where
 w0:0≤p.Way∧p.Way<t.Ways.length
 hw:t.Ways[p.Way.toNat]?=some w
 len:p.Times.length=w.Legs.length+1
 l1:1≤w.Legs.length∧w.Legs.length≤8
 err:stErr1 t p=0
 sty:staysP t p=staysOf w p.Times
 up:∀(i:Nat) (x y:Int),p.Times[i]?=some x→p.Times[i+1]?=some y→x<y
 big:∀x∈p.Times,0≤x∧x≤65535
theorem timesFrom_of:∀(l:List Int) (q:Int),(∀x∈l,0≤x∧x≤65535)→(∀(i:Nat) (x y:Int),l[i]?=some x→l[i+1]?=some y→x<y)→(∀x,l[0]?=some x→q<x)→timesFrom q l=true
 | [],_,_,_,_=>rfl
 | x::r,q,h1,h2,h3=>by
  have hx:=h1 x (by simp)
  have hq:=h3 x rfl
  simp only [timesFrom,Bool.and_eq_true,decide_eq_true_eq]
  exact ⟨⟨⟨hx.1,hx.2⟩,hq⟩,timesFrom_of r x (fun y hy=>h1 y (List.mem_cons_of_mem _ hy)) (fun i a b ha hb=>h2 (i+1) a b (by simpa using ha) (by simpa using hb)) (fun y hy=>h2 0 x y rfl (by simpa using hy))⟩
theorem flown_ok {t:Tables} {f:Flight} {o:Opt} (h:countE t f o=0) {p:Path} (hp:p∈allP t f o):∃w,Flown t p w:=by
 obtain ⟨k,w,hP,hd⟩:=legs_dur h
 obtain ⟨hway,hlen,hd⟩:=hd p hp
 have hsm:=times_small h hp
 have hl:=hP.lok
 have hair:=(checkF_zero hP.chk).1
 have hp0:=hP.p0
 have hhold:=hP.h0
 have up:∀(i:Nat) (x y:Int),p.Times[i]?=some x→p.Times[i+1]?=some y→x<y:=by
  intro i x y hx hy
  have hi:i+1<p.Times.length:=(List.getElem?_eq_some_iff.1 hy).1
  have:=hd i w.Legs[i] x y (List.getElem?_eq_getElem (by omega)) hx hy
  have h0:0≤(if i+1=w.Legs.length then o.Hold else 0):=by split<;>omega
  omega
 have big:∀x∈p.Times,0≤x∧x≤65535:=by
  intro x hx
  obtain ⟨i,hi⟩:=List.mem_iff_getElem?.1 hx
  have h1:=hsm.2.2 i x hi
  have h2:i<p.Times.length:=(List.getElem?_eq_some_iff.1 hi).1
  have h3:=hsm.2.1
  omega
 have hw0:0≤p.Way∧p.Way<t.Ways.length:=by rw [hway];exact hp0
 have hww:t.Ways[p.Way.toNat]?=some w:=by rw [hway];exact hP.hl
 have hok:pathOk t.Ways p=true:=by
  unfold pathOk
  rw [if_pos hw0.1,hww]
  simp only [Bool.and_eq_true,decide_eq_true_eq]
  exact ⟨hlen,timesFrom_of _ _ big up (fun x hx=>by have:=big x (List.mem_of_getElem? hx);omega)⟩
 refine ⟨w,hw0,hww,hlen,⟨hl.1,hl.2.1⟩,by rw [stErr1,if_pos hair,if_pos hok],?_,up,big⟩
 unfold staysP
 rw [if_pos hw0.1,hww]
end Go.Abs
namespace Go.Abs
open Go.RowKit Go.Proofs
def inSp (m:Int) (s:Span):Bool:=decide (s.From≤m)&&decide (m<s.To)
def inHours (l:List Span) (m:Int):Bool:=decide (0≤m)&&decide (m<1440)&&l.any (inSp m)
theorem hours_Has1 (m:Int) (s:Span):CallsPV Tryz.prog 228 [encSpan s,.ptr [.int .i64 m] 0] (.bool (inSp m s)):=by
 refine callsPV_by (clo:=fun _=>false) (rows:=false) env_ok Tryz.func228 rfl (enters_of Tryz.func228 (by kernel_rfl) rfl) (fun A q P Y hr hA hq=>?_)
 obtain ⟨a,b⟩:=s
 conv=>cbv
 split
 ·rename_i h
  conv=>cbv
  rw [←hq,inSp,decide_eq_true (leT hA h)]
  show PV.bool (A.iLt m b)=_
  subst hA;rfl
 ·rename_i h
  conv=>cbv
  rw [←hq,inSp,decide_eq_false (show ¬a≤m by have:=leF hA h;omega)];rfl
theorem hours_Has (l:List Span) (m:Int) {xs:List PV} (hx:xs=encSpans l):CallsPV Tryz.prog 162 [.list 2 xs,.int .i64 m] (.bool (inHours l m)):=by
 refine callsPV_by (clo:=fun _=>false) (rows:=false) env_ok Tryz.func162 rfl (enters_of Tryz.func162 (by kernel_rfl) rfl) (fun A q P Y hr hA hq=>?_)
 have hc:=containsFunc_Span (inSp m) l hx (fun x _=>hours_Has1 m x)
 have hh:inHours l m=(decide (0≤m)&&decide (m<1440)&&l.any (inSp m)):=rfl
 generalize l.any (inSp m)=b at hc hh
 conv=>cbv
 split
 ·rename_i h
  conv=>cbv
  split
  ·rename_i h2
   conv=>cbv
   refine call_intro hA hc ?_
   conv=>cbv
   rw [←hq,hh,decide_eq_true (leT hA h),decide_eq_true (ltT hA h2)];rfl
  ·rename_i h2
   conv=>cbv
   rw [←hq,hh,decide_eq_false (show ¬m<1440 by have:=ltF hA h2;omega)];simp
 ·rename_i h
  conv=>cbv
  rw [←hq,hh,decide_eq_false (show ¬0≤m by have:=leF hA h;omega)];rfl
theorem any_take {α:Type} (f:α→Bool) {l:List α} {i:Int} (h0:0≤i) {x:α} (hx:l[i.toNat]?=some x):(l.take (i+1).toNat).any f=((l.take i.toNat).any f || f x):=by
 rw [show (i+1).toNat=i.toNat+1 by omega,List.take_add_one,hx]
 simp
end Go.Abs
namespace Go.Abs
open Go.RowKit Go.Proofs
def cellsB (g:Nat→Bool):List SV:=(List.range 1440).map fun i=>.val (.bool (g i))
theorem cellsB_len (g:Nat→Bool):(cellsB g).length=1440:=by simp [cellsB]
theorem cellsB_get (g:Nat→Bool) {i:Nat} (h:i<1440):(cellsB g)[i]?=some (.val (.bool (g i))):=by
 unfold cellsB
 rw [List.getElem?_map,List.getElem?_range h];rfl
theorem cellsB_congr {g h:Nat→Bool} (e:∀i,i<1440→g i=h i):cellsB g=cellsB h:=by
 unfold cellsB
 refine List.map_congr_left fun i hi=>?_
 rw [e i (by simpa using hi)]
theorem cellsB_set (g:Nat→Bool) (j:Nat) (b:Bool):(cellsB g).set j (.val (.bool b))=cellsB fun i=>if i=j then b else g i:=by
 apply List.ext_getElem?
 intro i
 rw [List.getElem?_set]
 by_cases hi:i<1440
 ·rw [cellsB_get _ hi]
  split
  ·rename_i h
   subst h
   rw [if_pos (by rw [cellsB_len];exact hi),cellsB_get _ hi,if_pos rfl]
  ·rename_i h
   rw [cellsB_get _ hi,if_neg (fun e=>h e.symm)]
 ·rw [List.getElem?_eq_none (show (cellsB fun i=>if i=j then b else g i).length≤i by rw [cellsB_len];omega)]
  split
  ·rw [if_neg (by rw [cellsB_len];omega)]
  ·rw [List.getElem?_eq_none (by rw [cellsB_len];omega)]
theorem cellsB_within (g:Nat→Bool) (a b c:Nat):(cellsB g).all (SV.within a b c)=true:=by
 rw [List.all_eq_true]
 intro x hx
 obtain ⟨i,_,rfl⟩:=List.mem_map.1 hx
 rfl
theorem cellsB_zero:(List.replicate 1440 (PV.bool false)).map zeroSV=cellsB fun _=>false:=by
 apply List.ext_getElem?
 intro i
 by_cases hi:i<1440
 ·rw [cellsB_get _ hi,List.getElem?_map,List.getElem?_replicate,if_pos hi];rfl
 ·rw [List.getElem?_eq_none (by rw [List.length_map,List.length_replicate];omega),List.getElem?_eq_none (by rw [cellsB_len];omega)]
theorem rst_cellB {A:Ops} {E:Env} (hA:A=stdOps E) {t:TypeId} {id off i m k:Nat} {st:St} {K:SV→St→Prop} {C:List SV} {v:SV} (hb:st.bx[id]?=some (some C)) (ha:(E.T t).agg=false) (hs:(E.T t).size=1) (hv:v.one=true) (hc:off+i*m+k<C.length)
  (h:∀B,B=st.bx.set id (some (C.set (off+i*m+k) v))→K .undef { st with bx:=B }):A.rst t (.rbx id off i m k) v st K :=
 rst_cell hA (C:=C) (by rw [List.getD_eq_getElem?_getD,hb];rfl) ha hs hv hc rfl (h _ rfl)
def cloO (n:Nat):Bool:=n == 10000000
def inBx (pre:List (Option (List SV))):Prop:=∀a b c,pre.all (fun o=>match o with | none=>true | some cs=>cs.all (SV.within a b c))=true
set_option maxRecDepth 4000 in
set_option maxHeartbeats 1000000 in
theorem hours_of (l:List Span) {xs:List PV} (hx:xs=encSpans l) (hlen:l.length≤1000000) (pre:List (Option (List SV))) (hpre:inBx pre) :
  CallsR ⟨Tryz.prog,tab,cloO,true,.none⟩ 276 [.val (.list 2 xs)] pre [] ⟨[],0⟩
   (fun r bx' tk' ax'=>r=.box pre.length 0∧bx'=pre++[some (cellsB fun i=>l.any (inSp i))]∧tk'=[]∧ax'=⟨[],0⟩):=by
 refine callsR_by (clo:=cloO) (rows:=true) env_ok Tryz.func276 rfl (enters_of Tryz.func276 (by kernel_rfl) rfl) (by intro h;rfl) (fun A P' Y' nb R hA hnb hR=>?_)
 have hxl:xs.length=l.length:=by rw [hx];simp [encSpans]
 conv=>cbv
 refine alc_at hA (z:=List.replicate 1440 (.bool false)) rfl (by rw [List.length_replicate];rfl) (by rw [List.length_replicate];decide) (fun n B1 hn hB1=>?_)
 rw [cellsB_zero] at hB1
 simp only at hn hB1
 conv=>cbv
 refine loop_set hA (fun (z:Int × List (Option (List SV))) s=>{ s.put (some 9) (.val (.int .i64 z.1)) with bx:=z.2 })
  (fun z=>0≤z.1∧z.1≤l.length∧z.2=pre++[some (cellsB fun m=>(l.take z.1.toNat).any (inSp m))]) (fun z=>(l.length - z.1).toNat) (0,B1) ?_ ?_ ?_
 ·conv=>cbv
  exact wk_sl (by repeat (first | refine leL_same ?_ | refine leL_any ?_ | exact leL_nil))
 ·exact ⟨Int.le_refl _,by omega,hB1⟩
 ·rintro R ⟨i,B⟩ ⟨hi0,hi1,hB⟩ hR1
  simp only at hi0 hi1 hB
  conv=>cbv
  split
  ·rename_i hc
   have hi:=ltT' hA rfl (lenI hA hxl) hc
   have his:A.iAdd i 1=i+1:=addI hA _ _
   have hir:A.inR (A.iAdd i 1):=inR' hA his (by unfold inI64;omega)
   obtain ⟨⟨a,b⟩,hx0⟩:∃x,l[i.toNat]?=some x:=⟨_,List.getElem?_eq_getElem (show i.toNat<l.length by omega)⟩
   have ht:=fun m=>any_take (inSp m) hi0 hx0
   conv=>cbv
   refine idx_Span hA hx hi0 hi (fun z hz=>?_)
   obtain rfl:=Option.some.inj ((hx0).symm.trans hz)
   clear hz
   conv=>cbv
   refine alc_at hA (z:=[.int .i64 0,.int .i64 0]) rfl rfl (by decide) (fun n2 B2 hn2 hB2=>?_)
   simp only at hn2 hB2
   have hn2':n2=pre.length+1:=by rw [hn2,hB];simp
   have hB2':B2=pre++[some (cellsB fun m=>(l.take i.toNat).any (inSp m)),some [.val (.int .i64 0),.val (.int .i64 0)]]:=by rw [hB2,hB];simp;rfl
   conv=>cbv
   refine rstA_at hA (cs:=[.val (.int .i64 0),.val (.int .i64 0)]) (by rw [hB2',hn2',List.getElem?_append_right (by omega)];simp) rfl rfl rfl (Nat.le_refl 2) (fun B3 hB3=>?_)
   have hB3':B3=pre++[some (cellsB fun m=>(l.take i.toNat).any (inSp m)),some [.val (.int .i64 a),.val (.int .i64 b)]]:=by rw [hB3,hB2',hn2'];simp
   have hg:∀C,(pre++[some C,some [.val (.int .i64 a),.val (.int .i64 b)]])[n2]?=some (some [.val (.int .i64 a),.val (.int .i64 b)]):=fun C=>by rw [hn2',List.getElem?_append_right (by omega)];simp
   conv=>cbv
   refine rld_at hA (cs:=[.val (.int .i64 a),.val (.int .i64 b)]) (c:=.val (.int .i64 a)) (by rw [hB3'];exact hg _) rfl rfl rfl ?_
   conv=>cbv
   have hmx:A.iMax a 0=max a 0:=by subst hA;rfl
   have hmn:A.iMin b 1440=min b 1440:=by subst hA;rfl
   refine loop_set hA (fun (z:Int × List (Option (List SV))) s=>{ s.put (some 6) (.val (.int .i64 z.1)) with bx:=z.2 })
    (fun z=>max a 0≤z.1∧z.1≤max (max a 0) (min b 1440)∧z.2=pre++[some (cellsB fun k=>(l.take i.toNat).any (inSp k) || (decide (a≤(k:Int))&&decide ((k:Int)<z.1))),some [.val (.int .i64 a),.val (.int .i64 b)]]) (fun z=>(max (max a 0) (min b 1440) - z.1).toNat) (A.iMax a 0,B3) ?_ ?_ ?_
   ·conv=>cbv
    exact wk_sl (by repeat (first | refine leL_same ?_ | refine leL_any ?_ | exact leL_nil))
   ·refine ⟨by rw [hmx];exact Int.le_refl _,by rw [hmx];omega,?_⟩
    rw [hB3']
    simp only
    rw [cellsB_congr (h:=fun k=>(l.take i.toNat).any (inSp k) || (decide (a≤(k:Int))&&decide ((k:Int)<A.iMax a 0))) (fun k _=>by
     rw [hmx]
     rw [show (decide (a≤(k:Int))&&decide ((k:Int)<max a 0))=false by rw [Bool.and_eq_false_iff,decide_eq_false_iff_not,decide_eq_false_iff_not];omega,Bool.or_false])]
   ·rintro R2 ⟨m,B4⟩ ⟨hm0,hm1,hB4⟩ hR2
    simp only at hm0 hm1 hB4
    conv=>cbv
    refine rld_at hA (cs:=[.val (.int .i64 a),.val (.int .i64 b)]) (c:=.val (.int .i64 b)) (by rw [hB4];exact hg _) rfl rfl rfl ?_
    conv=>cbv
    split
    ·rename_i hc2
     have hm:=ltT' hA rfl hmn hc2
     have hms:A.iAdd m 1=m+1:=addI hA _ _
     have hmr:A.inR (A.iAdd m 1):=inR' hA hms (by unfold inI64;omega)
     conv=>cbv
     refine ⟨by subst hA;exact (show 0≤m∧m<1440 from ⟨by omega,by omega⟩),?_⟩
     conv=>cbv
     have hnn:A.nNat m=m.toNat:=by subst hA;rfl
     refine rst_cellB hA (t:=4) (v:=.val (.bool true)) (C:=cellsB fun k=>(l.take i.toNat).any (inSp k) || (decide (a≤(k:Int))&&decide ((k:Int)<m))) ?_ rfl rfl rfl ?_ (fun B6 hB6=>?_)
     ·show B4[n]?=_
      rw [hB4,hn,List.getElem?_append_right (Nat.le_refl _),Nat.sub_self];rfl
     ·rw [cellsB_len]
      show 0+A.nNat m*1+0<1440
      rw [hnn];omega
     have hB6:B6=B4.set n (some ((cellsB fun k=>(l.take i.toNat).any (inSp k) || (decide (a≤(k:Int))&&decide ((k:Int)<m))).set (0+A.nNat m*1+0) (.val (.bool true)))):=hB6
     rw [hnn,show 0+m.toNat*1+0=m.toNat by omega] at hB6
     have hB6':B6=pre++[some (cellsB fun k=>(l.take i.toNat).any (inSp k) || (decide (a≤(k:Int))&&decide ((k:Int)<m+1))),some [.val (.int .i64 a),.val (.int .i64 b)]]:=by
      rw [hB6]
      simp only [hB4,hn]
      rw [List.set_append_right _ _ (Nat.le_refl _),Nat.sub_self,List.set_cons_zero,cellsB_set,cellsB_congr fun k hk=>?_]
      split
      ·rename_i hk2
       rw [show decide (a≤(k:Int))=true by rw [decide_eq_true_eq];omega,show decide ((k:Int)<m+1)=true by rw [decide_eq_true_eq];omega];simp
      ·rename_i hk2
       rw [show decide ((k:Int)<m+1)=decide ((k:Int)<m) by rw [decide_eq_decide];omega]
     conv=>cbv
     exact ⟨hmr,hR2 (A.iAdd m 1,B6) _ (by (conv=>cbv);exact wk_sl (by repeat (first | refine leL_same ?_ | refine leL_any ?_ | exact leL_nil))) ⟨by rw [hms];omega,by rw [hms];omega,by rw [hms];exact hB6'⟩ (by rw [hms];omega)⟩
    ·rename_i hc2
     have hm:=ltF' hA rfl hmn hc2
     conv=>cbv
     obtain ⟨B5,hB5⟩:∃B5,B5=pre++[some (cellsB fun m=>(l.take (i+1).toNat).any (inSp m))]:=⟨_,rfl⟩
     have hend:B4=B5++[some [.val (.int .i64 a),.val (.int .i64 b)]]:=by
      rw [hB4,hB5,List.append_assoc]
      simp only [List.singleton_append]
      rw [cellsB_congr fun k hk=>?_]
      rw [ht]
      simp only [inSp]
      congr 1
      rw [Bool.eq_iff_iff]
      simp only [Bool.and_eq_true,decide_eq_true_eq]
      omega
     have hB5l:B5.length=pre.length+1:=by rw [hB5];simp
     refine ⟨hir,hR1 (A.iAdd i 1,B5) _ ?_ ⟨by rw [his];omega,by rw [his];omega,by rw [his];exact hB5⟩ (by rw [his];omega)⟩
     (conv=>cbv)
     rw [hend]
     refine wk_round (bx:=B5) (bx':=[_]) (mp:=[]) (mp':=[]) (by repeat (first | refine leL_same ?_ | refine leL_any ?_ | exact leL_nil)) (by rw [hnb,hB5l];exact Nat.le_succ _) (.inl rfl) ?_ ?_
     ·simp [SV.within,hB5l,hn]
     ·rw [hB5,List.all_append]
      refine Bool.and_eq_true_iff.2 ⟨hpre _ _ _,?_⟩
      rw [List.all_cons,List.all_nil,Bool.and_true]
      exact cellsB_within _ _ _ _
  ·rename_i hc
   have hi:=ltF' hA rfl (lenI hA hxl) hc
   conv=>cbv
   refine hR _ ⟨_,.box n 0,Wk.refl _,.inr (.inl ⟨2,rfl,rfl⟩),by rw [hn],?_,rfl,rfl⟩
   show B=_
   rw [hB,show i=(l.length:Int) by omega,Int.toNat_natCast,List.take_length]
end Go.Abs
namespace Go.Abs
open Go.RowKit Go.Proofs
def endF (g:Nat→Bool):Nat→Nat→Nat
 | 0,i=>i
 | k+1,i=>if i<1440∧g i=true then endF g k (i+1) else i
def spansF (g:Nat→Bool):Nat→Nat→List Span
 | 0,_=>[]
 | k+1,i=>if i<1440 then (if g i then ⟨i,(endF g 1441 (i+1):Nat)⟩::spansF g k (endF g 1441 (i+1)+1) else spansF g k (i+1)) else []
theorem endF_s (g:Nat→Bool) (k i:Nat):endF g (k+1) i=if i<1440∧g i=true then endF g k (i+1) else i:=rfl
theorem spansF_s (g:Nat→Bool) (k i:Nat):spansF g (k+1) i=if i<1440 then (if g i then ⟨i,(endF g 1441 (i+1):Nat)⟩::spansF g k (endF g 1441 (i+1)+1) else spansF g k (i+1)) else []:=rfl
theorem endF_ge (g:Nat→Bool):∀(k i:Nat),i≤endF g k i
 | 0,_=>Nat.le_refl _
 | k+1,i=>by
  unfold endF
  split
  ·exact Nat.le_trans (Nat.le_succ i) (endF_ge g k (i+1))
  ·exact Nat.le_refl _
theorem endF_fuel (g:Nat→Bool):∀(k i:Nat),1440≤k+i→endF g (k+1) i=endF g k i
 | 0,i,h=>by
  rw [endF_s,if_neg (by omega)]
  rfl
 | k+1,i,h=>by
  rw [endF_s g (k+1) i,endF_s g k i]
  split
  ·exact endF_fuel g k (i+1) (by omega)
  ·rfl
theorem endF_step (g:Nat→Bool) {i:Nat} (h:i<1440) (hg:g i=true):endF g 1441 i=endF g 1441 (i+1):=by
 rw [endF_s,if_pos ⟨h,hg⟩,endF_fuel g 1440 (i+1) (by omega)]
theorem endF_stop (g:Nat→Bool) {i:Nat} (h:¬(i<1440∧g i=true)):endF g 1441 i=i:=by
 rw [endF_s,if_neg h]
theorem spansF_fuel (g:Nat→Bool):∀(k i:Nat),1440≤k+i→spansF g (k+1) i=spansF g k i
 | 0,i,h=>by
  rw [spansF_s,if_neg (by omega)];rfl
 | k+1,i,h=>by
  rw [spansF_s g (k+1) i,spansF_s g k i]
  split
  ·split
   ·have:=endF_ge g 1441 (i+1)
    rw [spansF_fuel g k _ (by omega)]
   ·exact spansF_fuel g k (i+1) (by omega)
  ·rfl
theorem spansF_nil (g:Nat→Bool):∀(k i:Nat),1440≤k+i→(spansF g k i=[]↔∀j,i≤j→j<1440→g j=false)
 | 0,i,h=>by
  constructor
  ·intro _ j h1 h2;omega
  ·intro _;rfl
 | k+1,i,h=>by
  rw [spansF_s]
  split
  ·rename_i hi
   split
   ·rename_i hg
    constructor
    ·intro h;cases h
    ·intro h;rw [h i (Nat.le_refl _) hi] at hg;cases hg
   ·rename_i hg
    rw [spansF_nil g k (i+1) (by omega)]
    constructor
    ·intro h1 j h2 h3
     rcases Nat.eq_or_lt_of_le h2 with rfl | h4
     ·simpa using hg
     ·exact h1 j h4 h3
    ·intro h1 j h2 h3
     exact h1 j (by omega) h3
  ·constructor
   ·intro _ j h1 h2;omega
   ·intro _;rfl
def spansL (g:Nat→Bool):List Span:=spansF g 1441 0
theorem spansL_nil (g:Nat→Bool):spansL g=[]↔∀j,j<1440→g j=false:=by
 rw [spansL,spansF_nil g 1441 0 (by omega)]
 constructor
 ·intro h j hj;exact h j (Nat.zero_le _) hj
 ·intro h j _ hj;exact h j hj
theorem spansL_some (g:Nat→Bool) {i:Nat} (h:i<1440) (hg:g i=true):spansF g 1441 i=⟨i,(endF g 1441 (i+1):Nat)⟩::spansF g 1441 (endF g 1441 (i+1)+1):=by
 rw [spansF_s,if_pos h,if_pos hg]
 have:=endF_ge g 1441 (i+1)
 rw [spansF_fuel g 1440 _ (by omega)]
theorem spansL_none (g:Nat→Bool) {i:Nat} (h:i<1440) (hg:g i=false):spansF g 1441 i=spansF g 1441 (i+1):=by
 rw [spansF_s,if_pos h,if_neg (by rw [hg];decide)]
 rw [spansF_fuel g 1440 _ (by omega)]
theorem spansL_end (g:Nat→Bool) {i:Nat} (h:1440≤i):spansF g 1441 i=[]:=by
 rw [spansF_s,if_neg (by omega)]
def pvsB (g:Nat→Bool):List PV:=(List.range 1440).map fun i=>.bool (g i)
theorem pvsB_get (g:Nat→Bool) {i:Nat} (h:i<1440):(pvsB g)[i]?=some (.bool (g i)):=by
 unfold pvsB
 rw [List.getElem?_map,List.getElem?_range h];rfl
theorem pvsB_sv (g:Nat→Bool):(pvsB g).map SV.val=cellsB g:=by
 unfold pvsB cellsB
 rw [List.map_map];rfl
theorem cellAt_get:∀{cs:List PV} {o:Nat} {p:PV},cs[o]?=some p→cellAt cs o=some p
 | [],o,p,h=>by simp at h
 | x::r,0,p,h=>by simp at h;subst h;rfl
 | x::r,o+1,p,h=>cellAt_get (cs:=r) (by simpa using h)
theorem ops_step {A:Ops} {E:Env} {dr:Bool} {ops rest:List Oper} {o:Oper} {st:St} {K:St→Prop} (hg:o.guard=none) (h:wpOp' A E dr o.op st fun v st'=>wpOps' A E dr ops rest (st'.put o.dst v) K):wpOps' A E dr ops (o::rest) st K:=by
 unfold wpOps'
 rw [hg]
 exact h
theorem ops_when {A:Ops} {E:Env} {dr:Bool} {ops rest:List Oper} {o:Oper} {j t:Nat} {b:Bool} {st:St} {K:St→Prop} (hg:o.guard=some (j,true)) (hd:dstOf ops j=some t) (hv:st.sl.getD t .undef=.val (.bool b))
  (h1:b=true→wpOp' A E dr o.op (st.put (some t) (.val (.bool true))) fun v st'=>wpOps' A E dr ops rest (st'.put o.dst v) K) (h2:b=false→wpOps' A E dr ops rest ((st.put (some t) (.val (.bool false))).put o.dst .undef) K):wpOps' A E dr ops (o::rest) st K:=by
 unfold wpOps'
 rw [hg]
 simp only [hd,hv]
 cases b with
 | true=>exact h1 rfl
 | false=>exact h2 rfl
theorem ptr_ix {A:Ops} {E:Env} (hrows:E.rows=false) {t e:TypeId} {x i:Operand} {n:Int} {cnt:Nat} {cs:List PV} {st:St} {K:SV→St→Prop} (hx:valOf st x=.val (.ptr cs 0)) (hi:valOf st i=.val (.int .i64 n)) (hk:(E.T t).k=.array cnt e) (hs:(E.T e).size=1) (h0:0≤n) (h1:n<cnt)
  (h:∀j,j=n.toNat→K (.val (.ptr cs j)) st):wpOp' A E false (.indexAddr t x i) st K:=by
 unfold wpOp'
 simp only [hx]
 unfold evalOp'
 simp only [hx]
 unfold opIndexAddr'
 rw [hrows]
 simp only [opIndexAddr,hi,intOfSV,hk,hs]
 refine ⟨⟨h0,h1⟩,?_⟩
 exact h _ (by simp)
theorem ptr_ld {A:Ops} {E:Env} {t:TypeId} {a:Operand} {cs:List PV} {j:Nat} {p:PV} {st:St} {K:SV→St→Prop} (ha:valOf st a=.val (.ptr cs j)) (hg:(E.T t).agg=false) (hs:(E.T t).size=1) (hp:cs[j]?=some p) (h:K (.val p) st):wpOp' A E false (.load t a) st K:=by
 unfold wpOp'
 simp only [ha]
 unfold evalOp'
 simp only [ha]
 unfold opLoad'
 simp only [hg,hs,cellAt_get hp]
 exact ⟨trivial,h⟩
theorem region_text {A:Ops} {E:Env} {id:Nat} {ops:Array Oper} {nb:Nat × Nat} {st:St} {Q:AX→St→Prop} (h:wpOps' A E false ops.toList ops.toList st (Q .normal)):wpC' A E (.region id ops false) nb st Q:=by
 unfold wpC'
 have e:drawMode E false id ops.size=.text:=by unfold drawMode;rfl
 rw [e]
 exact ⟨trivial,h⟩
theorem op_move {A:Ops} {E:Env} {dr:Bool} {x:Operand} {st:St} {K:SV→St→Prop} (h:K (valOf st x) st):wpOp' A E dr (.move x) st K:=by
 unfold wpOp'
 exact ⟨trivial,h⟩
theorem op_nil {A:Ops} {E:Env} {dr:Bool} {x:Operand} {cs:List PV} {o:Nat} {st:St} {K:SV→St→Prop} (hx:valOf st x=.val (.ptr cs o)) (h:K (.val (.ptr cs o)) st):wpOp' A E dr (.nilCheck x) st K:=by
 unfold wpOp'
 simp only [evalOp',hx]
 exact ⟨trivial,h⟩
set_option maxRecDepth 4000 in
set_option maxHeartbeats 1000000 in
theorem day_spans1 (g:Nat→Bool):SeqPV Tryz.prog 295 [.ptr [.ptr (pvsB g) 0] 0] ((spansL g).map fun s=>[encSpan s]):=by
 refine seqPV_by (clo:=fun _=>false) (rows:=false) env_ok Tryz.func295 rfl (enters_of Tryz.func295 (by kernel_rfl) rfl) rfl (fun A P Y Y' y R hr hys hy hA hR=>?_)
 have hR':=fun q (h:q=Y.ys.length∨q=Y.ys.length+1)=>hR q (by rw [hys] at h;exact h)
 obtain ⟨cs,hcs⟩:∃cs,cs=pvsB g:=⟨_,rfl⟩
 rw [←hcs]
 conv=>cbv
 refine loop_set hA (fun (z:Int × Nat) s=>{ s.put (some 3) (.val (.int .i64 z.1)) with ax:=⟨s.ax.mp,z.2⟩ }) (fun z=>∃j:Nat,z.1=(j:Int)∧j≤1441∧(spansL g).drop z.2=spansF g 1441 j∧z.2≤(spansL g).length) (fun z=>(1441 - z.1).toNat) (0,0) ?_ ?_ ?_
 ·conv=>cbv
  exact wk_sl (by repeat (first | refine leL_same ?_ | refine leL_any ?_ | exact leL_nil))
 ·exact ⟨0,rfl,by omega,rfl,Nat.zero_le _⟩
 rintro R2 ⟨i,kk⟩ ⟨j,hj,hj2,hdr,hkl⟩ hR2
 simp only at hj hdr hkl
 refine seq_stop (fun Ra hRa=>?_)
 conv=>cbv
 split
 ·rename_i hc
  have hi:i<1440:=ltT hA hc
  refine hRa _ ?_
  clear hRa
  refine seq_stop (fun Rb hRb=>?_)
  refine block_seq (fun Rc hRc=>?_)
  refine seq_stop (fun Rd hRd=>?_)
  refine region_text ?_
  refine ops_step rfl (ptr_ld (cs:=[.ptr cs 0]) (j:=0) rfl rfl rfl rfl ?_)
  refine ops_step rfl (op_move ?_)
  refine ops_step rfl (op_nil (cs:=cs) (o:=0) rfl ?_)
  refine ops_step rfl (ptr_ix (n:=i) (cs:=cs) (cnt:=1440) rfl rfl rfl rfl rfl (by omega) hi (fun j' hj'=>?_))
  have hjj:j'=j:=by rw [hj',hj];rfl
  subst hjj
  refine ops_step rfl (ptr_ld (cs:=cs) (j:=j') (p:=.bool (g j')) rfl rfl rfl (by rw [hcs];exact pvsB_get g (by omega)) ?_)
  conv=>cbv
  refine hRd _ ?_
  clear hRd
  have his:A.iAdd i 1=i+1:=addI hA _ _
  have hir:A.inR (A.iAdd i 1):=inR' hA his (by unfold inI64;omega)
  conv=>cbv
  split
  ·rename_i hc2
   have hg:g j'=false:=notT hA hc2
   refine hRb _ ?_
   clear hRb hRc
   conv=>cbv
   refine ⟨hir,hR2 (A.iAdd i 1,kk) _ ?_ ⟨j'+1,by rw [his,hj];rfl,by omega,?_,hkl⟩ ?_⟩
   ·conv=>cbv
    exact wk_sl (by repeat (first | refine leL_same ?_ | refine leL_any ?_ | exact leL_nil))
   ·rw [←spansL_none g (by omega) hg];exact hdr
   ·show (1441 - A.iAdd i 1).toNat<(1441 - i).toNat
    rw [his];omega
  ·rename_i hc2
   have hg:g j'=true:=notF hA hc2
   refine hRc _ ?_
   clear hRc
   refine seq_stop (fun Rd hRd=>?_)
   conv=>cbv
   refine ⟨hir,?_⟩
   refine hRd _ ?_
   clear hRd
   rw [spansL_some g (by omega) hg] at hdr
   refine seq_stop (fun Rd hRd=>?_)
   conv=>cbv
   refine loop_set hA (fun (z:Int) s=>s.put (some 4) (.val (.int .i64 z))) (fun z=>∃k:Nat,z=(k:Int)∧j'+1≤k∧k≤1440∧endF g 1441 k=endF g 1441 (j'+1)) (fun z=>(1441 - z).toNat) (A.iAdd i 1) ?_ ?_ ?_
   ·conv=>cbv
    exact wk_sl (by repeat (first | refine leL_same ?_ | refine leL_any ?_ | exact leL_nil))
   ·exact ⟨j'+1,by rw [his,hj];rfl,Nat.le_refl _,by omega,rfl⟩
   rintro R3 k' ⟨k,hk',hk1,hk2,hke⟩ hR3
   refine seq_stop (fun Re hRe=>?_)
   refine seq_stop (fun Rf hRf=>?_)
   refine region_text ?_
   refine ops_step rfl (op_move ?_)
   refine ops_step rfl ?_
   refine ⟨trivial,?_⟩
   refine ops_step rfl (op_move ?_)
   refine ops_when (j:=2) (t:=19) (b:=A.iLt k' 1440) rfl rfl rfl ?_ ?_
   ·intro hb
    have hk:k'<1440:=ltT hA hb
    have hks:A.iAdd k' 1=k'+1:=addI hA _ _
    have hkr:A.inR (A.iAdd k' 1):=inR' hA hks (by unfold inI64;omega)
    conv=>arg 5;cbv
    refine ptr_ld (cs:=[.ptr cs 0]) (j:=0) rfl rfl rfl rfl ?_
    conv=>arg 6;cbv
    refine ops_when (j:=2) (t:=19) (b:=true) rfl rfl rfl (fun _=>?_) (fun h=>by cases h)
    conv=>arg 5;cbv
    refine op_move ?_
    conv=>arg 6;cbv
    refine ops_when (j:=2) (t:=19) (b:=true) rfl rfl rfl (fun _=>?_) (fun h=>by cases h)
    conv=>arg 5;cbv
    refine op_nil (cs:=cs) (o:=0) rfl ?_
    conv=>arg 6;cbv
    refine ops_when (j:=2) (t:=19) (b:=true) rfl rfl rfl (fun _=>?_) (fun h=>by cases h)
    conv=>arg 5;cbv
    refine ptr_ix (n:=k') (cs:=cs) (cnt:=1440) rfl rfl rfl rfl rfl (by omega) hk (fun jk hjk=>?_)
    have hjk2:jk=k:=by rw [hjk,hk'];rfl
    subst hjk2
    conv=>arg 6;cbv
    refine ops_when (j:=2) (t:=19) (b:=true) rfl rfl rfl (fun _=>?_) (fun h=>by cases h)
    conv=>arg 5;cbv
    refine ptr_ld (cs:=cs) (j:=jk) (p:=.bool (g jk)) rfl rfl rfl (by rw [hcs];exact pvsB_get g (by omega)) ?_
    conv=>cbv
    refine hRf _ ?_
    clear hRf
    conv=>cbv
    split
    ·rename_i hgk
     refine hRe _ ?_
     clear hRe
     conv=>cbv
     refine ⟨hkr,hR3 (A.iAdd k' 1) _ ?_ ⟨jk+1,by rw [hks,hk'];rfl,by omega,by omega,?_⟩ ?_⟩
     ·conv=>cbv
      exact wk_sl (by repeat (first | refine leL_same ?_ | refine leL_any ?_ | exact leL_nil))
     ·rw [←hke];exact (endF_step g (by omega) hgk).symm
     ·rw [hks];omega
    ·rename_i hgk
     have hend:endF g 1441 (j'+1)=jk:=by rw [←hke];exact endF_stop g (by rw [hgk];simp)
     refine hRd _ ?_
     clear hRd hRe hR3
     conv=>cbv
     have hyk:Y.ys[kk]?=some [.agg [.int .i64 i,.int .i64 k']]:=by
      have h1:(spansL g)[kk]?=some ⟨(j':Int),((jk:Nat):Int)⟩:=by
       have h2:((spansL g).drop kk)[0]?=some ⟨(j':Int),((endF g 1441 (j'+1):Nat):Int)⟩:=by rw [hdr];rfl
       rw [List.getElem?_drop,Nat.add_zero,hend] at h2
       exact h2
      rw [hys,List.getElem?_map,h1,hj,hk']
      rfl
     have hkl2:kk+1≤(spansL g).length:=by
      have:=(List.getElem?_eq_some_iff.1 hyk).1
      rw [hys,List.length_map] at this;omega
     refine yld_intro' hA rfl hy hyk ?_ (fun n' hn'=>?_)
     ·conv=>cbv
      split
      ·rename_i hc
       cases (nT hA hc)
      conv=>cbv
      refine hRb _ ?_
      clear hRb
      conv=>cbv
      have hks2:A.iAdd k' 1=k'+1:=addI hA _ _
      refine ⟨inR' hA hks2 (by unfold inI64;omega),hR2 (A.iAdd k' 1,kk+1) _ ?_ ⟨jk+1,by rw [hks2,hk'];rfl,by omega,?_,hkl2⟩ ?_⟩
      ·conv=>cbv
       exact wk_sl (by repeat (first | refine leL_same ?_ | refine leL_any ?_ | exact leL_nil))
      ·have h3:=congrArg List.tail hdr
       rw [List.tail_drop,List.tail_cons,hend] at h3
       exact h3
      ·show (1441 - A.iAdd k' 1).toNat<(1441 - i).toNat
       rw [hks2];omega
     ·conv=>cbv
      split
      ·conv=>cbv
       exact hR' _ (.inr hn')
      ·rename_i hc
       have hf:False:=nF hA hc
       cases hf
   ·intro hb
    have hk:1440≤k':=ltF hA hb
    have hend:endF g 1441 (j'+1)=k:=by rw [←hke];exact endF_stop g (by omega)
    conv=>cbv
    refine hRf _ ?_
    clear hRf
    conv=>cbv
    refine hRd _ ?_
    clear hRd hRe hR3
    conv=>cbv
    have hyk:Y.ys[kk]?=some [.agg [.int .i64 i,.int .i64 k']]:=by
     have h1:(spansL g)[kk]?=some ⟨(j':Int),((k:Nat):Int)⟩:=by
      have h2:((spansL g).drop kk)[0]?=some ⟨(j':Int),((endF g 1441 (j'+1):Nat):Int)⟩:=by rw [hdr];rfl
      rw [List.getElem?_drop,Nat.add_zero,hend] at h2
      exact h2
     rw [hys,List.getElem?_map,h1,hj,hk']
     rfl
    have hkl2:kk+1≤(spansL g).length:=by
     have:=(List.getElem?_eq_some_iff.1 hyk).1
     rw [hys,List.length_map] at this;omega
    refine yld_intro' hA rfl hy hyk ?_ (fun n' hn'=>?_)
    ·conv=>cbv
     split
     ·rename_i hc
      cases (nT hA hc)
     conv=>cbv
     refine hRb _ ?_
     clear hRb
     conv=>cbv
     have hks2:A.iAdd k' 1=k'+1:=addI hA _ _
     refine ⟨inR' hA hks2 (by unfold inI64;omega),hR2 (A.iAdd k' 1,kk+1) _ ?_ ⟨k+1,by rw [hks2,hk'];rfl,by omega,?_,hkl2⟩ ?_⟩
     ·conv=>cbv
      exact wk_sl (by repeat (first | refine leL_same ?_ | refine leL_any ?_ | exact leL_nil))
     ·have h3:=congrArg List.tail hdr
      rw [List.tail_drop,List.tail_cons,hend] at h3
      exact h3
     ·show (1441 - A.iAdd k' 1).toNat<(1441 - i).toNat
      rw [hks2];omega
    ·conv=>cbv
     split
     ·conv=>cbv
      exact hR' _ (.inr hn')
     ·rename_i hc
      have hf:False:=nF hA hc
      cases hf
 ·rename_i hc
  have hi:1440≤i:=ltF hA hc
  conv=>cbv
  refine hR' kk (.inl ?_)
  have h1:(spansL g).drop kk=[]:=by rw [hdr,spansL_end g (by omega)]
  have h2:=List.drop_eq_nil_iff.1 h1
  rw [hys,List.length_map]
  omega
end Go.Abs
namespace Go.Abs
open Go.RowKit Go.Proofs
theorem CallsPV.nil_to {P:Program} {f:FuncId} {args:List PV} {m m':Nat} (h:CallsPV P f args (.list m [])) (h0:m'≠0):CallsPV P f args (.list m' []):=by
 refine ⟨h.1,fun S w vs hS hv=>(h.2 S w vs hS hv).mono ?_⟩
 rintro e w' ⟨v,rfl,hb,hr⟩
 refine ⟨v,rfl,hb,?_⟩
 obtain ⟨a,ad,cap,g,rfl,h1,h2,h3,h4,h5,h6⟩:=RV.slice_iff hr
 exact RV.list_nil m' a cap h3 (fun h=>absurd h h0)
def spansPV (l:List Span):PV:=if l=[] then .list 0 [] else .list 2 (encSpans l)
theorem appendSeqS {f:FuncId} {caps:List PV} (l:List Span) (hlen:l.length≤1000000) (hseq:SeqPV Tryz.prog f caps (l.map fun c=>[encSpan c])) :
  CallsPV Tryz.prog 294 [.list 0 [],.fn f caps] (spansPV l):=by
 refine callsPV_by (clo:=fun _=>false) (rows:=false) env_ok Tryz.func294 rfl (enters_of Tryz.func294 (by kernel_rfl) rfl) (fun A q P Y hr hA hq=>?_)
 conv=>cbv
 refine rng_intro hA hseq (fun x hx=>?_) (fun (y:SV × List (Nat × TypeId)) s=>{ s with bx:=s.bx.set 0 (some [y.1]),tk:=y.2 })
  (fun k y=>(k=0∧y=(.val (.list 0 []),[]))∨(k≠0∧y=(.own 0 2 (encSpans (l.take k)),[((encSpans (l.take k)).length,31)]))) (.val (.list 0 []),[]) (fun _=>rfl) ?_ ?_ ?_ ?_
 ·obtain ⟨o,_,rfl⟩:=List.mem_map.1 hx;rfl
 ·conv=>cbv
  exact wk_sl (by repeat (first | refine leL_same ?_ | refine leL_any ?_ | exact leL_nil))
 ·exact .inl ⟨rfl,rfl⟩
 ·intro R k y x hx hy hR
  rw [List.getElem?_map,Option.map_eq_some_iff] at hx
  obtain ⟨⟨a,b⟩,hs,rfl⟩:=hx
  have hkl:k<l.length:=(List.getElem?_eq_some_iff.1 hs).1
  rcases hy with ⟨rfl,rfl⟩ | ⟨hk,rfl⟩
  ·have hroom:A.room (A.nLen [.agg [.int .i64 a,.int .i64 b]]) 16:=by
    subst hA
    show 1*(16+1)≤140737488355328
    omega
   conv=>cbv
   refine ⟨hroom,hR (.own 0 2 [.agg [.int .i64 a,.int .i64 b]],[(A.nLen [.agg [.int .i64 a,.int .i64 b]],31)]) _ ?_ (.inr ⟨by omega,?_⟩)⟩
   ·(conv=>cbv)
    exact wk_round (bx:=[_]) (bx':=[_]) (mp:=[]) (mp':=[]) (by repeat (first | refine leL_same ?_ | refine leL_any ?_ | exact leL_nil)) (Nat.le_refl _) (.inl rfl) rfl rfl
   ·rw [List.take_add_one,hs]
    subst hA
    rfl
  ·obtain ⟨L,hL⟩:∃L,L=encSpans (l.take k):=⟨_,rfl⟩
   have hLl:L.length≤1000000:=by rw [hL];simp [encSpans];omega
   have hn0:L.length=A.nLen L:=by subst hA;rfl
   have htk:A.tkEq (A.nLen L) (A.nLen L):=by subst hA;rfl
   have hroom:A.room (A.nLen (A.lApp L [.agg [.int .i64 a,.int .i64 b]])) 16:=by
    subst hA
    show (L++[_]).length*(16+1)≤140737488355328
    rw [List.length_append,List.length_singleton];omega
   rw [←hL,hn0]
   conv=>cbv
   refine ⟨⟨htk,hroom⟩,hR (.own 0 2 (A.lApp L [.agg [.int .i64 a,.int .i64 b]]),[(A.nLen (A.lApp L [.agg [.int .i64 a,.int .i64 b]]),31)]) _ ?_ (.inr ⟨by omega,?_⟩)⟩
   ·(conv=>cbv)
    exact wk_round (bx:=[_]) (bx':=[_]) (mp:=[]) (mp':=[]) (by repeat (first | refine leL_same ?_ | refine leL_any ?_ | exact leL_nil)) (Nat.le_refl _) (.inl rfl) rfl rfl
   ·have e:A.lApp L [.agg [.int .i64 a,.int .i64 b]]=encSpans (l.take (k+1)):=by
     rw [hL,List.take_add_one,hs]
     subst hA
     show encSpans _++_=_
     simp [encSpans,encSpan]
    rw [e]
    subst hA
    rfl
 ·intro y hy
  rw [List.length_map] at hy
  rcases hy with ⟨h0,rfl⟩ | ⟨h0,rfl⟩
  ·conv=>cbv
   rw [←hq,spansPV,if_pos (List.eq_nil_of_length_eq_zero h0)]
  ·rw [List.take_length]
   obtain ⟨L,hL⟩:∃L,L=encSpans l:=⟨_,rfl⟩
   rw [←hL]
   conv=>cbv
   rw [←hq,spansPV,if_neg (by intro h;rw [h] at h0;exact h0 rfl),hL]
theorem collectS {f:FuncId} {caps:List PV} (l:List Span) (hlen:l.length≤1000000) (hseq:SeqPV Tryz.prog f caps (l.map fun c=>[encSpan c])) :
  CallsPV Tryz.prog 277 [.fn f caps] (spansPV l):=by
 refine callsPV_by (clo:=fun _=>false) (rows:=false) env_ok Tryz.func277 rfl (enters_of Tryz.func277 (by kernel_rfl) rfl) (fun A q P Y hr hA hq=>?_)
 have h:=appendSeqS l hlen hseq
 generalize spansPV l=r at h hq
 conv=>cbv
 refine call_intro hA (h) ?_
 conv=>cbv
 rw [←hq]
theorem day_spans (cs:List PV):CallsPV Tryz.prog 278 [.ptr cs 0] (.fn 295 [.ptr [.ptr cs 0] 0]):=by
 refine callsPV_by (clo:=fun _=>false) (rows:=false) env_ok Tryz.func278 rfl (enters_of Tryz.func278 (by kernel_rfl) rfl) (fun A q P Y hr hA hq=>?_)
 conv=>cbv
 rw [←hq]
theorem minus1 (a b:Bool):CallsPV Tryz.prog 230 [.bool a,.bool b] (.bool (a&&!b)):=by
 refine callsPV_by (clo:=fun _=>false) (rows:=false) env_ok Tryz.func230 rfl (enters_of Tryz.func230 (by kernel_rfl) rfl) (fun A q P Y hr hA hq=>?_)
 cases a with
 | true =>
  conv=>cbv
  rw [←hq];subst hA;rfl
 | false =>
  conv=>cbv
  rw [←hq];rfl
end Go.Abs
namespace Go.Abs
open Go.RowKit Go.Proofs
theorem pvsOf_vals:∀(l:List PV),pvsOf (l.map SV.val)=some l
 | []=>rfl
 | p::r=>by
  show (match (SV.val p).pv,pvsOf (r.map SV.val) with | some p,some l=>some (p::l) | _,_=>none)=_
  rw [pvsOf_vals r];rfl
theorem spansF_len (g:Nat→Bool):∀(k i:Nat),(spansF g k i).length≤k
 | 0,_=>Nat.le_refl _
 | k+1,i=>by
  rw [spansF_s]
  split
  ·split
   ·have:=spansF_len g k (endF g 1441 (i+1)+1)
    simp only [List.length_cons];omega
   ·have:=spansF_len g k (i+1)
    omega
  ·exact Nat.zero_le _
theorem spansL_len (g:Nat→Bool):(spansL g).length≤1000000:=by
 have:=spansF_len g 1441 0
 unfold spansL
 omega
def cloMi (n:Nat):Bool:=n == 10000000 || n == 5000000+276
set_option maxRecDepth 4000 in
set_option maxHeartbeats 1000000 in
theorem hours_combine (a b:List Span) {xa xb:List PV} (ha:xa=encSpans a) (hb:xb=encSpans b) (hla:a.length≤1000000) (hlb:b.length≤1000000) :
  CallsPV Tryz.prog 229 [.list 2 xa,.list 2 xb,.fn 230 []] (spansPV (spansL fun i=>a.any (inSp i)&&!b.any (inSp i))):=by
 refine callsPV_by (clo:=cloMi) (rows:=true) env_ok Tryz.func229 rfl (enters_of Tryz.func229 (by kernel_rfl) rfl) (fun A q P Y hr hA hq=>?_)
 obtain ⟨g1,hg1⟩:∃g1:Nat→Bool,g1=fun i:Nat=>a.any (inSp i):=⟨_,rfl⟩
 obtain ⟨g2,hg2⟩:∃g2:Nat→Bool,g2=fun i:Nat=>b.any (inSp i):=⟨_,rfl⟩
 have hof1:=hours_of a ha hla [] (fun _ _ _=>rfl)
 have hof2:=hours_of b hb hlb [some (cellsB g1)] (fun x y z=>by
  rw [List.all_cons,List.all_nil,Bool.and_true];exact cellsB_within _ _ _ _)
 have hcol:=fun (g:Nat→Bool) (hl:(spansL g).length≤1000000)=>collectS (spansL g) hl (day_spans1 g)
 obtain ⟨qq,hqq⟩:∃qq:(Nat→Bool)→PV,∀g,qq g=spansPV (spansL g):=⟨fun g=>spansPV (spansL g),fun _=>rfl⟩
 obtain ⟨F,hF⟩:∃F:Bool→Bool→Bool,F=fun x y=>x&&!y:=⟨_,rfl⟩
 have hf:∀x y,CallsPV Tryz.prog 230 [.bool x,.bool y] (.bool (F x y)):=fun x y=>by rw [hF];exact minus1 x y
 rw [←hqq,show (fun i:Nat=>a.any (inSp i)&&!b.any (inSp i))=fun i=>F (g1 i) (g2 i) by rw [hF,hg1,hg2]] at hq
 clear hF
 rw [show (fun i:Nat=>a.any (inSp i))=g1 from hg1.symm] at hof1
 rw [show (fun i:Nat=>b.any (inSp i))=g2 from hg2.symm] at hof2
 clear hg1 hg2
 obtain ⟨C1,hC1⟩:∃C1,C1=cellsB g1:=⟨_,rfl⟩
 obtain ⟨C2,hC2⟩:∃C2,C2=cellsB g2:=⟨_,rfl⟩
 rw [←hC1] at hof1 hof2
 rw [←hC2] at hof2
 conv=>cbv
 refine shareR_intro hA (CallsR.flags hof1) (fun r bx' tk' ax' h=>?_)
 obtain ⟨rfl,rfl,rfl,rfl⟩:=h
 conv=>cbv
 refine shareR_intro hA (CallsR.flags hof2) (fun r bx' tk' ax' h=>?_)
 obtain ⟨rfl,rfl,rfl,rfl⟩:=h
 conv=>cbv
 refine loop_set hA (fun (z:Int × List SV) s=>{ s.put (some 14) (.val (.int .i64 z.1)) with bx:=[some z.2,some C2] })
  (fun z=>0≤z.1∧z.1≤1440∧z.2=cellsB fun (k:Nat)=>if (k:Int)<z.1 then F (g1 k) (g2 k) else g1 k) (fun z=>(1440 - z.1).toNat) (0,C1) ?_ ?_ ?_
 ·conv=>cbv
  exact wk_sl (by repeat (first | refine leL_same ?_ | refine leL_any ?_ | exact leL_nil))
 ·refine ⟨Int.le_refl _,by omega,?_⟩
  simp only
  rw [hC1]
  refine cellsB_congr fun k _=>?_
  rw [if_neg (by omega)]
 rintro R ⟨i,C⟩ ⟨hi0,hi1,hC⟩ hR
 simp only at hi0 hi1 hC
 conv=>cbv
 split
 ·rename_i hc
  have hi:i<1440:=ltT hA hc
  have his:A.iAdd i 1=i+1:=addI hA _ _
  have hir:A.inR (A.iAdd i 1):=inR' hA his (by unfold inI64;omega)
  conv=>cbv
  refine ⟨draw_intro hA (by kernel_rfl),?_⟩
  have hin:A.within i (A.iNat 1440):=by subst hA;exact ⟨hi0,hi⟩
  have hnn:A.nNat i=i.toNat:=by subst hA;rfl
  have hidx:0+A.nNat i*1+0=i.toNat:=by rw [hnn];omega
  refine ⟨hin,?_⟩
  obtain ⟨v1,hv1⟩:∃v1,v1=g1 i.toNat:=⟨_,rfl⟩
  obtain ⟨v2,hv2⟩:∃v2,v2=g2 i.toNat:=⟨_,rfl⟩
  refine rld_cell hA (C:=C) (c:=.val (.bool v1)) rfl rfl rfl (by rw [hidx,hC,cellsB_get _ (by omega),if_neg (by omega),hv1]) ?_
  conv=>cbv
  refine ⟨hin,?_⟩
  refine rld_cell hA (C:=C2) (c:=.val (.bool v2)) rfl rfl rfl (by rw [hidx,hC2,cellsB_get _ (by omega),hv2]) ?_
  conv=>cbv
  have hfv:=hf v1 v2
  obtain ⟨v3,hv3⟩:∃v3,v3=F v1 v2:=⟨_,rfl⟩
  rw [←hv3] at hfv
  refine call_intro hA (hfv) ?_
  conv=>cbv
  refine ⟨hin,?_⟩
  obtain ⟨D,hD⟩:∃D,D=C.set (0+A.nNat i*1+0) (.val (.bool v3)):=⟨_,rfl⟩
  refine rst_cell hA (C:=C) rfl rfl rfl rfl (by rw [hidx,hC,cellsB_len];omega) hD ?_
  rw [hidx] at hD
  conv=>cbv
  refine ⟨hir,hR (A.iAdd i 1,D) _ ?_ ⟨by rw [his];omega,by rw [his];omega,?_⟩ (by rw [his];omega)⟩
  ·conv=>cbv
   exact wk_sl (by repeat (first | refine leL_same ?_ | refine leL_any ?_ | exact leL_nil))
  ·simp only
   rw [hD,hC,cellsB_set,his]
   refine cellsB_congr fun k hk=>?_
   split
   ·rename_i hk2
    rw [if_pos (by omega),hv3,hv1,hv2,hk2]
   ·rename_i hk2
    by_cases hk3:(k:Int)<i
    ·rw [if_pos hk3,if_pos (by omega)]
    ·rw [if_neg hk3,if_neg (by omega)]
 ·rename_i hc
  have hi:1440≤i:=ltF hA hc
  have hCe:C=(pvsB fun k=>F (g1 k) (g2 k)).map SV.val:=by
   rw [hC,pvsB_sv]
   exact cellsB_congr fun k hk=>if_pos (by omega)
  have hsl:(spansL fun k=>F (g1 k) (g2 k)).length≤1000000:=spansL_len _
  have hc1:=hcol _ hsl
  obtain ⟨ps,hps⟩:∃ps,ps=pvsB fun k=>F (g1 k) (g2 k):=⟨_,rfl⟩
  rw [←hps] at hCe hc1
  rw [←hqq] at hc1
  rw [hq] at hc1
  conv=>cbv
  refine frz_intro hA (Frz.still 0 C ps _ _ _ _ rfl (by rw [hCe];exact pvsOf_vals _) (Frz.refl _ _)) rfl (day_spans ps) ?_
  conv=>cbv
  refine call_intro hA (hc1) ?_
  conv=>cbv
  exact ⟨_,Frz.refl _ _,trivial,rfl⟩
def minusL (a b:List Span):List Span:=spansL fun i=>a.any (inSp i)&&!b.any (inSp i)
theorem hours_Minus (a b:List Span) {xa xb:List PV} (ha:xa=encSpans a) (hb:xb=encSpans b) (hla:a.length≤1000000) (hlb:b.length≤1000000) :
  CallsPV Tryz.prog 164 [.list 2 xa,.list 2 xb] (.list 2 (encSpans (minusL a b))):=by
 have hc:=hours_combine a b ha hb hla hlb
 rw [show (spansL fun i:Nat=>a.any (inSp i)&&!b.any (inSp i))=minusL a b from rfl] at hc
 generalize minusL a b=L at hc
 unfold spansPV at hc
 by_cases h0:L=[]
 ·subst h0
  rw [if_pos rfl] at hc
  refine CallsPV.nil_to (m:=0) ?_ (by decide)
  refine callsPV_by (clo:=fun _=>false) (rows:=false) env_ok Tryz.func164 rfl (enters_of Tryz.func164 (by kernel_rfl) rfl) (fun A q P Y hr hA hq=>?_)
  conv=>cbv
  refine call_intro hA (hc) ?_
  conv=>cbv
  rw [←hq]
 ·rw [if_neg h0] at hc
  refine callsPV_by (clo:=fun _=>false) (rows:=false) env_ok Tryz.func164 rfl (enters_of Tryz.func164 (by kernel_rfl) rfl) (fun A q P Y hr hA hq=>?_)
  obtain ⟨r,hr2⟩:∃r,r=encSpans L:=⟨_,rfl⟩
  rw [←hr2] at hc hq
  conv=>cbv
  refine call_intro hA (hc) ?_
  conv=>cbv
  rw [←hq]
def coversB (l:List Span) (s:Span):Bool:=decide (s.To≤s.From) || (decide (0≤s.From)&&decide (s.To≤1440)&&decide ((minusL [s] l).length=0))
theorem coversB_iff (l:List Span) (s:Span):coversB l s=true↔(s.To≤s.From∨(0≤s.From∧s.To≤1440∧∀m,s.From≤m→m<s.To→inHours l m=true)):=by
 unfold coversB minusL
 simp only [Bool.or_eq_true,Bool.and_eq_true,decide_eq_true_eq,List.length_eq_zero_iff,spansL_nil]
 constructor
 ·rintro (h | ⟨⟨h1,h2⟩,h3⟩)
  ·exact .inl h
  ·refine .inr ⟨h1,h2,fun m hm1 hm2=>?_⟩
   have h4:=h3 m.toNat (by omega)
   rw [show ((m.toNat:Nat):Int)=m by omega] at h4
   simp only [List.any_cons,List.any_nil,Bool.or_false,inSp,decide_eq_true hm1,decide_eq_true hm2,Bool.and_true,Bool.true_and,Bool.not_eq_false'] at h4
   unfold inHours
   rw [decide_eq_true (show 0≤m by omega),decide_eq_true (show m<1440 by omega)]
   exact h4
 ·rintro (h | ⟨h1,h2,h3⟩)
  ·exact .inl h
  ·refine .inr ⟨⟨h1,h2⟩,fun j hj=>?_⟩
   by_cases hin:s.From≤(j:Int)∧(j:Int)<s.To
   ·have h4:=h3 j hin.1 hin.2
    unfold inHours at h4
    simp only [Bool.and_eq_true] at h4
    rw [h4.2]
    simp
   ·rw [Bool.and_eq_false_iff]
    left
    simp only [List.any_cons,List.any_nil,Bool.or_false,inSp,Bool.and_eq_false_iff,decide_eq_false_iff_not]
    omega
theorem hours_Covers (l:List Span) (s:Span) {xs:List PV} (hx:xs=encSpans l) (hl:l.length≤1000000):CallsPV Tryz.prog 95 [.list 2 xs,encSpan s] (.bool (coversB l s)):=by
 have hm:=hours_Minus [s] l (xa:=[encSpan s]) rfl hx (by simp) hl
 have hcv:coversB l s=(decide (s.To≤s.From) || (decide (0≤s.From)&&decide (s.To≤1440)&&decide ((minusL [s] l).length=0))):=rfl
 generalize minusL [s] l=L at hm hcv
 obtain ⟨r,hr2⟩:∃r,r=encSpans L:=⟨_,rfl⟩
 have hrl:r.length=L.length:=by rw [hr2];simp [encSpans]
 rw [←hr2] at hm
 refine callsPV_by (clo:=fun _=>false) (rows:=false) env_ok Tryz.func95 rfl (enters_of Tryz.func95 (by kernel_rfl) rfl) (fun A q P Y hr hA hq=>?_)
 obtain ⟨a,b⟩:=s
 simp only at hcv
 rw [hcv] at hq
 conv=>cbv
 split
 ·rename_i hc
  conv=>cbv
  rw [←hq,decide_eq_true (leT hA hc)];rfl
 rename_i hc
 have h0:=leF hA hc
 rw [decide_eq_false (show ¬b≤a by omega),Bool.false_or] at hq
 conv=>cbv
 split
 ·rename_i hc
  rw [decide_eq_true (show 0≤a from leT hA hc),Bool.true_and] at hq
  conv=>cbv
  split
  ·rename_i hc
   rw [decide_eq_true (show b≤1440 from leT hA hc),Bool.true_and] at hq
   conv=>cbv
   refine call_intro hA (hm) ?_
   conv=>cbv
   rw [←hq]
   have h9:A.iEq (A.lLen r) 0=decide (L.length=0):=by
    rw [lenI hA hrl];subst hA
    show decide ((L.length:Int)=0)=_
    rw [decide_eq_decide];omega
   exact congrArg PV.bool h9
  ·rename_i hc
   conv=>cbv
   rw [←hq,decide_eq_false (show ¬b≤1440 by have:=leF hA hc;omega)];rfl
 ·rename_i hc
  conv=>cbv
  rw [←hq,decide_eq_false (show ¬0≤a by have:=leF hA hc;omega)];rfl
end Go.Abs
namespace Go.Abs
open Go.RowKit Go.Proofs
theorem wpAll_inv3 {A:Ops} {E:Env} {ops:Array Oper} {J:(Nat→Bool)→St→Prop} {K:St→Prop}
  (hlt:∀(i:Nat) (o:Oper),ops[i]?=some o→∀e∈o.after,Region.binds .any e=true→e.on<i)
  (hJ:∀L L',(∀i,i<ops.size→L i=L' i)→∀st,J L st→J L' st)
  (hstep:∀(L:Nat→Bool) (i:Nat) (o:Oper),ops[i]?=some o→L i=false→(∀(j:Nat) (o':Oper),ops[j]?=some o'→L j=true→∀e∈o'.after,Region.binds .any e=true→L e.on=true)→(∀e∈o.after,Region.binds .any e=true→L e.on=true)→∀K':St→Prop,(∀st',J (updL L i) st'→K' st')→∀st,J L st→wpOps' A E false ops.toList [o] st K')
  (hend:∀st,J (fun _=>true) st→K st):∀(fuel:Nat) (listed:Array Bool),listed.size=ops.size→listed.toList.count false≤fuel→(∀(j:Nat) (o':Oper),ops[j]?=some o'→listed.getD j true=true→∀e∈o'.after,Region.binds .any e=true→listed.getD e.on true=true)→∀st,J (fun i=>listed.getD i true) st→wpAll' A E ops fuel listed st K:=by
 have hall:∀(listed:Array Bool),listed.size=ops.size→(∀i,i<ops.size→listed.getD i true=true)→∀st,J (fun i=>listed.getD i true) st→K st:=fun listed h1 h2 st h=>hend st (hJ _ (fun _=>true) h2 st h)
 have hnone:∀(listed:Array Bool),listed.size=ops.size→Region.ready .any ops listed=[]→∀i,i<ops.size→listed.getD i true=true:=fun listed hs h i=>by
  induction i using Nat.strongRecOn with
  | ind i ih =>
   intro hi
   cases hq:listed.getD i true with
   | true=>rfl
   | false =>
    have hmem:i∈Region.ready .any ops listed:=mem_ready.2 ⟨hq,ops[i],Array.getElem?_eq_getElem hi,fun e he hb=>by
     have h3:=hlt i ops[i] (Array.getElem?_eq_getElem hi) e he hb
     have h4:=ih e.on h3 (by omega)
     simp only [Array.getD_eq_getD_getElem?,Array.getElem?_eq_getElem (show e.on<listed.size by omega),Option.getD_some] at h4 ⊢
     exact h4⟩
    rw [h] at hmem
    cases hmem
 intro fuel
 induction fuel with
 | zero =>
  intro listed h1 h2 _ st hst
  have h3:∀i,i<ops.size→listed.getD i true=true:=fun i hi=>by
   have hm:false∉listed.toList:=List.count_eq_zero.1 (by omega)
   have hl:i<listed.size:=by omega
   simp only [Array.getD_eq_getD_getElem?,Array.getElem?_eq_getElem hl,Option.getD_some]
   cases hb:listed[i]
   ·exact absurd (by rw [←hb];simp) hm
   ·rfl
  unfold wpAll'
  cases hr:Region.ready .any ops listed with
  | nil=>exact hall listed h1 h3 st hst
  | cons i r =>
   have hmem:i∈Region.ready .any ops listed:=by rw [hr];simp
   obtain ⟨h4,o,ho,_⟩:=mem_ready.1 hmem
   have h5:=h3 i (Array.getElem?_eq_some_iff.1 ho).1
   rw [h5] at h4
   cases h4
 | succ fuel ih =>
  intro listed h1 h2 hC st hst
  unfold wpAll'
  cases hr:Region.ready .any ops listed with
  | nil=>exact hall listed h1 (hnone listed h1 hr) st hst
  | cons i r =>
   have hone:∀j∈i::r,(match ops[j]? with | none=>False | some o=>wpOps' A E false ops.toList [o] st fun st'=>wpAll' A E ops fuel (listed.setIfInBounds j true) st' K):=fun j hj=>by
    obtain ⟨h4,o,ho,h5⟩:=mem_ready.1 (by rw [hr];exact hj)
    rw [ho]
    have hjl:j<ops.size:=(Array.getElem?_eq_some_iff.1 ho).1
    refine hstep _ j o ho h4 hC (fun e he hb=>?_) _ (fun st' hst'=>?_) st hst
    ·have h6:=h5 e he hb
     have h7:=hlt j o ho e he hb
     simp only [Array.getD_eq_getD_getElem?,Array.getElem?_eq_getElem (show e.on<listed.size by omega),Option.getD_some] at h6 ⊢
     exact h6
    ·have hup:J (fun i=>(listed.setIfInBounds j true).getD i true) st':=hJ _ _ (fun k hk=>by
      unfold updL
      simp only [Array.getD_eq_getD_getElem?,Array.getElem?_setIfInBounds]
      by_cases hkj:k=j
      ·subst hkj
       simp [show k<listed.size by omega]
      ·simp [hkj,Ne.symm hkj]) st' hst'
     refine ih _ (by simp [h1]) ?_ ?_ st' hup
     rotate_left
     ·intro k o' ho' hk e he hb
      have hkl:k<ops.size:=(Array.getElem?_eq_some_iff.1 ho').1
      have hek:=hlt k o' ho' e he hb
      have key:listed.getD e.on true=true:=by
       by_cases hkj:k=j
       ·subst hkj
        rw [ho] at ho'
        cases ho'
        have h6:=h5 e he hb
        simp only [Array.getD_eq_getD_getElem?,Array.getElem?_eq_getElem (show e.on<listed.size by omega),Option.getD_some] at h6 ⊢
        exact h6
       ·refine hC k o' ho' ?_ e he hb
        simp only [Array.getD_eq_getD_getElem?,Array.getElem?_setIfInBounds] at hk ⊢
        simpa [Ne.symm hkj] using hk
      simp only [Array.getD_eq_getD_getElem?,Array.getElem?_setIfInBounds] at key ⊢
      by_cases hej:j=e.on
      ·simp [hej,show e.on<listed.size by omega]
      ·simpa [hej] using key
     have hcnt:(listed.setIfInBounds j true).toList.count false+1≤listed.toList.count false:=by
      have hl2:j<listed.toList.length:=by rw [Array.length_toList];omega
      have hb:listed.toList[j]=false:=by
       simp only [Array.getD_eq_getD_getElem?,Array.getElem?_eq_getElem (show j<listed.size by omega),Option.getD_some] at h4
       simpa using h4
      rw [Array.toList_setIfInBounds,List.count_set hl2,hb]
      have:0<listed.toList.count false:=List.count_pos_iff.2 (by rw [←hb];exact List.getElem_mem hl2)
      show listed.toList.count false - 1+0+1≤_
      omega
     omega
   have hL:∀(l:List Nat) (f:Nat→Prop),(∀j∈l,f j)→allL l f:=by
    intro l f h
    induction l with
    | nil=>trivial
    | cons a t iht =>
     cases t with
     | nil=>exact h a (by simp)
     | cons b u=>exact ⟨h a (by simp),iht fun j hj=>h j (List.mem_cons_of_mem _ hj)⟩
   exact hL _ _ hone
def mkSt3 {ι:Type} (st:St) (ops:Array Oper) (vs:ι→List SV) (bxf:(Nat→Bool)→ι→List (Option (List SV))) (mpf:(Nat→Bool)→ι→List MapC) (L:Nat→Bool) (n:ι):St :=
 ⟨mkSl L st.sl (vs n) ops.toList 0 st.sl,bxf L n,st.tk,⟨mpf L n,st.ax.yk⟩⟩
theorem region_inv3 {A:Ops} {E:Env} {id:Nat} {ops:Array Oper} {nb:Nat × Nat} {st:St} {Q:AX→St→Prop} (hm:drawMode E true id ops.size=.each) {ι:Type} (n0:ι) (vs:ι→List SV) (bxf:(Nat→Bool)→ι→List (Option (List SV))) (mpf:(Nat→Bool)→ι→List MapC)
  (h0:mkSt3 st ops vs bxf mpf (fun _=>false) n0=st) (hbx:∀L L',(∀i,i<ops.size→L i=L' i)→∀n,bxf L n=bxf L' n) (hmp:∀L L',(∀i,i<ops.size→L i=L' i)→∀n,mpf L n=mpf L' n)
  (hlt':ltOk ops=true)
  (hstep:∀(L:Nat→Bool) (i:Nat) (o:Oper),ops[i]?=some o→L i=false→(∀(j:Nat) (o':Oper),ops[j]?=some o'→L j=true→∀e∈o'.after,Region.binds .any e=true→L e.on=true)→(∀e∈o.after,Region.binds .any e=true→L e.on=true)→∀(K':St→Prop) (n:ι),(∀n',K' (mkSt3 st ops vs bxf mpf (updL L i) n'))→wpOps' A E false ops.toList [o] (mkSt3 st ops vs bxf mpf L n) K')
  (hend:∀n,Q .normal (mkSt3 st ops vs bxf mpf (fun _=>true) n)):wpC' A E (.region id ops true) nb st Q:=by
 have hlt:=ltOk_spec hlt'
 unfold wpC'
 rw [hm]
 have hJ:∀L L',(∀i,i<ops.size→L i=L' i)→∀n,mkSt3 st ops vs bxf mpf L n=mkSt3 st ops vs bxf mpf L' n:=fun L L' h n=>by
  unfold mkSt3
  rw [hbx L L' h,hmp L L' h,mkSl_congr (L:=L) (L':=L') fun j _ h2=>h j (by simpa using h2)]
 have e:mkSt3 st ops vs bxf mpf (fun i=>(Array.replicate ops.size false).getD i true) n0=st:=by
  refine (hJ _ (fun _=>false) (fun i hi=>?_) n0).trans h0
  simp [Array.getD_eq_getD_getElem?,hi]
 refine wpAll_inv3 (A:=A) (E:=E) (K:=Q .normal) (J:=fun L s=>∃n,s=mkSt3 st ops vs bxf mpf L n) hlt ?_ ?_ ?_ ops.size (Array.replicate ops.size false) (by simp) (by simp [List.count_replicate]) (fun j o' ho' hj=>by
  have:=(Array.getElem?_eq_some_iff.1 ho').1
  simp [Array.getD_eq_getD_getElem?,this] at hj) st ⟨n0,e.symm⟩
 ·rintro L L' h s ⟨n,rfl⟩
  exact ⟨n,hJ L L' h n⟩
 ·rintro L i o ho hL hC he K' hK s ⟨n,rfl⟩
  exact hstep L i o ho hL hC he K' n fun n'=>hK _ ⟨n',rfl⟩
 ·rintro s ⟨n,rfl⟩
  exact hend n
def sel3 {α:Type} (a b:Bool) (x y z:α):α:=match a with | true=>x | false=>match b with | true=>y | false=>z
end Go.Abs
namespace Go.Abs
open Go.RowKit Go.Proofs
theorem index_Int (v:Int) (l:List Int) {xs:List PV} (hx:xs=encInts l):CallsPV Tryz.prog 267 [.list 1 xs,.int .i64 v] (.int .i64 (findI (fun x=>decide (v=x)) l)):=by
 refine callsPV_by (clo:=fun _=>false) (rows:=false) env_ok Tryz.func267 rfl (enters_of Tryz.func267 (by kernel_rfl) rfl) (fun A q P Y hr hA hq=>?_)
 have hlen:=(hr.mem (p:=.list 1 xs) (by simp)).len
 have hll:xs.length=l.length:=by rw [hx];simp [encInts]
 conv=>cbv
 refine loop_set hA (fun (i:Int) s=>s.put (some 8) (.val (.int .i64 i))) (fun i=>0≤i∧i≤(l.length:Int)∧(fun i=>∀x∈l.take i.toNat,decide (v=x)=false) i) (fun i=>((l.length:Int) - i).toNat) 0 ?_ ?_ ?_
 ·conv=>cbv
  exact wk_sl (by repeat (first | refine leL_same ?_ | refine leL_any ?_ | exact leL_nil))
 ·exact ⟨Int.le_refl _,by omega,by simp⟩
 rintro R i ⟨hi0,hi1,hi2⟩ hRi
 conv=>cbv
 split
 · rename_i hc
   have hi:i<(l.length:Int):=ltT' hA rfl (lenI hA hll) hc
   have his:A.iAdd i 1=i+1:=addI hA _ _
   have hir:A.inR (A.iAdd i 1):=inR' hA his (by unfold inI64;omega)
   have him:((l.length:Int) - A.iAdd i 1).toNat<((l.length:Int) - i).toNat:=by rw [his];omega
   have hin:(fun i=>∀x∈l.take i.toNat,decide (v=x)=false) (i+1)→0≤A.iAdd i 1∧A.iAdd i 1≤(l.length:Int)∧(fun i=>∀x∈l.take i.toNat,decide (v=x)=false) (A.iAdd i 1):=fun h=>by rw [his];exact ⟨by omega,by omega,h⟩
   simp only at hin
   conv=>cbv
   refine idx_Int hA hx hi0 hi (fun x hx0=>?_)
   have ht:=take_snoc' hi0 hx0
   conv=>cbv
   split
   ·rename_i h
    have h':decide (v=x)=true:=decide_eq_true (eqT hA h)
    conv=>cbv
    rw [←hq,findI_hit hi0 hx0 h' hi2]
   ·rename_i h
    have h':decide (v=x)=false:=decide_eq_false (eqF hA h)
    conv=>cbv
    exact ⟨hir,hRi (A.iAdd i 1) _ (by (conv=>cbv);exact wk_sl (by repeat (first | refine leL_same ?_ | refine leL_any ?_ | exact leL_nil))) (hin (mem_snoc ht hi2 h')) him⟩
 rename_i hc
 have hi:i=(l.length:Int):=by have:=ltF' hA rfl (lenI hA hll) hc;omega
 conv=>cbv
 rw [←hq,findI_miss (take_all hi hi2)]
theorem contains_Int (v:Int) (l:List Int) {xs:List PV} (hx:xs=encInts l):CallsPV Tryz.prog 214 [.list 1 xs,.int .i64 v] (.bool (decide (v∈l))):=by
 refine callsPV_by (clo:=fun _=>false) (rows:=false) env_ok Tryz.func214 rfl (enters_of Tryz.func214 (by kernel_rfl) rfl) (fun A q P Y hr hA hq=>?_)
 have hi:=index_Int v l hx
 have ha:l.any (fun x=>decide (v=x))=decide (v∈l):=by
  rw [Bool.eq_iff_iff];simp
 rw [←ha,←findI_any] at hq
 generalize findI (fun x=>decide (v=x)) l=r at hi hq
 conv=>cbv
 refine call_intro hA hi ?_
 conv=>cbv
 rw [←hq]
 subst hA
 rfl
theorem changeOk_iff {nc:Nat} {M:List (List Int)} {c:Change}:changeOk nc M c=true↔0≤c.From∧c.From<1440∧0≤c.Config∧c.Config<nc∧c.Modes.length=M.length∧∀p∈c.Modes.zip M,modeB p=true:=by
 unfold changeOk
 simp only [Bool.and_eq_true,decide_eq_true_eq,List.all_eq_true,and_assoc]
theorem zip_at {α β:Type} {a:List α} {b:List β} {i:Int} {x:α} {y:β} (hx:a[i.toNat]?=some x) (hy:b[i.toNat]?=some y):(a.zip b)[i.toNat]?=some (x,y):=by
 rw [List.getElem?_zip_eq_some];exact ⟨hx,hy⟩
set_option maxHeartbeats 1000000 in
theorem cap_fits (t:Tables) (c:Change):CallsPV Tryz.prog 198 [encTables t,encChange c] (.bool (changeOk t.Configs.length t.Modes c)):=by
 refine callsPV_by (clo:=fun _=>false) (rows:=false) env_ok Tryz.func198 rfl (enters_of Tryz.func198 (by kernel_rfl) rfl) (fun A q P Y hr hA hq=>?_)
 have hbad:¬changeOk t.Configs.length t.Modes c=true→PV.bool false=q:=fun h=>by rw [←hq,Bool.eq_false_iff.2 h]
 have hK:=(changeOk_iff (nc:=t.Configs.length) (M:=t.Modes) (c:=c)).1
 have hK2:=(changeOk_iff (nc:=t.Configs.length) (M:=t.Modes) (c:=c)).2
 generalize changeOk t.Configs.length t.Modes c=kb at hbad hK hK2 hq
 obtain ⟨ss,hss⟩:∃ss,ss=encSectors t.Sectors:=⟨_,rfl⟩
 obtain ⟨cs,hcs⟩:∃cs,cs=encConfigs t.Configs:=⟨_,rfl⟩
 obtain ⟨ws,hws⟩:∃ws,ws=encWays t.Ways:=⟨_,rfl⟩
 obtain ⟨ms,hms⟩:∃ms,ms=encIntLs t.Modes:=⟨_,rfl⟩
 obtain ⟨ks,hks⟩:∃ks,ks=encKinds t.Kinds:=⟨_,rfl⟩
 obtain ⟨nv,hnv⟩:∃nv,nv=t.Volumes:=⟨_,rfl⟩
 have htab:encTables t=.agg [.int .i64 nv,.list 5 ss,.list 3 cs,.list 3 ws,.list 1 ms,.list 6 ks]:=by rw [encTables_eq t hss hcs hws hms hks,hnv]
 rw [htab]
 have hcl:cs.length=t.Configs.length:=by rw [hcs];simp [encConfigs]
 have hml:ms.length=t.Modes.length:=by rw [hms];simp [encIntLs]
 obtain ⟨c1,c2,c3⟩:=c
 obtain ⟨mo,hmo⟩:∃mo,mo=encInts c3:=⟨_,rfl⟩
 rw [show encChange ⟨c1,c2,c3⟩=.agg [.int .i64 c1,.int .i64 c2,.list 1 mo] by rw [hmo];rfl]
 have hol:mo.length=c3.length:=by rw [hmo];simp [encInts]
 have hlen:c3.length≤9223372036854775807:=by
  have:=(Real.cell (show Real [.agg [_,_,_]] from hr.mem (p:=encChange ⟨c1,c2,c3⟩) (by simp)) (c:=.list 1 (encInts c3)) (by simp)).len
  rw [←hmo,hol] at this;exact this
 simp only at hK hK2 ⊢
 conv=>cbv
 split
 ·rename_i hc
  conv=>cbv
  exact hbad (fun h=>by have:=hK h;have:=ltT hA hc;omega)
 rename_i g1;replace g1:=ltF hA g1
 conv=>cbv
 split
 ·rename_i hc
  conv=>cbv
  exact hbad (fun h=>by have:=hK h;have:=leT hA hc;omega)
 rename_i g2;replace g2:=leF hA g2
 conv=>cbv
 split
 ·rename_i hc
  conv=>cbv
  exact hbad (fun h=>by have:=hK h;have:=ltT hA hc;omega)
 rename_i g3;replace g3:=ltF hA g3
 conv=>cbv
 split
 ·rename_i hc
  conv=>cbv
  exact hbad (fun h=>by have:=hK h;have:=leT' hA (lenI hA hcl) rfl hc;omega)
 rename_i g4;replace g4:=leF' hA (lenI hA hcl) rfl g4
 conv=>cbv
 split
 ·rename_i hc
  conv=>cbv
  exact hbad (fun h=>by have:=hK h;have:=neT' hA (lenI hA hol) (lenI hA hml) hc;omega)
 rename_i g5;replace g5:=neF' hA (lenI hA hol) (lenI hA hml) g5
 conv=>cbv
 refine loop_set hA (fun (i:Int) s=>s.put (some 40) (.val (.int .i64 i))) (fun i=>0≤i∧i≤(c3.length:Int)∧(fun i=>∀p∈(c3.zip t.Modes).take i.toNat,modeB p=true) i) (fun i=>((c3.length:Int) - i).toNat) 0 ?_ ?_ ?_
 ·conv=>cbv
  exact wk_sl (by repeat (first | refine leL_same ?_ | refine leL_any ?_ | exact leL_nil))
 ·exact ⟨Int.le_refl _,by omega,by simp⟩
 rintro R i ⟨hi0,hi1,hi2⟩ hRi
 conv=>cbv
 split
 · rename_i hc
   have hi:i<(c3.length:Int):=ltT' hA rfl (lenI hA hol) hc
   have his:A.iAdd i 1=i+1:=addI hA _ _
   have hir:A.inR (A.iAdd i 1):=inR' hA his (by unfold inI64;omega)
   have him:((c3.length:Int) - A.iAdd i 1).toNat<((c3.length:Int) - i).toNat:=by rw [his];omega
   have hin:(fun i=>∀p∈(c3.zip t.Modes).take i.toNat,modeB p=true) (i+1)→0≤A.iAdd i 1∧A.iAdd i 1≤(c3.length:Int)∧(fun i=>∀p∈(c3.zip t.Modes).take i.toNat,modeB p=true) (A.iAdd i 1):=fun h=>by rw [his];exact ⟨by omega,by omega,h⟩
   simp only at hin
   conv=>cbv
   have hl0:i.toNat<t.Modes.length:=by omega
   have hl1:=List.getElem?_eq_getElem hl0
   refine idx_Int hA hmo hi0 hi (fun m hm=>?_)
   have hbad2:∀l,t.Modes[i.toNat]?=some l→modeB (m,l)=false→PV.bool false=q:=fun l hl h=>hbad (fun hk=>by
    have:=(hK hk).2.2.2.2.2 (m,l) (List.mem_of_getElem? (zip_at hm hl))
    rw [h] at this;cases this)
   conv=>cbv
   split
   ·rename_i hc
    have:=ltT hA hc
    conv=>cbv
    exact hbad2 _ hl1 (by unfold modeB;simp;omega)
   rename_i g6;replace g6:=ltF hA g6
   conv=>cbv
   refine idx_IntL hA hms hi0 (by omega) (fun l v hl hv=>?_)
   have hvl:v.length=l.length:=by rw [hv];simp [encInts]
   have ht:=take_snoc' hi0 (zip_at hm hl)
   conv=>cbv
   split
   ·rename_i hc
    have:=leT' hA (lenI hA hvl) rfl hc
    conv=>cbv
    exact hbad2 l hl (by unfold modeB;simp;omega)
   rename_i g7;replace g7:=leF' hA (lenI hA hvl) rfl g7
   conv=>cbv
   exact ⟨hir,hRi (A.iAdd i 1) _ (by (conv=>cbv);exact wk_sl (by repeat (first | refine leL_same ?_ | refine leL_any ?_ | exact leL_nil))) (hin (mem_snoc ht hi2 (by unfold modeB;simp;omega))) him⟩
 rename_i hc
 have hi:i=(c3.length:Int):=by have:=ltF' hA rfl (lenI hA hol) hc;omega
 conv=>cbv
 rw [←hq,hK2 ⟨by omega,by omega,by omega,by omega,by omega,take_all (l:=c3.zip t.Modes) (by rw [List.length_zip];omega) hi2⟩]
theorem encScheme_eq {s:List Change} {xs:List PV} (h:xs=encChanges s):encScheme s=.agg [.list 3 xs]:=by rw [h];rfl
theorem encChange_eq (c:Change) {ms:List PV} (h:ms=encInts c.Modes):encChange c=.agg [.int .i64 c.From,.int .i64 c.Config,.list 1 ms]:=by rw [h];rfl
set_option maxHeartbeats 4000000 in
theorem cap_valid (t:Tables) (s:List Change):CallsPV Tryz.prog 146 [encTables t,encScheme s] (.bool (schemeOk t.Configs.length t.Modes s)):=by
 refine callsPV_by (clo:=fun _=>false) (rows:=false) env_ok Tryz.func146 rfl (enters_of Tryz.func146 (by kernel_rfl) rfl) (fun A q P Y hr hA hq=>?_)
 have hbad:¬schemeOk t.Configs.length t.Modes s=true→PV.bool false=q:=fun h=>by rw [←hq,Bool.eq_false_iff.2 h]
 have hK:=(schemeOk_iff (nc:=t.Configs.length) (M:=t.Modes) (s:=s)).1
 have hK2:=(schemeOk_iff (nc:=t.Configs.length) (M:=t.Modes) (s:=s)).2
 have hfit:=fun c=>cap_fits t c
 generalize schemeOk t.Configs.length t.Modes s=kb at hbad hK hK2 hq
 generalize hfb:changeOk t.Configs.length t.Modes=fb at hK hK2 hfit
 obtain ⟨xs,hxs⟩:∃xs,xs=encChanges s:=⟨_,rfl⟩
 have hxl:xs.length=s.length:=by rw [hxs];simp [encChanges]
 have hlen:s.length≤9223372036854775807:=by
  have:=(Real.cell (show Real [.agg [_]] from hr.mem (p:=encScheme s) (by simp)) (c:=.list 3 (encChanges s)) (by simp)).len
  rw [←hxs,hxl] at this;exact this
 obtain ⟨ss,hss⟩:∃ss,ss=encSectors t.Sectors:=⟨_,rfl⟩
 obtain ⟨cs,hcs⟩:∃cs,cs=encConfigs t.Configs:=⟨_,rfl⟩
 obtain ⟨ws,hws⟩:∃ws,ws=encWays t.Ways:=⟨_,rfl⟩
 obtain ⟨ms,hms⟩:∃ms,ms=encIntLs t.Modes:=⟨_,rfl⟩
 obtain ⟨ks,hks⟩:∃ks,ks=encKinds t.Kinds:=⟨_,rfl⟩
 obtain ⟨nv,hnv⟩:∃nv,nv=t.Volumes:=⟨_,rfl⟩
 have htab:encTables t=.agg [.int .i64 nv,.list 5 ss,.list 3 cs,.list 3 ws,.list 1 ms,.list 6 ks]:=by rw [encTables_eq t hss hcs hws hms hks,hnv]
 rw [htab] at hfit ⊢
 rw [encScheme_eq hxs]
 conv=>cbv
 split
 ·rename_i hc
  conv=>cbv
  exact hbad (fun h=>by obtain ⟨⟨c,h1,_⟩,_⟩:=hK h;have:=eqT' hA (lenI hA hxl) rfl hc;have:=(List.getElem?_eq_some_iff.1 h1).1;omega)
 rename_i g1;replace g1:=eqF' hA (lenI hA hxl) rfl g1
 conv=>cbv
 refine idx_Change hA hxs (Int.le_refl 0) (by omega) (fun c0 v0 hc0 hv0=>?_)
 have hc00:s[0]?=some c0:=hc0
 obtain ⟨k1,k2,k3⟩:=c0
 conv=>cbv
 split
 ·rename_i hc
  conv=>cbv
  exact hbad (fun h=>by obtain ⟨⟨c,h1,h2⟩,_⟩:=hK h;rw [hc00] at h1;cases h1;exact neT hA hc h2)
 rename_i g2;replace g2:=neF hA g2
 conv=>cbv
 refine loop_set hA (fun (i:Int) s=>s.put (some 22) (.val (.int .i64 i))) (fun i=>0≤i∧i≤(s.length:Int)∧(fun i=>(∀x∈s.take i.toNat,fb x=true)∧∀(k:Nat) (x y:Change),(k:Int)+1<i→s[k]?=some x→s[k+1]?=some y→x.From<y.From) i) (fun i=>((s.length:Int) - i).toNat) 0 ?_ ?_ ?_
 ·conv=>cbv
  exact wk_sl (by repeat (first | refine leL_same ?_ | refine leL_any ?_ | exact leL_nil))
 ·exact ⟨Int.le_refl _,by omega,by constructor;simp;intro k x y h;omega⟩
 rintro R i ⟨hi0,hi1,hi2⟩ hRi
 conv=>cbv
 split
 · rename_i hc
   have hi:i<(s.length:Int):=ltT' hA rfl (lenI hA hxl) hc
   have his:A.iAdd i 1=i+1:=addI hA _ _
   have hir:A.inR (A.iAdd i 1):=inR' hA his (by unfold inI64;omega)
   have him:((s.length:Int) - A.iAdd i 1).toNat<((s.length:Int) - i).toNat:=by rw [his];omega
   have hin:(fun i=>(∀x∈s.take i.toNat,fb x=true)∧∀(k:Nat) (x y:Change),(k:Int)+1<i→s[k]?=some x→s[k+1]?=some y→x.From<y.From) (i+1)→0≤A.iAdd i 1∧A.iAdd i 1≤(s.length:Int)∧(fun i=>(∀x∈s.take i.toNat,fb x=true)∧∀(k:Nat) (x y:Change),(k:Int)+1<i→s[k]?=some x→s[k+1]?=some y→x.From<y.From) (A.iAdd i 1):=fun h=>by rw [his];exact ⟨by omega,by omega,h⟩
   simp only at hin
   conv=>cbv
   obtain ⟨hi3,hi4⟩:=hi2
   refine idx_Change hA hxs hi0 hi (fun x v hx hv=>?_)
   have ht:=take_snoc' hi0 hx
   have hm:=List.mem_of_getElem? hx
   have hf:=hfit x
   rw [encChange_eq x hv] at hf
   have hxx:=hx
   obtain ⟨x1,x2,x3⟩:=x
   simp only at hf hv
   conv=>cbv
   refine ⟨draw_intro hA (by kernel_rfl),?_⟩
   conv=>cbv
   cases hb:fb ⟨x1,x2,x3⟩ with
   | false =>
    rw [hb] at hf
    refine call_intro hA (hf) ?_
    conv=>cbv
    split
    rotate_left
    ·rename_i hc
     cases ((nF hA hc))
    conv=>cbv
    exact hbad (fun h=>by have:=(hK h).2.1 _ hm;rw [hb] at this;cases this)
   | true =>
    rw [hb] at hf
    refine call_intro hA (hf) ?_
    conv=>cbv
    split
    ·rename_i hc
     cases ((nT hA hc))
    conv=>cbv
    have hnx:(∀c,s[(i - 1).toNat]?=some c→0<i→c.From<x1)→(∀x∈s.take (i+1).toNat,fb x=true)∧∀(k:Nat) (x y:Change),(k:Int)+1<i+1→s[k]?=some x→s[k+1]?=some y→x.From<y.From:=fun h=>by
     refine ⟨mem_snoc ht hi3 hb,fun k x y hk hx hy=>?_⟩
     by_cases e:(k:Int)+1<i
     ·exact hi4 k x y e hx hy
     ·have e1:k+1=i.toNat:=by omega
      rw [e1,hxx] at hy
      cases hy
      exact h x (by rw [show (i - 1).toNat=k by omega];exact hx) (by omega)
    split
    ·rename_i hc
     have g3:=ltT hA hc
     have hsub:A.iSub i 1=i - 1:=subI hA _ _
     conv=>cbv
     refine ⟨inR' hA hsub (by unfold inI64;omega),?_⟩
     conv=>cbv
     refine idx_Change hA hxs (n:=A.iSub i 1) (by rw [hsub];omega) (by rw [hsub];omega) (fun y v2 hy hv2=>?_)
     rw [hsub] at hy
     obtain ⟨y1,y2,y3⟩:=y
     simp only at hv2 ⊢
     have hyf:y1<x1∨PV.bool false=q∧x1≤y1:=by
      rcases Int.lt_or_le y1 x1 with h | h
      ·exact .inl h
      ·refine .inr ⟨hbad (fun h2=>?_),h⟩
       have:=(hK h2).2.2 (i - 1).toNat _ _ hy (by rw [show (i - 1).toNat+1=i.toNat by omega];exact hxx)
       simp only at this
       omega
     conv=>cbv
     split
     ·rename_i hc
      have g4:=leT hA hc
      conv=>cbv
      exact hyf.elim (fun h=>by omega) (fun h=>h.1)
     rename_i g4;replace g4:=leF hA g4
     conv=>cbv
     exact ⟨hir,hRi (A.iAdd i 1) _ (by (conv=>cbv);exact wk_round (bx:=[_,_]) (bx':=[_]) (mp:=[]) (mp':=[]) (by repeat (first | refine leL_same ?_ | refine leL_any ?_ | exact leL_nil)) (by simp) (by simp) rfl rfl) (hin (hnx (fun c h1 _=>by rw [hy] at h1;cases h1;omega))) him⟩
    ·rename_i hc
     have g3:=ltF hA hc
     conv=>cbv
     exact ⟨hir,hRi (A.iAdd i 1) _ (by (conv=>cbv);exact wk_round (bx:=[_,_]) (bx':=[_]) (mp:=[]) (mp':=[]) (by repeat (first | refine leL_same ?_ | refine leL_any ?_ | exact leL_nil)) (by simp) (by simp) rfl rfl) (hin (hnx (fun c h1 h2=>by omega))) him⟩
 rename_i hc
 have hi:i=(s.length:Int):=by have:=ltF' hA rfl (lenI hA hxl) hc;omega
 conv=>cbv
 rw [←hq,hK2 ⟨⟨_,hc00,g2⟩,take_all hi hi2.1,fun k x y hx hy=>hi2.2 k x y (by have:=(List.getElem?_eq_some_iff.1 hy).1;omega) hx hy⟩]
theorem cap_Check (t:Tables) (s:List Change):CallsPV Tryz.prog 76 [encTables t,encScheme s] (.int .i64 (capErr t s)):=by
 refine callsPV_by (clo:=fun _=>false) (rows:=false) env_ok Tryz.func76 rfl (enters_of Tryz.func76 (by kernel_rfl) rfl) (fun A q P Y hr hA hq=>?_)
 have h1:=air_Check t
 have h2:=cap_valid t s
 have hE:capErr t s=if airOk t then (if schemeOk t.Configs.length t.Modes s then 0 else 190) else 140:=rfl
 rw [hE] at hq
 generalize airOk t=a at h1 hq
 generalize schemeOk t.Configs.length t.Modes s=b at h2 hq
 obtain ⟨ss,hss⟩:∃ss,ss=encSectors t.Sectors:=⟨_,rfl⟩
 obtain ⟨cs,hcs⟩:∃cs,cs=encConfigs t.Configs:=⟨_,rfl⟩
 obtain ⟨ws,hws⟩:∃ws,ws=encWays t.Ways:=⟨_,rfl⟩
 obtain ⟨ms,hms⟩:∃ms,ms=encIntLs t.Modes:=⟨_,rfl⟩
 obtain ⟨ks,hks⟩:∃ks,ks=encKinds t.Kinds:=⟨_,rfl⟩
 obtain ⟨nv,hnv⟩:∃nv,nv=t.Volumes:=⟨_,rfl⟩
 have htab:encTables t=.agg [.int .i64 nv,.list 5 ss,.list 3 cs,.list 3 ws,.list 1 ms,.list 6 ks]:=by rw [encTables_eq t hss hcs hws hms hks,hnv]
 rw [htab] at h1 h2 ⊢
 obtain ⟨xs,hxs⟩:∃xs,xs=encChanges s:=⟨_,rfl⟩
 rw [encScheme_eq hxs] at h2 ⊢
 conv=>cbv
 refine callI hA h1 rfl (fun r hr=>?_)
 conv=>cbv
 cases a with
 | false =>
  split
  ·conv=>cbv
   exact hq▸hr▸rfl
  ·rename_i hc
   have:=neF hA hc
   rw [hr] at this
   simp at this
 | true =>
  split
  ·rename_i hc
   have:=neT hA hc
   rw [hr] at this
   simp at this
  conv=>cbv
  cases b with
  | false =>
   refine call_intro hA h2 ?_
   conv=>cbv
   split
   rotate_left
   ·rename_i hc
    cases ((nF hA hc))
   conv=>cbv
   exact hq
  | true =>
   refine call_intro hA h2 ?_
   conv=>cbv
   split
   ·rename_i hc
    cases ((nT hA hc))
   conv=>cbv
   exact hq
def inR_ (s:List Change) (m:Int):PV:=match inS s m with
 | some c=>.tup [encChange c,.bool true]
 | none=>.tup [.agg [.int .i64 0,.int .i64 0,.list 0 []],.bool false]
def InAt (o:Option Change) (F C:Int) (n:Nat) (vs:List PV) (ok:Bool):Prop:=match o with
 | some d=>F=d.From∧C=d.Config∧(n=1∧vs=encInts d.Modes)∧ok=true
 | none=>F=0∧C=0∧(n=0∧vs=[])∧ok=false
theorem InAt.go {o:Option Change} {F C:Int} {n:Nat} {vs:List PV} {ok:Bool} {x1 x2 m:Int} {x3:List Int} {v:List PV} (hv:v=encInts x3) (h:InAt o F C n vs ok) (h1:x1≤m) (h2:ok=true→F≤x1):InAt (inStep m o ⟨x1,x2,x3⟩) x1 x2 1 v true:=by
 unfold inStep
 simp only [if_pos h1]
 cases o with
 | none=>exact ⟨rfl,rfl,⟨rfl,hv⟩,rfl⟩
 | some d =>
  obtain ⟨e1,e2,e3,e4⟩:=h
  have:=h2 e4
  simp only
  rw [if_pos (by omega)]
  exact ⟨rfl,rfl,⟨rfl,hv⟩,rfl⟩
theorem InAt.stay {o:Option Change} {F C:Int} {n:Nat} {vs:List PV} {ok:Bool} {x1 x2 m:Int} {x3:List Int} (h:InAt o F C n vs ok) (h1:m<x1∨ok=true∧x1<F):InAt (inStep m o ⟨x1,x2,x3⟩) F C n vs ok:=by
 unfold inStep
 rcases h1 with h1 | ⟨h1,h2⟩
 ·simp only [if_neg (show ¬x1≤m by omega)];exact h
 ·cases o with
  | none=>exact absurd (h.2.2.2.symm.trans h1) (by decide)
  | some d =>
   have:=h.1
   simp only [if_neg (show ¬d.From≤x1 by omega)]
   split<;>exact h
set_option maxHeartbeats 4000000 in
theorem cap_In (s:List Change) (m:Int):CallsPV Tryz.prog 85 [encScheme s,.int .i64 m] (inR_ s m):=by
 refine callsPV_by (clo:=fun _=>false) (rows:=false) env_ok Tryz.func85 rfl (enters_of Tryz.func85 (by kernel_rfl) rfl) (fun A q P Y hr hA hq=>?_)
 obtain ⟨xs,hxs⟩:∃xs,xs=encChanges s:=⟨_,rfl⟩
 have hxl:xs.length=s.length:=by rw [hxs];simp [encChanges]
 have hlen:s.length≤9223372036854775807:=by
  have:=(Real.cell (show Real [.agg [_]] from hr.mem (p:=encScheme s) (by simp)) (c:=.list 3 (encChanges s)) (by simp)).len
  rw [←hxs,hxl] at this;exact this
 rw [encScheme_eq hxs]
 conv=>cbv
 refine loop_set hA (fun (y:Int × Int × Int × (Nat × List PV) × Bool) s=>{ ((s.put (some 11) (.val (.int .i64 y.1))).put (some 5) (.val (.bool y.2.2.2.2))) with bx:=[some [.val (.list 3 xs)],some [.val (.int .i64 y.2.1),.val (.int .i64 y.2.2.1),.val (.list y.2.2.2.1.1 y.2.2.2.1.2)]] })
  (fun y=>0≤y.1∧y.1≤s.length∧InAt ((s.take y.1.toNat).foldl (inStep m) none) y.2.1 y.2.2.1 y.2.2.2.1.1 y.2.2.2.1.2 y.2.2.2.2) (fun y=>(s.length - y.1).toNat) (0,0,0,(0,[]),false) ?_ ?_ ?_
 ·conv=>cbv
  exact Wk.trans _ _ _ (Wk.forgetBx _ _ [some [.val (.list 3 xs)],some [.val (.int .i64 0),.val (.int .i64 0),.val (.list 0 [])]] _ _ ⟨leL_same leL_nil,leL_same (leL_same (leL_lit leL_nil)),trivial⟩) (wk_sl (by repeat (first | refine leL_same ?_ | refine leL_any ?_ | exact leL_nil)))
 ·exact ⟨Int.le_refl _,by omega,rfl,rfl,⟨rfl,rfl⟩,rfl⟩
 rintro R ⟨i,F,C,⟨n,vs⟩,ok⟩ ⟨hi0,hi1,hi2⟩ hR
 simp only at hi0 hi1 hi2
 conv=>cbv
 split
 ·rename_i hc
  have hi:i<s.length:=ltT' hA rfl (lenI hA hxl) hc
  conv=>cbv
  refine idx_Change hA hxs hi0 hi (fun x v hx hv=>?_)
  have ht:(s.take (i+1).toNat).foldl (inStep m) none=inStep m ((s.take i.toNat).foldl (inStep m) none) x:=by
   rw [take_snoc' hi0 hx,foldl_snoc]
  generalize (s.take i.toNat).foldl (inStep m) none=o at hi2 ht
  obtain ⟨x1,x2,x3⟩:=x
  simp only at hv
  have his:A.iAdd i 1=i+1:=addI hA _ _
  have hir:A.inR (A.iAdd i 1):=inR' hA his (by unfold inI64;omega)
  have him:((s.length:Int) - A.iAdd i 1).toNat<(s.length - i).toNat:=by rw [his];omega
  have hnx:∀F' C' n' vs' ok',InAt (inStep m o ⟨x1,x2,x3⟩) F' C' n' vs' ok'→0≤A.iAdd i 1∧A.iAdd i 1≤s.length∧InAt ((s.take (A.iAdd i 1).toNat).foldl (inStep m) none) F' C' n' vs' ok':=fun F' C' n' vs' ok' h=>by
   rw [his,ht];exact ⟨by omega,by omega,h⟩
  have hgo:=InAt.go (x1:=x1) (x2:=x2) (m:=m) hv hi2
  have hstay:=InAt.stay (x1:=x1) (x2:=x2) (m:=m) (x3:=x3) hi2
  conv=>cbv
  split
  ·rename_i hc
   have g1:=leT hA hc
   conv=>cbv
   cases hok:ok with
   | false =>
    rw [hok] at hi2 hgo
    split
    ·rename_i hc
     conv=>cbv
     exact ⟨hir,hR (A.iAdd i 1,x1,x2,(1,v),true) _ (by (conv=>cbv);exact wk_round (bx:=[_,_]) (bx':=[_]) (mp:=[]) (mp':=[]) (by repeat (first | refine leL_same ?_ | refine leL_any ?_ | exact leL_nil)) (by simp) (by simp) rfl rfl) (hnx _ _ _ _ _ (hgo g1 (fun h=>by cases h))) him⟩
    ·rename_i hc
     cases (nF hA hc)
   | true =>
    rw [hok] at hi2 hgo hstay
    split
    ·rename_i hc
     cases (nT hA hc)
    conv=>cbv
    split
    ·rename_i hc
     have g2:=leT hA hc
     conv=>cbv
     exact ⟨hir,hR (A.iAdd i 1,x1,x2,(1,v),true) _ (by (conv=>cbv);exact wk_round (bx:=[_,_]) (bx':=[_]) (mp:=[]) (mp':=[]) (by repeat (first | refine leL_same ?_ | refine leL_any ?_ | exact leL_nil)) (by simp) (by simp) rfl rfl) (hnx _ _ _ _ _ (hgo g1 (fun _=>g2))) him⟩
    ·rename_i hc
     have g2:=leF hA hc
     conv=>cbv
     exact ⟨hir,hR (A.iAdd i 1,F,C,(n,vs),true) _ (by (conv=>cbv);exact wk_round (bx:=[_,_]) (bx':=[_]) (mp:=[]) (mp':=[]) (by repeat (first | refine leL_same ?_ | refine leL_any ?_ | exact leL_nil)) (by simp) (by simp) rfl rfl) (hnx _ _ _ _ _ (hstay (.inr ⟨rfl,g2⟩))) him⟩
  ·rename_i hc
   have g1:=leF hA hc
   conv=>cbv
   exact ⟨hir,hR (A.iAdd i 1,F,C,(n,vs),ok) _ (by (conv=>cbv);exact wk_round (bx:=[_,_]) (bx':=[_]) (mp:=[]) (mp':=[]) (by repeat (first | refine leL_same ?_ | refine leL_any ?_ | exact leL_nil)) (by simp) (by simp) rfl rfl) (hnx _ _ _ _ _ (hstay (.inl g1))) him⟩
 ·rename_i hc
  have hi:i=s.length:=by have:=ltF' hA rfl (lenI hA hxl) hc;omega
  rw [show s.take i.toNat=s by rw [List.take_of_length_le (by omega)]] at hi2
  conv=>cbv
  have hR2:PV.tup [.agg [.int .i64 F,.int .i64 C,.list n vs],.bool ok]=q:=by
   rw [←hq]
   unfold inR_
   have h:InAt (inS s m) F C n vs ok:=hi2
   cases ho:inS s m with
   | none =>
    rw [ho] at h
    obtain ⟨rfl,rfl,⟨rfl,rfl⟩,rfl⟩:=h
    rfl
   | some d =>
    rw [ho] at h
    obtain ⟨rfl,rfl,⟨rfl,rfl⟩,rfl⟩:=h
    rfl
  exact hR2
theorem find_at {α:Type} {p:α→Bool} {l:List α} {i:Int} {x:α} (hx:l[i.toNat]?=some x) (hp:p x=true) (h:∀y∈l.take i.toNat,p y=false):l.find? p=some x:=by
 rw [List.find?_eq_some_iff_append]
 have hlt:=List.getElem?_eq_some_iff.1 hx
 refine ⟨hp,l.take i.toNat,l.drop (i.toNat+1),?_,fun y hy=>by simp [h y hy]⟩
 conv=>lhs;rw [←List.take_append_drop i.toNat l,List.drop_eq_getElem_cons hlt.1,hlt.2]
def secR (o:Option Int):PV:=.tup [.int .i64 (o.getD 0),.bool o.isSome]
set_option maxHeartbeats 4000000 in
theorem cfg_Sector (ss:List Sector) (cs:List Config) (n:Nat) (vs:List PV) (c v:Int) {xs ys:List PV} (hx:xs=encSectors ss) (hy:ys=encConfigs cs) :
  CallsPV Tryz.prog 156 [.agg [.list n vs,.list 5 xs,.list 3 ys,.list 0 [],.list 0 [],.list 0 [],.list 0 [],.list 0 []],.int .i64 c,.int .i64 v] (secR (cfgSec ss cs c v)):=by
 refine callsPV_by (clo:=fun _=>false) (rows:=false) env_ok Tryz.func156 rfl (enters_of Tryz.func156 (by kernel_rfl) rfl) (fun A q P Y hr hA hq=>?_)
 have hxl:xs.length=ss.length:=by rw [hx];simp [encSectors]
 have hyl:ys.length=cs.length:=by rw [hy];simp [encConfigs]
 have hcl:∀k∈cs,k.Sectors.length≤9223372036854775807:=fun k hk=>by
  have h1:=Real.cell (show Real [.agg [_,_,_,_,_,_,_,_]] from hr.mem (p:=.agg [.list n vs,.list 5 xs,.list 3 ys,.list 0 [],.list 0 [],.list 0 [],.list 0 [],.list 0 []]) (by simp)) (c:=.list 3 ys) (by simp)
  have:=(Real.elem h1 (x:=encConfig k) (by rw [hy];exact List.mem_map_of_mem hk) (c:=.list 1 (encInts k.Sectors)) (by simp [encConfig,PV.cells])).len
  simpa [encInts] using this
 have hno:cfgSec ss cs c v=none→PV.tup [.int .i64 0,.bool false]=q:=fun h=>by rw [←hq,h];rfl
 have hyes:∀z,cfgSec ss cs c v=some z→PV.tup [.int .i64 z,.bool true]=q:=fun z h=>by rw [←hq,h];rfl
 clear hq
 conv=>cbv
 split
 ·rename_i hc
  conv=>cbv
  exact hno (by have:=ltT hA hc;unfold cfgSec;rw [if_neg (by omega)])
 rename_i g1;replace g1:=ltF hA g1
 conv=>cbv
 split
 ·rename_i hc
  conv=>cbv
  exact hno (by have:=leT' hA (lenI hA hyl) rfl hc;unfold cfgSec;rw [if_pos g1,List.getElem?_eq_none (by omega)])
 rename_i g2;replace g2:=leF' hA (lenI hA hyl) rfl g2
 conv=>cbv
 refine idx_Config hA hy g1 g2 (fun k v1 v2 hk hv1 hv2=>?_)
 have hfd:cfgSec ss cs c v=k.Sectors.find? (volIn ss v):=by unfold cfgSec;rw [if_pos g1,hk]
 have hkl:=hcl k (List.mem_of_getElem? hk)
 rw [hfd] at hno hyes
 obtain ⟨k1,k2,k3⟩:=k
 simp only at hkl hno hyes hv2
 have hul:v2.length=k3.length:=by rw [hv2];simp [encInts]
 conv=>cbv
 refine loop_set hA (fun (i:Int) s=>s.put (some 26) (.val (.int .i64 i))) (fun i=>0≤i∧i≤(k3.length:Int)∧(fun i=>∀x∈k3.take i.toNat,volIn ss v x=false) i) (fun i=>((k3.length:Int) - i).toNat) 0 ?_ ?_ ?_
 ·conv=>cbv
  exact wk_sl (by repeat (first | refine leL_same ?_ | refine leL_any ?_ | exact leL_nil))
 ·exact ⟨Int.le_refl _,by omega,by simp⟩
 rintro R i ⟨hi0,hi1,hi2⟩ hRi
 conv=>cbv
 split
 · rename_i hc
   have hi:i<(k3.length:Int):=ltT' hA rfl (lenI hA hul) hc
   have his:A.iAdd i 1=i+1:=addI hA _ _
   have hir:A.inR (A.iAdd i 1):=inR' hA his (by unfold inI64;omega)
   have him:((k3.length:Int) - A.iAdd i 1).toNat<((k3.length:Int) - i).toNat:=by rw [his];omega
   have hin:(fun i=>∀x∈k3.take i.toNat,volIn ss v x=false) (i+1)→0≤A.iAdd i 1∧A.iAdd i 1≤(k3.length:Int)∧(fun i=>∀x∈k3.take i.toNat,volIn ss v x=false) (A.iAdd i 1):=fun h=>by rw [his];exact ⟨by omega,by omega,h⟩
   simp only at hin
   conv=>cbv
   refine idx_Int hA hv2 hi0 hi (fun x hx0=>?_)
   have ht:=take_snoc' hi0 hx0
   conv=>cbv
   split
   rotate_left
   ·rename_i hc
    have g3:=leF hA hc
    conv=>cbv
    exact ⟨hir,hRi (A.iAdd i 1) _ (by (conv=>cbv);exact wk_sl (by repeat (first | refine leL_same ?_ | refine leL_any ?_ | exact leL_nil))) (hin (mem_snoc ht hi2 (by unfold volIn;rw [decide_eq_false (by omega)];rfl))) him⟩
   rename_i g3;replace g3:=leT hA g3
   conv=>cbv
   split
   rotate_left
   ·rename_i hc
    have g4:=ltF' hA rfl (lenI hA hxl) hc
    conv=>cbv
    exact ⟨hir,hRi (A.iAdd i 1) _ (by (conv=>cbv);exact wk_sl (by repeat (first | refine leL_same ?_ | refine leL_any ?_ | exact leL_nil))) (hin (mem_snoc ht hi2 (by unfold volIn;rw [List.getElem?_eq_none (by omega)];simp))) him⟩
   rename_i g4;replace g4:=ltT' hA rfl (lenI hA hxl) g4
   conv=>cbv
   refine idx_Sector hA hx g3 g4 (fun s w1 w2 hs hw1 hw2=>?_)
   have hvi:volIn ss v x=decide (v∈s.Volumes):=by unfold volIn;rw [hs,decide_eq_true g3];rfl
   have hcall:=contains_Int v s.Volumes hw2
   rw [←hvi] at hcall
   obtain ⟨s1,s2,s3,s4,s5⟩:=s
   conv=>cbv
   cases hb:volIn ss v x with
   | true =>
    rw [hb] at hcall
    refine call_intro hA (hcall) ?_
    conv=>cbv
    exact hyes x (find_at hx0 hb hi2)
   | false =>
    rw [hb] at hcall
    refine call_intro hA (hcall) ?_
    conv=>cbv
    exact ⟨hir,hRi (A.iAdd i 1) _ (by (conv=>cbv);exact wk_sl (by repeat (first | refine leL_same ?_ | refine leL_any ?_ | exact leL_nil))) (hin (mem_snoc ht hi2 hb)) him⟩
 rename_i hc
 have hi:i=(k3.length:Int):=by have:=ltF' hA rfl (lenI hA hul) hc;omega
 conv=>cbv
 exact hno (by rw [List.find?_eq_none];intro x hx;rw [take_all hi hi2 x hx];simp)
theorem air_Sector (t:Tables) (c v:Int):CallsPV Tryz.prog 86 [encTables t,.int .i64 c,.int .i64 v] (secR (cfgSec t.Sectors t.Configs c v)):=by
 refine callsPV_by (clo:=fun _=>false) (rows:=false) env_ok Tryz.func86 rfl (enters_of Tryz.func86 (by kernel_rfl) rfl) (fun A q P Y hr hA hq=>?_)
 obtain ⟨ss,hss⟩:∃ss,ss=encSectors t.Sectors:=⟨_,rfl⟩
 obtain ⟨cs,hcs⟩:∃cs,cs=encConfigs t.Configs:=⟨_,rfl⟩
 obtain ⟨ws,hws⟩:∃ws,ws=encWays t.Ways:=⟨_,rfl⟩
 obtain ⟨ms,hms⟩:∃ms,ms=encIntLs t.Modes:=⟨_,rfl⟩
 obtain ⟨ks,hks⟩:∃ks,ks=encKinds t.Kinds:=⟨_,rfl⟩
 obtain ⟨nv,hnv⟩:∃nv,nv=t.Volumes:=⟨_,rfl⟩
 have htab:encTables t=.agg [.int .i64 nv,.list 5 ss,.list 3 cs,.list 3 ws,.list 1 ms,.list 6 ks]:=by rw [encTables_eq t hss hcs hws hms hks,hnv]
 rw [htab]
 have h:=fun n vs=>cfg_Sector t.Sectors t.Configs n vs c v hss hcs
 unfold secR at h hq
 generalize (cfgSec t.Sectors t.Configs c v).getD 0=z at h hq
 generalize (cfgSec t.Sectors t.Configs c v).isSome=b at h hq
 conv=>cbv
 refine call_intro hA (h _ _) ?_
 conv=>cbv
 exact hq
theorem cap_Sector (t:Tables) (s:List Change) (v m:Int):CallsPV Tryz.prog 29 [encTables t,encScheme s,.int .i64 v,.int .i64 m] (secR (secAt t s v m)):=by
 refine callsPV_by (clo:=fun _=>false) (rows:=false) env_ok Tryz.func29 rfl (enters_of Tryz.func29 (by kernel_rfl) rfl) (fun A q P Y hr hA hq=>?_)
 have h1:=cap_In s m
 have h2:=fun c=>air_Sector t c v
 obtain ⟨ss,hss⟩:∃ss,ss=encSectors t.Sectors:=⟨_,rfl⟩
 obtain ⟨cs,hcs⟩:∃cs,cs=encConfigs t.Configs:=⟨_,rfl⟩
 obtain ⟨ws,hws⟩:∃ws,ws=encWays t.Ways:=⟨_,rfl⟩
 obtain ⟨ms,hms⟩:∃ms,ms=encIntLs t.Modes:=⟨_,rfl⟩
 obtain ⟨ks,hks⟩:∃ks,ks=encKinds t.Kinds:=⟨_,rfl⟩
 obtain ⟨nv,hnv⟩:∃nv,nv=t.Volumes:=⟨_,rfl⟩
 have htab:encTables t=.agg [.int .i64 nv,.list 5 ss,.list 3 cs,.list 3 ws,.list 1 ms,.list 6 ks]:=by rw [encTables_eq t hss hcs hws hms hks,hnv]
 rw [htab] at h2 ⊢
 obtain ⟨xs,hxs⟩:∃xs,xs=encChanges s:=⟨_,rfl⟩
 rw [encScheme_eq hxs] at h1 ⊢
 unfold inR_ at h1
 unfold secAt at hq
 cases hI:inS s m with
 | none =>
  rw [hI] at h1 hq
  simp only at h1 hq
  conv=>cbv
  refine call_intro hA (h1) ?_
  conv=>cbv
  split
  rotate_left
  ·rename_i hc
   cases ((nF hA hc))
  conv=>cbv
  exact hq
 | some d =>
  rw [hI] at h1 hq
  obtain ⟨d1,d2,d3⟩:=d
  simp only at h1 hq
  have h3:=h2 d2
  unfold secR at h3 hq
  generalize (cfgSec t.Sectors t.Configs d2 v).getD 0=z at h3 hq
  generalize (cfgSec t.Sectors t.Configs d2 v).isSome=b at h3 hq
  obtain ⟨ml,hml⟩:∃ml,ml=encInts d3:=⟨_,rfl⟩
  rw [encChange_eq ⟨d1,d2,d3⟩ hml] at h1
  conv=>cbv
  refine call_intro hA (h1) ?_
  conv=>cbv
  split
  ·rename_i hc
   cases ((nT hA hc))
  conv=>cbv
  refine call_intro hA (h3) ?_
  conv=>cbv
  exact hq
end Go.Abs
namespace Go.Abs
open Go.RowKit Go.Proofs
theorem cmp_isNaN (n:Int):CallsPV Tryz.prog 161 [.int .i64 n] (.bool false):=by
 refine callsPV_by (clo:=fun _=>false) (rows:=false) env_ok Tryz.func161 rfl (enters_of Tryz.func161 (by kernel_rfl) rfl) (fun A q P Y hr hA hq=>?_)
 conv=>cbv
 rw [←hq]
 subst hA;simp [stdOps]
def cmpI (a b:Int):Int:=if a<b then -1 else if b<a then 1 else 0
theorem cmp_Compare (a b:Int):CallsPV Tryz.prog 92 [.int .i64 a,.int .i64 b] (.int .i64 (cmpI a b)):=by
 refine callsPV_by (clo:=fun _=>false) (rows:=false) env_ok Tryz.func92 rfl (enters_of Tryz.func92 (by kernel_rfl) rfl) (fun A q P Y hr hA hq=>?_)
 have hC:cmpI a b=if a<b then -1 else if b<a then 1 else 0:=rfl
 rw [hC] at hq
 conv=>cbv
 refine call_intro hA (cmp_isNaN a) ?_
 conv=>cbv
 refine call_intro hA (cmp_isNaN b) ?_
 conv=>cbv
 split
 ·rename_i h
  conv=>cbv
  rw [←hq,if_pos (ltT hA h)]
 rename_i h1
 conv=>cbv
 split
 ·rename_i h
  conv=>cbv
  rw [←hq,if_neg (by have:=ltF hA h1;omega),if_pos (ltT hA h)]
 rename_i h2
 conv=>cbv
 rw [←hq,if_neg (by have:=ltF hA h1;omega),if_neg (by have:=ltF hA h2;omega)]
def orI:List Int→Int
 | []=>0
 | x::r=>if x≠0 then x else orI r
theorem orI_append:∀(a b:List Int),(∀x∈a,x=0)→orI (a++b)=orI b
 | [],b,_=>rfl
 | x::r,b,h=>by
  rw [List.cons_append,orI,if_neg (by simp [h x (by simp)])]
  exact orI_append r b fun y hy=>h y (by simp [hy])
theorem cmp_Or (l:List Int) {xs:List PV} (hx:xs=encInts l):CallsPV Tryz.prog 91 [.list 1 xs] (.int .i64 (orI l)):=by
 refine callsPV_by (clo:=fun _=>false) (rows:=false) env_ok Tryz.func91 rfl (enters_of Tryz.func91 (by kernel_rfl) rfl) (fun A q P Y hr hA hq=>?_)
 have hll:xs.length=l.length:=by rw [hx];simp [encInts]
 have hlen:l.length≤9223372036854775807:=by have:=(hr.mem (p:=.list 1 xs) (by simp)).len;omega
 conv=>cbv
 refine loop_set hA (fun (i:Int) s=>s.put (some 8) (.val (.int .i64 i))) (fun i=>0≤i∧i≤(l.length:Int)∧(fun i=>∀x∈l.take i.toNat,x=0) i) (fun i=>((l.length:Int) - i).toNat) 0 ?_ ?_ ?_
 ·conv=>cbv
  exact wk_sl (by repeat (first | refine leL_same ?_ | refine leL_any ?_ | exact leL_nil))
 ·exact ⟨Int.le_refl _,by omega,by simp⟩
 rintro R i ⟨hi0,hi1,hi2⟩ hRi
 conv=>cbv
 split
 · rename_i hc
   have hi:i<(l.length:Int):=ltT' hA rfl (lenI hA hll) hc
   have his:A.iAdd i 1=i+1:=addI hA _ _
   have hir:A.inR (A.iAdd i 1):=inR' hA his (by unfold inI64;omega)
   have him:((l.length:Int) - A.iAdd i 1).toNat<((l.length:Int) - i).toNat:=by rw [his];omega
   have hin:(fun i=>∀x∈l.take i.toNat,x=0) (i+1)→0≤A.iAdd i 1∧A.iAdd i 1≤(l.length:Int)∧(fun i=>∀x∈l.take i.toNat,x=0) (A.iAdd i 1):=fun h=>by rw [his];exact ⟨by omega,by omega,h⟩
   simp only at hin
   conv=>cbv
   refine idx_Int hA hx hi0 hi (fun x hx0=>?_)
   have ht:=take_snoc' hi0 hx0
   have hn:i.toNat<l.length:=by omega
   have e:orI l=orI (x::l.drop (i.toNat+1)):=by
    have h1:=List.getElem?_eq_some_iff.1 hx0
    rw [←h1.2,List.getElem_cons_drop h1.1]
    conv=>lhs;rw [←List.take_append_drop i.toNat l]
    exact orI_append _ _ hi2
   conv=>cbv
   split
   ·rename_i h
    conv=>cbv
    rw [←hq,e,orI,if_pos (neT hA h)]
   rename_i h
   conv=>cbv
   exact ⟨hir,hRi (A.iAdd i 1) _ (by (conv=>cbv);exact wk_sl (by repeat (first | refine leL_same ?_ | refine leL_any ?_ | exact leL_nil))) (hin (mem_snoc ht hi2 (neF hA h))) him⟩
 rename_i hc
 have hi:i=(l.length:Int):=by have:=ltF' hA rfl (lenI hA hll) hc;omega
 conv=>cbv
 have h0:orI l=0:=by
  have:=orI_append l [] (take_all hi hi2)
  rw [List.append_nil] at this;exact this
 rw [←hq,h0]
theorem fl_Decided (f:Flight) (hf:inI64 (f.Window.From - 30)∨f.Window.From<30):CallsPV Tryz.prog 40 [encFlight f] (.int .i64 (if f.Window.From<30 then 0 else f.Window.From - 30)):=by
 refine callsPV_by (clo:=fun _=>false) (rows:=false) env_ok Tryz.func40 rfl (enters_of Tryz.func40 (by kernel_rfl) rfl) (fun A q P Y hr hA hq=>?_)
 obtain ⟨f1,f2,f3,f4,f5,⟨f6,f7⟩,f8⟩:=f
 obtain ⟨ws,hws⟩:∃ws,ws=encInts f5:=⟨_,rfl⟩
 rw [show encFlight ⟨f1,f2,f3,f4,f5,⟨f6,f7⟩,f8⟩=.agg [.int .i64 f1,.int .i64 f2,.int .i64 f3,.str f4,.list 1 ws,.int .i64 f6,.int .i64 f7,.bool f8] by rw [hws];rfl]
 simp only at hf hq
 conv=>cbv
 split
 ·rename_i h
  conv=>cbv
  rw [←hq,if_pos (ltT hA h)]
 ·rename_i h
  have h':=ltF hA h
  conv=>cbv
  refine ⟨inR' hA (subI hA f6 30) (by rcases hf with hf | hf;exact hf;omega),?_⟩
  rw [←hq,if_neg (by omega)]
  show PV.int .i64 (A.iSub f6 30)=_
  rw [subI hA]
end Go.Abs
namespace Go.Abs
open Go.RowKit Go.Proofs
def cmpC (a b:Cell):Int:=orI [cmpI (rankB a.Airport) (rankB b.Airport),cmpI a.Index b.Index,cmpI a.Minute b.Minute]
theorem dm_Compare1 (c:Cell):CallsPV Tryz.prog 90 [encCell c] (.int .i64 (rankB c.Airport)):=by
 refine callsPV_by (clo:=fun _=>false) (rows:=false) env_ok Tryz.func90 rfl (enters_of Tryz.func90 (by kernel_rfl) rfl) (fun A q P Y hr hA hq=>?_)
 obtain ⟨c1,c2,c3⟩:=c
 cases c1<;>(conv=>cbv)<;>exact hq
theorem dm_Compare (a b:Cell):CallsPV Tryz.prog 35 [encCell a,encCell b] (.int .i64 (cmpC a b)):=by
 refine callsPV_by (clo:=fun _=>false) (rows:=false) env_ok Tryz.func35 rfl (enters_of Tryz.func35 (by kernel_rfl) rfl) (fun A q P Y hr hA hq=>?_)
 have r1:=dm_Compare1 a
 have r2:=dm_Compare1 b
 obtain ⟨a1,a2,a3⟩:=a
 obtain ⟨b1,b2,b3⟩:=b
 have hC:cmpC ⟨a1,a2,a3⟩ ⟨b1,b2,b3⟩=orI [cmpI (rankB a1) (rankB b1),cmpI a2 b2,cmpI a3 b3]:=rfl
 rw [hC] at hq
 simp only at r1 r2
 generalize rankB a1=p1 at r1 hq
 generalize rankB b1=p2 at r2 hq
 have c1:=cmp_Compare p1 p2
 have c2:=cmp_Compare a2 b2
 have c3:=cmp_Compare a3 b3
 generalize cmpI p1 p2=n1 at c1 hq
 generalize cmpI a2 b2=n2 at c2 hq
 generalize cmpI a3 b3=n3 at c3 hq
 have c4:=cmp_Or [n1,n2,n3] rfl
 generalize orI [n1,n2,n3]=n4 at c4 hq
 conv=>cbv
 refine ⟨draw_intro hA (by kernel_rfl),?_⟩
 refine call_intro hA r1 ?_
 conv=>cbv
 refine call_intro hA r2 ?_
 conv=>cbv
 refine call_intro hA c1 ?_
 conv=>cbv
 refine call_intro hA c2 ?_
 conv=>cbv
 refine call_intro hA c3 ?_
 conv=>cbv
 refine call_intro hA c4 ?_
 conv=>cbv
 exact hq
theorem encUses_len (l:List Use):(encUses l).length=l.length:=by simp [encUses]
end Go.Abs
namespace Go.Abs
open Go.RowKit Go.Proofs
def keysM (es:List (Cell × Int)):List PV:=es.map fun p=>encCell p.1
def valsM (es:List (Cell × Int)):List PV:=es.map fun p=>encInt p.2
theorem encM_zip (es:List (Cell × Int)):encM encCell encInt es=(keysM es).zip (valsM es):=by
 unfold encM keysM valsM
 rw [List.zip_map',]
end Go.Abs
namespace Go.Abs
open Go.RowKit Go.Proofs
def cellM (t:Tables) (s:List Change) (x:Stay) (m:Int):Option Cell :=
 if x.Airport then some ⟨true,x.Index,m⟩ else (secAt t s x.Index m).map fun i=>⟨false,i,m⟩
def loM (x:Stay):Int:=max x.Minutes.From 0
def hiM (x:Stay):Int:=min x.Minutes.To 1440
def cellsS (t:Tables) (s:List Change) (x:Stay):List Cell:=(rangeL (loM x) (hiM x - 1)).filterMap (cellM t s x)
def cellsOf (t:Tables) (s:List Change) (l:List Stay):List Cell:=l.flatMap (cellsS t s)
theorem fm_get {α β:Type} {l:List α} {g:α→List β} {i:Nat} {x:α} {c:β} {B R:List β} (hx:l[i]?=some x) (hg:g x=B++c::R):(l.flatMap g)[((l.take i).flatMap g).length+B.length]?=some c:=by
 have hlt:=List.getElem?_eq_some_iff.1 hx
 have e:l.flatMap g=(l.take i).flatMap g++((B++c::R)++(l.drop (i+1)).flatMap g):=by
  conv=>lhs;rw [←List.take_append_drop i l,List.drop_eq_getElem_cons hlt.1,hlt.2]
  rw [List.flatMap_append,List.flatMap_cons,hg]
 rw [e,List.getElem?_append_right (by omega),Nat.add_sub_cancel_left,List.append_assoc,List.getElem?_append_right (by omega),Nat.sub_self]
 rfl
theorem flt_get {α β:Type} {L:List α} {f:α→Option β} {j:Nat} {m:α} {c:β} (h:L.take (j+1)=L.take j++[m]) (hf:f m=some c):∃R,L.filterMap f=(L.take j).filterMap f++c::R:=by
 refine ⟨(L.drop (j+1)).filterMap f,?_⟩
 conv=>lhs;rw [←List.take_append_drop (j+1) L,h]
 rw [List.filterMap_append,List.filterMap_append,List.filterMap_cons_some hf,List.append_assoc];rfl
theorem flt_len {α β:Type} {L:List α} {f:α→Option β} {j:Nat} {m:α} (h:L.take (j+1)=L.take j++[m]):((L.take (j+1)).filterMap f).length=((L.take j).filterMap f).length+if (f m).isSome then 1 else 0:=by
 rw [h,List.filterMap_append,List.length_append]
 cases hf:f m with
 | none=>simp [hf]
 | some c=>simp [hf]
theorem dm_cells (nv:Int) (ss cs ws ms ks xs ys:List PV) :
  CallsPV Tryz.prog 268 [.agg [.int .i64 nv,.list 5 ss,.list 3 cs,.list 3 ws,.list 1 ms,.list 6 ks],.agg [.list 3 xs],.list 4 ys]
   (.fn 290 [.ptr [.list 4 ys] 0,.ptr [.int .i64 nv,.list 5 ss,.list 3 cs,.list 3 ws,.list 1 ms,.list 6 ks] 0,.ptr [.list 3 xs] 0]):=by
 refine callsPV_by (clo:=fun _=>false) (rows:=false) env_ok Tryz.func268 rfl (enters_of Tryz.func268 (by kernel_rfl) rfl) (fun A q P Y hr hA hq=>?_)
 conv=>cbv
 rw [←hq]
set_option maxHeartbeats 4000000 in
theorem dm_cells1 (t:Tables) (s:List Change) (l:List Stay) {nv:Int} {ss cs ws ms ks xs ys:List PV} (htab:encTables t=.agg [.int .i64 nv,.list 5 ss,.list 3 cs,.list 3 ws,.list 1 ms,.list 6 ks]) (hxs:xs=encChanges s) (hys0:ys=encStays l) (hlen:l.length≤1000000) :
  SeqPV Tryz.prog 290 [.ptr [.list 4 ys] 0,.ptr [.int .i64 nv,.list 5 ss,.list 3 cs,.list 3 ws,.list 1 ms,.list 6 ks] 0,.ptr [.list 3 xs] 0] ((cellsOf t s l).map fun c=>[encCell c]):=by
 refine seqPV_by (clo:=fun _=>false) (rows:=false) env_ok Tryz.func290 rfl (enters_of Tryz.func290 (by kernel_rfl) rfl) rfl (fun A P Y Y' y R hr hys hy hA hR=>?_)
 have hR':=fun q (h:q=Y.ys.length∨q=Y.ys.length+1)=>hR q (by rw [hys] at h;exact h)
 have hll:ys.length=l.length:=by rw [hys0];simp [encStays]
 have hyl:Y.ys.length=(cellsOf t s l).length:=by rw [hys];simp
 have hsec:=fun v m=>cap_Sector t s v m
 rw [htab,encScheme_eq hxs] at hsec
 conv=>cbv
 refine loop_set hA (fun (z:Int × Nat) s=>{ s.put (some 12) (.val (.int .i64 z.1)) with ax:=⟨s.ax.mp,z.2⟩ }) (fun z=>0≤z.1∧z.1≤l.length∧z.2=((l.take z.1.toNat).flatMap (cellsS t s)).length) (fun z=>(l.length - z.1).toNat) (0,0) ?_ ?_ ?_
 ·conv=>cbv
  exact wk_sl (by repeat (first | refine leL_same ?_ | refine leL_any ?_ | exact leL_nil))
 ·exact ⟨Int.le_refl _,by omega,by simp⟩
 rintro R2 ⟨i,kk⟩ ⟨hi0,hi1,hk⟩ hR2
 simp only at hi0 hi1 hk
 conv=>cbv
 split
 ·rename_i hc
  have hi:i<l.length:=ltT' hA rfl (lenI hA hll) hc
  have his:A.iAdd i 1=i+1:=addI hA _ _
  conv=>cbv
  refine idx_Stay hA hys0 hi0 hi (fun x hx0=>?_)
  obtain ⟨x1,x2,⟨x3,x4⟩⟩:=x
  have hlo0:0≤loM ⟨x1,x2,⟨x3,x4⟩⟩:=Int.le_max_right _ _
  have hlo1:loM ⟨x1,x2,⟨x3,x4⟩⟩=max x3 0:=rfl
  have hhi1:hiM ⟨x1,x2,⟨x3,x4⟩⟩=min x4 1440:=rfl
  have hcl:cellsS t s ⟨x1,x2,⟨x3,x4⟩⟩=(rangeL (loM ⟨x1,x2,⟨x3,x4⟩⟩) (hiM ⟨x1,x2,⟨x3,x4⟩⟩ - 1)).filterMap (cellM t s ⟨x1,x2,⟨x3,x4⟩⟩):=rfl
  have hcm:∀m,cellM t s ⟨x1,x2,⟨x3,x4⟩⟩ m=if x1 then some ⟨true,x2,m⟩ else (secAt t s x2 m).map fun i=>⟨false,i,m⟩:=fun m=>rfl
  have hget:∀kk c B R,kk=((l.take i.toNat).flatMap (cellsS t s)).length+B.length→cellsS t s ⟨x1,x2,⟨x3,x4⟩⟩=B++c::R→Y.ys[kk]?=some [encCell c]:=fun kk c B R h1 h2=>by
   rw [hys,List.getElem?_map,h1,show cellsOf t s l=l.flatMap (cellsS t s) from rfl,fm_get hx0 h2];rfl
  have hlen2:((l.take (i+1).toNat).flatMap (cellsS t s)).length=((l.take i.toNat).flatMap (cellsS t s)).length+(cellsS t s ⟨x1,x2,⟨x3,x4⟩⟩).length:=by
   rw [take_snoc' hi0 hx0,List.flatMap_append,List.length_append];simp
  have hmx:A.iMax x3 0=loM ⟨x1,x2,⟨x3,x4⟩⟩:=by rw [hlo1];subst hA;rfl
  have hmn:A.iMin x4 1440=hiM ⟨x1,x2,⟨x3,x4⟩⟩:=by rw [hhi1];subst hA;rfl
  generalize loM ⟨x1,x2,⟨x3,x4⟩⟩=lo at hlo0 hlo1 hcl hmx
  generalize hiM ⟨x1,x2,⟨x3,x4⟩⟩=hi at hhi1 hcl hmn
  generalize cellM t s ⟨x1,x2,⟨x3,x4⟩⟩=f at hcl hcm
  generalize cellsS t s ⟨x1,x2,⟨x3,x4⟩⟩=L at hcl hget hlen2
  generalize ((l.take i.toNat).flatMap (cellsS t s)).length=k0 at hk hget hlen2
  conv=>cbv
  refine loop_set hA (fun (z:Int × Nat) s=>{ s.put (some 7) (.val (.int .i64 z.1)) with ax:=⟨s.ax.mp,z.2⟩ }) (fun z=>lo≤z.1∧(z.1≤hi∨z.1=lo)∧z.2=k0+(((rangeL lo (hi - 1)).take (z.1 - lo).toNat).filterMap f).length) (fun z=>(hi - z.1).toNat) (A.iMax x3 0,kk) ?_ ?_ ?_
  ·conv=>cbv
   exact wk_sl (by repeat (first | refine leL_same ?_ | refine leL_any ?_ | exact leL_nil))
  ·show lo≤A.iMax x3 0∧(A.iMax x3 0≤hi∨A.iMax x3 0=lo)∧kk=k0+(((rangeL lo (hi - 1)).take (A.iMax x3 0 - lo).toNat).filterMap f).length
   rw [hmx]
   exact ⟨Int.le_refl _,.inr rfl,by rw [hk];simp⟩
  rintro R3 ⟨m,kk⟩ ⟨hm0,hm1,hkk⟩ hR3
  simp only at hm0 hm1 hkk
  conv=>cbv
  split
  rotate_left
  ·rename_i hc
   have hge:=ltF' hA rfl hmn hc
   conv=>cbv
   refine ⟨inR' hA his (by unfold inI64;omega),hR2 (A.iAdd i 1,kk) _ ?_ ?_ ?_⟩
   ·(conv=>cbv)
    exact wk_round (bx:=[]) (bx':=[_]) (mp:=[]) (mp':=[]) (by repeat (first | refine leL_same ?_ | refine leL_any ?_ | exact leL_nil)) (by simp) (by simp) rfl rfl
   ·refine ⟨by show 0≤A.iAdd i 1;omega,by show A.iAdd i 1≤_;omega,?_⟩
    show kk=((l.take (A.iAdd i 1).toNat).flatMap (cellsS t s)).length
    rw [his,hlen2,hkk,hcl,List.take_of_length_le (by rw [rangeL_len];omega)]
   ·show (l.length - A.iAdd i 1).toNat<(l.length - i).toNat
    rw [his];omega
  rename_i hc
  have hmh:m<hi:=ltT' hA rfl hmn hc
  have hms:A.iAdd m 1=m+1:=addI hA _ _
  have hmr:A.inR (A.iAdd m 1):=inR' hA hms (by unfold inI64;omega)
  have hmd:(hi - A.iAdd m 1).toNat<(hi - m).toNat:=by rw [hms];omega
  have htk:(rangeL lo (hi - 1)).take ((m - lo).toNat+1)=(rangeL lo (hi - 1)).take (m - lo).toNat++[m]:=by
   rw [←rangeL_take hm0 (by omega),show (m+1 - lo).toNat=(m - lo).toNat+1 by omega]
  have hln:=flt_len (f:=f) htk
  have hnx:∀k',k'=kk+(if (f m).isSome then 1 else 0)→lo≤A.iAdd m 1∧(A.iAdd m 1≤hi∨A.iAdd m 1=lo)∧k'=k0+(((rangeL lo (hi - 1)).take (A.iAdd m 1 - lo).toNat).filterMap f).length:=fun k' h=>by
   rw [hms,show (m+1 - lo).toNat=(m - lo).toNat+1 by omega,hln]
   exact ⟨by omega,.inl (by omega),by omega⟩
  have hnS:(f m).isSome=true→lo≤A.iAdd m 1∧(A.iAdd m 1≤hi∨A.iAdd m 1=lo)∧kk+1=k0+(((rangeL lo (hi - 1)).take (A.iAdd m 1 - lo).toNat).filterMap f).length:=fun h=>hnx _ (by rw [h];rfl)
  have hnN:f m=none→lo≤A.iAdd m 1∧(A.iAdd m 1≤hi∨A.iAdd m 1=lo)∧kk=k0+(((rangeL lo (hi - 1)).take (A.iAdd m 1 - lo).toNat).filterMap f).length:=fun h=>hnx _ (by rw [h];rfl)
  have hfR:∀c,f m=some c→∃R,L=((rangeL lo (hi - 1)).take (m - lo).toNat).filterMap f++c::R:=fun c h=>by rw [hcl];exact flt_get htk h
  have hfm:=hcm m
  have hsc:=hsec x2 m
  cases x1 with
  | true =>
   rw [if_pos rfl] at hfm
   have hfR2:=hfR _ hfm
   replace hfR2:=hfR2.choose_spec
   conv=>cbv
   split
   ·rename_i hc
    cases (nT hA hc)
   conv=>cbv
   refine yld_intro' hA rfl hy (hget kk _ _ _ hkk hfR2) ?_ (fun n' hn'=>?_)
   ·conv=>cbv
    split
    ·rename_i hc
     cases (nT hA hc)
    conv=>cbv
    exact ⟨hmr,hR3 (A.iAdd m 1,kk+1) _ (by (conv=>cbv);exact wk_round (bx:=[_]) (bx':=[_]) (mp:=[]) (mp':=[]) (by repeat (first | refine leL_same ?_ | refine leL_any ?_ | exact leL_nil)) (by simp) (by simp) rfl rfl) (hnS (by rw [hfm];rfl)) hmd⟩
   ·conv=>cbv
    split
    ·conv=>cbv
     exact hR' _ (.inr hn')
    ·rename_i hc
     have hf:False:=nF hA hc
     cases hf
  | false =>
   rw [if_neg (by simp)] at hfm
   cases hz:secAt t s x2 m with
   | none =>
    rw [hz] at hsc hfm
    have hsc2:CallsPV Tryz.prog 29 _ (.tup [.int .i64 0,.bool false]):=hsc
    replace hfm:f m=none:=hfm
    conv=>cbv
    split
    rotate_left
    ·rename_i hc
     cases (nF hA hc)
    conv=>cbv
    refine call_intro hA (hsc2) ?_
    conv=>cbv
    exact ⟨hmr,hR3 (A.iAdd m 1,kk) _ (by (conv=>cbv);exact wk_round (bx:=[_]) (bx':=[_]) (mp:=[]) (mp':=[]) (by repeat (first | refine leL_same ?_ | refine leL_any ?_ | exact leL_nil)) (by simp) (by simp) rfl rfl) (hnN hfm) hmd⟩
   | some z =>
    rw [hz] at hsc hfm
    have hsc2:CallsPV Tryz.prog 29 _ (.tup [.int .i64 z,.bool true]):=hsc
    replace hfm:f m=some ⟨false,z,m⟩:=hfm
    have hfR2:=(hfR _ hfm).choose_spec
    conv=>cbv
    split
    rotate_left
    ·rename_i hc
     cases (nF hA hc)
    conv=>cbv
    refine call_intro hA (hsc2) ?_
    conv=>cbv
    refine yld_intro' hA rfl hy (hget kk _ _ _ hkk hfR2) ?_ (fun n' hn'=>?_)
    ·conv=>cbv
     split
     ·rename_i hc
      cases (nT hA hc)
     conv=>cbv
     exact ⟨hmr,hR3 (A.iAdd m 1,kk+1) _ (by (conv=>cbv);exact wk_round (bx:=[_]) (bx':=[_]) (mp:=[]) (mp':=[]) (by repeat (first | refine leL_same ?_ | refine leL_any ?_ | exact leL_nil)) (by simp) (by simp) rfl rfl) (hnS (by rw [hfm];rfl)) hmd⟩
    ·conv=>cbv
     split
     ·conv=>cbv
      exact hR' _ (.inr hn')
     ·rename_i hc
      have hf:False:=nF hA hc
      cases hf
 ·rename_i hc
  have hge:(l.length:Int)≤i:=ltF' hA rfl (lenI hA hll) hc
  conv=>cbv
  exact hR' _ (.inl (by show kk=_;rw [hyl,hk,List.take_of_length_le (by omega)];rfl))
end Go.Abs
