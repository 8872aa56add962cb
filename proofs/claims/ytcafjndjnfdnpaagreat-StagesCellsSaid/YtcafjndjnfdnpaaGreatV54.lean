/-
  overflightlaw21.StagesCells: for all few variables, Cells gives exactly the cells of all uses, strictly increasing. No conditions.
-/
import Derived.Test.YtcafjndjnfdnpaaGreatU8
import Derived.Test.YtcafjndjnfdnpaaGreatRows
import Derived.SizedLaws
set_option linter.unusedVariables false
set_option linter.unusedSimpArgs false
namespace Go.Abs
open Go.RowKit Go.Proofs
def BoxAt (rs:List (Option (List SV))) (j:Nat) (cs:List SV) (cap:Nat):Prop :=
 ∃n,rs[j]?=some (some (cs++List.replicate n (SV.val .any)))∧cs.length+n=cap∧cap≤maxLen
def BoxArg (k0:Nat) (rs:List (Option (List SV))) (cs:List SV) (arg:SV):Prop :=
 (cs=[]∧∃m,arg=.lit m [])∨∃id n j cap,arg=.row id 0 1 n cap∧id=k0+j∧n=cs.length∧BoxAt rs j cs cap
section
variable {E:Env} {A:Ops}
theorem appB (hA:A=stdOps E) {ts e:TypeId} (hk:(E.T ts).k=.slice e) (hs:(E.T e).size=1) (hz:(E.T e).zero.length=1) (hby:(E.T e).bytes+1≤10000000) {p:PV} (hp:p.cells=[p])
  {cs:List SV} {arg:SV} {rs:List (Option (List SV))} {bx0:List (Option (List SV))} {k0:Nat} (hbx:bx0.length=k0) (harg:BoxArg k0 rs cs arg) (hb:cs.length≤10000000) (sl:List SV) (tk:List (Nat × TypeId)) (ax:Ax) (K:SV→St→Prop)
  (hK':∀(id n j cap:Nat) (rs':List (Option (List SV))),id=k0+j→n=cs.length+1→BoxAt rs' j (cs++[.val p]) cap→K (.row id 0 1 n cap) ⟨sl,bx0++rs',tk,ax⟩) :
  A.appR [ts,ts] [arg,.lit 1 [p]] ⟨sl,bx0++rs,tk,ax⟩ K:=by
 have hK:∀(j cap:Nat) (rs':List (Option (List SV))),BoxAt rs' j (cs++[.val p]) cap→K (.row (k0+j) 0 1 (cs.length+1) cap) ⟨sl,bx0++rs',tk,ax⟩:=fun j cap rs'=>hK' _ _ j cap rs' rfl rfl
 refine appR_intro hA ?_
 unfold wpAppR
 simp only [hk,SV.elems,hs]
 refine ⟨trivial,trivial,by simp,by decide,hz,?_⟩
 have hbig:(cs.length+1)*((E.T e).bytes+1)≤140737488355328:=Nat.le_trans (Nat.mul_le_mul (Nat.succ_le_succ hb) hby) (by decide)
 have hpx:([p].flatMap PV.cells).map SV.val=[SV.val p]:=by simp [hp]
 have hfresh:∀(cap:Nat),cs.length+1≤cap→cap≤maxLen→K (.row (bx0++rs).length 0 1 (cs.length+1) cap) ⟨sl,bx0++(rs++[some (cs++[.val p]++List.replicate (cap - (cs.length+1)) (SV.val .any))]),tk,ax⟩:=by
  intro cap hc1 hc2
  rw [List.length_append,hbx]
  exact hK _ cap _ ⟨cap - (cs.length+1),by simp,by simp;omega,hc2⟩
 rcases harg with ⟨rfl,m,rfl⟩ | ⟨_,_,j,cap,rfl,rfl,rfl,n,h3,h4,h5⟩
 ·refine ⟨.inr rfl,by simpa using hbig,fun cap hc1 hc2=>?_⟩
  have:=hfresh cap (by simpa using hc1) hc2
  simp only [St.newBx,List.nil_append,List.length_nil,Nat.zero_add,List.length_singleton,hpx,Nat.mul_one,List.append_assoc] at this ⊢
  exact this
 ·have htake:(cs++List.replicate n (SV.val .any)).take (cs.length*1)=cs:=by rw [Nat.mul_one];exact List.take_left' rfl
  have htake':(cs++List.replicate n (SV.val .any)).take cs.length=cs:=List.take_left' rfl
  refine ⟨rfl,by simpa using hbig,cs++List.replicate n (SV.val .any),?_,by simp;omega,fun hin=>?_,fun hout cap' hc1 hc2=>?_⟩
  ·show (bx0++rs).getD (k0+j) none=_
   rw [List.getD_eq_getElem?_getD,List.getElem?_append_right (by omega)]
   simp [hbx,h3]
  ·simp only [List.length_singleton] at hin
   obtain ⟨n,rfl⟩:∃k,n=k+1:=⟨n - 1,by omega⟩
   have hdrop:(cs++List.replicate (n+1) (SV.val .any)).drop (cs.length+1)=List.replicate n (SV.val .any):=by
    rw [List.drop_append,List.drop_eq_nil_of_le (by omega)]
    simp
   have e1:(St.mk sl (bx0++rs) tk ax).setBx (k0+j) (some ((cs++List.replicate (n+1) (SV.val .any)).take (0+cs.length*1)++(([p].flatMap PV.cells).map SV.val++(cs++List.replicate (n+1) (SV.val .any)).drop (0+cs.length*1+[p].length*1))))=⟨sl,bx0++rs.set j (some (cs++[.val p]++List.replicate n (SV.val .any))),tk,ax⟩:=by
    simp only [St.setBx,St.mk.injEq,true_and,and_true,hpx,Nat.zero_add,List.length_singleton]
    rw [List.set_append_right _ _ (by omega),htake,Nat.mul_one,hdrop]
    simp [hbx]
   rw [e1]
   have hjl:j<rs.length:=(List.getElem?_eq_some_iff.1 h3).1
   exact hK j cap _ ⟨n,List.getElem?_set_self hjl,by simp at h4 ⊢;omega,h5⟩
  ·simp only [List.length_singleton] at hout hc1 ⊢
   have:=hfresh cap' hc1 hc2
   simp only [St.newBx,List.drop_zero,hpx,htake',Nat.mul_one,List.append_assoc] at this ⊢
   exact this
theorem rldB (hA:A=stdOps E) {t:TypeId} (ha:(E.T t).agg=false) (hs:(E.T t).size=1) {cs:List SV} {rs:List (Option (List SV))} {bx0:List (Option (List SV))} {k0 id j cap n i:Nat} (hbx:bx0.length=k0) (hid:id=k0+j) (h:BoxAt rs j cs cap) (hn:n=i) {c:SV} (hc:cs[i]?=some c)
  {sl:List SV} {tk:List (Nat × TypeId)} {ax:Ax} {K:SV→St→Prop} (hK:K c ⟨sl,bx0++rs,tk,ax⟩):A.rld t (.rbx id 0 n 1 0) ⟨sl,bx0++rs,tk,ax⟩ K:=by
 subst hid
 obtain ⟨r,h1,h2,h3⟩:=h
 subst hn
 refine rld_intro hA ?_
 show Res.go (opLoad E t (.box (k0+j) (0+n*1+0)) _) K
 have hil:n<cs.length:=(List.getElem?_eq_some_iff.1 hc).1
 have hb:(bx0++rs)[k0+j]?=some (some (cs++List.replicate r (SV.val .any))):=by
  rw [List.getElem?_append_right (by omega)]
  simp [hbx,h1]
 have hd:(cs++List.replicate r (SV.val .any))[n]?=some c:=by rw [List.getElem?_append_left hil];exact hc
 unfold opLoad
 simp only [List.getD_eq_getElem?_getD,hb,Option.getD_some,ha,hs,if_true,Bool.false_eq_true,if_false,Nat.zero_add,Nat.mul_one,Nat.add_zero,hd]
 exact ⟨(List.getElem?_eq_some_iff.1 hd).1,hK⟩
theorem rstB (hA:A=stdOps E) {t:TypeId} (ha:(E.T t).agg=false) (hs:(E.T t).size=1) {cs:List SV} {rs:List (Option (List SV))} {bx0:List (Option (List SV))} {k0 id j cap n i:Nat} (hbx:bx0.length=k0) (hid:id=k0+j) (h:BoxAt rs j cs cap) (hn:n=i) (hi:i<cs.length) {v:SV} (hv:v.one=true)
  {sl:List SV} {tk:List (Nat × TypeId)} {ax:Ax} {K:SV→St→Prop} (hK:∀rs',BoxAt rs' j (cs.set i v) cap→K .undef ⟨sl,bx0++rs',tk,ax⟩):A.rst t (.rbx id 0 n 1 0) v ⟨sl,bx0++rs,tk,ax⟩ K:=by
 subst hid
 obtain ⟨r,h1,h2,h3⟩:=h
 subst hn
 refine rst_intro hA ?_
 show Res.go (opStore E t (.box (k0+j) (0+n*1+0)) v _) K
 have hb:(bx0++rs)[k0+j]?=some (some (cs++List.replicate r (SV.val .any))):=by
  rw [List.getElem?_append_right (by omega)]
  simp [hbx,h1]
 have hjl:j<rs.length:=(List.getElem?_eq_some_iff.1 h1).1
 unfold opStore
 simp only [List.getD_eq_getElem?_getD,hb,Option.getD_some,ha,hs,hv,if_true,Bool.false_eq_true,if_false,Nat.zero_add,Nat.mul_one,Nat.add_zero,and_self]
 refine ⟨by simp;omega,?_⟩
 have e1:(St.mk sl (bx0++rs) tk ax).setBx (k0+j) (some ((cs++List.replicate r (SV.val .any)).set n v))=⟨sl,bx0++rs.set j (some (cs.set n v++List.replicate r (SV.val .any))),tk,ax⟩:=by
  simp only [St.setBx,St.mk.injEq,true_and,and_true]
  rw [List.set_append_right _ _ (by omega),List.set_append_left _ _ hi]
  simp [hbx]
 rw [e1]
 exact hK _ ⟨r,List.getElem?_set_self hjl,by simpa using h2,h3⟩
end
structure GrpRow (tb:Nat) (e:TypeId) (tk:List (Nat × TypeId)) (G:List (List Int)) (cs:List SV):Prop where
 len:cs.length=G.length
 cell:∀(i:Nat) (g:List Int),G[i]?=some g→∃k,tb≤k∧cs[i]?=some (.own k 1 (encInts g))∧tk[k]?=some (g.length,e)
 dist:∀(i j k m m':Nat) (xs ys:List PV),cs[i]?=some (.own k m xs)→cs[j]?=some (.own k m' ys)→i=j
theorem GrpRow.nil (tb:Nat) (e:TypeId) (tk:List (Nat × TypeId)):GrpRow tb e tk [] []:=⟨rfl,fun i g h=>by simp at h,fun i j k m m' xs ys h=>by simp at h⟩
theorem GrpRow.own {tb:Nat} {e:TypeId} {tk:List (Nat × TypeId)} {G:List (List Int)} {cs:List SV} (h:GrpRow tb e tk G cs) {i:Nat} {s:SV} (hs:cs[i]?=some s):∃k g,G[i]?=some g∧s=.own k 1 (encInts g)∧tb≤k∧tk[k]?=some (g.length,e):=by
 have hil:i<G.length:=by rw [←h.len];exact (List.getElem?_eq_some_iff.1 hs).1
 obtain ⟨k,h1,h2,h3⟩:=h.cell i _ (List.getElem?_eq_getElem hil)
 rw [hs] at h2
 exact ⟨k,_,List.getElem?_eq_getElem hil,Option.some.inj h2,h1,h3⟩
theorem GrpRow.put {tb:Nat} {e:TypeId} {tk:List (Nat × TypeId)} {G:List (List Int)} {cs:List SV} (h:GrpRow tb e tk G cs) {i k:Nat} {g:List Int} (hg:G[i]?=some g) (hc:cs[i]?=some (.own k 1 (encInts g))) (x:Int) {ys:List PV} {p:Nat × TypeId} (hy:ys=encInts (g++[x])) (hp:p=(g.length+1,e)) :
  GrpRow tb e (tk.set k p) (G.modify i (·++[x])) (cs.set i (.own k 1 ys)):=by
 subst hy hp
 have hil:i<cs.length:=(List.getElem?_eq_some_iff.1 hc).1
 refine ⟨by simp [h.len],fun a y hy=>?_,fun a b t m m' xs ys h1 h2=>?_⟩
 ·rw [List.getElem?_modify,Option.map_eq_map,Option.map_eq_some_iff] at hy
  obtain ⟨y0,hy0,rfl⟩:=hy
  by_cases hia:i=a
  ·subst hia
   rw [hg] at hy0
   cases hy0
   obtain ⟨k2,t1,t2,t3⟩:=h.cell i g hg
   rw [hc] at t2
   cases t2
   refine ⟨k,t1,?_,?_⟩
   ·rw [List.getElem?_set_self hil];simp
   ·rw [List.getElem?_set_self (List.getElem?_eq_some_iff.1 t3).1];simp
  ·obtain ⟨k2,t1,t2,t3⟩:=h.cell a y0 hy0
   rw [if_neg hia]
   refine ⟨k2,t1,by rw [List.getElem?_set_ne hia];exact t2,?_⟩
   have hk:k≠k2:=fun e=>hia (by subst e;exact h.dist i a k 1 1 _ _ hc t2)
   rw [List.getElem?_set_ne hk]
   exact t3
 ·have hold:∀(z n:Nat) (zs:List PV),(cs.set i (.own k 1 (encInts (g++[x]))))[z]?=some (.own t n zs)→∃n' zs',cs[z]?=some (.own t n' zs'):=by
   intro z n zs hz
   by_cases hiz:i=z
   ·subst hiz
    rw [List.getElem?_set_self hil] at hz
    cases hz
    exact ⟨_,_,hc⟩
   ·rw [List.getElem?_set_ne hiz] at hz
    exact ⟨_,_,hz⟩
  obtain ⟨_,_,q1⟩:=hold a m xs h1
  obtain ⟨_,_,q2⟩:=hold b m' ys h2
  exact h.dist a b t _ _ _ _ q1 q2
theorem GrpRow.snoc {tb:Nat} {e:TypeId} {tk:List (Nat × TypeId)} {G:List (List Int)} {cs:List SV} (h:GrpRow tb e tk G cs) (hb:tb≤tk.length) (x:Int) {ys:List PV} {p:Nat × TypeId} (hy:ys=encInts [x]) (hp:p=(1,e)) :
  GrpRow tb e (tk++[p]) (G++[[x]]) (cs++[.own tk.length 1 ys]):=by
 subst hy hp
 have hlt:∀(z t n:Nat) (zs:List PV),cs[z]?=some (.own t n zs)→t<tk.length:=fun z t n zs hz=>by
  obtain ⟨k,g,_,h2,_,h3⟩:=h.own hz
  cases h2
  exact (List.getElem?_eq_some_iff.1 h3).1
 have hl:=h.len
 refine ⟨by simp [hl],fun a y hy=>?_,fun a b t m m' xs ys h1 h2=>?_⟩
 ·rcases Nat.lt_or_ge a G.length with ha | ha
  ·rw [List.getElem?_append_left ha] at hy
   obtain ⟨k2,t1,t2,t3⟩:=h.cell a y hy
   refine ⟨k2,t1,by rw [List.getElem?_append_left (by omega)];exact t2,?_⟩
   rw [List.getElem?_append_left (List.getElem?_eq_some_iff.1 t3).1]
   exact t3
  ·have hal:=(List.getElem?_eq_some_iff.1 hy).1
   simp at hal
   obtain rfl:a=G.length:=by omega
   simp at hy
   subst hy
   exact ⟨tk.length,hb,by rw [←hl];simp,by simp⟩
 ·have hold:∀(z n:Nat) (zs:List PV),(cs++[.own tk.length 1 (encInts [x])])[z]?=some (.own t n zs)→(cs[z]?=some (.own t n zs)∧t<tk.length)∨(z=cs.length∧t=tk.length):=by
   intro z n zs hz
   rcases Nat.lt_or_ge z cs.length with ha | ha
   ·rw [List.getElem?_append_left ha] at hz
    exact .inl ⟨hz,hlt z t n zs hz⟩
   ·have hal:=(List.getElem?_eq_some_iff.1 hz).1
    simp at hal
    obtain rfl:z=cs.length:=by omega
    simp at hz
    exact .inr ⟨rfl,hz.1.symm⟩
  rcases hold a m xs h1 with ⟨q1,r1⟩ | ⟨q1,r1⟩<;>rcases hold b m' ys h2 with ⟨q2,r2⟩ | ⟨q2,r2⟩
  ·exact h.dist a b t _ _ _ _ q1 q2
  ·omega
  ·omega
  ·omega
theorem leB_set:∀{rs:List (Option (List SV))} {j:Nat} {cs cs':List SV},rs[j]?=some (some cs)→leL cs cs'→leB rs (rs.set j (some cs'))
 | [],j,_,_,h,_=>by simp at h
 | some a::r,0,cs,cs',h,hl=>by
  simp at h
  subst h
  exact ⟨hl,leB_rf r⟩
 | none::r,0,cs,cs',h,hl=>by simp at h
 | some a::r,j+1,cs,cs',h,hl=>⟨leL_refl a,leB_set (by simpa using h) hl⟩
 | none::r,j+1,cs,cs',h,hl=>leB_set (rs:=r) (by simpa using h) hl
where
 leB_rf:∀r:List (Option (List SV)),leB r r
 | []=>trivial
 | some a::r=>⟨leL_refl a,leB_rf r⟩
 | none::r=>leB_rf r
theorem leL_grp {tb:Nat} {e:TypeId} {tk:List (Nat × TypeId)}:∀{G:List (List Int)} {cs:List SV} (n:Nat),GrpRow tb e tk G cs→leL (cs++List.replicate n (SV.val .any)) ((encIntLs G).map SV.val++List.replicate n (SV.val .any)):=by
 intro G cs n h
 have key:∀(G:List (List Int)) (cs:List SV),cs.length=G.length→(∀(i:Nat) (g:List Int),G[i]?=some g→∃k,cs[i]?=some (.own k 1 (encInts g)))→leL (cs++List.replicate n (SV.val .any)) ((encIntLs G).map SV.val++List.replicate n (SV.val .any)):=by
  intro G
  induction G with
  | nil =>
   intro cs hl _
   obtain rfl:=List.eq_nil_of_length_eq_zero hl
   exact leL_refl _
  | cons g r ih =>
   intro cs hl hc
   cases cs with
   | nil=>simp at hl
   | cons c q =>
    obtain ⟨k,hk⟩:=hc 0 g rfl
    simp at hk
    subst hk
    refine ⟨.inr (.inl rfl),ih q (by simpa using hl) fun i y hy=>?_⟩
    obtain ⟨k,hk⟩:=hc (i+1) y (by simpa using hy)
    exact ⟨k,by simpa using hk⟩
 exact key G cs h.len fun i g hg=>let ⟨k,_,h2,_⟩:=h.cell i g hg;⟨k,h2⟩
theorem frz_grp {tb:Nat} {e:TypeId} {st:St} {q:PV} {rs:List (Option (List SV))} {bx0:List (Option (List SV))} {k0 id j cap n:Nat} {G:List (List Int)} {cs:List SV} {E:Env} {rsv:List ResultVar} {R:St→Prop} (hR:∀st st1,Wk (0,0) st st1→retFz E rsv st1 q→R st) (hrows:E.rows=true)
  (hbx:bx0.length=k0) (hst:st.bx=bx0++rs) (hid:id=k0+j) (hn:n=cs.length) (h:BoxAt rs j cs cap) (hg:GrpRow tb e st.tk G cs) (hK:∀xs:List PV,rowSV id 1 xs (.row id 0 1 n cap)=.val (.list 1 (encIntLs G))→retOk E rsv ((⟨st.sl,bx0++rs.set j (some (xs.map SV.val)),st.tk,st.ax⟩:St).sealRow id 1 xs) q):R st:=by
 subst hid
 obtain ⟨r,h1,h2,h3⟩:=h
 obtain ⟨sl,bx,tk,ax⟩:=st
 simp only at hst hg hK
 subst hst
 have hjl:j<rs.length:=(List.getElem?_eq_some_iff.1 h1).1
 have hvals:(encIntLs G).map SV.val++List.replicate r (SV.val .any)=(encIntLs G++List.replicate r PV.any).map SV.val:=by simp
 have hle:leB (bx0++rs) (bx0++rs.set j (some ((encIntLs G++List.replicate r PV.any).map SV.val))):=by
  have hb:(bx0++rs)[k0+j]?=some (some (cs++List.replicate r (SV.val .any))):=by
   rw [List.getElem?_append_right (by omega)]
   simp [hbx,h1]
  have:=leB_set hb (leL_grp r hg)
  rw [List.set_append_right _ _ (by omega),hvals] at this
  simpa [hbx] using this
 refine hR _ ⟨sl,bx0++rs.set j (some ((encIntLs G++List.replicate r PV.any).map SV.val)),tk,ax⟩ (Wk.forgetBx _ _ _ _ _ hle) ?_
 unfold retFz
 rw [hrows]
 have hone:∀x∈(encIntLs G++List.replicate r PV.any),x.cells=[x]:=by
  intro x hx
  rcases List.mem_append.1 hx with hx | hx
  ·obtain ⟨g,_,rfl⟩:=List.mem_map.1 hx
   rfl
  ·rw [(List.mem_replicate.1 hx).2];rfl
 have hfl:∀l:List PV,(∀x∈l,x.cells=[x])→l.flatMap PV.cells=l:=by
  intro l
  induction l with
  | nil=>intro _;rfl
  | cons x r ih =>
   intro hx
   rw [List.flatMap_cons,hx x (by simp),ih fun y hy=>hx y (by simp [hy])]
   rfl
 refine ⟨_,Frz.row (k0+j) 1 ((encIntLs G++List.replicate r PV.any).map SV.val) (encIntLs G++List.replicate r PV.any) _ _ _ _ ?_ ?_ (fun x hx=>by rw [hone x hx];rfl) (Frz.refl _ _),hK _ ?_⟩
 ·show (bx0++rs.set j _).getD (k0+j) none=some ((encIntLs G++List.replicate r PV.any).map SV.val)
  rw [List.getD_eq_getElem?_getD,List.getElem?_append_right (by omega)]
  simp [hbx,hjl]
 ·rw [hfl _ hone]
 ·unfold rowSV
  have hgl:(encIntLs G).length=G.length:=by simp [encIntLs]
  simp only
  rw [if_pos ⟨trivial,trivial,trivial,by rw [List.length_append,hgl,hn,hg.len];omega⟩,List.take_left' (by rw [hgl,hn,hg.len])]
end Go.Abs
namespace Go.Abs
open Go.RowKit Go.Proofs
theorem decided_in {n:Int} (h:inI64 n):inI64 (n - 30)∨n<30:=by unfold inI64 at *;omega
def PreOk (l:List TNode) (leaves:List Int) (k:Nat):Prop:=(∀n∈leaves.take k,n∈leavesL l)∧(leaves.take k).Pairwise (· < ·)
theorem PreOk.next {l:List TNode} {leaves:List Int} {k:Nat} {n:Int} (h:PreOk l leaves k) (hn:leaves[k]?=some n) (h1:n∈leavesL l) (h2:∀m,0<k→leaves[k - 1]?=some m→m<n):PreOk l leaves (k+1):=by
 have e:leaves.take (k+1)=leaves.take k++[n]:=by rw [List.take_add_one,hn];rfl
 refine ⟨fun x hx=>?_,?_⟩
 ·rw [e] at hx
  rcases List.mem_append.1 hx with hx | hx
  ·exact h.1 x hx
  ·rw [List.mem_singleton] at hx;subst hx;exact h1
 ·rw [e,List.pairwise_append]
  refine ⟨h.2,by simp,fun a ha b hb=>?_⟩
  rw [List.mem_singleton] at hb
  subst hb
  obtain ⟨i,hi⟩:=List.mem_iff_getElem?.1 ha
  have hik:i<k:=by have:=(List.getElem?_eq_some_iff.1 hi).1;rw [List.length_take] at this;omega
  have hkl:=(List.getElem?_eq_some_iff.1 hn).1
  obtain ⟨m,hm⟩:∃m,leaves[k - 1]?=some m:=⟨_,List.getElem?_eq_getElem (show k - 1<leaves.length by omega)⟩
  have hmb:=h2 m (by omega) hm
  rcases Nat.lt_or_ge i (k - 1) with hl | hl
  ·have hmt:(leaves.take k)[k - 1]?=some m:=by rw [List.getElem?_take,if_pos (by omega)];exact hm
   obtain ⟨p1,q1⟩:=List.getElem?_eq_some_iff.1 hi
   obtain ⟨p2,q2⟩:=List.getElem?_eq_some_iff.1 hmt
   have:=List.pairwise_iff_getElem.1 h.2 i (k - 1) p1 p2 hl
   rw [q1,q2] at this
   omega
  ·have hit:leaves[i]?=some a:=by rw [List.getElem?_take,if_pos hik] at hi;exact hi
   rw [show i=k - 1 by omega,hm] at hit
   cases hit
   exact hmb
theorem leavesOk_iff {l:List TNode} {leaves:List Int}:leavesOk l leaves=true↔leaves≠[]∧PreOk l leaves leaves.length:=by
 unfold leavesOk PreOk
 rw [List.take_length]
 cases leaves with
 | nil=>simp
 | cons a r=>simp
theorem leavesOk_bad1 {l:List TNode} {leaves:List Int} {k:Nat} {n:Int} (hn:leaves[k]?=some n) (h:n∉leavesL l):leavesOk l leaves=false:=by
 cases hb:leavesOk l leaves with
 | false=>rfl
 | true =>
  have h2:=(leavesOk_iff.1 hb).2.1
  rw [List.take_length] at h2
  exact absurd (h2 n (List.mem_of_getElem? hn)) h
theorem leavesOk_bad2 {l:List TNode} {leaves:List Int} {k:Nat} {n m:Int} (hk:0<k) (hn:leaves[k]?=some n) (hm:leaves[k - 1]?=some m) (h:n≤m):leavesOk l leaves=false:=by
 cases hb:leavesOk l leaves with
 | false=>rfl
 | true =>
  have h2:=(leavesOk_iff.1 hb).2.2
  rw [List.take_length] at h2
  obtain ⟨p1,q1⟩:=List.getElem?_eq_some_iff.1 hm
  obtain ⟨p2,q2⟩:=List.getElem?_eq_some_iff.1 hn
  have:=List.pairwise_iff_getElem.1 h2 (k - 1) k p1 p2 (by omega)
  rw [q1,q2] at this
  omega
theorem leaves_len {l:List TNode} {leaves:List Int} (h:PreOk l leaves leaves.length) (ht:treeB l=true):leaves.length≤32:=by
 have h1:=(tree_node ht).2.1
 unfold PreOk at h
 rw [List.take_length] at h
 have:=sorted_len (a:=0) (b:=l.length) (by omega) h.2 fun x hx=>by
  have h3:=mem_leavesL.1 (h.1 x hx)
  unfold leafB at h3
  simp only [Bool.and_eq_true,inB,decide_eq_true_eq] at h3
  omega
 omega
def IdxOk (es:List (Int × Int)) (N:List Int):Prop:=NodM es∧∀v,lookM es v=if v∈N then some (N.idxOf v:Int) else none
theorem IdxOk.nil:IdxOk [] []:=⟨by simp [NodM],fun v=>by simp [lookM]⟩
theorem IdxOk.snoc {es:List (Int × Int)} {N:List Int} (h:IdxOk es N) {v:Int} (hv:v∉N) {n:Int} (hn:n=N.length):IdxOk (putM es v n) (N++[v]):=by
 subst hn
 refine ⟨h.1.put _ _,fun u=>?_⟩
 rw [lookM_put,h.2]
 by_cases hu:u=v
 ·subst hu
  rw [if_pos rfl,if_pos (by simp),List.idxOf_append,if_neg hv]
  simp
 ·rw [if_neg hu]
  by_cases hm:u∈N
  ·rw [if_pos hm,if_pos (by simp [hm]),List.idxOf_append,if_pos hm]
  ·rw [if_neg hm,if_neg (by simp [hm,hu])]
set_option maxRecDepth 10000 in
set_option maxHeartbeats 4000000 in
theorem st_Groups (l:List TNode) (leaves:List Int) (f:Flight) (now:Int) {xs lv:List PV} (hx:xs=encNodes l) (hv:lv=encInts leaves) (hl:l.length≤1000000) (hlv:leaves.length≤1000000) (hf:inI64 f.Window.From) :
  CallsPV Tryz.prog 21 [.list 3 xs,.list 1 lv,encFlight f,.int .i64 now] (.tup [if groupsE l leaves=0 then .list 1 (encIntLs (groupsL l leaves (decidedF f.Window.From) now)) else .list 0 [],.int .i64 (groupsE l leaves)]):=by
 refine callsPV_byW (clo:=fun n=>n == 8000000 || n == 9000000 || n == 2000000+29) (rows:=true) env_ok Tryz.func21 rfl (enters_of Tryz.func21 (by kernel_rfl) rfl) (fun A q P Y R hr hA hq hR=>?_)
 have hdc:=fl_Decided f (decided_in hf)
 have hlf:=fc_Leaves l hx hl
 have hat:=fun n d=>fc_At l n d hx hl
 have hE:groupsE l leaves=if treeB l then (if leavesOk l leaves then 0 else 210) else 180:=rfl
 have hG:groupsL l leaves (decidedF f.Window.From) now=(grpF (nodeOf l (decidedF f.Window.From) now) leaves).2:=rfl
 have hD:decidedF f.Window.From=if f.Window.From<30 then 0 else f.Window.From - 30:=rfl
 rw [←hD] at hdc
 have hd0:0≤decidedF f.Window.From:=by rw [hD];split<;>omega
 generalize decidedF f.Window.From=d at hdc hG hq hd0
 clear hD
 generalize groupsE l leaves=ge at hE hq
 generalize groupsL l leaves d now=gl at hG hq
 have hvl:lv.length=leaves.length:=by rw [hv];simp [encInts]
 have hll:A.lLen lv=(leaves.length:Int):=lenI hA hvl
 have hbad:∀n:Int,ge=n→n≠0→PV.tup [.list 0 [],.int .i64 n]=q:=fun n h1 h2=>by rw [←hq,h1,if_neg h2]
 obtain ⟨f1,f2,f3,f4,f5,⟨f6,f7⟩,f8⟩:=f
 obtain ⟨ws,hws⟩:∃ws,ws=encInts f5:=⟨_,rfl⟩
 rw [show encFlight ⟨f1,f2,f3,f4,f5,⟨f6,f7⟩,f8⟩=.agg [.int .i64 f1,.int .i64 f2,.int .i64 f3,.str f4,.list 1 ws,.int .i64 f6,.int .i64 f7,.bool f8] by rw [hws];rfl] at hdc ⊢
 cases htb:treeB l with
 | false =>
  rw [htb] at hE hlf
  have hlf:CallsPV Tryz.prog 68 [.list 3 xs] (.tup [.list 0 [],.int .i64 180]):=hlf
  conv=>cbv
  refine call_intro hA (hlf) ?_
  conv=>cbv
  split
  rotate_left
  ·rename_i hc
   cases ((show False by have h9:(180:Int)=0:=neF hA hc;omega))
  conv=>cbv
  exact hR _ _ (Wk.refl _) ⟨_,Frz.refl _ _,(by (conv=>cbv);exact hbad 180 hE (by decide))⟩
 | true =>
  rw [htb] at hE hlf
  have hlf:CallsPV Tryz.prog 68 [.list 3 xs] (.tup [.list 1 (encInts (leavesL l)),.int .i64 0]):=hlf
  have hE:ge=if leavesOk l leaves then 0 else 210:=hE
  obtain ⟨al,hal⟩:∃al,al=encInts (leavesL l):=⟨_,rfl⟩
  rw [←hal] at hlf
  have hbs:=fun t=>binSearch (leavesL l) t (leavesL_sorted l) hal (Nat.le_trans (leavesL_len l) hl)
  have hbad2:leavesOk l leaves=false→PV.tup [.list 0 [],.int .i64 210]=q:=fun h=>hbad 210 (by rw [hE,h];rfl) (by decide)
  refine seq_stop (fun R1 hR1=>?_)
  conv=>cbv
  refine hR1 _ ?_
  clear hR1
  refine seq_stop (fun R1 hR1=>?_)
  conv=>cbv
  refine call_intro hA (hlf) ?_
  conv=>cbv
  refine hR1 _ ?_
  clear hR1
  refine seq_stop (fun R1 hR1=>?_)
  conv=>cbv
  split
  ·rename_i hc
   cases (neT hA hc rfl)
  conv=>cbv
  refine hR1 _ ?_
  clear hR1
  refine seq_stop (fun R1 hR1=>?_)
  conv=>cbv
  refine loop_set hA (fun (i:Int) s=>((s.put (some 32) (.val (.int .i64 i))).put (some 8) (.lit 0 [])).put (some 9) (.val (.int .i64 0))) (fun i=>0≤i∧i≤leaves.length∧PreOk l leaves i.toNat) (fun i=>(leaves.length - i).toNat) 0 ?_ ?_ ?_
  ·conv=>cbv
   exact wk_sl (by repeat (first | refine leL_same ?_ | refine leL_any ?_ | exact leL_nil))
  ·exact ⟨Int.le_refl _,by omega,fun n h=>by simp at h,by simp⟩
  rintro R2 i ⟨hi0,hi1,hpre⟩ hR2
  conv=>cbv
  split
  rotate_left
  ·rename_i hc
   have hge:=ltF' hA rfl hll hc
   have hil:i=leaves.length:=by omega
   clear hR2
   rw [hil,Int.toNat_natCast] at hpre
   refine hR1 _ ?_
   clear hR1
   refine seq_stop (fun R1 hR1=>?_)
   conv=>cbv
   split
   ·rename_i hc
    have h0:(leaves.length:Int)=0:=eqT' hA hll rfl hc
    conv=>cbv
    have h9:leavesOk l leaves=false:=by
     have:leaves=[]:=List.eq_nil_of_length_eq_zero (by omega)
     rw [this];rfl
    exact hR _ _ (Wk.refl _) ⟨_,Frz.refl _ _,(by (conv=>cbv);exact hbad2 h9)⟩
   rename_i hc
   have h0:(leaves.length:Int)≠0:=eqF' hA hll rfl hc
   have hne:leaves≠[]:=fun h=>h0 (by rw [h];rfl)
   refine hR1 _ ?_
   clear hR1
   have hok:=leavesOk_iff.2 ⟨hne,hpre⟩
   rw [hok] at hE
   have hE:ge=0:=hE
   rw [hE,if_pos rfl] at hq
   have hl32:=leaves_len hpre htb
   have hin:∀n∈leaves,leafB l n=true:=fun n hn=>mem_leavesL.1 (hpre.1 n (by rw [List.take_length];exact hn))
   clear hbad hbad2 hbs hlf hpre hge
   refine seq_stop (fun R1 hR1=>?_)
   conv=>cbv
   refine call_intro hA (hdc) ?_
   conv=>cbv
   refine hR1 _ ?_
   clear hR1
   refine seq_stop (fun R1 hR1=>?_)
   conv=>cbv
   refine hR1 _ ?_
   clear hR1
   have hkk:∀(es:List (Int × Int)) (v:Int),keysOk false [.int] (encM encInt encInt es) (.int .i64 v):=fun es v=>keysOk_I (f:=encInt) es v
   have hlk:∀(es:List (Int × Int)) (v:Int),lookE (encM encInt encInt es) (.int .i64 v)=(lookM es v).map encInt:=fun es v=>lookE_enc keq_Int es v
   have hpt:∀(es:List (Int × Int)) (v n:Int),A.ePut (encM encInt encInt es) (.int .i64 v) (.int .i64 n)=encM encInt encInt (putM es v n):=fun es v n=>by
    subst hA
    exact putE_enc keq_Int (f:=encInt) es v n
   have hndf:∀n,nodeOf l d now n=if now<d then (if atE l n d=0 then atL l n d else 0) else 0:=fun n=>rfl
   generalize nodeOf l d now=nd at hG hndf
   refine seq_stop (fun R1 hR1=>?_)
   conv=>cbv
   refine loop_set hA (fun (z:Int × SV × List (Option (List SV)) × List (Nat × TypeId) × List (PV × PV)) s=>{ ((s.put (some 67) (.val (.int .i64 z.1))).put (some 8) z.2.1) with bx:=some [.val (.int .i64 f1),.val (.int .i64 f2),.val (.int .i64 f3),.val (.str f4),.val (.list 1 ws),.val (.int .i64 f6),.val (.int .i64 f7),.val (.bool f8)]::z.2.2.1,tk:=z.2.2.2.1,ax:=⟨[.ents z.2.2.2.2 none],s.ax.yk⟩ })
    (fun z=>0≤z.1∧z.1≤leaves.length∧∃(es:List (Int × Int)) (cs:List SV),z.2.2.2.2=encM encInt encInt es∧IdxOk es (grpF nd (leaves.take z.1.toNat)).1∧BoxArg 1 z.2.2.1 cs z.2.1∧GrpRow 0 3 z.2.2.2.1 (grpF nd (leaves.take z.1.toNat)).2 cs) (fun z=>(leaves.length - z.1).toNat) (0,.lit 0 [],[],[],[]) ?_ ?_ ?_
   ·conv=>cbv
    exact wk_sl (by repeat (first | refine leL_same ?_ | refine leL_any ?_ | exact leL_nil))
   ·exact ⟨Int.le_refl _,by omega,[],[],rfl,IdxOk.nil,.inl ⟨rfl,0,rfl⟩,GrpRow.nil _ _ _⟩
   rintro R2 ⟨i,arg,rs,tk,m⟩ ⟨hi0,hi1,es,cs,hm,hes,harg,hrow⟩ hR2
   simp only at hi0 hi1 hm hes harg hrow
   refine seq_stop (fun R3 hR3=>?_)
   conv=>cbv
   refine hR3 _ ?_
   clear hR3
   refine seq_stop (fun R3 hR3=>?_)
   conv=>cbv
   split
   rotate_left
   ·rename_i hc
    have hge:=ltF' hA rfl hll hc
    rw [show i.toNat=leaves.length by omega,List.take_length] at hrow hes
    rw [←hG] at hrow
    have hgne:gl≠[]:=fun h=>by
     have h1:=grpF_len nd leaves
     rw [←hG,h,List.length_nil] at h1
     have h2:(grpF nd leaves).1=[]:=List.eq_nil_of_length_eq_zero h1
     obtain ⟨x,r,rfl⟩:∃x r,leaves=r++[x]:=⟨_,_,(List.dropLast_concat_getLast hne).symm⟩
     rw [grpF_snoc] at h2
     unfold grpAdd at h2
     split at h2
     ·rename_i h3
      simp only at h2
      rw [h2] at h3
      simp at h3
     ·simp at h2
    rcases harg with ⟨rfl,k,rfl⟩ | ⟨id,cn,j,cap,rfl,hid,hcn,hbox⟩
    ·exact (hgne (List.eq_nil_of_length_eq_zero hrow.len.symm)).elim
    have hcl:=hrow.len
    clear hR2 hR3 hdc hat hes hlk hpt hkk
    conv=>cbv
    refine hR1 _ ?_
    clear hR1
    conv=>cbv
    refine frz_grp (bx0:=[some _]) (k0:=1) (rs:=rs) hR rfl rfl rfl hid hcn hbox hrow (fun ys hy=>?_)
    generalize encIntLs gl=gv at hy hq
    simp only [St.sealRow,List.map_cons,List.map_nil,hy]
    (conv=>cbv)
    exact hq
   rename_i hc
   have hi:i<leaves.length:=ltT' hA rfl hll hc
   have his:A.iAdd i 1=i+1:=addI hA _ _
   have hir:A.inR (A.iAdd i 1):=inR' hA his (by unfold inI64;omega)
   obtain ⟨n,hn0⟩:∃n,leaves[i.toNat]?=some n:=⟨_,List.getElem?_eq_getElem (show i.toNat<leaves.length by omega)⟩
   have hni:=hin n (List.mem_of_getElem? hn0)
   have hti:leaves.take (i+1).toNat=leaves.take i.toNat++[n]:=by rw [show (i+1).toNat=i.toNat+1 by omega,List.take_add_one,hn0];rfl
   have hgl:=grpF_len nd (leaves.take i.toNat)
   have hg32:=grpF_le nd (leaves.take i.toNat)
   have hgs:=grpF_snoc nd (leaves.take i.toNat) n
   have hatn:=hat n d
   have hdec:(leaves.length - A.iAdd i 1).toNat<(leaves.length - i).toNat:=by rw [his];omega
   rw [←hti] at hgs
   rw [List.length_take] at hg32
   have hnd:=hndf n
   generalize (if atE l n d=0 then atL l n d else 0)=vv at hatn hnd
   generalize atE l n d=ae at hatn
   generalize grpF nd (leaves.take i.toNat)=NG at hgs hgl hg32 hes hrow
   obtain ⟨N,G⟩:=NG
   simp only at hgl hg32 hes hrow
   refine hR3 _ ?_
   clear hR3 hR1
   refine seq_stop (fun R5 hR5=>?_)
   refine block_seq (fun R3 hR3=>?_)
   conv=>cbv
   refine idx_Int hA hv hi0 hi (fun y hy=>?_)
   obtain rfl:=Option.some.inj (hn0.symm.trans hy)
   conv=>cbv
   refine hR3 _ ?_
   clear hR3
   refine seq_stop (fun R4 hR4=>?_)
   conv=>cbv
   refine hR4 _ ?_
   clear hR4
   refine seq_stop (fun R4 hR4=>?_)
   conv=>cbv
   split
   case' h_1 =>
    rename_i hc
    rw [if_pos (ltT hA hc)] at hnd
    conv=>cbv
    refine call_intro hA (hatn) ?_
    conv=>cbv
   case' h_2 =>
    rename_i hc
    rw [if_neg (Int.not_lt.2 (ltF hA hc))] at hnd
    conv=>cbv
   all_goals
    refine hR4 _ ?_
    clear hR4
    have hlv:∀v,nd n=v→lookE m (.int .i64 v)=if nd n∈N then some (.int .i64 (N.idxOf (nd n):Int)) else none:=fun v h=>by
     rw [hm,hlk,←h,hes.2]
     split<;>rfl
    have hlvn:=hlv _ hnd
    by_cases hmem:nd n∈N
    ·rw [if_pos hmem] at hlvn
     have hgs:grpF nd (leaves.take (i+1).toNat)=(N,G.modify (N.idxOf (nd n)) (·++[n])):=by rw [hgs];unfold grpAdd;rw [if_pos hmem]
     have hixl:N.idxOf (nd n)<G.length:=by rw [←hgl];exact List.idxOf_lt_length_of_mem hmem
     rcases harg with ⟨rfl,k,rfl⟩ | ⟨id,cn,j,cap,rfl,hid,hcn,hbox⟩
     ·have:=hrow.len
      simp at this
      omega
     obtain ⟨ixn,hixn⟩:∃ixn,ixn=N.idxOf (nd n):=⟨_,rfl⟩
     rw [←hixn] at hixl hlvn hgs
     obtain ⟨ix,hix⟩:∃ix:Int,ix=ixn:=⟨_,rfl⟩
     rw [←hix] at hlvn
     obtain ⟨g,hg⟩:∃g,G[ixn]?=some g:=⟨_,List.getElem?_eq_getElem hixl⟩
     obtain ⟨k,_,hck,htk⟩:=hrow.cell _ g hg
     have hg2:=hg32.2 g (List.mem_of_getElem? hg)
     have hcl:=hrow.len
     obtain ⟨gv,hgv⟩:∃gv,gv=encInts g:=⟨_,rfl⟩
     rw [←hgv] at hck
     conv=>cbv
     refine ⟨kOk_intro hA (by rw [hm];exact hkk es _),look_intro hA (v:=.int .i64 ix) (b:=true) (by rw [hlvn];rfl) (by rw [hlvn];rfl) ?_⟩
     conv=>cbv
     split
     ·rename_i hc
      cases (notT hA hc)
     conv=>cbv
     refine ⟨withI hA (natI hA cn) (by omega) (by omega),rldB hA rfl rfl (bx0:=[some _]) (k0:=1) rfl hid hbox ((natN hA ix).trans (by omega)) hck ?_⟩
     have hgvl:gv.length=g.length:=by rw [hgv];simp [encInts]
     have hap:A.lApp gv [.int .i64 n]=encInts (g++[n]):=by subst hA;rw [hgv];simp [stdOps,encInts,encInt]
     have hapl:A.nLen (A.lApp gv [.int .i64 n])=g.length+1:=by rw [hap];subst hA;simp [stdOps,encInts]
     have htk2:A.tkAt tk k 3 (A.nLen gv):=by
      subst hA
      show (tk.getD k (0,0)).2=_∧(tk.getD k (0,0)).1=gv.length∧k<tk.length
      rw [List.getD_eq_getElem?_getD,htk,hgvl]
      exact ⟨rfl,rfl,(List.getElem?_eq_some_iff.1 htk).1⟩
     have hroom:A.room (A.nLen (A.lApp gv [.int .i64 n])) 8:=by
      rw [hapl];subst hA
      show (g.length+1)*(8+1)≤140737488355328
      omega
     conv=>cbv
     refine ⟨⟨htk2,hroom⟩,withI hA (natI hA cn) (by omega) (by omega),rstB hA rfl rfl (bx0:=[some _]) (k0:=1) (i:=ixn) rfl hid hbox ((natN hA ix).trans (by omega)) (by rw [hcl];exact hixl) rfl (fun rs' hb'=>?_)⟩
     conv=>cbv
     refine hR5 _ ?_
     conv=>cbv
     refine ⟨hir,hR2 (A.iAdd i 1,.row id 0 1 cn cap,rs',A.tkPut tk k (A.nLen (A.lApp gv [.int .i64 n]),3),m) _ (by (conv=>cbv);exact wk_sl (by repeat (first | refine leL_same ?_ | refine leL_any ?_ | exact leL_nil))) ?_ hdec⟩
     rw [his]
     refine ⟨by show 0≤i+1;omega,by show i+1≤_;omega,es,cs.set ixn (.own k 1 (A.lApp gv [.int .i64 n])),hm,?_,.inr ⟨id,cn,j,cap,rfl,hid,by simp [hcn],hb'⟩,?_⟩
     ·show IdxOk es (grpF nd (leaves.take (i+1).toNat)).1
      rw [hgs];exact hes
     show GrpRow 0 3 (A.tkPut tk k (A.nLen (A.lApp gv [.int .i64 n]),3)) (grpF nd (leaves.take (i+1).toNat)).2 _
     rw [hgs]
     have:=hrow.put hg (by rw [←hgv];exact hck) n (p:=(A.nLen (A.lApp gv [.int .i64 n]),3)) hap (by rw [hapl])
     rw [show A.tkPut tk k (A.nLen (A.lApp gv [.int .i64 n]),3)=tk.set k (A.nLen (A.lApp gv [.int .i64 n]),3) by subst hA;rfl]
     exact this
    ·rw [if_neg hmem] at hlvn
     have hgs:grpF nd (leaves.take (i+1).toNat)=(N++[nd n],G++[[n]]):=by rw [hgs];unfold grpAdd;rw [if_neg hmem]
     have hcl:=hrow.len
     have hroom:A.room (A.nLen [.int .i64 n]) 8:=by
      subst hA
      show 1*(8+1)≤140737488355328
      decide
     rcases harg with ⟨hcs0,k0,rfl⟩ | ⟨id,cn,j,cap,rfl,hid,hcn,hbox⟩
     ·
      obtain ⟨at_,hat_⟩:∃x,x=A.lLen []:=⟨_,rfl⟩
      have hatv:at_=(cs.length:Int):=by rw [hat_];rw [hcs0];subst hA;rfl
      have hpt2:∀v,A.ePut m (.int .i64 v) (.int .i64 (A.lLen []))=encM encInt encInt (putM es v (A.lLen [])):=fun v=>by rw [hm];exact hpt es _ _
      have hz0:0≤A.lLen []:=by rw [←hat_,hatv];omega
      have hz1:A.lLen []<((cs.length+1:Nat):Int):=by rw [←hat_,hatv];omega
      conv=>cbv
      refine ⟨kOk_intro hA (by rw [hm];exact hkk es _),look_intro hA (v:=.int .i64 0) (b:=false) (by rw [hlvn];rfl) (by rw [hlvn];rfl) ?_⟩
      conv=>cbv
      split
      rotate_left
      ·rename_i hc
       cases (notF hA hc)
      conv=>cbv
      refine ⟨⟨kOk_intro hA (by rw [hm];exact hkk es _),trivial⟩,appB hA rfl rfl rfl (by decide) rfl (bx0:=[some _]) (k0:=1) rfl (.inl ⟨hcs0,k0,rfl⟩) (by omega) _ _ _ _ (fun id' cn' j' cap' rs' hid' hcn' hb'=>?_)⟩
      conv=>cbv
      refine ⟨withI hA (natI hA cn') hz0 (by rw [hcn'];exact hz1),rldB hA rfl rfl (bx0:=[some _]) (k0:=1) (i:=cs.length) rfl hid' hb' (c:=.val (.list 0 [])) ((natN hA (A.lLen [])).trans (by rw [←hat_];omega)) (by simp) ?_⟩
      conv=>cbv
      refine ⟨hroom,withI hA (natI hA cn') hz0 (by rw [hcn'];exact hz1),rstB hA rfl rfl (bx0:=[some _]) (k0:=1) (i:=cs.length) rfl hid' hb' ((natN hA (A.lLen [])).trans (by rw [←hat_];omega)) (by simp) rfl (fun rs2 hb2=>?_)⟩
      conv=>cbv
      refine hR5 _ ?_
      conv=>cbv
      refine ⟨hir,hR2 (A.iAdd i 1,.row id' 0 1 cn' cap',rs2,tk++[(A.nLen [.int .i64 n],3)],A.ePut m (.int .i64 _) (.int .i64 (A.lLen []))) _ (by (conv=>cbv);exact wk_sl (by repeat (first | refine leL_same ?_ | refine leL_any ?_ | exact leL_nil))) ?_ hdec⟩
      rw [his]
      refine ⟨by show 0≤i+1;omega,by show i+1≤_;omega,_,cs++[.own tk.length 1 [.int .i64 n]],hpt2 _,?_,.inr ⟨id',cn',j',cap',rfl,hid',by simp [hcn'],?_⟩,?_⟩
      ·show IdxOk _ (grpF nd (leaves.take (i+1).toNat)).1
       rw [hgs,←hnd];exact hes.snoc hmem (by rw [←hat_,hatv];omega)
      ·have h8:(cs++[SV.val (.list 0 [])]).set cs.length (.own tk.length 1 [.int .i64 n])=cs++[.own tk.length 1 [.int .i64 n]]:=by simp
       have h7:∀x,x=tk.length→BoxAt rs2 j' ((cs++[SV.val (.list 0 [])]).set cs.length (.own x 1 [.int .i64 n])) cap'→BoxAt rs2 j' (cs++[.own tk.length 1 [.int .i64 n]]) cap':=fun x hx h=>by subst hx;rw [h8] at h;exact h
       exact h7 _ (by cases tk<;>rfl) hb2
      show GrpRow 0 3 (tk++[(A.nLen [.int .i64 n],3)]) (grpF nd (leaves.take (i+1).toNat)).2 _
      rw [hgs]
      exact hrow.snoc (Nat.zero_le _) n rfl (by subst hA;rfl)
     ·
      obtain ⟨at_,hat_⟩:∃x,x=A.iNat cn:=⟨_,rfl⟩
      have hatv:at_=(cs.length:Int):=by rw [hat_];rw [natI hA,hcn]
      have hpt2:∀v,A.ePut m (.int .i64 v) (.int .i64 (A.iNat cn))=encM encInt encInt (putM es v (A.iNat cn)):=fun v=>by rw [hm];exact hpt es _ _
      have hz0:0≤A.iNat cn:=by rw [←hat_,hatv];omega
      have hz1:A.iNat cn<((cs.length+1:Nat):Int):=by rw [←hat_,hatv];omega
      conv=>cbv
      refine ⟨kOk_intro hA (by rw [hm];exact hkk es _),look_intro hA (v:=.int .i64 0) (b:=false) (by rw [hlvn];rfl) (by rw [hlvn];rfl) ?_⟩
      conv=>cbv
      split
      rotate_left
      ·rename_i hc
       cases (notF hA hc)
      conv=>cbv
      refine ⟨⟨kOk_intro hA (by rw [hm];exact hkk es _),trivial⟩,appB hA rfl rfl rfl (by decide) rfl (bx0:=[some _]) (k0:=1) rfl (.inr ⟨id,cn,j,cap,rfl,hid,hcn,hbox⟩) (by omega) _ _ _ _ (fun id' cn' j' cap' rs' hid' hcn' hb'=>?_)⟩
      conv=>cbv
      refine ⟨withI hA (natI hA cn') hz0 (by rw [hcn'];exact hz1),rldB hA rfl rfl (bx0:=[some _]) (k0:=1) (i:=cs.length) rfl hid' hb' (c:=.val (.list 0 [])) ((natN hA (A.iNat cn)).trans (by rw [←hat_];omega)) (by simp) ?_⟩
      conv=>cbv
      refine ⟨hroom,withI hA (natI hA cn') hz0 (by rw [hcn'];exact hz1),rstB hA rfl rfl (bx0:=[some _]) (k0:=1) (i:=cs.length) rfl hid' hb' ((natN hA (A.iNat cn)).trans (by rw [←hat_];omega)) (by simp) rfl (fun rs2 hb2=>?_)⟩
      conv=>cbv
      refine hR5 _ ?_
      conv=>cbv
      refine ⟨hir,hR2 (A.iAdd i 1,.row id' 0 1 cn' cap',rs2,tk++[(A.nLen [.int .i64 n],3)],A.ePut m (.int .i64 _) (.int .i64 (A.iNat cn))) _ (by (conv=>cbv);exact wk_sl (by repeat (first | refine leL_same ?_ | refine leL_any ?_ | exact leL_nil))) ?_ hdec⟩
      rw [his]
      refine ⟨by show 0≤i+1;omega,by show i+1≤_;omega,_,cs++[.own tk.length 1 [.int .i64 n]],hpt2 _,?_,.inr ⟨id',cn',j',cap',rfl,hid',by simp [hcn'],?_⟩,?_⟩
      ·show IdxOk _ (grpF nd (leaves.take (i+1).toNat)).1
       rw [hgs,←hnd];exact hes.snoc hmem (by rw [←hat_,hatv];omega)
      ·have h8:(cs++[SV.val (.list 0 [])]).set cs.length (.own tk.length 1 [.int .i64 n])=cs++[.own tk.length 1 [.int .i64 n]]:=by simp
       have h7:∀x,x=tk.length→BoxAt rs2 j' ((cs++[SV.val (.list 0 [])]).set cs.length (.own x 1 [.int .i64 n])) cap'→BoxAt rs2 j' (cs++[.own tk.length 1 [.int .i64 n]]) cap':=fun x hx h=>by subst hx;rw [h8] at h;exact h
       exact h7 _ (by cases tk<;>rfl) hb2
      show GrpRow 0 3 (tk++[(A.nLen [.int .i64 n],3)]) (grpF nd (leaves.take (i+1).toNat)).2 _
      rw [hgs]
      exact hrow.snoc (Nat.zero_le _) n rfl (by subst hA;rfl)
  rename_i hc
  have hi:i<leaves.length:=ltT' hA rfl hll hc
  have his:A.iAdd i 1=i+1:=addI hA _ _
  have hir:A.inR (A.iAdd i 1):=inR' hA his (by unfold inI64;omega)
  obtain ⟨n,hn0⟩:∃n,leaves[i.toNat]?=some n:=⟨_,List.getElem?_eq_getElem (show i.toNat<leaves.length by omega)⟩
  have hb1:=hbs n
  obtain ⟨b,hb⟩:∃b,b=decide (n∈leavesL l):=⟨_,rfl⟩
  rw [←hb] at hb1
  generalize posS (leavesL l) n=ps at hb1
  conv=>cbv
  refine idx_Int hA hv hi0 hi (fun y hy=>?_)
  obtain rfl:=Option.some.inj (hn0.symm.trans hy)
  conv=>cbv
  refine call_intro hA (hb1) ?_
  conv=>cbv
  have hex:∀b,A.bNot b=true→b=false:=fun b h=>notT hA h
  split
  ·rename_i hc
   rw [notT hA hc] at hb
   conv=>cbv
   have h9:=hbad2 (leavesOk_bad1 hn0 (of_decide_eq_false hb.symm))
   exact hR _ _ (Wk.refl _) ⟨_,Frz.refl _ _,(by (conv=>cbv);exact h9)⟩
  ·rename_i hc
   rw [notF hA hc] at hb
   have hm:n∈leavesL l:=of_decide_eq_true hb.symm
   have hnxt:(∀m,0<i.toNat→leaves[i.toNat - 1]?=some m→m<n)→0≤A.iAdd i 1∧A.iAdd i 1≤leaves.length∧PreOk l leaves (A.iAdd i 1).toNat:=fun h=>by
    rw [his]
    refine ⟨by omega,by omega,?_⟩
    rw [show (i+1).toNat=i.toNat+1 by omega]
    exact hpre.next hn0 hm h
   conv=>cbv
   split
   ·rename_i hc
    have hi1':0<i:=ltT hA hc
    have hsub:A.iSub i 1=i - 1:=subI hA _ _
    obtain ⟨m,hm0⟩:∃m,leaves[(i - 1).toNat]?=some m:=⟨_,List.getElem?_eq_getElem (show (i - 1).toNat<leaves.length by omega)⟩
    conv=>cbv
    refine ⟨inR' hA hsub (by unfold inI64;omega),idx_Int hA hv (n:=A.iSub i 1) (by rw [hsub];omega) (by rw [hsub];omega) (fun y hy=>?_)⟩
    rw [hsub] at hy
    obtain rfl:=Option.some.inj (hm0.symm.trans hy)
    rw [show (i - 1).toNat=i.toNat - 1 by omega] at hm0
    conv=>cbv
    split
    ·rename_i hc
     have g:n≤m:=leT hA hc
     conv=>cbv
     have h9:=hbad2 (leavesOk_bad2 (by omega) hn0 hm0 g)
     exact hR _ _ (Wk.refl _) ⟨_,Frz.refl _ _,(by (conv=>cbv);exact h9)⟩
    ·rename_i hc
     have g:m<n:=leF hA hc
     conv=>cbv
     refine ⟨hir,hR2 (A.iAdd i 1) _ (by (conv=>cbv);exact wk_sl (by repeat (first | refine leL_same ?_ | refine leL_any ?_ | exact leL_nil))) (hnxt fun z hz1 hz2=>?_) (by rw [his];omega)⟩
     rw [hm0] at hz2
     cases hz2
     exact g
   ·rename_i hc
    have g:i≤0:=ltF hA hc
    conv=>cbv
    exact ⟨hir,hR2 (A.iAdd i 1) _ (by (conv=>cbv);exact wk_sl (by repeat (first | refine leL_same ?_ | refine leL_any ?_ | exact leL_nil))) (hnxt fun z hz1 hz2=>by omega) (by rw [his];omega)⟩
end Go.Abs
namespace Go.Abs
open Go.RowKit Go.Proofs
theorem pref_next {α:Type} {a b:List α} {i:Int} {x y:α} (h:∀k:Nat,k<i.toNat→a[k]?=b[k]?) (h0:0≤i) (hx:a[i.toNat]?=some x) (hy:b[i.toNat]?=some y) (e:x=y):∀k:Nat,k<(i+1).toNat→a[k]?=b[k]?:=fun k hk=>by
 rcases Nat.lt_or_eq_of_le (Nat.le_of_lt_succ (show k<i.toNat+1 by omega)) with h1 | h1
 ·exact h k h1
 ·rw [h1,hx,hy,e]
theorem pref_end {α:Type} {a b:List α} {n:Int} (h:∀k:Nat,k<n.toNat→a[k]?=b[k]?) (hn:n=a.length) (hl:(a.length:Int)=b.length):a=b:=by
 apply List.ext_getElem?
 intro k
 rcases Nat.lt_or_ge k a.length with h1 | h1
 ·exact h k (by omega)
 ·rw [List.getElem?_eq_none h1,List.getElem?_eq_none (by omega)]
theorem ref21_SameGroups (a b:List (List Int)) {xs ys:List PV} (hx:xs=encIntLs a) (hy:ys=encIntLs b) (hbig:∀g∈a,g.length≤1000000):CallsPV Tryz.prog 23 [.list 1 xs,.list 1 ys] (.bool (decide (a=b))):=by
 refine callsPV_by (clo:=fun _=>false) (rows:=false) env_ok Tryz.func23 rfl (enters_of Tryz.func23 (by kernel_rfl) rfl) (fun A q P Y hr hA hq=>?_)
 have hlen:=(hr.mem (p:=.list 1 xs) (by simp)).len
 have hxl:xs.length=a.length:=by rw [hx];simp [encIntLs]
 have hyl:ys.length=b.length:=by rw [hy];simp [encIntLs]
 have bad:a≠b→PV.bool false=q:=fun h=>by rw [←hq,decide_eq_false h]
 conv=>cbv
 split
 ·rename_i h
  have h':=neT' hA (lenI hA hxl) (lenI hA hyl) h
  conv=>cbv
  exact bad (fun e=>h' (by rw [e]))
 rename_i h
 have hab:=neF' hA (lenI hA hxl) (lenI hA hyl) h
 clear h
 conv=>cbv
 refine loop_set hA (fun (i:Int) s=>s.put (some 5) (.val (.int .i64 i))) (fun i=>0≤i∧i≤(a.length:Int)∧(fun i=>∀k:Nat,k<i.toNat→a[k]?=b[k]?) i) (fun i=>((a.length:Int) - i).toNat) 0 ?_ ?_ ?_
 ·conv=>cbv
  exact wk_sl (by repeat (first | refine leL_same ?_ | refine leL_any ?_ | exact leL_nil))
 ·exact ⟨Int.le_refl _,by omega,by simp⟩
 rintro R i ⟨hi0,hi1,hi2⟩ hRi
 conv=>cbv
 split
 · rename_i hc
   have hi:i<(a.length:Int):=ltT' hA rfl (lenI hA hxl) hc
   have his:A.iAdd i 1=i+1:=addI hA _ _
   have hir:A.inR (A.iAdd i 1):=inR' hA his (by unfold inI64;omega)
   have him:((a.length:Int) - A.iAdd i 1).toNat<((a.length:Int) - i).toNat:=by rw [his];omega
   have hin:(fun i=>∀k:Nat,k<i.toNat→a[k]?=b[k]?) (i+1)→0≤A.iAdd i 1∧A.iAdd i 1≤(a.length:Int)∧(fun i=>∀k:Nat,k<i.toNat→a[k]?=b[k]?) (A.iAdd i 1):=fun h=>by rw [his];exact ⟨by omega,by omega,h⟩
   simp only at hin
   conv=>cbv
   refine ⟨draw_intro hA (by kernel_rfl),?_⟩
   refine idx_IntL hA hx hi0 hi (fun x v hx0 hv=>?_)
   conv=>cbv
   refine idx_IntL hA hy hi0 (by omega) (fun y w hy0 hw=>?_)
   have hvl:v.length=x.length:=by rw [hv];simp [encInts]
   have hwl:w.length=y.length:=by rw [hw];simp [encInts]
   have hb2:=hbig x (List.mem_of_getElem? hx0)
   conv=>cbv
   split
   ·rename_i h
    have h':=neT' hA (lenI hA hvl) (lenI hA hwl) h
    conv=>cbv
    exact bad (fun e=>h' (by rw [e,hy0] at hx0;rw [Option.some.inj hx0]))
   rename_i h
   have hxy:=neF' hA (lenI hA hvl) (lenI hA hwl) h
   conv=>cbv
   refine loop_set hA (fun (k:Int) s=>s.put (some 6) (.val (.int .i64 k))) (fun k=>0≤k∧k≤x.length∧∀j:Nat,j<k.toNat→x[j]?=y[j]?) (fun k=>(x.length - k).toNat) 0 ?_ ?_ ?_
   ·conv=>cbv
    exact wk_sl (by repeat (first | refine leL_same ?_ | refine leL_any ?_ | exact leL_nil))
   ·exact ⟨Int.le_refl _,by omega,by simp⟩
   rintro R2 k ⟨hk0,hk1,hk2⟩ hR2
   conv=>cbv
   refine idx_IntL hA hx hi0 hi (fun x' v' hx1 hv'=>?_)
   obtain rfl:=Option.some.inj (hx0.symm.trans hx1)
   obtain rfl:=hv'.trans hv.symm
   conv=>cbv
   split
   ·rename_i hc
    have hk:k<x.length:=ltT' hA rfl (lenI hA hvl) hc
    have hks:A.iAdd k 1=k+1:=addI hA _ _
    conv=>cbv
    refine ⟨draw_intro hA (by kernel_rfl),?_⟩
    refine idx_IntL hA hx hi0 hi (fun x' v' hx1 hv'=>?_)
    obtain rfl:=Option.some.inj (hx0.symm.trans hx1)
    obtain rfl:=hv'.trans hv.symm
    conv=>cbv
    refine idx_Int hA hv hk0 hk (fun p hp=>?_)
    conv=>cbv
    refine idx_IntL hA hy hi0 (by omega) (fun x' v' hx1 hv'=>?_)
    obtain rfl:=Option.some.inj (hy0.symm.trans hx1)
    obtain rfl:=hv'.trans hw.symm
    conv=>cbv
    refine idx_Int hA hw hk0 (by omega) (fun r hr2=>?_)
    conv=>cbv
    split
    ·rename_i h
     have h':p≠r:=neT hA h
     conv=>cbv
     exact bad (fun e=>h' (by rw [e,hy0] at hx0;rw [←Option.some.inj hx0,hr2] at hp;exact (Option.some.inj hp).symm))
    ·rename_i h
     have h':p=r:=neF hA h
     conv=>cbv
     exact ⟨inR' hA hks (by unfold inI64;omega),hR2 (A.iAdd k 1) _ (by (conv=>cbv);exact wk_sl (by repeat (first | refine leL_same ?_ | refine leL_any ?_ | exact leL_nil))) (by rw [hks];exact ⟨by omega,by omega,pref_next hk2 hk0 hp hr2 h'⟩) (by rw [hks];omega)⟩
   ·rename_i hc
    have hk:(x.length:Int)≤k:=ltF' hA rfl (lenI hA hvl) hc
    have hxye:x=y:=pref_end hk2 (by omega) hxy
    conv=>cbv
    exact ⟨hir,hRi (A.iAdd i 1) _ (by (conv=>cbv);exact wk_sl (by repeat (first | refine leL_same ?_ | refine leL_any ?_ | exact leL_nil))) (hin (pref_next hi2 hi0 hx0 hy0 hxye)) him⟩
 rename_i hc
 have hi:i=(a.length:Int):=by have:=ltF' hA rfl (lenI hA hxl) hc;omega
 conv=>cbv
 rw [←hq,decide_eq_true (pref_end hi2 hi hab)]
end Go.Abs
namespace Go.Abs
open Go.RowKit Go.Proofs
theorem ref21_SameUses (a b:List Use) {xs ys:List PV} (hx:xs=encUses a) (hy:ys=encUses b):CallsPV Tryz.prog 32 [.list 4 xs,.list 4 ys] (.bool (decide (a=b))):=by
 refine callsPV_by (clo:=fun _=>false) (rows:=false) env_ok Tryz.func32 rfl (enters_of Tryz.func32 (by kernel_rfl) rfl) (fun A q P Y hr hA hq=>?_)
 have hxl:xs.length=a.length:=by rw [hx,encUses_len]
 have hyl:ys.length=b.length:=by rw [hy,encUses_len]
 have hlen:a.length≤9223372036854775807:=by have:=(hr.mem (p:=.list 4 xs) (by simp)).len;omega
 have hbad:a≠b→PV.bool false=q:=fun h=>by rw [←hq,decide_eq_false h]
 have hgood:a=b→PV.bool true=q:=fun h=>by rw [←hq,decide_eq_true h]
 clear hq
 conv=>cbv
 split
 ·rename_i hc
  conv=>cbv
  exact hbad (fun h=>by have:=neT' hA (lenI hA hxl) (lenI hA hyl) hc;rw [h] at this;exact this rfl)
 rename_i g1;replace g1:=neF' hA (lenI hA hxl) (lenI hA hyl) g1
 conv=>cbv
 refine loop_set hA (fun (i:Int) s=>s.put (some 5) (.val (.int .i64 i))) (fun i=>0≤i∧i≤(a.length:Int)∧(fun i=>a.take i.toNat=b.take i.toNat) i) (fun i=>((a.length:Int) - i).toNat) 0 ?_ ?_ ?_
 ·conv=>cbv
  exact wk_sl (by repeat (first | refine leL_same ?_ | refine leL_any ?_ | exact leL_nil))
 ·exact ⟨Int.le_refl _,by omega,by simp⟩
 rintro R i ⟨hi0,hi1,hi2⟩ hRi
 conv=>cbv
 split
 · rename_i hc
   have hi:i<(a.length:Int):=ltT' hA rfl (lenI hA hxl) hc
   have his:A.iAdd i 1=i+1:=addI hA _ _
   have hir:A.inR (A.iAdd i 1):=inR' hA his (by unfold inI64;omega)
   have him:((a.length:Int) - A.iAdd i 1).toNat<((a.length:Int) - i).toNat:=by rw [his];omega
   have hin:(fun i=>a.take i.toNat=b.take i.toNat) (i+1)→0≤A.iAdd i 1∧A.iAdd i 1≤(a.length:Int)∧(fun i=>a.take i.toNat=b.take i.toNat) (A.iAdd i 1):=fun h=>by rw [his];exact ⟨by omega,by omega,h⟩
   simp only at hin
   conv=>cbv
   refine ⟨draw_intro hA (by kernel_rfl),?_⟩
   refine idx_Use hA hx hi0 hi (fun x hx0=>?_)
   have hlb:i.toNat<b.length:=by omega
   have hyb:=List.getElem?_eq_getElem hlb
   have hxa:=hx0
   have htk:=take_snoc' hi0 hx0
   obtain ⟨⟨x1,x2,x3⟩,x4⟩:=x
   conv=>cbv
   refine idx_Use hA hy hi0 (by omega) (fun y hy0=>?_)
   have htk2:=take_snoc' hi0 hy0
   obtain ⟨⟨y1,y2,y3⟩,y4⟩:=y
   conv=>cbv
   split
   ·rename_i hc
    have hne:(⟨⟨x1,x2,x3⟩,x4⟩:Use)≠⟨⟨y1,y2,y3⟩,y4⟩:=by
     intro h
     cases h
     subst hA
     simp [stdOps] at hc
    conv=>cbv
    exact hbad (fun h=>by rw [h,hy0] at hxa;cases hxa;exact hne rfl)
   ·rename_i hc
    have he:(⟨⟨x1,x2,x3⟩,x4⟩:Use)=⟨⟨y1,y2,y3⟩,y4⟩:=by
     subst hA
     simp [stdOps] at hc
     obtain ⟨rfl,rfl,rfl,rfl⟩:=hc
     rfl
    conv=>cbv
    exact ⟨hir,hRi (A.iAdd i 1) _ (by (conv=>cbv);exact wk_sl (by repeat (first | refine leL_same ?_ | refine leL_any ?_ | exact leL_nil))) (hin (by show a.take (i+1).toNat=b.take (i+1).toNat;rw [htk,htk2,he,hi2])) him⟩
 rename_i hc
 have hi:i=(a.length:Int):=by have:=ltF' hA rfl (lenI hA hxl) hc;omega
 conv=>cbv
 exact hgood (by rw [List.take_of_length_le (by omega),List.take_of_length_le (by omega)] at hi2;exact hi2)
theorem ref21_SameChoice (a b:Choice):CallsPV Tryz.prog 67 [encChoice a,encChoice b] (.bool (decide (a=b))):=by
 refine callsPV_by (clo:=fun _=>false) (rows:=false) env_ok Tryz.func67 rfl (enters_of Tryz.func67 (by kernel_rfl) rfl) (fun A q P Y hr hA hq=>?_)
 obtain ⟨a1,a2,a3,a4⟩:=a
 obtain ⟨b1,b2,b3,b4⟩:=b
 have hs:=fun xs ys (hx:xs=encUses a4) (hy:ys=encUses b4)=>ref21_SameUses a4 b4 hx hy
 obtain ⟨xs,hxs⟩:∃xs,xs=encUses a4:=⟨_,rfl⟩
 obtain ⟨ys,hys⟩:∃ys,ys=encUses b4:=⟨_,rfl⟩
 rw [encChoice_eq _ hxs,encChoice_eq _ hys]
 have h1:=hs xs ys hxs hys
 have hd:decide ((⟨a1,a2,a3,a4⟩:Choice)=⟨b1,b2,b3,b4⟩)=(decide (a1=b1)&&decide (a2=b2)&&decide (a3=b3)&&decide (a4=b4)):=by
  rw [Bool.eq_iff_iff]
  simp [and_assoc]
 rw [hd] at hq
 generalize decide (a4=b4)=d at h1 hq
 simp only
 conv=>cbv
 split
 rotate_left
 ·rename_i hc
  conv=>cbv
  rw [←hq,decide_eq_false (eqF hA hc)];rfl
 rename_i hc
 rw [decide_eq_true (eqT hA hc),Bool.true_and] at hq
 conv=>cbv
 split
 rotate_left
 ·rename_i hc
  conv=>cbv
  rw [←hq,decide_eq_false (eqF hA hc)];rfl
 rename_i hc
 rw [decide_eq_true (eqT hA hc),Bool.true_and] at hq
 conv=>cbv
 split
 rotate_left
 ·rename_i hc
  conv=>cbv
  rw [←hq,decide_eq_false (eqF hA hc)];rfl
 rename_i hc
 rw [decide_eq_true (eqT hA hc),Bool.true_and] at hq
 conv=>cbv
 refine call_intro hA (h1) ?_
 conv=>cbv
 exact hq
def sum21c (l:List Choice):Nat:=(l.map fun y=>1+y.Uses.length).sum
def sum21 (v:List Vari):Nat:=(v.map fun x=>1+sum21c x.Choices).sum
def few21 (v:List Vari):Bool:=decide (sum21 v<200)
theorem sum21_split {v:List Vari} {i:Int} {x:Vari} (h0:0≤i) (h:v[i.toNat]?=some x):sum21 (v.take (i+1).toNat)=sum21 (v.take i.toNat)+(1+sum21c x.Choices)∧sum21 (v.take (i+1).toNat)≤sum21 v:=by
 have e:v.take (i+1).toNat=v.take i.toNat++[x]:=take_snoc' h0 h
 have e2:v=v.take (i+1).toNat++v.drop (i+1).toNat:=(List.take_append_drop _ _).symm
 refine ⟨by rw [e];simp [sum21],?_⟩
 have h2:sum21 v=sum21 (v.take (i+1).toNat)+sum21 (v.drop (i+1).toNat):=by
  conv=>lhs;rw [e2]
  unfold sum21
  rw [List.map_append,List.sum_append]
 omega
theorem sum21c_split {v:List Choice} {i:Int} {x:Choice} (h0:0≤i) (h:v[i.toNat]?=some x):sum21c (v.take (i+1).toNat)=sum21c (v.take i.toNat)+(1+x.Uses.length)∧sum21c (v.take (i+1).toNat)≤sum21c v:=by
 have e:v.take (i+1).toNat=v.take i.toNat++[x]:=take_snoc' h0 h
 have e2:v=v.take (i+1).toNat++v.drop (i+1).toNat:=(List.take_append_drop _ _).symm
 refine ⟨by rw [e];simp [sum21c],?_⟩
 have h2:sum21c v=sum21c (v.take (i+1).toNat)+sum21c (v.drop (i+1).toNat):=by
  conv=>lhs;rw [e2]
  unfold sum21c
  rw [List.map_append,List.sum_append]
 omega
set_option maxHeartbeats 1000000 in
theorem ref21_FewUses (v:List Vari) (hb:∀x∈v,∀y∈x.Choices,y.Uses.length≤8796093022208) {xs:List PV} (hx:xs=encVars v):CallsPV Tryz.prog 33 [.list 4 xs] (.bool (few21 v)):=by
 refine callsPV_by (clo:=fun _=>false) (rows:=false) env_ok Tryz.func33 rfl (enters_of Tryz.func33 (by kernel_rfl) rfl) (fun A q P Y hr hA hq=>?_)
 have hxl:xs.length=v.length:=by rw [hx];simp [encVars]
 have hlen:v.length≤9223372036854775807:=by have:=(hr.mem (p:=.list 4 xs) (by simp)).len;omega
 have hfew:few21 v=decide (sum21 v<200):=rfl
 conv=>cbv
 refine loop_set hA (fun (z:Int × Int) s=>(s.put (some 4) (.val (.int .i64 z.1))).put (some 3) (.val (.int .i64 z.2))) (fun z=>0≤z.1∧z.1≤v.length∧0≤z.2∧(z.2=sum21 (v.take z.1.toNat)∨(200≤z.2∧200≤sum21 v))) (fun z=>(v.length - z.1).toNat) (0,0) ?_ ?_ ?_
 ·conv=>cbv
  exact wk_sl (by repeat (first | refine leL_same ?_ | refine leL_any ?_ | exact leL_nil))
 ·exact ⟨Int.le_refl _,by omega,Int.le_refl _,.inl (by simp [sum21])⟩
 rintro R ⟨i,n⟩ ⟨hi0,hi1,hn0,hn⟩ hR
 simp only at hi0 hi1 hn0 hn
 have hend:(v.length:Int)≤i∨200≤n→decide (n<200)=few21 v:=fun h=>by
  rw [hfew,decide_eq_decide]
  rcases hn with hn | hn
  ·rcases h with h | h
   ·rw [List.take_of_length_le (by omega)] at hn
    omega
   ·have h3:sum21 (v.take i.toNat)≤sum21 v:=by
     have e2:v=v.take i.toNat++v.drop i.toNat:=(List.take_append_drop _ _).symm
     have h2:sum21 v=sum21 (v.take i.toNat)+sum21 (v.drop i.toNat):=by
      conv=>lhs;rw [e2]
      unfold sum21
      rw [List.map_append,List.sum_append]
     omega
    omega
  ·omega
 have hlt:A.iLt n 200=decide (n<200):=by subst hA;rfl
 conv=>cbv
 split
 rotate_left
 ·rename_i hc
  have g:=ltF' hA rfl (lenI hA hxl) hc
  conv=>cbv
  rw [←hq,←hend (.inl g)]
  exact congrArg PV.bool hlt
 rename_i hc
 have hi:i<v.length:=ltT' hA rfl (lenI hA hxl) hc
 conv=>cbv
 split
 rotate_left
 ·rename_i hc
  have g:=ltF hA hc
  conv=>cbv
  rw [←hq,←hend (.inr g)]
  exact congrArg PV.bool hlt
 rename_i hc
 have g:=ltT hA hc
 have his:A.iAdd i 1=i+1:=addI hA _ _
 have hir:A.inR (A.iAdd i 1):=inR' hA his (by unfold inI64;omega)
 have hn1:A.iAdd n 1=n+1:=addI hA _ _
 obtain ⟨x,hx0⟩:∃x,v[i.toNat]?=some x:=⟨_,List.getElem?_eq_getElem (show i.toNat<v.length by omega)⟩
 obtain ⟨s1,s2⟩:=sum21_split hi0 hx0
 have hn:n=sum21 (v.take i.toNat):=by omega
 have hbx:=hb x (List.mem_of_getElem? hx0)
 have hchl:x.Choices.length≤9223372036854775807:=by
  have h1:=Real.elem (hr.mem (p:=.list 4 xs) (by simp)) (x:=encVar x) (by rw [hx];exact List.mem_map.2 ⟨x,List.mem_of_getElem? hx0,rfl⟩) (c:=.list 4 (encChoices x.Choices)) (by simp [encVar,PV.cells])
  have h2:=h1
  simpa [encChoices] using h2.len
 conv=>cbv
 refine ⟨inR' hA hn1 (by unfold inI64;omega),?_⟩
 refine loop_set hA (fun (z:Int × Int) s=>(s.put (some 5) (.val (.int .i64 z.1))).put (some 3) (.val (.int .i64 z.2))) (fun z=>0≤z.1∧z.1≤x.Choices.length∧0≤z.2∧(z.2=n+1+sum21c (x.Choices.take z.1.toNat)∨(200≤z.2∧200≤sum21 v))) (fun z=>(x.Choices.length - z.1).toNat) (0,A.iAdd n 1) ?_ ?_ ?_
 ·conv=>cbv
  exact wk_sl (by repeat (first | refine leL_same ?_ | refine leL_any ?_ | exact leL_nil))
 ·exact ⟨Int.le_refl _,by omega,by rw [hn1];omega,.inl (by rw [hn1];simp [sum21c])⟩
 rintro R2 ⟨j,m⟩ ⟨hj0,hj1,hm0,hm⟩ hR2
 simp only at hj0 hj1 hm0 hm
 have hmle:sum21c (x.Choices.take j.toNat)≤sum21c x.Choices:=by
  have e2:x.Choices=x.Choices.take j.toNat++x.Choices.drop j.toNat:=(List.take_append_drop _ _).symm
  have h2:sum21c x.Choices=sum21c (x.Choices.take j.toNat)+sum21c (x.Choices.drop j.toNat):=by
   conv=>lhs;rw [e2]
   unfold sum21c
   rw [List.map_append,List.sum_append]
  omega
 have hexit:(x.Choices.length:Int)≤j∨200≤m→m=sum21 (v.take (i+1).toNat)∨(200≤m∧200≤sum21 v):=fun h=>by
  rcases hm with hm | hm
  ·rcases h with h | h
   ·rw [List.take_of_length_le (by omega)] at hm
    exact .inl (by omega)
   ·exact .inr ⟨h,by omega⟩
  ·exact .inr hm
 have hback:∀h:(x.Choices.length:Int)≤j∨200≤m,0≤A.iAdd i 1∧A.iAdd i 1≤v.length∧0≤m∧(m=sum21 (v.take (A.iAdd i 1).toNat)∨(200≤m∧200≤sum21 v)):=fun h=>by
  rw [his]
  exact ⟨by omega,by omega,hm0,hexit h⟩
 have hmu:(v.length - A.iAdd i 1).toNat<(v.length - i).toNat:=by rw [his];omega
 conv=>cbv
 refine idx_Var hA hx hi0 hi (fun x' lv chs hx' hlv hch=>?_)
 obtain rfl:=Option.some.inj (hx0.symm.trans hx')
 clear hx'
 have hcl:chs.length=x.Choices.length:=by rw [hch];simp [encChoices]
 conv=>cbv
 split
 rotate_left
 ·rename_i hc
  have g:=ltF' hA rfl (lenI hA hcl) hc
  conv=>cbv
  refine ⟨hir,hR (A.iAdd i 1,m) _ ?_ (hback (.inl g)) hmu⟩
  conv=>cbv
  exact wk_sl (by repeat (first | refine leL_same ?_ | refine leL_any ?_ | exact leL_nil))
 rename_i hc
 have hj:j<x.Choices.length:=ltT' hA rfl (lenI hA hcl) hc
 conv=>cbv
 split
 rotate_left
 ·rename_i hc
  have g:=ltF hA hc
  conv=>cbv
  refine ⟨hir,hR (A.iAdd i 1,m) _ ?_ (hback (.inr g)) hmu⟩
  conv=>cbv
  exact wk_sl (by repeat (first | refine leL_same ?_ | refine leL_any ?_ | exact leL_nil))
 rename_i hc
 have g2:=ltT hA hc
 have hjs:A.iAdd j 1=j+1:=addI hA _ _
 have hjr:A.inR (A.iAdd j 1):=inR' hA hjs (by unfold inI64;omega)
 have hm1:A.iAdd m 1=m+1:=addI hA _ _
 obtain ⟨y,hy0⟩:∃y,x.Choices[j.toNat]?=some y:=⟨_,List.getElem?_eq_getElem (show j.toNat<x.Choices.length by omega)⟩
 obtain ⟨s3,s4⟩:=sum21c_split hj0 hy0
 have hby:=hbx y (List.mem_of_getElem? hy0)
 have hm:m=n+1+sum21c (x.Choices.take j.toNat):=by omega
 conv=>cbv
 refine ⟨inR' hA hm1 (by unfold inI64;omega),?_⟩
 refine idx_Var hA hx hi0 hi (fun x' lv2 chs2 hx' hlv2 hch2=>?_)
 obtain rfl:=Option.some.inj (hx0.symm.trans hx')
 obtain rfl:=hch2.trans hch.symm
 clear hx' hch2
 conv=>cbv
 refine idx_Choice hA hch hj0 hj (fun y' us hy' hus=>?_)
 obtain rfl:=Option.some.inj (hy0.symm.trans hy')
 clear hy'
 have hul:A.lLen us=(y.Uses.length:Int):=lenI hA (by rw [hus,encUses_len])
 have hm2:A.iAdd (A.iAdd m 1) (A.lLen us)=m+1+y.Uses.length:=by rw [addI hA,hm1,hul]
 conv=>cbv
 refine ⟨inR' hA hm2 (by unfold inI64;omega),hjr,hR2 (A.iAdd j 1,A.iAdd (A.iAdd m 1) (A.lLen us)) _ ?_ ?_ ?_⟩
 ·conv=>cbv
  exact wk_sl (by repeat (first | refine leL_same ?_ | refine leL_any ?_ | exact leL_nil))
 ·rw [hjs,hm2]
  exact ⟨by show 0≤j+1;omega,by show j+1≤_;omega,by show 0≤m+1+(y.Uses.length:Int);omega,.inl (by show m+1+(y.Uses.length:Int)=n+1+sum21c (x.Choices.take (j+1).toNat);omega)⟩
 ·show (x.Choices.length - A.iAdd j 1).toNat < _
  rw [hjs];simp only;omega
end Go.Abs
namespace Go.Abs
open Go.RowKit Go.Proofs
instance decCellLt (a b:Cell):Decidable (cellLt a b):=by unfold cellLt;infer_instance
def st21L:List Leg:=[⟨0,0,8,[⟨0,1440⟩]⟩]
def st21T:Tables:=⟨1,[⟨⟨#[]⟩,[],[0],2,1⟩],[⟨⟨#[]⟩,[],[0]⟩],[⟨0,1,st21L⟩],[[1],[1]],[⟨4,8,1,2,10,[[],[]]⟩]⟩
def st21S:List Change:=[⟨0,0,[0,0]⟩]
def st21F:Flight:=⟨0,0,0,⟨#[65]⟩,[0],⟨60,61⟩,false⟩
def st21R:List TNode:=[⟨-1,0,[]⟩,⟨0,20,[]⟩,⟨0,20,[]⟩,⟨1,40,[]⟩,⟨1,40,[]⟩]
def st21K:Kind:=⟨4,8,1,2,10,[[],[]]⟩
def opt21 (d h:Int):Opt:=⟨d,0,h,false⟩
theorem air21:airOk st21T=true:=by decide
theorem cap21:capErr st21T st21S=0:=by unfold capErr;rw [air21];decide
theorem chk_ok21 {t:Tables} {f:Flight} (h1:airOk t=true) (h2:(!outB 0 4095 f.ID&&!outB 0 7 f.Airline&&!outB 0 (t.Kinds.length - 1) f.Class&&nameB f.Call&&!outB 1 4 f.Ways.length&&!f.Ways.any (outB 0 (t.Ways.length - 1)) &&
  !(decide (f.Window.From<0) || decide (f.Window.To≤f.Window.From) || decide (1440<f.Window.To) || decide (16<f.Window.To - f.Window.From)) &&
  !f.Ways.any (elsewhere t.Ways (head0 t f)))=true) (h3:f.Ways.Nodup):checkF t f=0:=by
 have:flightB t f=true:=by
  unfold flightB
  rw [h2,(onceB_iff _).2 h3];rfl
 rw [checkF,h1,this];rfl
theorem chk21:checkF st21T st21F=0:=chk_ok21 air21 (by decide) (by decide)
theorem ms21:measuresF st21T st21F=[opt21 0 0,opt21 0 5,opt21 0 10,opt21 10 0,opt21 10 5,opt21 10 10]:=by
 rw [measuresF,if_pos chk21]
 decide
theorem del21 (o:Opt) (h:o∈measL st21T st21F):delayF st21T st21F o=(minutesOf o,minutesOf o*2,0):=by
 rw [delayF,if_pos chk21,if_pos h];rfl
theorem mem21 (d h:Int) (hd:d=0∨d=10) (hh:h=0∨h=5∨h=10):opt21 d h∈measL st21T st21F:=by
 rcases hd with rfl | rfl<;>rcases hh with rfl | rfl | rfl<;>decide
theorem cnt21 (d h:Int) (hd:d=0∨d=10) (hh:h=0∨h=5∨h=10):countE st21T st21F (opt21 d h)=0:=by
 have hm:=mem21 d h hd hh
 have h1:planE st21T st21F (opt21 d h)=0:=by rw [planE,del21 _ hm];rfl
 rw [countE,if_pos h1,if_pos]
 rcases hd with rfl | rfl<;>rcases hh with rfl | rfl | rfl<;>decide
theorem all21 (d h:Int) (hd:d=0∨d=10) (hh:h=0∨h=5∨h=10):allP st21T st21F (opt21 d h)=[⟨0,[60+d,61+d+h]⟩,⟨0,[60+d,62+d+h]⟩]:=by
 rw [allP,if_pos (cnt21 d h hd hh)]
 rcases hd with rfl | rfl<;>rcases hh with rfl | rfl | rfl<;>decide
theorem cov21 (a b:Int) (h0:0≤a) (h1:b≤1440):coversB [⟨0,1440⟩] ⟨a,b⟩=true:=by
 rw [coversB_iff]
 refine .inr ⟨h0,h1,fun m h2 h3=>?_⟩
 have h2:a≤m:=h2
 have h3:m<b:=h3
 unfold inHours
 simp [inSp]
 omega
theorem open21 (a b:Int) (h0:0≤a) (h1:b<1440):openP st21T st21K ⟨0,[a,b]⟩=true:=by
 have hc:∀(x m:Int),curfewB st21K x m=false:=by
  intro x m
  unfold curfewB
  have:∀(n:Nat) (l:List Span),st21K.Curfews[n]?=some l→l=[]:=by
   intro n l h
   match n,h with
   | 0,h=>simp [st21K] at h;exact h
   | 1,h=>simp [st21K] at h;exact h
   | n+2,h=>simp [st21K] at h
  cases h:st21K.Curfews[x.toNat]? with
  | none=>rfl
  | some l=>rw [this _ l h];simp [inHours]
 show openB st21K ⟨0,1,st21L⟩ [a,b]=true
 unfold openB
 rw [hc,hc]
 show (decide (b<1440)&&true&&true&&(coversB [⟨0,1440⟩] ⟨a,b⟩&&true))=true
 rw [cov21 a b h0 (by omega),decide_eq_true h1];rfl
theorem alw21 (d h:Int) (hd:d=0∨d=10) (hh:h=0∨h=5∨h=10):allowedE st21T st21F (opt21 d h)=0:=by
 unfold allowedE
 rw [del21 _ (mem21 d h hd hh),cnt21 d h hd hh]
 have:allOpen st21T st21F (opt21 d h)=true:=by
  show (allP st21T st21F (opt21 d h)).all (openP st21T st21K)=true
  rw [all21 d h hd hh,List.all_cons,List.all_cons,List.all_nil,open21 _ _ (by omega) (by omega),open21 _ _ (by omega) (by omega)];rfl
 rw [this];rfl
theorem opts21:optionsL st21T st21F=[opt21 0 0,opt21 0 5,opt21 0 10,opt21 10 0,opt21 10 5,opt21 10 10]:=by
 unfold optionsL
 rw [ms21]
 simp only [List.filter_cons,alw21 0 0 (.inl rfl) (.inl rfl),alw21 0 5 (.inl rfl) (.inr (.inl rfl)),alw21 0 10 (.inl rfl) (.inr (.inr rfl)),alw21 10 0 (.inr rfl) (.inl rfl),alw21 10 5 (.inr rfl) (.inr (.inl rfl)),alw21 10 10 (.inr rfl) (.inr (.inr rfl)),decide_true,if_true,List.filter_nil]
theorem fewMin21:fewMin st21T:=by
 intro w hw x hx
 simp [st21T] at hw
 subst hw
 simp [st21L] at hx
 subst hx
 decide
theorem lp21:∀o∈optionsL st21T st21F,o.Cancel=true∨(allP st21T st21F o).length≤150:=by
 intro o ho
 rw [opts21] at ho
 refine .inr ?_
 simp only [List.mem_cons,List.not_mem_nil,or_false] at ho
 rcases ho with rfl | rfl | rfl | rfl | rfl | rfl<;>rw [all21 _ _ (by decide) (by decide)]<;>decide
theorem chE21:choicesE st21T st21S st21F=0:=by unfold choicesE;rw [cap21,chk21];rfl
theorem co21a:choicesO st21T st21F 61=[opt21 10 0,opt21 10 5,opt21 10 10]:=by
 unfold choicesO leftL
 rw [opts21]
 decide
theorem co21b:choicesO st21T st21F 100=[forcedO]:=by
 unfold choicesO leftL
 rw [opts21]
 decide
theorem st21 (d h:Int) (hd:d=0∨d=10) (hh:h=0∨h=5∨h=10):cntErr st21T st21S 0 (allP st21T st21F (opt21 d h))=0:=cnt_all (f:=st21F) cap21 chk21
def u210:List Use:=[⟨⟨false,0,70⟩,1⟩,⟨⟨false,0,71⟩,1⟩,⟨⟨true,0,70⟩,1⟩,⟨⟨true,1,71⟩,1⟩,⟨⟨true,1,72⟩,1⟩]
theorem us210:usesL st21T st21S 0 (allP st21T st21F (opt21 10 0))=u210:=by
 unfold usesL
 rw [if_pos (st21 10 0 (by decide) (by decide)),all21 10 0 (by decide) (by decide)]
 have hp:([⟨0,[60+10,61+10+0]⟩,⟨0,[60+10,62+10+0]⟩]:List Path).map (pathCells st21T st21S)=[[⟨true,0,70⟩,⟨false,0,70⟩,⟨true,1,71⟩],[⟨true,0,70⟩,⟨false,0,70⟩,⟨false,0,71⟩,⟨true,1,72⟩]]:=by decide +kernel
 rw [hp]
 unfold leastU leastC
 rw [sortC_eq (l':=[⟨false,0,70⟩,⟨false,0,71⟩,⟨true,0,70⟩,⟨true,1,71⟩,⟨true,1,72⟩]) (by decide +kernel) (by decide)]
 rfl
def u215:List Use:=[⟨⟨false,0,70⟩,1⟩,⟨⟨false,0,71⟩,1⟩,⟨⟨false,0,72⟩,1⟩,⟨⟨false,0,73⟩,1⟩,⟨⟨false,0,74⟩,1⟩,⟨⟨false,0,75⟩,1⟩,⟨⟨false,0,76⟩,1⟩,⟨⟨true,0,70⟩,1⟩,⟨⟨true,1,76⟩,1⟩,⟨⟨true,1,77⟩,1⟩]
theorem us215:usesL st21T st21S 0 (allP st21T st21F (opt21 10 5))=u215:=by
 unfold usesL
 rw [if_pos (st21 10 5 (by decide) (by decide)),all21 10 5 (by decide) (by decide)]
 have hp:([⟨0,[60+10,61+10+5]⟩,⟨0,[60+10,62+10+5]⟩]:List Path).map (pathCells st21T st21S)=[[⟨true,0,70⟩,⟨false,0,70⟩,⟨false,0,71⟩,⟨false,0,72⟩,⟨false,0,73⟩,⟨false,0,74⟩,⟨false,0,75⟩,⟨true,1,76⟩],[⟨true,0,70⟩,⟨false,0,70⟩,⟨false,0,71⟩,⟨false,0,72⟩,⟨false,0,73⟩,⟨false,0,74⟩,⟨false,0,75⟩,⟨false,0,76⟩,⟨true,1,77⟩]]:=by decide +kernel
 rw [hp]
 unfold leastU leastC
 rw [sortC_eq (l':=[⟨false,0,70⟩,⟨false,0,71⟩,⟨false,0,72⟩,⟨false,0,73⟩,⟨false,0,74⟩,⟨false,0,75⟩,⟨false,0,76⟩,⟨true,0,70⟩,⟨true,1,76⟩,⟨true,1,77⟩]) (by decide +kernel) (by decide)]
 rfl
def u21A:List Use:=[⟨⟨false,0,70⟩,1⟩,⟨⟨false,0,71⟩,1⟩,⟨⟨false,0,72⟩,1⟩,⟨⟨false,0,73⟩,1⟩,⟨⟨false,0,74⟩,1⟩,⟨⟨false,0,75⟩,1⟩,⟨⟨false,0,76⟩,1⟩,⟨⟨false,0,77⟩,1⟩,⟨⟨false,0,78⟩,1⟩,⟨⟨false,0,79⟩,1⟩,⟨⟨false,0,80⟩,1⟩,⟨⟨false,0,81⟩,1⟩,⟨⟨true,0,70⟩,1⟩,⟨⟨true,1,81⟩,1⟩,⟨⟨true,1,82⟩,1⟩]
theorem us21A:usesL st21T st21S 0 (allP st21T st21F (opt21 10 10))=u21A:=by
 unfold usesL
 rw [if_pos (st21 10 10 (by decide) (by decide)),all21 10 10 (by decide) (by decide)]
 have hp:([⟨0,[60+10,61+10+10]⟩,⟨0,[60+10,62+10+10]⟩]:List Path).map (pathCells st21T st21S)=[[⟨true,0,70⟩,⟨false,0,70⟩,⟨false,0,71⟩,⟨false,0,72⟩,⟨false,0,73⟩,⟨false,0,74⟩,⟨false,0,75⟩,⟨false,0,76⟩,⟨false,0,77⟩,⟨false,0,78⟩,⟨false,0,79⟩,⟨false,0,80⟩,⟨true,1,81⟩],[⟨true,0,70⟩,⟨false,0,70⟩,⟨false,0,71⟩,⟨false,0,72⟩,⟨false,0,73⟩,⟨false,0,74⟩,⟨false,0,75⟩,⟨false,0,76⟩,⟨false,0,77⟩,⟨false,0,78⟩,⟨false,0,79⟩,⟨false,0,80⟩,⟨false,0,81⟩,⟨true,1,82⟩]]:=by decide +kernel
 rw [hp]
 unfold leastU leastC
 rw [sortC_eq (l':=[⟨false,0,70⟩,⟨false,0,71⟩,⟨false,0,72⟩,⟨false,0,73⟩,⟨false,0,74⟩,⟨false,0,75⟩,⟨false,0,76⟩,⟨false,0,77⟩,⟨false,0,78⟩,⟨false,0,79⟩,⟨false,0,80⟩,⟨false,0,81⟩,⟨true,0,70⟩,⟨true,1,81⟩,⟨true,1,82⟩]) (by decide +kernel) (by decide)]
 rfl
def c21:List Choice:=[⟨10,20,0,u210⟩,⟨15,30,1,u215⟩,⟨20,40,1,u21A⟩]
theorem cc21a:choicesC st21T st21S st21F 61 (opt21 10 0)=c21:=by
 unfold choicesC
 rw [co21a]
 simp only [List.map_cons,List.map_nil]
 unfold choiceF
 rw [del21 _ (mem21 10 0 (by decide) (by decide)),del21 _ (mem21 10 5 (by decide) (by decide)),del21 _ (mem21 10 10 (by decide) (by decide))]
 show [Choice.mk _ _ _ (usesL st21T st21S 0 _),Choice.mk _ _ _ (usesL st21T st21S 0 _),Choice.mk _ _ _ (usesL st21T st21S 0 _)]=_
 rw [us210,us215,us21A]
 rfl
theorem cc21b:choicesC st21T st21S st21F 100 ⟨0,0,0,false⟩=[⟨120,240,1,[]⟩]:=by
 unfold choicesC
 rw [co21b]
 rfl
def w21:List Use:=[⟨⟨false,0,60⟩,1⟩,⟨⟨true,0,60⟩,1⟩,⟨⟨true,1,61⟩,1⟩]
theorem se21:stErr st21T [⟨0,[60,61]⟩]=0:=by
 simp only [stErr,stErr1,air21,if_true]
 decide
theorem ce21:cntErr st21T st21S 0 [⟨0,[60,61]⟩]=0:=by
 unfold cntErr
 rw [cap21,se21];decide
theorem uw21:usesL st21T st21S 0 [⟨0,[60,61]⟩]=w21:=by
 unfold usesL
 rw [if_pos ce21]
 have hp:([⟨0,[60,61]⟩]:List Path).map (pathCells st21T st21S)=[[⟨true,0,60⟩,⟨false,0,60⟩,⟨true,1,61⟩]]:=by decide +kernel
 rw [hp]
 unfold leastU leastC
 rw [sortC_eq (l':=[⟨false,0,60⟩,⟨true,0,60⟩,⟨true,1,61⟩]) (by decide +kernel) (by decide)]
 rfl
theorem fd21:fixedD st21T st21F (opt21 0 0)=(0,0,0):=by
 unfold fixedD
 rw [if_neg (by decide),del21 _ (mem21 0 0 (by decide) (by decide))];rfl
theorem fx21:fixedR st21T st21S st21F (opt21 0 0) [⟨0,[60,61]⟩]=.tup [encChoice ⟨0,0,0,w21⟩,.int .i64 0]:=by
 have hE:fixedE st21T st21S st21F (opt21 0 0) [⟨0,[60,61]⟩]=0:=by
  unfold fixedE
  rw [cap21,chk21,fd21]
  exact ce21
 unfold fixedR
 rw [if_pos hE]
 unfold fixedC
 rw [fd21]
 show PV.tup [encChoice ⟨0,0,0,usesL st21T st21S 0 _⟩,_]=_
 rw [uw21]
theorem em21:choicesE ⟨0,[],[],[],[],[]⟩ st21S st21F=140:=by
 have:capErr ⟨0,[],[],[],[],[]⟩ st21S=140:=by decide
 unfold choicesE
 rw [this];rfl
theorem tr21:treeB st21R=true:=by decide
theorem g21a:groupsE st21R [2,3,4]=0:=by unfold groupsE;rw [tr21];decide
theorem g21b:groupsE st21R []=210:=by unfold groupsE;rw [tr21];decide
theorem g21c:groupsL st21R [2,3,4] 30 0=[[2],[3,4]]:=by decide +kernel
theorem g21d:groupsL st21R [2,3,4] 30 30=[[2,3,4]]:=by decide +kernel
theorem n21:(encCells (sortC (uniqC (cellsV [⟨0,0,[],c21⟩])))).length=19:=by
 unfold encCells
 rw [List.length_map,(sortC_perm _).length_eq]
 decide +kernel
theorem n21e:encCells (sortC (uniqC (cellsV [])))=[]:=by simp [encCells,sortC,uniqC,cellsV]
end Go.Abs
namespace Go.Abs
open Go.RowKit Go.Proofs
def pvJ21 (n:Int):PV:=.int .i64 n
def st21TP:PV:=.agg [pvJ21 1,.list 5 [.agg [.str ⟨#[]⟩,.list 0 [],.list 1 [pvJ21 0],pvJ21 2,pvJ21 1]],.list 3 [.agg [.str ⟨#[]⟩,.list 0 [],.list 1 [pvJ21 0]]],
 .list 3 [.agg [pvJ21 0,pvJ21 1,.list 4 [.agg [pvJ21 0,pvJ21 0,pvJ21 8,.list 2 [.agg [pvJ21 0,pvJ21 1440]]]]]],.list 1 [.list 1 [pvJ21 1],.list 1 [pvJ21 1]],
 .list 6 [.agg [pvJ21 4,pvJ21 8,pvJ21 1,pvJ21 2,pvJ21 10,.list 1 [.list 0 [],.list 0 []]]]]
def st21SP:PV:=.agg [.list 3 [.agg [pvJ21 0,pvJ21 0,.list 1 [pvJ21 0,pvJ21 0]]]]
def st21FP:PV:=.agg [pvJ21 0,pvJ21 0,pvJ21 0,.str ⟨#[65]⟩,.list 1 [pvJ21 0],pvJ21 60,pvJ21 61,.bool false]
def st21RP:PV:=.list 3 [.agg [pvJ21 (-1),pvJ21 0,.list 0 []],.agg [pvJ21 0,pvJ21 20,.list 0 []],.agg [pvJ21 0,pvJ21 20,.list 0 []],.agg [pvJ21 1,pvJ21 40,.list 0 []],.agg [pvJ21 1,pvJ21 40,.list 0 []]]
theorem st21T_le:LeP st21TP (encTables st21T):=lePb_ok 12 _ _ (by decide)
theorem st21R_le:LeP st21RP (.list 3 (encNodes st21R)):=lePb_ok 12 _ _ (by decide)
theorem st21_sample:CallsPV Tryz.prog 66 [] (.tup [st21TP,st21SP]):=by
 refine callsPV_by (clo:=fun _=>false) (rows:=false) env_ok Tryz.func66 rfl (enters_of Tryz.func66 (by kernel_rfl) rfl) (fun A q P Y hr hA hq=>?_)
 have hm:A.mks 2 2 24:=by subst hA;exact ⟨by decide,rfl,by decide,by decide⟩
 conv=>cbv
 refine ⟨hm,?_⟩
 rw [←hq]
 subst hA
 rfl
theorem ex_Groups21 (lv:List Int) (now:Int) {gl:List (List Int)} (hl:lv.length≤1000000) (hE:groupsE st21R lv=0) (hG:groupsL st21R lv 30 now=gl) :
  CallsPV Tryz.prog 21 [st21RP,.list 1 (encInts lv),st21FP,.int .i64 now] (.tup [.list 1 (encIntLs gl),.int .i64 0]):=by
 have h:=st_Groups st21R lv st21F now rfl rfl (by decide) hl (by unfold inI64;decide)
 rw [hE,show decidedF st21F.Window.From=30 by decide,hG,if_pos rfl] at h
 exact h.le (.cons st21R_le (LeL.refl _)) (.refl _)
theorem ex_Groups21n:CallsPV Tryz.prog 21 [st21RP,.list 0 [],st21FP,.int .i64 0] (.tup [.list 0 [],.int .i64 210]):=by
 have h:=st_Groups st21R [] st21F 0 rfl rfl (by decide) (by decide) (by unfold inI64;decide)
 rw [g21b,if_neg (by decide)] at h
 exact h.le (.cons st21R_le (.cons (.nil _ _) (LeL.refl _))) (.refl _)
theorem ex_Choices21 (now:Int) (ann:Opt) {cs:List Choice} {os:List Opt} (ho:choicesO st21T st21F now=os) (hc:choicesC st21T st21S st21F now ann=cs) :
  CallsPV Tryz.prog 25 [st21TP,st21SP,st21FP,.int .i64 now,encOpt ann] (.tup [.list 4 (encChoices cs),.list 4 (encOpts os),.int .i64 0]):=by
 have h:=stages_Choices st21T st21S st21F now ann fewMin21 lp21
 unfold choicesR at h
 rw [chE21,if_pos rfl,ho,hc] at h
 exact h.le (.cons st21T_le (LeL.refl _)) (.refl _)
theorem ex_Choices21n:CallsPV Tryz.prog 25 [.agg [pvJ21 0,.list 0 [],.list 0 [],.list 0 [],.list 0 [],.list 0 []],st21SP,st21FP,.int .i64 0,.agg [pvJ21 0,pvJ21 0,pvJ21 0,.bool false]] (.tup [.list 0 [],.list 0 [],.int .i64 140]):=by
 have hne:optionsL ⟨0,[],[],[],[],[]⟩ st21F=[]:=by
  have:checkF ⟨0,[],[],[],[],[]⟩ st21F=140:=by
   unfold checkF
   rw [show airOk ⟨0,[],[],[],[],[]⟩=false by decide];rfl
  unfold optionsL measuresF
  rw [if_neg (by rw [this];decide)];rfl
 have h:=stages_Choices ⟨0,[],[],[],[],[]⟩ st21S st21F 0 ⟨0,0,0,false⟩ (fun w hw=>by simp at hw) (fun o ho=>by rw [hne] at ho;cases ho)
 unfold choicesR at h
 rw [em21,if_neg (by decide)] at h
 exact h.le (.cons (lePb_ok 12 _ _ (by decide)) (LeL.refl _)) (.refl _)
theorem ex_Fixed21:CallsPV Tryz.prog 31 [st21TP,st21SP,st21FP,.agg [pvJ21 0,pvJ21 0,pvJ21 0,.bool false],.list 2 [.agg [pvJ21 0,.list 1 [pvJ21 60,pvJ21 61]]]] (.tup [encChoice ⟨0,0,0,w21⟩,.int .i64 0]):=by
 have h:=stages_Fixed st21T st21S st21F (opt21 0 0) [⟨0,[60,61]⟩] rfl (by decide)
 rw [fx21] at h
 exact h.le (.cons st21T_le (LeL.refl _)) (.refl _)
theorem ex_Cells21n:CallsPV Tryz.prog 34 [.list 0 []] (.list 3 []):=by
 have h:=stages_Cells [] rfl (by decide) (by decide) (fun x hx=>by cases hx) (fun x hx=>by cases hx)
 rw [n21e] at h
 exact h.le (.cons (.nil _ _) (LeL.refl _)) (.refl _)
theorem ex_Cells21:∃L:List PV,L.length=19∧CallsPV Tryz.prog 34 [.list 4 [.agg [pvJ21 0,pvJ21 0,.list 0 [],.list 4 (encChoices c21)]]] (.list 3 L):=by
 have h:=stages_Cells [⟨0,0,[],c21⟩] rfl (by decide) (by decide) (fun x hx=>by simp at hx;subst hx;decide) (fun x hx y hy=>by
  simp at hx;subst hx
  simp only [c21,List.mem_cons,List.not_mem_nil,or_false] at hy
  rcases hy with rfl | rfl | rfl<;>decide)
 exact ⟨_,n21,h.le (.cons (lePb_ok 12 _ _ (by decide)) (LeL.refl _)) (.refl _)⟩
theorem idx_hd {A:Ops} {E:Env} (hA:A=stdOps E) {x:PV} {r:List PV} {K:List PV→Prop} (h:K x.cells):A.idx (x::r) 0 K:=by
 subst hA
 exact ⟨⟨Int.le_refl _,by simp only [List.length_cons];omega⟩,h⟩
theorem idx_hd2 {A:Ops} {E:Env} (hA:A=stdOps E) {x y:PV} {r:List PV} {K:List PV→Prop} (h:K y.cells):A.idx (x::y::r) 1 K:=by
 subst hA
 exact ⟨⟨by decide,by simp only [List.length_cons];omega⟩,h⟩
set_option maxRecDepth 20000 in
set_option maxHeartbeats 8000000 in
theorem law21_sane:CallsPV Tryz.prog 19 [] (.bool true):=by
 refine callsPV_by (clo:=fun _=>false) (rows:=false) env_ok Tryz.func19 rfl (enters_of Tryz.func19 (by kernel_rfl) rfl) (fun A q P Y hr hA hq=>?_)
 have c1:=ex_Groups21 [2,3,4] 0 (by decide) g21a g21c
 have c2:=ex_Groups21 [2,3,4] 30 (by decide) g21a g21d
 have c3:=ex_Groups21n
 have c4:=ex_Choices21 61 (opt21 10 0) co21a cc21a
 have c5:=ex_Choices21 100 ⟨0,0,0,false⟩ co21b cc21b
 have c6:=ex_Fixed21
 have c7:=ex_Choices21n
 have c8:=ex_Cells21n
 obtain ⟨L,hL,c9⟩:=ex_Cells21
 have c10:=ref21_SameGroups [[2],[3,4]] [[2],[3,4]] rfl rfl (by decide)
 have c11:=ref21_SameGroups [[2,3,4]] [[2,3,4]] rfl rfl (by decide)
 have c12:=ref21_SameChoice ⟨0,0,0,w21⟩ ⟨0,0,0,w21⟩
 rw [decide_eq_true rfl] at c10 c11 c12
 have hLl:A.lLen L=19:=lenI hA hL
 refine seq_stop (fun R hR=>?_)
 conv=>cbv
 refine hR _ ?_
 clear hR
 refine seq_stop (fun R hR=>?_)
 conv=>cbv
 refine call_intro hA (st21_sample) ?_
 conv=>cbv
 refine hR _ ?_
 clear hR
 refine seq_stop (fun R hR=>?_)
 conv=>cbv
 refine hR _ ?_
 clear hR
 refine seq_stop (fun R hR=>?_)
 conv=>cbv
 refine hR _ ?_
 clear hR
 refine seq_stop (fun R hR=>?_)
 conv=>cbv
 refine call_intro hA (c1) ?_
 conv=>cbv
 refine hR _ ?_
 clear hR
 refine seq_stop (fun R hR=>?_)
 conv=>cbv
 refine call_intro hA (c2) ?_
 conv=>cbv
 refine hR _ ?_
 clear hR
 refine seq_stop (fun R hR=>?_)
 conv=>cbv
 refine call_intro hA (c3) ?_
 conv=>cbv
 refine hR _ ?_
 clear hR
 refine seq_stop (fun R hR=>?_)
 conv=>cbv
 refine call_intro hA (c4) ?_
 conv=>cbv
 refine hR _ ?_
 clear hR
 refine seq_stop (fun R hR=>?_)
 conv=>cbv
 refine call_intro hA (c5) ?_
 conv=>cbv
 refine hR _ ?_
 clear hR
 refine seq_stop (fun R hR=>?_)
 conv=>cbv
 refine call_intro hA (c6) ?_
 conv=>cbv
 refine hR _ ?_
 clear hR
 refine seq_stop (fun R hR=>?_)
 conv=>cbv
 refine call_intro hA (c7) ?_
 conv=>cbv
 refine hR _ ?_
 clear hR c1 c2 c3 c4 c5 c6 c7
 refine seq_stop (fun R hR=>?_)
 conv=>cbv
 split
 ·rename_i hc
  cases (neT hA hc rfl)
 conv=>cbv
 split
 ·rename_i hc
  cases (neT hA hc rfl)
 conv=>cbv
 split
 ·rename_i hc
  cases (neT hA hc rfl)
 conv=>cbv
 split
 ·rename_i hc
  cases (neT hA hc rfl)
 conv=>cbv
 split
 ·rename_i hc
  cases (neT hA hc rfl)
 conv=>cbv
 split
 ·rename_i hc
  cases (neT hA hc rfl)
 conv=>cbv
 split
 ·rename_i hc
  cases (neT hA hc rfl)
 conv=>cbv
 split
 ·rename_i hc
  cases (neT' hA (lenI hA (n:=3) rfl) rfl hc rfl)
 conv=>cbv
 split
 ·rename_i hc
  cases (neT' hA (lenI hA (n:=3) rfl) rfl hc rfl)
 conv=>cbv
 split
 ·rename_i hc
  cases (neT' hA (lenI hA (n:=1) rfl) rfl hc rfl)
 conv=>cbv
 split
 ·rename_i hc
  cases (neT' hA (lenI hA (n:=1) rfl) rfl hc rfl)
 conv=>cbv
 refine hR _ ?_
 clear hR
 refine seq_stop (fun R hR=>?_)
 conv=>cbv
 refine call_intro hA (c10) ?_
 conv=>cbv
 split
 ·rename_i hc
  cases ((show False by have h9:true=false:=notT hA hc;cases h9))
 conv=>cbv
 refine call_intro hA (c11) ?_
 conv=>cbv
 split
 ·rename_i hc
  cases ((show False by have h9:true=false:=notT hA hc;cases h9))
 conv=>cbv
 refine call_intro hA (c8) ?_
 conv=>cbv
 split
 ·rename_i hc
  cases (neT' hA (lenI hA (n:=0) rfl) rfl hc rfl)
 conv=>cbv
 refine hR _ ?_
 clear hR c8 c10 c11
 refine seq_stop (fun R hR=>?_)
 conv=>cbv
 refine hR _ ?_
 clear hR
 conv=>cbv
 refine idx_hd hA ?_
 conv=>cbv
 split
 rotate_left
 ·rename_i hc
  cases (show False by subst hA;simp [stdOps] at hc)
 conv=>cbv
 refine idx_hd hA ?_
 conv=>cbv
 split
 rotate_left
 ·rename_i hc
  cases (eqF hA hc rfl)
 conv=>cbv
 refine idx_hd2 hA ?_
 conv=>cbv
 split
 rotate_left
 ·rename_i hc
  cases (eqF hA hc rfl)
 conv=>cbv
 refine idx_hd hA ?_
 conv=>cbv
 split
 rotate_left
 ·rename_i hc
  cases (eqF hA hc rfl)
 conv=>cbv
 refine idx_hd hA ?_
 conv=>cbv
 split
 rotate_left
 ·rename_i hc
  cases (eqF hA hc rfl)
 conv=>cbv
 refine idx_hd hA ?_
 conv=>cbv
 split
 rotate_left
 ·rename_i hc
  cases (eqF' hA (lenI hA (n:=5) rfl) rfl hc rfl)
 conv=>cbv
 refine idx_hd hA ?_
 conv=>cbv
 refine idx_hd hA ?_
 conv=>cbv
 split
 rotate_left
 ·rename_i hc
  cases (eqF hA hc rfl)
 conv=>cbv
 refine idx_hd hA ?_
 conv=>cbv
 split
 rotate_left
 ·rename_i hc
  cases (eqF hA hc rfl)
 conv=>cbv
 refine idx_hd hA ?_
 conv=>cbv
 split
 rotate_left
 ·rename_i hc
  cases (eqF' hA (lenI hA (n:=0) rfl) rfl hc rfl)
 conv=>cbv
 refine call_intro hA (c12) ?_
 conv=>cbv
 refine call_intro hA (c9) ?_
 conv=>cbv
 rw [←hq]
 exact congrArg PV.bool (show A.iEq (A.lLen L) 19=true by rw [hLl];subst hA;rfl)
end Go.Abs
namespace Go.Abs
open Go.RowKit Go.Proofs Go.ChangeShapes
def okCell (c:Cell):Prop:=True∧okI c.Index∧okI c.Minute∧True
theorem rdCell:Rd Tryz.prog 87 encCell okCell :=
 rd_struct Tryz.underlying87 (by kernel_rfl) (rdL_cons rdBool (rdL_cons rdInt (rdL_cons rdInt rdL_nil))) fun ⟨a,b,c,()⟩ h=>⟨⟨a,b,c⟩,h,rfl⟩
def okUse (u:Use):Prop:=okCell u.Cell∧okI u.Places∧True
theorem rdUse:Rd Tryz.prog 100 encUse okUse :=
 rd_struct Tryz.underlying100 (by kernel_rfl) (rdL_cons rdCell (rdL_cons rdInt rdL_nil)) fun ⟨a,b,()⟩ h=>⟨⟨a,b⟩,h,rfl⟩
def RdW {α:Type} (P:Program) (t:TypeId) (enc:α→PV) (ok:α→Prop):Prop :=
 ∀(H:Type) (en:TypeId × Value→H) (w:World) (sp:Nat→Bool) (held:Bool) (fuel:Nat) (cs:List Value) (x:DataW H × List MemPlace),
  DataW.trod en P w 0 sp held fuel t cs=some x→(∀n∈x.1.weights P t,n≤reachBytes)→∃a,ok a∧RVs (Old w) w (enc a).cells cs∧∀v∈cs,v.oneCell'=true
theorem rdW_of {α:Type} {P:Program} {t:TypeId} {enc:α→PV} {ok:α→Prop} (h:Rd P t enc ok):RdW P t enc ok:=fun H en w sp held fuel cs x hx _=>h H en w sp held fuel cs x hx
theorem weightsAll_mem {H:Type} {P:Program} {e:TypeId} {d:DataW H} {m:Nat}:∀{l:List (DataW H)},d∈l→m∈d.weights P e→m∈DataW.weightsAll P e l
 | x::r,h,hm=>by
  simp only [DataW.weightsAll,List.mem_append]
  rcases List.mem_cons.1 h with rfl | h
  ·exact .inl hm
  ·exact .inr (weightsAll_mem h hm)
section
variable {P:Program} {t e:TypeId}
theorem rdW_slice {α:Type} {enc:α→PV} {ok:α→Prop} {m:Nat} (ht:P.underlying t=some (.slice e)) (hm:P.cellsOf e=m) (hm0:0<m) (hr:RdW P e enc ok) :
  RdW P t (fun l:List α=>.list m (l.map enc)) fun l=>(∀x∈l,ok x)∧l.length*P.bytesOf e≤reachBytes:=by
 intro H en w sp held fuel cs x h hwt
 rcases DataW.trod_slice ht h with ⟨rfl,_⟩ | ⟨a,len,cap,elems,rest,n,_,rfl,hx,_,h1,h2,h3,h4,_⟩
 ·refine ⟨[],⟨by simp,by simp⟩,RVs.one ?_,by simp [Value.oneCell']⟩
  exact .list m [] none ⟨0,0,none⟩ 0 (fun _ _=>.int .i64 0) (by simp) (by simp) (by decide) (by simp) (by simp) (by simp) (fun _=>rfl)
 ·have hws:x.1.weights P t=(elems.length+rest.length)*P.bytesOf e::(DataW.weightsAll P e (elems.map (·.1))++DataW.weightsAll P e (rest.map (·.1))):=by
   rw [hx]
   simp only [DataW.weights,ht,List.length_map]
  have hw0:len*P.bytesOf e≤reachBytes:=by
   have h1:=hwt _ (by rw [hws];exact List.mem_cons_self)
   refine Nat.le_trans (Nat.mul_le_mul_right _ ?_) h1
   omega
  have hel:∀i,i<len→∃y:α × List Value,ok y.1∧RVs (Old w) w (enc y.1).cells y.2∧(∀v∈y.2,v.oneCell'=true)∧w.cells? 0 (a.add (i*P.cellsOf e)) (P.cellsOf e)=some y.2:=by
   intro i hi
   have h5:=h4 i hi
   rw [List.getElem?_eq_getElem (by omega),Option.bind_eq_some_iff] at h5
   obtain ⟨cs',h6,h7⟩:=h5
   obtain ⟨y,k1,k2,k3⟩:=hr H en w sp held n cs' _ h7 (fun m hm=>hwt m (by
    rw [hws]
    refine List.mem_cons_of_mem _ (List.mem_append_left _ (weightsAll_mem (List.mem_map_of_mem (List.getElem_mem (by omega))) hm))))
   exact ⟨(y,cs'),k1,k2,k3,h6⟩
  obtain ⟨l,hl,hq⟩:=pick_list len hel
  subst hm
  have hcell:∀(i:Nat) (y:α × List Value) (j:Nat) (c:PV),l[i]?=some y→(enc y.1).cells[j]?=some c→∃v,y.2[j]?=some v∧RV (Old w) w c v∧v.oneCell'=true∧w.cell? (a.add (i*P.cellsOf e+j))=some v:=by
   intro i y j c hy hc
   obtain ⟨q1,q2,q3,q4⟩:=hq i y hy
   obtain ⟨_,q5,q6⟩:=World.cells?_some q4
   have hj:j<y.2.length:=by rw [←q2.1];exact (List.getElem?_eq_some_iff.1 hc).1
   refine ⟨y.2[j],List.getElem?_eq_getElem hj,q2.2 j c _ hc (List.getElem?_eq_getElem hj),q3 _ (List.getElem_mem hj),?_⟩
   rw [←add_add,q6 j (by omega),List.getElem?_eq_getElem hj]
  have hget:∀(i:Nat) (p:PV),((l.map (·.1)).map enc)[i]?=some p→∃y,l[i]?=some y∧p=enc y.1:=by
   intro i p hp
   rw [List.map_map,List.getElem?_map,Option.map_eq_some_iff] at hp
   obtain ⟨y,hy,rfl⟩:=hp
   exact ⟨y,hy,rfl⟩
  refine ⟨l.map (·.1),⟨?_,by rw [List.length_map,hl];exact hw0⟩,RVs.one ?_,by simp [Value.oneCell']⟩
  ·intro y hy
   rw [List.mem_map] at hy
   obtain ⟨z,hz,rfl⟩:=hy
   obtain ⟨i,hi⟩:=List.getElem?_of_mem hz
   exact (hq i z hi).1
  ·have hlen:((l.map (·.1)).map enc).length=len:=by simp [hl]
   rw [←hlen]
   refine .list _ _ _ a cap (fun i j=>((l[i]?.map (·.2)).getD []).getD j (.int .i64 0)) (fun _=>rfl) (by omega) h2 ?_ ?_ ?_ (fun h=>absurd h (Nat.ne_of_gt hm0))
   ·intro i p hp
    obtain ⟨y,hy,rfl⟩:=hget i p hp
    obtain ⟨q1,q2,q3,q4⟩:=hq i y hy
    rw [q2.1]
    exact (World.cells?_some q4).2.1
   ·intro i p j c hp hc
    obtain ⟨y,hy,rfl⟩:=hget i p hp
    obtain ⟨v,v1,v2,v3,v4⟩:=hcell i y j c hy hc
    have e1:((l[i]?.map (·.2)).getD []).getD j (.int .i64 0)=v:=by rw [hy];simp [v1]
    rw [e1]
    refine ⟨?_,v4,v3⟩
    have:=World.block_lt_of_cell? w _ v4
    simpa [Old] using this
   ·intro i p j c hp hc
    obtain ⟨y,hy,rfl⟩:=hget i p hp
    obtain ⟨v,v1,v2,v3,v4⟩:=hcell i y j c hy hc
    have e1:((l[i]?.map (·.2)).getD []).getD j (.int .i64 0)=v:=by rw [hy];simp [v1]
    rw [e1]
    exact v2
theorem arg_sliceW {ts:Array TypeId} {vs:Array Value} {w:World} {r:Reach} {b0:Nat} {v:Value} {H:Type} {en:TypeId × Value→H} {sp:Nat→Bool} {held:Bool} {d:DataW H} {ps:List MemPlace} {α:Type} {enc:α→PV} {ok:α→Prop} (ht:P.underlying t=some (.slice e)) (hval:∀(j:Nat) t v,ts[j]?=some t→vs[j]?=some v→Value.okWide P w r b0 t v) (j:Nat) (h1t:ts[j]?=some t) (h1v:vs[j]?=some v) (hr:RdW P t enc ok) (h1:∀a,(enc a).cells=[enc a]) (h:DataW.Trod en P w 0 sp held t v d ps) (hwt:∀n∈d.weights P t,n≤reachBytes):∃a,ok a∧RV (Old w) w (enc a) v:=by
 obtain ⟨a,len,cap,rfl⟩:=WideShapes.okWide_slice ht (hval j _ _ h1t h1v)
 obtain ⟨fuel,hf⟩:=h
 obtain ⟨a,k1,k2,_⟩:=hr H en w sp held fuel _ _ hf hwt
 rw [show (Value.slice _ len cap).cells.toList=[Value.slice _ len cap] from rfl,h1] at k2
 exact ⟨a,k1,k2.of_one⟩
end
end Go.Abs
namespace Go.Abs
open Go.RowKit Go.Proofs Go.ChangeShapes
def RdLW {α:Type} (P:Program) (ts:List Field) (enc:α→List PV) (ok:α→Prop):Prop :=
 ∀(H:Type) (en:TypeId × Value→H) (w:World) (sp:Nat→Bool) (held:Bool) (n:Nat) (ps:List (List Value)) (ys:List (DataW H × List MemPlace)),ps.length=ts.length→ys.length=ts.length →
  (∀(i:Nat) (f:Field),ts[i]?=some f→∃p y,ps[i]?=some p∧ys[i]?=some y∧DataW.trod en P w 0 sp held n f.type p=some y) →
  (∀m∈DataW.weightsEach P (ts.map (·.type)) (ys.map (·.1)),m≤reachBytes) →
  ∃a,ok a∧RVs (Old w) w (enc a) ps.flatten∧∀v∈ps.flatten,v.oneCell'=true
theorem rdLW_nil {P:Program}:RdLW P [] (fun _:Unit=>[]) fun _=>True:=by
 intro H en w sp held n ps ys h1 _ _ _
 match ps,h1 with
 | [],_=>exact ⟨(),trivial,RVs.nil,by simp⟩
theorem rdLW_cons {P:Program} {A B:Type} {a:A→PV} {oka:A→Prop} {b:B→List PV} {okb:B→Prop} {f:Field} {r:List Field} (ra:RdW P f.type a oka) (rb:RdLW P r b okb) :
  RdLW P (f::r) (fun x:A × B=>(a x.1).cells++b x.2) fun x=>oka x.1∧okb x.2:=by
 intro H en w sp held n ps ys h1 h1' h2 hw
 match ps,h1,ys,h1' with
 | p::ps,h1,y::ys,h1' =>
  obtain ⟨p0,y0,e0,e1,t0⟩:=h2 0 f rfl
  simp at e0 e1
  subst e0 e1
  simp only [List.map_cons,DataW.weightsEach,List.mem_append] at hw
  obtain ⟨a0,o0,r0,s0⟩:=ra H en w sp held n _ _ t0 fun m hm=>hw m (.inl hm)
  obtain ⟨b0,o1,r1,s1⟩:=rb H en w sp held n ps ys (by simpa using h1) (by simpa using h1') (fun i g hg=>by simpa using h2 (i+1) g (by simpa using hg)) fun m hm=>hw m (.inr hm)
  refine ⟨(a0,b0),⟨o0,o1⟩,?_,?_⟩
  ·rw [List.flatten_cons];exact r0.append r1
  ·intro v hv
   rw [List.flatten_cons,List.mem_append] at hv
   rcases hv with hv | hv
   ·exact s0 v hv
   ·exact s1 v hv
theorem rdW_struct {P:Program} {t:TypeId} {α B:Type} {enc:α→PV} {ok:α→Prop} {b:B→List PV} {okb:B→Prop} {fs:Array Field} (ht:P.underlying t=some (.struct fs)) (hti:tight P 0 fs.toList (P.cellsOf t)=true)
  (rb:RdLW P fs.toList b okb) (mk:∀x,okb x→∃y,ok y∧(enc y).cells=b x):RdW P t enc ok:=by
 intro H en w sp held fuel cs x h hw
 obtain ⟨xs,n,_,hx,h1,h2,h3⟩:=DataW.trod_struct ht h
 obtain ⟨ps,k1,k2,k3⟩:=tight_pieces hti h1
 rw [hx] at hw
 simp only [DataW.weights,ht] at hw
 obtain ⟨z,j1,j2,j3⟩:=rb H en w sp held n ps xs k1 (by rw [h2];simp) (fun i f hf=>by
  have hi:i<fs.toList.length:=(List.getElem?_eq_some_iff.1 hf).1
  have hx:i<xs.length:=by rw [h2];simpa using hi
  refine ⟨_,xs[i],k3 i f hf,List.getElem?_eq_getElem hx,?_⟩
  rw [h3 i f (by simpa using hf),List.getElem?_eq_getElem hx]) hw
 obtain ⟨y,y1,y2⟩:=mk z j1
 rw [List.drop_zero] at k2
 subst k2
 exact ⟨y,y1,by rw [y2];exact j2,j3⟩
def okChoice (c:Choice):Prop:=okI c.Delay∧okI c.Cost∧okI c.Changes∧((∀x∈c.Uses,okUse x)∧c.Uses.length*Program.bytesOf Tryz.prog 100≤reachBytes)∧True
theorem rdUsesW:RdW Tryz.prog 81 (fun l=>.list 4 (encUses l)) fun l=>(∀x∈l,okUse x)∧l.length*Program.bytesOf Tryz.prog 100≤reachBytes :=
 rdW_slice Tryz.underlying81 (by kernel_rfl) (by decide) (rdW_of rdUse)
theorem rdChoice:RdW Tryz.prog 83 encChoice okChoice :=
 rdW_struct Tryz.underlying83 (by kernel_rfl) (rdLW_cons (rdW_of rdInt) (rdLW_cons (rdW_of rdInt) (rdLW_cons (rdW_of rdInt) (rdLW_cons rdUsesW rdLW_nil)))) fun ⟨a,b,c,d,()⟩ h=>⟨⟨a,b,c,d⟩,h,rfl⟩
theorem rdChoices:RdW Tryz.prog 74 (fun l=>.list 4 (encChoices l)) fun l=>(∀x∈l,okChoice x)∧l.length*Program.bytesOf Tryz.prog 83≤reachBytes :=
 rdW_slice Tryz.underlying74 (by kernel_rfl) (by decide) rdChoice
def okVari (v:Vari):Prop:=okI v.Flight∧okI v.Node∧okIs v.Leaves∧((∀x∈v.Choices,okChoice x)∧v.Choices.length*Program.bytesOf Tryz.prog 83≤reachBytes)∧True
theorem rdVari:RdW Tryz.prog 109 encVar okVari :=
 rdW_struct Tryz.underlying109 (by kernel_rfl) (rdLW_cons (rdW_of rdInt) (rdLW_cons (rdW_of rdInt) (rdLW_cons (rdW_of rdInts) (rdLW_cons rdChoices rdLW_nil)))) fun ⟨a,b,c,d,()⟩ h=>⟨⟨a,b,c,d⟩,h,rfl⟩
theorem rdVarsW:RdW Tryz.prog 102 (fun l=>.list 4 (encVars l)) fun l=>(∀x∈l,okVari x)∧l.length*Program.bytesOf Tryz.prog 109≤reachBytes :=
 rdW_slice Tryz.underlying102 (by kernel_rfl) (by decide) rdVari
def okVarsW (l:List Vari):Prop:=(∀x∈l,okVari x)∧l.length*Program.bytesOf Tryz.prog 109≤reachBytes
theorem varsW_len {l:List Vari} (h:okVarsW l):∀x∈l,∀y∈x.Choices,y.Uses.length≤8796093022208:=fun x hx y hy=>by
 have h1:=((h.1 x hx).2.2.2.1.1 y hy).2.2.2.1.2
 rw [show Program.bytesOf Tryz.prog 100=32 by kernel_rfl] at h1
 unfold reachBytes at h1
 omega
end Go.Abs
namespace Go.Abs
open Go.RowKit Go.Proofs

/-- The cells of met: the first k of L as after the cell d, the rest as before it. -/
def metC (L seen : List Cell) (d : List Cell) (k : Nat) : List SV := (L.take k).map (fun c => SV.val (.bool (decide (c ∈ seen ++ d)))) ++ (L.drop k).map fun c => SV.val (.bool (decide (c ∈ seen)))
theorem metC_len (L seen d : List Cell) (k : Nat) : (metC L seen d k).length = L.length := by
  unfold metC
  rw [List.length_append, List.length_map, List.length_map, List.length_take, List.length_drop]
  omega
theorem metC_nil (L seen : List Cell) (k : Nat) : metC L seen [] k = L.map fun c => SV.val (.bool (decide (c ∈ seen))) := by
  unfold metC
  rw [List.append_nil, ← List.map_append, List.take_append_drop]
theorem metC_zero (L seen d : List Cell) : metC L seen d 0 = L.map fun c => SV.val (.bool (decide (c ∈ seen))) := by
  simp [metC]
theorem metC_all (L seen d : List Cell) (k : Nat) (h : L.length ≤ k) : metC L seen d k = L.map fun c => SV.val (.bool (decide (c ∈ seen ++ d))) := by
  unfold metC
  rw [List.take_of_length_le h, List.drop_eq_nil_of_le h]; simp
theorem metC_next {L seen : List Cell} {d x : Cell} {k : Nat} (hk : L[k]? = some x) (he : x ≠ d) : metC L seen [d] (k + 1) = metC L seen [d] k := by
  unfold metC
  obtain ⟨h1, h2⟩ := List.getElem?_eq_some_iff.1 hk
  rw [List.take_add_one, hk, ← List.getElem_cons_drop h1, h2]
  simp [he]
theorem metC_set {L seen : List Cell} {x : Cell} {k : Nat} (hk : L[k]? = some x) : metC L seen [x] (k + 1) = (metC L seen [x] k).set k (.val (.bool true)) := by
  unfold metC
  obtain ⟨h1, h2⟩ := List.getElem?_eq_some_iff.1 hk
  rw [List.take_add_one, hk, ← List.getElem_cons_drop h1, h2, List.set_append_right _ _ (by simp; omega)]
  have : k - ((L.take k).map (fun c => SV.val (.bool (decide (c ∈ seen ++ [x]))))).length = 0 := by simp; omega
  rw [this]
  simp
theorem metC_rep (n : Nat) (L : List Cell) (h : L.length = n) : ((List.replicate n [PV.bool false]).flatten).map SV.val = L.map fun c => SV.val (.bool (decide (c ∈ ([] : List Cell)))) := by
  subst h
  induction L with
  | nil => rfl
  | cons a r ih => simp [List.replicate_succ] at ih ⊢; exact ih
theorem set_keep {B B2 : List (Option (List SV))} {x : Option (List SV)} {y : Option (List SV)} {n : Nat} (hB : B2 = B ++ [y]) (h : B[0]? = some x) (hn : n = B.length) : B2[0]? = some x := by
  rw [hB, List.getElem?_append_left (by have := (List.getElem?_eq_some_iff.1 h).1; omega)]; exact h

theorem le_sum52 {l : List Nat} {n : Nat} (h : n ∈ l) : n ≤ l.sum := by
  induction l with
  | nil => cases h
  | cons a r ih =>
    rw [List.sum_cons]
    rcases List.mem_cons.1 h with h | h
    · omega
    · have := ih h; omega
def cloC52 (n : Nat) : Bool := n == 10000000
set_option maxRecDepth 10000 in
set_option maxHeartbeats 8000000 in
theorem law_StagesCells (v : List Vari) (k0 : okVarsW v) :
    CallsPV Tryz.prog 8 [.list 4 (encVars v)] (.bool true) := by
  obtain ⟨xs, hxs⟩ : ∃ xs, xs = encVars v := ⟨_, rfl⟩
  rw [← hxs]
  have hfew := ref21_FewUses v (varsW_len k0) hxs
  have hcel := fun h => stages_Cells v hxs h
  have hxl : xs.length = v.length := by rw [hxs]; simp [encVars]
  have hs21 : few21 v = true → sum21 v < 200 := fun h => by unfold few21 at h; exact of_decide_eq_true h
  have hb1 : v.length ≤ sum21 v := by
    unfold sum21
    clear hs21 hcel hfew hxs k0 hxl
    induction v with
    | nil => simp
    | cons a r ih => simp at ih ⊢; omega
  have hb2 : (cellsV v).length ≤ sum21 v := by
    unfold sum21 cellsV
    clear hs21 hcel hfew hxs k0 hb1 hxl
    have h2 : ∀ l : List Choice, (cellsH l).length ≤ sum21c l := fun l => by
      unfold cellsH sum21c
      induction l with
      | nil => simp
      | cons a r ih => simp [cellsU] at ih ⊢; omega
    induction v with
    | nil => simp
    | cons a r ih =>
      have := h2 a.Choices
      simp at ih ⊢; omega
  have hb3 : ∀ x ∈ v, x.Choices.length ≤ sum21 v ∧ ∀ y ∈ x.Choices, y.Uses.length ≤ sum21 v := fun x hx => by
    have h1 : sum21c x.Choices ≤ sum21 v := by
      unfold sum21
      have := le_sum52 (List.mem_map_of_mem (f := fun x : Vari => 1 + sum21c x.Choices) hx)
      omega
    refine ⟨Nat.le_trans ?_ h1, fun y hy => Nat.le_trans ?_ h1⟩
    · unfold sum21c
      generalize x.Choices = l
      induction l with
      | nil => simp
      | cons a r ih => simp at ih ⊢; omega
    · unfold sum21c
      have := le_sum52 (List.mem_map_of_mem (f := fun y : Choice => 1 + y.Uses.length) hy)
      omega
  generalize few21 v = fb at hfew hs21
  refine callsPV_by (clo := cloC52) (rows := true) env_ok Tryz.func8 rfl (enters_of Tryz.func8 (by kernel_rfl) rfl) (fun A q P Y hr hA hq => ?_)
  refine seq_stop (fun R hR => ?_)
  conv => cbv
  refine hR _ ?_
  clear hR
  refine seq_stop (fun R hR => ?_)
  conv => cbv
  refine call_intro hA (law21_sane) ?_
  conv => cbv
  split
  · rename_i hc
    cases ((show False by have h9 : true = false := notT hA hc; cases h9))
  conv => cbv
  refine hR _ ?_
  clear hR
  refine seq_stop (fun R hR => ?_)
  conv => cbv
  refine call_intro hA (hfew) ?_
  conv => cbv
  split
  · conv => cbv
    refine ⟨_, Frz.refl _ _, ?_⟩
    conv => cbv
    exact hq
  rename_i hc
  have g := hs21 (notF hA hc)
  have hcel := hcel (by omega) (by omega) (fun x hx => by have := (hb3 x hx).1; omega) (fun x hx y hy => by have := (hb3 x hx).2 y hy; omega)
  have hml := uniqC_len (cellsV v)
  have hm : ∀ c, c ∈ sortC (uniqC (cellsV v)) ↔ c ∈ cellsV v := fun c => by rw [(sortC_perm _).mem_iff, uniqC_mem]
  have hlt := sortC_lt (uniqC_nodup (cellsV v))
  have hLl := (sortC_perm (uniqC (cellsV v))).length_eq
  conv => cbv
  refine hR _ ?_
  clear hR hfew
  generalize sortC (uniqC (cellsV v)) = L at hcel hm hlt hLl
  obtain ⟨ls, hls⟩ : ∃ ls, ls = encCells L := ⟨_, rfl⟩
  rw [← hls] at hcel
  have hll : ls.length = L.length := by rw [hls]; simp [encCells]
  have hlln : A.lLen ls = (L.length : Int) := lenI hA hll
  refine seq_stop (fun R hR => ?_)
  conv => cbv
  refine call_intro hA (hcel) ?_
  conv => cbv
  refine hR _ ?_
  clear hR hcel
  have hmk : A.mks (A.lLen ls) (A.lLen ls) 1 := by
    rw [hlln]; subst hA
    show (0 : Int) ≤ _ ∧ _
    omega
  have hrow : A.rowZ (A.lLen ls) [.bool false] = L.map fun c => SV.val (.bool (decide (c ∈ ([] : List Cell)))) := by
    rw [hlln, ← metC_rep _ L rfl]; subst hA; rfl
  refine seq_stop (fun R hR => ?_)
  conv => cbv
  refine ⟨hmk, ?_⟩
  have hLn1 : A.nNat (A.lLen ls) = L.length := by rw [hlln]; subst hA; rfl
  conv at hrow => lhs; cbv
  conv at hLn1 => lhs; cbv
  obtain ⟨C0, hC0⟩ : ∃ C0, C0 = L.map fun c => SV.val (.bool (decide (c ∈ ([] : List Cell)))) := ⟨_, rfl⟩
  obtain ⟨Ln, hLn⟩ : ∃ Ln, Ln = L.length := ⟨_, rfl⟩
  rw [← hC0] at hrow
  rw [← hLn] at hLn1
  rw [hrow, hLn1]
  refine hR _ ?_
  clear hR hmk hrow
  have hLz : A.iNat L.length = (L.length : Int) := by subst hA; rfl
  refine seq_stop (fun R hR => ?_)
  refine seq_stop (fun R0 hR0 => ?_)
  conv => cbv
  refine hR0 _ ?_
  clear hR0
  refine loop_set hA (fun (i : Int) s => s.put (some 28) (.val (.int .i64 i))) (fun i => 0 ≤ i ∧ i ≤ L.length) (fun i => (L.length - i).toNat) 0 ?_ ?_ ?_
  · conv => cbv
    exact wk_sl (by repeat (first | refine leL_same ?_ | refine leL_any ?_ | exact leL_nil))
  · exact ⟨Int.le_refl _, by omega⟩
  rintro R1 i ⟨hi0, hi1⟩ hR1
  conv => cbv
  split
  · rename_i hc
    have hi : i < L.length := ltT' hA rfl hlln hc
    have his : A.iAdd i 1 = i + 1 := addI hA _ _
    have hir : A.inR (A.iAdd i 1) := inR' hA his (by unfold inI64; omega)
    have hfin : ∀ s', Wk (0, 0) s' _ → R1 s' := fun s' hw => hR1 (A.iAdd i 1) s' hw ⟨by show 0 ≤ A.iAdd i 1; omega, by show A.iAdd i 1 ≤ _; omega⟩ (by show (L.length - A.iAdd i 1).toNat < _; rw [his]; omega)
    conv => cbv
    refine ⟨draw_intro hA (by kernel_rfl), ?_⟩
    split
    · rename_i hc
      have hip := ltT hA hc
      have hsb : A.iSub i 1 = i - 1 := subI hA _ _
      conv => cbv
      refine ⟨inR' hA hsb (by unfold inI64; omega), ?_⟩
      refine idx_Cell hA hls (n := A.iSub i 1) (by rw [hsb]; omega) (by rw [hsb]; omega) (fun x hx => ?_)
      rw [hsb] at hx
      conv => cbv
      refine idx_Cell hA hls hi0 hi (fun y hy => ?_)
      have hxy : cellLt x y := by
        obtain ⟨a1, a2⟩ := List.getElem?_eq_some_iff.1 hx
        obtain ⟨b1, b2⟩ := List.getElem?_eq_some_iff.1 hy
        have := List.pairwise_iff_getElem.1 hlt (i - 1).toNat i.toNat a1 b1 (by omega)
        rw [a2, b2] at this
        exact this
      have hcm := (cmpC_neg x y).2 hxy
      have hcp := dm_Compare x y
      generalize cmpC x y = n at hcm hcp
      conv => cbv
      refine call_intro hA (hcp) ?_
      conv => cbv
      split
      · rename_i hc
        cases ((show False by have := leT hA hc; omega))
      conv => cbv
      refine ⟨hir, hfin _ ?_⟩
      conv => cbv
      exact wk_sl (by repeat (first | refine leL_same ?_ | refine leL_any ?_ | exact leL_nil))
    · rename_i hc
      conv => cbv
      refine ⟨hir, hfin _ ?_⟩
      conv => cbv
      exact wk_sl (by repeat (first | refine leL_same ?_ | refine leL_any ?_ | exact leL_nil))
  rename_i hc
  conv => cbv
  refine hR _ ?_
  clear hR hR1
  refine seq_stop (fun R hR => ?_)
  refine seq_stop (fun R0 hR0 => ?_)
  conv => cbv
  refine hR0 _ ?_
  clear hR0
  refine loop_set hA (fun (z : Int × List (Option (List SV))) s => { s.put (some 49) (.val (.int .i64 z.1)) with bx := z.2 })
    (fun z => 0 ≤ z.1 ∧ z.1 ≤ v.length ∧ z.2[0]? = some (some (L.map fun c => SV.val (.bool (decide (c ∈ cellsV (v.take z.1.toNat))))))) (fun z => (v.length - z.1).toNat) (0, [some C0]) ?_ ?_ ?_
  · conv => cbv
    exact wk_sl (by repeat (first | refine leL_same ?_ | refine leL_any ?_ | exact leL_nil))
  · exact ⟨Int.le_refl _, by omega, by rw [hC0]; rfl⟩
  rintro R1 ⟨i, B⟩ ⟨hi0, hi1, hJ⟩ hR1
  simp only at hi0 hi1 hJ
  refine seq_stop (fun R2 hR2 => ?_)
  conv => cbv
  refine hR2 _ ?_
  clear hR2
  refine seq_stop (fun R2 hR2 => ?_)
  conv => cbv
  split
  rotate_left
  · rename_i hc
    have hge := ltF' hA rfl (lenI hA hxl) hc
    rw [List.take_of_length_le (by omega)] at hJ
    conv => cbv
    refine hR _ ?_
    clear hR hR1 hR2
    refine seq_stop (fun R hR => ?_)
    refine seq_stop (fun R0 hR0 => ?_)
    conv => cbv
    refine hR0 _ ?_
    clear hR0
    refine loop_set hA (fun (i : Int) s => s.put (some 90) (.val (.int .i64 i))) (fun i => 0 ≤ i ∧ i ≤ L.length) (fun i => (L.length - i).toNat) 0 ?_ ?_ ?_
    · conv => cbv
      exact wk_sl (by repeat (first | refine leL_same ?_ | refine leL_any ?_ | exact leL_nil))
    · exact ⟨Int.le_refl _, by omega⟩
    rintro R1 j ⟨hj0, hj1⟩ hR1
    conv => cbv
    split
    · rename_i hc
      have hj : j < L.length := ltT' hA rfl (by rw [hLn]; exact hLz) hc
      have hjs : A.iAdd j 1 = j + 1 := addI hA _ _
      have hjr : A.inR (A.iAdd j 1) := inR' hA hjs (by unfold inI64; omega)
      have hjn : A.nNat j = j.toNat := by subst hA; rfl
      have hwi : A.within j (A.iNat Ln) := by rw [hLn, hLz]; subst hA; exact ⟨hj0, hj⟩
      obtain ⟨c, hc0⟩ : ∃ c, L[j.toNat]? = some c := ⟨_, List.getElem?_eq_getElem (show j.toNat < L.length by omega)⟩
      have hcm := (hm c).1 (List.mem_of_getElem? hc0)
      conv => cbv
      refine ⟨hwi, ?_⟩
      conv => cbv
      refine rld_cell hA (C := L.map fun c => SV.val (.bool (decide (c ∈ cellsV v)))) (c := .val (.bool true)) (by rw [List.getD_eq_getElem?_getD]; show (B[0]?).getD none = _; rw [hJ]; rfl) rfl rfl ?_ ?_
      · show (L.map fun c => SV.val (.bool (decide (c ∈ cellsV v))))[0 + A.nNat j * 1 + 0]? = _
        rw [hjn, show 0 + j.toNat * 1 + 0 = j.toNat by omega, List.getElem?_map, hc0]
        simp [hcm]
      conv => cbv
      split
      · rename_i hc
        cases ((show False by have h9 : true = false := notT hA hc; cases h9))
      conv => cbv
      refine ⟨hjr, hR1 (A.iAdd j 1) _ ?_ ⟨by show 0 ≤ A.iAdd j 1; omega, by show A.iAdd j 1 ≤ _; omega⟩ (by show (L.length - A.iAdd j 1).toNat < _; rw [hjs]; omega)⟩
      conv => cbv
      exact wk_sl (by repeat (first | refine leL_same ?_ | refine leL_any ?_ | exact leL_nil))
    · rename_i hc
      conv => cbv
      refine hR _ ?_
      conv => cbv
      refine ⟨_, Frz.refl _ _, ?_⟩
      conv => cbv
      exact hq
  rename_i hc
  have hi : i < v.length := ltT' hA rfl (lenI hA hxl) hc
  have his : A.iAdd i 1 = i + 1 := addI hA _ _
  have hir : A.inR (A.iAdd i 1) := inR' hA his (by unfold inI64; omega)
  obtain ⟨x, hx0⟩ : ∃ x, v[i.toNat]? = some x := ⟨_, List.getElem?_eq_getElem (show i.toNat < v.length by omega)⟩
  have hxm := List.mem_of_getElem? hx0
  have hlx := (hb3 x hxm).1
  have hnxt : cellsV (v.take (i + 1).toNat) = cellsV (v.take i.toNat) ++ cellsH x.Choices := by
    rw [show (i + 1).toNat = i.toNat + 1 by omega, List.take_add_one, hx0]
    unfold cellsV
    rw [List.flatMap_append]
    simp
  have hsub1 : ∀ y ∈ x.Choices, ∀ u ∈ y.Uses, u.Cell ∈ L := fun y hy u hu => (hm _).2 (List.mem_flatMap.2 ⟨x, hxm, List.mem_flatMap.2 ⟨y, hy, List.mem_map_of_mem hu⟩⟩)
  generalize hp1 : cellsV (v.take i.toNat) = pre1 at hJ hnxt
  refine hR2 _ ?_
  clear hR2
  refine seq_stop (fun R2 hR2 => ?_)
  refine block_seq (fun R3 hR3 => ?_)
  conv => cbv
  refine idx_Var hA hxs hi0 hi (fun x' lv chs hx' hlv hch => ?_)
  obtain rfl := Option.some.inj (hx0.symm.trans hx')
  clear hx'
  have hchl : chs.length = x.Choices.length := by rw [hch]; simp [encChoices]
  conv => cbv
  refine alc_at hA (z := [.int .i64 0, .int .i64 0, .list 0 [], .list 0 []]) rfl rfl (by decide) (fun n1 B1 hn1 hB1 => ?_)
  have hn1 : n1 = B.length := hn1
  have hB1 : B1 = B ++ [some [.val (.int .i64 0), .val (.int .i64 0), .lit 0 [], .lit 0 []]] := hB1
  conv => cbv
  refine rstA_at hA (cs := [.val (.int .i64 0), .val (.int .i64 0), .lit 0 [], .lit 0 []]) (by rw [hB1]; exact box_get hn1) rfl rfl rfl (Nat.le_refl 4) (fun B2 hB2 => ?_)
  have hB2 : B2 = B ++ [some [.val (.int .i64 x.Flight), .val (.int .i64 x.Node), .val (.list 1 lv), .val (.list 4 chs)]] := by
    rw [hB2, hB1]; exact box_set hn1
  have hB2g : B2[n1]? = some (some [.val (.int .i64 x.Flight), .val (.int .i64 x.Node), .val (.list 1 lv), .val (.list 4 chs)]) := by rw [hB2]; exact box_get hn1
  have hJ := set_keep hB2 hJ hn1
  clear hB1 hB2
  conv => cbv
  refine hR3 _ ?_
  clear hR3
  refine seq_stop (fun R3 hR3 => ?_)
  conv => cbv
  refine rld_at hA (cs := [.val (.int .i64 x.Flight), .val (.int .i64 x.Node), .val (.list 1 lv), .val (.list 4 chs)]) (c := .val (.list 4 chs)) hB2g rfl rfl rfl ?_
  conv => cbv
  refine hR3 _ ?_
  clear hR3 hB2g hx0 hlv
  refine loop_set hA (fun (z : Int × List (Option (List SV))) s => { s.put (some 56) (.val (.int .i64 z.1)) with bx := z.2 })
    (fun z => 0 ≤ z.1 ∧ z.1 ≤ x.Choices.length ∧ z.2[0]? = some (some (L.map fun c => SV.val (.bool (decide (c ∈ pre1 ++ cellsH (x.Choices.take z.1.toNat))))))) (fun z => (x.Choices.length - z.1).toNat) (0, B2) ?_ ?_ ?_
  · conv => cbv
    exact wk_sl (by repeat (first | refine leL_same ?_ | refine leL_any ?_ | exact leL_nil))
  · exact ⟨Int.le_refl _, by omega, by simpa [cellsH] using hJ⟩
  rintro R4 ⟨j, B3⟩ ⟨hj0, hj1, hJ2⟩ hR4
  simp only at hj0 hj1 hJ2
  refine seq_stop (fun R3 hR3 => ?_)
  conv => cbv
  refine hR3 _ ?_
  clear hR3
  refine seq_stop (fun R3 hR3 => ?_)
  conv => cbv
  split
  rotate_left
  · rename_i hc
    have hge := ltF' hA rfl (lenI hA hchl) hc
    rw [List.take_of_length_le (by omega), ← hnxt] at hJ2
    conv => cbv
    refine hR2 _ ?_
    clear hR2 hR3 hR4
    conv => cbv
    refine ⟨hir, hR1 (A.iAdd i 1, B3) _ ?_ ⟨by show 0 ≤ A.iAdd i 1; omega, by show A.iAdd i 1 ≤ _; omega, by rw [his]; exact hJ2⟩ (by show (v.length - A.iAdd i 1).toNat < _; rw [his]; omega)⟩
    conv => cbv
    exact wk_sl (by repeat (first | refine leL_same ?_ | refine leL_any ?_ | exact leL_nil))
  rename_i hc
  have hj : j < x.Choices.length := ltT' hA rfl (lenI hA hchl) hc
  have hjs : A.iAdd j 1 = j + 1 := addI hA _ _
  have hjr : A.inR (A.iAdd j 1) := inR' hA hjs (by unfold inI64; omega)
  obtain ⟨y, hy0⟩ : ∃ y, x.Choices[j.toNat]? = some y := ⟨_, List.getElem?_eq_getElem (show j.toNat < x.Choices.length by omega)⟩
  have hym := List.mem_of_getElem? hy0
  have hly := (hb3 x hxm).2 y hym
  have hsub2 := hsub1 y hym
  have hnxt2 : pre1 ++ cellsH (x.Choices.take (j + 1).toNat) = pre1 ++ cellsH (x.Choices.take j.toNat) ++ cellsU y.Uses := by
    rw [show (j + 1).toNat = j.toNat + 1 by omega, List.take_add_one, hy0]
    unfold cellsH
    rw [List.flatMap_append, List.append_assoc]
    simp
  generalize hp2 : pre1 ++ cellsH (x.Choices.take j.toNat) = pre2 at hJ2 hnxt2
  refine hR3 _ ?_
  clear hR3
  refine seq_stop (fun R3 hR3 => ?_)
  refine block_seq (fun R5 hR5 => ?_)
  conv => cbv
  refine idx_Choice hA hch hj0 hj (fun y' us hy' hus => ?_)
  obtain rfl := Option.some.inj (hy0.symm.trans hy')
  clear hy'
  have husl : us.length = y.Uses.length := by rw [hus]; simp [encUses]
  conv => cbv
  refine alc_at hA (z := [.int .i64 0, .int .i64 0, .int .i64 0, .list 0 []]) rfl rfl (by decide) (fun n2 B4 hn2 hB4 => ?_)
  have hn2 : n2 = B3.length := hn2
  have hB4 : B4 = B3 ++ [some [.val (.int .i64 0), .val (.int .i64 0), .val (.int .i64 0), .lit 0 []]] := hB4
  conv => cbv
  refine rstA_at hA (cs := [.val (.int .i64 0), .val (.int .i64 0), .val (.int .i64 0), .lit 0 []]) (by rw [hB4]; exact box_get hn2) rfl rfl rfl (Nat.le_refl 4) (fun B5 hB5 => ?_)
  have hB5 : B5 = B3 ++ [some [.val (.int .i64 y.Delay), .val (.int .i64 y.Cost), .val (.int .i64 y.Changes), .val (.list 4 us)]] := by
    rw [hB5, hB4]; exact box_set hn2
  have hB5g : B5[n2]? = some (some [.val (.int .i64 y.Delay), .val (.int .i64 y.Cost), .val (.int .i64 y.Changes), .val (.list 4 us)]) := by rw [hB5]; exact box_get hn2
  have hJ2 := set_keep hB5 hJ2 hn2
  clear hB4 hB5
  conv => cbv
  refine hR5 _ ?_
  clear hR5
  refine seq_stop (fun R5 hR5 => ?_)
  conv => cbv
  refine rld_at hA (cs := [.val (.int .i64 y.Delay), .val (.int .i64 y.Cost), .val (.int .i64 y.Changes), .val (.list 4 us)]) (c := .val (.list 4 us)) hB5g rfl rfl rfl ?_
  conv => cbv
  refine hR5 _ ?_
  clear hR5 hB5g hy0
  refine loop_set hA (fun (z : Int × List (Option (List SV))) s => { s.put (some 63) (.val (.int .i64 z.1)) with bx := z.2 })
    (fun z => 0 ≤ z.1 ∧ z.1 ≤ y.Uses.length ∧ z.2[0]? = some (some (L.map fun c => SV.val (.bool (decide (c ∈ pre2 ++ cellsU (y.Uses.take z.1.toNat))))))) (fun z => (y.Uses.length - z.1).toNat) (0, B5) ?_ ?_ ?_
  · conv => cbv
    exact wk_sl (by repeat (first | refine leL_same ?_ | refine leL_any ?_ | exact leL_nil))
  · exact ⟨Int.le_refl _, by omega, by simpa [cellsU] using hJ2⟩
  rintro R6 ⟨k, B6⟩ ⟨hk0, hk1, hJ3⟩ hR6
  simp only at hk0 hk1 hJ3
  refine seq_stop (fun R5 hR5 => ?_)
  conv => cbv
  refine hR5 _ ?_
  clear hR5
  refine seq_stop (fun R5 hR5 => ?_)
  conv => cbv
  split
  rotate_left
  · rename_i hc
    have hge := ltF' hA rfl (lenI hA husl) hc
    rw [List.take_of_length_le (by omega), ← hnxt2] at hJ3
    conv => cbv
    refine hR3 _ ?_
    clear hR2 hR3 hR5 hR6
    conv => cbv
    refine ⟨hjr, hR4 (A.iAdd j 1, B6) _ ?_ ⟨by show 0 ≤ A.iAdd j 1; omega, by show A.iAdd j 1 ≤ _; omega, by rw [hjs]; exact hJ3⟩ (by show (x.Choices.length - A.iAdd j 1).toNat < _; rw [hjs]; omega)⟩
    conv => cbv
    exact wk_sl (by repeat (first | refine leL_same ?_ | refine leL_any ?_ | exact leL_nil))
  rename_i hc
  have hk : k < y.Uses.length := ltT' hA rfl (lenI hA husl) hc
  have hks : A.iAdd k 1 = k + 1 := addI hA _ _
  have hkr : A.inR (A.iAdd k 1) := inR' hA hks (by unfold inI64; omega)
  have hmu : (y.Uses.length - A.iAdd k 1).toNat < (y.Uses.length - k).toNat := by rw [hks]; omega
  obtain ⟨u, hu0⟩ : ∃ u, y.Uses[k.toNat]? = some u := ⟨_, List.getElem?_eq_getElem (show k.toNat < y.Uses.length by omega)⟩
  have huL := hsub2 u (List.mem_of_getElem? hu0)
  have hnxt3 : pre2 ++ cellsU (y.Uses.take (k + 1).toNat) = pre2 ++ cellsU (y.Uses.take k.toNat) ++ [u.Cell] := by
    rw [show (k + 1).toNat = k.toNat + 1 by omega, List.take_add_one, hu0]
    unfold cellsU
    simp
  generalize pre2 ++ cellsU (y.Uses.take k.toNat) = pre3 at hJ3 hnxt3
  refine hR5 _ ?_
  clear hR5
  refine seq_stop (fun R5 hR5 => ?_)
  refine block_seq (fun R7 hR7 => ?_)
  conv => cbv
  refine idx_Use hA hus hk0 hk (fun u' hu' => ?_)
  obtain rfl := Option.some.inj (hu0.symm.trans hu')
  clear hu'
  obtain ⟨⟨u1, u2, u3⟩, u4⟩ := u
  conv => cbv
  refine alc_at hA (z := [.bool false, .int .i64 0, .int .i64 0, .int .i64 0]) rfl rfl (by decide) (fun n3 B7 hn3 hB7 => ?_)
  have hn3 : n3 = B6.length := hn3
  have hB7 : B7 = B6 ++ [some [.val (.bool false), .val (.int .i64 0), .val (.int .i64 0), .val (.int .i64 0)]] := hB7
  conv => cbv
  refine rstA_at hA (cs := [.val (.bool false), .val (.int .i64 0), .val (.int .i64 0), .val (.int .i64 0)]) (by rw [hB7]; exact box_get hn3) rfl rfl rfl (Nat.le_refl 4) (fun B8 hB8 => ?_)
  have hB8 : B8 = B6 ++ [some [.val (.bool u1), .val (.int .i64 u2), .val (.int .i64 u3), .val (.int .i64 u4)]] := by
    rw [hB8, hB7]; exact box_set hn3
  have hB8g : B8[n3]? = some (some [.val (.bool u1), .val (.int .i64 u2), .val (.int .i64 u3), .val (.int .i64 u4)]) := by rw [hB8]; exact box_get hn3
  have hn30 : n3 ≠ 0 := by have := (List.getElem?_eq_some_iff.1 hJ3).1; omega
  have hJ3 := set_keep hB8 hJ3 hn3
  clear hB7 hB8
  simp only at huL hnxt3
  conv => cbv
  refine hR7 _ ?_
  clear hR7
  refine seq_stop (fun R7 hR7 => ?_)
  conv => cbv
  refine hR7 _ ?_
  clear hR7
  refine seq_stop (fun R7 hR7 => ?_)
  refine seq_stop (fun R8 hR8 => ?_)
  conv => cbv
  refine hR8 _ ?_
  clear hR8
  refine loop_set hA (fun (z : Int × Bool × List (Option (List SV))) s => { (s.put (some 69) (.val (.int .i64 z.1))).put (some 12) (.val (.bool z.2.1)) with bx := z.2.2 })
    (fun z => 0 ≤ z.1 ∧ z.1 ≤ L.length ∧ z.2.1 = decide ((⟨u1, u2, u3⟩ : Cell) ∈ L.take z.1.toNat) ∧ z.2.2[n3]? = some (some [.val (.bool u1), .val (.int .i64 u2), .val (.int .i64 u3), .val (.int .i64 u4)]) ∧ z.2.2[0]? = some (some (metC L pre3 [⟨u1, u2, u3⟩] z.1.toNat))) (fun z => (L.length - z.1).toNat) (0, false, B8) ?_ ?_ ?_
  · conv => cbv
    exact wk_sl (by repeat (first | refine leL_same ?_ | refine leL_any ?_ | exact leL_nil))
  · exact ⟨Int.le_refl _, by omega, by simp, hB8g, by simpa [metC_zero] using hJ3⟩
  rintro R9 ⟨m, b, B9⟩ ⟨hm0, hm1, hb, hB9g, hJ4⟩ hR9
  simp only at hm0 hm1 hb hB9g hJ4
  refine seq_stop (fun R8 hR8 => ?_)
  conv => cbv
  refine hR8 _ ?_
  clear hR8
  refine seq_stop (fun R8 hR8 => ?_)
  conv => cbv
  split
  rotate_left
  · rename_i hc
    have hge := ltF' hA rfl hlln hc
    rw [metC_all _ _ _ _ (by omega), ← hnxt3] at hJ4
    rw [List.take_of_length_le (by omega), decide_eq_true huL] at hb
    conv => cbv
    refine hR7 _ ?_
    clear hR7 hR8 hR9
    conv => cbv
    split
    · rename_i hc
      cases ((show False by have h9 : b = false := notT hA hc; rw [hb] at h9; cases h9))
    conv => cbv
    refine hR5 _ ?_
    conv => cbv
    refine ⟨hkr, hR6 (A.iAdd k 1, B9) _ ?_ ⟨by show 0 ≤ A.iAdd k 1; omega, by show A.iAdd k 1 ≤ _; omega, by rw [hks]; exact hJ4⟩ hmu⟩
    conv => cbv
    exact wk_sl (by repeat (first | refine leL_same ?_ | refine leL_any ?_ | exact leL_nil))
  rename_i hc
  have hmL : m < L.length := ltT' hA rfl hlln hc
  have hms : A.iAdd m 1 = m + 1 := addI hA _ _
  have hmr : A.inR (A.iAdd m 1) := inR' hA hms (by unfold inI64; omega)
  have hmn : A.nNat m = m.toNat := by subst hA; rfl
  have hmn1 : (A.iAdd m 1).toNat = m.toNat + 1 := by omega
  have hmm : (L.length - A.iAdd m 1).toNat < (L.length - m).toNat := by rw [hms]; omega
  have hwi : A.within m (A.iNat Ln) := by rw [hLn, hLz]; subst hA; exact ⟨hm0, hmL⟩
  have hzl : m.toNat < L.length := by omega
  have hldc : ∀ (K : SV → St → Prop) (st : St), st.bx = B9 → K (.val (.agg [.bool u1, .int .i64 u2, .int .i64 u3])) st → A.rld 87 (.box n3 0) st K := fun K st hst h => rldA_at hA (cs := [.val (.bool u1), .val (.int .i64 u2), .val (.int .i64 u3), .val (.int .i64 u4)]) (l := [.bool u1, .int .i64 u2, .int .i64 u3]) (by rw [hst]; exact hB9g) rfl rfl (by show 0 + 3 ≤ 4; omega) h
  have hbn : ∀ z, L[m.toNat]? = some z → decide ((⟨u1, u2, u3⟩ : Cell) ∈ L.take (A.iAdd m 1).toNat) = (decide ((⟨u1, u2, u3⟩ : Cell) ∈ L.take m.toNat) || decide (z = ⟨u1, u2, u3⟩)) := fun z hz0 => by
    rw [hmn1, List.take_add_one, hz0, Bool.eq_iff_iff]
    simp only [Option.toList_some, Bool.or_eq_true, decide_eq_true_eq, List.mem_append, List.mem_singleton]
    constructor
    · rintro (h | h)
      · exact .inl h
      · exact .inr h.symm
    · rintro (h | h)
      · exact .inl h
      · exact .inr h.symm
  refine hR8 _ ?_
  clear hR8
  refine seq_stop (fun R8 hR8 => ?_)
  refine block_seq (fun R10 hR10 => ?_)
  conv => cbv
  refine hR10 _ ?_
  clear hR10
  refine seq_stop (fun R10 hR10 => ?_)
  conv => cbv
  refine ⟨draw_intro hA (by kernel_rfl), ?_⟩
  refine idx_Cell hA hls hm0 hmL (fun z hz0 => ?_)
  have hbn := hbn z hz0
  conv => cbv
  refine hldc _ _ rfl ?_
  conv => cbv
  refine hR10 _ ?_
  clear hR10
  conv => cbv
  split
  · rename_i hc
    have he : z = ⟨u1, u2, u3⟩ := by
      subst hA
      simp [stdOps] at hc
      obtain ⟨e1, e2, e3⟩ := hc
      cases z
      simp only at e1 e2 e3
      rw [e1, e2, e3]
    rw [he] at hz0
    rw [he, decide_eq_true rfl, Bool.or_true] at hbn
    have hset := metC_set (seen := pre3) hz0
    have hlm := metC_len L pre3 [⟨u1, u2, u3⟩] m.toNat
    conv => cbv
    refine ⟨hwi, ?_⟩
    conv => cbv
    refine rst_cellB hA (t := 4) (v := .val (.bool true)) (C := metC L pre3 [⟨u1, u2, u3⟩] m.toNat) ?_ rfl rfl rfl ?_ (fun B10 hB10 => ?_)
    · exact hJ4
    · rw [hlm]
      show 0 + A.nNat m * 1 + 0 < _
      rw [hmn]; omega
    have hB10 : B10 = B9.set 0 (some ((metC L pre3 [⟨u1, u2, u3⟩] m.toNat).set (0 + A.nNat m * 1 + 0) (.val (.bool true)))) := hB10
    rw [hmn, show 0 + m.toNat * 1 + 0 = m.toNat by omega, ← hset, ← hmn1] at hB10
    have h1 : B10[n3]? = some (some [.val (.bool u1), .val (.int .i64 u2), .val (.int .i64 u3), .val (.int .i64 u4)]) := by rw [hB10, List.getElem?_set_ne (fun h => hn30 h.symm)]; exact hB9g
    have h2 : B10[0]? = some (some (metC L pre3 [⟨u1, u2, u3⟩] (A.iAdd m 1).toNat)) := by rw [hB10]; exact List.getElem?_set_self (List.getElem?_eq_some_iff.1 hJ4).1
    conv => cbv
    refine hR8 _ ?_
    conv => cbv
    refine ⟨hmr, hR9 (A.iAdd m 1, true, B10) _ ?_ ⟨by show 0 ≤ A.iAdd m 1; omega, by show A.iAdd m 1 ≤ _; omega, hbn.symm, h1, h2⟩ hmm⟩
    conv => cbv
    exact wk_sl (by repeat (first | refine leL_same ?_ | refine leL_any ?_ | exact leL_nil))
  · rename_i hc
    have he : z ≠ ⟨u1, u2, u3⟩ := fun h => by
      subst h
      subst hA
      simp [stdOps] at hc
    rw [decide_eq_false he, Bool.or_false, ← hb] at hbn
    have h2 : B9[0]? = some (some (metC L pre3 [⟨u1, u2, u3⟩] (A.iAdd m 1).toNat)) := by rw [hmn1, metC_next hz0 he]; exact hJ4
    conv => cbv
    refine hR8 _ ?_
    conv => cbv
    refine ⟨hmr, hR9 (A.iAdd m 1, b, B9) _ ?_ ⟨by show 0 ≤ A.iAdd m 1; omega, by show A.iAdd m 1 ≤ _; omega, hbn.symm, hB9g, h2⟩ hmm⟩
    conv => cbv
    exact wk_sl (by repeat (first | refine leL_same ?_ | refine leL_any ?_ | exact leL_nil))
end Go.Abs

namespace Go.Proofs.YtcafjndjnfdnpaaGreat
open Go.ChangeShapes Go.WideShapes Go.ChangeAt Go.RowKit Go.Abs

namespace StagesCellsP
theorem own : ownKnob Tryz.prog.godebug = none := by kernel_rfl
theorem laid : laidOutB Tryz.prog = true := by kernel_rfl

set_option maxRecDepth 100000 in
theorem contract (H : Type) (enc : TypeId × Value → H) (W : World) (base : Nat) (args : Array Value) (ds gs : List (DataW H)) (before : List MemPlace)
    (hval : ∀ (j : Nat) t v, Tryz.f8.params[j]? = some t → args[j]? = some v → Value.okWide Tryz.prog W .any base t v)
    (hW : DataW.Whole enc Tryz.prog Tryz.f8.params.toList Rows.stagesCellsSpec.vars false W args.toList ds gs before)
    (hs : (DataW.weightsEach Tryz.prog (Tryz.f8.params.toList ++ Rows.stagesCellsSpec.plain.varTypes Tryz.prog) (ds ++ gs)).all (· ≤ reachBytes) = true) :
    Calls Tryz.prog 8 args W fun e W' => ∃ v, e = .returned v ∧ Rows.stagesCellsSpec.post enc Tryz.prog Tryz.f8 false true false false W args v W' := by
  have hW0 := hW
  obtain ⟨p, q, hA, _⟩ := hW
  rw [Tryz.params8] at hA hval hs
  obtain ⟨v0, vs0, d0, ds0, p0, q0, e0, rfl, rfl, h0, hA⟩ := trodAll_cons hA
  obtain ⟨rfl, rfl, rfl⟩ := trodAll_nil hA
  obtain rfl : args = #[v0] := by cases args; simp_all
  simp only [List.cons_append, List.nil_append, DataW.weightsEach, List.all_append, Bool.and_eq_true] at hs
  obtain ⟨a0, k0, r0⟩ := arg_sliceW Tryz.underlying102 hval 0 rfl rfl rdVarsW (fun _ => rfl) h0 (fun n hn => of_decide_eq_true (List.all_eq_true.1 hs.1 n hn))
  exact law_contract laid (by rw [Tryz.params8]; decide +kernel) rfl
    (fun ds h => by rw [Tryz.params8] at h; match ds, h with | [_], _ => rfl) rfl Tryz.underlying4 hW0 (law_StagesCells a0 k0)
    (.cons r0 .nil)

set_option maxRecDepth 100000 in
theorem lifted (os : Os) (started : os.Started) (H : Type) (enc : TypeId × Value → H) :
    ReturnsInHanded {} Tryz.checked os 8 .any (Rows.stagesCellsSpec.pre6 enc Tryz.prog Tryz.f8 Rows.stagesCellsRow.domain false) (Rows.stagesCellsSpec.post enc Tryz.prog Tryz.f8 false true false false) := by
  refine returnsInHanded_of_change_sized (C := Tryz.checked) own started (by kernel_rfl) Tryz.func8
    (ChangeSpec.witness6 (enc := enc) (C := Tryz.checked) false ⟨#[], #[.slice none 0 0], []⟩ 8 (by kernel_rfl) (by kernel_rfl) (by kernel_rfl) (by kernel_rfl)) ?_
  intro W base args ds gs before hval hW _ hs _
  exact contract H enc W base args ds gs before hval hW hs
end StagesCellsP

theorem and_tt {a b : Bool} (ha : a = true) (hb : b = true) : (a && b) = true := by rw [ha, hb]; rfl

set_option maxHeartbeats 4000000 in
theorem closed_stagesCells : joinedFacts Tryz.prog 8 Tryz.f8 Rows.stagesCellsSpec Rows.stagesCellsRow = true := by
  unfold joinedFacts
  repeat' (with_reducible apply and_tt)
  all_goals (as_aux_lemma => kernel_rfl)

theorem stagesCells_holds : Rows.StagesCellsSaid :=
  OpenClaim.holds_of_wide 8 Tryz.f8 rfl rfl rfl rfl rfl rfl rfl ⟨rfl, rfl, rfl, rfl, rfl⟩ rfl rfl rfl rfl rfl (by kernel_rfl) Tryz.func8 closed_stagesCells
    (of_decide_eq_true (by kernel_rfl)) (by unfold Func.isWrapper; first | (rw [if_pos (by decide +kernel)]; kernel_rfl) | (rw [if_neg (by decide +kernel)]; exact ⟨rfl, rfl⟩))
    (fun os started H enc _ => StagesCellsP.lifted os started H enc)
end Go.Proofs.YtcafjndjnfdnpaaGreat
