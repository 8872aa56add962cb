/- Contracts of the functions, and what they rest on: part 1. -/
import Derived.CallsIn
import Derived.Below
import Derived.Maps.AppendAt
import Derived.Maps.Own
import Derived.OrdersIn
import Derived.RangeFuncSeq
import Derived.Laws.StructEq
import Derived.Laws.MakeOwn
import Derived.Maps.RangeRun
import Derived.Maps.Keyed
import Derived.Carry
import Derived.Lib.SliceRun
import Derived.Sort.LoopGhostIn
import Derived.RangeFuncNested
import Derived.RangeFuncLeaves
import Derived.Scope
import Derived.Test.YtcafjndjnfdnpaaGreatProg
import Derived.KernelRfl
import Derived.Sort.OwnSortedInts
import Derived.Shelf.Abstract
import Derived.Shelf.Small.Strs
import Derived.Shelf.SortM.Plain
import Derived.Shelf.Slices.CompactI
import Derived.ChangeSame
import Derived.OpenShut
import Derived.ProofKit
import Derived.Shelf.SlSortCmp.NoneTotal
import Derived.Shelf.Slices.Clone
set_option linter.unusedVariables false
set_option linter.unusedSimpArgs false

/-
 Abstract values and the abstract walk of Go code: what a slot holds is told as a plain tree;how a tree is read off memory (RV,RSV).
-/
namespace Go.Abs
open Go.RowKit
structure Below (B:Nat) (w w':World):Prop where
 os:w'.os=w.os
 tape:w'.tape=w.tape
 output:w'.output=w.output
 size:w.heap.size≤w'.heap.size
 block:∀k,k<B→w'.heap[k]?=w.heap[k]?
 more:w.drawn≤w'.drawn
theorem Below.kit {B:Nat} {w w':World} (h:Below B w w'):Go.RowKit.Below B w w':=⟨h.os,h.tape,h.output,h.size,h.block⟩
theorem Below.of {B:Nat} {w w':World} (h:Go.RowKit.Below B w w') (hm:w.drawn≤w'.drawn):Below B w w':=⟨h.os,h.tape,h.output,h.size,h.block,hm⟩
theorem Below.refl (B:Nat) (w:World):Below B w w:=⟨rfl,rfl,rfl,Nat.le_refl _,fun _ _=>rfl,Nat.le_refl _⟩
theorem Below.trans {B:Nat} {a b c:World} (h:Below B a b) (k:Below B b c):Below B a c:=.of (h.kit.trans k.kit) (Nat.le_trans h.more k.more)
theorem Below.mono {B B':Nat} {w w':World} (h:Below B w w') (hB:B'≤B):Below B' w w':=.of (h.kit.mono hB) h.more
theorem Below.drew {B:Nat} {a w:World} (h:Below B a w):Below B a w.drew:=.of h.kit.drew (Nat.le_trans h.more (Nat.le_succ _))
theorem Below.heap_alloc (w:World) (o:Obj) (k:Nat) (h:k<w.heap.size):(w.alloc o).heap[k]?=w.heap[k]?:=Go.RowKit.Below.heap_alloc w o k h
theorem Below.alloc {B:Nat} {a w:World} (h:Below B a w) (hB:B≤w.heap.size) (o:Obj):Below B a (w.alloc o):=.of (h.kit.alloc hB o) h.more
theorem Below.grown {B:Nat} {a w w':World} {row:Option Nat} (h:Below B a w) (hg:w.grownBy w' row) (hm:w.drawn≤w'.drawn) (hB:B≤w.heap.size) (hr:∀k,row=some k→B≤k):Below B a w':=.of (h.kit.grown hg hB hr) (Nat.le_trans h.more hm)
theorem Below.frame {W w':World} (h:Below W.heap.size W w') (may:MemPlace→Prop):W.keptBut w' may:=h.kit.frame may
theorem Below.same {W w':World} (h:Below W.heap.size W w') {p:MemPlace} (hp:p.block<W.heap.size):W.sameAt w' p:=h.kit.same hp
inductive PV where
 | any
 | int (k:IntKind) (n:Int)
 | bool (b:Bool)
 | str (s:ByteArray)
 | agg (cs:List PV)
 | tup (vs:List PV)
 | list (m:Nat) (xs:List PV)
 | ptr (cs:List PV) (off:Nat)
 | fn (f:FuncId) (caps:List PV)
 /-- the function that a loop over a function hands on -/
 | yld (l:Nat)
 /-- one cell,whatever it holds -/
 | ref
 /-- a map that nobody writes any more: its keys,and the elements at them;in which order they lie is not said -/
 | map (ks vs:List PV)
instance:Inhabited PV:=⟨.any⟩
def PV.cells:PV→List PV
 | .agg cs=>cs
 | x=>[x]
def PV.flat1:PV→Bool
 | .int _ _ | .bool _ | .str _=>true
 | _=>false
def PV.flat:PV→Bool
 | .agg cs=>cs.all PV.flat1
 | p=>p.flat1
def PV.toVal1:PV→Value
 | .int k n=>.int k n
 | .bool b=>.bool b
 | .str s=>.string s
 | _=>undef
def PV.toVal:PV→Value
 | .agg cs=>.agg (cs.map PV.toVal1).toArray
 | p=>p.toVal1
structure Ents (es:List (PV × PV)) (arr:Array MapEntry) (clock:Nat):Prop where
 len:es.length=arr.size
 key:∀(i:Nat) (p:PV × PV) (x:MapEntry),es[i]?=some p→arr[i]?=some x→p.1.flat=true∧x.key=p.1.toVal
 born:∀x∈arr.toList,x.born<clock
 nodB:(arr.toList.map (·.born)).Nodup
 nodK:(es.map (·.1)).Nodup
def Still (w w':World) (a:Addr):Prop:=w'.cell? a=w.cell? a∧∀(es:Array MapEntry) (c:Nat),w.heap[a.block]?=some (.map es c)→w'.heap[a.block]?=some (.map es c)
theorem Still.refl (w:World) (a:Addr):Still w w a:=⟨rfl,fun _ _ h=>h⟩
theorem Still.trans {w w' w'':World} {a:Addr} (k:Still w' w'' a) (h:Still w w' a):Still w w'' a:=⟨k.1.trans h.1,fun es c e=>k.2 es c (h.2 es c e)⟩
theorem Still.of_block {w w':World} {a:Addr} (h:w'.heap[a.block]?=w.heap[a.block]?):Still w w' a:=⟨World.cell?_of_block h,fun _ _ e=>h.trans e⟩
theorem Still.of_cells {w w':World} {a:Addr} {arr:Array Value} {t:TypeId} {m:Nat × Nat} (hc:w'.cell? a=w.cell? a) (h:w.heap[a.block]?=some (.cells arr t m)):Still w w' a:=⟨hc,fun es c e=>by rw [h] at e;cases e⟩
inductive RV (S:Addr→Prop) (w:World):PV→Value→Prop
 | any (v:Value):RV S w .any v
 | int (k:IntKind) (n:Int):RV S w (.int k n) (.int k n)
 | bool (b:Bool):RV S w (.bool b) (.bool b)
 | str (s:ByteArray):RV S w (.str s) (.string s)
 | agg (cs:List PV) (vs:List Value) (hl:cs.length=vs.length)
   (h:∀(i:Nat) (c:PV) (v:Value),cs[i]?=some c→vs[i]?=some v→RV S w c v):RV S w (.agg cs) (.agg vs.toArray)
 | tup (cs:List PV) (vs:List Value) (hl:cs.length=vs.length)
   (h:∀(i:Nat) (c:PV) (v:Value),cs[i]?=some c→vs[i]?=some v→RV S w c v):RV S w (.tup cs) (.tuple vs.toArray)
 | list (m:Nat) (xs:List PV) (a:Option Addr) (ad:Addr) (cap:Nat) (g:Nat→Nat→Value)
   (ha:xs≠[]→a=some ad) (hcap:xs.length≤cap) (hmax:cap≤maxLen)
   (hm:∀(i:Nat) (x:PV),xs[i]?=some x→x.cells.length=m)
   (hc:∀(i:Nat) (x:PV) (j:Nat) (c:PV),xs[i]?=some x→x.cells[j]?=some c →
    S (ad.add (i*m+j))∧w.cell? (ad.add (i*m+j))=some (g i j)∧(g i j).oneCell'=true)
   (hr:∀(i:Nat) (x:PV) (j:Nat) (c:PV),xs[i]?=some x→x.cells[j]?=some c→RV S w c (g i j))
   (hz:m=0→cap=0) :
   RV S w (.list m xs) (.slice a xs.length cap)
 | ptr (cs:List PV) (off:Nat) (ad:Addr) (g:Nat→Value)
   (hc:∀(j:Nat) (c:PV),cs[j]?=some c→S (ad.add j)∧w.cell? (ad.add j)=some (g j)∧(g j).oneCell'=true)
   (hr:∀(j:Nat) (c:PV),cs[j]?=some c→RV S w c (g j)):RV S w (.ptr cs off) (.pointer (some (ad.add off)))
 | fn (f:FuncId) (caps:List PV) (vs:List Value) (hl:caps.length=vs.length)
   (h:∀(i:Nat) (c:PV) (v:Value),caps[i]?=some c→vs[i]?=some v→RV S w c v):RV S w (.fn f caps) (.func (.func f) #[] vs.toArray)
 | yld (l:Nat):RV S w (.yld l) (.func (.yield l) #[] #[])
 | ref (v:Value) (h:v.oneCell'=true):RV S w .ref v
 | mapNil:RV S w (.map [] []) (.map none)
 | map (ks vs:List PV) (es:List (PV × PV)) (b:Nat) (arr:Array MapEntry) (clock:Nat) (hp:es.Perm (ks.zip vs)) (hl:ks.length=vs.length) (hS:S ⟨b,0,none⟩) (hb:w.heap[b]?=some (.map arr clock)) (he:Ents es arr clock)
   (hv:∀(i:Nat) (p:PV × PV) (x:MapEntry),es[i]?=some p→arr[i]?=some x→RV S w p.2 x.val):RV S w (.map ks vs) (.map (some b))
theorem RV.mono {S S':Addr→Prop} {w w':World} (hS:∀a,S a→S' a) (hw:∀a,S a→Still w w' a) {p:PV} {v:Value} (h:RV S w p v):RV S' w' p v:=by
 induction h with
 | any v=>exact .any v
 | int k n=>exact .int k n
 | bool b=>exact .bool b
 | str s=>exact .str s
 | agg cs vs hl _ ih=>exact .agg cs vs hl ih
 | tup cs vs hl _ ih=>exact .tup cs vs hl ih
 | list m xs a ad cap g ha hcap hmax hm hc _ hz ih =>
  exact .list m xs a ad cap g ha hcap hmax hm (fun i x j c h1 h2=>let ⟨a1,a2,a3⟩:=hc i x j c h1 h2;⟨hS _ a1,(hw _ a1).1.trans a2,a3⟩) ih hz
 | ptr cs off ad g hc _ ih =>
  exact .ptr cs off ad g (fun j c h1=>let ⟨a1,a2,a3⟩:=hc j c h1;⟨hS _ a1,(hw _ a1).1.trans a2,a3⟩) ih
 | fn f caps vs hl _ ih=>exact .fn f caps vs hl ih
 | yld l=>exact .yld l
 | ref v h=>exact .ref v h
 | mapNil=>exact .mapNil
 | map ks vs es b arr clock hp hl h1 h2 he _ ih=>exact .map ks vs es b arr clock hp hl (hS _ h1) ((hw _ h1).2 _ _ h2) he ih
def RVs (S:Addr→Prop) (w:World) (ps:List PV) (vs:List Value):Prop :=
 ps.length=vs.length∧∀(i:Nat) (p:PV) (v:Value),ps[i]?=some p→vs[i]?=some v→RV S w p v
theorem RVs.mono {S S':Addr→Prop} {w w':World} (hS:∀a,S a→S' a) (hw:∀a,S a→Still w w' a) {ps:List PV} {vs:List Value} (h:RVs S w ps vs):RVs S' w' ps vs :=
 ⟨h.1,fun i p v h1 h2=>(h.2 i p v h1 h2).mono hS hw⟩
theorem RVs.nil {S:Addr→Prop} {w:World}:RVs S w [] []:=⟨rfl,fun i p v h=>by simp at h⟩
theorem RVs.cons {S:Addr→Prop} {w:World} {p:PV} {v:Value} {ps:List PV} {vs:List Value} (h:RV S w p v) (hs:RVs S w ps vs):RVs S w (p::ps) (v::vs) :=
 ⟨by simp [hs.1],fun i q u h1 h2=>by
  cases i with
  | zero=>simp at h1 h2;subst h1;subst h2;exact h
  | succ i=>exact hs.2 i q u (by simpa using h1) (by simpa using h2)⟩
theorem RVs.append {S:Addr→Prop} {w:World} {ps qs:List PV} {vs us:List Value} (h:RVs S w ps vs) (h':RVs S w qs us):RVs S w (ps++qs) (vs++us) :=
 ⟨by simp [h.1,h'.1],fun i q u h1 h2=>by
  by_cases hi:i<ps.length
  ·rw [List.getElem?_append_left hi] at h1
   rw [List.getElem?_append_left (by rw [←h.1];exact hi)] at h2
   exact h.2 i q u h1 h2
  ·rw [List.getElem?_append_right (by omega)] at h1
   rw [List.getElem?_append_right (by rw [←h.1];omega),←h.1] at h2
   exact h'.2 _ q u h1 h2⟩
theorem RV.agg_iff {S:Addr→Prop} {w:World} {cs:List PV} {v:Value} (h:RV S w (.agg cs) v):∃vs:List Value,v=.agg vs.toArray∧RVs S w cs vs:=by
 cases h with
 | agg _ vs hl h=>exact ⟨vs,rfl,hl,h⟩
theorem RV.tup_iff {S:Addr→Prop} {w:World} {cs:List PV} {v:Value} (h:RV S w (.tup cs) v):∃vs:List Value,v=.tuple vs.toArray∧RVs S w cs vs:=by
 cases h with
 | tup _ vs hl h=>exact ⟨vs,rfl,hl,h⟩
def Snew (S:Addr→Prop) (w w':World):Addr→Prop:=fun a=>S a∨(w.heap.size≤a.block∧a.block<w'.heap.size)
def Enters (P:Program) (f:FuncId):Prop:=∀(args:Array Value) (w:World),(callFunc f args).run P w=.ok (.enter f args) w
def CallsPV (P:Program) (f:FuncId) (args:List PV) (r:PV):Prop :=
 Enters P f∧∀(S:Addr→Prop) (w:World) (vs:List Value),(∀a,S a→a.block<w.heap.size)→RVs S w args vs →
  Calls P f vs.toArray w fun e w'=>∃v,e=.returned v∧Below w.heap.size w w'∧RV (Snew S w w') w' r v
/-! ### Types,as the walk wants them -/
inductive TK where
 | int (k:IntKind) | bool | str | slice (e:TypeId) | struct (fs:List (Nat × TypeId)) | array (n:Nat) (e:TypeId) | ptr (e:TypeId) | map (k e:TypeId) | func | other
inductive SK where
 | int | bool | str
structure TD where
 k:TK
 size:Nat
 bytes:Nat
 agg:Bool
 eq:Option (List SK)
 zero:List PV
instance:Inhabited TD:=⟨⟨.other,0,0,false,none,[]⟩⟩
structure Keeps (F:Nat→Prop) (S S':Addr→Prop) (w w':World):Prop where
 calm:Below 0 w w'
 same:∀b,F b→w'.heap[b]?=w.heap[b]?
 sub:∀a,S a→S' a
 cell:∀a,S a→Still w w' a
 new:∀a,S' a→S a∨¬F a.block
 slt:∀a,S' a→a.block<w'.heap.size
def nxOf (an:Bool) (ys:List (List PV)) (k:Nat) (ps:List PV) (k':Nat):Prop :=
 match an with
 | true=>k<2 ^ ys.length∧∃i,ys[i]?=some ps∧k.testBit i=false∧k'=k ||| 2 ^ i
 | false=>ys[k]?=some ps∧k'=k+1
def finOf (an:Bool) (ys:List (List PV)) (k:Nat):Prop:=match an with | true=>k+1=2 ^ ys.length | false=>k=ys.length
def outOf (an:Bool) (ys:List (List PV)):Nat:=match an with | true=>2 ^ ys.length | false=>ys.length+1
theorem nxOf_lt {an:Bool} {ys:List (List PV)} {k k':Nat} {ps:List PV} (h:nxOf an ys k ps k') (hk:k<outOf an ys):k'<outOf an ys:=by
 cases an with
 | true =>
  obtain ⟨_,i,h1,_,rfl⟩:=h
  exact Nat.or_lt_two_pow hk (Nat.pow_lt_pow_right (by omega) (List.getElem?_eq_some_iff.1 h1).1)
 | false =>
  obtain ⟨h1,rfl⟩:=h
  have:=(List.getElem?_eq_some_iff.1 h1).1
  show k+1<ys.length+1
  omega
theorem nxOf_mem {an:Bool} {ys:List (List PV)} {k k':Nat} {ps:List PV} (h:nxOf an ys k ps k'):ps∈ys:=by
 cases an with
 | true=>obtain ⟨_,i,h1,_⟩:=h;exact List.mem_of_getElem? h1
 | false=>exact List.mem_of_getElem? h.1
theorem nxOf_src {an:Bool} {ys:List (List PV)} {k k':Nat} {ps:List PV} (h:nxOf an ys k ps k'):k<outOf an ys:=by
 cases an with
 | true=>exact h.1
 | false =>
  have:=(List.getElem?_eq_some_iff.1 h.1).1
  show k<ys.length+1
  omega
theorem out_pos (an:Bool) (ys:List (List PV)):0<outOf an ys:=by
 cases an with
 | true=>exact Nat.pow_pos (by omega)
 | false=>exact Nat.succ_pos _
structure YS where
 l:Nat
 ys:List (List PV)
 any:Bool
 J:Nat→(Nat→Prop)→(Addr→Prop)→World→Prop
 ok:∀(k:Nat) (F:Nat→Prop) (S S':Addr→Prop) (w w':World),J k F S w→Keeps F S S' w w'→J k F S' w'
def YS.none:YS:=⟨0,[],false,fun _ _ _ _=>True,fun _ _ _ _ _ _ h _=>h⟩
instance:Inhabited YS:=⟨.none⟩
structure Env where
 P:Program
 T:TypeId→TD
 /-- the closures that share the activation's variables -/
 clo:FuncId→Bool
 /-- whether a slice that is made is written to -/
 rows:Bool
 /-- the loop over a function whose function is walked -/
 Y:YS
/-! ### Slots -/
inductive Cap where
 | pv (p:PV)
 | box (id off:Nat)
inductive SV where
 | undef
 | val (p:PV)
 /-- a slice without spare room -/
 | lit (m:Nat) (xs:List PV)
 /-- a slice that the activation may append to: token t -/
 | own (t:Nat) (m:Nat) (xs:List PV)
 /-- a pointer to a variable of the activation's own -/
 | box (id off:Nat)
 /-- a slice over a variable of the activation's own -/
 | msl (id off len:Nat)
 /-- a closure that shares variables of the activation's own -/
 | clo (f:FuncId) (caps:List Cap)
 /-- a pointer into element i (of m cells each) of a row of the activation's own -/
 | rbx (id off i m k:Nat)
 /-- a map of the activation's own -/
 | mp (id:Nat)
 /-- a slice over a row of the activation's own,from cell off on,elements of m cells -/
 | row (id off m len cap:Nat)
 /-- an iterator over a map -/
 | it (id:Nat)
 /-- several results,the first of them a map of the activation's own -/
 | mtup (id:Nat) (ps:List PV)
instance:Inhabited SV:=⟨.undef⟩
def SV.pv:SV→Option PV
 | .val p=>some p
 | .lit m xs=>some (.list m xs)
 | .own _ m xs=>some (.list m xs)
 | .mp _=>some .ref
 | _=>none
inductive MapC where
 /-- keys of type k,elements of the plain type e,at most n entries -/
 | plain (k e:TypeId) (n:Nat)
 /-- its entries,in whatever order;the entry that bears a stamp -/
 | ents (es:List (PV × PV)) (mk:Option (PV × Int))
 /-- an iterator: over which map of the activation's own;or,over one that nobody writes any more,its entries;the keys that are still to come;the key that came last -/
 | iter (src:Option Nat) (es:List (PV × PV)) (left:List PV) (cur:Option PV)
 /-- one that has been given away -/
 | gone
structure Ax where
 mp:List MapC
 yk:Nat
structure St where
 sl:List SV
 bx:List (Option (List SV))
 tk:List (Nat × TypeId)
 ax:Ax
structure Gh where
 bx:List Nat
 tk:List Value
 mp:List Nat
 fp:Nat→Prop
def Foot (G:Gh) (b:Nat):Prop :=
 (∃i:Nat,G.bx[i]?=some b)∨(∃t n cap:Nat,G.tk[t]?=some (.slice (some ⟨b,0,none⟩) n cap)∧n<cap)∨(∃i:Nat,G.mp[i]?=some b)∨G.fp b
def RCap (G:Gh) (S:Addr→Prop) (w:World):Cap→Value→Prop
 | .pv p,v=>RV S w p v
 | .box id off,v=>∃b,G.bx[id]?=some b∧v=.pointer (some ⟨b,off,none⟩)
def RSV (tk:List (Nat × TypeId)) (G:Gh) (S:Addr→Prop) (w:World):SV→Value→Prop
 | .undef,v=>v=Go.undef
 | .val p,v=>RV S w p v
 | .lit m xs,v=>RV S w (.list m xs) v∧∃a,v=.slice a xs.length xs.length
 | .own t m xs,v=>RV S w (.list m xs) v∧∃hv le,G.tk[t]?=some hv∧tk[t]?=some le∧xs.length≤le.1∧(xs.length=le.1→v=hv)
 | .box id off,v=>∃b,G.bx[id]?=some b∧v=.pointer (some ⟨b,off,none⟩)
 | .msl id off len,v=>∃b cap,G.bx[id]?=some b∧v=.slice (some ⟨b,off,none⟩) len cap∧len≤cap∧cap≤maxLen
 | .clo f caps,v=>∃vs:List Value,v=.func (.func f) #[] vs.toArray∧caps.length=vs.length∧∀(i:Nat) (c:Cap) (u:Value),caps[i]?=some c→vs[i]?=some u→RCap G S w c u
 | .rbx id off i m k,v=>∃b,G.bx[id]?=some b∧v=.pointer (some ⟨b,off+i*m+k,none⟩)
 | .mp id,v=>∃b,G.mp[id]?=some b∧v=.map (some b)
 | .row id off _ len cap,v=>∃b,G.bx[id]?=some b∧v=.slice (some ⟨b,off,none⟩) len cap∧len≤cap∧cap≤maxLen
 | .it id,v=>∃b,G.mp[id]?=some b∧v=.pointer (some ⟨b,0,none⟩)
 | .mtup id ps,v=>∃(b:Nat) (vs:List Value),G.mp[id]?=some b∧v=.tuple (.map (some b)::vs).toArray∧RVs S w ps vs
def SV.norm:SV→SV
 | .rbx id off i m k=>.box id (off+i*m+k)
 | s=>s
theorem RSV.norm {tk:List (Nat × TypeId)} {G:Gh} {S:Addr→Prop} {w:World} {s:SV} {v:Value} (h:RSV tk G S w s v):RSV tk G S w s.norm v:=by
 cases s<;>exact h
def SV.litz:SV→SV
 | .val (.list 0 [])=>.lit 0 []
 | s=>s
theorem RSV.litz {tk:List (Nat × TypeId)} {G:Gh} {S:Addr→Prop} {w:World} {s:SV} {v:Value} (h:RSV tk G S w s v):RSV tk G S w s.litz v:=by
 unfold SV.litz
 split
 ·have h':RV S w (.list 0 []) v:=h
  cases h' with
  | list _ _ a ad cap g ha hcap hmax hm hc hr hz =>
   obtain rfl:=hz rfl
   exact ⟨h,a,rfl⟩
 ·exact h
def SV.litE:SV→SV
 | .lit _ []=>.lit 0 []
 | s=>s
structure Ext (tk:List (Nat × TypeId)) (G:Gh) (S:Addr→Prop) (w:World) (tk':List (Nat × TypeId)) (G':Gh) (S':Addr→Prop) (w':World):Prop where
 bx:∀(i b:Nat),G.bx[i]?=some b→G'.bx[i]?=some b
 tk:∀(t:Nat) (hv:Value) (le:Nat × TypeId),G.tk[t]?=some hv→tk[t]?=some le →
  ∃hv' le',G'.tk[t]?=some hv'∧tk'[t]?=some le'∧((le'=le∧hv'=hv)∨le.1<le'.1)
 sub:∀a,S a→S' a
 cell:∀a,S a→Still w w' a
 mp:∀(i b:Nat),G.mp[i]?=some b→G'.mp[i]?=some b
 calm:Below 0 w w'
 same:∀b,b<w.heap.size→¬Foot G b→w'.heap[b]?=w.heap[b]?
 foot:∀b,b<w.heap.size→Foot G' b→Foot G b
 new:∀a,S' a→S a∨Foot G a.block∨w.heap.size≤a.block
theorem Ext.refl (tk:List (Nat × TypeId)) (G:Gh) (S:Addr→Prop) (w:World):Ext tk G S w tk G S w :=
 ⟨fun _ _ h=>h,fun _ hv le h1 h2=>⟨hv,le,h1,h2,.inl ⟨rfl,rfl⟩⟩,fun _ h=>h,fun _ _=>Still.refl _ _,fun _ _ h=>h,Below.refl _ _,fun _ _ _=>rfl,fun _ _ h=>h,fun _ h=>.inl h⟩
theorem Ext.trans {tk tk' tk'':List (Nat × TypeId)} {G G' G'':Gh} {S S' S'':Addr→Prop} {w w' w'':World} (h:Ext tk G S w tk' G' S' w') (k:Ext tk' G' S' w' tk'' G'' S'' w'') :
  Ext tk G S w tk'' G'' S'' w'':=by
 refine ⟨fun i b hb=>k.bx _ _ (h.bx _ _ hb),fun t hv le h1 h2=>?_,fun a ha=>k.sub _ (h.sub _ ha),fun a ha=>(k.cell _ (h.sub _ ha)).trans (h.cell _ ha),fun i b hb=>k.mp _ _ (h.mp _ _ hb),h.calm.trans k.calm,
  fun b hb hf=>(k.same b (Nat.lt_of_lt_of_le hb h.calm.size) (fun hf'=>hf (h.foot b hb hf'))).trans (h.same b hb hf),fun b hb hf=>h.foot b hb (k.foot b (Nat.lt_of_lt_of_le hb h.calm.size) hf),fun a ha=>?_⟩
 rotate_left
 ·rcases k.new a ha with h1 | h1 | h1
  ·exact h.new a h1
  ·rcases Nat.lt_or_ge a.block w.heap.size with h2 | h2
   ·exact .inr (.inl (h.foot _ h2 h1))
   ·exact .inr (.inr h2)
  ·exact .inr (.inr (Nat.le_trans h.calm.size h1))
 obtain ⟨hv1,le1,a1,a2,a3⟩:=h.tk t hv le h1 h2
 obtain ⟨hv2,le2,b1,b2,b3⟩:=k.tk t hv1 le1 a1 a2
 refine ⟨hv2,le2,b1,b2,?_⟩
 rcases a3 with ⟨rfl,rfl⟩ | a3
 ·exact b3
 ·rcases b3 with ⟨rfl,rfl⟩ | b3
  ·exact .inr a3
  ·exact .inr (by omega)
structure Ext0 (tk:List (Nat × TypeId)) (G:Gh) (S:Addr→Prop) (w:World) (tk':List (Nat × TypeId)) (G':Gh) (S':Addr→Prop) (w':World):Prop where
 bx:∀(i b:Nat),G.bx[i]?=some b→G'.bx[i]?=some b
 tk:∀(t:Nat) (hv:Value) (le:Nat × TypeId),G.tk[t]?=some hv→tk[t]?=some le →
  ∃hv' le',G'.tk[t]?=some hv'∧tk'[t]?=some le'∧((le'=le∧hv'=hv)∨le.1<le'.1)
 sub:∀a,S a→S' a
 cell:∀a,S a→Still w w' a
 mp:∀(i b:Nat),G.mp[i]?=some b→G'.mp[i]?=some b
theorem Ext.to0 {tk tk':List (Nat × TypeId)} {G G':Gh} {S S':Addr→Prop} {w w':World} (h:Ext tk G S w tk' G' S' w'):Ext0 tk G S w tk' G' S' w':=⟨h.bx,h.tk,h.sub,h.cell,h.mp⟩
theorem Ext0.tkTrans {tk tk' tk'':List (Nat × TypeId)} {G G' G'':Gh} {S S' S'':Addr→Prop} {w w' w'':World} (h:Ext0 tk G S w tk' G' S' w') (k:Ext0 tk' G' S' w' tk'' G'' S'' w'') :
  ∀(t:Nat) (hv:Value) (le:Nat × TypeId),G.tk[t]?=some hv→tk[t]?=some le→∃hv' le',G''.tk[t]?=some hv'∧tk''[t]?=some le'∧((le'=le∧hv'=hv)∨le.1<le'.1):=by
 intro t hv le h1 h2
 obtain ⟨hv1,le1,a1,a2,a3⟩:=h.tk t hv le h1 h2
 obtain ⟨hv2,le2,b1,b2,b3⟩:=k.tk t hv1 le1 a1 a2
 refine ⟨hv2,le2,b1,b2,?_⟩
 rcases a3 with ⟨rfl,rfl⟩ | a3
 ·exact b3
 ·rcases b3 with ⟨rfl,rfl⟩ | b3
  ·exact .inr a3
  ·exact .inr (by omega)
theorem Ext.step {tk tk' tk'':List (Nat × TypeId)} {G G' G'':Gh} {S S':Addr→Prop} {w w':World} (h:Ext tk G S w tk' G' S' w') (k:Ext0 tk' G' S' w' tk'' G'' S' w') (hf:∀b,b<w.heap.size→Foot G'' b→Foot G' b):Ext tk G S w tk'' G'' S' w' :=
 ⟨fun i b hb=>k.bx _ _ (h.bx _ _ hb),h.to0.tkTrans k,h.sub,h.cell,fun i b hb=>k.mp _ _ (h.mp _ _ hb),h.calm,h.same,fun b hb hf'=>h.foot b hb (hf b hb hf'),h.new⟩
theorem RCap.mono0 {tk tk':List (Nat × TypeId)} {G G':Gh} {S S':Addr→Prop} {w w':World} (h:Ext0 tk G S w tk' G' S' w') {c:Cap} {v:Value} (hs:RCap G S w c v):RCap G' S' w' c v:=by
 cases c with
 | pv p=>exact RV.mono h.sub h.cell hs
 | box id off=>obtain ⟨b,h1,h2⟩:=hs;exact ⟨b,h.bx _ _ h1,h2⟩
theorem RSV.mono0 {tk tk':List (Nat × TypeId)} {G G':Gh} {S S':Addr→Prop} {w w':World} (h:Ext0 tk G S w tk' G' S' w') {s:SV} {v:Value} (hs:RSV tk G S w s v):RSV tk' G' S' w' s v:=by
 cases s with
 | undef=>exact hs
 | val p=>exact RV.mono h.sub h.cell hs
 | lit m xs=>exact ⟨RV.mono h.sub h.cell hs.1,hs.2⟩
 | own t m xs =>
  obtain ⟨h1,hv,le,h2,h3,h4,h5⟩:=hs
  obtain ⟨hv',le',k1,k2,k3⟩:=h.tk t hv le h2 h3
  refine ⟨RV.mono h.sub h.cell h1,hv',le',k1,k2,?_,?_⟩
  ·rcases k3 with ⟨rfl,_⟩ | k3<;>omega
  ·rcases k3 with ⟨rfl,rfl⟩ | k3
   ·exact h5
   ·intro e;omega
 | box id off=>obtain ⟨b,h1,h2⟩:=hs;exact ⟨b,h.bx _ _ h1,h2⟩
 | msl id off len=>obtain ⟨b,cap,h1,h2⟩:=hs;exact ⟨b,cap,h.bx _ _ h1,h2⟩
 | clo f caps =>
  obtain ⟨vs,h1,h2,h3⟩:=hs
  exact ⟨vs,h1,h2,fun i c u a b=>RCap.mono0 h (h3 i c u a b)⟩
 | rbx id off i m k=>obtain ⟨b,h1,h2⟩:=hs;exact ⟨b,h.bx _ _ h1,h2⟩
 | mp id=>obtain ⟨b,h1,h2⟩:=hs;exact ⟨b,h.mp _ _ h1,h2⟩
 | row id off m len cap=>obtain ⟨b,h1,h2⟩:=hs;exact ⟨b,h.bx _ _ h1,h2⟩
 | it id=>obtain ⟨b,h1,h2⟩:=hs;exact ⟨b,h.mp _ _ h1,h2⟩
 | mtup id ps=>obtain ⟨b,vs,h1,h2,h3⟩:=hs;exact ⟨b,vs,h.mp _ _ h1,h2,h3.mono h.sub h.cell⟩
theorem RSV.mono {tk tk':List (Nat × TypeId)} {G G':Gh} {S S':Addr→Prop} {w w':World} (h:Ext tk G S w tk' G' S' w') {s:SV} {v:Value} (hs:RSV tk G S w s v):RSV tk' G' S' w' s v:=RSV.mono0 h.to0 hs
theorem RSV.pv {tk:List (Nat × TypeId)} {G:Gh} {S:Addr→Prop} {w:World} {s:SV} {v:Value} {p:PV} (h:RSV tk G S w s v) (hp:s.pv=some p):RV S w p v:=by
 cases s with
 | undef=>cases hp
 | val q=>cases hp;exact h
 | lit m xs=>cases hp;exact h.1
 | own t m xs=>cases hp;exact h.1
 | box id off=>cases hp
 | msl id off len=>cases hp
 | clo f caps=>cases hp
 | rbx id off i m k=>cases hp
 | mp id=>cases hp;obtain ⟨b,_,rfl⟩:=h;exact .ref _ rfl
 | row id off m len cap=>cases hp
 | it id=>cases hp
 | mtup id ps=>cases hp
def MapHas (S:Addr→Prop) (w:World) (b:Nat) (es:List (PV × PV)) (mk:Option (PV × Int)):Prop :=
 ∃(arr:Array MapEntry) (clock:Nat) (es0:List (PV × PV)),w.heap[b]?=some (.map arr clock)∧es0.Perm es∧Ents es0 arr clock ∧
  (∀(i:Nat) (p:PV × PV) (x:MapEntry),es0[i]?=some p→arr[i]?=some x→RV S w p.2 x.val)∧∀(k:PV) (n:Int),mk=some (k,n)→∃x∈arr.toList,x.key=k.toVal∧(x.born:Int)=n
def IterOk (w:World) (b bm:Nat) (left:List PV) (cur:Option PV):Prop :=
 ∃(arr:Array MapEntry) (clock since:Nat) (seen:Array Nat) (last:Nat),w.heap[bm]?=some (.map arr clock)∧w.heap[b]?=some (.mapIter (some bm) since seen last)∧(∀x∈arr.toList,x.born<since)∧since≤last∧since≤clock ∧
  left.Nodup∧(∀k∈left,k.flat=true∧∃x∈arr.toList,x.key=k.toVal∧seen.contains x.born=false)∧(∀x∈arr.toList,seen.contains x.born=false→∃k∈left,x.key=k.toVal) ∧
  ∀k,cur=some k→(last=clock∧k.flat=true)∧∃x∈arr.toList,x.key=k.toVal∧seen.back?=some x.born
def MapOk (E:Env) (M:List Nat) (S:Addr→Prop) (w:World) (b:Nat):MapC→Prop
 | .plain k e n=>(∃D:DataW Unit,w.ownsMap E.P k (plainElem E.P e) b n D)∧∀a,S a→a.block≠b
 | .ents es mk=>MapHas S w b es mk∧∀a,S a→a.block≠b
 | .iter (some m) _ left cur=>(∃bm,M[m]?=some bm∧IterOk w b bm left cur)∧∀a,S a→a.block≠b
 | .iter none es left cur=>((w.heap[b]?=some (.mapIter none 0 #[] 0)∧left=[]∧cur=none)∨∃bm,S ⟨bm,0,none⟩∧MapHas S w bm es none∧IterOk w b bm left cur)∧∀a,S a→a.block≠b
 | .gone=>True
structure Inv (E:Env) (B:Nat) (S0:Addr→Prop) (bx:List (Option (List SV))) (tk:List (Nat × TypeId)) (ax:Ax) (G:Gh) (S:Addr→Prop) (w:World):Prop where
 base:B≤w.heap.size
 s0:∀a,S a→S0 a∨B≤a.block
 slt:∀a,S a→a.block<w.heap.size
 lbx:G.bx.length=bx.length
 ltk:G.tk.length=tk.length
 old:∀(i b:Nat),G.bx[i]?=some b→B≤b∧b<w.heap.size
 dist:∀(i j b:Nat),G.bx[i]?=some b→G.bx[j]?=some b→i=j
 box:∀(id b:Nat) (cs:List SV),bx[id]?=some (some cs)→G.bx[id]?=some b→(∃(t:TypeId) (arr:Array Value),w.heap[b]?=some (.cells arr t (0,0)) ∧
  arr.size=cs.length∧∀(j:Nat) (c:SV) (v:Value),cs[j]?=some c→arr[j]?=some v→RSV tk G S w c v∧v.oneCell'=true)∧∀a,S a→a.block≠b
 tok:∀(t n:Nat) (e:TypeId) (hv:Value),tk[t]?=some (n,e)→G.tk[t]?=some hv→∃a cap,hv=.slice a n cap∧n≤cap∧cap≤maxLen ∧
  (n<cap→∃(g:Nat) (cur:Array Value),a=some ⟨g,0,none⟩∧B≤g∧w.heap[g]?=some (.cells cur e (0,0))∧cur.size=cap*(E.T e).size ∧
   (∀a,S a→a.block=g→a.off<n*(E.T e).size)∧(∀(i:Nat),G.bx[i]?≠some g))
 apart:∀(t t' n n' cap cap' g:Nat),t≠t'→G.tk[t]?=some (.slice (some ⟨g,0,none⟩) n cap)→n<cap→G.tk[t']?≠some (.slice (some ⟨g,0,none⟩) n' cap')∨n' ≥ cap'
 lmp:G.mp.length=ax.mp.length
 dmp:∀(i j b:Nat),G.mp[i]?=some b→G.mp[j]?=some b→i=j
 mpo:∀(i b:Nat),G.mp[i]?=some b→B≤b∧b<w.heap.size
 mpk:∀(i b:Nat) (c:MapC),ax.mp[i]?=some c→G.mp[i]?=some b→MapOk E G.mp S w b c
 flt:∀b,G.fp b→b<w.heap.size
 fbx:∀(i b:Nat),G.bx[i]?=some b→¬G.fp b
 ftk:∀(t n cap g:Nat),G.tk[t]?=some (.slice (some ⟨g,0,none⟩) n cap)→n<cap→¬G.fp g
 fmp:∀(i b:Nat),G.mp[i]?=some b→¬G.fp b
 yl:E.Y.J ax.yk G.fp S w∧(E.Y.ys≠[]→B=0)
end Go.Abs
/-
  The abstract walk: what each operation does to the slots, told in trees.
-/
namespace Go.Abs
open Go.RowKit
structure Res where
 side:Prop
 v:SV
 st:St
def Res.go (r:Option Res) (K:SV→St→Prop):Prop :=
 match r with
 | some r=>r.side∧K r.v r.st
 | none=>False
def constPV:Value→PV
 | .int k n=>.int k n
 | .bool b=>.bool b
 | .string s=>.str s
 | .slice none 0 0=>.list 0 []
 | .map none=>.map [] []
 | _=>.any
def ofConst:Value→SV
 | .int k n=>.val (.int k n)
 | .bool b=>.val (.bool b)
 | .string s=>.val (.str s)
 | .slice none 0 0=>.lit 0 []
 | .agg cs=>.val (.agg (cs.toList.map constPV))
 | .map none=>.val (.map [] [])
 | _=>.val .any
def valOf (st:St):Operand→SV
 | .tmp t=>st.sl.getD t .undef
 | .const v=>ofConst v
 | .func f=>.val (.fn f [])
 | .global _=>.val .any
def St.put (st:St) (dst:Option Tmp) (v:SV):St :=
 match dst with
 | some d=>{ st with sl:=st.sl.set d v }
 | none=>st
def intOfSV:SV→Option (IntKind × Int)
 | .val (.int k n)=>some (k,n)
 | _=>none
def SV.elems:SV→Option (Nat × List PV)
 | .val (.list m xs)=>some (m,xs)
 | .lit m xs=>some (m,xs)
 | .own _ m xs=>some (m,xs)
 | _=>none
def pvsOf:List SV→Option (List PV)
 | []=>some []
 | s::r=>match s.pv,pvsOf r with
  | some p,some l=>some (p::l)
  | _,_=>none
def PV.one:PV→Bool
 | .int _ _ | .bool _ | .str _ | .list _ _ | .ptr _ _ | .fn _ _ | .yld _ | .ref | .map _ _=>true
 | _=>false
def SV.one:SV→Bool
 | .val p=>p.one
 | .undef=>false
 | .mtup _ _=>false
 | _=>true
def partCells (d:TD) (s:SV):Option (List PV) :=
 if d.agg then (match s with | .val (.agg l)=>if l.length=d.size then some l else none | _=>none)
 else (match s.pv with | some p=>if p.one&&d.size == 1 then some [p] else none | none=>none)
def PV.ofCells (d:TD) (cs:List PV):PV:=if d.agg then .agg cs else cs.getD 0 .any
def opPick (c a b:SV) (st:St):Option Res :=
 match c with
 | .val (.bool t)=>some ⟨True,if t then a else b,st⟩
 | _=>none
def opFieldAddr (E:Env) (s:TypeId) (x:SV) (f:Nat) (st:St):Option Res :=
 match (E.T s).k with
 | .struct fs =>
  match fs[f]? with
  | some (o,ft) =>
   if (E.T ft).size=0 then none else
   match x with
   | .val (.ptr cs off)=>some ⟨True,.val (.ptr cs (off+o)),st⟩
   | .box id off=>some ⟨True,.box id (off+o),st⟩
   | .rbx id off i m k=>some ⟨True,.rbx id off i m (k+o),st⟩
   | _=>none
  | none=>none
 | _=>none
def opLoad (E:Env) (t:TypeId) (x:SV) (st:St):Option Res :=
 match x with
 | .val (.ptr cs off) =>
  if (E.T t).agg then some ⟨off+(E.T t).size≤cs.length,.val (.agg ((cs.drop off).take (E.T t).size)),st⟩
  else if (E.T t).size=1 then some ⟨off<cs.length,.val (cs.getD off .any),st⟩ else none
 | .box id off =>
  match st.bx.getD id none with
  | some cs =>
   if (E.T t).agg then
    match pvsOf ((cs.drop off).take (E.T t).size) with
    | some l=>some ⟨off+(E.T t).size≤cs.length,.val (.agg l),st⟩
    | none=>none
   else if (E.T t).size=1 then some ⟨off<cs.length,cs.getD off .undef,st⟩ else none
  | none=>none
 | _=>none
def St.setBx (st:St) (id:Nat) (c:Option (List SV)):St:={ st with bx:=st.bx.set id c }
def opStore (E:Env) (t:TypeId) (x v:SV) (st:St):Option Res :=
 match x with
 | .box id off =>
  match st.bx.getD id none with
  | some cs =>
   if (E.T t).agg then
    match v with
    | .val (.agg l) =>
     if l.length=(E.T t).size∧l.all PV.one then some ⟨off+l.length≤cs.length,.undef,st.setBx id (some (cs.take off++(l.map SV.val++cs.drop (off+l.length))))⟩ else none
    | _=>none
   else if v.one∧(E.T t).size=1 then some ⟨off<cs.length,.undef,st.setBx id (some (cs.set off v))⟩ else none
  | none=>none
 | _=>none
def St.newBx (st:St) (cs:List SV):St:={ st with bx:=st.bx++[some cs] }
def zeroSV:PV→SV
 | .list 0 []=>.lit 0 []
 | p=>.val p
def opAlloc (E:Env) (t:TypeId) (st:St):Option Res :=
 if (E.T t).zero.length=(E.T t).size∧(E.T t).size≠0 then some ⟨True,.box st.bx.length 0,st.newBx ((E.T t).zero.map zeroSV)⟩ else none
def opBox (E:Env) (t:TypeId) (v:SV) (st:St):Option Res :=
 if (E.T t).agg then
  match v with
  | .val (.agg l)=>if l.all PV.one then some ⟨True,.box st.bx.length 0,st.newBx (l.map SV.val)⟩ else none
  | _=>none
 else if v.one then some ⟨True,.box st.bx.length 0,st.newBx [v]⟩ else none
def fillPV (place:Nat→Option (Nat × TD)) (cells:List PV):List (Nat × SV)→Option (List PV)
 | []=>some cells
 | (i,v)::rest =>
  match place i with
  | none=>none
  | some (off,d) =>
   match partCells d v with
   | none=>none
   | some l=>if off+l.length≤cells.length then fillPV place (cells.take off++(l++cells.drop (off+l.length))) rest else none
def opBuild (E:Env) (t:TypeId) (parts:List (Nat × SV)) (st:St):Option Res :=
 if (E.T t).agg then
  match (E.T t).k with
  | .struct fs =>
   if fs.all fun p=>(E.T p.2).size != 0 || (E.T p.2).agg then
    match fillPV (fun i=>(fs[i]?).map fun p=>(p.1,E.T p.2)) (E.T t).zero parts with
    | some l=>some ⟨True,.val (.agg l),st⟩
    | none=>none
   else none
  | .array _ e =>
   if (E.T e).size != 0 then
    match fillPV (fun i=>some (i*(E.T e).size,E.T e)) (E.T t).zero parts with
    | some l=>some ⟨True,.val (.agg l),st⟩
    | none=>none
   else none
  | _=>none
 else none
def fillElems (d:TD) (xs:List PV):List (Nat × SV)→Option (List PV)
 | []=>some xs
 | (i,v)::rest =>
  match partCells d v.litE with
  | none=>none
  | some l=>if i<xs.length∧l.all PV.one then fillElems d (xs.set i (PV.ofCells d l)) rest else none
def opBuildSlice (E:Env) (t:TypeId) (n:Nat) (parts:List (Nat × SV)) (st:St):Option Res :=
 match (E.T t).k with
 | .slice e =>
  if (E.T e).zero.length=(E.T e).size∧0<(E.T e).size∧n*(E.T e).size≤16777216 then
   match fillElems (E.T e) (List.replicate n (PV.ofCells (E.T e) (E.T e).zero)) parts with
   | some xs=>some ⟨True,.lit (E.T e).size xs,st⟩
   | none=>none
  else none
 | _=>none
def opMakeSlice (E:Env) (t:TypeId) (len cap:SV) (st:St):Option Res :=
 match (E.T t).k,len,cap with
 | .slice e,.val (.int _ n),.val (.int _ c) =>
  if (E.T e).zero.length=(E.T e).size∧0<(E.T e).size then
   if E.rows then some ⟨0≤n∧n=c∧n*(E.T e).bytes≤140737488355328∧n≤140737488355328,.msl st.bx.length 0 n.toNat,st.newBx ((List.replicate n.toNat (E.T e).zero).flatten.map SV.val)⟩ else
   some ⟨0≤n∧n=c∧n*(E.T e).bytes≤140737488355328∧n≤140737488355328,.lit (E.T e).size (List.replicate n.toNat (PV.ofCells (E.T e) (E.T e).zero)),st⟩
  else none
 | _,_,_=>none
def bound (o:Option SV) (d:Int):Option Int :=
 match o with
 | none=>some d
 | some (.val (.int _ n))=>some n
 | _=>none
def opSlice (E:Env) (t:TypeId) (x:SV) (lo hi mx:Option SV) (st:St):Option Res :=
 match mx,(E.T t).k with
 | none,.slice e =>
  match x.elems with
  | some (m,xs) =>
   if (m=(E.T e).size∨xs=[])∧(E.T e).size≠0 then
    match bound lo 0,bound hi xs.length with
    | some l,some h=>some ⟨0≤l∧l≤h∧h≤xs.length,.val (.list m ((xs.take h.toNat).drop l.toNat)),st⟩
    | _,_=>none
   else none
  | none=>none
 | none,.str =>
  match x with
  | .val (.str s) =>
   match bound lo 0,bound hi s.size with
   | some l,some h=>some ⟨0≤l∧l≤h∧h≤s.size,.val (.str (s.extract l.toNat h.toNat)),st⟩
   | _,_=>none
  | _=>none
 | _,_=>none
def opSliceArr (E:Env) (t:TypeId) (id off:Nat) (lo hi mx:Option SV) (st:St):Option Res :=
 match (E.T t).k,lo with
 | .array n e,none =>
  if (E.T e).size≠0∧n≤9223372036854775807 then
   match hi,mx with
   | some (.val (.int _ h)),some (.val (.int _ m))=>some ⟨0≤h∧h≤m∧m≤n,.msl id off h.toNat,st⟩
   | some (.val (.int _ h)),none=>some ⟨0≤h∧h≤n,.msl id off h.toNat,st⟩
   | none,none=>some ⟨True,.msl id off n,st⟩
   | _,_=>none
  else none
 | _,_=>none
def elemSV (E:Env) (id off i m:Nat):SV:=match E.rows with | true=>.rbx id off i m 0 | false=>.box id (off+i*m)
def opSliceRow (E:Env) (t:TypeId) (id off m len cap:Nat) (lo hi mx:Option SV) (st:St):Option Res :=
 match mx,(E.T t).k with
 | none,.slice e =>
  if m=(E.T e).size∧m≠0 then
   match lo,bound hi len with
   | none,some h=>some ⟨(0:Int)≤0∧0≤h∧h≤len,.row id off m h.toNat cap,st⟩
   | some (.val (.int _ l)),some h=>some ⟨(0≤l∧l≤h∧h≤len)∧0≤l∧l<cap,.row id (off+l.toNat*m) m (h - l).toNat ((cap:Int) - l).toNat,st⟩
   | _,_=>none
  else none
 | _,_=>none
def opIndexAddr (E:Env) (t:TypeId) (x i:SV) (st:St):Option Res :=
 match intOfSV i with
 | none=>none
 | some (_,n) =>
  match (E.T t).k with
  | .slice e =>
   if (E.T e).size=0 then none else
   match x with
   | .msl id off len=>some ⟨0≤n∧n<len,elemSV E id off n.toNat (E.T e).size,st⟩
   | .row id off _ len _=>some ⟨0≤n∧n<len,elemSV E id off n.toNat (E.T e).size,st⟩
   | x =>
    match x.elems with
    | some (m,xs)=>if m=(E.T e).size then some ⟨0≤n∧n<xs.length,.val (.ptr (xs.getD n.toNat .any).cells 0),st⟩ else none
    | none=>none
  | .array cnt e =>
   if (E.T e).size=0 then none else
   match x with
   | .val (.ptr cs off)=>some ⟨0≤n∧n<cnt,.val (.ptr cs (off+n.toNat*(E.T e).size)),st⟩
   | .box id off=>some ⟨0≤n∧n<cnt,elemSV E id off n.toNat (E.T e).size,st⟩
   | _=>none
  | _=>none
def opIndex (E:Env) (t:TypeId) (x i:SV) (st:St):Option Res :=
 match intOfSV i,(E.T t).k,x with
 | some (_,n),.str,.val (.str s)=>some ⟨0≤n∧n<s.size,.val (.int .u8 (s.data.toList.getD n.toNat 0).toNat),st⟩
 | _,_,_=>none
def opField (E:Env) (t:TypeId) (x:SV) (f:Nat) (st:St):Option Res :=
 match (E.T t).k,x with
 | .struct fs,.val (.agg cs) =>
  match fs[f]? with
  | some (o,ft) =>
   if (E.T ft).agg then some ⟨o+(E.T ft).size≤cs.length,.val (.agg ((cs.drop o).take (E.T ft).size)),st⟩
   else if (E.T ft).size=1 then some ⟨o<cs.length,.val (cs.getD o .any),st⟩ else none
  | none=>none
 | _,_=>none
def opExtract (x:SV) (i:Nat) (st:St):Option Res :=
 match x with
 | .val (.tup vs)=>match vs[i]? with | some p=>some ⟨True,.val p,st⟩ | none=>none
 | .mtup id ps=>(match i with | 0=>some ⟨True,.mp id,st⟩ | j+1=>match ps[j]? with | some p=>some ⟨True,.val p,st⟩ | none=>none)
 | _=>none
def sealCap (id:Nat) (cs:List PV):Cap→Cap
 | .box i o=>if i=id then .pv (.ptr cs o) else .box i o
 | c=>c
def capPVs:List Cap→Option (List PV)
 | []=>some []
 | .pv p::r=>(capPVs r).map (p::·)
 | .box _ _::_=>none
def sealSV (id:Nat) (cs:List PV):SV→SV
 | .box i o=>if i=id then .val (.ptr cs o) else .box i o
 | .clo f caps=>match capPVs (caps.map (sealCap id cs)) with | some ps=>.val (.fn f ps) | none=>.clo f (caps.map (sealCap id cs))
 | s=>s
def St.sealBx (st:St) (id:Nat) (cs:List PV):St:={ st with sl:=st.sl.map (sealSV id cs),bx:=st.bx.set id none }
def opCaps (st:St):List SV→Option (List PV × St)
 | []=>some ([],st)
 | .val p::r=>(opCaps st r).map fun q=>(p::q.1,q.2)
 | .lit m xs::r=>(opCaps st r).map fun q=>(.list m xs::q.1,q.2)
 | .box id off::r =>
  match opCaps st r with
  | none=>none
  | some (l,st') =>
   match st'.bx.getD id none with
   | some cs=>match pvsOf cs with | some ps=>some (.ptr ps off::l,st'.sealBx id ps) | none=>none
   | none=>none
 | _=>none
def capsOf:List SV→Option (List Cap)
 | []=>some []
 | .val p::r=>(capsOf r).map (.pv p::·)
 | .lit m xs::r=>(capsOf r).map (.pv (.list m xs)::·)
 | .box id off::r=>(capsOf r).map (.box id off::·)
 | _=>none
def opMakeFunc (E:Env) (fn:Fn) (first captured:List SV) (st:St):Option Res :=
 match fn,first with
 | .func f,[] =>
  if E.clo f then (match capsOf captured with | some l=>some ⟨True,.clo f l,st⟩ | none=>none)
  else match opCaps st captured with | some (l,st')=>some ⟨True,.val (.fn f l),st'⟩ | none=>none
 | _,_=>none
def opUn (op:UnOp) (x:SV) (st:St):Option Res :=
 match op,x with
 | .not,.val (.bool b)=>some ⟨True,.val (.bool (!b)),st⟩
 | .neg,.val (.int .i64 n)=>some ⟨-9223372036854775808<n∧n≤9223372036854775807,.val (.int .i64 (-n)),st⟩
 | .xor,.val (.int .u64 n)=>some ⟨True,.val (.int .u64 (IntKind.u64.wrap (BitVec.ofInt 64 IntKind.u64.max ^^^ BitVec.ofInt 64 n).toNat)),st⟩
 | _,_=>none
def opConvert (E:Env) (src dst:TypeId) (x:SV) (st:St):Option Res :=
 match (E.T src).k,(E.T dst).k,x with
 | .int k,.int k',.val (.int k'' n)=>if k=k'∧k''=k∧k=.i64 then some ⟨-9223372036854775808≤n∧n≤9223372036854775807,.val (.int k n),st⟩ else some ⟨True,.val (.int k' (k'.wrap n)),st⟩
 | .str,.str,.val (.str s)=>some ⟨True,.val (.str s),st⟩
 | _,_,_=>none
def inI64 (n:Int):Prop:=-9223372036854775808≤n∧n≤9223372036854775807
def arithI64 (op:BinOp) (a b:Int):Option (Prop × PV) :=
 match op with
 | .add=>some (inI64 (a+b),.int .i64 (a+b))
 | .sub=>some (inI64 (a - b),.int .i64 (a - b))
 | .mul=>some (inI64 (a*b),.int .i64 (a*b))
 | .quo=>some (b≠0∧inI64 (a.tdiv b),.int .i64 (a.tdiv b))
 | .rem=>some (b≠0,.int .i64 (a.tmod b))
 | .eql=>some (True,.bool (decide (a=b)))
 | .neq=>some (True,.bool (decide (a≠b)))
 | .lss=>some (True,.bool (decide (a<b)))
 | .leq=>some (True,.bool (decide (a≤b)))
 | .gtr=>some (True,.bool (decide (b<a)))
 | .geq=>some (True,.bool (decide (b≤a)))
 | _=>none
def arithOther (op:BinOp) (k:IntKind) (a b:Int):Option (Prop × PV) :=
 match op with
 | .and=>some (True,.int k (k.wrap ((BitVec.ofInt k.bits a &&& BitVec.ofInt k.bits b).toNat)))
 | .or=>some (True,.int k (k.wrap ((BitVec.ofInt k.bits a ||| BitVec.ofInt k.bits b).toNat)))
 | .add=>some (True,.int k (k.wrap (a+b)))
 | .sub=>some (True,.int k (k.wrap (a - b)))
 | .rem=>some (b≠0,.int k (a.tmod b))
 | .eql=>some (True,.bool (decide (a=b)))
 | .neq=>some (True,.bool (decide (a≠b)))
 | .lss=>some (True,.bool (decide (a<b)))
 | .leq=>some (True,.bool (decide (a≤b)))
 | .gtr=>some (True,.bool (decide (b<a)))
 | .geq=>some (True,.bool (decide (b≤a)))
 | _=>none
def eqPV:SK→PV→PV→Option Bool
 | .int,.int k a,.int k' b=>if k=k' then some (decide (a=b)) else none
 | .bool,.bool a,.bool b=>some (decide (a=b))
 | .str,.str a,.str b=>some (decide (a=b))
 | _,_,_=>none
def eqCells:List SK→List PV→List PV→Option Bool
 | [],[],[]=>some true
 | k::ks,x::xs,y::ys=>match eqPV k x y,eqCells ks xs ys with | some a,some b=>some (a&&b) | _,_=>none
 | _,_,_=>none
def opBin (E:Env) (op:BinOp) (t:TypeId) (x y:SV) (st:St):Option Res :=
 match x,y with
 | .val (.int k a),.val (.int k' b) =>
  match op with
  | .shl=>some ⟨0≤b∧b<k.bits,.val (.int k (k.wrap (a*2 ^ b.toNat))),st⟩
  | .shr=>some ⟨0≤b∧b<k.bits,.val (.int k (a.fdiv (2 ^ b.toNat))),st⟩
  | op =>
   if k=k' then
    match (match E.clo 11000000 with | true=>arithOther op k a b | false=>if k=.i64 then arithI64 op a b else arithOther op k a b) with
    | some (s,p)=>some ⟨s,.val p,st⟩
    | none=>none
   else none
 | .val (.bool a),.val (.bool b) =>
  match (E.T t).k,op with
  | .bool,.eql=>some ⟨True,.val (.bool (decide (a=b))),st⟩
  | .bool,.neq=>some ⟨True,.val (.bool (decide (a≠b))),st⟩
  | _,_=>none
 | .val (.str a),.val (.str b) =>
  match op with
  | .eql=>some ⟨True,.val (.bool (decide (a=b))),st⟩
  | .neq=>some ⟨True,.val (.bool (decide (a≠b))),st⟩
  | _=>none
 | .val (.agg a),.val (.agg b) =>
  match (E.T t).eq with
  | none=>none
  | some ks =>
   match eqCells ks a b,op with
   | some r,.eql=>some ⟨True,.val (.bool r),st⟩
   | some r,.neq=>some ⟨True,.val (.bool (!r)),st⟩
   | _,_=>none
 | _,_=>none
/-! ### Maps -/
def keq1:PV→PV→Bool
 | .int k n,.int k' n'=>decide (k=k')&&decide (n=n')
 | .bool a,.bool b=>decide (a=b)
 | .str a,.str b=>decide (a=b)
 | _,_=>false
def keqL:List PV→List PV→Bool
 | [],[]=>true
 | a::r,b::r'=>keq1 a b&&keqL r r'
 | _,_=>false
def keq:PV→PV→Bool
 | .agg a,.agg b=>keqL a b
 | a,b=>keq1 a b
def lookE (es:List (PV × PV)) (k:PV):Option PV:=(es.find? fun p=>keq k p.1).map (·.2)
def hasE (es:List (PV × PV)) (k:PV):Bool:=es.any fun p=>keq k p.1
def putE (es:List (PV × PV)) (k v:PV):List (PV × PV):=if hasE es k then es.map fun p=>if keq k p.1 then (p.1,v) else p else es++[(k,v)]
def delE (es:List (PV × PV)) (k:PV):List (PV × PV):=es.filter fun p=>!keq k p.1
def entE (es:List (PV × PV)) (k z:PV):List (PV × PV):=if hasE es k then es else es++[(k,z)]
def keyK (E:Env) (k:TypeId):Option (List SK) :=
 match (E.T k).k with
 | .int _=>some [.int]
 | .bool=>some [.bool]
 | .str=>some [.str]
 | .struct _=>(E.T k).eq
 | _=>none
def PV.isAgg:PV→Bool
 | .agg _=>true
 | _=>false
def keyAgg (E:Env) (k:TypeId):Bool:=match (E.T k).k with | .struct _=>true | _=>false
def keysOk (ag:Bool) (ks:List SK) (es:List (PV × PV)) (k:PV):Prop:=(k.flat=true∧k.cells.length=ks.length)∧k.isAgg=ag∧∀p∈es,p.1.isAgg=ag∧eqCells ks k.cells p.1.cells=some (keq k p.1)
def entsOf (m:SV) (st:St):Option (List (PV × PV)) :=
 match m with
 | .val (.map ks vs)=>some (ks.zip vs)
 | .mp id=>match st.ax.mp[id]? with | some (.ents es _)=>some es | _=>none
 | _=>none
def zeroPV (d:TD):Option PV:=if d.agg then some (.agg d.zero) else if d.size=1 then (match d.zero with | [z]=>some z | _=>none) else none
def noIter (id:Nat) (mp:List MapC):Bool:=mp.all fun c=>match c with | .iter (some m) _ _ _=>m != id | _=>true
def dropIt (id:Nat) (k:PV):MapC→MapC
 | .iter (some m) es left cur=>if m=id then .iter (some m) es (left.filter fun x=>!keq k x) (match cur with | some c=>if keq k c then none else some c | none=>none) else .iter (some m) es left cur
 | c=>c
def St.mps (st:St) (mp:List MapC):St:={ st with ax:={ st.ax with mp:=mp } }
def opLookup (E:Env) (t:TypeId) (m x:SV) (ok:Bool) (st:St):Option Res :=
 match (E.T t).k,x with
 | .map k e,.val key =>
  match keyK E k,entsOf m st,zeroPV (E.T e) with
  | some ks,some es,some z=>some ⟨keysOk (keyAgg E k) ks es key,.val (if ok then .tup [(lookE es key).getD z,.bool (lookE es key).isSome] else (lookE es key).getD z),st⟩
  | _,_,_=>none
 | _,_=>none
def opDelete (E:Env) (t k':TypeId) (m x:SV) (st:St):Option Res :=
 match (E.T t).k,m,x with
 | .map k _,.mp id,.val key =>
  match keyK E k,st.ax.mp[id]? with
  | some ks,some (.ents es _)=>if k'=k then some ⟨keysOk (keyAgg E k) ks es key,.val (.tup []),st.mps ((st.ax.mp.map (dropIt id key)).set id (.ents (delE es key) none))⟩ else none
  | _,_=>none
 | _,_,_=>none
def opRange (E:Env) (t:TypeId) (m:SV) (st:St):Option Res :=
 match (E.T t).k,m with
 | .map _ _,.mp id =>
  match st.ax.mp[id]? with
  | some (.ents es _)=>some ⟨True,.it st.ax.mp.length,st.mps (st.ax.mp++[.iter (some id) [] (es.map (·.1)) none])⟩
  | _=>none
 | .map _ _,.val (.map ks vs)=>some ⟨True,.it st.ax.mp.length,st.mps (st.ax.mp++[.iter none (ks.zip vs) ks none])⟩
 | _,_=>none
def iterEs (st:St) (src:Option Nat) (es:List (PV × PV)):Option (List (PV × PV)) :=
 match src with
 | none=>some es
 | some m=>match st.ax.mp[m]? with | some (.ents es _)=>some es | _=>none
def opEntry (x:SV) (st:St):Option Res :=
 match x with
 | .it id =>
  match st.ax.mp[id]? with
  | some (.iter src es _ (some k)) =>
   match iterEs st src es with
   | some es=>some ⟨(lookE es k).isSome=true,.val (.tup [k,(lookE es k).getD .any]),st⟩
   | none=>none
  | _=>none
 | _=>none
def opEntryStore (m s v:SV) (st:St):Option Res :=
 match m,s,v.pv with
 | .mp id,.val (.int .i64 n),some p =>
  match st.ax.mp[id]? with
  | some (.ents es (some (k,n')))=>if k.flat=true then some ⟨n=n',.undef,st.mps (st.ax.mp.set id (.ents (putE es k p) none))⟩ else none
  | _=>none
 | _,_,_=>none
def wpNext (x:SV) (st:St) (K:SV→St→Prop):Prop :=
 match x with
 | .it id =>
  match st.ax.mp[id]? with
  | some (.iter src es left _) =>
   match iterEs st src es with
   | some es'=>(left=[]→K (.val (.tup [.bool false])) st) ∧
     ∀k v,k∈left→(k,v)∈es'→K (.val (.tup [.bool true,k,v])) (st.mps (st.ax.mp.set id (.iter src es (left.filter fun y=>!keq k y) (some k))))
   | none=>False
  | _=>False
 | _=>False
def wpMapEntry (E:Env) (t:TypeId) (m x:SV) (st:St) (K:SV→St→Prop):Prop :=
 match (E.T t).k,m,x with
 | .map k e,.mp id,.val key =>
  match keyK E k,st.ax.mp[id]?,zeroPV (E.T e) with
  | some ks,some (.ents es _),some z=>keysOk (keyAgg E k) ks es key∧(noIter id st.ax.mp=true∨hasE es key=true) ∧
    ∀n,K (.val (.tup [(lookE es key).getD z,.int .i64 n])) (st.mps (st.ax.mp.set id (.ents (entE es key z) (some (key,n)))))
  | _,_,_=>False
 | _,_,_=>False
def opLen (E:Env) (t:TypeId) (x:SV) (st:St):Option Res :=
 match (E.T t).k,x with
 | .str,.val (.str s)=>some ⟨True,.val (.int .i64 s.size),st⟩
 | .slice _,.msl _ _ n=>some ⟨True,.val (.int .i64 n),st⟩
 | .slice _,.row _ _ _ n _=>some ⟨True,.val (.int .i64 n),st⟩
 | .slice _,x=>match x.elems with | some (_,xs)=>some ⟨True,.val (.int .i64 xs.length),st⟩ | none=>none
 | .array n _,_=>some ⟨True,.val (.int .i64 n),st⟩
 | .map _ _,x=>match entsOf x st with | some es=>some ⟨True,.val (.int .i64 es.length),st⟩ | none=>none
 | _,_=>none
def opAppend (E:Env) (t:TypeId) (s y:SV) (st:St):Option Res :=
 match (E.T t).k,y.elems with
 | .slice e,some (m',ys) =>
  if (m'=(E.T e).size∨ys=[])∧0<(E.T e).size∧(E.T e).zero.length=(E.T e).size then
   match s.litz with
   | .lit m xs =>
    if m=(E.T e).size∨xs=[] then
     some ⟨(xs.length+ys.length)*((E.T e).bytes+1)≤140737488355328,.own st.tk.length (E.T e).size (xs++ys),{ st with tk:=st.tk++[((xs++ys).length,e)] }⟩
    else none
   | .own k m xs =>
    if (m=(E.T e).size∨xs=[])∧((st.tk.getD k (0,0)).2=e) then
     some ⟨(st.tk.getD k (0,0)).1=xs.length∧k<st.tk.length∧(xs.length+ys.length)*((E.T e).bytes+1)≤140737488355328,.own k (E.T e).size (xs++ys),{ st with tk:=st.tk.set k ((xs++ys).length,e) }⟩
    else none
   | _=>none
  else none
 | _,_=>none
def opClear (E:Env) (t:TypeId) (x:SV) (st:St):Option Res :=
 match (E.T t).k,x with
 | .slice e,.row id off m len _ =>
  if m=(E.T e).size∧0<(E.T e).size∧(E.T e).zero.length=(E.T e).size then
   match st.bx.getD id none with
   | some cs=>some ⟨off+len*m≤cs.length,.val .any,st.setBx id (some (cs.take off++(List.replicate (len*m) (.val .any)++cs.drop (off+len*m))))⟩
   | none=>none
  else none
 | _,_=>none
def opMakeMap (E:Env) (t:TypeId) (reserve:Option Operand) (st:St):Option Res :=
 match (E.T t).k,reserve with
 | .map k e,none =>
  match E.clo 9000000 with
  | true=>some ⟨True,.mp st.ax.mp.length,{ st with ax:={ st.ax with mp:=st.ax.mp++[.ents [] none] } }⟩
  | false=>some ⟨True,.mp st.ax.mp.length,{ st with ax:={ st.ax with mp:=st.ax.mp++[.plain k e 0] } }⟩
 | _,_=>none
def inKind (k:IntKind) (a:Int):Prop:=k.min≤a∧a≤k.max
def opMapUpdate (E:Env) (t:TypeId) (m x v:SV) (st:St):Option Res :=
 match m with
 | .mp id =>
  match st.ax.mp[id]?,(E.T t).k with
  | some (.plain k e n),.map k' e' =>
   match (E.T k).k,(E.T e).k,x,v with
   | .int kk',.bool,.val (.int kk a),.val (.bool _)=>if k=k'∧e=e'∧kk=kk'∧noIter id st.ax.mp=true then some ⟨n<9223372036854775807∧inKind kk a,.undef,{ st with ax:={ st.ax with mp:=st.ax.mp.set id (.plain k e (n+1)) } }⟩ else none
   | _,_,_,_=>none
  | some (.ents es mk),.map k _ =>
   match keyK E k,x,v.pv with
   | some ks,.val key,some p=>some ⟨keysOk (keyAgg E k) ks es key∧(noIter id st.ax.mp=true∨hasE es key=true),.undef,st.mps (st.ax.mp.set id (.ents (putE es key p) mk))⟩
   | _,_,_=>none
  | _,_=>none
 | _=>none
def opMinMax (mn:Bool) (xs:List SV) (st:St):Option Res :=
 match xs with
 | [.val (.int .i64 a),.val (.int .i64 b)]=>some ⟨True,.val (.int .i64 (if mn then min a b else max a b)),st⟩
 | _=>none
def opBuiltin (E:Env) (b:Builtin) (ts:List TypeId) (xs:List SV) (st:St):Option Res :=
 match b,ts,xs with
 | .len,[t],[x]=>opLen E t x st
 | .append,[t,t'],[s,y]=>if t=t' then opAppend E t s y st else none
 | .min,_,xs=>opMinMax true xs st
 | .max,_,xs=>opMinMax false xs st
 | .delete,[t,k],[m,x]=>opDelete E t k m x st
 | .clear,[t],[x]=>opClear E t x st
 | _,_,_=>none
def evalOp (E:Env) (o:Op) (st:St):Option Res :=
 match o with
 | .move x | .assign x=>some ⟨True,valOf st x,st⟩
 | .pick c a b=>opPick (valOf st c) (valOf st a) (valOf st b) st
 | .alloc t=>opAlloc E t st
 | .box t x=>opBox E t (valOf st x) st
 | .build t parts=>opBuild E t (parts.toList.map fun p=>(p.1,valOf st p.2)) st
 | .buildSlice t n parts=>opBuildSlice E t n (parts.toList.map fun p=>(p.1,valOf st p.2)) st
 | .load t a=>opLoad E t (valOf st a).norm st
 | .store t a x=>opStore E t (valOf st a).norm (valOf st x) st
 | .nilCheck x=>(match valOf st x with | .val (.ptr cs o)=>some ⟨True,.val (.ptr cs o),st⟩ | .box id o=>some ⟨True,.box id o,st⟩ | .val (.fn f cs)=>some ⟨True,.val (.fn f cs),st⟩ | .clo f cs=>some ⟨True,.clo f cs,st⟩ | .rbx a b c d e=>some ⟨True,.rbx a b c d e,st⟩ | .val (.yld l)=>some ⟨True,.val (.yld l),st⟩ | _=>none)
 | .binOp op t x y _=>opBin E op t (valOf st x) (valOf st y) st
 | .unOp op _ x=>opUn op (valOf st x) st
 | .convert s d x=>opConvert E s d (valOf st x) st
 | .makeFunc fn first cap=>opMakeFunc E fn (first.toList.map (valOf st)) (cap.toList.map (valOf st)) st
 | .makeSlice t l c=>opMakeSlice E t (valOf st l) (valOf st c) st
 | .makeMap t r=>opMakeMap E t r st
 | .mapUpdate t m x v=>opMapUpdate E t (valOf st m) (valOf st x) (valOf st v) st
 | .lookup t m x ok=>opLookup E t (valOf st m) (valOf st x) ok st
 | .range t m=>opRange E t (valOf st m) st
 | .entry x=>opEntry (valOf st x) st
 | .entryStore _ m s v=>opEntryStore (valOf st m) (valOf st s) (valOf st v) st
 | .slice t x lo hi mx=>(match valOf st x with | .box id off=>opSliceArr E t id off (lo.map (valOf st)) (hi.map (valOf st)) (mx.map (valOf st)) st | .row id off m len cap=>opSliceRow E t id off m len cap (lo.map (valOf st)) (hi.map (valOf st)) (mx.map (valOf st)) st | x=>opSlice E t x (lo.map (valOf st)) (hi.map (valOf st)) (mx.map (valOf st)) st)
 | .fieldAddr s x f=>opFieldAddr E s (valOf st x) f st
 | .field t x f=>opField E t (valOf st x) f st
 | .indexAddr t x i=>opIndexAddr E t (valOf st x) (valOf st i) st
 | .index t x i=>opIndex E t (valOf st x) (valOf st i) st
 | .extract x i=>opExtract (valOf st x) i st
 | .call { callee:=.builtin b,args,argTypes }=>opBuiltin E b argTypes.toList (args.toList.map (valOf st)) st
 | _=>none
def YOk (P:Program) (Y:YS):Prop :=
 ∀(r:Option Nat) (n:Nat) (k k1:Nat) (ps:List PV) (vs:List Value) (F:Nat→Prop) (S:Addr→Prop) (w:World),nxOf Y.any Y.ys k ps k1→Y.J k F S w→(∀b,F b→b<w.heap.size)→(∀a,S a→a.block<w.heap.size)→RVs S w ps vs →
  YieldAt ({ Fence.wide with round:=r }) n P Y.l vs.toArray w fun e w'=>∃(k':Nat) (F':Nat→Prop) (S':Addr→Prop),((e=.returned (.bool true)∧k'=k1)∨(e=.returned (.bool false)∧k'=outOf Y.any Y.ys))∧Y.J k' F' S' w' ∧
   Below 0 w w'∧(∀b,b<w.heap.size→¬F b→w'.heap[b]?=w.heap[b]?)∧(∀b,F' b→(F b∨w.heap.size≤b)∧b<w'.heap.size)∧(∀a,S a→S' a)∧(∀a,S a→Still w w' a) ∧
   (∀a,S' a→(S a∨F a.block∨w.heap.size≤a.block)∧a.block<w'.heap.size)
def SeqG (P:Program) (f:FuncId) (caps:List PV) (xs:List (List PV)) (an:Bool):Prop :=
 Enters P f∧∀(Y:YS) (r:Option Nat) (n:Nat) (F:Nat→Prop) (S:Addr→Prop) (w:World) (vs:List Value),Y.ys=xs→Y.any=an→YOk P Y→Y.J 0 F S w→(∀b,F b→b<w.heap.size)→(∀a,S a→a.block<w.heap.size)→RVs S w caps vs →
  CallsIn ({ Fence.wide with round:=r }) n P f (#[.func (.yield Y.l) #[] #[]]++vs.toArray) w fun e w'=>∃(v:Value) (k:Nat) (F':Nat→Prop) (S':Addr→Prop),e=.returned v∧(finOf an xs k∨k=outOf an xs)∧Y.J k F' S' w'∧Below 0 w w'
def SeqPV (P:Program) (f:FuncId) (caps:List PV) (xs:List (List PV)):Prop:=SeqG P f caps xs false
def wpCall (E:Env) (f:FuncId) (args:List PV) (K:PV→Prop):Prop:=∃r,CallsPV E.P f args r∧K r
def CallsR (E:Env) (f:FuncId) (svs:List SV) (bx:List (Option (List SV))) (tk:List (Nat × TypeId)) (ax:Ax) (Q:SV→List (Option (List SV))→List (Nat × TypeId)→Ax→Prop):Prop :=
 Enters E.P f∧∀(B:Nat) (S0:Addr→Prop) (w0:World) (G:Gh) (S:Addr→Prop) (w:World) (vs:List Value),Inv E B S0 bx tk ax G S w→Below B w0 w→svs.length=vs.length →
  (∀(i:Nat) (s:SV) (v:Value),svs[i]?=some s→vs[i]?=some v→RSV tk G S w s v) →
  Calls E.P f vs.toArray w fun e w'=>∃v r bx' tk' ax' G' S',Q r bx' tk' ax'∧e=.returned v∧Inv E B S0 bx' tk' ax' G' S' w'∧Below B w0 w'∧Ext tk G S w tk' G' S' w'∧RSV tk' G' S' w' r v
def rowsAt (E:Env) (ts:List TypeId):Bool :=
 match ts with
 | t::_=>E.rows&&!E.clo (2000000+t)
 | []=>E.rows
structure RowM where
 rows:Bool
 at_:List TypeId→Bool
def Env.rm (E:Env):RowM:=⟨E.rows,rowsAt E⟩
def Cap.sv:Cap→SV
 | .pv p=>.val p
 | .box id off=>.box id off
def wpDeep (E:Env) (f:FuncId) (svs:List SV) (st:St) (K:SV→St→Prop):Prop :=
 ∃Q,CallsR E f svs st.bx st.tk st.ax Q∧∀r bx' tk' ax',Q r bx' tk' ax'→K r ⟨st.sl,bx',tk',ax'⟩
def St.yks (st:St) (k:Nat):St:={ st with ax:={ st.ax with yk:=k } }
def wpYield (E:Env) (l:Nat) (ps:List PV) (st:St) (K:SV→St→Prop):Prop :=
 l=E.Y.l∧∃k1,nxOf E.Y.any E.Y.ys st.ax.yk ps k1∧K (.val (.bool true)) (st.yks k1)∧K (.val (.bool false)) (st.yks (outOf E.Y.any E.Y.ys))
def rowSV (id m:Nat) (xs:List PV) (s:SV):SV :=
 match s with
 | .msl i off len=>if i=id∧off=0∧len≤xs.length then .val (.list m (xs.take len)) else .msl i off len
 | .row i off m' len cap=>if i=id∧off=0∧m'=m∧len≤xs.length then .val (.list m (xs.take len)) else .row i off m' len cap
 | s=>sealSV id (xs.flatMap PV.cells) s
def St.sealRow (st:St) (id m:Nat) (xs:List PV):St:={ st with sl:=st.sl.map (rowSV id m xs),bx:=st.bx.set id none }
def mapSV (id:Nat) (ks vs:List PV):SV→SV
 | .mp i=>if i=id then .val (.map ks vs) else .mp i
 | s=>s
def St.sealMp (st:St) (id:Nat) (ks vs:List PV):St:={ st with sl:=st.sl.map (mapSV id ks vs),ax:={ st.ax with mp:=st.ax.mp.set id .gone } }
inductive Frz:St→List SV→St→List SV→Prop
 | refl (st:St) (l:List SV):Frz st l st l
 | still (id:Nat) (cs:List SV) (ps:List PV) (st st':St) (l l':List SV) (h1:st.bx.getD id none=some cs) (h2:pvsOf cs=some ps)
   (h3:Frz (st.sealBx id ps) (l.map (sealSV id ps)) st' l'):Frz st l st' l'
 | row (id m:Nat) (cs:List SV) (xs:List PV) (st st':St) (l l':List SV) (h1:st.bx.getD id none=some cs) (h2:cs=(xs.flatMap PV.cells).map SV.val) (hm:∀x∈xs,x.cells.length=m)
   (h3:Frz (st.sealRow id m xs) (l.map (rowSV id m xs)) st' l') (hm0:m≠0:=by decide):Frz st l st' l'
 | map (id:Nat) (es:List (PV × PV)) (mk:Option (PV × Int)) (ks vs:List PV) (st st':St) (l l':List SV) (h1:st.ax.mp[id]?=some (.ents es mk)) (h2:es.Perm (ks.zip vs)) (hl:ks.length=vs.length)
   (h3:Frz (st.sealMp id ks vs) (l.map (mapSV id ks vs)) st' l'):Frz st l st' l'
def freeze (st:St) (l:List SV) (K:List PV→St→Prop):Prop:=∃st' l' ps,Frz st l st' l'∧pvsOf l'=some ps∧K ps st'
def CallsFresh (P:Program) (f:FuncId) (m:Nat) (xs:List PV) (r:PV):Prop :=
 Enters P f∧∀(S:Addr→Prop) (w:World) (a:Addr) (cap:Nat) (vals:List Value),(∀a,S a→a.block<w.heap.size)→vals.length=xs.length*m→(∀(j:Nat) (v:Value),vals[j]?=some v→w.cell? (a.add j)=some v∧v.oneCell'=true) →
  RVs S w (xs.flatMap PV.cells) vals→xs.length≤cap→cap≤maxLen→Calls P f #[.slice (some a) xs.length cap] w fun e w'=>∃v,e=.returned v∧Below w.heap.size w w'∧RV (Snew S w w') w' r v
def lend (E:Env) (f:FuncId) (args:List SV) (st:St) (K:SV→St→Prop):Prop :=
 ∃(id off m len cap:Nat) (cells:List SV) (xs:List PV) (r:PV),args=[.row id off m len cap]∧st.bx.getD id none=some cells∧(cells.drop off).take (len*m)=(xs.flatMap PV.cells).map SV.val∧xs.length=len∧(∀x∈xs,x.cells.length=m) ∧
  CallsFresh E.P f m xs r∧K (.val r) st
def wpOpen (E:Env) (f:FuncId) (caps:List PV) (args:List SV) (st:St) (K:SV→St→Prop):Prop :=
 (freeze st args fun l st'=>wpCall E f (l++caps) fun r=>K (.val r) st')∨(caps=[]∧lend E f args st K)∨wpDeep E f (args++caps.map SV.val) st K
def wpAppR (E:Env) (ts:List TypeId) (xs:List SV) (st:St) (K:SV→St→Prop):Prop :=
 match ts,xs with
 | [t,t'],[s,y] =>
  match (E.T t).k,y.elems with
  | .slice e,some (m',ys) =>
   t=t'∧m'=(E.T e).size∧ys≠[]∧0<(E.T e).size∧(E.T e).zero.length=(E.T e).size ∧
   match s.litz with
   | .lit ms zs =>
    (ms=(E.T e).size∨zs=[])∧(zs.length+ys.length)*((E.T e).bytes+1)≤140737488355328 ∧
     ∀cap,zs.length+ys.length≤cap→cap≤maxLen→K (.row st.bx.length 0 (E.T e).size (zs.length+ys.length) cap)
      (st.newBx (((zs++ys).flatMap PV.cells).map SV.val++List.replicate ((cap - (zs.length+ys.length))*(E.T e).size) (.val .any)))
   | .row id off m len cap =>
    m=(E.T e).size∧(len+ys.length)*((E.T e).bytes+1)≤140737488355328∧∃cells,st.bx.getD id none=some cells∧off+cap*m≤cells.length ∧
     (len+ys.length≤cap→K (.row id off m (len+ys.length) cap) (st.setBx id (some (cells.take (off+len*m)++((ys.flatMap PV.cells).map SV.val++cells.drop (off+len*m+ys.length*m)))))) ∧
     (cap<len+ys.length→∀cap',len+ys.length≤cap'→cap'≤maxLen→K (.row st.bx.length 0 m (len+ys.length) cap')
      (st.newBx ((cells.drop off).take (len*m)++((ys.flatMap PV.cells).map SV.val++List.replicate ((cap' - (len+ys.length))*m) (.val .any)))))
   | _=>False
  | _,_=>False
 | _,_=>False
def argsOf (E:Env) (f:FuncId) (svs:List SV):Option (List PV):=match E.clo (5000000+f) with | true=>none | false=>pvsOf svs
theorem argsOf_some {E:Env} {f:FuncId} {svs:List SV} {l:List PV} (h:argsOf E f svs=some l):pvsOf svs=some l:=by
 unfold argsOf at h
 split at h
 ·cases h
 ·exact h
def nilOp:BinOp→Operand→Option Bool
 | .eql,.const (.slice none 0 0)=>some true
 | .neq,.const (.slice none 0 0)=>some false
 | _,_=>none
def wpNilq (E:Env) (b:Bool) (t:TypeId) (x:SV) (st:St) (K:SV→St→Prop):Prop :=
 match (E.T t).k,x.elems with
 | .slice _,some (m,xs) =>
  (xs=[]→K (.val (.bool b)) st)∧K (.val (.bool (!b))) st
 | _,_=>False
def wpOp (E:Env) (dr:Bool) (o:Op) (st:St) (K:SV→St→Prop):Prop :=
 match o with
 | .call { callee:=.value x,args,.. } =>
  match valOf st x with
  | .val (.fn f caps) =>
   match argsOf E f (args.toList.map (valOf st)) with
   | some l=>wpCall E f (l++caps) fun r=>K (.val r) st
   | none=>dr=false∧wpOpen E f caps (args.toList.map (valOf st)) st K
  | .clo f caps=>dr=false∧wpDeep E f (args.toList.map (valOf st)++caps.map Cap.sv) st K
  | .val (.yld l) =>
   match pvsOf (args.toList.map (valOf st)) with
   | some ps=>dr=false∧wpYield E l ps st K
   | none=>dr=false∧freeze st (args.toList.map (valOf st)) fun ps st'=>wpYield E l ps st' K
  | _=>False
 | .call { callee:=.builtin .append,args,argTypes } =>
  match rowsAt E argTypes.toList with
  | true=>dr=false∧wpAppR E argTypes.toList (args.toList.map (valOf st)) st K
  | false=>Res.go (evalOp E o st) K
 | .next x false=>dr=false∧wpNext (valOf st x) st K
 | .mapEntry t m x=>dr=false∧wpMapEntry E t (valOf st m) (valOf st x) st K
 | .binOp op t x y u =>
  match nilOp op y with
  | some b=>dr=false∧wpNilq E b t (valOf st x) st K
  | none=>Res.go (evalOp E (.binOp op t x y u) st) K
 | o=>Res.go (evalOp E o st) K
def dstOf (ops:List Oper) (j:Nat):Option Tmp:=(ops[j]?).bind (·.dst)
def wpOps (E:Env) (dr:Bool) (ops:List Oper):List Oper→St→(St→Prop)→Prop
 | [],st,K=>K st
 | o::rest,st,K =>
  match o.guard with
  | none=>wpOp E dr o.op st fun v st'=>wpOps E dr ops rest (st'.put o.dst v) K
  | some (j,want) =>
   match dstOf ops j with
   | none=>False
   | some t =>
    match st.sl.getD t .undef with
    | .undef=>wpOps E dr ops rest (st.put o.dst .undef) K
    | .val (.bool b) =>
     (b=want→wpOp E dr o.op (st.put (some t) (.val (.bool want))) fun v st'=>wpOps E dr ops rest (st'.put o.dst v) K) ∧
     (b=!want→wpOps E dr ops rest ((st.put (some t) (.val (.bool (!want)))).put o.dst .undef) K)
    | _=>False
def allL:List Nat→(Nat→Prop)→Prop
 | [],_=>True
 | [i],f=>f i
 | i::r,f=>f i∧allL r f
theorem allL_get {f:Nat→Prop}:∀{l:List Nat},allL l f→∀i∈l,f i
 | [],_,i,hi=>by cases hi
 | [j],h,i,hi=>by rw [List.mem_singleton] at hi;subst hi;exact h
 | j::k::r,h,i,hi=>by
  rcases List.mem_cons.1 hi with rfl | hi
  ·exact h.1
  ·exact allL_get h.2 i hi
theorem allL_mono {f g:Nat→Prop} (hk:∀i,f i→g i):∀{l:List Nat},allL l f→allL l g
 | [],_=>trivial
 | [_],h=>hk _ h
 | _::_::_,h=>⟨hk _ h.1,allL_mono hk h.2⟩
def wpAll (E:Env) (ops:Array Oper):Nat→Array Bool→St→(St→Prop)→Prop
 | 0,listed,st,K=>(match Region.ready .any ops listed with | []=>K st | _=>False)
 | fuel+1,listed,st,K=>(match Region.ready .any ops listed with
  | []=>K st
  | i::r=>allL (i::r) fun i=>(match ops[i]? with
   | none=>False
   | some o=>wpOps E false ops.toList [o] st fun st'=>wpAll E ops fuel (listed.setIfInBounds i true) st' K))
inductive DMode where
 | text
 | each
 | cut (c:Nat)
def cutAt (E:Env) (id:Nat):Nat→Nat→Option Nat
 | 0,_=>none
 | n+1,c=>match E.clo (3000000+100*id+c) with | true=>some c | false=>cutAt E id n (c+1)
def drawMode (E:Env) (draw:Bool) (id n:Nat):DMode :=
 match draw&&E.clo (1000000+id) with
 | false=>.text
 | true=>match cutAt E id n 0 with | none=>.each | some c=>.cut c
theorem drawMode_draw {E:Env} {draw:Bool} {id n:Nat} (h:drawMode E draw id n≠.text):draw=true:=by
 cases draw with
 | true=>rfl
 | false=>exact absurd rfl h
end Go.Abs
/-
  The abstract walk is sound, operation by operation: the first part, operations that leave memory alone.
-/
namespace Go.Abs
open Go.RowKit
def isAggD:TypeDesc→Bool
 | .struct _ | .array _ _=>true
 | _=>false
def flatFields (P:Program) (F:TypeId→Option (List SK)) (off:Nat):List Field→Option (List SK)
 | []=>some []
 | f::r =>
  if f.name≠"_"∧f.offset=off then
   match F f.type with
   | none=>none
   | some ks=>if ks.length=P.cellsOf f.type∧ks≠[] then (flatFields P F (off+ks.length) r).map (ks++·) else none
  else none
def flatK (P:Program):Nat→TypeId→Option (List SK)
 | 0,_=>none
 | d+1,t =>
  match P.underlying t with
  | some .bool=>some [.bool]
  | some (.int _)=>some [.int]
  | some .string=>some [.str]
  | some (.struct fs)=>if P.stoodInHeld t then none else flatFields P (flatK P d) 0 fs.toList
  | _=>none
def KOk (P:Program) (t:TypeId):TK→Prop
 | .int k=>P.underlying t=some (.int k)
 | .bool=>P.underlying t=some .bool
 | .str=>P.underlying t=some .string
 | .slice e=>P.underlying t=some (.slice e)
 | .struct fs=>∃F:Array Field,P.underlying t=some (.struct F)∧F.toList.map (fun f=>(f.offset,f.type))=fs
 | .array n e=>P.underlying t=some (.array n e)
 | .ptr e=>P.underlying t=some (.pointer e)
 | .map k e=>P.underlying t=some (.map k e)
 | .func=>True
 | .other=>True
structure TDOk (P:Program) (T:TypeId→TD) (t:TypeId):Prop where
 k:KOk P t (T t).k
 info:(T t).size≠0∨(T t).agg=true→∃(i:TypeInfo) (z:Value) (u:TypeDesc),P.info? t=some i∧i.size=(T t).size∧i.bytes=(T t).bytes∧i.zero=some z ∧
  z.cells.toList.map constPV=(T t).zero∧(∀v∈z.cells.toList,v.oneCell'=true)∧z.cells.size=i.size∧(if (T t).agg then ∃cs,z=.agg cs else z.oneCell'=true)∧P.underlying t=some u∧isAggD u=(T t).agg
 eq:∀ks,(T t).eq=some ks→∃d,d<9999∧flatK P d t=some ks∧P.eqGuardType P.depth t=false∧∃fs,P.underlying t=some (.struct fs)
structure EnvOk (E:Env):Prop where
 td:∀t,TDOk E.P E.T t
 mixed:E.P.follows .mixedOrders=true
 yok:YOk E.P E.Y
structure Rel (E:Env) (B:Nat) (S0:Addr→Prop) (w0:World) (st:St) (G:Gh) (S:Addr→Prop) (w:World) (tmps:Array Value):Prop where
 inv:Inv E B S0 st.bx st.tk st.ax G S w
 below:Below B w0 w
 len:st.sl.length=tmps.size
 sl:∀(t:Nat) (s:SV) (v:Value),st.sl[t]?=some s→tmps[t]?=some v→RSV st.tk G S w s v
section
variable {E:Env} {B:Nat} {S0:Addr→Prop} {w0:World} {st:St} {G:Gh} {S:Addr→Prop} {w:World} {tmps:Array Value}
theorem RV.const (v:Value):RV S w (constPV v) v:=by
 unfold constPV
 split
 ·exact .int _ _
 ·exact .bool _
 ·exact .str _
 ·have:=RV.list (S:=S) (w:=w) 0 [] none ⟨0,0,none⟩ 0 (fun _ _=>undef) (by simp) (by simp) (by simp [maxLen]) (by simp) (by simp) (by simp) (fun _=>rfl)
  simpa using this
 ·exact .mapNil
 ·exact .any _
theorem RVs.const (vs:List Value):RVs S w (vs.map constPV) vs :=
 ⟨by simp,fun i p v h1 h2=>by
  rw [List.getElem?_map,h2] at h1
  simp at h1
  subst h1
  exact RV.const v⟩
theorem RV.list_nil (m:Nat) (a:Option Addr) (cap:Nat) (hcap:cap≤maxLen) (hz:m=0→cap=0:=by first | (intro h;exact absurd h (by decide)) | exact fun _=>rfl):RV S w (.list m []) (.slice a 0 cap):=by
 have:=RV.list (S:=S) (w:=w) m [] a ⟨0,0,none⟩ cap (fun _ _=>undef) (by simp) (by simp) hcap (by simp) (by simp) (by simp) hz
 simpa using this
theorem RSV.litE {tk:List (Nat × TypeId)} {s:SV} {v:Value} (h:RSV tk G S w s v):RSV tk G S w s.litE v:=by
 unfold SV.litE
 split
 ·obtain ⟨h1,a,rfl⟩:=h
  exact ⟨RV.list_nil 0 a 0 (by simp [maxLen]),a,rfl⟩
 ·exact h
theorem RSV.const (tk:List (Nat × TypeId)) (v:Value):RSV tk G S w (ofConst v) v:=by
 unfold ofConst
 split
 ·exact RV.int _ _
 ·exact RV.bool _
 ·exact RV.str _
 ·exact ⟨RV.list_nil 0 none 0 (by simp [maxLen]),none,rfl⟩
 ·rename_i cs
  have:=RV.agg (S:=S) (w:=w) (cs.toList.map constPV) cs.toList (by simp) (RVs.const cs.toList).2
  simpa [RSV] using this
 ·exact RV.mapNil
 ·exact RV.any _
theorem Rel.val (R:Rel E B S0 w0 st G S w tmps) (x:Operand) (d:List Deferred):RSV st.tk G S w (valOf st x) (({ tmps:=tmps,defers:=d }:Act).eval x):=by
 cases x with
 | const v=>exact RSV.const _ v
 | global g=>exact RV.any _
 | func f =>
  have:=RV.fn (S:=S) (w:=w) f [] [] rfl (by simp)
  simpa [RSV,valOf,Act.eval] using this
 | tmp t =>
  simp only [valOf,Act.eval]
  by_cases ht:t<st.sl.length
  ·have ht':t<tmps.size:=by rw [←R.len];exact ht
   refine R.sl t _ _ ?_ ?_
   ·simp [List.getD,ht]
   ·simp [ht']
  ·have ht':¬t<tmps.size:=by rw [←R.len];exact ht
   simp [List.getD,List.getElem?_eq_none (Nat.le_of_not_lt ht),Array.getD,ht',RSV]
def OpOk (E:Env) (B:Nat) (S0:Addr→Prop) (w0:World) (r:Option Res) (G:Gh) (S:Addr→Prop) (w:World) (tk:List (Nat × TypeId)) (tmps:Array Value) (s:Sem Next):Prop :=
 ∀r',r=some r'→r'.side→∃nx v w',s.run E.P w=.ok nx w'∧(nx=.value v∨(nx=.skip∧v=undef)) ∧
  ∃G' S',Rel E B S0 w0 r'.st G' S' w' tmps∧RSV r'.st.tk G' S' w' r'.v v∧Ext tk G S w r'.st.tk G' S' w'
theorem OpOk.same {r:Option Res} {s:Sem Next} (R:Rel E B S0 w0 st G S w tmps)
  (h:∀r',r=some r'→r'.side→r'.st=st∧∃v,s.run E.P w=.ok (.value v) w∧RSV st.tk G S w r'.v v):OpOk E B S0 w0 r G S w st.tk tmps s:=by
 intro r' hr hs
 obtain ⟨h1,v,h2,h3⟩:=h r' hr hs
 exact ⟨_,v,w,h2,.inl rfl,G,S,by rw [h1];exact R,by rw [h1];exact h3,by rw [h1];exact Ext.refl _ _ _ _⟩
theorem RV.of_one {p:PV} {v:Value} (h:RV S w p v) (hp:p.one=true):v.oneCell'=true:=by
 cases h<;>simp_all [PV.one,Value.oneCell']
theorem RSV.of_one {tk:List (Nat × TypeId)} {s:SV} {v:Value} (h:RSV tk G S w s v) (hs:s.one=true):v.oneCell'=true:=by
 cases s with
 | undef=>cases hs
 | val p=>exact RV.of_one h hs
 | lit m xs=>obtain ⟨_,a,rfl⟩:=h;rfl
 | own t m xs=>obtain ⟨h,_⟩:=h;exact RV.of_one h rfl
 | box id off=>obtain ⟨b,_,rfl⟩:=h;rfl
 | msl id off len=>obtain ⟨b,cap,_,rfl,_⟩:=h;rfl
 | clo f caps=>obtain ⟨vs,rfl,_⟩:=h;rfl
 | rbx id off i m k=>obtain ⟨b,_,rfl⟩:=h;rfl
 | mp id=>obtain ⟨b,_,rfl⟩:=h;rfl
 | row id off m len cap=>obtain ⟨b,_,rfl,_⟩:=h;rfl
 | it id=>obtain ⟨b,_,rfl⟩:=h;rfl
 | mtup id ps=>cases hs
theorem ok_move (R:Rel E B S0 w0 st G S w tmps) (x:Operand) (d:List Deferred) :
  OpOk E B S0 w0 (some ⟨True,valOf st x,st⟩) G S w st.tk tmps (pure (.value (({ tmps:=tmps,defers:=d }:Act).eval x))) :=
 OpOk.same R fun r' hr _=>by cases hr;exact ⟨rfl,_,rfl,R.val x d⟩
theorem ok_pick (R:Rel E B S0 w0 st G S w tmps) {c a b:SV} {vc va vb:Value} (hc:RSV st.tk G S w c vc) (ha:RSV st.tk G S w a va) (hb:RSV st.tk G S w b vb) :
  OpOk E B S0 w0 (opPick c a b st) G S w st.tk tmps (do pure (.value (if ←asBool vc then va else vb))) :=
 OpOk.same R fun r' hr hs=>by
  unfold opPick at hr
  split at hr
  ·cases hr
   cases hc
   rename_i q
   refine ⟨rfl,if q then va else vb,by simp [asBool],?_⟩
   cases q
   ·exact hb
   ·exact ha
  ·cases hr
theorem run_sizeOf' {P:Program} {t:TypeId} {i:TypeInfo} (h:P.info? t=some i) (w:World):(sizeOf t).run P w=.ok i.size w:=by
 simp [sizeOf,typeInfo,h]
theorem Addr.add_add' (a:Addr) (i j:Nat):(a.add i).add j=a.add (i+j):=by
 unfold Addr.add
 by_cases hi:i=0<;>by_cases hj:j=0<;>simp [hi,hj,Nat.add_assoc]
theorem addr_box (b o n:Nat):(⟨b,o,none⟩:Addr).add n=⟨b,o+n,none⟩:=by
 unfold Addr.add;split<;>simp_all
theorem ok_fieldAddr (hE:EnvOk E) (R:Rel E B S0 w0 st G S w tmps) {s:TypeId} {x:SV} {f:Nat} {vx:Value} (hx:RSV st.tk G S w x vx) :
  OpOk E B S0 w0 (opFieldAddr E s x f st) G S w st.tk tmps (do pure (.value (←Instr.fieldAt s vx f))) :=
 OpOk.same R fun r' hr _=>by
  unfold opFieldAddr at hr
  have hk:=(hE.td s).k
  split at hr
  ·rename_i fs hs
   rw [hs] at hk
   obtain ⟨F,hu,hF⟩:=hk
   split at hr
   ·rename_i o ft hf
    have hFf:∃fd,F[f]?=some fd∧fd.offset=o∧fd.type=ft:=by
     rw [←hF,List.getElem?_map] at hf
     cases hq:F.toList[f]? with
     | none=>simp [hq] at hf
     | some fd=>simp [hq] at hf;exact ⟨fd,by simpa using hq,hf.1,hf.2⟩
    obtain ⟨fd,hfd,ho,hft⟩:=hFf
    split at hr
    ·cases hr
    ·rename_i hz
     obtain ⟨i,z,u,hi,hsz,_⟩:=(hE.td ft).info (.inl hz)
     have hrun:∀a,(Instr.fieldAt s (.pointer (some a)) f).run E.P w=.ok (.pointer (some (a.add o))) w:=by
      intro a
      simp [Instr.fieldAt,run_underlying hu,hfd,Instr.sureAddr,fieldPlace,hft,run_sizeOf' hi,hsz,hz,ho]
     split at hr
     ·cases hr
      cases hx with
      | ptr cs off ad g hc hrr =>
       refine ⟨rfl,_,by simp [hrun];rfl,?_⟩
       rw [Addr.add_add']
       exact RV.ptr _ _ ad g hc hrr
     ·cases hr
      obtain ⟨b,hb,rfl⟩:=hx
      refine ⟨rfl,_,by simp [hrun];rfl,b,hb,?_⟩
      rw [addr_box]
     ·cases hr
      obtain ⟨b,hb,rfl⟩:=hx
      refine ⟨rfl,_,by simp [hrun];rfl,b,hb,?_⟩
      rw [addr_box,Nat.add_assoc]
     ·cases hr
   ·cases hr
  ·cases hr
theorem ok_extract (R:Rel E B S0 w0 st G S w tmps) {x:SV} {i:Nat} {vx:Value} (hx:RSV st.tk G S w x vx) :
  OpOk E B S0 w0 (opExtract x i st) G S w st.tk tmps (do pure (.value (←Instr.extract vx i))) :=
 OpOk.same R fun r' hr _=>by
  unfold opExtract at hr
  split at hr
  ·rename_i vs
   split at hr
   ·rename_i p hp
    cases hr
    obtain ⟨us,rfl,hl,hu⟩:=RV.tup_iff hx
    have hi:i<us.length:=by rw [←hl];exact (List.getElem?_eq_some_iff.1 hp).1
    refine ⟨rfl,us[i],?_,hu i p _ hp (List.getElem?_eq_getElem hi)⟩
    simp [Instr.extract,hi]
   ·cases hr
  ·rename_i id ps
   obtain ⟨b,vs,hb,rfl,hl,hv⟩:=hx
   split at hr
   ·cases hr
    exact ⟨rfl,.map (some b),by simp [Instr.extract],b,hb,rfl⟩
   ·rename_i j
    split at hr
    ·rename_i p hp
     cases hr
     have hi:j<vs.length:=by rw [←hl];exact (List.getElem?_eq_some_iff.1 hp).1
     refine ⟨rfl,vs[j],?_,hv j p _ hp (List.getElem?_eq_getElem hi)⟩
     simp [Instr.extract,hi]
    ·cases hr
  ·cases hr
theorem ok_un (R:Rel E B S0 w0 st G S w tmps) {op:UnOp} {x:SV} {vx:Value} (hx:RSV st.tk G S w x vx) :
  OpOk E B S0 w0 (opUn op x st) G S w st.tk tmps (do pure (.value (←Op.unary op vx))) :=
 OpOk.same R fun r' hr hside=>by
  unfold opUn at hr
  split at hr
  ·cases hr
   cases hx
   exact ⟨rfl,_,by simp [Op.unary],RV.bool _⟩
  ·cases hr
   cases hx
   rename_i n
   refine ⟨rfl,_,by simp [Op.unary,Op.intArith];rfl,?_⟩
   have:IntKind.i64.wrap (-n)=-n:=by
    simp only at hside
    rw [IntKind.wrap_i64]
    omega
   rw [this]
   exact RV.int _ _
  ·cases hr
   cases hx
   exact ⟨rfl,.int .u64 _,rfl,RV.int _ _⟩
  ·cases hr
/-! ### Reading memory -/
theorem RVs.drop_take {cs:List PV} {vs:List Value} (h:RVs S w cs vs) (o n:Nat):RVs S w ((cs.drop o).take n) ((vs.drop o).take n) :=
 ⟨by simp [h.1],fun i p v h1 h2=>by
  rw [List.getElem?_take] at h1 h2
  split at h1
  ·rename_i hlt
   rw [if_pos hlt,List.getElem?_drop] at h2
   rw [List.getElem?_drop] at h1
   exact h.2 _ p v h1 h2
  ·cases h1⟩
theorem run_loadVar_agg {t:TypeId} {u:TypeDesc} {i:TypeInfo} (hu:E.P.underlying t=some u) (hag:isAggD u=true) (hi:E.P.info? t=some i) (a:Addr) (cs:List Value) (hl:cs.length=i.size)
  (h:∀j v,cs[j]?=some v→w.cell? (a.add j)=some v):(loadVar t a).run E.P w=.ok (.agg cs.toArray) w:=by
 have hg:(isAgg t).run E.P w=.ok true w:=by
  unfold isAgg
  cases u<;>simp_all [isAggD,run_underlying hu]
 simp [loadVar,hg,run_sizeOf' hi,←hl,run_loadCells_list w a cs h]
theorem run_loadVar_one {t:TypeId} {u:TypeDesc} (hu:E.P.underlying t=some u) (hag:isAggD u=false) (a:Addr) (v:Value) (h:w.cell? a=some v):(loadVar t a).run E.P w=.ok v w:=by
 have hg:(isAgg t).run E.P w=.ok false w:=by
  unfold isAgg
  cases u<;>simp_all [isAggD,run_underlying hu]
 simp [loadVar,hg,h]
theorem ptr_cells {cs:List PV} {ad:Addr} {g:Nat→Value} (hc:∀(j:Nat) (c:PV),cs[j]?=some c→S (ad.add j)∧w.cell? (ad.add j)=some (g j)∧(g j).oneCell'=true)
  (hr:∀(j:Nat) (c:PV),cs[j]?=some c→RV S w c (g j)) (off n:Nat) (hn:off+n≤cs.length) :
  ∃vs:List Value,vs.length=n∧(∀j v,vs[j]?=some v→w.cell? ((ad.add off).add j)=some v)∧RVs S w ((cs.drop off).take n) vs:=by
 refine ⟨(List.range n).map fun j=>g (off+j),by simp,fun j v hv=>?_,by simp;omega,fun j p v h1 h2=>?_⟩
 ·rw [List.getElem?_map] at hv
  by_cases hj:j<n
  ·simp [hj] at hv
   subst hv
   rw [Addr.add_add']
   exact (hc (off+j) _ (List.getElem?_eq_getElem (by omega))).2.1
  ·simp [hj] at hv
 ·rw [List.getElem?_map] at h2
  rw [List.getElem?_take] at h1
  by_cases hj:j<n
  ·simp [hj] at h2
   subst h2
   rw [if_pos hj,List.getElem?_drop] at h1
   exact hr _ _ h1
  ·simp [hj] at h1
theorem pvsOf_length:∀{l:List SV} {ps:List PV},pvsOf l=some ps→ps.length=l.length
 | [],ps,h=>by simp [pvsOf] at h;subst h;rfl
 | s::r,ps,h=>by
  unfold pvsOf at h
  split at h
  ·rename_i p q _ hq
   cases h
   simp [pvsOf_length hq]
  ·cases h
theorem pvsOf_get:∀{l:List SV} {ps:List PV},pvsOf l=some ps→∀(i:Nat) (p:PV),ps[i]?=some p→∃s,l[i]?=some s∧s.pv=some p
 | [],ps,h,i,p,hp=>by simp [pvsOf] at h;subst h;simp at hp
 | s::r,ps,h,i,p,hp=>by
  unfold pvsOf at h
  split at h
  ·rename_i q qs h1 h2
   cases h
   cases i with
   | zero=>simp at hp;subst hp;exact ⟨s,rfl,h1⟩
   | succ i =>
    obtain ⟨s',a,b⟩:=pvsOf_get h2 i p (by simpa using hp)
    exact ⟨s',by simpa using a,b⟩
  ·cases h
theorem RSVs.pvs {tk:List (Nat × TypeId)} {l:List SV} {ps:List PV} {vs:List Value} (h:pvsOf l=some ps) (hl:l.length=vs.length)
  (hr:∀(i:Nat) (s:SV) (v:Value),l[i]?=some s→vs[i]?=some v→RSV tk G S w s v):RVs S w ps vs :=
 ⟨by rw [pvsOf_length h,hl],fun i p v h1 h2=>by
  obtain ⟨s,a,b⟩:=pvsOf_get h i p h1
  exact RSV.pv (hr i s v a h2) b⟩
theorem Inv.read (hI:Inv E B S0 st.bx st.tk st.ax G S w) {id b:Nat} {cs:List SV} (hb:G.bx[id]?=some b) (hc:st.bx.getD id none=some cs) :
  ∃(t:TypeId) (arr:Array Value),w.heap[b]?=some (.cells arr t (0,0))∧arr.size=cs.length ∧
   (∀(j:Nat) (c:SV) (v:Value),cs[j]?=some c→arr[j]?=some v→RSV st.tk G S w c v∧v.oneCell'=true)∧(∀j,w.cell? ⟨b,j,none⟩=arr[j]?)∧∀a,S a→a.block≠b:=by
 have h:st.bx[id]?=some (some cs):=by
  rw [List.getD_eq_getElem?_getD] at hc
  cases h:st.bx[id]? with
  | none=>simp [h] at hc
  | some x=>simp [h] at hc;rw [hc]
 obtain ⟨⟨t,arr,h1,h2,h3⟩,h4⟩:=hI.box id b cs h hb
 exact ⟨t,arr,h1,h2,h3,fun j=>by simp [World.cell?,h1],h4⟩
theorem load_same (hE:EnvOk E) (R:Rel E B S0 w0 st G S w tmps) {t:TypeId} {x:SV} {vx:Value} (hx:RSV st.tk G S w x vx) :
  ∀r',opLoad E t x st=some r'→r'.side→r'.st=st∧∃v,(do pure (Next.value (←Instr.loadAt t vx)):Sem Next).run E.P w=.ok (.value v) w∧RSV st.tk G S w r'.v v :=
 fun r' hr hside=>by
  unfold opLoad at hr
  split at hr
  ·rename_i cs off
   cases hx with
   | ptr _ _ ad g hc hrr =>
    split at hr
    ·rename_i hag
     cases hr
     obtain ⟨i,z,u,hi,hsz,_,_,_,_,_,_,hu,hua⟩:=(hE.td t).info (.inr hag)
     obtain ⟨vs,hl,hcell,hrv⟩:=ptr_cells hc hrr off (E.T t).size hside
     refine ⟨rfl,_,by simp [Instr.loadAt,Instr.sureAddr,run_loadVar_agg hu (by rw [hua,hag]) hi (ad.add off) vs (by rw [hl,hsz]) hcell];rfl,?_⟩
     exact RV.agg _ vs hrv.1 hrv.2
    ·rename_i hag
     split at hr
     ·rename_i h1
      cases hr
      obtain ⟨i,z,u,hi,hsz,_,_,_,_,_,_,hu,hua⟩:=(hE.td t).info (.inl (by omega))
      have hside':off<cs.length:=hside
      have hcs:cs[off]?=some cs[off]:=List.getElem?_eq_getElem hside'
      obtain ⟨_,hcell,_⟩:=hc off _ hcs
      refine ⟨rfl,_,by simp [Instr.loadAt,Instr.sureAddr,run_loadVar_one hu (by rw [hua];simpa using hag) (ad.add off) _ hcell];rfl,?_⟩
      show RV S w (cs.getD off .any) _
      rw [List.getD_eq_getElem?_getD,hcs]
      exact hrr off _ hcs
     ·cases hr
  ·rename_i id off
   obtain ⟨b,hb,rfl⟩:=hx
   split at hr
   ·rename_i cs hcs
    obtain ⟨ty,arr,hh,hl,hrr,hcell,_⟩:=R.inv.read hb hcs
    split at hr
    ·rename_i hag
     obtain ⟨i,z,u,hi,hsz,_,_,_,_,_,_,hu,hua⟩:=(hE.td t).info (.inr hag)
     split at hr
     ·rename_i l hps
      cases hr
      have hside':off+(E.T t).size≤cs.length:=hside
      have hrv:RVs S w l ((arr.toList.drop off).take (E.T t).size):=RSVs.pvs (tk:=st.tk) (G:=G) hps (by simp [hl]) (fun i s v h1 h2=>by
       rw [List.getElem?_take] at h1 h2
       split at h1
       ·rename_i hlt
        rw [if_pos hlt,List.getElem?_drop] at h2
        rw [List.getElem?_drop] at h1
        exact (hrr _ s v h1 (by simpa using h2)).1
       ·cases h1)
      refine ⟨rfl,_,by
       simp [Instr.loadAt,Instr.sureAddr,run_loadVar_agg hu (by rw [hua,hag]) hi ⟨b,off,none⟩ ((arr.toList.drop off).take (E.T t).size) (by simp [hl,hsz];omega) (fun j v hv=>by
        rw [addr_box,hcell]
        rw [List.getElem?_take] at hv
        split at hv
        ·rw [List.getElem?_drop] at hv;simpa using hv
        ·cases hv)]
       rfl,?_⟩
      exact RV.agg _ _ hrv.1 hrv.2
     ·cases hr
    ·rename_i hag
     split at hr
     ·rename_i h1
      cases hr
      obtain ⟨i,z,u,hi,hsz,_,_,_,_,_,_,hu,hua⟩:=(hE.td t).info (.inl (by omega))
      have hside':off<cs.length:=hside
      have hva:arr[off]?=some arr[off]:=Array.getElem?_eq_getElem (by omega)
      refine ⟨rfl,_,by simp [Instr.loadAt,Instr.sureAddr,run_loadVar_one hu (by rw [hua];simpa using hag) ⟨b,off,none⟩ arr[off] (by rw [hcell];exact hva)];rfl,?_⟩
      rw [List.getD_eq_getElem?_getD,List.getElem?_eq_getElem hside']
      exact (hrr off _ _ (List.getElem?_eq_getElem hside') hva).1
     ·cases hr
   ·cases hr
  ·cases hr
theorem ok_load (hE:EnvOk E) (R:Rel E B S0 w0 st G S w tmps) {t:TypeId} {x:SV} {vx:Value} (hx:RSV st.tk G S w x vx) :
  OpOk E B S0 w0 (opLoad E t x st) G S w st.tk tmps (do pure (.value (←Instr.loadAt t vx))) :=
 OpOk.same R (load_same hE R hx)
end
end Go.Abs
/-
  The abstract walk is sound: the second part: parts, indexes, slices, numbers.
-/
namespace Go.Abs
open Go.RowKit
section
variable {E:Env} {B:Nat} {S0:Addr→Prop} {w0:World} {st:St} {G:Gh} {S:Addr→Prop} {w:World} {tmps:Array Value}
theorem run_isAgg' {t:TypeId} {u:TypeDesc} (hu:E.P.underlying t=some u) (w:World):(isAgg t).run E.P w=.ok (isAggD u) w:=by
 unfold isAgg
 cases u<;>simp [isAggD,run_underlying hu]
theorem ok_field (hE:EnvOk E) (R:Rel E B S0 w0 st G S w tmps) {t:TypeId} {x:SV} {f:Nat} {vx:Value} (hx:RSV st.tk G S w x vx) :
  OpOk E B S0 w0 (opField E t x f st) G S w st.tk tmps (do pure (.value (←Instr.field t vx f))) :=
 OpOk.same R fun r' hr hside=>by
  unfold opField at hr
  have hk:=(hE.td t).k
  split at hr
  ·rename_i fs cs hs
   rw [hs] at hk
   obtain ⟨F,hu,hF⟩:=hk
   obtain ⟨vs,rfl,hl,hv⟩:=RV.agg_iff hx
   split at hr
   ·rename_i o ft hf
    have hFf:∃fd,F[f]?=some fd∧fd.offset=o∧fd.type=ft:=by
     rw [←hF,List.getElem?_map] at hf
     cases hq:F.toList[f]? with
     | none=>simp [hq] at hf
     | some fd=>simp [hq] at hf;exact ⟨fd,by simpa using hq,hf.1,hf.2⟩
    obtain ⟨fd,hfd,ho,hft⟩:=hFf
    split at hr
    ·rename_i hag
     cases hr
     obtain ⟨i,z,u,hi,hsz,_,_,_,_,_,_,huu,hua⟩:=(hE.td ft).info (.inr hag)
     have hrv:=RVs.drop_take ⟨hl,hv⟩ o (E.T ft).size
     refine ⟨rfl,.agg ((vs.drop o).take (E.T ft).size).toArray,?_,RV.agg _ _ hrv.1 hrv.2⟩
     simp [Instr.field,run_underlying hu,hfd,part,hft,run_isAgg' huu,hua,hag,asAgg,run_sizeOf' hi,hsz,ho]
     try (apply Array.ext';simp [List.take_drop,Nat.add_comm])
    ·rename_i hag
     split at hr
     ·rename_i h1
      cases hr
      obtain ⟨i,z,u,hi,hsz,_,_,_,_,_,_,huu,hua⟩:=(hE.td ft).info (.inl (by omega))
      have hside':o<cs.length:=hside
      have hvs:o<vs.length:=by omega
      refine ⟨rfl,vs[o],?_,?_⟩
      ·simp [Instr.field,run_underlying hu,hfd,part,hft,run_isAgg' huu,hua,hag,asAgg,ho,hvs]
      ·show RV S w (cs.getD o .any) _
       rw [List.getD_eq_getElem?_getD,List.getElem?_eq_getElem hside']
       exact hv o _ _ (List.getElem?_eq_getElem hside') (List.getElem?_eq_getElem hvs)
     ·cases hr
   ·cases hr
  ·cases hr
theorem RSV.elems {tk:List (Nat × TypeId)} {x:SV} {v:Value} {m:Nat} {xs:List PV} (h:RSV tk G S w x v) (he:x.elems=some (m,xs)):RV S w (.list m xs) v:=by
 cases x with
 | undef=>cases he
 | val p=>cases p<;>simp [SV.elems] at he;obtain ⟨rfl,rfl⟩:=he;exact h
 | lit m' xs'=>simp [SV.elems] at he;obtain ⟨rfl,rfl⟩:=he;exact h.1
 | own t m' xs'=>simp [SV.elems] at he;obtain ⟨rfl,rfl⟩:=he;exact h.1
 | box id off=>cases he
 | msl id off len=>cases he
 | clo f caps=>cases he
 | rbx id off i m k=>cases he
 | mp id=>cases he
 | row id off m len cap=>cases he
 | it id=>cases he
 | mtup id ps=>cases he
theorem RV.slice_iff {m:Nat} {xs:List PV} {v:Value} (h:RV S w (.list m xs) v) :
  ∃(a:Option Addr) (ad:Addr) (cap:Nat) (g:Nat→Nat→Value),v=.slice a xs.length cap∧(xs≠[]→a=some ad)∧xs.length≤cap∧cap≤maxLen∧(∀(i:Nat) (x:PV),xs[i]?=some x→x.cells.length=m) ∧
   (∀(i:Nat) (x:PV) (j:Nat) (c:PV),xs[i]?=some x→x.cells[j]?=some c→S (ad.add (i*m+j))∧w.cell? (ad.add (i*m+j))=some (g i j)∧(g i j).oneCell'=true) ∧
   (∀(i:Nat) (x:PV) (j:Nat) (c:PV),xs[i]?=some x→x.cells[j]?=some c→RV S w c (g i j)):=by
 cases h with
 | list _ _ a ad cap g ha hcap hmax hm hc hr hz=>exact ⟨a,ad,cap,g,rfl,ha,hcap,hmax,hm,hc,hr⟩
theorem RV.nilz {m:Nat} {xs:List PV} {a:Option Addr} {n cap:Nat} (h:RV S w (.list m xs) (.slice a n cap)):m=0→cap=0:=by
 cases h with
 | list _ _ a ad cap g ha hcap hmax hm hc hr hz=>exact hz
theorem intOfSV_rel {tk:List (Nat × TypeId)} {x:SV} {v:Value} {k:IntKind} {n:Int} (h:RSV tk G S w x v) (hi:intOfSV x=some (k,n)):v=.int k n:=by
 unfold intOfSV at hi
 split at hi
 ·cases hi;cases h;rfl
 ·cases hi
theorem run_indexAt_slice {t e:TypeId} {i:TypeInfo} (hu:E.P.underlying t=some (.slice e)) (hi:E.P.info? e=some i) (ad:Addr) (len cap:Nat) (k:IntKind) (n:Int) (h0:0≤n) (h1:n<len) :
  (Instr.indexAt t (.slice (some ad) len cap) (.int k n)).run E.P w=.ok (.pointer (some (ad.add (n.toNat*i.size)))) w:=by
 simp [Instr.indexAt,asIntOf,run_underlying hu,h0,h1,run_sizeOf' hi]
theorem run_indexAt_array {t e:TypeId} {c:Nat} {i:TypeInfo} (hu:E.P.underlying t=some (.array c e)) (hi:E.P.info? e=some i) (ad:Addr) (k:IntKind) (n:Int) (h0:0≤n) (h1:n<c) :
  (Instr.indexAt t (.pointer (some ad)) (.int k n)).run E.P w=.ok (.pointer (some (ad.add (n.toNat*i.size)))) w:=by
 simp [Instr.indexAt,asIntOf,run_underlying hu,h0,h1,run_sizeOf' hi,Instr.sureAddr]
theorem elemSV_rel {tk:List (Nat × TypeId)} {id off i m b:Nat} {v:Value} (hb:G.bx[id]?=some b) (hv:v=.pointer (some ⟨b,off+i*m,none⟩)):RSV tk G S w (elemSV E id off i m) v:=by
 unfold elemSV
 split
 ·exact ⟨b,hb,hv⟩
 ·exact ⟨b,hb,hv⟩
theorem ok_indexAddr (hE:EnvOk E) (R:Rel E B S0 w0 st G S w tmps) {t:TypeId} {x ix:SV} {vx vi:Value} (hx:RSV st.tk G S w x vx) (hix:RSV st.tk G S w ix vi) :
  OpOk E B S0 w0 (opIndexAddr E t x ix st) G S w st.tk tmps (do pure (.value (←Instr.indexAt t vx vi))) :=
 OpOk.same R fun r' hr hside=>by
  unfold opIndexAddr at hr
  split at hr
  ·cases hr
  ·rename_i k n hin
   cases intOfSV_rel hix hin
   have hk:=(hE.td t).k
   split at hr
   ·rename_i e hs
    rw [hs] at hk
    split at hr
    ·cases hr
    rename_i hz
    obtain ⟨i,z,u,hi,hsz,_⟩:=(hE.td e).info (.inl hz)
    split at hr
    ·rename_i id off len
     cases hr
     obtain ⟨b,cap,hb,rfl,hlc,hcm⟩:=hx
     obtain ⟨h0,h1⟩:=hside
     refine ⟨rfl,_,by simp [run_indexAt_slice hk hi _ _ _ _ _ h0 h1];rfl,elemSV_rel hb ?_⟩
     rw [addr_box,hsz]
    ·rename_i id off m len cap
     cases hr
     obtain ⟨b,hb,rfl,hlc,hcm⟩:=hx
     obtain ⟨h0,h1⟩:=hside
     refine ⟨rfl,_,by simp [run_indexAt_slice hk hi _ _ _ _ _ h0 h1];rfl,elemSV_rel hb ?_⟩
     rw [addr_box,hsz]
    ·rename_i x' _ _
     split at hr
     ·rename_i m xs hel
      split at hr
      ·rename_i hm
       cases hr
       obtain ⟨h0,h1⟩:=hside
       obtain ⟨a,ad,cap,g,rfl,ha,_,_,hmm,hc,hrr⟩:=RV.slice_iff (RSV.elems hx hel)
       have hlt:n.toNat<xs.length:=by omega
       have hne:xs≠[]:=by intro h;subst h;simp at hlt
       obtain rfl:=ha hne
       refine ⟨rfl,_,by simp [run_indexAt_slice hk hi _ _ _ _ _ h0 h1];rfl,?_⟩
       have hget:xs[n.toNat]?=some (xs.getD n.toNat .any):=by
        rw [List.getD_eq_getElem?_getD,List.getElem?_eq_getElem hlt];rfl
       exact RV.ptr (S:=S) (w:=w) (xs.getD n.toNat .any).cells 0 (ad.add (n.toNat*i.size)) (fun j=>g n.toNat j)
        (fun j c hj=>by
         have:=hc n.toNat _ j c hget hj
         rw [Addr.add_add',hsz,←hm]
         exact this)
        (fun j c hj=>hrr n.toNat _ j c hget hj)
      ·cases hr
     ·cases hr
   ·rename_i cnt e hs
    rw [hs] at hk
    split at hr
    ·cases hr
    rename_i hz
    obtain ⟨i,z,u,hi,hsz,_⟩:=(hE.td e).info (.inl hz)
    split at hr
    ·rename_i cs off
     cases hr
     obtain ⟨h0,h1⟩:=hside
     cases hx with
     | ptr _ _ ad g hc hrr =>
      refine ⟨rfl,_,by simp [run_indexAt_array hk hi _ _ _ h0 h1];rfl,?_⟩
      rw [Addr.add_add',hsz]
      exact RV.ptr _ _ ad g hc hrr
    ·rename_i id off
     cases hr
     obtain ⟨h0,h1⟩:=hside
     obtain ⟨b,hb,rfl⟩:=hx
     refine ⟨rfl,_,by simp [run_indexAt_array hk hi _ _ _ h0 h1];rfl,elemSV_rel hb ?_⟩
     rw [addr_box,hsz]
    ·cases hr
   ·cases hr
theorem ok_index (hE:EnvOk E) (R:Rel E B S0 w0 st G S w tmps) {t:TypeId} {x ix:SV} {vx vi:Value} (hx:RSV st.tk G S w x vx) (hix:RSV st.tk G S w ix vi) :
  OpOk E B S0 w0 (opIndex E t x ix st) G S w st.tk tmps (do pure (.value (←Instr.index t vx vi))) :=
 OpOk.same R fun r' hr hside=>by
  unfold opIndex at hr
  split at hr
  ·rename_i k n s hin hs
   cases intOfSV_rel hix hin
   have hk:=(hE.td t).k
   rw [hs] at hk
   cases hr
   cases hx
   obtain ⟨h0,h1⟩:=hside
   have hlt:n.toNat<s.size:=by omega
   refine ⟨rfl,.int .u8 (s[n.toNat]'hlt).toNat,?_,?_⟩
   ·simp [Instr.index,asIntOf,run_underlying hk,h0,getElem?_pos,hlt]
   ·have:s.data.toList.getD n.toNat 0=s[n.toNat]'hlt:=by
     rw [List.getD_eq_getElem?_getD,List.getElem?_eq_getElem (by simpa using hlt)]
     rfl
    show RV S w (.int .u8 ((s.data.toList.getD n.toNat 0).toNat:Nat)) _
    rw [this]
    exact RV.int _ _
  ·cases hr
theorem RV.sub {m:Nat} {xs:List PV} {a:Option Addr} {cap l h:Nat} (hR:RV S w (.list m xs) (.slice a xs.length cap)) (hl:l≤h) (hh:h≤xs.length) :
  RV S w (.list m ((xs.take h).drop l)) (.slice (if cap=l then a else a.map (·.add (l*m))) (h - l) (cap - l)):=by
 obtain ⟨a',ad,cap',g,he,ha,hcap,hmax,hmm,hc,hrr⟩:=RV.slice_iff hR
 injection he with e1 e2 e3
 subst e1
 subst e3
 have hlen:((xs.take h).drop l).length=h - l:=by simp;omega
 have hget:∀(i:Nat) (x:PV),((xs.take h).drop l)[i]?=some x→xs[l+i]?=some x:=by
  intro i x hx
  rw [List.getElem?_drop,List.getElem?_take] at hx
  split at hx
  ·exact hx
  ·cases hx
 have:=RV.list (S:=S) (w:=w) m ((xs.take h).drop l) (if cap=l then a else a.map (·.add (l*m))) (if cap=l then ad else ad.add (l*m)) (cap - l) (fun i j=>g (l+i) j)
  (fun hne=>by
   have hx:xs≠[]:=by intro e;subst e;simp at hne
   rw [ha hx]
   split<;>rfl)
  (by rw [hlen];omega) (by omega)
  (fun i x hx=>hmm (l+i) x (hget i x hx))
  (fun i x j c hx hj=>by
   have hcap':¬cap=l:=by
    intro e
    have:l+i<xs.length:=(List.getElem?_eq_some_iff.1 (hget i x hx)).1
    omega
   rw [if_neg hcap',Addr.add_add']
   have:=hc (l+i) x j c (hget i x hx) hj
   rw [show l*m+(i*m+j)=(l+i)*m+j by rw [Nat.add_mul];omega]
   exact this)
  (fun i x j c hx hj=>hrr (l+i) x j c (hget i x hx) hj)
  (fun h0=>by
   have e2:=RV.nilz hR h0
   subst e2
   exact Nat.zero_sub _)
 rw [hlen] at this
 exact this
def ORel (tk:List (Nat × TypeId)) (G:Gh) (S:Addr→Prop) (w:World):Option SV→Option Value→Prop
 | none,none=>True
 | some s,some v=>RSV tk G S w s v
 | _,_=>False
theorem bound_rel {tk:List (Nat × TypeId)} {o:Option SV} {ov:Option Value} {d n:Int} (h:bound o d=some n)
  (hrel:ORel tk G S w o ov):(o=none∧ov=none∧n=d)∨∃k,ov=some (.int k n):=by
 unfold bound at h
 split at h
 ·cases h
  cases ov with
  | none=>exact .inl ⟨rfl,rfl,rfl⟩
  | some v=>exact hrel.elim
 ·cases h
  cases ov with
  | none=>exact hrel.elim
  | some v =>
   cases hrel
   exact .inr ⟨_,rfl⟩
 ·cases h
theorem run_sliceBound {k:IntKind} {n:Int} {y:Nat} {c:BoundsCode} (h0:0≤n) (h1:n≤y):(Instr.sliceBound (.int k n) y c).run E.P w=.ok n.toNat w:=by
 simp [Instr.sliceBound,asIntOf,h0,h1]
theorem run_sliceBounds {isSlice:Bool} {len cap:Nat} {lo hi:Option Value} {l h:Int}
  (hlo:(lo=none∧l=0)∨∃k,lo=some (.int k l)) (hhi:(hi=none∧h=len)∨∃k,hi=some (.int k h)) (h0:0≤l) (h1:l≤h) (h2:h≤len) (h3:len≤cap) :
  (Instr.sliceBounds isSlice len cap lo hi none).run E.P w=.ok (l.toNat,h.toNat,cap) w:=by
 have hc:h≤(cap:Int):=by omega
 have hn:l≤((h.toNat:Nat):Int):=by omega
 rcases hlo with ⟨rfl,rfl⟩ | ⟨k,rfl⟩<;>rcases hhi with ⟨rfl,rfl⟩ | ⟨k',rfl⟩
 ·simp [Instr.sliceBounds]
 ·simp [Instr.sliceBounds,run_sliceBound (by omega:0≤h) hc]
 ·simp [Instr.sliceBounds,run_sliceBound h0 (by omega:l≤((len:Nat):Int))]
 ·simp [Instr.sliceBounds,run_sliceBound (by omega:0≤h) hc,run_sliceBound h0 hn]
theorem ok_slice (hE:EnvOk E) (R:Rel E B S0 w0 st G S w tmps) {t:TypeId} {x:SV} {vx:Value} {lo hi mx:Option SV} {vlo vhi vmx:Option Value} (hx:RSV st.tk G S w x vx)
  (hlo:ORel st.tk G S w lo vlo) (hhi:ORel st.tk G S w hi vhi)
  (hmx:mx=none→vmx=none) :
  OpOk E B S0 w0 (opSlice E t x lo hi mx st) G S w st.tk tmps (do pure (.value (←Instr.sliceAt t vx vlo vhi vmx))) :=
 OpOk.same R fun r' hr hside=>by
  unfold opSlice at hr
  have hk:=(hE.td t).k
  split at hr
  ·rename_i e hs
   rw [hs] at hk
   obtain rfl:=hmx rfl
   split at hr
   ·rename_i m xs hel
    split at hr
    ·rename_i hm
     split at hr
     ·rename_i l h hl hh
      cases hr
      obtain ⟨h0,h1,h2⟩:=hside
      have hR:=RSV.elems hx hel
      obtain ⟨a,ad,cap,g,rfl,ha,hcap,hmax,hmm,hc,hrr⟩:=RV.slice_iff hR
      have b1:(vlo=none∧l=0)∨∃k,vlo=some (.int k l):=by
       rcases bound_rel hl hlo with ⟨_,a,b⟩ | h
       ·exact .inl ⟨a,b⟩
       ·exact .inr h
      have b2:(vhi=none∧h=xs.length)∨∃k,vhi=some (.int k h):=by
       rcases bound_rel hh hhi with ⟨_,a,b⟩ | h
       ·exact .inl ⟨a,b⟩
       ·exact .inr h
      have hb:=run_sliceBounds (E:=E) (w:=w) (isSlice:=true) b1 b2 h0 h1 h2 hcap
      have hsub:=RV.sub (l:=l.toNat) (h:=h.toNat) hR (by omega) (by omega)
      obtain ⟨i,z,u,hi,hsz,_⟩:=(hE.td e).info (.inl hm.2)
      refine ⟨rfl,_,by simp [Instr.sliceAt,Instr.slice,run_underlying hk,hb,run_sizeOf' hi];rfl,?_⟩
      rcases hm.1 with hme | hxs
      ·rw [hsz,←hme]
       exact hsub
      ·have hz:xs.length=0:=by rw [hxs];rfl
       have hl0:l=0:=by omega
       have hh0:h=0:=by omega
       rw [hl0,hh0]
       exact RV.list_nil m _ _ (by simpa using hmax) (fun h=>by
        have e2:=RV.nilz hR h
        subst e2
        rfl)
     ·cases hr
    ·cases hr
   ·cases hr
  ·rename_i hs
   rw [hs] at hk
   obtain rfl:=hmx rfl
   split at hr
   ·rename_i s
    split at hr
    ·rename_i l h hl hh
     cases hr
     cases hx
     obtain ⟨h0,h1,h2⟩:=hside
     have b1:(vlo=none∧l=0)∨∃k,vlo=some (.int k l):=by
      rcases bound_rel hl hlo with ⟨_,a,b⟩ | h
      ·exact .inl ⟨a,b⟩
      ·exact .inr h
     have b2:(vhi=none∧h=s.size)∨∃k,vhi=some (.int k h):=by
      rcases bound_rel hh hhi with ⟨_,a,b⟩ | h
      ·exact .inl ⟨a,b⟩
      ·exact .inr h
     have hb:=run_sliceBounds (E:=E) (w:=w) (isSlice:=false) b1 b2 h0 h1 h2 (Nat.le_refl _)
     exact ⟨rfl,_,by simp [Instr.sliceAt,Instr.slice,run_underlying hk,hb],RV.str _⟩
    ·cases hr
   ·cases hr
  ·cases hr
theorem orel_none {tk:List (Nat × TypeId)} {o:Option SV} {v:Option Value} (h:ORel tk G S w o v) (ho:o=none):v=none:=by
 subst ho
 cases v with
 | none=>rfl
 | some v=>exact h.elim
theorem orel_int {tk:List (Nat × TypeId)} {o:Option SV} {v:Option Value} {k:IntKind} {n:Int} (h:ORel tk G S w o v) (ho:o=some (.val (.int k n))):v=some (.int k n):=by
 subst ho
 cases v with
 | none=>exact h.elim
 | some v=>have h:RV S w (.int k n) v:=h;cases h;rfl
theorem ok_sliceRow (hE:EnvOk E) (R:Rel E B S0 w0 st G S w tmps) {t:TypeId} {id off m len cap:Nat} {vx:Value} {lo hi mx:Option SV} {vlo vhi vmx:Option Value} (hx:RSV st.tk G S w (.row id off m len cap) vx)
  (hlo:ORel st.tk G S w lo vlo) (hhi:ORel st.tk G S w hi vhi) (hmx:ORel st.tk G S w mx vmx) :
  OpOk E B S0 w0 (opSliceRow E t id off m len cap lo hi mx st) G S w st.tk tmps (do pure (.value (←Instr.sliceAt t vx vlo vhi vmx))) :=
 OpOk.same R fun r' hr hside=>by
  unfold opSliceRow at hr
  have hk:=(hE.td t).k
  split at hr
  ·rename_i e hs
   rw [hs] at hk
   obtain rfl:=orel_none hmx rfl
   split at hr
   ·rename_i hm
    obtain ⟨i,z,u,hi,hsz,_⟩:=(hE.td e).info (.inl (by rw [←hm.1];exact hm.2))
    obtain ⟨b,hb,rfl,hlc,hcm⟩:=hx
    split at hr
    ·rename_i h hh
     cases hr
     obtain ⟨_,h0,h1⟩:=hside
     obtain rfl:=orel_none hlo rfl
     have b2:(vhi=none∧h=len)∨∃k,vhi=some (.int k h):=by
      rcases bound_rel hh hhi with ⟨_,a,b⟩ | h
      ·exact .inl ⟨a,b⟩
      ·exact .inr h
     have hbb:=run_sliceBounds (E:=E) (w:=w) (isSlice:=true) (lo:=none) (l:=0) (.inl ⟨rfl,rfl⟩) b2 (Int.le_refl _) h0 h1 hlc
     refine ⟨rfl,.slice (some ⟨b,off,none⟩) h.toNat cap,?_,b,hb,rfl,by omega,hcm⟩
     have hz:∀(c:Prop) [Decidable c] (k:Nat),(if c then some (⟨b,off,none⟩:Addr) else some ((⟨b,off,none⟩:Addr).add (0*k)))=some ⟨b,off,none⟩:=by
      intro c _ k;split
      ·rfl
      ·rw [Nat.zero_mul];rfl
     simp only [Instr.sliceAt,Instr.slice,Sem.run_bind,run_underlying hk,Result.andThen_ok,hbb,run_sizeOf' hi,Sem.run_pure,Option.map_some,Int.toNat_zero,hz,Nat.sub_zero]
    ·rename_i kk l h hh
     cases hr
     obtain ⟨⟨h0,h1,h2⟩,_,h3⟩:=hside
     have e1:=orel_int hlo rfl
     have b2:(vhi=none∧h=len)∨∃k,vhi=some (.int k h):=by
      rcases bound_rel hh hhi with ⟨_,a,b⟩ | h
      ·exact .inl ⟨a,b⟩
      ·exact .inr h
     have hbb:=run_sliceBounds (E:=E) (w:=w) (isSlice:=true) (lo:=vlo) (l:=l) (.inr ⟨_,e1⟩) b2 h0 h1 h2 hlc
     refine ⟨rfl,.slice (some ⟨b,off+l.toNat*m,none⟩) (h - l).toNat ((cap:Int) - l).toNat,?_,b,hb,rfl,by omega,by omega⟩
     have hne:¬cap=l.toNat:=by omega
     have hsub:h.toNat - l.toNat=(h - l).toNat:=by omega
     have hsub2:cap - l.toNat=((cap:Int) - l).toNat:=by omega
     simp only [Instr.sliceAt,Instr.slice,Sem.run_bind,run_underlying hk,Result.andThen_ok,hbb,run_sizeOf' hi,Sem.run_pure,Option.map_some,hne,if_false,hsz,←hm.1,addr_box,hsub,hsub2]
    ·cases hr
   ·cases hr
  ·cases hr
theorem ok_sliceArr (hE:EnvOk E) (R:Rel E B S0 w0 st G S w tmps) {t:TypeId} {id off:Nat} {vx:Value} {lo hi mx:Option SV} {vlo vhi vmx:Option Value} (hx:RSV st.tk G S w (.box id off) vx)
  (hlo:ORel st.tk G S w lo vlo) (hhi:ORel st.tk G S w hi vhi) (hmx:ORel st.tk G S w mx vmx) :
  OpOk E B S0 w0 (opSliceArr E t id off lo hi mx st) G S w st.tk tmps (do pure (.value (←Instr.sliceAt t vx vlo vhi vmx))) :=
 OpOk.same R fun r' hr hside=>by
  unfold opSliceArr at hr
  have hk:=(hE.td t).k
  split at hr
  ·rename_i n e hs
   rw [hs] at hk
   ·split at hr
    ·rename_i hc
     obtain ⟨b,hb,rfl⟩:=hx
     obtain rfl:=orel_none hlo rfl
     obtain ⟨i,z,u,hi,hsz,_⟩:=(hE.td e).info (.inl hc.1)
     have fin:∀(h m:Int),0≤h→h≤m→m≤n→(Instr.sliceBounds false n n none vhi vmx).run E.P w=.ok (0,h.toNat,m.toNat) w →
       ∃v,(do pure (Next.value (←Instr.sliceAt t (.pointer (some ⟨b,off,none⟩)) none vhi vmx)):Sem Next).run E.P w=.ok (.value v) w∧RSV st.tk G S w (.msl id off h.toNat) v:=by
      intro h m h0 h1 h2 hrun
      refine ⟨.slice (some ⟨b,off,none⟩) h.toNat m.toNat,?_,b,m.toNat,hb,rfl,by omega,by simp only [maxLen];omega⟩
      have hz:∀(c:Prop) [Decidable c] (k:Nat),(if c then (⟨b,off,none⟩:Addr) else (⟨b,off,none⟩:Addr).add (0*k))=⟨b,off,none⟩:=by
       intro c _ k;split
       ·rfl
       ·rw [Nat.zero_mul];rfl
      simp only [Instr.sliceAt,Sem.run_bind,run_underlying hk,Result.andThen_ok,Instr.sureAddr,Sem.run_pure,hrun,run_sizeOf' hi,hz,Nat.sub_zero]
     split at hr
     ·cases hr
      obtain ⟨h0,h1,h2⟩:=hside
      rename_i k h k' m
      have e1:=orel_int hhi rfl
      have e2:=orel_int hmx rfl
      subst e1;subst e2
      refine ⟨rfl,fin h m h0 h1 h2 ?_⟩
      have hm:h≤((m.toNat:Nat):Int):=by omega
      simp [Instr.sliceBounds,run_sliceBound (by omega:0≤m) h2,run_sliceBound h0 hm]
     ·cases hr
      obtain ⟨h0,h1⟩:=hside
      rename_i k h
      have e1:=orel_int hhi rfl
      have e2:=orel_none hmx rfl
      subst e1;subst e2
      refine ⟨rfl,fin h n h0 h1 (Int.le_refl _) ?_⟩
      simp [Instr.sliceBounds,run_sliceBound h0 h1]
     ·cases hr
      have e1:=orel_none hhi rfl
      have e2:=orel_none hmx rfl
      subst e1;subst e2
      have:=fin n n (by omega) (Int.le_refl _) (Int.le_refl _) (by simp [Instr.sliceBounds])
      exact ⟨rfl,by simpa using this⟩
     ·cases hr
    ·cases hr
  ·cases hr
end
end Go.Abs
/-
  The abstract walk is sound: the third part: numbers, equality, lengths, structs written out.
-/
namespace Go.Abs
open Go.RowKit
section
variable {E:Env} {B:Nat} {S0:Addr→Prop} {w0:World} {st:St} {G:Gh} {S:Addr→Prop} {w:World} {tmps:Array Value}
theorem wrap_in {n:Int} (h:inI64 n):IntKind.i64.wrap n=n:=by
 unfold inI64 at h
 rw [IntKind.wrap_i64]
 omega
theorem eqGuard_int (op:BinOp) (t:TypeId) (x y:Operand) (k k':IntKind) (a b:Int):(eqGuard op t x y (.int k a) (.int k' b)).run E.P w=.ok () w:=by
 unfold eqGuard
 cases op<;>simp
theorem eqGuard_bool (op:BinOp) (t:TypeId) (x y:Operand) (a b:Bool):(eqGuard op t x y (.bool a) (.bool b)).run E.P w=.ok () w:=by
 unfold eqGuard
 cases op<;>simp
theorem eqGuard_str (op:BinOp) (t:TypeId) (x y:Operand) (a b:ByteArray):(eqGuard op t x y (.string a) (.string b)).run E.P w=.ok () w:=by
 unfold eqGuard
 cases op<;>simp
theorem arithI64_ok {op:BinOp} {a b:Int} {s:Prop} {p:PV} (h:arithI64 op a b=some (s,p)) (hs:s) (t:TypeId) :
  ∃v,(binOp op t (.int .i64 a) (.int .i64 b)).run E.P w=.ok v w∧RV S w p v:=by
 cases op<;>simp only [arithI64,Option.some.injEq,Prod.mk.injEq,reduceCtorEq] at h<;>obtain ⟨rfl,rfl⟩:=h
 ·exact ⟨_,by simp [binOp,Op.intArith,wrap_in hs],RV.int _ _⟩
 ·exact ⟨_,by simp [binOp,Op.intArith,wrap_in hs],RV.int _ _⟩
 ·exact ⟨_,by simp [binOp,Op.intArith,wrap_in hs],RV.int _ _⟩
 ·exact ⟨_,by simp [binOp,Op.intDiv,hs.1,wrap_in hs.2],RV.int _ _⟩
 ·exact ⟨_,by have hs':¬b=0:=hs;simp [binOp,Op.intDiv,hs'],RV.int _ _⟩
 ·refine ⟨.bool (a == b),by simp [binOp,Op.intCmp],?_⟩
  have:(a == b)=decide (a=b):=by rw [Bool.eq_iff_iff];simp
  rw [this]
  exact RV.bool _
 ·refine ⟨.bool (a != b),by simp [binOp,Op.intCmp],?_⟩
  have:(a != b)=decide (a≠b):=by rw [Bool.eq_iff_iff];simp
  rw [this]
  exact RV.bool _
 ·exact ⟨_,by simp [binOp,Op.intCmp],RV.bool _⟩
 ·exact ⟨_,by simp [binOp,Op.intCmp],RV.bool _⟩
 ·exact ⟨_,by simp [binOp,Op.intCmp],RV.bool _⟩
 ·exact ⟨_,by simp [binOp,Op.intCmp],RV.bool _⟩
theorem arithOther_ok {op:BinOp} {k:IntKind} {a b:Int} {s:Prop} {p:PV} (h:arithOther op k a b=some (s,p)) (hs:s) (t:TypeId) :
  ∃v,(binOp op t (.int k a) (.int k b)).run E.P w=.ok v w∧RV S w p v:=by
 cases op<;>simp only [arithOther,Option.some.injEq,Prod.mk.injEq,reduceCtorEq] at h<;>obtain ⟨rfl,rfl⟩:=h
 ·exact ⟨_,by simp [binOp,Op.intArith],RV.int _ _⟩
 ·exact ⟨_,by simp [binOp,Op.intArith],RV.int _ _⟩
 ·exact ⟨_,by have hs':¬b=0:=hs;simp [binOp,Op.intDiv,hs'],RV.int _ _⟩
 ·exact ⟨.int k _,by simp only [binOp,Op.intBits];simp only [ne_eq,not_true_eq_false,↓reduceIte,Sem.run_pure],RV.int _ _⟩
 ·exact ⟨.int k _,by simp only [binOp,Op.intBits];simp only [ne_eq,not_true_eq_false,↓reduceIte,Sem.run_pure],RV.int _ _⟩
 ·refine ⟨.bool (a == b),by simp [binOp,Op.intCmp],?_⟩
  have:(a == b)=decide (a=b):=by rw [Bool.eq_iff_iff];simp
  rw [this]
  exact RV.bool _
 ·refine ⟨.bool (a != b),by simp [binOp,Op.intCmp],?_⟩
  have:(a != b)=decide (a≠b):=by rw [Bool.eq_iff_iff];simp
  rw [this]
  exact RV.bool _
 ·exact ⟨_,by simp [binOp,Op.intCmp],RV.bool _⟩
 ·exact ⟨_,by simp [binOp,Op.intCmp],RV.bool _⟩
 ·exact ⟨_,by simp [binOp,Op.intCmp],RV.bool _⟩
 ·exact ⟨_,by simp [binOp,Op.intCmp],RV.bool _⟩
theorem RV.int_inv {k:IntKind} {n:Int} {v:Value} (h:RV S w (.int k n) v):v=.int k n:=by cases h;rfl
theorem RV.bool_inv {b:Bool} {v:Value} (h:RV S w (.bool b) v):v=.bool b:=by cases h;rfl
theorem RV.str_inv {s:ByteArray} {v:Value} (h:RV S w (.str s) v):v=.string s:=by cases h;rfl
theorem str_beq (a b:ByteArray):(a.toList == b.toList)=decide (a=b):=by
 rw [ByteArray.toList_eq,ByteArray.toList_eq,Bool.eq_iff_iff]
 obtain ⟨⟨x⟩⟩:=a
 obtain ⟨⟨y⟩⟩:=b
 simp
/-! ### '==' on structs -/
theorem eqCells_length:∀{ks:List SK} {xs ys:List PV} {r:Bool},eqCells ks xs ys=some r→xs.length=ks.length∧ys.length=ks.length
 | [],[],[],_,_=>⟨rfl,rfl⟩
 | k::ks,x::xs,y::ys,r,h=>by
  simp only [eqCells] at h
  split at h
  ·rename_i a b _ hb
   obtain ⟨h1,h2⟩:=eqCells_length hb
   simp [h1,h2]
  ·cases h
 | [],[],_::_,_,h | [],_::_,_,_,h | _::_,[],_,_,h | _::_,_::_,[],_,h=>by simp [eqCells] at h
theorem eqCells_split:∀{ks ls:List SK} {xs ys:List PV} {r:Bool},eqCells (ks++ls) xs ys=some r →
  ∃a b,eqCells ks (xs.take ks.length) (ys.take ks.length)=some a∧eqCells ls (xs.drop ks.length) (ys.drop ks.length)=some b∧r=(a&&b)
 | [],ls,xs,ys,r,h=>⟨true,r,by simp [eqCells],by simpa using h,by simp⟩
 | k::ks,ls,x::xs,y::ys,r,h=>by
  simp only [List.cons_append,eqCells] at h
  split at h
  ·rename_i a b ha hb
   cases h
   obtain ⟨c,d,h1,h2,h3⟩:=eqCells_split hb
   exact ⟨a&&c,d,by simp [eqCells,ha,h1],by simpa using h2,by rw [h3,Bool.and_assoc]⟩
  ·cases h
 | k::ks,ls,[],ys,r,h=>by simp [eqCells] at h
 | k::ks,ls,x::xs,[],r,h=>by simp [eqCells] at h
def valIn (P:Program) (t:TypeId) (vs:List Value):Value :=
 match P.underlying t with
 | some (.struct _)=>.agg vs.toArray
 | _=>vs.getD 0 undef
theorem RVs.take {cs:List PV} {vs:List Value} (h:RVs S w cs vs) (n:Nat):RVs S w (cs.take n) (vs.take n):=by simpa using RVs.drop_take h 0 n
theorem RVs.drop {cs:List PV} {vs:List Value} (h:RVs S w cs vs) (n:Nat):RVs S w (cs.drop n) (vs.drop n) :=
 ⟨by simp [h.1],fun i p v h1 h2=>by rw [List.getElem?_drop] at h1 h2;exact h.2 _ p v h1 h2⟩
theorem RVs.one_inv {p:PV} {vs:List Value} (h:RVs S w [p] vs):∃v,vs=[v]∧RV S w p v:=by
 match vs,h with
 | [v],h=>exact ⟨v,rfl,h.2 0 p v rfl rfl⟩
 | [],h=>exact absurd h.1 (by simp)
 | _::_::_,h=>exact absurd h.1 (by simp)
theorem info_of_underlying {P:Program} {t:TypeId} {u:TypeDesc} (h:P.underlying t=some u):∃i,P.info? t=some i:=by
 unfold Program.underlying at h
 cases hq:P.info? t with
 | some i=>exact ⟨i,rfl⟩
 | none=>rw [hq] at h;cases h
theorem valIn_struct {P:Program} {t:TypeId} {fs:Array Field} (h:P.underlying t=some (.struct fs)) (vs:List Value):valIn P t vs=.agg vs.toArray:=by
 simp only [valIn,h]
theorem valIn_one {P:Program} {t:TypeId} {u:TypeDesc} (h:P.underlying t=some u) (hag:isAggD u=false) (vs:List Value):valIn P t vs=vs.getD 0 undef:=by
 simp only [valIn,h]
 cases u<;>simp_all [isAggD]
theorem run_part {t:TypeId} {ks:List SK} (hk:∃d,flatK E.P d t=some ks) (hn:ks.length=E.P.cellsOf t) (vs:List Value) (off:Nat) (h:off+ks.length≤vs.length) :
  (part t vs.toArray off).run E.P w=.ok (valIn E.P t ((vs.drop off).take ks.length)) w:=by
 obtain ⟨d,hd⟩:=hk
 cases d with
 | zero=>cases hd
 | succ d =>
  have hsc:∀u:TypeDesc,E.P.underlying t=some u→isAggD u=false→ks.length=1→(part t vs.toArray off).run E.P w=.ok (valIn E.P t ((vs.drop off).take ks.length)) w:=by
   intro u hu hag h1
   have hlt:off<vs.length:=by omega
   rw [valIn_one hu hag,h1]
   have e:((vs.drop off).take 1).getD 0 undef=vs[off]:=by
    rw [List.drop_eq_getElem_cons hlt]
    rfl
   rw [e]
   simp [part,run_isAgg' hu,hag,hlt]
  simp only [flatK] at hd
  split at hd
  ·rename_i hu;cases hd;exact hsc _ hu rfl rfl
  ·rename_i hu;cases hd;exact hsc _ hu rfl rfl
  ·rename_i hu;cases hd;exact hsc _ hu rfl rfl
  ·rename_i fs hu
   obtain ⟨i,hi⟩:=info_of_underlying hu
   have hsz:i.size=ks.length:=by
    rw [hn];simp [Program.cellsOf,hi]
   rw [valIn_struct hu]
   simp [part,run_isAgg' hu,isAggD,run_sizeOf' hi,hsz]
   try (apply Array.ext';simp [List.take_drop,Nat.add_comm])
  ·cases hd
theorem run_eqFields (d:Nat) (F:TypeId→Option (List SK)) (hF:∀t ks,F t=some ks→∃n,flatK E.P n t=some ks)
  (heq:∀(t:TypeId) (ks:List SK) (xs ys:List PV) (vs us:List Value) (r:Bool),F t=some ks→RVs S w xs vs→RVs S w ys us→eqCells ks xs ys=some r →
   (Op.equalIn d t (valIn E.P t vs) (valIn E.P t us)).run E.P w=.ok r w) :
  ∀(fs:List Field) (off:Nat) (ks:List SK) (xs ys:List PV) (vs us:List Value) (r:Bool),flatFields E.P F off fs=some ks→RVs S w xs vs→RVs S w ys us→eqCells ks (xs.drop off) (ys.drop off)=some r →
   (Op.eqFields d vs.toArray us.toArray fs).run E.P w=.ok r w
 | [],off,ks,xs,ys,vs,us,r,hf,hx,hy,he=>by
  simp only [flatFields,Option.some.injEq] at hf
  subst hf
  generalize xs.drop off=a at he
  generalize ys.drop off=b at he
  match a,b,he with
  | [],[],he=>simp [eqCells] at he;subst he;simp [Op.eqFields]
  | _::_,_,he=>simp [eqCells] at he
  | [],_::_,he=>simp [eqCells] at he
 | f::fs,off,ks,xs,ys,vs,us,r,hf,hx,hy,he=>by
  simp only [flatFields] at hf
  split at hf
  ·rename_i hname
   split at hf
   ·cases hf
   ·rename_i ks1 hk1
    split at hf
    ·rename_i hlen
     cases hr1:flatFields E.P F (off+ks1.length) fs with
     | none=>simp [hr1] at hf
     | some ks2 =>
      simp [hr1] at hf
      subst hf
      obtain ⟨a,b,h1,h2,rfl⟩:=eqCells_split he
      have hL:=eqCells_length h1
      have hx1:ks1.length≤(xs.drop off).length:=by
       have:=hL.1;simp at this ⊢;omega
      have hy1:ks1.length≤(ys.drop off).length:=by
       have:=hL.2;simp at this ⊢;omega
      have hz:0<ks1.length:=List.length_pos_iff.2 hlen.2
      have hvs:off+ks1.length≤vs.length:=by rw [←hx.1];simp at hx1;omega
      have hus:off+ks1.length≤us.length:=by rw [←hy.1];simp at hy1;omega
      have e1:=heq f.type ks1 _ _ _ _ a hk1 ((hx.drop off).take ks1.length) ((hy.drop off).take ks1.length) h1
      have ih:=run_eqFields d F hF heq fs (off+ks1.length) ks2 xs ys vs us b hr1 hx hy (by simpa [List.drop_drop,Nat.add_comm] using h2)
      simp only [Op.eqFields,ne_eq,hname.1,not_false_eq_true,↓reduceIte,Sem.run_bind,hname.2,run_part (hF _ _ hk1) hlen.1 vs off hvs,run_part (hF _ _ hk1) hlen.1 us off hus,Result.andThen_ok,e1,Sem.run_ite,ih,Sem.run_pure]
      cases a<;>simp
    ·cases hf
  ·cases hf
theorem eqCells_one {k:SK} {xs ys:List PV} {r:Bool} (h:eqCells [k] xs ys=some r):∃x y,xs=[x]∧ys=[y]∧eqPV k x y=some r:=by
 match xs,ys,h with
 | [x],[y],h =>
  simp only [eqCells] at h
  cases hq:eqPV k x y with
  | none=>simp [hq] at h
  | some a=>simp [hq] at h;exact ⟨x,y,rfl,rfl,by rw [←h];exact hq⟩
 | [],_,h=>simp [eqCells] at h
 | x::y::xs,[],h=>simp [eqCells] at h
 | x::y::xs,[z],h=>simp [eqCells] at h
 | x::y::xs,z::u::zs,h=>simp [eqCells] at h
 | [x],[],h=>simp [eqCells] at h
 | [x],y::z::zs,h=>simp [eqCells] at h
theorem run_equalIn_flat:∀(n d:Nat),n≤d→∀(t:TypeId) (ks:List SK) (xs ys:List PV) (vs us:List Value) (r:Bool),flatK E.P n t=some ks→RVs S w xs vs→RVs S w ys us→eqCells ks xs ys=some r →
   (Op.equalIn d t (valIn E.P t vs) (valIn E.P t us)).run E.P w=.ok r w
 | 0,_,_,_,_,_,_,_,_,_,h,_,_,_=>by cases h
 | n+1,0,hd,_,_,_,_,_,_,_,_,_,_,_=>by omega
 | n+1,d+1,hd,t,ks,xs,ys,vs,us,r,h,hx,hy,he=>by
  simp only [flatK] at h
  split at h
  ·rename_i hu
   cases h
   obtain ⟨x,y,rfl,rfl,hp⟩:=eqCells_one he
   obtain ⟨v,rfl,hv⟩:=RVs.one_inv hx
   obtain ⟨u,rfl,hu'⟩:=RVs.one_inv hy
   rw [valIn_one hu rfl,valIn_one hu rfl]
   cases x<;>cases y<;>simp only [eqPV,reduceCtorEq,Option.some.injEq] at hp
   cases hv;cases hu'
   rename_i a b
   simp [Op.equalIn,run_underlying hu,List.getD,←hp]
   rw [Bool.eq_iff_iff];simp
  ·rename_i hu
   cases h
   obtain ⟨x,y,rfl,rfl,hp⟩:=eqCells_one he
   obtain ⟨v,rfl,hv⟩:=RVs.one_inv hx
   obtain ⟨u,rfl,hu'⟩:=RVs.one_inv hy
   rw [valIn_one hu rfl,valIn_one hu rfl]
   cases x<;>cases y<;>simp only [eqPV,reduceCtorEq,Option.ite_none_right_eq_some,Option.some.injEq] at hp
   cases hv;cases hu'
   obtain ⟨rfl,hp⟩:=hp
   simp [Op.equalIn,run_underlying hu,List.getD,←hp]
   rw [Bool.eq_iff_iff];simp
  ·rename_i hu
   cases h
   obtain ⟨x,y,rfl,rfl,hp⟩:=eqCells_one he
   obtain ⟨v,rfl,hv⟩:=RVs.one_inv hx
   obtain ⟨u,rfl,hu'⟩:=RVs.one_inv hy
   rw [valIn_one hu rfl,valIn_one hu rfl]
   cases x<;>cases y<;>simp only [eqPV,reduceCtorEq,Option.some.injEq] at hp
   cases hv;cases hu'
   rename_i a b
   simp [Op.equalIn,run_underlying hu,List.getD,←hp]
   rw [←str_beq,beq_toListBytes]
  ·rename_i fs hu
   split at h
   ·cases h
   ·rename_i hst
    have hfo:E.P.fieldsOf t=fs:=by simp [Program.fieldsOf,hu]
    rw [valIn_struct hu,valIn_struct hu,run_equalIn_struct w d t vs.toArray us.toArray (by rw [hfo];exact hu) (by simpa using hst),hfo]
    exact run_eqFields d (flatK E.P n) (fun t ks h=>⟨n,h⟩) (fun t ks xs ys vs us r h1 h2 h3 h4=>run_equalIn_flat n d (by omega) t ks xs ys vs us r h1 h2 h3 h4) fs.toList 0 ks xs ys vs us r h hx hy (by simpa using he)
  ·cases h
theorem run_eqGuard_agg {op:BinOp} {t:TypeId} (x y:Operand) (vs us:Array Value) (h:E.P.eqGuardType E.P.depth t=false):(eqGuard op t x y (.agg vs) (.agg us)).run E.P w=.ok () w:=by
 unfold eqGuard
 cases op<;>simp [h]
theorem run_equalIn_bool (d:Nat) {t:TypeId} (hu:E.P.underlying t=some .bool) (a b:Bool):(Op.equalIn (d+1) t (.bool a) (.bool b)).run E.P w=.ok (a == b) w:=by
 simp [Op.equalIn,run_underlying hu]
theorem ok_bin (hE:EnvOk E) (R:Rel E B S0 w0 st G S w tmps) {op:BinOp} {t:TypeId} {x y:SV} {vx vy:Value} (ox oy:Operand) (hx:RSV st.tk G S w x vx) (hy:RSV st.tk G S w y vy) :
  OpOk E B S0 w0 (opBin E op t x y st) G S w st.tk tmps (do pure (.value (←(do eqGuard op t ox oy vx vy;binOp op t vx vy)))) :=
 OpOk.same R fun r' hr hside=>by
  unfold opBin at hr
  split at hr
  ·rename_i k a k' b
   cases RV.int_inv hx
   cases RV.int_inv hy
   split at hr
   ·cases hr
    obtain ⟨h0,h1⟩:=hside
    refine ⟨rfl,.int k (k.wrap (a*2 ^ b.toNat)),?_,RV.int _ _⟩
    have hm:min b.toNat k.bits=b.toNat:=by omega
    simp [eqGuard_int,binOp,Op.shift,show ¬b<0 by omega,hm]
   ·cases hr
    obtain ⟨h0,h1⟩:=hside
    refine ⟨rfl,.int k (a.fdiv (2 ^ b.toNat)),?_,RV.int _ _⟩
    have hm:min b.toNat k.bits=b.toNat:=by omega
    simp [eqGuard_int,binOp,Op.shift,show ¬b<0 by omega,hm]
   ·split at hr
    ·rename_i hkk
     subst hkk
     split at hr
     ·rename_i s p hsp
      cases hr
      split at hsp
      ·obtain ⟨v,h1,h2⟩:=arithOther_ok (E:=E) (w:=w) (S:=S) hsp hside t
       exact ⟨rfl,v,by simp [eqGuard_int,h1],h2⟩
      split at hsp
      ·rename_i hk
       subst hk
       obtain ⟨v,h1,h2⟩:=arithI64_ok (E:=E) (w:=w) (S:=S) hsp hside t
       exact ⟨rfl,v,by simp [eqGuard_int,h1],h2⟩
      ·obtain ⟨v,h1,h2⟩:=arithOther_ok (E:=E) (w:=w) (S:=S) hsp hside t
       exact ⟨rfl,v,by simp [eqGuard_int,h1],h2⟩
     ·cases hr
    ·cases hr
  ·rename_i a b
   cases RV.bool_inv hx
   cases RV.bool_inv hy
   have hk:=(hE.td t).k
   split at hr
   ·rename_i hs
    rw [hs] at hk
    cases hr
    refine ⟨rfl,.bool (a == b),by simp only [Sem.run_bind,eqGuard_bool,binOp,Op.equal,Op.maxDepth,run_equalIn_bool 9999 hk,Result.andThen_ok,Sem.run_pure],?_⟩
    have:(a == b)=decide (a=b):=by rw [Bool.eq_iff_iff];simp
    rw [this]
    exact RV.bool _
   ·rename_i hs
    rw [hs] at hk
    cases hr
    refine ⟨rfl,.bool (!(a == b)),by simp only [Sem.run_bind,eqGuard_bool,binOp,Op.equal,Op.maxDepth,run_equalIn_bool 9999 hk,Result.andThen_ok,Sem.run_pure],?_⟩
    have:(!(a == b))=decide (a≠b):=by rw [Bool.eq_iff_iff];simp
    rw [this]
    exact RV.bool _
   ·cases hr
  ·rename_i a b
   cases RV.str_inv hx
   cases RV.str_inv hy
   split at hr
   ·cases hr
    refine ⟨rfl,.bool (a.toList == b.toList),by simp [eqGuard_str,binOp,Op.stringOp],?_⟩
    rw [str_beq]
    exact RV.bool _
   ·cases hr
    refine ⟨rfl,.bool (!(a.toList == b.toList)),by simp [eqGuard_str,binOp,Op.stringOp],?_⟩
    rw [str_beq,←decide_not]
    exact RV.bool _
   ·cases hr
  ·rename_i a b
   obtain ⟨vs,rfl,hvs⟩:=RV.agg_iff hx
   obtain ⟨us,rfl,hus⟩:=RV.agg_iff hy
   split at hr
   ·cases hr
   ·rename_i ks hks
    obtain ⟨d,hd,hfl,hgt,fs,hu⟩:=(hE.td t).eq ks hks
    split at hr
    ·rename_i r he
     cases hr
     have hq:=run_equalIn_flat (E:=E) (w:=w) (S:=S) d 10000 (by omega) t ks a b vs us r hfl hvs hus he
     rw [valIn_struct hu,valIn_struct hu] at hq
     refine ⟨rfl,.bool r,?_,RV.bool _⟩
     simp only [Sem.run_bind,run_eqGuard_agg ox oy _ _ hgt,Result.andThen_ok,binOp,Op.equal,Op.maxDepth,hq,Sem.run_pure]
    ·rename_i r he
     cases hr
     have hq:=run_equalIn_flat (E:=E) (w:=w) (S:=S) d 10000 (by omega) t ks a b vs us r hfl hvs hus he
     rw [valIn_struct hu,valIn_struct hu] at hq
     refine ⟨rfl,.bool (!r),?_,RV.bool _⟩
     simp only [Sem.run_bind,run_eqGuard_agg ox oy _ _ hgt,Result.andThen_ok,binOp,Op.equal,Op.maxDepth,hq,Sem.run_pure]
    ·cases hr
  ·cases hr
theorem ok_convert (hE:EnvOk E) (R:Rel E B S0 w0 st G S w tmps) {s d:TypeId} {x:SV} {vx:Value} (hx:RSV st.tk G S w x vx) :
  OpOk E B S0 w0 (opConvert E s d x st) G S w st.tk tmps (do pure (.value (←convert s d vx))) :=
 OpOk.same R fun r' hr hside=>by
  unfold opConvert at hr
  have hs:=(hE.td s).k
  have hd:=(hE.td d).k
  split at hr
  ·rename_i k k' k'' n h1 h2
   rw [h1] at hs
   rw [h2] at hd
   cases RV.int_inv hx
   split at hr
   ·rename_i hk
    obtain ⟨rfl,rfl,rfl⟩:=hk
    cases hr
    refine ⟨rfl,.int .i64 n,?_,RV.int _ _⟩
    simp [convert,run_underlying hs,run_underlying hd,Conv.intToInt,wrap_in (show inI64 n from hside)]
   ·cases hr
    refine ⟨rfl,.int k' (k'.wrap n),?_,RV.int _ _⟩
    simp [convert,run_underlying hs,run_underlying hd,Conv.intToInt]
  ·rename_i str h1 h2
   rw [h1] at hs
   rw [h2] at hd
   cases hr
   cases RV.str_inv hx
   refine ⟨rfl,.string str,?_,RV.str _⟩
   simp [convert,run_underlying hs,run_underlying hd]
  ·cases hr
theorem Rel.ents (R:Rel E B S0 w0 st G S w tmps) {x:SV} {v:Value} {es:List (PV × PV)} (hx:RSV st.tk G S w x v) (he:entsOf x st=some es) :
  (v=.map none∧es=[])∨∃(b:Nat) (arr:Array MapEntry) (clock:Nat) (es0:List (PV × PV)),v=.map (some b)∧w.heap[b]?=some (.map arr clock)∧es0.Perm es∧Ents es0 arr clock ∧
   ∀(i:Nat) (p:PV × PV) (y:MapEntry),es0[i]?=some p→arr[i]?=some y→RV S w p.2 y.val:=by
 unfold entsOf at he
 split at he
 ·rename_i ks vs
  cases he
  cases hx with
  | mapNil=>exact .inl ⟨rfl,rfl⟩
  | map _ _ es0 b arr clock hp hl hS hb he hv=>exact .inr ⟨b,arr,clock,es0,rfl,hb,hp,he,hv⟩
 ·rename_i id
  split at he
  ·rename_i es' mk hid
   cases he
   obtain ⟨b,hb,rfl⟩:=hx
   obtain ⟨⟨arr,clock,es0,h1,h2,h3,h4,_⟩,_⟩:=R.inv.mpk id b _ hid hb
   exact .inr ⟨b,arr,clock,es0,rfl,h1,h2,h3,h4⟩
  ·cases he
 ·cases he
theorem ok_len (hE:EnvOk E) (R:Rel E B S0 w0 st G S w tmps) {t:TypeId} {x:SV} {vx:Value} (hx:RSV st.tk G S w x vx) (ty:TypeId) :
  OpOk E B S0 w0 (opLen E t x st) G S w st.tk tmps (do pure (.value (←Builtin.len_ #[t] ty #[vx]))) :=
 OpOk.same R fun r' hr hside=>by
  unfold opLen at hr
  have hk:=(hE.td t).k
  split at hr
  ·rename_i s h1
   rw [h1] at hk
   cases hr
   cases RV.str_inv hx
   exact ⟨rfl,_,by simp [Builtin.len_,run_underlying hk,goInt],RV.int _ _⟩
  ·rename_i e id off n h1
   rw [h1] at hk
   cases hr
   obtain ⟨b,cap,hb,rfl,_⟩:=hx
   exact ⟨rfl,_,by simp [Builtin.len_,run_underlying hk,goInt],RV.int _ _⟩
  ·rename_i e id off m n cap h1
   rw [h1] at hk
   cases hr
   obtain ⟨b,hb,rfl,_⟩:=hx
   exact ⟨rfl,_,by simp [Builtin.len_,run_underlying hk,goInt],RV.int _ _⟩
  ·rename_i e x' h1 _ _
   rw [h1] at hk
   split at hr
   ·rename_i m xs hel
    cases hr
    obtain ⟨a,ad,cap,g,rfl,_⟩:=RV.slice_iff (RSV.elems hx hel)
    exact ⟨rfl,_,by simp [Builtin.len_,run_underlying hk,goInt],RV.int _ _⟩
   ·cases hr
  ·rename_i n e h1
   rw [h1] at hk
   cases hr
   exact ⟨rfl,_,by simp [Builtin.len_,run_underlying hk,goInt],RV.int _ _⟩
  ·rename_i k e h1
   rw [h1] at hk
   split at hr
   ·rename_i es he
    cases hr
    rcases R.ents hx he with ⟨rfl,rfl⟩ | ⟨b,arr,clock,es0,rfl,hb,hp,hE0,_⟩
    ·exact ⟨rfl,_,by simp [Builtin.len_,run_underlying hk,goInt],RV.int _ _⟩
    ·refine ⟨rfl,.int .i64 arr.size,by simp [Builtin.len_,run_underlying hk,goInt,MapKept.run_getObj_map hb],?_⟩
     rw [←hp.length_eq,hE0.len]
     exact RV.int _ _
   ·cases hr
  ·cases hr
end
end Go.Abs
/-
  The abstract walk is sound: the fourth part: memory that the activation makes.
-/
namespace Go.Abs
open Go.RowKit
section
variable {E:Env} {B:Nat} {S0:Addr→Prop} {w0:World} {st:St} {G:Gh} {S:Addr→Prop} {w:World} {tmps:Array Value}
def mapLike:Obj→Bool
 | .map _ _ | .mapIter _ _ _ _=>true
 | _=>false
def Kept (w w':World) (b:Nat):Prop:=∀o,mapLike o=true→w.heap[b]?=some o→w'.heap[b]?=some o
theorem Kept.refl (w:World) (b:Nat):Kept w w b:=fun _ _ h=>h
theorem Kept.of_eq {w w':World} {b:Nat} (h:w'.heap[b]?=w.heap[b]?):Kept w w' b:=fun _ _ e=>h.trans e
theorem MapOk.mono {M M':List Nat} {S S':Addr→Prop} {w w':World} {b:Nat} {c:MapC} (h:MapOk E M S w b c) (hb:Kept w w' b) (hm:∀(m bm:Nat),M[m]?=some bm→M'[m]?=some bm∧Kept w w' bm)
  (hS:∀a,S a→S' a) (hw:∀a,S a→Still w w' a) (hn:∀a,S' a→S a∨a.block≠b∨∀o,mapLike o=true→w.heap[b]?≠some o):MapOk E M' S' w' b c:=by
 have hs:(∀a,S a→a.block≠b)→(∃o,mapLike o=true∧w.heap[b]?=some o)→∀a,S' a→a.block≠b:=fun h ⟨o,h1,h2⟩ a ha=>(hn a ha).elim (h a) fun h3=>h3.elim id fun h4=>absurd h2 (h4 o h1)
 match c,h with
 | .plain k e n,h =>
  obtain ⟨⟨D,es,clock,h1,h2⟩,h3⟩:=h
  exact ⟨⟨D,es,clock,hb _ rfl h1,h2⟩,hs h3 ⟨_,rfl,h1⟩⟩
 | .ents es mk,h =>
  obtain ⟨⟨arr,clock,es0,h1,h2,h3,h4,h5⟩,h6⟩:=h
  exact ⟨⟨arr,clock,es0,hb _ rfl h1,h2,h3,fun i p x a1 a2=>(h4 i p x a1 a2).mono hS hw,h5⟩,hs h6 ⟨_,rfl,h1⟩⟩
 | .iter (some m) es left cur,h =>
  obtain ⟨⟨bm,h1,arr,clock,since,seen,last,h2,h4,h5⟩,h3⟩:=h
  obtain ⟨k1,k2⟩:=hm m bm h1
  exact ⟨⟨bm,k1,arr,clock,since,seen,last,k2 _ rfl h2,hb _ rfl h4,h5⟩,hs h3 ⟨_,rfl,h4⟩⟩
 | .iter none es left cur,h =>
  obtain ⟨h1,h3⟩:=h
  rcases h1 with ⟨h1,h2⟩ | ⟨bm,h1,h2,arr,clock,since,seen,last,h5,h4,h6⟩
  ·exact ⟨.inl ⟨hb _ rfl h1,h2⟩,hs h3 ⟨_,rfl,h1⟩⟩
  ·refine ⟨.inr ⟨bm,hS _ h1,?_,arr,clock,since,seen,last,(hw _ h1).2 _ _ h5,hb _ rfl h4,h6⟩,hs h3 ⟨_,rfl,h4⟩⟩
   obtain ⟨arr,clock,es0,q1,q2,q3,q4,q5⟩:=h2
   exact ⟨arr,clock,es0,(hw _ h1).2 _ _ q1,q2,q3,fun i p x a1 a2=>(q4 i p x a1 a2).mono hS hw,q5⟩
 | .gone,_=>trivial
theorem Inv.transport {bx:List (Option (List SV))} {tk:List (Nat × TypeId)} {ax:Ax} (hI:Inv E B S0 bx tk ax G S w) {S':Addr→Prop} {w':World} (hS:∀a,S a→S' a)
  (hnew:∀a,S' a→S a∨(w.heap.size≤a.block∧a.block<w'.heap.size)) (hbel:Below w.heap.size w w') :
  Inv E B S0 bx tk ax G S' w'∧Ext tk G S w tk G S' w':=by
 have hblk:=hbel.block
 have hsz:=hbel.size
 have hE:Ext tk G S w tk G S' w':=⟨fun _ _ h=>h,fun _ hv le h1 h2=>⟨hv,le,h1,h2,.inl ⟨rfl,rfl⟩⟩,hS,fun a ha=>Still.of_block (hblk _ (hI.slt a ha)),fun _ _ h=>h,hbel.mono (Nat.zero_le _),fun b hb _=>hblk b hb,fun _ _ h=>h,fun a ha=>(hnew a ha).imp id fun h=>.inr h.1⟩
 have hslt:∀a,S' a→a.block<w'.heap.size:=fun a ha=>by
  rcases hnew a ha with h | h
  ·exact Nat.lt_of_lt_of_le (hI.slt a h) hsz
  ·exact h.2
 refine ⟨⟨Nat.le_trans hI.base hsz,fun a ha=>?_,hslt,hI.lbx,hI.ltk,fun i b hb=>⟨(hI.old i b hb).1,Nat.lt_of_lt_of_le (hI.old i b hb).2 hsz⟩,hI.dist,fun id b cs hc hb=>?_,fun t n e hv h1 h2=>?_,hI.apart,hI.lmp,hI.dmp,
  fun i b h=>⟨(hI.mpo i b h).1,Nat.lt_of_lt_of_le (hI.mpo i b h).2 hsz⟩,fun i b c h1 h2=>(hI.mpk i b c h1 h2).mono (Kept.of_eq (hblk b (hI.mpo i b h2).2)) (fun m bm h=>⟨h,Kept.of_eq (hblk bm (hI.mpo m bm h).2)⟩) hS (fun a ha=>Still.of_block (hblk _ (hI.slt a ha))) (fun a ha=>(hnew a ha).imp id fun h=>.inl fun e=>by have:=(hI.mpo i b h2).2;have:=h.1;omega),fun b hb=>Nat.lt_of_lt_of_le (hI.flt b hb) hsz,hI.fbx,hI.ftk,hI.fmp,
  ⟨E.Y.ok _ _ _ _ _ _ hI.yl.1 ⟨hE.calm,fun b hb=>hblk b (hI.flt b hb),hS,hE.cell,fun a ha=>(hnew a ha).imp id fun h hf=>absurd (hI.flt _ hf) (by omega),hslt⟩,hI.yl.2⟩⟩,hE⟩
 ·rcases hnew a ha with h | h
  ·exact hI.s0 a h
  ·exact .inr (Nat.le_trans hI.base h.1)
 ·obtain ⟨⟨t,arr,h1,h2,h3⟩,h4⟩:=hI.box id b cs hc hb
  have hlt:=(hI.old id b hb).2
  refine ⟨⟨t,arr,(hblk b hlt).trans h1,h2,fun j c v a1 a2=>⟨RSV.mono hE (h3 j c v a1 a2).1,(h3 j c v a1 a2).2⟩⟩,fun a ha hab=>?_⟩
  rcases hnew a ha with h | h
  ·exact h4 a h hab
  ·omega
 ·obtain ⟨a,cap,h3,h4,h5,h6⟩:=hI.tok t n e hv h1 h2
  refine ⟨a,cap,h3,h4,h5,fun hlt=>?_⟩
  obtain ⟨g,cur,k1,k2,k3,k4,k5,k6⟩:=h6 hlt
  have hg:g<w.heap.size:=by
   rcases Nat.lt_or_ge g w.heap.size with h | h
   ·exact h
   ·rw [Array.getElem?_eq_none h] at k3;cases k3
  refine ⟨g,cur,k1,k2,(hblk g hg).trans k3,k4,fun a' ha' hb'=>?_,k6⟩
  rcases hnew a' ha' with h | h
  ·exact k5 a' h hb'
  ·omega
theorem Rel.transport (R:Rel E B S0 w0 st G S w tmps) {S':Addr→Prop} {w':World} (hS:∀a,S a→S' a)
  (hnew:∀a,S' a→S a∨(w.heap.size≤a.block∧a.block<w'.heap.size)) (hb:Below w.heap.size w w') :
  Rel E B S0 w0 st G S' w' tmps∧Ext st.tk G S w st.tk G S' w':=by
 obtain ⟨h1,h2⟩:=R.inv.transport hS hnew hb
 exact ⟨⟨h1,R.below.trans (hb.mono R.inv.base),R.len,fun t s v a1 a2=>RSV.mono h2 (R.sl t s v a1 a2)⟩,h2⟩
theorem Rel.newBox (R:Rel E B S0 w0 st G S w tmps) (t:TypeId) (arr:Array Value) (cs:List SV) (hl:arr.size=cs.length)
  (hc:∀(j:Nat) (c:SV) (v:Value),cs[j]?=some c→arr[j]?=some v→RSV st.tk G S w c v∧v.oneCell'=true) :
  ∃G',Rel E B S0 w0 (st.newBx cs) G' S (w.alloc (.cells arr t)) tmps∧Ext st.tk G S w (st.newBx cs).tk G' S (w.alloc (.cells arr t))∧RSV (st.newBx cs).tk G' S (w.alloc (.cells arr t)) (.box st.bx.length 0) (.pointer (some ⟨w.heap.size,0,none⟩)):=by
 have hbel:Below w.heap.size w (w.alloc (.cells arr t)):=(Below.refl _ _).alloc (Nat.le_refl _) _
 obtain ⟨h1,h2⟩:=R.inv.transport (S':=S) (w':=w.alloc (.cells arr t)) (fun _ h=>h) (fun _ h=>.inl h) hbel
 have hlen:G.bx.length=st.bx.length:=R.inv.lbx
 have hnew:∀(i b:Nat),(G.bx++[w.heap.size])[i]?=some b→(G.bx[i]?=some b∧i<st.bx.length)∨(i=st.bx.length∧b=w.heap.size):=by
  intro i b hb
  rcases Nat.lt_trichotomy i G.bx.length with h | h | h
  ·rw [List.getElem?_append_left h] at hb;exact .inl ⟨hb,by omega⟩
  ·subst h;simp at hb;exact .inr ⟨hlen,hb.symm⟩
  ·rw [List.getElem?_eq_none (by simp;omega)] at hb;cases hb
 have hE:Ext st.tk G S w st.tk ⟨G.bx++[w.heap.size],G.tk,G.mp,G.fp⟩ S (w.alloc (.cells arr t)) :=
  ⟨fun i b hb=>by
   show (G.bx++[w.heap.size])[i]?=some b
   rw [List.getElem?_append_left (List.getElem?_eq_some_iff.1 hb).1];exact hb,h2.tk,h2.sub,h2.cell,h2.mp,h2.calm,h2.same,fun b hb hf=>by
    rcases hf with ⟨i,hf⟩ | hf
    ·rcases hnew i b hf with h | ⟨_,rfl⟩
     ·exact .inl ⟨i,h.1⟩
     ·omega
    ·exact .inr hf,h2.new⟩
 have hE':Ext0 st.tk G S (w.alloc (.cells arr t)) st.tk ⟨G.bx++[w.heap.size],G.tk,G.mp,G.fp⟩ S (w.alloc (.cells arr t)) :=
  ⟨hE.bx,hE.tk,fun _ h=>h,fun _ _=>Still.refl _ _,fun _ _ h=>h⟩
 refine ⟨⟨G.bx++[w.heap.size],G.tk,G.mp,G.fp⟩,⟨⟨h1.base,h1.s0,h1.slt,by simp [St.newBx,hlen],h1.ltk,?_,?_,?_,?_,h1.apart,h1.lmp,h1.dmp,h1.mpo,h1.mpk,h1.flt,fun i b hb hf=>?_,h1.ftk,h1.fmp,h1.yl⟩,R.below.trans (hbel.mono R.inv.base),R.len,fun t s v a1 a2=>RSV.mono hE (R.sl t s v a1 a2)⟩,hE,?_⟩
 ·intro i b hb
  rcases hnew i b hb with h | ⟨_,rfl⟩
  ·exact h1.old i b h.1
  ·exact ⟨R.inv.base,by simp⟩
 ·intro i j b hi hj
  rcases hnew i b hi with h | ⟨h,hh⟩<;>rcases hnew j b hj with k | ⟨k,kk⟩
  ·exact h1.dist i j b h.1 k.1
  ·have:=(R.inv.old i b h.1).2;omega
  ·have:=(R.inv.old j b k.1).2;omega
  ·omega
 ·intro id b cs' hcs hb
  rcases hnew id b hb with h | ⟨rfl,rfl⟩
  ·have hcs':st.bx[id]?=some (some cs'):=by
    simp only [St.newBx] at hcs
    rw [List.getElem?_append_left h.2] at hcs;exact hcs
   obtain ⟨⟨t',arr',b1,b2,b3⟩,b4⟩:=h1.box id b cs' hcs' h.1
   exact ⟨⟨t',arr',b1,b2,fun j c v a1 a2=>⟨RSV.mono0 hE' (b3 j c v a1 a2).1,(b3 j c v a1 a2).2⟩⟩,b4⟩
  ·simp [St.newBx] at hcs
   subst hcs
   refine ⟨⟨t,arr,heap_alloc_new w _,hl,fun j c v a1 a2=>⟨RSV.mono hE (hc j c v a1 a2).1,(hc j c v a1 a2).2⟩⟩,fun a ha hab=>?_⟩
   have:=R.inv.slt a ha
   omega
 ·intro t' n e hv a1 a2
  obtain ⟨a,cap,b1,b2,b3,b4⟩:=h1.tok t' n e hv a1 a2
  refine ⟨a,cap,b1,b2,b3,fun hlt=>?_⟩
  obtain ⟨g,cur,c1,c2,c3,c4,c5,c6⟩:=b4 hlt
  refine ⟨g,cur,c1,c2,c3,c4,c5,fun i hi=>?_⟩
  rcases hnew i g hi with h | ⟨_,rfl⟩
  ·exact c6 i h.1
  ·obtain ⟨g',cur',d1,d2,d3,_⟩:=(by
    obtain ⟨a',cap',e1,e2,e3,e4⟩:=R.inv.tok t' n e hv a1 a2
    rw [b1] at e1
    injection e1 with e1 _ e5
    subst e1;subst e5
    exact e4 hlt:∃(g':Nat) (cur':Array Value),a=some ⟨g',0,none⟩∧B≤g'∧w.heap[g']?=some (.cells cur' e (0,0))∧_)
   rw [c1] at d1
   injection d1 with d1
   injection d1 with d1
   subst d1
   rw [Array.getElem?_eq_none (Nat.le_refl _)] at d3
   cases d3
 ·rcases hnew i b hb with h | ⟨_,rfl⟩
  ·exact R.inv.fbx i b h.1 hf
  ·exact Nat.lt_irrefl _ (R.inv.flt _ hf)
 ·exact ⟨w.heap.size,by simp [←hlen],rfl⟩
theorem RSV.zero (tk:List (Nat × TypeId)) (v:Value):RSV tk G S w (zeroSV (constPV v)) v:=by
 have h:=RV.const (S:=S) (w:=w) v
 unfold constPV at h ⊢
 split at h
 ·exact h
 ·exact h
 ·exact h
 ·exact ⟨h,none,rfl⟩
 ·exact h
 ·exact h
theorem ok_alloc (hE:EnvOk E) (R:Rel E B S0 w0 st G S w tmps) {t:TypeId} :
  OpOk E B S0 w0 (opAlloc E t st) G S w st.tk tmps (do pure (.value (←Instr.alloc t true (.tuple #[])))):=by
 intro r' hr _
 unfold opAlloc at hr
 split at hr
 ·rename_i hz
  cases hr
  obtain ⟨i,z,u,hi,hsz,_,hzz,hzc,hone,hcs,_⟩:=(hE.td t).info (.inl hz.2)
  obtain ⟨G',hR,hX,hV⟩:=R.newBox t z.cells ((E.T t).zero.map zeroSV) (by rw [List.length_map,hz.1,hcs,hsz]) (fun j c v a1 a2=>by
   rw [←hzc,List.getElem?_map,List.getElem?_map] at a1
   have a2':z.cells.toList[j]?=some v:=by simpa using a2
   rw [a2'] at a1
   simp at a1
   subst a1
   exact ⟨RSV.zero _ v,hone v (List.mem_of_getElem? a2')⟩)
  exact ⟨_,_,_,by simp [Instr.alloc,zeroValue,typeInfo,hi,hzz,newVar,Go.newRow],.inl rfl,G',S,hR,hV,hX⟩
 ·cases hr
theorem all_one {l:List PV} (h:l.all PV.one=true) {c:PV} {j:Nat} (hc:l[j]?=some c):c.one=true:=List.all_eq_true.1 h c (List.mem_of_getElem? hc)
theorem ok_box (R:Rel E B S0 w0 st G S w tmps) {t:TypeId} {x:SV} {vx:Value} (hx:RSV st.tk G S w x vx) :
  OpOk E B S0 w0 (opBox E t x st) G S w st.tk tmps (do pure (.value (←Instr.box t vx))):=by
 intro r' hr _
 unfold opBox at hr
 split at hr
 ·split at hr
  ·rename_i l
   split at hr
   ·rename_i hall
    cases hr
    obtain ⟨vs,rfl,hvs⟩:=RV.agg_iff hx
    obtain ⟨G',hR,hX,hV⟩:=R.newBox t vs.toArray (l.map SV.val) (by simp [hvs.1]) (fun j c v a1 a2=>by
     rw [List.getElem?_map] at a1
     cases hq:l[j]? with
     | none=>rw [hq] at a1;cases a1
     | some p =>
      rw [hq] at a1
      simp at a1
      subst a1
      have h:=hvs.2 j p v hq (by simpa using a2)
      exact ⟨h,RV.of_one h (all_one hall hq)⟩)
    exact ⟨_,_,_,by simp [Instr.box,newVar,Go.newRow,Value.cells],.inl rfl,G',S,hR,hV,hX⟩
   ·cases hr
  ·cases hr
 ·split at hr
  ·rename_i hone
   cases hr
   have h1:=RSV.of_one hx hone
   have hcells:vx.cells=#[vx]:=by cases vx<;>simp_all [Value.cells,Value.oneCell']
   obtain ⟨G',hR,hX,hV⟩:=R.newBox t #[vx] [x] rfl (fun j c v a1 a2=>by
    match j,a1,a2 with
    | 0,a1,a2=>simp at a1 a2;subst a1;subst a2;exact ⟨hx,h1⟩
    | j+1,a1,_=>simp at a1)
   exact ⟨_,_,_,by simp [Instr.box,newVar,Go.newRow,hcells],.inl rfl,G',S,hR,hV,hX⟩
  ·cases hr
/-! ### Rows of elements -/
def Els (S:Addr→Prop) (w:World) (m:Nat) (xs:List PV) (vs:List Value):Prop :=
 vs.length=xs.length*m∧(∀(i:Nat) (x:PV),xs[i]?=some x→x.cells.length=m) ∧
  ∀(i:Nat) (x:PV) (j:Nat) (c:PV) (u:Value),xs[i]?=some x→x.cells[j]?=some c→vs[i*m+j]?=some u→RV S w c u
theorem Els.mono {m:Nat} {xs:List PV} {vs:List Value} {S':Addr→Prop} {w':World} (h:Els S w m xs vs) (hS:∀a,S a→S' a) (hw:∀a,S a→Still w w' a):Els S' w' m xs vs :=
 ⟨h.1,h.2.1,fun i x j c u a1 a2 a3=>(h.2.2 i x j c u a1 a2 a3).mono hS hw⟩
theorem idx_lt {i j n m:Nat} (hi:i<n) (hj:j<m):i*m+j<n*m:=by
 have:(i+1)*m≤n*m:=Nat.mul_le_mul_right _ hi
 rw [Nat.add_mul] at this
 omega
theorem Els.nil (m:Nat):Els S w m [] []:=⟨by simp,by simp,by simp⟩
theorem Els.append {m:Nat} {xs ys:List PV} {vs us:List Value} (h:Els S w m xs vs) (k:Els S w m ys us):Els S w m (xs++ys) (vs++us):=by
 refine ⟨by simp [h.1,k.1,Nat.add_mul],fun i x hx=>?_,fun i x j c u hx hc hu=>?_⟩
 ·by_cases hi:i<xs.length
  ·rw [List.getElem?_append_left hi] at hx;exact h.2.1 i x hx
  ·rw [List.getElem?_append_right (by omega)] at hx;exact k.2.1 _ x hx
 ·by_cases hi:i<xs.length
  ·rw [List.getElem?_append_left hi] at hx
   have hj:j<m:=by rw [←h.2.1 i x hx];exact (List.getElem?_eq_some_iff.1 hc).1
   rw [List.getElem?_append_left (by rw [h.1];exact idx_lt hi hj)] at hu
   exact h.2.2 i x j c u hx hc hu
  ·rw [List.getElem?_append_right (by omega)] at hx
   have hm:xs.length*m≤i*m:=Nat.mul_le_mul_right _ (by omega)
   rw [List.getElem?_append_right (by rw [h.1];omega),h.1] at hu
   refine k.2.2 (i - xs.length) x j c u hx hc ?_
   rw [Nat.sub_mul,←hu]
   congr 1
   omega
theorem RV.flat {m:Nat} {xs:List PV} {v:Value} (h:RV S w (.list m xs) v):∃(a:Option Addr) (ad:Addr) (cap:Nat) (vs:List Value),v=.slice a xs.length cap∧(xs≠[]→a=some ad) ∧
  xs.length≤cap∧cap≤maxLen∧(∀(k:Nat) (u:Value),vs[k]?=some u→S (ad.add k)∧w.cell? (ad.add k)=some u∧u.oneCell'=true)∧Els S w m xs vs:=by
 obtain ⟨a,ad,cap,g,rfl,ha,hcap,hmax,hmm,hc,hr⟩:=RV.slice_iff h
 refine ⟨a,ad,cap,(List.range (xs.length*m)).map fun k=>g (k / m) (k % m),rfl,ha,hcap,hmax,fun k u hk=>?_,by simp,hmm,fun i x j c u hx hcj hu=>?_⟩
 ·rw [List.getElem?_map] at hk
  by_cases hlt:k<xs.length*m
  ·simp [hlt] at hk
   subst hk
   have hm:0<m:=by
    rcases Nat.eq_zero_or_pos m with e | e
    ·subst e;simp at hlt
    ·exact e
   have hi:k / m<xs.length:=Nat.div_lt_of_lt_mul (by rw [Nat.mul_comm];exact hlt)
   have hj:k % m<m:=Nat.mod_lt _ hm
   have hx:=List.getElem?_eq_getElem hi
   have hcl:=hmm _ _ hx
   have:=hc (k / m) _ (k % m) _ hx (List.getElem?_eq_getElem (by rw [hcl];exact hj))
   rw [Nat.mul_comm,Nat.div_add_mod] at this
   exact this
  ·simp [hlt] at hk
 ·have hi:i<xs.length:=(List.getElem?_eq_some_iff.1 hx).1
  have hj:j<m:=by rw [←hmm i x hx];exact (List.getElem?_eq_some_iff.1 hcj).1
  have e1:(i*m+j) / m=i:=by
   rw [Nat.mul_comm,Nat.mul_add_div (by omega),Nat.div_eq_of_lt hj];omega
  have e2:(i*m+j) % m=j:=by
   rw [Nat.mul_comm,Nat.mul_add_mod,Nat.mod_eq_of_lt hj]
  rw [List.getElem?_map,List.getElem?_range (idx_lt hi hj)] at hu
  simp only [Option.map_some,e1,e2,Option.some.injEq] at hu
  subst hu
  exact hr i x j c hx hcj
theorem RV.of_flat {m:Nat} {xs:List PV} {a:Option Addr} {ad:Addr} {cap:Nat} {vs:List Value} (hz:m≠0) (ha:xs≠[]→a=some ad) (hcap:xs.length≤cap) (hmax:cap≤maxLen)
  (hc:∀(k:Nat) (u:Value),vs[k]?=some u→S (ad.add k)∧w.cell? (ad.add k)=some u∧u.oneCell'=true) (he:Els S w m xs vs):RV S w (.list m xs) (.slice a xs.length cap):=by
 have hget:∀(i:Nat) (x:PV) (j:Nat) (c:PV),xs[i]?=some x→x.cells[j]?=some c→vs[i*m+j]?=some (vs.getD (i*m+j) undef):=by
  intro i x j c hx hcj
  have hi:i<xs.length:=(List.getElem?_eq_some_iff.1 hx).1
  have hj:j<m:=by rw [←he.2.1 i x hx];exact (List.getElem?_eq_some_iff.1 hcj).1
  have hlt:i*m+j<vs.length:=by rw [he.1];exact idx_lt hi hj
  rw [List.getD_eq_getElem?_getD,List.getElem?_eq_getElem hlt]
  rfl
 exact RV.list m xs a ad cap (fun i j=>vs.getD (i*m+j) undef) ha hcap hmax he.2.1 (fun i x j c hx hcj=>hc _ _ (hget i x j c hx hcj)) (fun i x j c hx hcj=>he.2.2 i x j c _ hx hcj (hget i x j c hx hcj)) (fun h=>absurd h hz)
theorem Rel.newRow (R:Rel E B S0 w0 st G S w tmps) (t:TypeId) (arr:Array Value) :
  Rel E B S0 w0 st G (fun a=>S a∨a.block=w.heap.size) (w.alloc (.cells arr t)) tmps∧Ext st.tk G S w st.tk G (fun a=>S a∨a.block=w.heap.size) (w.alloc (.cells arr t)) ∧
   ∀j,(w.alloc (.cells arr t)).cell? ⟨w.heap.size,j,none⟩=arr[j]?:=by
 have hbel:Below w.heap.size w (w.alloc (.cells arr t)):=(Below.refl _ _).alloc (Nat.le_refl _) _
 obtain ⟨h1,h2⟩:=R.transport (S':=fun a=>S a∨a.block=w.heap.size) (w':=w.alloc (.cells arr t)) (fun _ h=>.inl h) (fun a ha=>by
  rcases ha with ha | ha
  ·exact .inl ha
  ·exact .inr ⟨by omega,by rw [ha];simp⟩) hbel
 exact ⟨h1,h2,fun j=>World.cell?_alloc_new w arr t j⟩
theorem Rel.drew (R:Rel E B S0 w0 st G S w tmps):Rel E B S0 w0 st G S w.drew tmps∧Ext st.tk G S w st.tk G S w.drew :=
 R.transport (fun _ h=>h) (fun _ h=>.inl h) ⟨rfl,rfl,rfl,Nat.le_refl _,fun _ _=>rfl,Nat.le_succ _⟩
theorem constPV_cells (v:Value):(constPV v).cells=[constPV v]:=by
 unfold constPV;split<;>rfl
theorem EnvOk.cells (hE:EnvOk E) {t:TypeId} (h:(E.T t).size≠0):∃(i:TypeInfo) (z:Value),E.P.info? t=some i∧i.size=(E.T t).size∧i.bytes=(E.T t).bytes∧i.zero=some z ∧
  z.cells.toList.map constPV=(E.T t).zero∧(∀v∈z.cells.toList,v.oneCell'=true)∧z.cells.size=(E.T t).size∧(PV.ofCells (E.T t) (E.T t).zero).cells=(E.T t).zero∧((E.T t).agg=false→(E.T t).size=1):=by
 obtain ⟨i,z,u,hi,hsz,hby,hzz,hzc,hone,hcs,hag,_⟩:=(hE.td t).info (.inl h)
 refine ⟨i,z,hi,hsz,hby,hzz,hzc,hone,hcs.trans hsz,?_,fun hf=>?_⟩
 ·unfold PV.ofCells
  split
  ·rfl
  ·rename_i hf
   rw [if_neg hf] at hag
   have:z.cells=#[z]:=by cases z<;>simp_all [Value.cells,Value.oneCell']
   rw [←hzc,this]
   simp [constPV_cells]
 ·rw [hf] at hag
  have:z.cells=#[z]:=by cases z<;>simp_all [Value.cells,Value.oneCell']
  rw [←hsz,←hcs,this]
  rfl
theorem Els.zero (hE:EnvOk E) {e:TypeId} (h:(E.T e).size≠0) {z:Value} (hzc:z.cells.toList.map constPV=(E.T e).zero) (hcs:z.cells.size=(E.T e).size) (n:Nat) :
  Els S w (E.T e).size (List.replicate n (PV.ofCells (E.T e) (E.T e).zero)) ((Array.range (n*(E.T e).size)).map (z.cells[· % z.cells.size]!)).toList:=by
 obtain ⟨_,_,_,_,_,_,_,_,_,hzz,_⟩:=hE.cells h
 have hlen:(E.T e).zero.length=(E.T e).size:=by rw [←hzc];simp [hcs]
 refine ⟨by simp,fun i x hx=>?_,fun i x j c u hx hcj hu=>?_⟩
 ·rw [List.getElem?_replicate] at hx
  split at hx
  ·cases hx;rw [hzz,hlen]
  ·cases hx
 ·rw [List.getElem?_replicate] at hx
  split at hx
  ·rename_i hi
   cases hx
   rw [hzz] at hcj
   have hj:j<(E.T e).size:=by rw [←hlen];exact (List.getElem?_eq_some_iff.1 hcj).1
   have e2:(i*(E.T e).size+j) % (E.T e).size=j:=by
    rw [Nat.mul_comm,Nat.mul_add_mod,Nat.mod_eq_of_lt hj]
   have hlt:=idx_lt hi hj
   have hu':z.cells[j]! = u:=by
    simp [hlt,hcs,e2] at hu
    exact hu
   have hj':j<z.cells.size:=by rw [hcs];exact hj
   rw [←hzc,List.getElem?_map] at hcj
   have:z.cells.toList[j]?=some u:=by
    rw [←hu']
    simp [hj']
   rw [this] at hcj
   simp at hcj
   subst hcj
   exact RV.const u
  ·cases hx
theorem zero_one {z:Value} (hone:∀v∈z.cells.toList,v.oneCell'=true) (k j:Nat) {u:Value} (hz:0<z.cells.size) (h:((Array.range k).map (z.cells[· % z.cells.size]!)).toList[j]?=some u):u.oneCell'=true:=by
 have hj:j<k:=by
  have:=(List.getElem?_eq_some_iff.1 h).1
  simpa using this
 have hlt:j % z.cells.size<z.cells.size:=Nat.mod_lt _ hz
 simp [hj] at h
 subst h
 rw [getElem!_pos z.cells _ hlt]
 exact hone _ (by simp)
theorem flat_rep {α:Type} (l:List α):∀(n j:Nat) (c:α),(List.replicate n l).flatten[j]?=some c→l[j % l.length]?=some c
 | 0,j,c,h=>by simp at h
 | n+1,j,c,h=>by
  rw [List.replicate_succ,List.flatten_cons] at h
  rcases Nat.lt_or_ge j l.length with hj | hj
  ·rw [List.getElem?_append_left hj] at h
   rw [Nat.mod_eq_of_lt hj];exact h
  ·rw [List.getElem?_append_right hj] at h
   have:=flat_rep l n (j - l.length) c h
   rwa [←Nat.mod_eq_sub_mod hj] at this
theorem ok_makeSlice (hE:EnvOk E) (R:Rel E B S0 w0 st G S w tmps) {t:TypeId} {x y:SV} {vx vy:Value} (hx:RSV st.tk G S w x vx) (hy:RSV st.tk G S w y vy) :
  OpOk E B S0 w0 (opMakeSlice E t x y st) G S w st.tk tmps (do pure (.value (←Instr.makeSlice t vx vy))):=by
 intro r' hr hside
 unfold opMakeSlice at hr
 have hk:=(hE.td t).k
 split at hr
 ·rename_i e k n k' c hs
  rw [hs] at hk
  split at hr
  ·rename_i hz
   split at hr
   ·cases hr
    obtain ⟨h0,rfl,h2,h3⟩:=hside
    cases RV.int_inv hx
    cases RV.int_inv hy
    have hne:(E.T e).size≠0:=by omega
    obtain ⟨i,z,hi,hsz,hby,hzz,hzc,hone,hcs,_⟩:=hE.cells hne
    obtain ⟨m,rfl⟩:=Int.eq_ofNat_of_zero_le h0
    have hb:(i.bytes:Int)*(m:Int)≤281474976710656:=by
     rw [hby,Int.mul_comm];omega
    have hrun:=run_make (P:=E.P) w t e i z hk hi hzz k k' m m (by omega) (by omega) hb (by omega)
    rw [Int.toNat_natCast,hsz] at hrun
    obtain ⟨G',hR,hX,hV⟩:=R.newBox e ((Array.range (m*(E.T e).size)).map (z.cells[· % z.cells.size]!)) ((List.replicate m (E.T e).zero).flatten.map SV.val) (by simp [hz.1]) (fun j c v a1 a2=>by
     rw [←Array.getElem?_toList] at a2
     refine ⟨?_,zero_one hone _ j (by omega) a2⟩
     have hj:j<m*(E.T e).size:=by
      have:=(List.getElem?_eq_some_iff.1 a2).1
      simpa using this
     rw [List.getElem?_map] at a1
     cases hq:(List.replicate m (E.T e).zero).flatten[j]? with
     | none=>rw [hq] at a1;cases a1
     | some p =>
      rw [hq] at a1
      simp only [Option.map_some,Option.some.injEq] at a1
      subst a1
      have h3:=flat_rep _ m j p hq
      rw [hz.1,←hcs,←hzc,List.getElem?_map] at h3
      have hlt:j % z.cells.size<z.cells.size:=Nat.mod_lt _ (by omega)
      have hv:z.cells.toList[j % z.cells.size]?=some v:=by
       simp [hj] at a2
       rw [←a2]
       simp [hlt]
      rw [hv] at h3
      simp only [Option.map_some,Option.some.injEq] at h3
      subst h3
      exact RV.const v)
    refine ⟨_,_,_,by simp only [Sem.run_bind,hrun,Result.andThen_ok,Sem.run_pure];rfl,.inl rfl,G',S,hR,?_,hX⟩
    obtain ⟨b,hb1,hb2⟩:=hV
    refine ⟨b,m,hb1,?_,by simp,by simp only [maxLen];omega⟩
    simp only [Value.pointer.injEq,Option.some.injEq,Addr.mk.injEq] at hb2
    rw [←hb2.1]
    simp
   cases hr
   obtain ⟨h0,rfl,h2,h3⟩:=hside
   cases RV.int_inv hx
   cases RV.int_inv hy
   have hne:(E.T e).size≠0:=by omega
   obtain ⟨i,z,hi,hsz,hby,hzz,hzc,hone,hcs,_⟩:=hE.cells hne
   obtain ⟨m,rfl⟩:=Int.eq_ofNat_of_zero_le h0
   obtain ⟨R1,X1,hcell⟩:=R.newRow e ((Array.range (m*(E.T e).size)).map (z.cells[· % z.cells.size]!))
   have hels:Els (fun a=>S a∨a.block=w.heap.size) (w.alloc (.cells ((Array.range (m*(E.T e).size)).map (z.cells[· % z.cells.size]!)) e)) (E.T e).size (List.replicate m (PV.ofCells (E.T e) (E.T e).zero)) ((Array.range (m*(E.T e).size)).map (z.cells[· % z.cells.size]!)).toList:=Els.zero hE hne hzc hcs m
   have hb:(i.bytes:Int)*(m:Int)≤281474976710656:=by
    rw [hby,Int.mul_comm];omega
   have hrun:=run_make (P:=E.P) w t e i z hk hi hzz k k' m m (by omega) (by omega) hb (by omega)
   rw [Int.toNat_natCast,hsz] at hrun
   refine ⟨_,_,_,by simp only [Sem.run_bind,hrun,Result.andThen_ok,Sem.run_pure];rfl,.inl rfl,G,_,R1,?_,X1⟩
   refine ⟨?_,some ⟨w.heap.size,0,none⟩,by simp⟩
   have:=RV.of_flat (ad:=⟨w.heap.size,0,none⟩) (a:=some ⟨w.heap.size,0,none⟩) (cap:=m) hne (fun _=>rfl) (by simp) (by simp only [maxLen];omega) (fun j u hu=>by
    rw [addr_box,Nat.zero_add,hcell]
    exact ⟨.inr rfl,by rw [←Array.getElem?_toList];exact hu,zero_one hone _ j (by omega) hu⟩) hels
   simpa using this
  ·cases hr
 ·cases hr
end
end Go.Abs
/-
  The abstract walk is sound: the fifth part: structs and slices written out; stores.
-/
namespace Go.Abs
open Go.RowKit
section
variable {E:Env} {B:Nat} {S0:Addr→Prop} {w0:World} {st:St} {G:Gh} {S:Addr→Prop} {w:World} {tmps:Array Value}
theorem foldl_set (off:Nat):∀(l:List Value) (k:Nat) (cells:Array Value),off+k+l.length≤cells.size →
  ((l.zipIdx k).foldl (fun cs p=>cs.setIfInBounds (off+p.2) p.1) cells).toList=cells.toList.take (off+k)++(l++cells.toList.drop (off+k+l.length))
 | [],k,cells,h=>by simp
 | v::l,k,cells,h=>by
  simp only [List.zipIdx_cons,List.foldl_cons]
  have h':off+(k+1)+l.length≤(cells.setIfInBounds (off+k) v).size:=by simp at h ⊢;omega
  rw [foldl_set off l (k+1) _ h']
  have hk:off+k<cells.toList.length:=by simp at h ⊢;omega
  simp only [Array.toList_setIfInBounds]
  rw [show off+(k+1)=(off+k)+1 by omega,List.take_succ_eq_append_getElem (by simpa using hk)]
  rw [List.take_set_of_le (Nat.le_refl _),List.drop_set_of_lt (by omega)]
  simp
  congr 1
  omega
theorem fill_set (off:Nat) (v:Value) (cells:Array Value) (h:off+v.cells.size≤cells.size) :
  (v.cells.zipIdx.foldl (fun cs (c,j)=>cs.setIfInBounds (off+j) c) cells).toList=cells.toList.take off++(v.cells.toList++cells.toList.drop (off+v.cells.size)):=by
 have:=foldl_set off v.cells.toList 0 cells (by simpa using h)
 simp only [Nat.add_zero] at this
 rw [←Array.foldl_toList,Array.toList_zipIdx]
 simpa using this
theorem RVs.splice {cs l:List PV} {vs us:List Value} (h:RVs S w cs vs) (k:RVs S w l us) (off:Nat) :
  RVs S w (cs.take off++(l++cs.drop (off+l.length))) (vs.take off++(us++vs.drop (off+us.length))):=by
 rw [←k.1]
 exact RVs.append (h.take off) (RVs.append k (h.drop _))
theorem partCells_rel {tk:List (Nat × TypeId)} {d:TD} {s:SV} {v:Value} {l:List PV} (h:partCells d s=some l) (hr:RSV tk G S w s v) :
  v.cells.size=d.size∧RVs S w l v.cells.toList∧l.length=d.size∧(d.agg=false→∃p,s.pv=some p∧l=[p]∧p.one=true)∧(PV.ofCells d l).cells=l:=by
 unfold partCells at h
 split at h
 ·rename_i hag
  split at h
  ·split at h
   ·rename_i hl
    cases h
    obtain ⟨vs,rfl,hvs⟩:=RV.agg_iff hr
    exact ⟨by simp [Value.cells,←hvs.1,hl],by simpa [Value.cells] using hvs,hl,fun hf=>by simp [hag] at hf,by simp [PV.ofCells,hag,PV.cells]⟩
   ·cases h
  ·cases h
 ·rename_i hag
  split at h
  ·rename_i p hp
   split at h
   ·rename_i h1
    cases h
    simp only [Bool.and_eq_true,beq_iff_eq] at h1
    have hv:=RSV.pv hr hp
    have h2:=RV.of_one hv h1.1
    have hcells:v.cells=#[v]:=by cases v<;>simp_all [Value.cells,Value.oneCell']
    refine ⟨by rw [hcells,h1.2];rfl,by rw [hcells];exact RVs.cons hv RVs.nil,by simp [h1.2],fun _=>⟨p,hp,rfl,h1.1⟩,?_⟩
    simp only [PV.ofCells,hag]
    cases p<;>simp_all [PV.one,PV.cells]
   ·cases h
  ·cases h
def Parts (tk:List (Nat × TypeId)) (G:Gh) (S:Addr→Prop) (w:World):List (Nat × SV)→List (Nat × Value)→Prop
 | [],[]=>True
 | (i,s)::r,(j,v)::q=>i=j∧RSV tk G S w s v∧Parts tk G S w r q
 | _,_=>False
theorem fill_ok {tk:List (Nat × TypeId)} {place:Nat→Option (Nat × TD)} {place':Nat→Option (Nat × Nat)} (hp:∀i o d,place i=some (o,d)→place' i=some (o,d.size)) :
  ∀(parts:List (Nat × SV)) (vals:List (Nat × Value)) (cs l:List PV) (cells:Array Value),Parts tk G S w parts vals→RVs S w cs cells.toList→fillPV place cs parts=some l →
   ∃cells',Instr.fill place' cells vals=some cells'∧RVs S w l cells'.toList
 | [],[],cs,l,cells,_,hc,h=>by
  simp only [fillPV,Option.some.injEq] at h
  subst h
  exact ⟨cells,rfl,hc⟩
 | [],_::_,_,_,_,hP,_,_=>hP.elim
 | _::_,[],_,_,_,hP,_,_=>hP.elim
 | (i,s)::r,(j,v)::q,cs,l,cells,hP,hc,h=>by
  obtain ⟨rfl,hv,hP'⟩:=hP
  simp only [fillPV] at h
  split at h
  ·cases h
  ·rename_i off d hpl
   split at h
   ·cases h
   ·rename_i l1 hl1
    split at h
    ·rename_i hle
     obtain ⟨h1,h2,h3,_⟩:=partCells_rel hl1 hv
     have hcl:cs.length=cells.size:=by simpa using hc.1
     have hsz':off+d.size≤cells.size:=by omega
     have hsz:off+v.cells.size≤cells.size:=by omega
     have hset:=fill_set off v cells hsz
     have hc':RVs S w (cs.take off++(l1++cs.drop (off+l1.length))) ((v.cells.zipIdx.foldl (fun cs (c,j)=>cs.setIfInBounds (off+j) c) cells).toList):=by
      rw [hset]
      have:=hc.splice h2 off
      simpa using this
     obtain ⟨cells',e1,e2⟩:=fill_ok hp r q _ l _ hP' hc' h
     refine ⟨cells',?_,e2⟩
     simp only [Instr.fill,hp _ _ _ hpl,h1]
     rw [if_neg]
     ·exact e1
     ·simp;omega
    ·cases h
theorem Rel.parts (R:Rel E B S0 w0 st G S w tmps) (d:List Deferred):∀(ps:List (Nat × Operand)),Parts st.tk G S w (ps.map fun p=>(p.1,valOf st p.2)) (ps.map fun p=>(p.1,({ tmps:=tmps,defers:=d }:Act).eval p.2))
 | []=>trivial
 | p::r=>⟨rfl,R.val p.2 d,Rel.parts R d r⟩
theorem run_places:∀(l:List Field),(∀f∈l,∃i,E.P.info? f.type=some i∧i.size=(E.T f.type).size) →
  (l.mapM fun f=>(do pure (f.offset,←sizeOf f.type):Sem (Nat × Nat))).run E.P w=.ok (l.map fun f=>(f.offset,(E.T f.type).size)) w
 | [],_=>by simp
 | f::r,h=>by
  obtain ⟨i,hi,hs⟩:=h f (by simp)
  have ih:=run_places r (fun g hg=>h g (by simp [hg]))
  simp only [List.mapM_cons,Sem.run_bind,run_sizeOf' hi,Result.andThen_ok,Sem.run_pure,ih,hs,List.map_cons]
theorem ok_build (hE:EnvOk E) (R:Rel E B S0 w0 st G S w tmps) {t:TypeId} {parts:List (Nat × SV)} {vals:Array (Nat × Value)} (hP:Parts st.tk G S w parts vals.toList) :
  OpOk E B S0 w0 (opBuild E t parts st) G S w st.tk tmps (do pure (.value (←Instr.build t vals))) :=
 OpOk.same R fun r' hr _=>by
  unfold opBuild at hr
  have hk:=(hE.td t).k
  split at hr
  ·rename_i hag
   obtain ⟨i,z,u,hi,hsz,_,hzz,hzc,_⟩:=(hE.td t).info (.inr hag)
   have hz0:RVs S w (E.T t).zero z.cells.toList:=by rw [←hzc];exact RVs.const _
   split at hr
   ·rename_i fs hs
    rw [hs] at hk
    obtain ⟨F,hu,hF⟩:=hk
    split at hr
    ·rename_i hall
     split at hr
     ·rename_i l hl
      cases hr
      have hinfo:∀f∈F.toList,∃i,E.P.info? f.type=some i∧i.size=(E.T f.type).size:=by
       intro f hf
       have:=List.all_eq_true.1 hall (f.offset,f.type) (by rw [←hF];exact List.mem_map.2 ⟨f,hf,rfl⟩)
       simp only [Bool.or_eq_true,bne_iff_ne] at this
       obtain ⟨i,_,_,a,b,_⟩:=(hE.td f.type).info this
       exact ⟨i,a,b⟩
      have hrun:(F.mapM fun f=>(do pure (f.offset,←sizeOf f.type):Sem (Nat × Nat))).run E.P w=.ok (F.toList.map fun f=>(f.offset,(E.T f.type).size)).toArray w:=by
       rw [Array.mapM_eq_mapM_toList]
       simp only [Sem.run_map,run_places F.toList hinfo,Result.andThen_ok]
      obtain ⟨cells',e1,e2⟩:=fill_ok (place':=fun i=>((F.toList.map fun f=>(f.offset,(E.T f.type).size)).toArray)[i]?) (fun i o d h=>by
       rw [←hF,List.getElem?_map] at h
       cases hq:F.toList[i]? with
       | none=>rw [hq] at h;cases h
       | some f =>
        rw [hq] at h
        simp only [Option.map_some,Option.some.injEq,Prod.mk.injEq] at h
        obtain ⟨rfl,rfl⟩:=h
        have hq':F[i]?=some f:=by simpa using hq
        simp [hq']) parts vals.toList _ l z.cells hP hz0 hl
      refine ⟨rfl,.agg cells',?_,?_⟩
      ·simp only [Instr.build,Sem.run_bind,zeroValue,typeInfo,run_program,Result.andThen_ok,hi,Sem.run_pure,hzz,run_underlying hu,hrun,e1]
      ·have:=RV.agg (S:=S) (w:=w) l cells'.toList e2.1 e2.2
       simpa [RSV] using this
     ·cases hr
    ·cases hr
   ·rename_i n e hs
    rw [hs] at hk
    split at hr
    ·rename_i hne
     split at hr
     ·rename_i l hl
      cases hr
      obtain ⟨ie,_,_,hie,hsze,_⟩:=(hE.td e).info (.inl (by simpa using hne))
      obtain ⟨cells',e1,e2⟩:=fill_ok (place':=fun i=>some (i*ie.size,ie.size)) (fun i o d h=>by
       simp only [Option.some.injEq,Prod.mk.injEq] at h
       obtain ⟨rfl,rfl⟩:=h
       rw [hsze]) parts vals.toList _ l z.cells hP hz0 hl
      refine ⟨rfl,.agg cells',?_,?_⟩
      ·simp only [Instr.build,Sem.run_bind,zeroValue,typeInfo,run_program,Result.andThen_ok,hi,Sem.run_pure,hzz,run_underlying hk,run_sizeOf' hie,e1]
      ·have:=RV.agg (S:=S) (w:=w) l cells'.toList e2.1 e2.2
       simpa [RSV] using this
     ·cases hr
    ·cases hr
   ·cases hr
  ·cases hr
theorem Els.set {m:Nat} {xs:List PV} {vs us:List Value} (h:Els S w m xs vs) {i:Nat} (hi:i<xs.length) {x:PV} (hx:x.cells.length=m) (hu:RVs S w x.cells us) :
  Els S w m (xs.set i x) (vs.take (i*m)++(us++vs.drop (i*m+m))):=by
 have hul:us.length=m:=by rw [←hu.1,hx]
 have him:i*m+m≤xs.length*m:=by
  have:(i+1)*m≤xs.length*m:=Nat.mul_le_mul_right _ hi
  rw [Nat.add_mul] at this;omega
 refine ⟨by rw [List.length_append,List.length_take,List.length_append,List.length_drop,List.length_set,h.1,hul,Nat.min_eq_left (by omega)];omega,fun k y hy=>?_,fun k y j c u hy hc hu'=>?_⟩
 ·rw [List.getElem?_set] at hy
  split at hy
  ·cases hy;exact hx
  ·exact h.2.1 k y hy
 ·rw [List.getElem?_set] at hy
  split at hy
  ·rename_i hik
   subst hik
   cases hy
   have hj:j<m:=by rw [←hx];exact (List.getElem?_eq_some_iff.1 hc).1
   have ht:(vs.take (i*m)).length=i*m:=by rw [List.length_take,h.1,Nat.min_eq_left (by omega)]
   rw [List.getElem?_append_right (by omega),List.getElem?_append_left (by omega),ht] at hu'
   refine hu.2 j c u hc ?_
   rw [←hu']
   congr 1
   omega
  ·rename_i hik
   have hj:j<m:=by rw [←h.2.1 k y hy];exact (List.getElem?_eq_some_iff.1 hc).1
   refine h.2.2 k y j c u hy hc ?_
   have ht:(vs.take (i*m)).length=i*m:=by rw [List.length_take,h.1,Nat.min_eq_left (by omega)]
   rcases Nat.lt_or_ge k i with hlt | hge
   ·have:k*m+j<i*m:=idx_lt hlt hj
    rw [List.getElem?_append_left (by omega),List.getElem?_take,if_pos this] at hu'
    exact hu'
   ·have hgt:i<k:=by omega
    have:i*m+m≤k*m:=by
     have:(i+1)*m≤k*m:=Nat.mul_le_mul_right _ hgt
     rw [Nat.add_mul] at this;omega
    rw [List.getElem?_append_right (by omega),List.getElem?_append_right (by omega),List.getElem?_drop,ht,hul] at hu'
    rw [←hu']
    congr 1
    omega
theorem fillElems_ok {tk:List (Nat × TypeId)} {d:TD} {S':Addr→Prop} {w':World} (hS:∀a,S a→S' a) (hw:∀a,S a→Still w w' a) :
  ∀(parts:List (Nat × SV)) (vals:List (Nat × Value)) (xs l:List PV) (cells:Array Value),Parts tk G S w parts vals→Els S' w' d.size xs cells.toList→(∀v∈cells.toList,v.oneCell'=true)→fillElems d xs parts=some l →
   ∃cells',Instr.fill (fun i=>some (i*d.size,d.size)) cells vals=some cells'∧Els S' w' d.size l cells'.toList∧(∀v∈cells'.toList,v.oneCell'=true)∧l.length=xs.length
 | [],[],xs,l,cells,_,hc,h1,h=>by
  simp only [fillElems,Option.some.injEq] at h
  subst h
  exact ⟨cells,rfl,hc,h1,rfl⟩
 | [],_::_,_,_,_,hP,_,_,_=>hP.elim
 | _::_,[],_,_,_,hP,_,_,_=>hP.elim
 | (i,s)::r,(j,v)::q,xs,l,cells,hP,hc,hone,h=>by
  obtain ⟨rfl,hv,hP'⟩:=hP
  simp only [fillElems] at h
  split at h
  ·cases h
  ·rename_i l1 hl1
   split at h
   ·rename_i hle
    obtain ⟨h1,h2,h3,_,h5⟩:=partCells_rel hl1 (RSV.litE hv)
    have hlt:i*d.size+d.size≤cells.size:=by
     have:(i+1)*d.size≤xs.length*d.size:=Nat.mul_le_mul_right _ hle.1
     rw [Nat.add_mul] at this
     have:=hc.1
     simp at this
     omega
    have hset:=fill_set (i*d.size) v cells (by omega)
    have hE:Els S' w' d.size (xs.set i (PV.ofCells d l1)) ((v.cells.zipIdx.foldl (fun cs (c,j)=>cs.setIfInBounds (i*d.size+j) c) cells).toList):=by
     rw [hset,h1]
     exact hc.set hle.1 (by rw [h5,h3]) (by rw [h5];exact h2.mono hS hw)
    have hone':∀u∈((v.cells.zipIdx.foldl (fun cs (c,j)=>cs.setIfInBounds (i*d.size+j) c) cells).toList),u.oneCell'=true:=by
     rw [hset]
     intro u hu
     simp only [List.mem_append] at hu
     rcases hu with hu | hu | hu
     ·exact hone u (List.mem_of_mem_take hu)
     ·obtain ⟨k,hk⟩:=List.mem_iff_getElem?.1 hu
      have hk':k<l1.length:=by rw [h2.1];exact (List.getElem?_eq_some_iff.1 hk).1
      exact RV.of_one (h2.2 k _ u (List.getElem?_eq_getElem hk') hk) (List.all_eq_true.1 hle.2 _ (List.getElem_mem hk'))
     ·exact hone u (List.mem_of_mem_drop hu)
    obtain ⟨cells',e1,e2,e3,e4⟩:=fillElems_ok hS hw r q _ l _ hP' hE hone' h
    refine ⟨cells',?_,e2,e3,by rw [e4];simp⟩
    simp only [Instr.fill,h1]
    rw [if_neg]
    ·exact e1
    ·simp;omega
   ·cases h
theorem ok_buildSlice (hE:EnvOk E) (R:Rel E B S0 w0 st G S w tmps) {t:TypeId} {n:Nat} {parts:List (Nat × SV)} {vals:Array (Nat × Value)} (hP:Parts st.tk G S w parts vals.toList) :
  OpOk E B S0 w0 (opBuildSlice E t n parts st) G S w st.tk tmps (do pure (.value (←Instr.buildSlice t n vals))):=by
 intro r' hr _
 unfold opBuildSlice at hr
 have hk:=(hE.td t).k
 split at hr
 ·rename_i e hs
  rw [hs] at hk
  split at hr
  ·rename_i hz
   obtain ⟨hz1,hz2,hz3⟩:=hz
   split at hr
   ·rename_i xs hxs
    cases hr
    obtain ⟨i,z,hi,hsz,hby,hzz,hzc,hone,hcs,_⟩:=hE.cells (t:=e) (by omega)
    have hels0:Els S w (E.T e).size (List.replicate n (PV.ofCells (E.T e) (E.T e).zero)) ((Array.range (n*(E.T e).size)).map (z.cells[· % z.cells.size]!)).toList:=Els.zero hE (by omega) hzc hcs n
    obtain ⟨cells',e1,e2,e3,e4⟩:=fillElems_ok (S':=S) (w':=w) (fun _ h=>h) (fun _ _=>Still.refl _ _) parts vals.toList _ xs _ hP hels0 (fun v hv=>by
     obtain ⟨j,hj⟩:=List.mem_iff_getElem?.1 hv
     exact zero_one hone _ j (by omega) hj) hxs
    obtain ⟨R1,X1,hcell⟩:=R.newRow e cells'
    have hrun:(Instr.buildSlice t n vals).run E.P w=.ok (.slice (some ⟨w.heap.size,0,none⟩) n n) (w.alloc (.cells cells' e)):=by
     by_cases h0:n*(E.T e).size=0
     ·have hn:n=0:=by
       rcases Nat.eq_zero_or_pos n with h | h
       ·exact h
       ·exact absurd h0 (Nat.ne_of_gt (Nat.mul_pos h hz2))
      subst hn
      have e0:∀f:Nat→Value,(Array.range 0).map f=#[]:=fun f=>by simp
      rw [Nat.zero_mul,e0] at e1
      simp only [Instr.buildSlice,Sem.run_bind,run_underlying hk,Result.andThen_ok,run_sizeOf' hi,hsz,Nat.zero_mul,Nat.reducePow,gt_iff_lt,Nat.not_lt_zero,if_false,if_true,Sem.run_pure,e0,e1,Go.newRow,run_newObj]
      rfl
     ·have hle:¬16777216<n*(E.T e).size:=by omega
      simp only [Instr.buildSlice,Sem.run_bind,run_underlying hk,Result.andThen_ok,run_sizeOf' hi,hsz,Sem.run_ite,Nat.reducePow,hle,h0,if_false,gt_iff_lt,zeroValue,typeInfo,run_program,hi,Sem.run_pure,hzz,e1,Go.newRow,run_newObj]
      rfl
    have hlen:xs.length=n:=by rw [e4];simp
    refine ⟨_,_,_,by simp only [Sem.run_bind,hrun,Result.andThen_ok,Sem.run_pure];rfl,.inl rfl,G,_,R1,?_,X1⟩
    refine ⟨?_,some ⟨w.heap.size,0,none⟩,by rw [hlen]⟩
    have:=RV.of_flat (ad:=⟨w.heap.size,0,none⟩) (a:=some ⟨w.heap.size,0,none⟩) (cap:=n) (by omega) (fun _=>rfl) (by omega) (by
      have:n*1≤n*(E.T e).size:=Nat.mul_le_mul_left _ hz2
      simp only [maxLen];omega) (fun j u hu=>by
     rw [addr_box,Nat.zero_add,hcell]
     exact ⟨.inr rfl,by rw [←Array.getElem?_toList];exact hu,e3 u (List.mem_of_getElem? hu)⟩) (e2.mono X1.sub X1.cell)
    rw [hlen] at this
    exact this
   ·cases hr
  ·cases hr
 ·cases hr
end
end Go.Abs
