/- Contracts of the functions: part 1. -/
import Derived.CallsIn
import Derived.Below
import Derived.Maps.AppendAt
import Derived.Maps.Own
import Derived.OrdersIn
import Derived.RangeFuncSeq
import Derived.Laws.StructEq
import Derived.Laws.MakeOwn
import Derived.ChangeKeysEq
import Derived.LaidEqlPtr
import Derived.Laws.Externs
import Derived.Laws.CopyRow
set_option linter.all false
namespace Go.Abs
open Go.RowKit
abbrev Tp:=@List.{0}
abbrev Tq:=Value
abbrev Tr:=TypeId
abbrev Ts:=World
abbrev Tt:=@Option.{0}
abbrev Tu:=@Array.{0}
abbrev Tv:=Addr
abbrev Tw:=ByteArray
def ac{P:Prop}(h:P:=by omega):P:=h
def k8{P:Prop}(h:P:=by simp[gu,mZ]):P:=h
def aW{P:Prop}(h:P:=by unfold dx;omega):P:=h
def al{P:Prop}(h:P:=by simp):P:=h
def aN{P:Prop}(h:P:=by decide):P:=h
def bb{P:Prop}(h:P:=by kernel_rfl):P:=h
def c0{P:Prop}(h:P:=by simp;omega):P:=h
def aR{C D X Y P:Prop}(a:C->X)(b:D->Y)(e:(C->X)->(D->Y)->P:=by intro u v;(conv=>cbv);split;(next h=>(try conv=>cbv);exact u h);next h=>(try conv=>cbv);exact v h):P:=e a b
def ca{C D X Y P:Prop}(a:C->X)(b:D->Y)(e:(C->X)->(D->Y)->P:=by intro u v;(conv=>cbv);split;(next h=>(try conv=>cbv);exact u h);next h=>exact v h):P:=e a b
def dD{C D X Y P:Prop}(a:C->X)(b:D->Y)(e:(C->X)->(D->Y)->P:=by intro u v;(conv=>cbv);split;(next h=>exact u h);next h=>(try conv=>cbv);exact v h):P:=e a b
def hs{C D X Y P:Prop}(a:C->X)(b:D->Y)(e:(C->X)->(D->Y)->P:=by intro u v;(conv=>cbv);split;(next h=>exact u h);next h=>exact v h):P:=e a b
def oF{C D X Y P:Prop}(b:D->Y)(a:C->X)(e:(D->Y)->(C->X)->P:=by intro v u;(conv=>cbv);split;(next h=>(try conv=>cbv);exact u h);next h=>(try conv=>cbv);exact v h):P:=e b a
def ye{C D X Y P:Prop}(b:D->Y)(a:C->X)(e:(D->Y)->(C->X)->P:=by intro v u;(conv=>cbv);split;(next h=>exact u h);next h=>(try conv=>cbv);exact v h):P:=e b a
def hf{C D X Y P:Prop}(b:D->Y)(a:C->X)(e:(D->Y)->(C->X)->P:=by intro v u;(conv=>cbv);split;(next h=>(try conv=>cbv);exact u h);next h=>exact v h):P:=e b a
def k9{C D X Y P:Prop}(b:D->Y)(a:C->X)(e:(D->Y)->(C->X)->P:=by intro v u;(conv=>cbv);split;(next h=>exact u h);next h=>exact v h):P:=e b a
def bB{C Y P:Prop}(a:C->False)(b:Y)(e:(C->False)->Y->P:=by intro u v;(try conv=>cbv);split;(next h=>cases u h);(try conv=>cbv);exact v):P:=e a b
def de{C Y P:Prop}(a:C->False)(b:Y)(e:(C->False)->Y->P:=by intro u v;(try conv=>cbv);split;rotate_left;(next h=>cases u h);(try conv=>cbv);exact v):P:=e a b
def a8:type_of% @Nat.le_refl:=@Nat.le_refl
def eg:type_of% @Nat.le_trans:=@Nat.le_trans
def bu:type_of% @List.getElem?_append_left:=@List.getElem?_append_left
def b1:type_of% @List.getElem?_append_right:=@List.getElem?_append_right
def v_:type_of% @Nat.or_lt_two_pow:=@Nat.or_lt_two_pow
def aD:type_of% @List.getElem?_eq_some_iff:=@List.getElem?_eq_some_iff
def aT:type_of% @List.mem_of_getElem?:=@List.mem_of_getElem?
def gN:type_of% @Nat.lt_of_lt_of_le:=@Nat.lt_of_lt_of_le
def eM:type_of% @Nat.lt_or_ge:=@Nat.lt_or_ge
def dG:type_of% @List.mem_singleton:=@List.mem_singleton
def cM:type_of% @List.mem_cons:=@List.mem_cons
def bm:type_of% @List.getElem?_map:=@List.getElem?_map
def eL:type_of% @List.getElem?_eq_none:=@List.getElem?_eq_none
def qS:type_of% @Nat.le_of_not_lt:=@Nat.le_of_not_lt
def pE:type_of% @Nat.add_assoc:=@Nat.add_assoc
def aQ:type_of% @List.getElem?_eq_getElem:=@List.getElem?_eq_getElem
def c9:type_of% @List.getElem?_take:=@List.getElem?_take
def fs:type_of% @List.getElem?_drop:=@List.getElem?_drop
def cl:type_of% @List.getD_eq_getElem?_getD:=@List.getD_eq_getElem?_getD
def eC:type_of% @Array.getElem?_eq_getElem:=@Array.getElem?_eq_getElem
def ld:type_of% @Nat.add_comm:=@Nat.add_comm
def kG:type_of% @Nat.add_mul:=@Nat.add_mul
def bk:type_of% @Int.le_refl:=@Int.le_refl
def q4:type_of% @Nat.zero_mul:=@Nat.zero_mul
def du:type_of% @Option.map_some:=@Option.map_some
def cg:type_of% @Option.some.injEq:=@Option.some.injEq
def jw:type_of% @Prod.mk.injEq:=@Prod.mk.injEq
def fE:type_of% @Bool.eq_iff_iff:=@Bool.eq_iff_iff
def nc:type_of% @List.cons_append:=@List.cons_append
def hV:type_of% @List.drop_eq_getElem_cons:=@List.drop_eq_getElem_cons
def m8:type_of% @List.replicate_succ:=@List.replicate_succ
def uu:type_of% @List.flatten_cons:=@List.flatten_cons
def sp:type_of% @List.drop_drop:=@List.drop_drop
def sf:type_of% @List.length_pos_iff:=@List.length_pos_iff
def ho:type_of% @Nat.zero_le:=@Nat.zero_le
def oH:type_of% @Array.getElem?_eq_none:=@Array.getElem?_eq_none
def kE:type_of% @Nat.lt_trichotomy:=@Nat.lt_trichotomy
def q3:type_of% @Nat.lt_irrefl:=@Nat.lt_irrefl
def cE:type_of% @List.length_map:=@List.length_map
def cu:type_of% @List.all_eq_true:=@List.all_eq_true
def iV:type_of% @Nat.mul_le_mul_right:=@Nat.mul_le_mul_right
def kD:type_of% @Nat.eq_zero_or_pos:=@Nat.eq_zero_or_pos
def sj:type_of% @Nat.mul_comm:=@Nat.mul_comm
def oO:type_of% @Nat.mod_lt:=@Nat.mod_lt
def sm:type_of% @Nat.mod_eq_of_lt:=@Nat.mod_eq_of_lt
def m9:type_of% @List.getElem?_range:=@List.getElem?_range
def da:type_of% @Int.toNat_natCast:=@Int.toNat_natCast
def fq:type_of% @Array.getElem?_toList:=@Array.getElem?_toList
def hn:type_of% @Nat.zero_add:=@Nat.zero_add
def mB:type_of% @List.foldl_cons:=@List.foldl_cons
def v6:type_of% @Array.toList_setIfInBounds:=@Array.toList_setIfInBounds
def lR:type_of% @Nat.add_zero:=@Nat.add_zero
def bP:type_of% @Bool.and_eq_true:=@Bool.and_eq_true
def eS:type_of% @List.map_cons:=@List.map_cons
def a_:type_of% @List.mem_map:=@List.mem_map
def lT:type_of% @Bool.or_eq_true:=@Bool.or_eq_true
def bO:type_of% @List.length_append:=@List.length_append
def dQ:type_of% @List.length_take:=@List.length_take
def ju:type_of% @List.length_drop:=@List.length_drop
def kf:type_of% @List.length_set:=@List.length_set
def pw:type_of% @Nat.min_eq_left:=@Nat.min_eq_left
def gV:type_of% @List.getElem?_set:=@List.getElem?_set
def dH:type_of% @List.mem_append:=@List.mem_append
def uq:type_of% @List.mem_of_mem_take:=@List.mem_of_mem_take
def lP:type_of% @List.mem_iff_getElem?:=@List.mem_iff_getElem?
def iA:type_of% @List.getElem_mem:=@List.getElem_mem
def pB:type_of% @List.mem_of_mem_drop:=@List.mem_of_mem_drop
def oI:type_of% @Nat.not_lt_zero:=@Nat.not_lt_zero
def gz:type_of% @List.ext_getElem?:=@List.ext_getElem?
def e9:type_of% @List.getElem?_of_mem:=@List.getElem?_of_mem
def m':type_of% @List.all_cons:=@List.all_cons
def eT:type_of% @Bool.true_and:=@Bool.true_and
def qY:type_of% @List.getElem?_zip_eq_some:=@List.getElem?_zip_eq_some
def lc:type_of% @List.nodup_cons:=@List.nodup_cons
def ke:type_of% @Option.map_eq_some_iff:=@Option.map_eq_some_iff
def ut:type_of% @List.find?_eq_none:=@List.find?_eq_none
def c1:type_of% @List.any_eq_true:=@List.any_eq_true
def uv:type_of% @List.getElem?_inj:=@List.getElem?_inj
def iz:type_of% @List.any_eq_false:=@List.any_eq_false
def pA:type_of% @Option.map_eq_none_iff:=@Option.map_eq_none_iff
def lb:type_of% @List.pairwise_map:=@List.pairwise_map
def qZ:type_of% @List.mem_or_eq_of_mem_set:=@List.mem_or_eq_of_mem_set
def gh:type_of% @List.map_append:=@List.map_append
def h8:type_of% @List.nodup_append:=@List.nodup_append
def kC:type_of% @Array.length_toList:=@Array.length_toList
def bC:type_of% @Option.some.inj:=@Option.some.inj
def gg:type_of% @Array.getElem?_eq_some_iff:=@Array.getElem?_eq_some_iff
def dV:type_of% @List.append_assoc:=@List.append_assoc
def ui:type_of% @List.getElem?_toArray:=@List.getElem?_toArray
def iU:type_of% @Nat.sub_self:=@Nat.sub_self
def oG:type_of% @List.getElem?_cons_zero:=@List.getElem?_cons_zero
def ec:type_of% @List.mem_cons_self:=@List.mem_cons_self
def jt:type_of% @List.flatMap_cons:=@List.flatMap_cons
def mz:type_of% @Nat.succ_mul:=@Nat.succ_mul
def dt:type_of% @List.mem_cons_of_mem:=@List.mem_cons_of_mem
def hB:type_of% @List.take_append_drop:=@List.take_append_drop
def m_:type_of% @List.flatMap_append:=@List.flatMap_append
def dv:type_of% @List.map_map:=@List.map_map
def hp:type_of% @List.eq_nil_of_length_eq_zero:=@List.eq_nil_of_length_eq_zero
def oJ:type_of% @List.length_nil:=@List.length_nil
def gA:type_of% @List.append_nil:=@List.append_nil
def oM:type_of% @List.mem_replicate:=@List.mem_replicate
def eR:type_of% @List.mem_filter:=@List.mem_filter
def pv:type_of% @List.map_fst_zip:=@List.map_fst_zip
def qP:type_of% @Bool.or_eq_false_iff:=@Bool.or_eq_false_iff
def fY:type_of% @List.length_cons:=@List.length_cons
def si:type_of% @Array.getElem?_setIfInBounds:=@Array.getElem?_setIfInBounds
def lQ:type_of% @List.length_replicate:=@List.length_replicate
def oL:type_of% @Array.toArray_toList:=@Array.toArray_toList
def wb:type_of% @Option.bind_some:=@Option.bind_some
def gm:type_of% @List.map_congr_left:=@List.map_congr_left
def se:type_of% @List.mem_append_left:=@List.mem_append_left
def fu:type_of% @Array.getD_eq_getD_getElem?:=@Array.getD_eq_getD_getElem?
def e4:type_of% @Option.getD_some:=@Option.getD_some
def uo:type_of% @Nat.testBit_or:=@Nat.testBit_or
def h_:type_of% @List.mem_range:=@List.mem_range
def v7:type_of% @List.count_pos_iff:=@List.count_pos_iff
def vY:type_of% @List.eq_nil_iff_forall_not_mem:=@List.eq_nil_iff_forall_not_mem
def ys:type_of% @Array.getElem?_replicate:=@Array.getElem?_replicate
def bX:type_of% @decide_eq_true_eq:=@decide_eq_true_eq
def fD:type_of% @of_decide_eq_true:=@of_decide_eq_true
def yt:type_of% @List.getElem?_take_of_lt:=@List.getElem?_take_of_lt
def eD:type_of% @List.take_of_length_le:=@List.take_of_length_le
def px:type_of% @List.nodup_nil:=@List.nodup_nil
def q5:type_of% @Nat.le_of_eq:=@Nat.le_of_eq
def la:type_of% @Bool.false_eq_true:=@Bool.false_eq_true
def fX:type_of% @List.take_add_one:=@List.take_add_one
def um:type_of% @Nat.testBit_and:=@Nat.testBit_and
def mC:type_of% @List.length_zip:=@List.length_zip
def iS:type_of% @Function.comp_def:=@Function.comp_def
def uj:type_of% @List.mem_flatMap:=@List.mem_flatMap
def ur:type_of% @List.length_flatMap:=@List.length_flatMap
def yq:type_of% @List.sum_replicate_nat:=@List.sum_replicate_nat
def yp:type_of% @List.length_eq_zero_iff:=@List.length_eq_zero_iff
def uh:type_of% @List.drop_eq_nil_of_le:=@List.drop_eq_nil_of_le
def fW:type_of% @List.mem_map_of_mem:=@List.mem_map_of_mem
def na:type_of% @List.all_eq_false:=@List.all_eq_false
def oK:type_of% @List.all_append:=@List.all_append
def uw:type_of% @Bool.eq_false_iff:=@Bool.eq_false_iff
def pz:type_of% @List.getElem?_cons_succ:=@List.getElem?_cons_succ
def e0:type_of% @List.length_singleton:=@List.length_singleton
def ue:type_of% @List.getLastD_eq_getLast?:=@List.getLastD_eq_getLast?
def uf:type_of% @List.getLast?_eq_getElem?:=@List.getLast?_eq_getElem?
def fr:type_of% @List.getElem?_set_ne:=@List.getElem?_set_ne
def bz:type_of% @decide_eq_true:=@decide_eq_true
def bT:type_of% @decide_eq_false:=@decide_eq_false
def we:type_of% @Bool.and_eq_false_iff:=@Bool.and_eq_false_iff
def m7:type_of% @decide_eq_false_iff_not:=@decide_eq_false_iff_not
def nQ:type_of% @Bool.or_false:=@Bool.or_false
def jg:type_of% @List.set_append_right:=@List.set_append_right
def mA:type_of% @decide_eq_decide:=@decide_eq_decide
def sk:type_of% @List.all_nil:=@List.all_nil
def pF:type_of% @Bool.and_true:=@Bool.and_true
def gO:type_of% @List.take_length:=@List.take_length
def kF:type_of% @List.any_cons:=@List.any_cons
def pG:type_of% @List.any_nil:=@List.any_nil
def my:type_of% @Bool.false_or:=@Bool.false_or
def fV:type_of% @List.getElem?_set_self:=@List.getElem?_set_self
def py:type_of% @Nat.mul_le_mul:=@Nat.mul_le_mul
def wc:type_of% @List.head?_eq_getElem?:=@List.head?_eq_getElem?
def lO:type_of% @List.drop_of_length_le:=@List.drop_of_length_le
def q0:type_of% @List.getElem?_eq_none_iff:=@List.getElem?_eq_none_iff
def lS:type_of% @List.any_map:=@List.any_map
def h9:type_of% @Nat.zero_lt_one:=@Nat.zero_lt_one
def pC:type_of% @List.mem_iff_getElem:=@List.mem_iff_getElem
def ug:type_of% @List.pairwise_iff_getElem:=@List.pairwise_iff_getElem
def lU:type_of% @List.zip_map':=@List.zip_map'
def un:type_of% @List.filter_map:=@List.filter_map
def yn:type_of% @List.length_filter_lt_length_iff_exists:=@List.length_filter_lt_length_iff_exists
def sd:type_of% @List.filter_eq_nil_iff:=@List.filter_eq_nil_iff
def qQ:type_of% @List.map_eq_nil_iff:=@List.map_eq_nil_iff
def pu:type_of% @List.filter_congr:=@List.filter_congr
def qR:type_of% @List.filter_append:=@List.filter_append
def sn:type_of% @List.filter_cons:=@List.filter_cons
def oN:type_of% @Int.add_zero:=@Int.add_zero
def iT:type_of% @Bool.not_eq_true':=@Bool.not_eq_true'
def uk:type_of% @List.getElem_zip:=@List.getElem_zip
def v':type_of% @List.length_range:=@List.length_range
def qX:type_of% @Int.tmod_eq_emod_of_nonneg:=@Int.tmod_eq_emod_of_nonneg
def sg:type_of% @Nat.lt_or_eq_of_le:=@Nat.lt_or_eq_of_le
def wa:type_of% @Nat.le_of_lt_succ:=@Nat.le_of_lt_succ
def kH:type_of% @Nat.mul_one:=@Nat.mul_one
def so:type_of% @List.nil_append:=@List.nil_append
def nd:type_of% @List.take_left':=@List.take_left'
def ul:type_of% @List.flatMap_nil:=@List.flatMap_nil
def q1:type_of% @List.drop_zero:=@List.drop_zero
def ng:type_of% @And.intro:=@And.intro
def jv:type_of% @List.find?_cons:=@List.find?_cons
def kB:type_of% @List.length_filter_le:=@List.length_filter_le
def nf:type_of% @List.any_append:=@List.any_append
def qT:type_of% @List.not_mem_nil:=@List.not_mem_nil
def kg:type_of% @Int.NonNeg.mk:=@Int.NonNeg.mk
def qU:type_of% @List.cons_ne_nil:=@List.cons_ne_nil
def yr:type_of% @List.replicate_append_replicate:=@List.replicate_append_replicate
def mx:type_of% @List.pairwise_cons:=@List.pairwise_cons
def nR:type_of% @Int.le_of_lt:=@Int.le_of_lt
def qV:type_of% @List.drop_length:=@List.drop_length
def mD:type_of% @Int.mul_le_mul:=@Int.mul_le_mul
def q2:type_of% @Int.mul_nonneg:=@Int.mul_nonneg
def v8:type_of% @Int.emod_lt_of_pos:=@Int.emod_lt_of_pos
def vZ:type_of% @Int.mul_le_mul_of_nonneg_right:=@Int.mul_le_mul_of_nonneg_right
def pD:type_of% @List.getElem?_mapIdx:=@List.getElem?_mapIdx
def qW:type_of% @Nat.zero_testBit:=@Nat.zero_testBit
def il:type_of% @Classical.not_not:=@Classical.not_not
def yo:type_of% @List.headD_eq_head?_getD:=@List.headD_eq_head?_getD
def aC{α:Sort _}(a:α):∃x,x=a:=⟨_,rfl⟩
def b_{α c:Sort _}(a:α)(b:c):∃x,x=a/\∃y,y=b:=⟨_,rfl,_,rfl⟩
def gi{α d f:Sort _}(a:α)(b:d)(c:f):∃x,x=a/\∃y,y=b/\∃z,z=c:=⟨_,rfl,_,rfl,_,rfl⟩
def dq{α f g i:Sort _}(a:α)(b:f)(c:g)(d:i):∃x,x=a/\∃y,y=b/\∃z,z=c/\∃u,u=d:=⟨_,rfl,_,rfl,_,rfl,_,rfl⟩
structure Below(B:Nat)(w w':World):Prop where
 os:w'.os=w.os
 tape:w'.tape=w.tape
 output:w'.output=w.output
 size:w.heap.size<=w'.heap.size
 block:∀k,k<B->w'.heap[k]?=w.heap[k]?
 more:w.drawn<=w'.drawn
def Below.qH{B:Nat} {w w':Ts}(h:Below B w w'):Go.RowKit.Below B w w':=⟨h.os,h.tape,h.output,h.size,h.block⟩
def Below.of{B:Nat} {w w':Ts}(h:Go.RowKit.Below B w w')(a:w.drawn<=w'.drawn):Below B w w':=⟨h.os,h.tape,h.output,h.size,h.block,a⟩
def Below.refl(B:Nat)(w:Ts):Below B w w:=⟨rfl,rfl,rfl,a8 _,λ _ _=>rfl,a8 _⟩
def Below.trans{B:Nat} {a b c:Ts}(h:Below B a b)(k:Below B b c):Below B a c:=.of (h.qH.trans k.qH) (eg h.more k.more)
def Below.mono{B a:Nat} {w w':Ts}(h:Below B w w')(c:a<=B):Below a w w':=.of (h.qH.mono c) h.more
def Below.drew{B:Nat} {a w:Ts}(h:Below B a w):Below B a w.drew:=.of h.qH.drew (eg h.more (Nat.le_succ _))
def Below.heap_alloc(w:Ts)(o:Obj)(k:Nat)(h:k<w.heap.size):(w.alloc o).heap[k]?=w.heap[k]?:=Go.RowKit.Below.heap_alloc w o k h
def Below.alloc{B:Nat} {a w:Ts}(h:Below B a w)(c:B<=w.heap.size)(o:Obj):Below B a (w.alloc o):=.of (h.qH.alloc c o) h.more
def Below.grown{B:Nat} {a w w':Ts} {row:Tt Nat}(h:Below B a w)(d:w.grownBy w' row)(f:w.drawn<=w'.drawn)(c:B<=w.heap.size)(g:∀k,row=some k->B<=k):Below B a w':=.of (h.qH.grown d c g) (eg h.more f)
def Below.frame{W w':Ts}(h:Below W.heap.size W w')(a:MemPlace->Prop):W.keptBut w' a:=h.qH.frame a
def Below.same{W w':Ts}(h:Below W.heap.size W w'){p:MemPlace}(a:p.block<W.heap.size):W.sameAt w' p:=h.qH.same a
inductive af where|any|int(k:IntKind)(n:Int) |bool(b:Bool) |str(s:ByteArray) |agg(cs:List af) |bf(vs:List af) |aa(m:Nat)(xs:List af) |ptr(cs:List af)(off:Nat) |fn(f:FuncId)(caps:List af) |fJ(l:Nat) |ref|map(ks vs:List af) |bI(a:Addr)(cs:List af) |ch|loc(b:Nat) |c4(b n cap:Nat) |k4(f:FuncId)(xV:List af)
instance:Inhabited af:=⟨.any⟩
def af.cells:af->Tp af| .agg cs=>cs|x=>[x]
def af.g':af->Bool| .int _ _| .bool _| .str _| .bI _ [] | .ch=>true|_=>false
def af.bare:af->af| .bI a _=>.bI a [] |p=>p
def af.flat:af->Bool| .agg cs=>cs.all af.g'|p=>p.g'
def af.gF:af->Tq| .int k n=>.int k n| .bool b=>.bool b| .str s=>.string s| .bI a _=>.pointer (some a) | .ch=>.pointer none|_=>undef
def af.cH:af->Tq| .agg cs=>.agg (cs.map af.gF).toArray|p=>p.gF
def mW(w:Ts)(a:Tv):Prop:=∃(arr:Tu Tq)(t:Tr),w.heap[a.block]?=some (.cells arr t (0,0))
def mW.qK{w w':Ts} {a:Tv}(h:w'.heap[a.block]?=w.heap[a.block]?):mW w a->mW w' a:=λ⟨arr,t,e⟩=>⟨arr,t,h.trans e⟩
def sS(S:Tv->Prop)(w:Ts):af->Prop| .bI a _=>S a/\mW w a|_=>True
def jX(S:Tv->Prop)(w:Ts)(p:af):Prop:=∀c∈p.cells,sS S w c
structure gY(S:Addr->Prop)(w:World)(es:List (af×af))(arr:Array MapEntry)(clock:Nat):Prop where
 len:es.length=arr.size
 key:∀(i:Nat)(p:af×af)(x:MapEntry),es[i]?=some p->arr[i]?=some x->p.1.flat=true/\x.key=p.1.cH
 born:∀x∈arr.toList,x.born<clock
 r8:(arr.toList.map (·.born)).Nodup
 lF:(es.map (·.1)).Nodup
 nH:∀p∈es,jX S w p.1
def di(w w':Ts)(a:Tv):Prop:=w'.cell? a=w.cell? a/\(∀(es:Tu MapEntry)(c:Nat),w.heap[a.block]?=some (.map es c)->w'.heap[a.block]?=some (.map es c))/\(mW w a->mW w' a)
def di.refl(w:Ts)(a:Tv):di w w a:=⟨rfl,λ _ _ h=>h,λ h=>h⟩
def di.trans{w w' d:Ts} {a:Tv}(k:di w' d a)(h:di w w' a):di w d a:=⟨k.1.trans h.1,λ es c e=>k.2.1 es c (h.2.1 es c e),λ e=>k.2.2 (h.2.2 e)⟩
def di.qK{w w':Ts} {a:Tv}(h:w'.heap[a.block]?=w.heap[a.block]?):di w w' a:=⟨World.cell?_of_block h,λ _ _ e=>h.trans e,mW.qK h⟩
def sS.mono{S S':Tv->Prop} {w w':Ts}(c:∀a,S a->S' a)(hw:∀a,S a->di w w' a){p:af}(h:sS S w p):sS S' w' p:=by cases p<;>first|exact trivial|exact⟨c _ h.1,(hw _ h.1).2.2 h.2⟩
def jX.mono{S S':Tv->Prop} {w w':Ts}(d:∀a,S a->S' a)(hw:∀a,S a->di w w' a){p:af}(h:jX S w p):jX S' w' p:=λ c f=>(h c f).mono d hw
def gY.mono{S S':Tv->Prop} {w w':Ts}(c:∀a,S a->S' a)(hw:∀a,S a->di w w' a){es:Tp (af×af)} {arr:Tu MapEntry} {clock:Nat}(h:gY S w es arr clock):gY S' w' es arr clock:=⟨h.len,h.key,h.born,h.r8,h.lF,λ p d=>(h.nH p d).mono c hw⟩
def di.SS{w w':Ts} {a:Tv} {arr:Tu Tq} {t:Tr} {m:Nat×Nat} {fh:Tu Tq}(f:w'.cell? a=w.cell? a)(h:w.heap[a.block]?=some (.cells arr t m))(d:w'.heap[a.block]?=some (.cells fh t m)):di w w' a:=⟨f,(λ es c e=>by rw[h]at e;cases e),λ⟨x,y,e⟩=>by rw[h]at e;cases e;exact⟨_,_,d⟩⟩
inductive aq(S:Addr->Prop)(w:World):af->Value->Prop|any(v:Value):aq S w .any v|int(k:IntKind)(n:Int):aq S w (.int k n) (.int k n) |bool(b:Bool):aq S w (.bool b) (.bool b) |str(s:ByteArray):aq S w (.str s) (.string s) |agg(cs:List af)(vs:List Value)(mf:cs.length=vs.length)(h:∀(i:Nat)(c:af)(v:Value),cs[i]?=some c->vs[i]?=some v->aq S w c v):aq S w (.agg cs) (.agg vs.toArray) |bf(cs:List af)(vs:List Value)(mf:cs.length=vs.length)(h:∀(i:Nat)(c:af)(v:Value),cs[i]?=some c->vs[i]?=some v->aq S w c v):aq S w (.bf cs) (.tuple vs.toArray) |aa(m:Nat)(xs:List af)(a:Option Addr)(ad:Addr)(cap:Nat)(g:Nat->Nat->Value)(Tg:xs≠[]->a=some ad)(Th:xs.length<=cap)(Tj:cap<=maxLen)(hm:∀(i:Nat)(x:af),xs[i]?=some x->x.cells.length=m)(Jc:∀(i:Nat)(x:af)(j:Nat)(c:af),xs[i]?=some x->x.cells[j]?=some c->S (ad.add (i*m+j))/\w.cell? (ad.add (i*m+j))=some (g i j)/\(g i j).oneCell'=true)(Je:∀(i:Nat)(x:af)(j:Nat)(c:af),xs[i]?=some x->x.cells[j]?=some c->aq S w c (g i j))(To:m=0->cap=0):aq S w (.aa m xs) (.slice a xs.length cap) |ptr(cs:List af)(off:Nat)(ad:Addr)(g:Nat->Value)(Jc:∀(j:Nat)(c:af),cs[j]?=some c->S (ad.add j)/\w.cell? (ad.add j)=some (g j)/\(g j).oneCell'=true)(Je:∀(j:Nat)(c:af),cs[j]?=some c->aq S w c (g j)):aq S w (.ptr cs off) (.pointer (some (ad.add off))) |fn(f:FuncId)(caps:List af)(vs:List Value)(mf:caps.length=vs.length)(h:∀(i:Nat)(c:af)(v:Value),caps[i]?=some c->vs[i]?=some v->aq S w c v):aq S w (.fn f caps) (.func (.func f) #[] vs.toArray) |fJ(l:Nat):aq S w (.fJ l) (.func (.yield l) #[] #[]) |ref(v:Value)(h:v.oneCell'=true):aq S w .ref v|qI:aq S w (.map [] []) (.map none) |map(ks vs:List af)(es:List (af×af))(b:Nat)(arr:Array MapEntry)(clock:Nat)(Jd:es.Perm (ks.zip vs))(mf:ks.length=vs.length)(SJ:S ⟨b,0,none⟩)(SK:w.heap[b]?=some (.map arr clock))(he:gY S w es arr clock)(hv:∀(i:Nat)(p:af×af)(x:MapEntry),es[i]?=some p->arr[i]?=some x->aq S w p.2 x.val):aq S w (.map ks vs) (.map (some b)) |bI(a:Addr)(cs:List af)(g:Nat->Value)(SJ:S a)(Jd:mW w a)(Jc:∀(j:Nat)(c:af),cs[j]?=some c->S (a.add j)/\w.cell? (a.add j)=some (g j)/\(g j).oneCell'=true)(Je:∀(j:Nat)(c:af),cs[j]?=some c->aq S w c (g j)):aq S w (.bI a cs) (.pointer (some a)) |ch:aq S w .ch (.pointer none) |loc(b:Nat):aq S w (.loc b) (.pointer (some ⟨b,0,none⟩)) |c4(b n cap:Nat)(qE:n<=cap)(r6:cap<=maxLen):aq S w (.c4 b n cap) (.slice (some ⟨b,0,none⟩) n cap) |k4(f:FuncId)(xV:List af)(vs:List Value)(mf:xV.length=vs.length)(h:∀(i:Nat)(c:af)(v:Value),xV[i]?=some c->vs[i]?=some v->aq S w c v):aq S w (.k4 f xV) (.func (.func f) vs.toArray #[])
def aq.mono{S S':Tv->Prop} {w w':Ts}(t:∀a,S a->S' a)(hw:∀a,S a->di w w' a){p:af} {v:Tq}(h:aq S w p v):aq S' w' p v:=by induction h with|any v=>exact .any v|int k n=>exact .int k n|bool b=>exact .bool b|str s=>exact .str s|agg cs vs j _ d=>exact .agg cs vs j d|bf cs vs j _ d=>exact .bf cs vs j d|aa m xs a B cap g E F H G y _ J d=>exact .aa m xs a B cap g E F H G (λ K x z c i o=>let⟨l,a2,a3⟩:=y K x z c i o;⟨t _ l,(hw _ l).1.trans a2,a3⟩) d J|ptr cs off B g y _ d=>exact .ptr cs off B g (λ z c i=>let⟨l,a2,a3⟩:=y z c i;⟨t _ l,(hw _ l).1.trans a2,a3⟩) d|fn f C vs j _ d=>exact .fn f C vs j d|fJ L=>exact .fJ L|ref v h=>exact .ref v h|qI=>exact .qI|map ks vs es b arr clock I j i o he _ d=>exact .map ks vs es b arr clock I j (t _ i) ((hw _ i).2.1 _ _ o) (he.mono t hw) d|bI a cs g i o y _ d=>exact .bI a cs g (t _ i) ((hw _ i).2.2 o) (λ z c i=>let⟨l,a2,a3⟩:=y z c i;⟨t _ l,(hw _ l).1.trans a2,a3⟩) d|ch=>exact .ch|loc b=>exact .loc b|c4 b n cap i o=>exact .c4 b n cap i o|k4 f D vs j _ d=>exact .k4 f D vs j d
def bh(S:Tv->Prop)(w:Ts)(ps:Tp af)(vs:Tp Tq):Prop:=ps.length=vs.length/\∀(a:Nat)(p:af)(v:Tq),ps[a]?=some p->vs[a]?=some v->aq S w p v
def bh.mono{S S':Tv->Prop} {w w':Ts}(f:∀a,S a->S' a)(hw:∀a,S a->di w w' a){ps:Tp af} {vs:Tp Tq}(h:bh S w ps vs):bh S' w' ps vs:=⟨h.1,λ g p v c d=>(h.2 g p v c d).mono f hw⟩
def bh.nil{S:Tv->Prop} {w:Ts}:bh S w [] []:=⟨rfl,λ a p v h=>by simp at h⟩
def bh.cons{S:Tv->Prop} {w:Ts} {p:af} {v:Tq} {ps:Tp af} {vs:Tp Tq}(h:aq S w p v)(f:bh S w ps vs):bh S w (p::ps) (v::vs):=⟨by simp[f.1],λ d q u a c=>by cases d with|zero=>simp at a c;subst a;subst c;exact h|succ d=>exact f.2 d q u (by simpa using a) (by simpa using c)⟩
def bh.append{S:Tv->Prop} {w:Ts} {ps i:Tp af} {vs us:Tp Tq}(h:bh S w ps vs)(d:bh S w i us):bh S w (ps++i) (vs++us):=⟨by simp[h.1,d.1],λ g q u a c=>by by_cases f:g<ps.length;(·rw[bu f]at a;rw[bu (by rw[<-h.1];exact f)]at c;exact h.2 g q u a c);rw[b1 ac]at a;rw[b1 (by rw[<-h.1];omega),<-h.1]at c;exact d.2 _ q u a c⟩
def aq.qy{S:Tv->Prop} {w:Ts} {cs:Tp af} {v:Tq}(h:aq S w (.agg cs) v):∃vs:Tp Tq,v=.agg vs.toArray/\bh S w cs vs:=by cases h with|agg _ vs a h=>exact⟨vs,rfl,a,h⟩
def aq.S8{S:Tv->Prop} {w:Ts} {cs:Tp af} {v:Tq}(h:aq S w (.bf cs) v):∃vs:Tp Tq,v=.tuple vs.toArray/\bh S w cs vs:=by cases h with|bf _ vs a h=>exact⟨vs,rfl,a,h⟩
def qq(S:Tv->Prop)(w w':Ts):Tv->Prop:=λ a=>S a\/(w.heap.size<=a.block/\a.block<w'.heap.size)
def kh(P:Program)(f:FuncId):Prop:=∀(args:Tu Tq)(w:Ts),(callFunc f args).run P w=.ok (.enter f args) w
def fL(P:Program)(f:FuncId)(args:Tp af)(r:af):Prop:=kh P f/\∀(S:Tv->Prop)(w:Ts)(vs:Tp Tq),(∀a,S a->a.block<w.heap.size)->bh S w args vs->Calls P f vs.toArray w λ e c=>∃v,e=.returned v/\Below w.heap.size w c/\aq (qq S w c) c r v
inductive dl where|int(k:IntKind) |bool|str|slice(e:TypeId) |struct(xV:List (Nat×TypeId)) |array(n:Nat)(e:TypeId) |ptr(e:TypeId) |map(k e:TypeId) |func|other
inductive fm where|int|bool|str|ptr
structure ep where
 k:dl
 size:Nat
 bytes:Nat
 agg:Bool
 eq:Option (List fm)
 zero:List af
instance:Inhabited ep:=⟨⟨.other,0,0,false,none,[]⟩⟩
structure o8(F:Nat->Prop)(S S':Addr->Prop)(w w':World):Prop where
 calm:Below 0 w w'
 same:∀b,F b->w'.heap[b]?=w.heap[b]?
 sub:∀a,S a->S' a
 cell:∀a,S a->di w w' a
 new:∀a,S' a->S a\/¬F a.block
 slt:∀a,S' a->a.block<w'.heap.size
def pg(fg:Bool)(c:Tp (Tp af))(k:Nat)(ps:Tp af)(d:Nat):Prop:=match fg with|true=>k<2^c.length/\∃a,c[a]?=some ps/\k.testBit a=false/\d=k|||2^a|false=>c[k]?=some ps/\d=k+1
def rR(fg:Bool)(a:Tp (Tp af))(k:Nat):Prop:=match fg with|true=>k+1=2^a.length|false=>k=a.length
def hC(fg:Bool)(a:Tp (Tp af)):Nat:=match fg with|true=>2^a.length|false=>a.length+1
def R4{fg:Bool} {a:Tp (Tp af)} {k d:Nat} {ps:Tp af}(h:pg fg a k ps d)(ae:k<hC fg a):d<hC fg a:=by cases fg with|true=>obtain⟨_,f,c,_,rfl⟩:=h;exact v_ ae (Nat.pow_lt_pow_right ac (aD.1 c).1) |false=>obtain⟨c,rfl⟩:=h;have:=(aD.1 c).1;show k+1<a.length+1;omega
def BQ{fg:Bool} {a:Tp (Tp af)} {k d:Nat} {ps:Tp af}(h:pg fg a k ps d):ps∈a:=by cases fg with|true=>obtain⟨_,f,c,_⟩:=h;exact aT c|false=>exact aT h.1
def HB{fg:Bool} {a:Tp (Tp af)} {k c:Nat} {ps:Tp af}(h:pg fg a k ps c):k<hC fg a:=by cases fg with|true=>exact h.1|false=>have:=(aD.1 h.1).1;show k<a.length+1;omega
def If(fg:Bool)(a:Tp (Tp af)):0<hC fg a:=by cases fg with|true=>exact Nat.pow_pos ac|false=>exact Nat.succ_pos _
structure gI where
 l:Nat
 cQ:List (List af)
 any:Bool
 lE:Bool
 eJ:Nat->(Nat->Prop)->(Addr->Prop)->World->Prop
 ok:∀(k:Nat)(F:Nat->Prop)(S S':Addr->Prop)(w w':World),eJ k F S w->o8 F S S' w w'->eJ k F S' w'
def gI.none:gI:=⟨0,[],false,false,λ _ _ _ _=>True,λ _ _ _ _ _ _ h _=>h⟩
instance:Inhabited gI:=⟨.none⟩
structure Env where
 P:Program
 T:TypeId->ep
 a6:FuncId->Bool
 rows:Bool
 Y:gI
inductive js where|dn(p:af) |box(id off:Nat)
inductive ah where|undef|val(p:af) |lit(m:Nat)(xs:List af) |own(t:Nat)(m:Nat)(xs:List af) |box(id off:Nat) |fa(id off len:Nat) |a6(f:FuncId)(caps:List js) |gv(id off i m k:Nat) |mp(id:Nat) |row(id off m len cap:Nat) |it(id:Nat) |mj(id:Nat)(ps:List af) |cX(l:List (Nat×Nat))
instance:Inhabited ah:=⟨.undef⟩
def ah.dn:ah->Tt af| .val p=>some p| .lit m xs=>some (.aa m xs) | .own _ m xs=>some (.aa m xs) | .mp _=>some .ref|_=>none
inductive dM where|plain(k e:TypeId)(n:Nat) |cm(es:List (af×af))(mk:Option (af×Int)) |iter(src:Option Nat)(es:List (af×af))(left:List af)(cur:Option af) |gone
structure dE where
 mp:List dM
 yk:Nat
abbrev br:=Tp (Tt (Tp ah))
abbrev bo:=Tp (Nat×Tr)
abbrev ce:=Tp (af×af)
abbrev f':=Tp (Nat×Nat)
abbrev am:=Tp af
abbrev aP:=Tp ah
abbrev aI:=Tp Int
abbrev bA:=Tv->Prop
abbrev ab(n:Int):af:=.int .i64 n
abbrev au(n:Int):ah:=.val (.int .i64 n)
abbrev aj:ah:=.val .any
structure ai where
 sl:List ah
 ag:List (Option (List ah))
 tk:List (Nat×TypeId)
 ao:dE
structure bR where
 ag:List Nat
 tk:List Value
 mp:List Nat
 dd:Nat->Prop
def cR(G:bR)(b:Nat):Prop:=(∃a:Nat,G.ag[a]?=some b)\/(∃t n cap:Nat,G.tk[t]?=some (.slice (some ⟨b,0,none⟩) n cap)/\n<cap)\/(∃a:Nat,G.mp[a]?=some b)\/G.dd b
def qs(G:bR)(S:bA)(w:Ts):js->Tq->Prop| .dn p,v=>aq S w p v| .box id off,v=>∃b,G.ag[id]?=some b/\v=.pointer (some ⟨b,off,none⟩)
def aF(tk:bo)(G:bR)(S:bA)(w:Ts):ah->Tq->Prop| .undef,v=>v=Go.undef| .val p,v=>aq S w p v| .lit m xs,v=>aq S w (.aa m xs) v/\∃a,v=.slice a xs.length xs.length| .own t m xs,v=>aq S w (.aa m xs) v/\∃i le,G.tk[t]?=some i/\tk[t]?=some le/\xs.length<=le.1/\(xs.length=le.1->v=i) | .box id off,v=>∃b,G.ag[id]?=some b/\v=.pointer (some ⟨b,off,none⟩) | .fa id off len,v=>∃b cap,G.ag[id]?=some b/\v=.slice (some ⟨b,off,none⟩) len cap/\len<=cap/\cap<=maxLen| .a6 f g,v=>∃vs:Tp Tq,v=.func (.func f) #[] vs.toArray/\g.length=vs.length/\∀(d:Nat)(c:js)(u:Tq),g[d]?=some c->vs[d]?=some u->qs G S w c u| .gv id off d m k,v=>∃b,G.ag[id]?=some b/\v=.pointer (some ⟨b,off+d*m+k,none⟩) | .mp id,v=>∃b,G.mp[id]?=some b/\v=.map (some b) | .row id off _ len cap,v=>∃b,G.ag[id]?=some b/\v=.slice (some ⟨b,off,none⟩) len cap/\len<=cap/\cap<=maxLen| .it id,v=>∃b,G.mp[id]?=some b/\v=.pointer (some ⟨b,0,none⟩) | .mj id ps,v=>∃(b:Nat)(vs:Tp Tq),G.mp[id]?=some b/\v=.tuple (.map (some b)::vs).toArray/\bh S w ps vs| .cX j,_=>∀p∈j,G.ag[p.1]?=some p.2
def ah.norm:ah->ah| .gv id off a m k=>.box id (off+a*m+k) | .val (.bI _ cs)=>.val (.ptr cs 0) |s=>s
def aF.norm{tk:bo} {G:bR} {S:bA} {w:Ts} {s:ah} {v:Tq}(h:aF tk G S w s v):aF tk G S w s.norm v:=by
 unfold ah.norm;split;·exact h
 ·cases h with|bI _ _ g d f a c=>exact(aq.ptr _ 0 _ g a c:aq S w _ _)
 exact h
def ah.bare:ah->ah| .val (.bI a _)=>.val (.bI a []) |s=>s
def aF.bare{tk:bo} {G:bR} {S:bA} {w:Ts} {s:ah} {v:Tq}(h:aF tk G S w s v):aF tk G S w s.bare v:=by unfold ah.bare;split;(·cases h with|bI _ _ g a c d f=>exact(aq.bI _ [] g a c al al:aq S w _ _));exact h
def ah.vU:ah->ah| .val (.bI _ cs)=>.val (.ptr cs 0) |s=>s
def aF.vU{tk:bo} {G:bR} {S:bA} {w:Ts} {s:ah} {v:Tq}(h:aF tk G S w s v):aF tk G S w s.vU v:=by unfold ah.vU;split;(·cases h with|bI _ _ g d f a c=>exact(aq.ptr _ 0 _ g a c:aq S w _ _));exact h
def ah.ox:ah->ah| .val (.aa 0 [])=>.lit 0 [] |s=>s
def aF.ox{tk:bo} {G:bR} {S:bA} {w:Ts} {s:ah} {v:Tq}(h:aF tk G S w s v):aF tk G S w s.ox v:=by unfold ah.ox;split;(·have c:aq S w (.aa 0 []) v:=h;cases c with|aa _ _ a f cap g i k m l j n d=>obtain rfl:=d rfl;exact⟨h,a,rfl⟩);exact h
def ah.x2:ah->ah| .lit _ []=>.lit 0 [] |s=>s
structure Ext(tk:List (Nat×TypeId))(G:bR)(S:Addr->Prop)(w:World)(dX:List (Nat×TypeId))(qN:bR)(S':Addr->Prop)(w':World):Prop where
 ag:∀(i b:Nat),G.ag[i]?=some b->qN.ag[i]?=some b
 tk:∀(t:Nat)(hv:Value)(le:Nat×TypeId),G.tk[t]?=some hv->tk[t]?=some le-> ∃xX tD,qN.tk[t]?=some xX/\dX[t]?=some tD/\((tD=le/\xX=hv)\/le.1<tD.1)
 sub:∀a,S a->S' a
 cell:∀a,S a->di w w' a
 mp:∀(i b:Nat),G.mp[i]?=some b->qN.mp[i]?=some b
 calm:Below 0 w w'
 same:∀b,b<w.heap.size->¬cR G b->w'.heap[b]?=w.heap[b]?
 gD:∀b,b<w.heap.size->cR qN b->cR G b
 new:∀a,S' a->S a\/cR G a.block\/w.heap.size<=a.block
def Ext.refl(tk:bo)(G:bR)(S:bA)(w:Ts):Ext tk G S w tk G S w:=⟨λ _ _ h=>h,λ _ d le a c=>⟨d,le,a,c,.inl ⟨rfl,rfl⟩⟩,λ _ h=>h,λ _ _=>di.refl _ _,λ _ _ h=>h,Below.refl _ _,λ _ _ _=>rfl,λ _ _ h=>h,λ _ h=>.inl h⟩
def Ext.trans{tk dX o:bo} {G l m:bR} {S S' n:bA} {w w' p:Ts}(h:Ext tk G S w dX l S' w')(k:Ext dX l S' w' o m n p):Ext tk G S w o m n p:=by
 refine⟨λ E b c=>k.ag _ _ (h.ag _ _ c),λ t B le d g=>?_,λ a f=>k.sub _ (h.sub _ f),λ a f=>(k.cell _ (h.sub _ f)).trans (h.cell _ f),λ E b c=>k.mp _ _ (h.mp _ _ c),h.calm.trans k.calm,λ b c i=>(k.same b (gN c h.calm.size) (λ z=>i (h.gD b c z))).trans (h.same b c i),λ b c i=>h.gD b c (k.gD b (gN c h.calm.size) i),λ a f=>?_⟩;rotate_left;·rcases k.new a f with d|d|d;(·exact h.new a d);(·rcases eM a.block w.heap.size with g|g;(·exact .inr (.inl (h.gD _ g d)));exact .inr (.inr g));exact .inr (.inr (eg h.calm.size d))
 obtain⟨C,F,s,a2,a3⟩:=h.tk t B le d g;obtain⟨D,H,x,y,j⟩:=k.tk t C F s a2;refine⟨D,H,x,y,?_⟩;rcases a3 with⟨rfl,rfl⟩ |a3;·exact j
 rcases j with⟨rfl,rfl⟩ |j;·exact .inr a3
 exact .inr ac
structure lz(tk:List (Nat×TypeId))(G:bR)(S:Addr->Prop)(w:World)(dX:List (Nat×TypeId))(qN:bR)(S':Addr->Prop)(w':World):Prop where
 ag:∀(i b:Nat),G.ag[i]?=some b->qN.ag[i]?=some b
 tk:∀(t:Nat)(hv:Value)(le:Nat×TypeId),G.tk[t]?=some hv->tk[t]?=some le-> ∃xX tD,qN.tk[t]?=some xX/\dX[t]?=some tD/\((tD=le/\xX=hv)\/le.1<tD.1)
 sub:∀a,S a->S' a
 cell:∀a,S a->di w w' a
 mp:∀(i b:Nat),G.mp[i]?=some b->qN.mp[i]?=some b
def Ext.Jz{tk dX:bo} {G a:bR} {S S':bA} {w w':Ts}(h:Ext tk G S w dX a S' w'):lz tk G S w dX a S' w':=⟨h.ag,h.tk,h.sub,h.cell,h.mp⟩
def lz.S6{tk dX i:bo} {G d f:bR} {S S' j:bA} {w w' B:Ts}(h:lz tk G S w dX d S' w')(k:lz dX d S' w' i f j B): ∀(t:Nat)(hv:Tq)(le:Nat×Tr),G.tk[t]?=some hv->tk[t]?=some le->∃g c,f.tk[t]?=some g/\i[t]?=some c/\((c=le/\g=hv)\/le.1<c.1):=by
 intro t hv le o p;obtain⟨s,y,l,a2,a3⟩:=h.tk t hv le o p;obtain⟨x,z,m,n,a⟩:=k.tk t s y l a2;refine⟨x,z,m,n,?_⟩;rcases a3 with⟨rfl,rfl⟩ |a3;·exact a
 rcases a with⟨rfl,rfl⟩ |a;·exact .inr a3
 exact .inr ac
def Ext.step{tk dX f:bo} {G c d:bR} {S S':bA} {w w':Ts}(h:Ext tk G S w dX c S' w')(k:lz dX c S' w' f d S' w')(g:∀b,b<w.heap.size->cR d b->cR c b):Ext tk G S w f d S' w':=⟨λ j b a=>k.ag _ _ (h.ag _ _ a),h.Jz.S6 k,h.sub,h.cell,λ j b a=>k.mp _ _ (h.mp _ _ a),h.calm,h.same,λ b a i=>h.gD b a (g b a i),h.new⟩
def qs.k5{tk dX:bo} {G a:bR} {S S':bA} {w w':Ts}(h:lz tk G S w dX a S' w'){c:js} {v:Tq}(d:qs G S w c v):qs a S' w' c v:=by cases c with|dn p=>exact aq.mono h.sub h.cell d|box id off=>obtain⟨b,f,g⟩:=d;exact⟨b,h.ag _ _ f,g⟩
def aF.k5{tk dX:bo} {G n:bR} {S S':bA} {w w':Ts}(h:lz tk G S w dX n S' w'){s:ah} {v:Tq}(i:aF tk G S w s v):aF dX n S' w' s v:=by cases s with|undef=>exact i|val p=>exact aq.mono h.sub h.cell i|lit m xs=>exact⟨aq.mono h.sub h.cell i.1,i.2⟩ |own t m xs=>obtain⟨d,z,le,g,j,H,x⟩:=i;obtain⟨B,E,C,D,l⟩:=h.tk t z le g j;refine⟨aq.mono h.sub h.cell d,B,E,C,D,?_,?_⟩;(·rcases l with⟨rfl,_⟩ |l<;>omega);rcases l with⟨rfl,rfl⟩ |l;(·exact x);intro e;omega|box id off=>obtain⟨b,d,g⟩:=i;exact⟨b,h.ag _ _ d,g⟩ |fa id off len=>obtain⟨b,cap,d,g⟩:=i;exact⟨b,cap,h.ag _ _ d,g⟩ |a6 f F=>obtain⟨vs,d,g,j⟩:=i;exact⟨vs,d,g,λ o c u a b=>qs.k5 h (j o c u a b)⟩ |gv id off o m k=>obtain⟨b,d,g⟩:=i;exact⟨b,h.ag _ _ d,g⟩ |mp id=>obtain⟨b,d,g⟩:=i;exact⟨b,h.mp _ _ d,g⟩ |row id off m len cap=>obtain⟨b,d,g⟩:=i;exact⟨b,h.ag _ _ d,g⟩ |it id=>obtain⟨b,d,g⟩:=i;exact⟨b,h.mp _ _ d,g⟩ |mj id ps=>obtain⟨b,vs,d,g,j⟩:=i;exact⟨b,vs,h.mp _ _ d,g,j.mono h.sub h.cell⟩ |cX I=>exact λ p y=>h.ag _ _ (i p y)
def aF.mono{tk dX:bo} {G a:bR} {S S':bA} {w w':Ts}(h:Ext tk G S w dX a S' w'){s:ah} {v:Tq}(c:aF tk G S w s v):aF dX a S' w' s v:=aF.k5 h.Jz c
def aF.dn{tk:bo} {G:bR} {S:bA} {w:Ts} {s:ah} {v:Tq} {p:af}(h:aF tk G S w s v)(a:s.dn=some p):aq S w p v:=by cases s with|undef=>cases a|val q=>cases a;exact h|lit m xs=>cases a;exact h.1|own t m xs=>cases a;exact h.1|box id off=>cases a|fa id off len=>cases a|a6 f c=>cases a|gv id off d m k=>cases a|mp id=>cases a;obtain⟨b,_,rfl⟩:=h;exact .ref _ rfl|row id off m len cap=>cases a|it id=>cases a|mj id ps=>cases a|cX g=>cases a
def xn(S:bA)(w:Ts)(b:Nat)(es:ce)(mk:Tt (af×Int)):Prop:= ∃(arr:Tu MapEntry)(clock:Nat)(b7:ce),w.heap[b]?=some (.map arr clock)/\b7.Perm es/\gY S w b7 arr clock/\(∀(a:Nat)(p:af×af)(x:MapEntry),b7[a]?=some p->arr[a]?=some x->aq S w p.2 x.val)/\∀(k:af)(n:Int),mk=some (k,n)->∃x∈arr.toList,x.key=k.cH/\(x.born:Int)=n
def sU(w:Ts)(b c:Nat)(left:am)(d:Tt af):Prop:= ∃(arr:Tu MapEntry)(clock a:Nat)(seen:Tu Nat)(last:Nat),w.heap[c]?=some (.map arr clock)/\w.heap[b]?=some (.mapIter (some c) a seen last)/\(∀x∈arr.toList,x.born<a)/\a<=last/\a<=clock/\left.Nodup/\(∀k∈left,k.flat=true/\∃x∈arr.toList,x.key=k.cH/\seen.contains x.born=false)/\(∀x∈arr.toList,seen.contains x.born=false->∃k∈left,x.key=k.cH)/\ ∀k,d=some k->(last=clock/\k.flat=true)/\∃x∈arr.toList,x.key=k.cH/\seen.back?=some x.born
def gW(E:Env)(M:Tp Nat)(S:bA)(w:Ts)(b:Nat):dM->Prop| .plain k e n=>(∃D:DataW Unit,w.ownsMap E.P k (plainElem E.P e) b n D)/\∀a,S a->a.block≠b| .cm es mk=>xn S w b es mk/\∀a,S a->a.block≠b| .iter (some m) _ left d=>(∃c,M[m]?=some c/\sU w b c left d)/\∀a,S a->a.block≠b| .iter none es left d=>((w.heap[b]?=some (.mapIter none 0 #[] 0)/\left=[]/\d=none)\/∃c,S ⟨c,0,none⟩/\xn S w c es none/\sU w b c left d)/\∀a,S a->a.block≠b| .gone=>True
structure Inv(E:Env)(B:Nat)(ax:Addr->Prop)(ag:List (Option (List ah)))(tk:List (Nat×TypeId))(ao:dE)(G:bR)(S:Addr->Prop)(w:World):Prop where
 base:B<=w.heap.size
 hR:∀a,S a->ax a\/B<=a.block
 slt:∀a,S a->a.block<w.heap.size
 e':G.ag.length=ag.length
 gS:G.tk.length=tk.length
 dJ:∀(i b:Nat),G.ag[i]?=some b->B<=b/\b<w.heap.size
 gq:∀(i j b:Nat),G.ag[i]?=some b->G.ag[j]?=some b->i=j
 box:∀(id b:Nat)(cs:List ah),ag[id]?=some (some cs)->G.ag[id]?=some b->(∃(t:TypeId)(arr:Array Value),w.heap[b]?=some (.cells arr t (0,0))/\arr.size=cs.length/\∀(j:Nat)(c:ah)(v:Value),cs[j]?=some c->arr[j]?=some v->aF tk G S w c v/\v.oneCell'=true)/\∀a,S a->a.block≠b
 tok:∀(t n:Nat)(e:TypeId)(hv:Value),tk[t]?=some (n,e)->G.tk[t]?=some hv->∃a cap,hv=.slice a n cap/\n<=cap/\cap<=maxLen/\(n<cap->∃(g:Nat)(cur:Array Value),a=some ⟨g,0,none⟩/\B<=g/\w.heap[g]?=some (.cells cur e (0,0))/\cur.size=cap*(E.T e).size/\(∀a,S a->a.block=g->a.off<n*(E.T e).size)/\(∀(i:Nat),G.ag[i]?≠some g))
 apart:∀(t yc n n' cap I6 g:Nat),t≠yc->G.tk[t]?=some (.slice (some ⟨g,0,none⟩) n cap)->n<cap->G.tk[yc]?≠some (.slice (some ⟨g,0,none⟩) n' I6)\/n'≥I6
 fw:G.mp.length=ao.mp.length
 hi:∀(i j b:Nat),G.mp[i]?=some b->G.mp[j]?=some b->i=j
 eW:∀(i b:Nat),G.mp[i]?=some b->B<=b/\b<w.heap.size
 fj:∀(i b:Nat)(c:dM),ao.mp[i]?=some c->G.mp[i]?=some b->gW E G.mp S w b c
 gr:∀b,G.dd b->b<w.heap.size
 gC:∀(i b:Nat),G.ag[i]?=some b->¬G.dd b
 hr:∀(t n cap g:Nat),G.tk[t]?=some (.slice (some ⟨g,0,none⟩) n cap)->n<cap->¬G.dd g
 hj:∀(i b:Nat),G.mp[i]?=some b->¬G.dd b
 f_:E.Y.eJ ao.yk G.dd S w/\(E.Y.cQ≠[]->B=0)
 hH:∀(i j b:Nat),G.ag[i]?=some b->G.mp[j]?≠some b
structure a' where
 side:Prop
 v:ah
 st:ai
def a'.go(r:Tt a')(K:ah->ai->Prop):Prop:=match r with|some r=>r.side/\K r.v r.st|none=>False
def li:Tq->af| .int k n=>.int k n| .bool b=>.bool b| .string s=>.str s| .slice none 0 0=>.aa 0 [] | .map none=>.map [] [] | .pointer none=>.ch|_=>.any
def Cn:Tq->ah| .int k n=>.val (.int k n) | .bool b=>.val (.bool b) | .string s=>.val (.str s) | .slice none 0 0=>.lit 0 [] | .agg cs=>.val (.agg (cs.toList.map li)) | .map none=>.val (.map [] []) | .pointer none=>.val .ch|_=>.val .any
def aL(st:ai):Operand->ah| .tmp t=>st.sl.getD t .undef| .const v=>Cn v| .func f=>.val (.fn f []) | .global _=>.val .any
def ai.put(st:ai)(dst:Tt Tmp)(v:ah):ai:=match dst with|some d=>{st with sl:=st.sl.set d v} |none=>st
def rv:ah->Tt (IntKind×Int) | .val (.int k n)=>some (k,n) |_=>none
def ah.elems:ah->Tt (Nat×am) | .val (.aa m xs)=>some (m,xs) | .lit m xs=>some (m,xs) | .own _ m xs=>some (m,xs) |_=>none
def eu:aP->Tt am| []=>some [] |s::r=>match s.dn,eu r with|some p,some a=>some (p::a) |_,_=>none
def af.one:af->Bool| .int _ _| .bool _| .str _| .aa _ _| .ptr _ _| .fn _ _| .fJ _| .ref| .map _ _| .bI _ _| .ch| .loc _| .c4 _ _ _| .k4 _ _=>true|_=>false
def ah.one:ah->Bool| .val p=>p.one| .undef=>false| .mj _ _=>false| .cX _=>false|_=>true
def yQ(d:ep)(s:ah):Tt am:=if d.agg then(match s with| .val (.agg a)=>if a.length=d.size then some a else none|_=>none)else(match s.dn with|some p=>if p.one&&d.size==1 then some [p]else none|none=>none)
def af.m0(d:ep)(cs:am):af:=if d.agg then .agg cs else cs.getD 0 .any
def sV(c a b:ah)(st:ai):Tt a':=match c with| .val (.bool t)=>some ⟨True,if t then a else b,st⟩ |_=>none
def pH(E:Env)(s:Tr)(x:ah)(f:Nat)(st:ai):Tt a':=match(E.T s).k with| .struct c=>(match c[f]? with|some (a,d)=>(if(E.T d).size=0 then none else match x with| .val (.ptr cs off)=>some ⟨True,.val (.ptr cs (off+a)),st⟩ | .box id off=>some ⟨True,.box id (off+a),st⟩ | .gv id off g m k=>some ⟨True,.gv id off g m (k+a),st⟩ |_=>none)|none=>none)|_=>none
def iW(E:Env)(t:Tr)(x:ah)(st:ai):Tt a':=match x with| .val (.ptr cs off)=>if(E.T t).agg then some ⟨off+(E.T t).size<=cs.length,.val (.agg ((cs.drop off).take (E.T t).size)),st⟩else if(E.T t).size=1 then some ⟨off<cs.length,.val (cs.getD off .any),st⟩else none| .box id off=>(match st.ag.getD id none with|some cs=>if(E.T t).agg then match eu ((cs.drop off).take (E.T t).size)with|some a=>some ⟨off+(E.T t).size<=cs.length,.val (.agg a),st⟩ |none=>none else if(E.T t).size=1 then some ⟨off<cs.length,cs.getD off .undef,st⟩else none|none=>none)|_=>none
def ai.j_(st:ai)(id:Nat)(c:Tt aP):ai:={st with ag:=st.ag.set id c}
def lX(E:Env)(t:Tr)(x v:ah)(st:ai):Tt a':=match x with| .box id off=>(match st.ag.getD id none with|some cs=>if(E.T t).agg then match v with| .val (.agg a)=>if a.length=(E.T t).size/\a.all af.one then some ⟨off+a.length<=cs.length,.undef,st.j_ id (some (cs.take off++(a.map ah.val++cs.drop (off+a.length))))⟩else none|_=>none else if v.one/\(E.T t).size=1 then some ⟨off<cs.length,.undef,st.j_ id (some (cs.set off v))⟩else none|none=>none)|_=>none
def ai.h2(st:ai)(cs:aP):ai:={st with ag:=st.ag++[some cs]}
def p4:af->ah| .aa 0 []=>.lit 0 [] |p=>.val p
def ry(E:Env)(t:Tr)(st:ai):Tt a':=if(E.T t).zero.length=(E.T t).size/\(E.T t).size≠0 then some ⟨True,.box st.ag.length 0,st.h2 ((E.T t).zero.map p4)⟩else none
def qd(E:Env)(t:Tr)(v:ah)(st:ai):Tt a':=if(E.T t).agg then match v with| .val (.agg a)=>if a.all af.one then some ⟨True,.box st.ag.length 0,st.h2 (a.map ah.val)⟩else none|_=>none else if v.one then some ⟨True,.box st.ag.length 0,st.h2 [v]⟩else none
def vd(place:Nat->Tt (Nat×ep))(cells:am):Tp (Nat×ah)->Tt am| []=>some cells| (c,v)::rest=>match place c with|none=>none|some (off,d)=>match yQ d v with|none=>none|some a=>if off+a.length<=cells.length then vd place (cells.take off++(a++cells.drop (off+a.length))) rest else none
def u6(E:Env)(t:Tr)(parts:Tp (Nat×ah))(st:ai):Tt a':=if(E.T t).agg then match(E.T t).k with| .struct d=>if d.all λ p=>(E.T p.2).size !=0|| (E.T p.2).agg then match vd (λ a=>(d[a]?).map λ p=>(p.1,E.T p.2)) (E.T t).zero parts with|some c=>some ⟨True,.val (.agg c),st⟩ |none=>none else none| .array _ e=>if(E.T e).size !=0 then match vd (λ a=>some (a*(E.T e).size,E.T e)) (E.T t).zero parts with|some c=>some ⟨True,.val (.agg c),st⟩ |none=>none else none|_=>none else none
def wN(d:ep)(xs:am):Tp (Nat×ah)->Tt am| []=>some xs| (a,v)::rest=>match yQ d v.x2 with|none=>none|some c=>if a<xs.length/\c.all af.one then wN d (xs.set a (af.m0 d c)) rest else none
def pK(E:Env)(t:Tr)(n:Nat)(parts:Tp (Nat×ah))(st:ai):Tt a':=match(E.T t).k with| .slice e=>if(E.T e).zero.length=(E.T e).size/\0<(E.T e).size/\n*(E.T e).size<=16777216 then match wN (E.T e) (List.replicate n (af.m0 (E.T e) (E.T e).zero)) parts with|some xs=>some ⟨True,.lit (E.T e).size xs,st⟩ |none=>none else none|_=>none
def wk(E:Env)(t:Tr)(len cap:ah)(st:ai):Tt a':=match(E.T t).k,len,cap with| .slice e,.val (.int _ n),.val (.int _ c)=>if(E.T e).zero.length=(E.T e).size/\0<(E.T e).size then if E.rows then some ⟨0<=n/\n=c/\n*(E.T e).bytes<=140737488355328/\n<=140737488355328,.fa st.ag.length 0 n.toNat,st.h2 ((List.replicate n.toNat (E.T e).zero).flatten.map ah.val)⟩else some ⟨0<=n/\n=c/\n*(E.T e).bytes<=140737488355328/\n<=140737488355328,.lit (E.T e).size (List.replicate n.toNat (af.m0 (E.T e) (E.T e).zero)),st⟩else none|_,_,_=>none
def qe(o:Tt ah)(d:Int):Tt Int:=match o with|none=>some d|some (.val (.int _ n))=>some n|_=>none
def sL(E:Env)(t:Tr)(x:ah)(lo c d:Tt ah)(st:ai):Tt a':=match d,(E.T t).k with|none,.slice e=>(match x.elems with|some (m,xs)=>if(m=(E.T e).size\/xs=[])/\(E.T e).size≠0 then match qe lo 0,qe c xs.length with|some a,some h=>some ⟨0<=a/\a<=h/\h<=xs.length,.val (.aa m ((xs.take h.toNat).drop a.toNat)),st⟩ |_,_=>none else none|none=>none)|none,.str=>(match x with| .val (.str s)=>(match qe lo 0,qe c s.size with|some a,some h=>some ⟨0<=a/\a<=h/\h<=s.size,.val (.str (s.extract a.toNat h.toNat)),st⟩ |_,_=>none)|_=>none)|_,_=>none
def sx(E:Env)(t:Tr)(id off:Nat)(lo a c:Tt ah)(st:ai):Tt a':=match(E.T t).k,lo with| .array n e,none=>if(E.T e).size≠0/\n<=9223372036854775807 then match a,c with|some (.val (.int _ h)),some (.val (.int _ m))=>some ⟨0<=h/\h<=m/\m<=n,.fa id off h.toNat,st⟩ |some (.val (.int _ h)),none=>some ⟨0<=h/\h<=n,.fa id off h.toNat,st⟩ |none,none=>some ⟨True,.fa id off n,st⟩ |_,_=>none else none|_,_=>none
def rC(E:Env)(id off i m:Nat):ah:=match E.rows with|true=>.gv id off i m 0|false=>.box id (off+i*m)
def uE(E:Env)(t:Tr)(id off m len cap:Nat)(lo c d:Tt ah)(st:ai):Tt a':=match d,(E.T t).k with|none,.slice e=>if m=(E.T e).size/\m≠0 then match lo,qe c len with|none,some h=>some ⟨(0:Int)<=0/\0<=h/\h<=(match E.a6 14000000 with|true=>cap|false=>len),.row id off m h.toNat cap,st⟩ |some (.val (.int _ a)),some h=>some ⟨(0<=a/\a<=h/\h<=len)/\0<=a/\a<cap,.row id (off+a.toNat*m) m (h-a).toNat ((cap:Int)-a).toNat,st⟩ |_,_=>none else none|_,_=>none
def jI(E:Env)(t:Tr)(x i:ah)(st:ai):Tt a':=match rv i with|none=>none|some (_,n)=>match(E.T t).k with| .slice e=>(if(E.T e).size=0 then none else match x with| .fa id off len=>some ⟨0<=n/\n<len,rC E id off n.toNat (E.T e).size,st⟩ | .row id off _ len _=>some ⟨0<=n/\n<len,rC E id off n.toNat (E.T e).size,st⟩ |x=>match x.elems with|some (m,xs)=>if m=(E.T e).size then some ⟨0<=n/\n<xs.length,.val (.ptr (xs.getD n.toNat .any).cells 0),st⟩else none|none=>none)| .array a e=>(if(E.T e).size=0 then none else match x with| .val (.ptr cs off)=>some ⟨0<=n/\n<a,.val (.ptr cs (off+n.toNat*(E.T e).size)),st⟩ | .box id off=>some ⟨0<=n/\n<a,rC E id off n.toNat (E.T e).size,st⟩ |_=>none)|_=>none
def xb(E:Env)(t:Tr)(x i:ah)(st:ai):Tt a':=match rv i,(E.T t).k,x with|some (_,n),.str,.val (.str s)=>some ⟨0<=n/\n<s.size,.val (.int .u8 (s.data.toList.getD n.toNat 0).toNat),st⟩ |_,_,_=>none
def u7(E:Env)(t:Tr)(x:ah)(f:Nat)(st:ai):Tt a':=match(E.T t).k,x with| .struct d,.val (.agg cs)=>(match d[f]? with|some (c,a)=>if(E.T a).agg then some ⟨c+(E.T a).size<=cs.length,.val (.agg ((cs.drop c).take (E.T a).size)),st⟩else if(E.T a).size=1 then some ⟨c<cs.length,.val (cs.getD c .any),st⟩else none|none=>none)|_,_=>none
def uJ(x:ah)(i:Nat)(st:ai):Tt a':=match x with| .val (.bf vs)=>(match vs[i]? with|some p=>some ⟨True,.val p,st⟩ |none=>none)| .mj id ps=>(match i with|0=>some ⟨True,.mp id,st⟩ |a+1=>match ps[a]? with|some p=>some ⟨True,.val p,st⟩ |none=>none) |_=>none
def xc(id:Nat)(cs:am):js->js| .box a d=>if a=id then .dn (.ptr cs d)else .box a d|c=>c
def rD:Tp js->Tt am| []=>some [] | .dn p::r=>(rD r).map (p::·) | .box _ _::_=>none
def lZ(id:Nat)(cs:am):ah->ah| .box c d=>if c=id then .val (.ptr cs d)else .box c d| .a6 f a=>(match rD (a.map (xc id cs))with|some ps=>.val (.fn f ps) |none=>.a6 f (a.map (xc id cs))) |s=>s
def ai.sb(st:ai)(id:Nat)(cs:am):ai:={st with sl:=st.sl.map (lZ id cs),ag:=st.ag.set id none}
def iB(st:ai):aP->Tt (am×ai) | []=>some ([],st) | .val p::r=>(iB st r).map λ q=>(p::q.1,q.2) | .lit m xs::r=>(iB st r).map λ q=>(.aa m xs::q.1,q.2) | .box id off::r=>(match iB st r with|none=>none|some (c,a)=>match a.ag.getD id none with|some cs=>(match eu cs with|some ps=>some (.ptr ps off::c,a.sb id ps) |none=>none)|none=>none)|_=>none
def jR:aP->Tt (Tp js) | []=>some [] | .val p::r=>(jR r).map (.dn p::·) | .lit m xs::r=>(jR r).map (.dn (.aa m xs)::·) | .box id off::r=>(jR r).map (.box id off::·) |_=>none
def yE(E:Env)(fn:Fn)(first captured:aP)(st:ai):Tt a':=match fn,first with| .func f,[]=>(if E.a6 f then(match jR captured with|some a=>some ⟨True,.a6 f a,st⟩ |none=>none)else match iB st captured with|some (a,c)=>some ⟨True,.val (.fn f a),c⟩ |none=>none)| .func f,s::r=>(match captured,eu (s::r)with| [],some a=>some ⟨True,.val (.k4 f a),st⟩ |_,_=>none)|_,_=>none
def tf(op:UnOp)(x:ah)(st:ai):Tt a':=match op,x with| .not,.val (.bool b)=>some ⟨True,.val (.bool (!b)),st⟩ | .neg,.val (.int .i64 n)=>some ⟨-9223372036854775808<n/\n<=9223372036854775807,.val (.int .i64 (-n)),st⟩ | .xor,.val (.int .u64 n)=>some ⟨True,.val (.int .u64 (IntKind.u64.wrap (BitVec.ofInt 64 IntKind.u64.max^^^BitVec.ofInt 64 n).toNat)),st⟩ |_,_=>none
def wO(E:Env)(src dst:Tr)(x:ah)(st:ai):Tt a':=match(E.T src).k,(E.T dst).k,x with| .int k,.int a,.val (.int c n)=>if k=a/\c=k/\k=.i64 then some ⟨-9223372036854775808<=n/\n<=9223372036854775807,.val (.int k n),st⟩else some ⟨True,.val (.int a (a.wrap n)),st⟩ | .str,.str,.val (.str s)=>some ⟨True,.val (.str s),st⟩ |_,_,_=>none
def dx(n:Int):Prop:=-9223372036854775808<=n/\n<=9223372036854775807
def wZ(op:BinOp)(a b:Int):Tt (Prop×af):=match op with| .add=>some (dx (a+b),.int .i64 (a+b)) | .sub=>some (dx (a-b),.int .i64 (a-b)) | .mul=>some (dx (a*b),.int .i64 (a*b)) | .quo=>some (b≠0/\dx (a.tdiv b),.int .i64 (a.tdiv b)) | .rem=>some (b≠0,.int .i64 (a.tmod b)) | .eql=>some (True,.bool (decide (a=b))) | .neq=>some (True,.bool (decide (a≠b))) | .lss=>some (True,.bool (decide (a<b))) | .leq=>some (True,.bool (decide (a<=b))) | .gtr=>some (True,.bool (decide (b<a))) | .geq=>some (True,.bool (decide (b<=a))) |_=>none
def uF(op:BinOp)(k:IntKind)(a b:Int):Tt (Prop×af):=match op with| .and=>some (True,.int k (k.wrap ((BitVec.ofInt k.bits a&&&BitVec.ofInt k.bits b).toNat))) | .or=>some (True,.int k (k.wrap ((BitVec.ofInt k.bits a|||BitVec.ofInt k.bits b).toNat))) | .add=>some (True,.int k (k.wrap (a+b))) | .sub=>some (True,.int k (k.wrap (a-b))) | .rem=>some (b≠0,.int k (a.tmod b)) | .eql=>some (True,.bool (decide (a=b))) | .neq=>some (True,.bool (decide (a≠b))) | .lss=>some (True,.bool (decide (a<b))) | .leq=>some (True,.bool (decide (a<=b))) | .gtr=>some (True,.bool (decide (b<a))) | .geq=>some (True,.bool (decide (b<=a))) |_=>none
def ic:fm->af->af->Tt Bool| .int,.int k a,.int c b=>if k=c then some (decide (a=b))else none| .bool,.bool a,.bool b=>some (decide (a=b)) | .str,.str a,.str b=>some (decide (a=b)) | .ptr,.bI a _,.bI b _=>some (decide (a=b)) | .ptr,.ch,.ch=>some true| .ptr,.ch,.bI _ _=>some false| .ptr,.bI _ _,.ch=>some false| .ptr,.ch,.ptr _ _=>some false| .ptr,.ptr _ _,.ch=>some false| .ptr,.loc _,.ch=>some false| .ptr,.ch,.loc _=>some false|_,_,_=>none
def eP:Tp fm->am->am->Tt Bool| [],[],[]=>some true|k::ks,x::xs,y::c=>(match ic k x y,eP ks xs c with|some a,some b=>some (a&&b) |_,_=>none)|_,_,_=>none
def l2(E:Env)(op:BinOp)(t:Tr)(x y:af)(st:ai):Tt a':=match(E.T t).k with| .ptr e=>(if(E.T e).size=0 then none else match ic .ptr x y,op with|some r,.eql=>some ⟨True,.val (.bool r),st⟩ |some r,.neq=>some ⟨True,.val (.bool (!r)),st⟩ |_,_=>none)|_=>none
def ta(E:Env)(op:BinOp)(t:Tr)(x y:ah)(st:ai):Tt a':=match x,y with| .val (.int k a),.val (.int g b)=>(match op with| .shl=>some ⟨0<=b/\b<k.bits,.val (.int k (k.wrap (a*2^b.toNat))),st⟩ | .shr=>some ⟨0<=b/\b<k.bits,.val (.int k (a.fdiv (2^b.toNat))),st⟩ |op=>if k=g then match(match E.a6 11000000 with|true=>uF op k a b|false=>if k=.i64 then wZ op a b else uF op k a b)with|some (s,p)=>some ⟨s,.val p,st⟩ |none=>none else none)| .val (.bool a),.val (.bool b)=>(match(E.T t).k,op with| .bool,.eql=>some ⟨True,.val (.bool (decide (a=b))),st⟩ | .bool,.neq=>some ⟨True,.val (.bool (decide (a≠b))),st⟩ |_,_=>none)| .val (.str a),.val (.str b)=>(match op with| .eql=>some ⟨True,.val (.bool (decide (a=b))),st⟩ | .neq=>some ⟨True,.val (.bool (decide (a≠b))),st⟩ |_=>none)| .val (.bI a c),.val (.bI b f)=>l2 E op t (.bI a c) (.bI b f) st| .val (.bI a c),.val .ch=>l2 E op t (.bI a c) .ch st| .val .ch,.val (.bI a c)=>l2 E op t .ch (.bI a c) st| .val (.ptr a d),.val .ch=>l2 E op t (.ptr a d) .ch st| .val .ch,.val (.ptr a d)=>l2 E op t .ch (.ptr a d) st| .val .ch,.val .ch=>l2 E op t .ch .ch st| .val (.loc b),.val .ch=>l2 E op t (.loc b) .ch st| .val .ch,.val (.loc b)=>l2 E op t .ch (.loc b) st| .val (.agg a),.val (.agg b)=>(match(E.T t).eq with|none=>none|some ks=>match eP ks a b,op with|some r,.eql=>some ⟨True,.val (.bool r),st⟩ |some r,.neq=>some ⟨True,.val (.bool (!r)),st⟩ |_,_=>none)|_,_=>none
def j0:af->af->Bool| .int k n,.int c d=>decide (k=c)&&decide (n=d) | .bool a,.bool b=>decide (a=b) | .str a,.str b=>decide (a=b) | .bI a [],.bI b []=>decide (a=b) | .ch,.ch=>true|_,_=>false
def qt:am->am->Bool| [],[]=>true|a::r,b::c=>j0 a b&&qt r c|_,_=>false
def cq:af->af->Bool| .agg a,.agg b=>qt a b|a,b=>j0 a b
def dK(es:ce)(k:af):Tt af:=(es.find? λ p=>cq k p.1).map (·.2)
def gQ(es:ce)(k:af):Bool:=es.any λ p=>cq k p.1
def gp(es:ce)(k v:af):ce:=if gQ es k then es.map λ p=>if cq k p.1 then(p.1,v)else p else es++[(k,v)]
def ph(es:ce)(k:af):ce:=es.filter λ p=>!cq k p.1
def qu(es:ce)(k z:af):ce:=if gQ es k then es else es++[(k,z)]
def iE(E:Env)(k:Tr):Tt (Tp fm):=match(E.T k).k with| .int _=>some [.int] | .bool=>some [.bool] | .str=>some [.str] | .struct _=>(E.T k).eq| .array _ _=>(E.T k).eq| .ptr e=>if(E.T e).size=0 then none else some [.ptr] |_=>none
def af.isAgg:af->Bool| .agg _=>true|_=>false
def iX(E:Env)(k:Tr):Bool:=match(E.T k).k with| .struct _=>true| .array _ _=>true|_=>false
def gk(a:Bool)(ks:Tp fm)(es:ce)(k:af):Prop:=(k.flat=true/\k.cells.length=ks.length)/\k.isAgg=a/\∀p∈es,p.1.isAgg=a/\eP ks k.cells p.1.cells=some (cq k p.1)
def p5(m:ah)(st:ai):Tt ce:=match m with| .val (.map ks vs)=>some (ks.zip vs) | .mp id=>(match st.ao.mp[id]? with|some (.cm es _)=>some es|_=>none)|_=>none
def p6(d:ep):Tt af:=if d.agg then some (.agg d.zero)else if d.size=1 then(match d.zero with| [z]=>some z|_=>none)else none
def oe(id:Nat)(mp:Tp dM):Bool:=mp.all λ c=>match c with| .iter (some m) _ _ _=>m !=id|_=>true
def ve(id:Nat)(k:af):dM->dM| .iter (some m) es left a=>if m=id then .iter (some m) es (left.filter λ x=>!cq k x) (match a with|some c=>if cq k c then none else some c|none=>none)else .iter (some m) es left a|c=>c
def ai.j8(st:ai)(mp:Tp dM):ai:={st with ao:={st.ao with mp:=mp} }
def sK(E:Env)(t:Tr)(m x:ah)(ok:Bool)(st:ai):Tt a':=match(E.T t).k,x with| .map k e,.val key=>(match iE E k,p5 m st,p6 (E.T e)with|some ks,some es,some z=>some ⟨gk (iX E k) ks es key,.val (if ok then .bf [(dK es key).getD z,.bool (dK es key).isSome]else(dK es key).getD z),st⟩ |_,_,_=>none)|_,_=>none
def w2(E:Env)(t a:Tr)(m x:ah)(st:ai):Tt a':=match(E.T t).k,m,x with| .map k _,.mp id,.val key=>(match iE E k,st.ao.mp[id]? with|some ks,some (.cm es _)=>if a=k then some ⟨gk (iX E k) ks es key,.val (.bf []),st.j8 ((st.ao.mp.map (ve id key)).set id (.cm (ph es key) none))⟩else none|_,_=>none)|_,_,_=>none
def Co(E:Env)(t:Tr)(m:ah)(st:ai):Tt a':=match(E.T t).k,m with| .map _ _,.mp id=>(match st.ao.mp[id]? with|some (.cm es _)=>some ⟨True,.it st.ao.mp.length,st.j8 (st.ao.mp++[.iter (some id) [] (es.map (·.1)) none])⟩ |_=>none)| .map _ _,.val (.map ks vs)=>some ⟨True,.it st.ao.mp.length,st.j8 (st.ao.mp++[.iter none (ks.zip vs) ks none])⟩ |_,_=>none
def p7(st:ai)(src:Tt Nat)(es:ce):Tt ce:=match src with|none=>some es|some m=>match st.ao.mp[m]? with|some (.cm es _)=>some es|_=>none
def sM(x:ah)(st:ai):Tt a':=match x with| .it id=>(match st.ao.mp[id]? with|some (.iter src es _ (some k))=>(match p7 st src es with|some es=>some ⟨(dK es k).isSome=true,.val (.bf [k,(dK es k).getD .any]),st⟩ |none=>none)|_=>none)|_=>none
def q6(m s v:ah)(st:ai):Tt a':=match m,s,v.dn with| .mp id,.val (.int .i64 n),some p=>(match st.ao.mp[id]? with|some (.cm es (some (k,a)))=>if k.flat=true then some ⟨n=a,.undef,st.j8 (st.ao.mp.set id (.cm (gp es k p) none))⟩else none|_=>none)|_,_,_=>none
def zD(x:ah)(st:ai)(K:ah->ai->Prop):Prop:=match x with| .it id=>(match st.ao.mp[id]? with|some (.iter src es left _)=>(match p7 st src es with|some a=>(left=[]->K (.val (.bf [.bool false])) st)/\ ∀k v,k∈left->(k,v)∈a->K (.val (.bf [.bool true,k,v])) (st.j8 (st.ao.mp.set id (.iter src es (left.filter λ y=>!cq k y) (some k)))) |none=>False)|_=>False)|_=>False
def uG(E:Env)(t:Tr)(m x:ah)(st:ai)(K:ah->ai->Prop):Prop:=match(E.T t).k,m,x with| .map k e,.mp id,.val key=>(match iE E k,st.ao.mp[id]?,p6 (E.T e)with|some ks,some (.cm es _),some z=>gk (iX E k) ks es key/\(oe id st.ao.mp=true\/gQ es key=true)/\ ∀n,K (.val (.bf [(dK es key).getD z,.int .i64 n])) (st.j8 (st.ao.mp.set id (.cm (qu es key z) (some (key,n))))) |_,_,_=>False)|_,_,_=>False
def tb(E:Env)(t:Tr)(x:ah)(st:ai):Tt a':=match(E.T t).k,x with| .str,.val (.str s)=>some ⟨True,.val (.int .i64 s.size),st⟩ | .slice _,.fa _ _ n=>some ⟨True,.val (.int .i64 n),st⟩ | .slice _,.row _ _ _ n _=>some ⟨True,.val (.int .i64 n),st⟩ | .slice _,x=>(match x.elems with|some (_,xs)=>some ⟨True,.val (.int .i64 xs.length),st⟩ |none=>none)| .array n _,_=>some ⟨True,.val (.int .i64 n),st⟩ | .map _ _,x=>(match p5 x st with|some es=>some ⟨True,.val (.int .i64 es.length),st⟩ |none=>none)|_,_=>none
def u4(E:Env)(t:Tr)(s y:ah)(st:ai):Tt a':=match(E.T t).k,y.elems with| .slice e,some (c,a)=>if(c=(E.T e).size\/a=[])/\0<(E.T e).size/\(E.T e).zero.length=(E.T e).size then match s.ox with| .lit m xs=>if m=(E.T e).size\/xs=[]then some ⟨(xs.length+a.length)*((E.T e).bytes+1)<=140737488355328,.own st.tk.length (E.T e).size (xs++a),{st with tk:=st.tk++[((xs++a).length,e)]}⟩else none| .own k m xs=>if(m=(E.T e).size\/xs=[])/\((st.tk.getD k (0,0)).2=e)then some ⟨(st.tk.getD k (0,0)).1=xs.length/\k<st.tk.length/\(xs.length+a.length)*((E.T e).bytes+1)<=140737488355328,.own k (E.T e).size (xs++a),{st with tk:=st.tk.set k ((xs++a).length,e)}⟩else none|_=>none else none|_,_=>none
def zw(E:Env)(t:Tr)(x:ah)(st:ai):Tt a':=match(E.T t).k,x with| .slice e,.row id off m len _=>if m=(E.T e).size/\0<(E.T e).size/\(E.T e).zero.length=(E.T e).size then match st.ag.getD id none with|some cs=>some ⟨off+len*m<=cs.length,.val .any,st.j_ id (some (cs.take off++(List.replicate (len*m) (.val .any)++cs.drop (off+len*m))))⟩ |none=>none else none|_,_=>none
def yR(E:Env)(t:Tr)(a:Tt Operand)(st:ai):Tt a':=match(E.T t).k,a with| .map k e,none=>(match E.a6 9000000 with|true=>some ⟨True,.mp st.ao.mp.length,{st with ao:={st.ao with mp:=st.ao.mp++[.cm [] none]} }⟩ |false=>some ⟨True,.mp st.ao.mp.length,{st with ao:={st.ao with mp:=st.ao.mp++[.plain k e 0]} }⟩) |_,_=>none
def zE(k:IntKind)(a:Int):Prop:=k.min<=a/\a<=k.max
def pI(E:Env)(t:Tr)(m x v:ah)(st:ai):Tt a':=match m with| .mp id=>(match st.ao.mp[id]?,(E.T t).k with|some (.plain k e n),.map f d=>(match(E.T k).k,(E.T e).k,x,v with| .int g,.bool,.val (.int c a),.val (.bool _)=>if k=f/\e=d/\c=g/\oe id st.ao.mp=true then some ⟨n<9223372036854775807/\zE c a,.undef,{st with ao:={st.ao with mp:=st.ao.mp.set id (.plain k e (n+1))} }⟩else none|_,_,_,_=>none)|some (.cm es mk),.map k _=>(match iE E k,x,v.dn with|some ks,.val key,some p=>some ⟨gk (iX E k) ks es key/\(oe id st.ao.mp=true\/gQ es key=true),.undef,st.j8 (st.ao.mp.set id (.cm (gp es key p) mk))⟩ |_,_,_=>none)|_,_=>none)|_=>none
def u5(c:Bool)(xs:aP)(st:ai):Tt a':=match xs with| [.val (.int .i64 a),.val (.int .i64 b)]=>some ⟨True,.val (.int .i64 (if c then min a b else max a b)),st⟩ |_=>none
def wP(E:Env)(b:Builtin)(ts:Tp Tr)(xs:aP)(st:ai):Tt a':=match b,ts,xs with| .len,[t],[x]=>tb E t x st| .append,[t,a],[s,y]=>if t=a then u4 E t s y st else none| .min,_,xs=>u5 true xs st| .max,_,xs=>u5 false xs st| .delete,[t,k],[m,x]=>w2 E t k m x.bare st| .clear,[t],[x]=>zw E t x st| .cap,[t],[.row _ _ _ _ cap]=>(match(E.T t).k with| .slice _=>some ⟨True,.val (.int .i64 cap),st⟩ |_=>none)|_,_,_=>none
def dr(E:Env)(o:Op)(st:ai):Tt a':=match o with| .move x| .assign x=>some ⟨True,aL st x,st⟩ | .pick c a b=>sV (aL st c) (aL st a) (aL st b) st| .alloc t=>ry E t st| .box t x=>qd E t (aL st x) st| .build t parts=>u6 E t (parts.toList.map λ p=>(p.1,aL st p.2)) st| .buildSlice t n parts=>pK E t n (parts.toList.map λ p=>(p.1,aL st p.2)) st| .load t a=>iW E t (aL st a).norm st| .store t a x=>lX E t (aL st a).norm (aL st x) st| .nilCheck x=>(match aL st x with| .val (.ptr cs o)=>some ⟨True,.val (.ptr cs o),st⟩ | .box id o=>some ⟨True,.box id o,st⟩ | .val (.fn f cs)=>some ⟨True,.val (.fn f cs),st⟩ | .a6 f cs=>some ⟨True,.a6 f cs,st⟩ | .gv a b c d e=>some ⟨True,.gv a b c d e,st⟩ | .val (.fJ j)=>some ⟨True,.val (.fJ j),st⟩ | .val (.bI a cs)=>some ⟨True,.val (.bI a cs),st⟩ | .val (.loc b)=>some ⟨True,.val (.loc b),st⟩ |_=>none) | .binOp op t x y _=>ta E op t (aL st x) (aL st y) st| .unOp op _ x=>tf op (aL st x) st| .convert s d x=>wO E s d (aL st x) st| .makeFunc fn w cap=>yE E fn (w.toList.map (aL st)) (cap.toList.map (aL st)) st| .makeSlice t j c=>wk E t (aL st j) (aL st c) st| .makeMap t r=>yR E t r st| .mapUpdate t m x v=>pI E t (aL st m) (aL st x).bare (aL st v) st| .lookup t m x ok=>sK E t (aL st m) (aL st x).bare ok st| .range t m=>Co E t (aL st m) st| .entry x=>sM (aL st x) st| .entryStore _ m s v=>q6 (aL st m) (aL st s) (aL st v) st| .slice t x k i l=>(match aL st x with| .box id off=>sx E t id off (k.map (aL st)) (i.map (aL st)) (l.map (aL st)) st| .row id off m len cap=>uE E t id off m len cap (k.map (aL st)) (i.map (aL st)) (l.map (aL st)) st|x=>sL E t x (k.map (aL st)) (i.map (aL st)) (l.map (aL st)) st) | .fieldAddr s x f=>pH E s (aL st x).vU f st| .field t x f=>u7 E t (aL st x) f st| .indexAddr t x g=>jI E t (aL st x) (aL st g) st| .index t x g=>xb E t (aL st x) (aL st g) st| .extract x g=>uJ (aL st x) g st| .call {callee:=.builtin b,args,argTypes}=>wP E b argTypes.toList (args.toList.map (aL st)) st|_=>none
def af.vM:af->Bool| .int _ _| .bool _| .str _=>true|_=>false
def KV(F:Nat->Prop)(S:bA)(w:Ts)(ps:am)(vs:Tp Tq):Prop:= ∃(xs:am)(b cap:Nat)(arr:Tu Tq)(t:Tr),ps=[.aa 1 xs]/\vs=[.slice (some ⟨b,0,none⟩) xs.length cap]/\xs.length<=cap/\cap<=maxLen/\w.heap[b]?=some (.cells arr t (0,0))/\arr.toList=xs.map af.gF/\(∀x∈xs,x.vM=true)/\ ¬F b/\∀a,S a->a.block≠b
def zF(a:Bool)(F:Nat->Prop)(S:bA)(w:Ts)(ps:am)(vs:Tp Tq):Prop:=match a with|false=>bh S w ps vs|true=>KV F S w ps vs
def DN(a:Bool)(vs:Tp Tq)(w w':Ts)(b:Nat):Prop:=a=true/\∃(n cap:Nat)(arr:Tu Tq)(t c:Tr),vs=[.slice (some ⟨b,0,none⟩) n cap]/\w.heap[b]?=some (.cells arr t (0,0))/\w'.heap[b]?=some (.cells arr c (0,0))
def vX(P:Program)(Y:gI):Prop:= ∀(r:Tt Nat)(n:Nat)(k i:Nat)(ps:am)(vs:Tp Tq)(F:Nat->Prop)(S:bA)(w:Ts),pg Y.any Y.cQ k ps i->Y.eJ k F S w->(∀b,F b->b<w.heap.size)->(∀a,S a->a.block<w.heap.size)->zF Y.lE F S w ps vs->YieldAt ({Fence.wide with round:=r}) n P Y.l vs.toArray w λ e c=>∃(f:Nat)(g:Nat->Prop)(d:bA),((e=.returned (.bool true)/\f=i)\/(e=.returned (.bool false)/\f=hC Y.any Y.cQ))/\Y.eJ f g d c/\Below 0 w c/\(∀b,b<w.heap.size->¬F b->c.heap[b]?=w.heap[b]?\/DN Y.lE vs w c b)/\(∀b,g b->(F b\/w.heap.size<=b)/\b<c.heap.size)/\(∀a,S a->d a)/\(∀a,S a->di w c a)/\(∀a,d a->(S a\/F a.block\/w.heap.size<=a.block)/\a.block<c.heap.size)
def rV(P:Program)(f:FuncId)(caps:am)(xs:Tp am)(fg ln:Bool):Prop:=kh P f/\∀(Y:gI)(r:Tt Nat)(n:Nat)(F:Nat->Prop)(S:bA)(w:Ts)(vs:Tp Tq),Y.cQ=xs->Y.any=fg->Y.lE=ln->vX P Y->Y.eJ 0 F S w->(∀b,F b->b<w.heap.size)->(∀a,S a->a.block<w.heap.size)->bh S w caps vs->CallsIn ({Fence.wide with round:=r}) n P f (#[.func (.yield Y.l) #[] #[]]++vs.toArray) w λ e c=>∃(v:Tq)(k:Nat)(d:Nat->Prop)(g:bA),e=.returned v/\(rR fg xs k\/k=hC fg xs)/\Y.eJ k d g c/\Below 0 w c
def zY(P:Program)(f:FuncId)(caps:am)(xs:Tp am)(fg:Bool):Prop:=rV P f caps xs fg false
def l3(P:Program)(f:FuncId)(caps:am)(xs:Tp am):Prop:=zY P f caps xs false
def Cv(E:Env)(f:FuncId)(args:am)(K:af->Prop):Prop:=∃r,fL E.P f args r/\K r
def cF(E:Env)(f:FuncId)(cG:aP)(ag:br)(tk:bo)(ao:dE)(Q:ah->br->bo->dE->Prop):Prop:=kh E.P f/\∀(B:Nat)(ax:bA)(w0:Ts)(G:bR)(S:bA)(w:Ts)(vs:Tp Tq),Inv E B ax ag tk ao G S w->Below B w0 w->cG.length=vs.length->(∀(k:Nat)(s:ah)(v:Tq),cG[k]?=some s->vs[k]?=some v->aF tk G S w s v)->Calls E.P f vs.toArray w λ e c=>∃v r j a i d g,Q r j a i/\e=.returned v/\Inv E B ax j a i d g c/\Below B w0 c/\Ext tk G S w a d g c/\aF a d g c r v
def zG(E:Env)(ts:Tp Tr):Bool:=match ts with|t::_=>E.rows&&!E.a6 (2000000+t) | []=>E.rows
structure rW where
 rows:Bool
 at_:List TypeId->Bool
def Env.jd(E:Env):rW:=⟨E.rows,zG E⟩
def js.Dk:js->ah| .dn p=>.val p| .box id off=>.box id off
def IH(E:Env)(f:FuncId)(cG:aP)(st:ai)(K:ah->ai->Prop):Prop:= ∃Q,cF E f cG st.ag st.tk st.ao Q/\∀r c d a,Q r c d a->K r ⟨st.sl,c,d,a⟩
def ai.m4(st:ai)(k:Nat):ai:={st with ao:={st.ao with yk:=k} }
def xd(E:Env)(l:Nat)(ps:am)(st:ai)(K:ah->ai->Prop):Prop:=l=E.Y.l/\E.Y.lE=false/\∃a,pg E.Y.any E.Y.cQ st.ao.yk ps a/\K (.val (.bool true)) (st.m4 a)/\K (.val (.bool false)) (st.m4 (hC E.Y.any E.Y.cQ))
def BR(E:Env)(l:Nat)(cG:aP)(st:ai)(K:ah->ai->Prop):Prop:=l=E.Y.l/\E.Y.lE=true/\∃(id cap:Nat)(xs:am)(a:Nat),(cG=[.row id 0 1 xs.length cap]\/cG=[.fa id 0 xs.length])/\st.ag[id]?=some (some (xs.map .val))/\(∀x∈xs,x.vM=true)/\pg E.Y.any E.Y.cQ st.ao.yk [.aa 1 xs] a/\K (.val (.bool true)) (st.m4 a)/\K (.val (.bool false)) (st.m4 (hC E.Y.any E.Y.cQ))
def ly(id m:Nat)(xs:am)(s:ah):ah:=match s with| .fa a off len=>if a=id/\off=0/\len<=xs.length then .val (.aa m (xs.take len))else .fa a off len| .row a off c len cap=>if a=id/\off=0/\c=m/\len<=xs.length then .val (.aa m (xs.take len))else .row a off c len cap|s=>lZ id (xs.flatMap af.cells) s
def ai.oD(st:ai)(id m:Nat)(xs:am):ai:={st with sl:=st.sl.map (ly id m xs),ag:=st.ag.set id none}
def qf(id m:Nat)(xs:am)(s:ah):ah:=match s with| .row a off c len cap=>ly id m xs (.row a off c len cap) |s=>s
def ai.x'(st:ai)(id m:Nat)(xs:am):ai:={st with sl:=st.sl.map (ly id m xs),ag:=(st.ag.set id none).map (Option.map (List.map (qf id m xs)))}
def jY(id:Nat)(ks vs:am):ah->ah| .mp a=>if a=id then .val (.map ks vs)else .mp a|s=>s
def ai.nM(st:ai)(id:Nat)(ks vs:am):ai:={st with sl:=st.sl.map (jY id ks vs),ao:={st.ao with mp:=st.ao.mp.set id .gone} }
def ai.x_(st:ai)(id:Nat)(ks vs:am):ai:={st with sl:=st.sl.map (jY id ks vs),ag:=st.ag.map (Option.map (List.map (jY id ks vs))),ao:={st.ao with mp:=st.ao.mp.set id .gone} }
def af.b9(b:Nat)(ps:am):af->af| .loc a=>if a=b then .bI ⟨b,0,none⟩ (ps.flatMap af.cells)else .loc a| .c4 a n cap=>if a=b/\n<=ps.length/\(ps.headD .any).cells.length≠0/\((ps.take n).all λ x=>x.cells.length==(ps.headD .any).cells.length)=true then .aa (ps.headD .any).cells.length (ps.take n)else .c4 a n cap|p=>p
def ah.b9(b:Nat)(ps:am):ah->ah| .val (.aa m xs)=>.val (.aa m (xs.map (af.b9 b ps))) | .val p=>.val (p.b9 b ps) | .own t m xs=>.own t m (xs.map (af.b9 b ps)) |s=>s
def dM.b9(b:Nat)(ps:am):dM->dM| .cm es mk=>.cm (es.map λ e=>(e.1,e.2.b9 b ps)) mk|c=>c
def CF(id b:Nat)(ps:am)(s:ah):ah:=(lZ id (ps.flatMap af.cells) s).b9 b ps
def ai.b9(st:ai)(b:Nat)(ps:am):ai:={st with sl:=st.sl.map (ah.b9 b ps),ag:=st.ag.map (Option.map (List.map (ah.b9 b ps))),ao:={st.ao with mp:=st.ao.mp.map (dM.b9 b ps)} }
def ai.Dj(st:ai)(id b:Nat)(ps:am):ai:=(st.sb id (ps.flatMap af.cells)).b9 b ps
inductive bJ:ai->List ah->ai->List ah->Prop|refl(st:ai)(l:List ah):bJ st l st l|still(id:Nat)(cs:List ah)(ps:List af)(st iu:ai)(l l':List ah)(qE:st.ag.getD id none=some cs)(r6:eu cs=some ps)(xW:bJ (st.sb id ps) (l.map (lZ id ps)) iu l'):bJ st l iu l'|row(id m:Nat)(cs:List ah)(xs:List af)(st iu:ai)(l l':List ah)(qE:st.ag.getD id none=some cs)(r6:cs=(xs.flatMap af.cells).map ah.val)(hm:∀x∈xs,x.cells.length=m)(xW:bJ (st.oD id m xs) (l.map (ly id m xs)) iu l')(C2:m≠0:=by decide):bJ st l iu l'|map(id:Nat)(es:List (af×af))(mk:Option (af×Int))(ks vs:List af)(st iu:ai)(l l':List ah)(qE:st.ao.mp[id]?=some (.cm es mk))(r6:es.Perm (ks.zip vs))(mf:ks.length=vs.length)(xW:bJ (st.nM id ks vs) (l.map (jY id ks vs)) iu l'):bJ st l iu l'|Di(id m:Nat)(cs:List ah)(xs:List af)(st iu:ai)(l l':List ah)(qE:st.ag.getD id none=some cs)(r6:cs=(xs.flatMap af.cells).map ah.val)(hm:∀x∈xs,x.cells.length=m)(xW:bJ (st.x' id m xs) (l.map (ly id m xs)) iu l')(C2:m≠0:=by decide):bJ st l iu l'|Jh(id:Nat)(es:List (af×af))(mk:Option (af×Int))(ks vs:List af)(st iu:ai)(l l':List ah)(qE:st.ao.mp[id]?=some (.cm es mk))(r6:es.Perm (ks.zip vs))(mf:ks.length=vs.length)(xW:bJ (st.x_ id ks vs) (l.map (jY id ks vs)) iu l'):bJ st l iu l'|loc(id b h:Nat)(nm:List (Nat×Nat))(cs:List ah)(ps:List af)(st iu:ai)(l l':List ah)(Ti:st.sl[h]?=some (.cX nm))(hm:(id,b)∈nm)(qE:st.ag.getD id none=some cs)(r6:eu cs=some (ps.flatMap af.cells))(xW:bJ (st.Dj id b ps) (l.map (CF id b ps)) iu l'):bJ st l iu l'
def Cw(st:ai)(l:aP)(K:am->ai->Prop):Prop:=∃c a ps,bJ st l c a/\eu a=some ps/\K ps c
def yK(P:Program)(f:FuncId)(m:Nat)(xs:am)(r:af):Prop:=kh P f/\∀(S:bA)(w:Ts)(a:Tv)(cap:Nat)(c:Tp Tq),(∀a,S a->a.block<w.heap.size)->c.length=xs.length*m->(∀(g:Nat)(v:Tq),c[g]?=some v->w.cell? (a.add g)=some v/\v.oneCell'=true)->bh S w (xs.flatMap af.cells) c->xs.length<=cap->cap<=maxLen->Calls P f #[.slice (some a) xs.length cap] w λ e d=>∃v,e=.returned v/\Below w.heap.size w d/\aq (qq S w d) d r v
def KW(E:Env)(f:FuncId)(args:aP)(st:ai)(K:ah->ai->Prop):Prop:= ∃(id off m len cap:Nat)(cells:aP)(xs:am)(r:af),args=[.row id off m len cap]/\st.ag.getD id none=some cells/\(cells.drop off).take (len*m)=(xs.flatMap af.cells).map ah.val/\xs.length=len/\(∀x∈xs,x.cells.length=m)/\yK E.P f m xs r/\K (.val r) st
def II(E:Env)(f:FuncId)(caps:am)(args:aP)(st:ai)(K:ah->ai->Prop):Prop:=(Cw st args λ a c=>Cv E f (a++caps) λ r=>K (.val r) c)\/(caps=[]/\KW E f args st K)\/IH E f (args++caps.map ah.val) st K
def jS(E:Env)(ts:Tp Tr)(xs:aP)(st:ai)(K:ah->ai->Prop):Prop:=match ts,xs with| [t,i],[s,y]=>(match(E.T t).k,y.elems with| .slice e,some (f,a)=>(t=i/\f=(E.T e).size/\a≠[]/\0<(E.T e).size/\(E.T e).zero.length=(E.T e).size/\match s.ox with| .lit g c=>(g=(E.T e).size\/c=[])/\(c.length+a.length)*((E.T e).bytes+1)<=140737488355328/\ ∀cap,c.length+a.length<=cap->cap<=maxLen->K (.row st.ag.length 0 (E.T e).size (c.length+a.length) cap) (st.h2 (((c++a).flatMap af.cells).map ah.val++List.replicate ((cap-(c.length+a.length))*(E.T e).size) (.val .any))) | .row id off m len cap=>m=(E.T e).size/\(len+a.length)*((E.T e).bytes+1)<=140737488355328/\∃cells,st.ag.getD id none=some cells/\off+cap*m<=cells.length/\(len+a.length<=cap->K (.row id off m (len+a.length) cap) (st.j_ id (some (cells.take (off+len*m)++((a.flatMap af.cells).map ah.val++cells.drop (off+len*m+a.length*m))))))/\(cap<len+a.length->∀d,len+a.length<=d->d<=maxLen->K (.row st.ag.length 0 m (len+a.length) d) (st.h2 ((cells.drop off).take (len*m)++((a.flatMap af.cells).map ah.val++List.replicate ((d-(len+a.length))*m) (.val .any))))) |_=>False)|_,_=>False)|_,_=>False
def zH(E:Env)(f:FuncId)(cG:aP):Tt am:=match E.a6 (5000000+f)with|true=>none|false=>eu cG
def Ni{E:Env} {f:FuncId} {cG:aP} {l:am}(h:zH E f cG=some l):eu cG=some l:=by unfold zH at h;split at h;(·cases h);exact h
def xv:BinOp->Operand->Tt Bool| .eql,.const (.slice none 0 0)=>some true| .neq,.const (.slice none 0 0)=>some false|_,_=>none
def xo(E:Env)(b:Bool)(t:Tr)(x:ah)(st:ai)(K:ah->ai->Prop):Prop:=match(E.T t).k,x.elems with| .slice _,some (m,xs)=>(xs=[]->K (.val (.bool b)) st)/\K (.val (.bool (!b))) st|_,_=>False
def xe(st:ai)(id:Nat)(K:Nat->ai->Prop):Prop:= ∃(h:Nat)(a:f'),st.sl[h]?=some (.cX a)/\id<st.ag.length/\(∀p∈a,p.1≠id)/\∀b,(∀p∈a,p.2≠b)->K b {st with sl:=st.sl.set h (.cX (a++[(id,b)]))}
def xw(st:ai)(b:Nat)(K:Nat->Prop):Prop:=∃(a:f')(id:Nat),st.sl.getD 0 .undef=.cX a/\(id,b)∈a/\K id
def BS(st:ai)(id:Nat)(K:Nat->ai->Prop):Prop:=xe st id K\/∃(a:f')(b:Nat),st.sl.getD 0 .undef=.cX a/\(id,b)∈a/\K b st
def vf(E:Env)(ts:Tp Tr)(id off m len cap:Nat)(k:Int)(st:ai)(K:ah->ai->Prop):Prop:=match ts with| [t,c]=>(match(E.T t).k,(E.T c).k with| .slice e,.int _=>m=(E.T e).size/\0<(E.T e).size/\(E.T e).zero.length=(E.T e).size/\0<k/\(len+k.toNat)*((E.T e).bytes+1)<=140737488355328/\cap<len+k.toNat/\∃cells,st.ag.getD id none=some cells/\off+len*m<=cells.length/\ ∀a,len+k.toNat<=a->a<=maxLen->K (.row st.ag.length 0 m (len+k.toNat) a) (st.h2 ((cells.drop off).take (len*m)++List.replicate ((a-len)*m) (.val .any))) |_,_=>False)|_=>False
def o2(E:Env)(ts:Tp Tr)(xs:aP)(st:ai)(K:ah->ai->Prop):Prop:=match ts,xs with| [t,_],[.row id off m len _,y]=>(match(E.T t).k with| .slice e=>m=(E.T e).size/\0<m/\∃cells,st.ag.getD id none=some cells/\off+len*m<=cells.length/\((∃(g f c i:Nat)(d:aP),y=.row g f m c i/\st.ag.getD g none=some d/\f+c*m<=d.length/\K (.val (.int .i64 (min c len:Nat))) (st.j_ id (some (cells.take off++((d.drop f).take (min c len*m)++cells.drop (off+min c len*m))))))\/(∃a:am,y.elems=some (m,a)/\a≠[]/\K (.val (.int .i64 (min a.length len:Nat))) (st.j_ id (some (cells.take off++(((a.flatMap af.cells).take (min a.length len*m)).map ah.val++cells.drop (off+min a.length len*m))))))) |_=>False)|_,_=>False
def zI(E:Env)(f:FuncId)(xs:aP)(st:ai)(K:ah->ai->Prop):Prop:= ∃(fn:Func)(t:Tr)(rt:Tu Tr)(e:Tr),E.P.funcs[f]?=some fn/\(fn.name== "runtime.NumGoroutine")=false/\fn.body.isNone=true/\Extern.findNext fn=none/\Extern.find fn=some (Extern.SlicesOverlaps.overlaps #[t,t] rt)/\(E.T t).k=.slice e/\(E.T e).size≠0/\ ∃(y:ah)(id off m len cap a:Nat)(c:am)(cells:aP),xs=[y,.row id off m len cap]/\y.elems=some (a,c)/\c≠[]/\a≠0/\st.ag.getD id none=some cells/\cells≠[]/\K (.val (.bool false)) st
def p9(E:Env)(ts:Tp Tr)(xs:aP)(st:ai)(K:ah->ai->Prop):Prop:=match xs with| [.val (.c4 b n cap),y]=>xw st b λ id=>∃m,jS E ts [.row id 0 m n cap,y] st K| [.row id off m len cap,.val (.int .i64 k)]=>vf E ts id off m len cap k st K|xs=>jS E ts xs st K
def Ig(E:Env)(f:FuncId)(cG:aP)(st:ai)(K:ah->ai->Prop):Prop:=∃a c,bJ st cG a c/\IH E f c a K
def eN(E:Env)(a:Bool)(o:Op)(st:ai)(K:ah->ai->Prop):Prop:=match o with| .call {callee:=.value x,args.. } =>(match aL st x with| .val (.fn f g)=>(match zH E f (args.toList.map (aL st))with|some c=>Cv E f (c++g) λ r=>K (.val r) st|none=>a=false/\(II E f g (args.toList.map (aL st)) st K\/(g=[]/\zI E f (args.toList.map (aL st)) st K))) | .val (.k4 f j)=>a=false/\(match eu (args.toList.map (aL st))with|some c=>Cv E f (j++c) λ r=>K (.val r) st|none=>False) | .a6 f g=>a=false/\Ig E f (args.toList.map (aL st)++g.map js.Dk) st K| .val (.fJ c)=>(match eu (args.toList.map (aL st))with|some ps=>a=false/\xd E c ps st K|none=>a=false/\((Cw st (args.toList.map (aL st)) λ ps d=>xd E c ps d K)\/BR E c (args.toList.map (aL st)) st K)) |_=>False)| .call {callee:=.builtin .append,args,argTypes} =>(match zG E argTypes.toList with|true=>a=false/\p9 E argTypes.toList (args.toList.map (aL st)) st K|false=>a'.go (dr E o st) K)| .call {callee:=.builtin .copy,args,argTypes}=>a=false/\o2 E argTypes.toList (args.toList.map (aL st)) st K| .next x false=>a=false/\zD (aL st x) st K| .mapEntry t m x=>a=false/\uG E t (aL st m) (aL st x).bare st K| .binOp op t x y u=>(match xv op y with|some b=>a=false/\xo E b t (aL st x) st K|none=>a'.go (dr E (.binOp op t x y u) st) K)| .fieldAddr s x f=>(match aL st x with| .val (.loc b)=>xw st b λ id=>a'.go (pH E s (.box id 0) f st) K|_=>a'.go (dr E (.fieldAddr s x f) st) K)| .indexAddr t x i=>(match aL st x with| .val (.c4 b n cap)=>xw st b λ id=>a'.go (jI E t (.row id 0 1 n cap) (aL st i) st) K|_=>a'.go (dr E (.indexAddr t x i) st) K)| .mapUpdate t m x v=>(match aL st v with| .box id 0=>a=false/\xe st id λ b d=>a'.go (pI E t (aL st m) (aL st x).bare (.val (.loc b)) d) K|_=>a'.go (dr E (.mapUpdate t m x v) st) K)| .buildSlice t n parts=>(match parts.toList.map λ p=>(p.1,aL st p.2)with| [(0,.fa id 0 len)]=>a=false/\xe st id λ b d=>∀cap,a'.go (pK E t n [(0,.val (.c4 b len cap))] d) K|_=>a'.go (dr E (.buildSlice t n parts) st) K)| .entryStore t m s v=>(match aL st v with| .row id 0 _ len cap=>a=false/\BS st id λ b d=>a'.go (q6 (aL st m) (aL st s) (.val (.c4 b len cap)) d) K|_=>a'.go (dr E (.entryStore t m s v) st) K)|o=>a'.go (dr E o st) K
def qg(ops:Tp Oper)(j:Nat):Tt Tmp:=(ops[j]?).bind (·.dst)
def iC(E:Env)(c:Bool)(ops:Tp Oper):Tp Oper->ai->(ai->Prop)->Prop| [],st,K=>K st|a::rest,st,K=>match a.guard with|none=>eN E c a.op st λ v d=>iC E c ops rest (d.put a.dst v) K|some (f,want)=>match qg ops f with|none=>False|some t=>match st.sl.getD t .undef with| .undef=>iC E c ops rest (st.put a.dst .undef) K| .val (.bool b)=>(b=want->eN E c a.op (st.put (some t) (.val (.bool want))) λ v d=>iC E c ops rest (d.put a.dst v) K)/\(b=!want->iC E c ops rest ((st.put (some t) (.val (.bool (!want)))).put a.dst .undef) K) |_=>False
def rX:Tp Nat->(Nat->Prop)->Prop| [],_=>True| [a],f=>f a|a::r,f=>f a/\rX r f
theorem HC{f:Nat->Prop}:∀{l:Tp Nat},rX l f->∀c∈l,f c| [],_,c,a=>by cases a| [d],h,c,a=>by rw[dG]at a;subst a;exact h|d::k::r,h,c,a=>by rcases cM.1 a with rfl|a;(·exact h.1);exact HC h.2 c a
theorem Bq{f g:Nat->Prop}(ae:∀a,f a->g a):∀{l:Tp Nat},rX l f->rX l g| [],_=>trivial| [_],h=>ae _ h|_::_::_,h=>⟨ae _ h.1,Bq ae h.2⟩
def nu(E:Env)(ops:Tu Oper):Nat->Tu Bool->ai->(ai->Prop)->Prop|0,c,st,K=>(match Region.ready .any ops c with| []=>K st|_=>False) |d+1,c,st,K=>(match Region.ready .any ops c with| []=>K st|a::r=>rX (a::r) λ a=>(match ops[a]? with|none=>False|some f=>iC E false ops.toList [f] st λ g=>nu E ops d (c.setIfInBounds a true) g K))
inductive J_ where|text|each|cut(c:Nat)
def Dp(E:Env)(id:Nat):Nat->Nat->Tt Nat|0,_=>none|n+1,c=>match E.a6 (3000000+100*id+c)with|true=>some c|false=>Dp E id n (c+1)
def oU(E:Env)(draw:Bool)(id n:Nat):J_:=match draw&&E.a6 (1000000+id)with|false=>.text|true=>match Dp E id n 0 with|none=>.each|some c=>.cut c
def En{E:Env} {draw:Bool} {id n:Nat}(h:oU E draw id n≠.text):draw=true:=by cases draw with|true=>rfl|false=>exact absurd rfl h
def jh:TypeDesc->Bool| .struct _| .array _ _=>true|_=>false
def pR(P:Program)(F:Tr->Tt (Tp fm))(off:Nat):Tp Field->Tt (Tp fm) | []=>some [] |f::r=>if f.name≠"_"/\f.offset=off then match F f.type with|none=>none|some ks=>if ks.length=P.cellsOf f.type/\ks≠[]then(pR P F (off+ks.length) r).map (ks++·)else none else none
def iZ(P:Program):Nat->Tr->Tt (Tp fm) |0,_=>none|d+1,t=>match P.underlying t with|some .bool=>some [.bool] |some (.int _)=>some [.int] |some .string=>some [.str] |some (.pointer e)=>if P.cellsOf e=0 then none else some [.ptr] |some (.struct a)=>if P.stoodInHeld t then none else pR P (iZ P d) 0 a.toList|some (.array n e)=>(match iZ P d e with|none=>none|some ks=>if n<=64/\ks.length=P.cellsOf e/\ks≠[]then some (List.replicate n ks).flatten else none)|_=>none
def Ak(P:Program)(t:Tr):dl->Prop| .int k=>P.underlying t=some (.int k) | .bool=>P.underlying t=some .bool| .str=>P.underlying t=some .string| .slice e=>P.underlying t=some (.slice e) | .struct a=>∃F:Tu Field,P.underlying t=some (.struct F)/\F.toList.map (λ f=>(f.offset,f.type))=a| .array n e=>P.underlying t=some (.array n e) | .ptr e=>P.underlying t=some (.pointer e) | .map k e=>P.underlying t=some (.map k e) | .func=>True| .other=>True
structure xH(P:Program)(T:TypeId->ep)(t:TypeId):Prop where
 k:Ak P t (T t).k
 info:(T t).size≠0\/(T t).agg=true->∃(i:TypeInfo)(z:Value)(u:TypeDesc),P.info? t=some i/\i.size=(T t).size/\i.bytes=(T t).bytes/\i.zero=some z/\z.cells.toList.map li=(T t).zero/\(∀v∈z.cells.toList,v.oneCell'=true)/\z.cells.size=i.size/\(if(T t).agg then∃cs,z=.agg cs else z.oneCell'=true)/\P.underlying t=some u/\jh u=(T t).agg
 eq:∀ks,(T t).eq=some ks->∃d,d<9999/\iZ P d t=some ks/\P.eqGuardType P.depth t=false/\∃u,P.underlying t=some u/\jh u=true
structure co(E:Env):Prop where
 dp:∀t,xH E.P E.T t
 mixed:E.P.follows .mixedOrders=true
 Td:vX E.P E.Y
structure Rel(E:Env)(B:Nat)(ax:Addr->Prop)(w0:World)(st:ai)(G:bR)(S:Addr->Prop)(w:World)(tmps:Array Value):Prop where
 inv:Inv E B ax st.ag st.tk st.ao G S w
 below:Below B w0 w
 len:st.sl.length=tmps.size
 sl:∀(t:Nat)(s:ah)(v:Value),st.sl[t]?=some s->tmps[t]?=some v->aF st.tk G S w s v
section
variable{E:Env} {B:Nat} {ax:Tv->Prop} {w0:Ts} {st:ai} {G:bR} {S:Tv->Prop} {w:Ts} {tmps:Tu Tq}
def aq.const(v:Tq):aq S w (li v) v:=by
 unfold li;split;·exact .int _ _
 ·exact .bool _
 ·exact .str _
 ·have:=aq.aa (S:=S) (w:=w) 0 [] none ⟨0,0,none⟩ 0 (λ _ _=>undef) al al (by simp[maxLen]) al al al (λ _=>rfl);simpa using this
 ·exact .qI
 ·exact .ch
 exact .any _
def bh.const(vs:Tp Tq):bh S w (vs.map li) vs:=⟨al,λ d p v a c=>by rw[bm,c]at a;simp at a;subst a;exact aq.const v⟩
def aq.ow(m:Nat)(a:Tt Tv)(cap:Nat)(c:cap<=maxLen)(d:m=0->cap=0:=by first| (intro h;exact absurd h aN) |exact λ _=>rfl):aq S w (.aa m []) (.slice a 0 cap):=by have:=aq.aa (S:=S) (w:=w) m [] a ⟨0,0,none⟩ cap (λ _ _=>undef) al al c al al al d;simpa using this
def aF.x2{tk:bo} {s:ah} {v:Tq}(h:aF tk G S w s v):aF tk G S w s.x2 v:=by unfold ah.x2;split;(·obtain⟨c,a,rfl⟩:=h;exact⟨aq.ow 0 a 0 (by simp[maxLen]),a,rfl⟩);exact h
def aF.const(tk:bo)(v:Tq):aF tk G S w (Cn v) v:=by
 unfold Cn;split;·exact aq.int _ _
 ·exact aq.bool _
 ·exact aq.str _
 ·exact⟨aq.ow 0 none 0 (by simp[maxLen]),none,rfl⟩
 next cs=>have:=aq.agg (S:=S) (w:=w) (cs.toList.map li) cs.toList al (bh.const cs.toList).2;simpa[aF]using this
 ·exact aq.qI
 ·exact aq.ch
 exact aq.any _
def Rel.val(R:Rel E B ax w0 st G S w tmps)(x:Operand)(d:Tp Deferred):aF st.tk G S w (aL st x) (({tmps:=tmps,defers:=d}:Act).eval x):=by cases x with|const v=>exact aF.const _ v|global g=>exact aq.any _|func f=>have:=aq.fn (S:=S) (w:=w) f [] [] rfl al;simpa[aF,aL,Act.eval]using this|tmp t=>simp only[aL,Act.eval];by_cases a:t<st.sl.length;(·(have c:t<tmps.size:=by rw[<-R.len];exact a);refine R.sl t _ _ ?_ ?_;(·simp[List.getD,a]);simp[c]);(have c:¬t<tmps.size:=by rw[<-R.len];exact a);simp[List.getD,eL (qS a),Array.getD,c,aF]
def c7(E:Env)(B:Nat)(ax:bA)(w0:Ts)(r:Tt a')(G:bR)(S:bA)(w:Ts)(tk:bo)(tmps:Tu Tq)(s:Sem Next):Prop:= ∀a,r=some a->a.side->∃g v c,s.run E.P w=.ok g c/\(g=.value v\/(g=.skip/\v=undef))/\ ∃d f,Rel E B ax w0 a.st d f c tmps/\aF a.st.tk d f c a.v v/\Ext tk G S w a.st.tk d f c
def c7.same{r:Tt a'} {s:Sem Next}(R:Rel E B ax w0 st G S w tmps)(h:∀a,r=some a->a.side->a.st=st/\∃v,s.run E.P w=.ok (.value v) w/\aF st.tk G S w a.v v):c7 E B ax w0 r G S w st.tk tmps s:=by intro a g i;obtain⟨c,v,d,f⟩:=h a g i;exact⟨_,v,w,d,.inl rfl,G,S,by rw[c];exact R,by rw[c];exact f,by rw[c];exact Ext.refl _ _ _ _⟩
def aq.oA{p:af} {v:Tq}(h:aq S w p v)(a:p.one=true):v.oneCell'=true:=by cases h<;>simp_all[af.one,Value.oneCell']
def aF.oA{tk:bo} {s:ah} {v:Tq}(h:aF tk G S w s v)(c:s.one=true):v.oneCell'=true:=by cases s with|undef=>cases c|val p=>exact aq.oA h c|lit m xs=>obtain⟨_,a,rfl⟩:=h;rfl|own t m xs=>obtain⟨h,_⟩:=h;exact aq.oA h rfl|box id off=>obtain⟨b,_,rfl⟩:=h;rfl|fa id off len=>obtain⟨b,cap,_,rfl,_⟩:=h;rfl|a6 f d=>obtain⟨vs,rfl,_⟩:=h;rfl|gv id off g m k=>obtain⟨b,_,rfl⟩:=h;rfl|mp id=>obtain⟨b,_,rfl⟩:=h;rfl|row id off m len cap=>obtain⟨b,_,rfl,_⟩:=h;rfl|it id=>obtain⟨b,_,rfl⟩:=h;rfl|mj id ps=>cases c|cX i=>cases c
def Ih(R:Rel E B ax w0 st G S w tmps)(x:Operand)(d:Tp Deferred):c7 E B ax w0 (some ⟨True,aL st x,st⟩) G S w st.tk tmps (pure (.value (({tmps:=tmps,defers:=d}:Act).eval x))):=c7.same R λ c a _=>by cases a;exact⟨rfl,_,rfl,R.val x d⟩
def R5(R:Rel E B ax w0 st G S w tmps){c a b:ah} {i f g:Tq}(l:aF st.tk G S w c i)(j:aF st.tk G S w a f)(k:aF st.tk G S w b g):c7 E B ax w0 (sV c a b st) G S w st.tk tmps (do pure (.value (if<-asBool i then f else g))):=c7.same R λ n d m=>by unfold sV at d;split at d;(·cases d;cases l;rename_i q;refine⟨rfl,if q then f else g,by simp[asBool],?_⟩;cases q;(·exact k);exact j);cases d
def iM{P:Program} {t:Tr} {i:TypeInfo}(h:P.info? t=some i)(w:Ts):(sizeOf t).run P w=.ok i.size w:=by simp[sizeOf,typeInfo,h]
def Addr.tq(a:Tv)(i j:Nat):(a.add i).add j=a.add (i+j):=by unfold Addr.add;by_cases c:i=0<;>by_cases d:j=0<;>simp[c,d,pE]
def jK(b o n:Nat):(⟨b,o,none⟩:Tv).add n=⟨b,o+n,none⟩:=by unfold Addr.add;split<;>simp_all
def EE(o:co E)(R:Rel E B ax w0 st G S w tmps){s:Tr} {x:ah} {f:Nat} {y:Tq}(m:aF st.tk G S w x y):c7 E B ax w0 (pH E s x f st) G S w st.tk tmps (do pure (.value (<-Instr.fieldAt s y f))):=c7.same R λ V c _=>by unfold pH at c;have ae:=(o.dp s).k;split at c;(next T O=>rw[O]at ae;obtain⟨F,hu,D⟩:=ae;split at c;(next t n d=>(have H:∃fd,F[f]?=some fd/\fd.offset=t/\fd.type=n:=by rw[<-D,bm]at d;cases j:F.toList[f]? with|none=>simp[j]at d|some fd=>simp[j]at d;exact⟨fd,by simpa using j,d.1,d.2⟩);obtain⟨fd,J,M,K⟩:=H;split at c;(·cases c);rename_i p;obtain⟨U,z,u,L,Q,_⟩:=(o.dp n).info (.inl p);(have l:∀a,(Instr.fieldAt s (.pointer (some a)) f).run E.P w=.ok (.pointer (some (a.add t))) w:=by intro a;simp[Instr.fieldAt,run_underlying hu,J,Instr.sureAddr,fieldPlace,K,iM L,Q,p,M]);split at c;(·cases c;cases m with|ptr cs off C g I N=>refine⟨rfl,_,by simp[l];rfl,?_⟩;rw[Addr.tq];exact aq.ptr _ _ C g I N);(·cases c;obtain⟨b,i,rfl⟩:=m;refine⟨rfl,_,by simp[l];rfl,b,i,?_⟩;rw[jK]);(·cases c;obtain⟨b,i,rfl⟩:=m;refine⟨rfl,_,by simp[l];rfl,b,i,?_⟩;rw[jK,pE]);cases c);cases c);cases c
def NZ(R:Rel E B ax w0 st G S w tmps){x:ah} {i:Nat} {k:Tq}(j:aF st.tk G S w x k):c7 E B ax w0 (uJ x i st) G S w st.tk tmps (do pure (.value (<-Instr.extract k i))):=c7.same R λ n a _=>by
 unfold uJ at a;split at a;next vs=>split at a;(next p d=>cases a;obtain⟨us,rfl,f,hu⟩:=aq.S8 j;(have c:i<us.length:=by rw[<-f];exact(aD.1 d).1);refine⟨rfl,us[i],?_,hu i p _ d (aQ c)⟩;simp[Instr.extract,c]);cases a
 next id ps=>obtain⟨b,vs,l,rfl,f,m⟩:=j;split at a;(·cases a;exact⟨rfl,.map (some b),by simp[Instr.extract],b,l,rfl⟩);rename_i g;split at a;(next p d=>cases a;(have c:g<vs.length:=by rw[<-f];exact(aD.1 d).1);refine⟨rfl,vs[g],?_,m g p _ d (aQ c)⟩;simp[Instr.extract,c]);cases a
 cases a
def J'(R:Rel E B ax w0 st G S w tmps){op:UnOp} {x:ah} {d:Tq}(c:aF st.tk G S w x d):c7 E B ax w0 (tf op x st) G S w st.tk tmps (do pure (.value (<-Op.unary op d))):=c7.same R λ g a f=>by
 unfold tf at a;split at a;·cases a;cases c;exact⟨rfl,_,by simp[Op.unary],aq.bool _⟩
 ·cases a;cases c;rename_i n;refine⟨rfl,_,by simp[Op.unary,Op.intArith];rfl,?_⟩;(have:IntKind.i64.wrap (-n)=-n:=by simp only at f;rw[IntKind.wrap_i64];omega);rw[this];exact aq.int _ _
 ·cases a;cases c;exact⟨rfl,.int .u64 _,rfl,aq.int _ _⟩
 cases a
def bh.drop_take{cs:am} {vs:Tp Tq}(h:bh S w cs vs)(o n:Nat):bh S w ((cs.drop o).take n) ((vs.drop o).take n):=⟨by simp[h.1],λ f p v a c=>by rw[c9]at a c;split at a;(next d=>rw[if_pos d,fs]at c;rw[fs]at a;exact h.2 _ p v a c);cases a⟩
def D6{t:Tr} {u:TypeDesc} {i:TypeInfo}(hu:E.P.underlying t=some u)(j:jh u=true)(f:E.P.info? t=some i)(a:Tv)(cs:Tp Tq)(g:cs.length=i.size)(h:∀c v,cs[c]?=some v->w.cell? (a.add c)=some v):(loadVar t a).run E.P w=.ok (.agg cs.toArray) w:=by (have d:(isAgg t).run E.P w=.ok true w:=by unfold isAgg;cases u<;>simp_all[jh,run_underlying hu]);simp[loadVar,d,iM f,<-g,run_loadCells_list w a cs h]
def D7{t:Tr} {u:TypeDesc}(hu:E.P.underlying t=some u)(d:jh u=false)(a:Tv)(v:Tq)(h:w.cell? a=some v):(loadVar t a).run E.P w=.ok v w:=by (have c:(isAgg t).run E.P w=.ok false w:=by unfold isAgg;cases u<;>simp_all[jh,run_underlying hu]);simp[loadVar,c,h]
def Qi{cs:am} {ad:Tv} {g:Nat->Tq}(k:∀(j:Nat)(c:af),cs[j]?=some c->S (ad.add j)/\w.cell? (ad.add j)=some (g j)/\(g j).oneCell'=true)(l:∀(j:Nat)(c:af),cs[j]?=some c->aq S w c (g j))(off n:Nat)(m:off+n<=cs.length): ∃vs:Tp Tq,vs.length=n/\(∀j v,vs[j]?=some v->w.cell? ((ad.add off).add j)=some v)/\bh S w ((cs.drop off).take n) vs:=by
 refine⟨(List.range n).map λ j=>g (off+j),al,λ j v f=>?_,c0,λ j p v d i=>?_⟩;·rw[bm]at f;by_cases a:j<n;(·simp[a]at f;subst f;rw[Addr.tq];exact(k (off+j) _ (aQ ac)).2.1);simp[a]at f
 rw[bm]at i;rw[c9]at d;by_cases a:j<n;·simp[a]at i;subst i;rw[if_pos a,fs]at d;exact l _ _ d
 simp[a]at d
theorem AI:∀{l:aP} {ps:am},eu l=some ps->ps.length=l.length| [],ps,h=>by simp[eu]at h;subst h;rfl|s::r,ps,h=>by unfold eu at h;split at h;(next p q _ a=>cases h;simp[AI a]);cases h
def yS:∀{l:aP} {ps:am},eu l=some ps->∀(i:Nat)(p:af),ps[i]?=some p->∃s,l[i]?=some s/\s.dn=some p| [],ps,h,i,p,c=>by simp[eu]at h;subst h;simp at c|s::r,ps,h,i,p,c=>by unfold eu at h;split at h;(next q j d f=>cases h;cases i with|zero=>simp at c;subst c;exact⟨s,rfl,d⟩ |succ i=>obtain⟨g,a,b⟩:=yS f i p (by simpa using c);exact⟨g,by simpa using a,b⟩);cases h
def vW.x7{tk:bo} {l:aP} {ps:am} {vs:Tp Tq}(h:eu l=some ps)(f:l.length=vs.length)(g:∀(i:Nat)(s:ah)(v:Tq),l[i]?=some s->vs[i]?=some v->aF tk G S w s v):bh S w ps vs:=⟨by rw[AI h,f],λ i p v c d=>by obtain⟨s,a,b⟩:=yS h i p c;exact aF.dn (g i s v a d) b⟩
def Inv.read(l:Inv E B ax st.ag st.tk st.ao G S w){id b:Nat} {cs:aP}(m:G.ag[id]?=some b)(d:st.ag.getD id none=some cs): ∃(t:Tr)(arr:Tu Tq),w.heap[b]?=some (.cells arr t (0,0))/\arr.size=cs.length/\(∀(j:Nat)(c:ah)(v:Tq),cs[j]?=some c->arr[j]?=some v->aF st.tk G S w c v/\v.oneCell'=true)/\(∀j,w.cell? ⟨b,j,none⟩=arr[j]?)/\∀a,S a->a.block≠b:=by (have h:st.ag[id]?=some (some cs):=by rw[cl]at d;cases h:st.ag[id]? with|none=>simp[h]at d|some x=>simp[h]at d;rw[d]);obtain⟨⟨t,arr,f,g,i⟩,k⟩:=l.box id b cs h m;exact⟨t,arr,f,g,i,λ j=>by simp[World.cell?,f],k⟩
def Gc(C:co E)(R:Rel E B ax w0 st G S w tmps){t:Tr} {x:ah} {N:Tq}(M:aF st.tk G S w x N): ∀y,iW E t x st=some y->y.side->y.st=st/\∃v,(do pure (Next.value (<-Instr.loadAt t N)):Sem Next).run E.P w=.ok (.value v) w/\aF st.tk G S w y.v v:=λ y a F=>by
 unfold iW at a;split at a;next cs off=>cases M with|ptr _ _ J g K l=>split at a;(next c=>cases a;obtain⟨H,z,u,k,o,_,_,_,_,_,_,hu,f⟩:=(C.dp t).info (.inr c);obtain⟨vs,D,i,m⟩:=Qi K l off (E.T t).size F;refine⟨rfl,_,by simp[Instr.loadAt,Instr.sureAddr,D6 hu (by rw[f,c]) k (J.add off) vs (by rw[D,o]) i];rfl,?_⟩;exact aq.agg _ vs m.1 m.2);rename_i c;split at a;(next d=>cases a;obtain⟨H,z,u,k,o,_,_,_,_,_,_,hu,f⟩:=(C.dp t).info (.inl ac);have n:off<cs.length:=F;have j:cs[off]?=some cs[off]:=aQ n;obtain⟨_,i,_⟩:=K off _ j;refine⟨rfl,_,by simp[Instr.loadAt,Instr.sureAddr,D7 hu (by rw[f];simpa using c) (J.add off) _ i];rfl,?_⟩;show aq S w (cs.getD off .any) _;rw[cl,j];exact l off _ j);cases a
 next id off=>obtain⟨b,O,rfl⟩:=M;split at a;(next cs j=>obtain⟨Z,arr,W,D,l,i,_⟩:=R.inv.read O j;split at a;(next c=>obtain⟨H,z,u,k,o,_,_,_,_,_,_,hu,f⟩:=(C.dp t).info (.inr c);split at a;(next V U=>cases a;have n:off+(E.T t).size<=cs.length:=F;have m:bh S w V ((arr.toList.drop off).take (E.T t).size):=vW.x7 (tk:=st.tk) (G:=G) U (by simp[D]) (λ H s v d I=>by rw[c9]at d I;split at d;(next Q=>rw[if_pos Q,fs]at I;rw[fs]at d;exact(l _ s v d (by simpa using I)).1);cases d);refine⟨rfl,_,by simp[Instr.loadAt,Instr.sureAddr,D6 hu (by rw[f,c]) k ⟨b,off,none⟩ ((arr.toList.drop off).take (E.T t).size) (by simp[D,o];omega) (λ X v p=>by rw[jK,i];rw[c9]at p;split at p;(·rw[fs]at p;simpa using p);cases p)];rfl,?_⟩;exact aq.agg _ _ m.1 m.2);cases a);rename_i c;split at a;(next d=>cases a;obtain⟨H,z,u,k,o,_,_,_,_,_,_,hu,f⟩:=(C.dp t).info (.inl ac);have n:off<cs.length:=F;have L:arr[off]?=some arr[off]:=eC ac;refine⟨rfl,_,by simp[Instr.loadAt,Instr.sureAddr,D7 hu (by rw[f];simpa using c) ⟨b,off,none⟩ arr[off] (by rw[i];exact L)];rfl,?_⟩;rw[cl,aQ n];exact(l off _ _ (aQ n) L).1);cases a);cases a
 cases a
def R6(c:co E)(R:Rel E B ax w0 st G S w tmps){t:Tr} {x:ah} {a:Tq}(d:aF st.tk G S w x a):c7 E B ax w0 (iW E t x st) G S w st.tk tmps (do pure (.value (<-Instr.loadAt t a))):=c7.same R (Gc c R d)
end
section
variable{E:Env} {B:Nat} {ax:Tv->Prop} {w0:Ts} {st:ai} {G:bR} {S:Tv->Prop} {w:Ts} {tmps:Tu Tq}
def wE{t:Tr} {u:TypeDesc}(hu:E.P.underlying t=some u)(w:Ts):(isAgg t).run E.P w=.ok (jh u) w:=by unfold isAgg;cases u<;>simp[jh,run_underlying hu]
def QG(j:co E)(R:Rel E B ax w0 st G S w tmps){t:Tr} {x:ah} {f:Nat} {K:Tq}(U:aF st.tk G S w x K):c7 E B ax w0 (u7 E t x f st) G S w st.tk tmps (do pure (.value (<-Instr.field t K f))):=c7.same R λ Z a Q=>by unfold u7 at a;have ae:=(j.dp t).k;split at a;(next W cs O=>rw[O]at ae;obtain⟨F,hu,L⟩:=ae;obtain⟨vs,rfl,N,I⟩:=aq.qy U;split at a;(next c d g=>(have M:∃fd,F[f]?=some fd/\fd.offset=c/\fd.type=d:=by rw[<-L,bm]at g;cases l:F.toList[f]? with|none=>simp[l]at g|some fd=>simp[l]at g;exact⟨fd,by simpa using l,g.1,g.2⟩);obtain⟨fd,o,y,p⟩:=M;split at a;(next i=>cases a;obtain⟨V,z,u,s,H,_,_,_,_,_,_,n,m⟩:=(j.dp d).info (.inr i);have C:=bh.drop_take ⟨N,I⟩ c (E.T d).size;refine⟨rfl,.agg ((vs.drop c).take (E.T d).size).toArray,?_,aq.agg _ _ C.1 C.2⟩;simp[Instr.field,run_underlying hu,o,part,p,wE n,m,i,asAgg,iM s,H,y];try(apply Array.ext';simp[List.take_drop,ld]));rename_i i;split at a;(next X=>cases a;obtain⟨V,z,u,s,H,_,_,_,_,_,_,n,m⟩:=(j.dp d).info (.inl ac);have D:c<cs.length:=Q;have J:c<vs.length:=ac;refine⟨rfl,vs[c],?_,?_⟩;(·simp[Instr.field,run_underlying hu,o,part,p,wE n,m,i,asAgg,y,J]);show aq S w (cs.getD c .any) _;rw[cl,aQ D];exact I c _ _ (aQ D) (aQ J));cases a);cases a);cases a
def aF.elems{tk:bo} {x:ah} {v:Tq} {m:Nat} {xs:am}(h:aF tk G S w x v)(he:x.elems=some (m,xs)):aq S w (.aa m xs) v:=by cases x with|undef=>cases he|val p=>cases p<;>simp[ah.elems]at he;obtain⟨rfl,rfl⟩:=he;exact h|lit a c=>simp[ah.elems]at he;obtain⟨rfl,rfl⟩:=he;exact h.1|own t a c=>simp[ah.elems]at he;obtain⟨rfl,rfl⟩:=he;exact h.1|box id off=>cases he|fa id off len=>cases he|a6 f d=>cases he|gv id off g m k=>cases he|mp id=>cases he|row id off m len cap=>cases he|it id=>cases he|mj id ps=>cases he|cX i=>cases he
def aq.mm{m:Nat} {xs:am} {v:Tq}(h:aq S w (.aa m xs) v): ∃(a:Tt Tv)(d:Tv)(cap:Nat)(g:Nat->Nat->Tq),v=.slice a xs.length cap/\(xs≠[]->a=some d)/\xs.length<=cap/\cap<=maxLen/\(∀(i:Nat)(x:af),xs[i]?=some x->x.cells.length=m)/\(∀(i:Nat)(x:af)(j:Nat)(c:af),xs[i]?=some x->x.cells[j]?=some c->S (d.add (i*m+j))/\w.cell? (d.add (i*m+j))=some (g i j)/\(g i j).oneCell'=true)/\(∀(i:Nat)(x:af)(j:Nat)(c:af),xs[i]?=some x->x.cells[j]?=some c->aq S w c (g i j)):=by cases h with|aa _ _ a d cap g f l o n k p s=>exact⟨a,d,cap,g,rfl,f,l,o,n,k,p⟩
def aq.Da{m:Nat} {xs:am} {a:Tt Tv} {n cap:Nat}(h:aq S w (.aa m xs) (.slice a n cap)):m=0->cap=0:=by cases h with|aa _ _ a d cap g f j l k i o c=>exact c
def Fq{tk:bo} {x:ah} {v:Tq} {k:IntKind} {n:Int}(h:aF tk G S w x v)(a:rv x=some (k,n)):v=.int k n:=by unfold rv at a;split at a;(·cases a;cases h;rfl);cases a
def Au{t e:Tr} {i:TypeInfo}(hu:E.P.underlying t=some (.slice e))(d:E.P.info? e=some i)(ad:Tv)(len cap:Nat)(k:IntKind)(n:Int)(a:0<=n)(c:n<len):(Instr.indexAt t (.slice (some ad) len cap) (.int k n)).run E.P w=.ok (.pointer (some (ad.add (n.toNat*i.size)))) w:=by simp[Instr.indexAt,asIntOf,run_underlying hu,a,c,iM d]
def D0{t e:Tr} {c:Nat} {i:TypeInfo}(hu:E.P.underlying t=some (.array c e))(f:E.P.info? e=some i)(ad:Tv)(k:IntKind)(n:Int)(a:0<=n)(d:n<c):(Instr.indexAt t (.pointer (some ad)) (.int k n)).run E.P w=.ok (.pointer (some (ad.add (n.toNat*i.size)))) w:=by simp[Instr.indexAt,asIntOf,run_underlying hu,a,d,iM f,Instr.sureAddr]
def A1{tk:bo} {id off i m b:Nat} {v:Tq}(a:G.ag[id]?=some b)(hv:v=.pointer (some ⟨b,off+i*m,none⟩)):aF tk G S w (rC E id off i m) v:=by unfold rC;split;(·exact⟨b,a,hv⟩);exact⟨b,a,hv⟩
def EF(D:co E)(R:Rel E B ax w0 st G S w tmps){t:Tr} {x O:ah} {Q au:Tq}(s:aF st.tk G S w x Q)(X:aF st.tk G S w O au):c7 E B ax w0 (jI E t x O st) G S w st.tk tmps (do pure (.value (<-Instr.indexAt t Q au))):=c7.same R λ ag d p=>by
 unfold jI at d;split at d;·cases d
 rename_i k n W;cases Fq X W;have ae:=(D.dp t).k;split at d;next e J=>rw[J]at ae;split at d;(·cases d);rename_i K;obtain⟨N,z,u,j,l,_⟩:=(D.dp e).info (.inl K);split at d;(next id off len=>cases d;obtain⟨b,cap,o,rfl,Z,U⟩:=s;obtain⟨f,i⟩:=p;refine⟨rfl,_,by simp[Au ae j _ _ _ _ _ f i];rfl,A1 o ?_⟩;rw[jK,l]);(next id off m len cap=>cases d;obtain⟨b,o,rfl,Z,U⟩:=s;obtain⟨f,i⟩:=p;refine⟨rfl,_,by simp[Au ae j _ _ _ _ _ f i];rfl,A1 o ?_⟩;rw[jK,l]);rename_i ai _ _;split at d;(next m xs V=>split at d;(next aa=>cases d;obtain⟨f,i⟩:=p;obtain⟨a,C,cap,g,rfl,T,_,_,af,F,I⟩:=aq.mm (aF.elems s V);have M:n.toNat<xs.length:=ac;(have ab:xs≠[]:=by intro h;subst h;simp at M);obtain rfl:=T ab;refine⟨rfl,_,by simp[Au ae j _ _ _ _ _ f i];rfl,?_⟩;(have L:xs[n.toNat]?=some (xs.getD n.toNat .any):=by rw[cl,aQ M];rfl);exact aq.ptr (S:=S) (w:=w) (xs.getD n.toNat .any).cells 0 (C.add (n.toNat*N.size)) (λ y=>g n.toNat y) (λ y c H=>by have:=F n.toNat _ y c L H;rw[Addr.tq,l,<-aa];exact this) (λ y c H=>I n.toNat _ y c L H));cases d);cases d
 next ad e J=>rw[J]at ae;split at d;(·cases d);rename_i K;obtain⟨N,z,u,j,l,_⟩:=(D.dp e).info (.inl K);split at d;(next cs off=>cases d;obtain⟨f,i⟩:=p;cases s with|ptr _ _ C g F I=>refine⟨rfl,_,by simp[D0 ae j _ _ _ f i];rfl,?_⟩;rw[Addr.tq,l];exact aq.ptr _ _ C g F I);(next id off=>cases d;obtain⟨f,i⟩:=p;obtain⟨b,o,rfl⟩:=s;refine⟨rfl,_,by simp[D0 ae j _ _ _ f i];rfl,A1 o ?_⟩;rw[jK,l]);cases d
 cases d
def QH(i:co E)(R:Rel E B ax w0 st G S w tmps){t:Tr} {x d:ah} {f au:Tq}(p:aF st.tk G S w x f)(l:aF st.tk G S w d au):c7 E B ax w0 (xb E t x d st) G S w st.tk tmps (do pure (.value (<-Instr.index t f au))):=c7.same R λ z c o=>by unfold xb at c;split at c;(next k n s j m=>cases Fq l j;have ae:=(i.dp t).k;rw[m]at ae;cases c;cases p;obtain⟨g,y⟩:=o;have a:n.toNat<s.size:=ac;refine⟨rfl,.int .u8 (s[n.toNat]'a).toNat,?_,?_⟩;(·simp[Instr.index,asIntOf,run_underlying ae,g,getElem?_pos,a]);(have:s.data.toList.getD n.toNat 0=s[n.toNat]'a:=by rw[cl,aQ (by simpa using a)];rfl);show aq S w (.int .u8 ((s.data.toList.getD n.toNat 0).toNat:Nat)) _;rw[this];exact aq.int _ _);cases c
def aq.sub{m:Nat} {xs:am} {a:Tt Tv} {cap l h:Nat}(p:aq S w (.aa m xs) (.slice a xs.length cap))(L:l<=h)(K:h<=xs.length):aq S w (.aa m ((xs.take h).drop l)) (.slice (if cap=l then a else a.map (·.add (l*m))) (h-l) (cap-l)):=by obtain⟨H,n,I,g,he,B,J,M,E,C,G⟩:=aq.mm p;injection he with t o y;subst t;subst y;have s:((xs.take h).drop l).length=h-l:=c0;(have j:∀(d:Nat)(x:af),((xs.take h).drop l)[d]?=some x->xs[l+d]?=some x:=by intro d x f;rw[fs,c9]at f;split at f;(·exact f);cases f);have:=aq.aa (S:=S) (w:=w) m ((xs.take h).drop l) (if cap=l then a else a.map (·.add (l*m))) (if cap=l then n else n.add (l*m)) (cap-l) (λ d i=>g (l+d) i) (λ F=>by (have f:xs≠[]:=by intro e;subst e;simp at F);rw[B f];split<;>rfl) (by rw[s];omega) ac (λ d x f=>E (l+d) x (j d x f)) (λ d x i c f k=>by (have D:¬cap=l:=by intro e;have:l+d<xs.length:=(aD.1 (j d x f)).1;omega);rw[if_neg D,Addr.tq];have:=C (l+d) x i c (j d x f) k;rw[show l*m+(d*m+i)=(l+d)*m+i by rw[kG];omega];exact this) (λ d x i c f k=>G (l+d) x i c (j d x f) k) (λ z=>by have o:=aq.Da p z;subst o;exact Nat.zero_sub _);rw[s]at this;exact this
def nC(tk:bo)(G:bR)(S:bA)(w:Ts):Tt ah->Tt Tq->Prop|none,none=>True|some s,some v=>aF tk G S w s v|_,_=>False
def uK{tk:bo} {o:Tt ah} {a:Tt Tq} {d n:Int}(h:qe o d=some n)(c:nC tk G S w o a):(o=none/\a=none/\n=d)\/∃k,a=some (.int k n):=by
 unfold qe at h;split at h;·cases h;cases a with|none=>exact .inl ⟨rfl,rfl,rfl⟩ |some v=>exact c.elim
 ·cases h;cases a with|none=>exact c.elim|some v=>cases c;exact .inr ⟨_,rfl⟩
 cases h
def sq{k:IntKind} {n:Int} {y:Nat} {c:BoundsCode}(a:0<=n)(d:n<=y):(Instr.sliceBound (.int k n) y c).run E.P w=.ok n.toNat w:=by simp[Instr.sliceBound,asIntOf,a,d]
def D2{isSlice:Bool} {len cap:Nat} {lo a:Tt Tq} {l h:Int}(g:(lo=none/\l=0)\/∃k,lo=some (.int k l))(f:(a=none/\h=len)\/∃k,a=some (.int k h))(c:0<=l)(j:l<=h)(d:h<=(cap:Int)):(Instr.sliceBounds isSlice len cap lo a none).run E.P w=.ok (l.toNat,h.toNat,cap) w:=by
 have i:l<=((h.toNat:Nat):Int):=ac;rcases g with⟨rfl,rfl⟩ | ⟨k,rfl⟩<;>rcases f with⟨rfl,rfl⟩ | ⟨m,rfl⟩;·simp[Instr.sliceBounds]
 ·simp[Instr.sliceBounds,sq (by omega:0<=h) d]
 ·simp[Instr.sliceBounds,sq c (by omega:l<=((len:Nat):Int))]
 simp[Instr.sliceBounds,sq (by omega:0<=h) d,sq c i]
def Aw{isSlice:Bool} {len cap:Nat} {lo a:Tt Tq} {l h:Int}(g:(lo=none/\l=0)\/∃k,lo=some (.int k l))(f:(a=none/\h=len)\/∃k,a=some (.int k h))(c:0<=l)(d:l<=h)(i:h<=len)(j:len<=cap):(Instr.sliceBounds isSlice len cap lo a none).run E.P w=.ok (l.toNat,h.toNat,cap) w:=D2 g f c d ac
def QI(K:co E)(R:Rel E B ax w0 st G S w tmps){t:Tr} {x:ah} {W:Tq} {lo j U:Tt ah} {i f V:Tt Tq}(T:aF st.tk G S w x W)(M:nC st.tk G S w lo i)(L:nC st.tk G S w j f)(O:U=none->V=none):c7 E B ax w0 (sL E t x lo j U st) G S w st.tk tmps (do pure (.value (<-Instr.sliceAt t W i f V))):=c7.same R λ av c Q=>by
 unfold sL at c;have ae:=(K.dp t).k;split at c;next e J=>rw[J]at ae;obtain rfl:=O rfl;split at c;(next m xs aa=>split at c;(next N=>split at c;(next d h I H=>cases c;obtain⟨p,y,C⟩:=Q;have D:=aF.elems T aa;obtain⟨a,al,cap,g,rfl,am,Z,af,ao,an,ap⟩:=aq.mm D;(have n:(i=none/\d=0)\/∃k,i=some (.int k d):=by rcases uK I M with⟨_,a,b⟩ |h;(·exact .inl ⟨a,b⟩);exact .inr h);(have o:(f=none/\h=xs.length)\/∃k,f=some (.int k h):=by rcases uK H L with⟨_,a,b⟩ |h;(·exact .inl ⟨a,b⟩);exact .inr h);have F:=Aw (E:=E) (w:=w) (isSlice:=true) n o p y C Z;have ai:=aq.sub (l:=d.toNat) (h:=h.toNat) D ac ac;obtain⟨au,z,u,j,aj,_⟩:=(K.dp e).info (.inl N.2);refine⟨rfl,_,by simp[Instr.sliceAt,Instr.slice,run_underlying ae,F,iM j];rfl,?_⟩;rcases N.1 with ag|ak;(·rw[aj,<-ag];exact ai);(have ar:xs.length=0:=by rw[ak];rfl);have ad:d=0:=ac;have ab:h=0:=ac;rw[ad,ab];exact aq.ow m _ _ (by simpa using af) (λ h=>by have X:=aq.Da D h;subst X;rfl));cases c);cases c);cases c
 next J=>rw[J]at ae;obtain rfl:=O rfl;split at c;(next s=>split at c;(next d h I H=>cases c;cases T;obtain⟨p,y,C⟩:=Q;(have n:(i=none/\d=0)\/∃k,i=some (.int k d):=by rcases uK I M with⟨_,a,b⟩ |h;(·exact .inl ⟨a,b⟩);exact .inr h);(have o:(f=none/\h=s.size)\/∃k,f=some (.int k h):=by rcases uK H L with⟨_,a,b⟩ |h;(·exact .inl ⟨a,b⟩);exact .inr h);have F:=Aw (E:=E) (w:=w) (isSlice:=false) n o p y C (a8 _);exact⟨rfl,_,by simp[Instr.sliceAt,Instr.slice,run_underlying ae,F],aq.str _⟩);cases c);cases c
 cases c
def uL{tk:bo} {o:Tt ah} {v:Tt Tq}(h:nC tk G S w o v)(a:o=none):v=none:=by subst a;cases v with|none=>rfl|some v=>exact h.elim
def y9{tk:bo} {o:Tt ah} {v:Tt Tq} {k:IntKind} {n:Int}(h:nC tk G S w o v)(a:o=some (.val (.int k n))):v=some (.int k n):=by subst a;cases v with|none=>exact h.elim|some v=>have h:aq S w (.int k n) v:=h;cases h;rfl
def MT(C:co E)(R:Rel E B ax w0 st G S w tmps){t:Tr} {id off m len cap:Nat} {L:Tq} {lo i J:Tt ah} {y g K:Tt Tq}(ab:aF st.tk G S w (.row id off m len cap) L)(H:nC st.tk G S w lo y)(F:nC st.tk G S w i g)(U:nC st.tk G S w J K):c7 E B ax w0 (uE E t id off m len cap lo i J st) G S w st.tk tmps (do pure (.value (<-Instr.sliceAt t L y g K))):=c7.same R λ aj d I=>by unfold uE at d;have ae:=(C.dp t).k;split at d;(next e W=>rw[W]at ae;obtain rfl:=uL U rfl;split at d;(next x=>obtain⟨ag,z,u,i,aa,_⟩:=(C.dp e).info (.inl (by rw[<-x.1];exact x.2));obtain⟨b,D,rfl,T,Q⟩:=ab;split at d;(next h s=>cases d;obtain⟨_,o,j⟩:=I;obtain rfl:=uL H rfl;(have n:(g=none/\h=len)\/∃k,g=some (.int k h):=by rcases uK s F with⟨_,a,b⟩ |h;(·exact .inl ⟨a,b⟩);exact .inr h);(have O:h<=(cap:Int):=by revert j;split<;>intro j<;>omega);have p:=D2 (E:=E) (w:=w) (isSlice:=true) (lo:=none) (l:=0) (.inl ⟨rfl,rfl⟩) n (bk _) o O;refine⟨rfl,.slice (some ⟨b,off,none⟩) h.toNat cap,?_,b,D,rfl,ac,Q⟩;(have ad:∀(c:Prop) [Decidable c](k:Nat),(if c then some (⟨b,off,none⟩:Tv)else some ((⟨b,off,none⟩:Tv).add (0*k)))=some ⟨b,off,none⟩:=by intro c _ k;split;(·rfl);rw[q4];rfl);simp only[Instr.sliceAt,Instr.slice,Sem.run_bind,run_underlying ae,Result.andThen_ok,p,iM i,Sem.run_pure,du,Int.toNat_zero,ad,Nat.sub_zero]);(next ai f h s=>cases d;obtain⟨⟨o,j,N⟩,_,af⟩:=I;have M:=y9 H rfl;(have n:(g=none/\h=len)\/∃k,g=some (.int k h):=by rcases uK s F with⟨_,a,b⟩ |h;(·exact .inl ⟨a,b⟩);exact .inr h);have p:=Aw (E:=E) (w:=w) (isSlice:=true) (lo:=y) (l:=f) (.inr ⟨_,M⟩) n o j N T;refine⟨rfl,.slice (some ⟨b,off+f.toNat*m,none⟩) (h-f).toNat ((cap:Int)-f).toNat,?_,b,D,rfl,ac,ac⟩;have V:¬cap=f.toNat:=ac;have X:h.toNat-f.toNat=(h-f).toNat:=ac;have Z:cap-f.toNat=((cap:Int)-f).toNat:=ac;simp only[Instr.sliceAt,Instr.slice,Sem.run_bind,run_underlying ae,Result.andThen_ok,p,iM i,Sem.run_pure,du,V,if_false,aa,<-x.1,jK,X,Z]);cases d);cases d);cases d
def MU(y:co E)(R:Rel E B ax w0 st G S w tmps){t:Tr} {id off:Nat} {H:Tq} {lo j D:Tt ah} {F l o:Tt Tq}(O:aF st.tk G S w (.box id off) H)(K:nC st.tk G S w lo F)(s:nC st.tk G S w j l)(x:nC st.tk G S w D o):c7 E B ax w0 (sx E t id off lo j D st) G S w st.tk tmps (do pure (.value (<-Instr.sliceAt t H F l o))):=c7.same R λ W a C=>by unfold sx at a;have ae:=(y.dp t).k;split at a;(next n e N=>rw[N]at ae;split at a;(next J=>obtain⟨b,I,rfl⟩:=O;obtain rfl:=uL K rfl;obtain⟨U,z,u,j,T,_⟩:=(y.dp e).info (.inl J.1);(have fin:∀(h m:Int),0<=h->h<=m->m<=n->(Instr.sliceBounds false n n none l o).run E.P w=.ok (0,h.toNat,m.toNat) w-> ∃v,(do pure (Next.value (<-Instr.sliceAt t (.pointer (some ⟨b,off,none⟩)) none l o)):Sem Next).run E.P w=.ok (.value v) w/\aF st.tk G S w (.fa id off h.toNat) v:=by intro h m d i p M;refine⟨.slice (some ⟨b,off,none⟩) h.toNat m.toNat,?_,b,m.toNat,I,rfl,ac,by simp only[maxLen];omega⟩;(have Q:∀(c:Prop) [Decidable c](k:Nat),(if c then(⟨b,off,none⟩:Tv)else(⟨b,off,none⟩:Tv).add (0*k))=⟨b,off,none⟩:=by intro c _ k;split;(·rfl);rw[q4];rfl);simp only[Instr.sliceAt,Sem.run_bind,run_underlying ae,Result.andThen_ok,Instr.sureAddr,Sem.run_pure,M,iM j,Q,Nat.sub_zero]);split at a;(·cases a;obtain⟨d,i,p⟩:=C;rename_i k h V m;have f:=y9 s rfl;have g:=y9 x rfl;subst f;subst g;refine⟨rfl,fin h m d i p ?_⟩;have L:h<=((m.toNat:Nat):Int):=ac;simp[Instr.sliceBounds,sq (by omega:0<=m) p,sq d L]);(·cases a;obtain⟨d,i⟩:=C;rename_i k h;have f:=y9 s rfl;have g:=uL x rfl;subst f;subst g;refine⟨rfl,fin h n d i (bk _) ?_⟩;simp[Instr.sliceBounds,sq d i]);(·cases a;have f:=uL s rfl;have g:=uL x rfl;subst f;subst g;have:=fin n n ac (bk _) (bk _) (by simp[Instr.sliceBounds]);exact⟨rfl,by simpa using this⟩);cases a);cases a);cases a
end
section
variable{E:Env} {B:Nat} {ax:Tv->Prop} {w0:Ts} {st:ai} {G:bR} {S:Tv->Prop} {w:Ts} {tmps:Tu Tq}
def lj{n:Int}(h:dx n):IntKind.i64.wrap n=n:=by unfold dx at h;rw[IntKind.wrap_i64];omega
def wl(op:BinOp)(t:Tr)(x y:Operand)(k c:IntKind)(a b:Int):(eqGuard op t x y (.int k a) (.int c b)).run E.P w=.ok () w:=by unfold eqGuard;cases op<;>simp
def EG(op:BinOp)(t:Tr)(x y:Operand)(a b:Bool):(eqGuard op t x y (.bool a) (.bool b)).run E.P w=.ok () w:=by unfold eqGuard;cases op<;>simp
def EU(op:BinOp)(t:Tr)(x y:Operand)(a b:Tw):(eqGuard op t x y (.string a) (.string b)).run E.P w=.ok () w:=by unfold eqGuard;cases op<;>simp
def MV{op:BinOp} {a b:Int} {s:Prop} {p:af}(h:wZ op a b=some (s,p))(c:s)(t:Tr): ∃v,(binOp op t (.int .i64 a) (.int .i64 b)).run E.P w=.ok v w/\aq S w p v:=by
 cases op<;>simp only[wZ,cg,jw,reduceCtorEq]at h<;>obtain⟨rfl,rfl⟩:=h;·exact⟨_,by simp[binOp,Op.intArith,lj c],aq.int _ _⟩
 ·exact⟨_,by simp[binOp,Op.intArith,lj c],aq.int _ _⟩
 ·exact⟨_,by simp[binOp,Op.intArith,lj c],aq.int _ _⟩
 ·exact⟨_,by simp[binOp,Op.intDiv,c.1,lj c.2],aq.int _ _⟩
 ·exact⟨_,by have d:¬b=0:=c;simp[binOp,Op.intDiv,d],aq.int _ _⟩
 ·refine⟨.bool (a==b),by simp[binOp,Op.intCmp],?_⟩;(have:(a==b)=decide (a=b):=by rw[fE];simp);rw[this];exact aq.bool _
 ·refine⟨.bool (a !=b),by simp[binOp,Op.intCmp],?_⟩;(have:(a !=b)=decide (a≠b):=by rw[fE];simp);rw[this];exact aq.bool _
 ·exact⟨_,by simp[binOp,Op.intCmp],aq.bool _⟩
 ·exact⟨_,by simp[binOp,Op.intCmp],aq.bool _⟩
 ·exact⟨_,by simp[binOp,Op.intCmp],aq.bool _⟩
 exact⟨_,by simp[binOp,Op.intCmp],aq.bool _⟩
def Eo{op:BinOp} {k:IntKind} {a b:Int} {s:Prop} {p:af}(h:uF op k a b=some (s,p))(c:s)(t:Tr): ∃v,(binOp op t (.int k a) (.int k b)).run E.P w=.ok v w/\aq S w p v:=by
 cases op<;>simp only[uF,cg,jw,reduceCtorEq]at h<;>obtain⟨rfl,rfl⟩:=h;·exact⟨_,by simp[binOp,Op.intArith],aq.int _ _⟩
 ·exact⟨_,by simp[binOp,Op.intArith],aq.int _ _⟩
 ·exact⟨_,by have d:¬b=0:=c;simp[binOp,Op.intDiv,d],aq.int _ _⟩
 ·exact⟨.int k _,by simp only[binOp,Op.intBits];simp only[ne_eq,not_true_eq_false,↓reduceIte,Sem.run_pure],aq.int _ _⟩
 ·exact⟨.int k _,by simp only[binOp,Op.intBits];simp only[ne_eq,not_true_eq_false,↓reduceIte,Sem.run_pure],aq.int _ _⟩
 ·refine⟨.bool (a==b),by simp[binOp,Op.intCmp],?_⟩;(have:(a==b)=decide (a=b):=by rw[fE];simp);rw[this];exact aq.bool _
 ·refine⟨.bool (a !=b),by simp[binOp,Op.intCmp],?_⟩;(have:(a !=b)=decide (a≠b):=by rw[fE];simp);rw[this];exact aq.bool _
 ·exact⟨_,by simp[binOp,Op.intCmp],aq.bool _⟩
 ·exact⟨_,by simp[binOp,Op.intCmp],aq.bool _⟩
 ·exact⟨_,by simp[binOp,Op.intCmp],aq.bool _⟩
 exact⟨_,by simp[binOp,Op.intCmp],aq.bool _⟩
def aq.nK{k:IntKind} {n:Int} {v:Tq}(h:aq S w (.int k n) v):v=.int k n:=by cases h;rfl
def aq.tr{b:Bool} {v:Tq}(h:aq S w (.bool b) v):v=.bool b:=by cases h;rfl
def aq.Ai{s:Tw} {v:Tq}(h:aq S w (.str s) v):v=.string s:=by cases h;rfl
def xf(a b:Tw):(a.toList==b.toList)=decide (a=b):=by rw[ByteArray.toList_eq,ByteArray.toList_eq,fE];obtain⟨⟨x⟩⟩:=a;obtain⟨⟨y⟩⟩:=b;simp
def Az:∀{ks:Tp fm} {xs c:am} {r:Bool},eP ks xs c=some r->xs.length=ks.length/\c.length=ks.length| [],[],[],_,_=>⟨rfl,rfl⟩ |k::ks,x::xs,y::c,r,h=>by simp only[eP]at h;split at h;(next a b _ g=>obtain⟨d,f⟩:=Az g;simp[d,f]);cases h| [],[],_::_,_,h| [],_::_,_,_,h|_::_,[],_,_,h|_::_,_::_,[],_,h=>by simp[eP]at h
def AA:∀{ks ls:Tp fm} {xs f:am} {r:Bool},eP (ks++ls) xs f=some r-> ∃a b,eP ks (xs.take ks.length) (f.take ks.length)=some a/\eP ls (xs.drop ks.length) (f.drop ks.length)=some b/\r=(a&&b) | [],ls,xs,f,r,h=>⟨true,r,by simp[eP],by simpa using h,al⟩ |k::ks,ls,x::xs,y::f,r,h=>by simp only[nc,eP]at h;split at h;(next a b l m=>cases h;obtain⟨c,d,g,i,j⟩:=AA m;exact⟨a&&c,d,by simp[eP,l,g],by simpa using i,by rw[j,Bool.and_assoc]⟩);cases h|k::ks,ls,[],f,r,h=>by simp[eP]at h|k::ks,ls,x::xs,[],r,h=>by simp[eP]at h
def kl(P:Program)(t:Tr)(vs:Tp Tq):Tq:=match P.underlying t with|some (.struct _)=>.agg vs.toArray|some (.array _ _)=>.agg vs.toArray|_=>vs.getD 0 undef
def bh.take{cs:am} {vs:Tp Tq}(h:bh S w cs vs)(n:Nat):bh S w (cs.take n) (vs.take n):=by simpa using bh.drop_take h 0 n
def bh.drop{cs:am} {vs:Tp Tq}(h:bh S w cs vs)(n:Nat):bh S w (cs.drop n) (vs.drop n):=⟨by simp[h.1],λ d p v a c=>by rw[fs]at a c;exact h.2 _ p v a c⟩
def bh.r9{p:af} {vs:Tp Tq}(h:bh S w [p] vs):∃v,vs=[v]/\aq S w p v:=by match vs,h with| [v],h=>exact⟨v,rfl,h.2 0 p v rfl rfl⟩ | [],h=>exact absurd h.1 al|_::_::_,h=>exact absurd h.1 al
def yu{P:Program} {t:Tr} {u:TypeDesc}(h:P.underlying t=some u):∃a,P.info? t=some a:=by unfold Program.underlying at h;cases c:P.info? t with|some a=>exact⟨a,rfl⟩ |none=>rw[c]at h;cases h
def wh{P:Program} {t:Tr} {a:Tu Field}(h:P.underlying t=some (.struct a))(vs:Tp Tq):kl P t vs=.agg vs.toArray:=by simp only[kl,h]
def pN{P:Program} {t:Tr} {u:TypeDesc}(h:P.underlying t=some u)(a:jh u=true)(vs:Tp Tq):kl P t vs=.agg vs.toArray:=by simp only[kl,h];cases u<;>simp_all[jh]
def oS{P:Program} {t:Tr} {u:TypeDesc}(h:P.underlying t=some u)(a:jh u=false)(vs:Tp Tq):kl P t vs=vs.getD 0 undef:=by simp only[kl,h];cases u<;>simp_all[jh]
def uS{t:Tr} {ks:Tp fm}(ae:∃d,iZ E.P d t=some ks)(l:ks.length=E.P.cellsOf t)(vs:Tp Tq)(off:Nat)(h:off+ks.length<=vs.length):(part t vs.toArray off).run E.P w=.ok (kl E.P t ((vs.drop off).take ks.length)) w:=by obtain⟨d,a⟩:=ae;cases d with|zero=>cases a|succ d=>(have f:∀u:TypeDesc,E.P.underlying t=some u->jh u=false->ks.length=1->(part t vs.toArray off).run E.P w=.ok (kl E.P t ((vs.drop off).take ks.length)) w:=by intro u hu j m;have k:off<vs.length:=ac;rw[oS hu j,m];(have e:((vs.drop off).take 1).getD 0 undef=vs[off]:=by rw[hV k];rfl);rw[e];simp[part,wE hu,j,k]);simp only[iZ]at a;split at a;(next hu=>cases a;exact f _ hu rfl rfl);(next hu=>cases a;exact f _ hu rfl rfl);(next hu=>cases a;exact f _ hu rfl rfl);(next e hu=>split at a;(·cases a);cases a;exact f _ hu rfl rfl);(next o hu=>obtain⟨i,c⟩:=yu hu;(have g:i.size=ks.length:=by rw[l];simp[Program.cellsOf,c]);rw[wh hu];simp[part,wE hu,jh,iM c,g];try(apply Array.ext';simp[List.take_drop,ld]));(next n e hu=>obtain⟨i,c⟩:=yu hu;(have g:i.size=ks.length:=by rw[l];simp[Program.cellsOf,c]);rw[pN hu rfl];simp[part,wE hu,jh,iM c,g];try(apply Array.ext';simp[List.take_drop,ld]));cases a
def EV(d:Nat){e:Tr} {c:Tp fm}(ae:∃n,iZ E.P n e=some c)(k:c.length=E.P.cellsOf e)(y:0<c.length)(p:∀(xs f:am)(vs us:Tp Tq)(r:Bool),bh S w xs vs->bh S w f us->eP c xs f=some r->(Op.equalIn d e (kl E.P e vs) (kl E.P e us)).run E.P w=.ok r w): ∀(n o:Nat)(xs f:am)(vs us:Tp Tq)(r:Bool),bh S w xs vs->bh S w f us->eP (List.replicate n c).flatten (xs.drop (o*c.length)) (f.drop (o*c.length))=some r->(Op.eqItems d e c.length vs.toArray us.toArray ((List.range' o n))).run E.P w=.ok r w|0,o,xs,f,vs,us,r,g,i,he=>(by have j:eP [] (xs.drop (o*c.length)) (f.drop (o*c.length))=some r:=he;generalize xs.drop (o*c.length)=a at j;generalize f.drop (o*c.length)=b at j;match a,b,j with| [],[],he=>simp[eP]at he;subst he;simp[Op.eqItems] |_::_,_,he=>simp[eP]at he| [],_::_,he=>simp[eP]at he)|n+1,o,xs,f,vs,us,r,g,i,he=>by rw[m8,uu]at he;obtain⟨a,b,l,x,rfl⟩:=AA he;have m:=Az l;(have z:c.length<=(xs.drop (o*c.length)).length:=by have:=m.1;simp at this⊢;omega);(have B:c.length<=(f.drop (o*c.length)).length:=by have:=m.2;simp at this⊢;omega);(have D:c.length=0\/o*c.length+c.length<=vs.length:=by rw[<-g.1];simp at z;omega);(have C:c.length=0\/o*c.length+c.length<=us.length:=by rw[<-i.1];simp at B;omega);have t:=p _ _ _ _ a ((g.drop (o*c.length)).take c.length) ((i.drop (o*c.length)).take c.length) l;have s:=EV d ae k y p n (o+1) xs f vs us b g i (by rw[kG,Nat.one_mul,<-sp,<-sp];exact x);rw[List.range'_succ];simp only[Op.eqItems,Sem.run_bind,uS ae k vs (o*c.length) ac,uS ae k us (o*c.length) ac,Result.andThen_ok,t,s];cases a<;>simp[s]
def EH(d:Nat)(F:Tr->Tt (Tp fm))(m:∀t ks,F t=some ks->∃n,iZ E.P n t=some ks)(z:∀(t:Tr)(ks:Tp fm)(xs i:am)(vs us:Tp Tq)(r:Bool),F t=some ks->bh S w xs vs->bh S w i us->eP ks xs i=some r->(Op.equalIn d t (kl E.P t vs) (kl E.P t us)).run E.P w=.ok r w): ∀(j:Tp Field)(off:Nat)(ks:Tp fm)(xs i:am)(vs us:Tp Tq)(r:Bool),pR E.P F off j=some ks->bh S w xs vs->bh S w i us->eP ks (xs.drop off) (i.drop off)=some r->(Op.eqFields d vs.toArray us.toArray j).run E.P w=.ok r w| [],off,ks,xs,i,vs,us,r,c,k,l,he=>(by simp only[pR,cg]at c;subst c;generalize xs.drop off=a at he;generalize i.drop off=b at he;match a,b,he with| [],[],he=>simp[eP]at he;subst he;simp[Op.eqFields] |_::_,_,he=>simp[eP]at he| [],_::_,he=>simp[eP]at he)|f::j,off,ks,xs,i,vs,us,r,c,k,l,he=>by simp only[pR]at c;split at c;(next B=>split at c;(·cases c);rename_i g o;split at c;(next p=>cases s:pR E.P F (off+g.length) j with|none=>simp[s]at c|some L=>simp[s]at c;subst c;obtain⟨a,b,x,D,rfl⟩:=AA he;have y:=Az x;(have I:g.length<=(xs.drop off).length:=by have:=y.1;simp at this⊢;omega);(have J:g.length<=(i.drop off).length:=by have:=y.2;simp at this⊢;omega);have M:0<g.length:=sf.2 p.2;(have H:off+g.length<=vs.length:=by rw[<-k.1];simp at I;omega);(have G:off+g.length<=us.length:=by rw[<-l.1];simp at J;omega);have C:=z f.type g _ _ _ _ a o ((k.drop off).take g.length) ((l.drop off).take g.length) x;have K:=EH d F m z j (off+g.length) L xs i vs us b s k l (by simpa[sp,ld]using D);simp only[Op.eqFields,ne_eq,B.1,not_false_eq_true,↓reduceIte,Sem.run_bind,B.2,uS (m _ _ o) p.1 vs off H,uS (m _ _ o) p.1 us off G,Result.andThen_ok,C,Sem.run_ite,K,Sem.run_pure];cases a<;>simp);cases c);cases c
def sr{k:fm} {xs d:am} {r:Bool}(h:eP [k] xs d=some r):∃x y,xs=[x]/\d=[y]/\ic k x y=some r:=by match xs,d,h with| [x],[y],h=>(simp only[eP]at h;cases c:ic k x y with|none=>simp[c]at h|some a=>simp[c]at h;exact⟨x,y,rfl,rfl,by rw[<-h];exact c⟩) | [],_,h=>simp[eP]at h|x::y::xs,[],h=>simp[eP]at h|x::y::xs,[z],h=>simp[eP]at h|x::y::xs,z::u::f,h=>simp[eP]at h| [x],[],h=>simp[eP]at h| [x],y::z::f,h=>simp[eP]at h
def Ax(d:Nat){t e:Tr}(hu:E.P.underlying t=some (.pointer e))(c:¬E.P.cellsOf e=0){x y:af} {v u:Tq} {r:Bool}(hv:aq S w x v)(k:aq S w y u)(i:ic .ptr x y=some r):(Op.equalIn (d+1) t v u).run E.P w=.ok r w:=by
 obtain⟨f,l,n⟩:∃f,E.P.info? e=some f/\f.size≠0:=by unfold Program.cellsOf at c;cases m:E.P.info? e with|none=>rw[m]at c;exact absurd rfl c|some f=>rw[m]at c;exact⟨f,rfl,c⟩
 cases x<;>cases y<;>simp only[ic,reduceCtorEq,cg]at i;·subst i;cases hv;cases k;simp[Op.equalIn,run_underlying hu]
 next a B b C=>subst i;cases hv with|bI _ _ g H o _ _=>cases k with|bI _ _ G I p _ _=>by_cases j:a=b;(·subst j;simp[Op.equalIn,run_underlying hu,iM l,n,run_sameAddr_same]);obtain⟨D,t1,s⟩:=o;obtain⟨F,t2,z⟩:=p;simp[Op.equalIn,run_underlying hu,iM l,n,run_sameAddr_other w j s z,j]
 all_goals subst i;cases hv;cases k;simp[Op.equalIn,run_underlying hu]
def wg:∀(n d:Nat),n<=d->∀(t:Tr)(ks:Tp fm)(xs g:am)(vs us:Tp Tq)(r:Bool),iZ E.P n t=some ks->bh S w xs vs->bh S w g us->eP ks xs g=some r->(Op.equalIn d t (kl E.P t vs) (kl E.P t us)).run E.P w=.ok r w|0,_,_,_,_,_,_,_,_,_,h,_,_,_=>by cases h|n+1,0,F,_,_,_,_,_,_,_,_,_,_,_=>by omega|n+1,d+1,F,t,ks,xs,g,vs,us,r,h,k,l,he=>by simp only[iZ]at h;split at h;(next hu=>cases h;obtain⟨x,y,rfl,rfl,c⟩:=sr he;obtain⟨v,rfl,i⟩:=bh.r9 k;obtain⟨u,rfl,f⟩:=bh.r9 l;rw[oS hu rfl,oS hu rfl];cases x<;>cases y<;>simp only[ic,reduceCtorEq,cg]at c;cases i;cases f;rename_i a b;simp[Op.equalIn,run_underlying hu,List.getD,<-c];rw[fE];simp);(next hu=>cases h;obtain⟨x,y,rfl,rfl,c⟩:=sr he;obtain⟨v,rfl,i⟩:=bh.r9 k;obtain⟨u,rfl,f⟩:=bh.r9 l;rw[oS hu rfl,oS hu rfl];cases x<;>cases y<;>simp only[ic,reduceCtorEq,Option.ite_none_right_eq_some,cg]at c;cases i;cases f;obtain⟨rfl,c⟩:=c;simp[Op.equalIn,run_underlying hu,List.getD,<-c];rw[fE];simp);(next hu=>cases h;obtain⟨x,y,rfl,rfl,c⟩:=sr he;obtain⟨v,rfl,i⟩:=bh.r9 k;obtain⟨u,rfl,f⟩:=bh.r9 l;rw[oS hu rfl,oS hu rfl];cases x<;>cases y<;>simp only[ic,reduceCtorEq,cg]at c;cases i;cases f;rename_i a b;simp[Op.equalIn,run_underlying hu,List.getD,<-c];rw[<-xf,beq_toListBytes]);(next e hu=>split at h;(·cases h);rename_i I;cases h;obtain⟨x,y,rfl,rfl,c⟩:=sr he;obtain⟨v,rfl,i⟩:=bh.r9 k;obtain⟨u,rfl,f⟩:=bh.r9 l;rw[oS hu rfl,oS hu rfl];exact Ax d hu I i f c);(next B hu=>split at h;(·cases h);rename_i J;(have C:E.P.fieldsOf t=B:=by simp[Program.fieldsOf,hu]);rw[wh hu,wh hu,run_equalIn_struct w d t vs.toArray us.toArray (by rw[C];exact hu) (by simpa using J),C];exact EH d (iZ E.P n) (λ t ks h=>⟨n,h⟩) (λ t ks xs g vs us r D o p s=>wg n d ac t ks xs g vs us r D o p s) B.toList 0 ks xs g vs us r h k l (by simpa using he));(next m e hu=>split at h;(·cases h);rename_i K j;split at h;(next z=>cases h;(obtain⟨u,f⟩:∃u,E.P.underlying e=some u:=by cases n with|zero=>cases j|succ n=>simp only[iZ]at j;cases H:E.P.underlying e with|none=>rw[H]at j;cases j|some u=>exact⟨u,rfl⟩);obtain⟨L,G⟩:=yu f;rw[pN hu rfl,pN hu rfl,run_equalIn_array w d vs.toArray us.toArray hu G,<-z.2.1,List.range_eq_range'];exact EV d ⟨n,j⟩ z.2.1 (sf.2 z.2.2) (λ xs g vs us r o p s=>wg n d ac e K xs g vs us r j o p s) m 0 xs g vs us r k l (by simpa using he));cases h);cases h
def D8{op:BinOp} {t:Tr}(x y:Operand)(vs us:Tu Tq)(h:E.P.eqGuardType E.P.depth t=false):(eqGuard op t x y (.agg vs) (.agg us)).run E.P w=.ok () w:=by unfold eqGuard;cases op<;>simp[h]
def D3(d:Nat){t:Tr}(hu:E.P.underlying t=some .bool)(a b:Bool):(Op.equalIn (d+1) t (.bool a) (.bool b)).run E.P w=.ok (a==b) w:=by simp[Op.equalIn,run_underlying hu]
def EW(op:BinOp)(t:Tr)(jr a:Operand){x y:af} {v u:Tq} {r:Bool}(hv:aq S w x v)(hu:aq S w y u)(h:ic .ptr x y=some r):(eqGuard op t jr a v u).run E.P w=.ok () w:=by cases x<;>cases y<;>simp only[ic,reduceCtorEq]at h<;>cases hv<;>cases hu<;>unfold eqGuard<;>cases op<;>simp
def Hj{x y:af} {v u:Tq} {r:Bool}(hv:aq S w x v)(hu:aq S w y u)(h:ic .ptr x y=some r):∃p q,v=.pointer p/\u=.pointer q:=by cases x<;>cases y<;>simp only[ic,reduceCtorEq]at h<;>cases hv<;>cases hu<;>exact⟨_,_,rfl,rfl⟩
def rL(o:co E)(R:Rel E B ax w0 st G S w tmps){op:BinOp} {t:Tr} {x y:af} {l m:Tq} {j:a'}(jr i:Operand)(d:aq S w x l)(f:aq S w y m)(a:l2 E op t x y st=some j):j.st=st/\∃v,((do pure (Next.value (<-(do eqGuard op t jr i l m;binOp op t l m)))):Sem Next).run E.P w=.ok (.value v) w/\aF st.tk G S w j.v v:=by have ae:=(o.dp t).k;unfold l2 at a;split at a;(next e he=>rw[he]at ae;split at a;(·cases a);rename_i C;obtain⟨H,z,u,D,F,_⟩:=(o.dp e).info (.inl C);(have s:¬E.P.cellsOf e=0:=by intro n;simp only[Program.cellsOf,D]at n;exact C (by rw[<-F];simpa using n));split at a;(next r c=>cases a;refine⟨rfl,.bool r,?_,aq.bool _⟩;have g:=Ax (E:=E) 9999 ae s d f c;obtain⟨p,q,rfl,rfl⟩:=Hj d f c;simp only[Sem.run_bind,EW _ t jr i d f c,Result.andThen_ok,binOp,Op.equal,Op.maxDepth,g,Sem.run_pure]);(next r c=>cases a;refine⟨rfl,.bool (!r),?_,aq.bool _⟩;have g:=Ax (E:=E) 9999 ae s d f c;obtain⟨p,q,rfl,rfl⟩:=Hj d f c;simp only[Sem.run_bind,EW _ t jr i d f c,Result.andThen_ok,binOp,Op.equal,Op.maxDepth,g,Sem.run_pure]);cases a);cases a
def JE(j:co E)(R:Rel E B ax w0 st G S w tmps){op:BinOp} {t:Tr} {x y:ah} {H I:Tq}(jr i:Operand)(f:aF st.tk G S w x H)(g:aF st.tk G S w y I):c7 E B ax w0 (ta E op t x y st) G S w st.tk tmps (do pure (.value (<-(do eqGuard op t jr i H I;binOp op t H I)))):=c7.same R λ V c o=>by
 unfold ta at c;split at c;next k a U b=>cases aq.nK f;cases aq.nK g;split at c;(·cases c;obtain⟨N,l⟩:=o;refine⟨rfl,.int k (k.wrap (a*2^b.toNat)),?_,aq.int _ _⟩;have D:min b.toNat k.bits=b.toNat:=ac;simp[wl,binOp,Op.shift,show¬b<0 by omega,D]);(·cases c;obtain⟨N,l⟩:=o;refine⟨rfl,.int k (a.fdiv (2^b.toNat)),?_,aq.int _ _⟩;have D:min b.toNat k.bits=b.toNat:=ac;simp[wl,binOp,Op.shift,show¬b<0 by omega,D]);split at c;(next O=>subst O;split at c;(next s p z=>cases c;split at z;(·obtain⟨v,l,m⟩:=Eo (E:=E) (w:=w) (S:=S) z o t;exact⟨rfl,v,by simp[wl,l],m⟩);split at z;(next ae=>subst ae;obtain⟨v,l,m⟩:=MV (E:=E) (w:=w) (S:=S) z o t;exact⟨rfl,v,by simp[wl,l],m⟩);obtain⟨v,l,m⟩:=Eo (E:=E) (w:=w) (S:=S) z o t;exact⟨rfl,v,by simp[wl,l],m⟩);cases c);cases c
 next a b=>cases aq.tr f;cases aq.tr g;have ae:=(j.dp t).k;split at c;(next F=>rw[F]at ae;cases c;refine⟨rfl,.bool (a==b),by simp only[Sem.run_bind,EG,binOp,Op.equal,Op.maxDepth,D3 9999 ae,Result.andThen_ok,Sem.run_pure],?_⟩;(have:(a==b)=decide (a=b):=by rw[fE];simp);rw[this];exact aq.bool _);(next F=>rw[F]at ae;cases c;refine⟨rfl,.bool (!(a==b)),by simp only[Sem.run_bind,EG,binOp,Op.equal,Op.maxDepth,D3 9999 ae,Result.andThen_ok,Sem.run_pure],?_⟩;(have:(!(a==b))=decide (a≠b):=by rw[fE];simp);rw[this];exact aq.bool _);cases c
 next a b=>cases aq.Ai f;cases aq.Ai g;split at c;(·cases c;refine⟨rfl,.bool (a.toList==b.toList),by simp[EU,binOp,Op.stringOp],?_⟩;rw[xf];exact aq.bool _);(·cases c;refine⟨rfl,.bool (!(a.toList==b.toList)),by simp[EU,binOp,Op.stringOp],?_⟩;rw[xf,<-decide_not];exact aq.bool _);cases c
 ·exact rL j R jr i f g c
 ·exact rL j R jr i f g c
 ·exact rL j R jr i f g c
 ·exact rL j R jr i f g c
 ·exact rL j R jr i f g c
 ·exact rL j R jr i f g c
 ·exact rL j R jr i f g c
 ·exact rL j R jr i f g c
 next a b=>obtain⟨vs,rfl,M⟩:=aq.qy f;obtain⟨us,rfl,L⟩:=aq.qy g;split at c;(·cases c);rename_i ks Q;obtain⟨d,T,J,K,u,hu,C⟩:=(j.dp t).eq ks Q;split at c;(next r he=>cases c;have n:=wg (E:=E) (w:=w) (S:=S) d 10000 ac t ks a b vs us r J M L he;rw[pN hu C,pN hu C]at n;refine⟨rfl,.bool r,?_,aq.bool _⟩;simp only[Sem.run_bind,D8 jr i _ _ K,Result.andThen_ok,binOp,Op.equal,Op.maxDepth,n,Sem.run_pure]);(next r he=>cases c;have n:=wg (E:=E) (w:=w) (S:=S) d 10000 ac t ks a b vs us r J M L he;rw[pN hu C,pN hu C]at n;refine⟨rfl,.bool (!r),?_,aq.bool _⟩;simp only[Sem.run_bind,D8 jr i _ _ K,Result.andThen_ok,binOp,Op.equal,Op.maxDepth,n,Sem.run_pure]);cases c
 cases c
def N0(j:co E)(R:Rel E B ax w0 st G S w tmps){s d:Tr} {x:ah} {o:Tq}(l:aF st.tk G S w x o):c7 E B ax w0 (wO E s d x st) G S w st.tk tmps (do pure (.value (<-convert s d o))):=c7.same R λ y a p=>by
 unfold wO at a;have f:=(j.dp s).k;have c:=(j.dp d).k;split at a;next k m t n g i=>rw[g]at f;rw[i]at c;cases aq.nK l;split at a;(next ae=>obtain⟨rfl,rfl,rfl⟩:=ae;cases a;refine⟨rfl,.int .i64 n,?_,aq.int _ _⟩;simp[convert,run_underlying f,run_underlying c,Conv.intToInt,lj (show dx n from p)]);cases a;refine⟨rfl,.int m (m.wrap n),?_,aq.int _ _⟩;simp[convert,run_underlying f,run_underlying c,Conv.intToInt]
 next str g i=>rw[g]at f;rw[i]at c;cases a;cases aq.Ai l;refine⟨rfl,.string str,?_,aq.str _⟩;simp[convert,run_underlying f,run_underlying c]
 cases a
def Rel.cm(R:Rel E B ax w0 st G S w tmps){x:ah} {v:Tq} {es:ce}(c:aF st.tk G S w x v)(he:p5 x st=some es):(v=.map none/\es=[])\/∃(b:Nat)(arr:Tu MapEntry)(clock:Nat)(b7:ce),v=.map (some b)/\w.heap[b]?=some (.map arr clock)/\b7.Perm es/\gY S w b7 arr clock/\ ∀(i:Nat)(p:af×af)(y:MapEntry),b7[i]?=some p->arr[i]?=some y->aq S w p.2 y.val:=by
 unfold p5 at he;split at he;next ks vs=>cases he;cases c with|qI=>exact .inl ⟨rfl,rfl⟩ |map _ _ b7 b arr clock k o n a he l=>exact .inr ⟨b,arr,clock,b7,rfl,a,k,he,l⟩
 next id=>split at he;(next m mk hid=>cases he;obtain⟨b,a,rfl⟩:=c;obtain⟨⟨arr,clock,b7,d,f,g,j,_⟩,_⟩:=R.inv.fj id b _ hid a;exact .inr ⟨b,arr,clock,b7,rfl,d,f,g,j⟩);cases he
 cases he
def JF(l:co E)(R:Rel E B ax w0 st G S w tmps){t:Tr} {x:ah} {j:Tq}(f:aF st.tk G S w x j)(ty:Tr):c7 E B ax w0 (tb E t x st) G S w st.tk tmps (do pure (.value (<-Builtin.len_ #[t] ty #[j]))):=c7.same R λ D c C=>by
 unfold tb at c;have ae:=(l.dp t).k;split at c;next s d=>rw[d]at ae;cases c;cases aq.Ai f;exact⟨rfl,_,by simp[Builtin.len_,run_underlying ae,goInt],aq.int _ _⟩
 next e id off n d=>rw[d]at ae;cases c;obtain⟨b,cap,i,rfl,_⟩:=f;exact⟨rfl,_,by simp[Builtin.len_,run_underlying ae,goInt],aq.int _ _⟩
 next e id off m n cap d=>rw[d]at ae;cases c;obtain⟨b,i,rfl,_⟩:=f;exact⟨rfl,_,by simp[Builtin.len_,run_underlying ae,goInt],aq.int _ _⟩
 next e F d _ _=>rw[d]at ae;split at c;(next m xs p=>cases c;obtain⟨a,z,cap,g,rfl,_⟩:=aq.mm (aF.elems f p);exact⟨rfl,_,by simp[Builtin.len_,run_underlying ae,goInt],aq.int _ _⟩);cases c
 next n e d=>rw[d]at ae;cases c;exact⟨rfl,_,by simp[Builtin.len_,run_underlying ae,goInt],aq.int _ _⟩
 next k e d=>rw[d]at ae;split at c;(next es he=>cases c;rcases R.cm f he with⟨rfl,rfl⟩ | ⟨b,arr,clock,b7,rfl,i,y,o,_⟩;(·exact⟨rfl,_,by simp[Builtin.len_,run_underlying ae,goInt],aq.int _ _⟩);refine⟨rfl,.int .i64 arr.size,by simp[Builtin.len_,run_underlying ae,goInt,MapKept.run_getObj_map i],?_⟩;rw[<-y.length_eq,o.len];exact aq.int _ _);cases c
 cases c
end
section
variable{E:Env} {B:Nat} {ax:Tv->Prop} {w0:Ts} {st:ai} {G:bR} {S:Tv->Prop} {w:Ts} {tmps:Tu Tq}
def xg:Obj->Bool| .map _ _| .mapIter _ _ _ _=>true|_=>false
def hq(w w':Ts)(b:Nat):Prop:=∀a,xg a=true->w.heap[b]?=some a->w'.heap[b]?=some a
def hq.refl(w:Ts)(b:Nat):hq w w b:=λ _ _ h=>h
def hq.of_eq{w w':Ts} {b:Nat}(h:w'.heap[b]?=w.heap[b]?):hq w w' b:=λ _ _ e=>h.trans e
def gW.mono{M G:Tp Nat} {S S':bA} {w w':Ts} {b:Nat} {c:dM}(h:gW E M S w b c)(t:hq w w' b)(J:∀(m j:Nat),M[m]?=some j->G[m]?=some j/\hq w w' j)(s:∀a,S a->S' a)(hw:∀a,S a->di w w' a)(K:∀a,S' a->S a\/a.block≠b\/∀l,xg l=true->w.heap[b]?≠some l):gW E G S' w' b c:=by have y:(∀a,S a->a.block≠b)->(∃l,xg l=true/\w.heap[b]?=some l)->∀a,S' a->a.block≠b:=λ h⟨l,d,f⟩a I=>(K a I).elim (h a) λ g=>g.elim id λ i=>absurd f (i l d);match c,h with| .plain k e n,h=>obtain⟨⟨D,es,clock,d,f⟩,g⟩:=h;exact⟨⟨D,es,clock,t _ rfl d,f⟩,y g ⟨_,rfl,d⟩⟩ | .cm es mk,h=>obtain⟨⟨arr,clock,b7,d,f,g,i,o⟩,B⟩:=h;exact⟨⟨arr,clock,b7,t _ rfl d,f,g.mono s hw,λ C p x z a2=>(i C p x z a2).mono s hw,o⟩,y B ⟨_,rfl,d⟩⟩ | .iter (some m) es left H,h=>obtain⟨⟨j,d,arr,clock,F,seen,last,f,i,o⟩,g⟩:=h;obtain⟨L,N⟩:=J m j d;exact⟨⟨j,L,arr,clock,F,seen,last,N _ rfl f,t _ rfl i,o⟩,y g ⟨_,rfl,i⟩⟩ | .iter none es left H,h=>obtain⟨d,g⟩:=h;rcases d with⟨d,f⟩ | ⟨j,d,f,arr,clock,F,seen,last,o,i,B⟩;(·exact⟨.inl ⟨t _ rfl d,f⟩,y g ⟨_,rfl,d⟩⟩);refine⟨.inr ⟨j,s _ d,?_,arr,clock,F,seen,last,(hw _ d).2.1 _ _ o,t _ rfl i,B⟩,y g ⟨_,rfl,i⟩⟩;obtain⟨arr,clock,b7,O,Q,R,T,U⟩:=f;exact⟨arr,clock,b7,(hw _ d).2.1 _ _ O,Q,R.mono s hw,λ C p x z a2=>(T C p x z a2).mono s hw,U⟩ | .gone,_=>trivial
def Inv.k7{ag:br} {tk:bo} {ao:dE}(d:Inv E B ax ag tk ao G S w){S':bA} {w':Ts}(C:∀a,S a->S' a)(p:∀a,S' a->S a\/(w.heap.size<=a.block/\a.block<w'.heap.size))(D:Below w.heap.size w w'):Inv E B ax ag tk ao G S' w'/\Ext tk G S w tk G S' w':=by
 have l:=D.block;have s:=D.size;have y:Ext tk G S w tk G S' w':=⟨λ _ _ h=>h,λ _ H le o j=>⟨H,le,o,j,.inl ⟨rfl,rfl⟩⟩,C,λ a f=>di.qK (l _ (d.slt a f)),λ _ _ h=>h,D.mono (ho _),λ b i _=>l b i,λ _ _ h=>h,λ a f=>(p a f).imp id λ h=>.inr h.1⟩;have M:∀a,S' a->a.block<w'.heap.size:=λ a f=>by rcases p a f with h|h;(·exact gN (d.slt a h) s);exact h.2
 refine⟨⟨eg d.base s,λ a f=>?_,M,d.e',d.gS,λ k b i=>⟨(d.dJ k b i).1,gN (d.dJ k b i).2 s⟩,d.gq,λ id b cs W i=>?_,λ t n e H o j=>?_,d.apart,d.fw,d.hi,λ k b h=>⟨(d.eW k b h).1,gN (d.eW k b h).2 s⟩,λ k b c o j=>(d.fj k b c o j).mono (hq.of_eq (l b (d.eW k b j).2)) (λ m L h=>⟨h,hq.of_eq (l L (d.eW m L h).2)⟩) C (λ a f=>di.qK (l _ (d.slt a f))) (λ a f=>(p a f).imp id λ h=>.inl λ e=>by have:=(d.eW k b j).2;have:=h.1;omega),λ b i=>gN (d.gr b i) s,d.gC,d.hr,d.hj,⟨E.Y.ok _ _ _ _ _ _ d.f_.1 ⟨y.calm,λ b i=>l b (d.gr b i),C,y.cell,λ a f=>(p a f).imp id λ h X=>absurd (d.gr _ X) ac,M⟩,d.f_.2⟩,d.hH⟩,y⟩;·rcases p a f with h|h;(·exact d.hR a h);exact .inr (eg d.base h.1)
 ·obtain⟨⟨t,arr,o,j,x⟩,z⟩:=d.box id b cs W i;have F:=(d.dJ id b i).2;refine⟨⟨t,arr,(l b F).trans o,j,λ N c v K a2=>⟨aF.mono y (x N c v K a2).1,(x N c v K a2).2⟩⟩,λ a f U=>?_⟩;rcases p a f with h|h;(·exact z a h U);omega
 obtain⟨a,cap,x,z,Q,R⟩:=d.tok t n e H o j;refine⟨a,cap,x,z,Q,λ F=>?_⟩;obtain⟨g,O,aa,ab,I,ad,ae,af⟩:=R F;have Z:g<w.heap.size:=by rcases eM g w.heap.size with h|h;(·exact h);rw[oH h]at I;cases I
 refine⟨g,O,aa,ab,(l g Z).trans I,ad,λ J T V=>?_,af⟩;rcases p J T with h|h;·exact ae J h V
 omega
def Rel.k7(R:Rel E B ax w0 st G S w tmps){S':bA} {w':Ts}(i:∀a,S a->S' a)(j:∀a,S' a->S a\/(w.heap.size<=a.block/\a.block<w'.heap.size))(d:Below w.heap.size w w'):Rel E B ax w0 st G S' w' tmps/\Ext st.tk G S w st.tk G S' w':=by obtain⟨g,c⟩:=R.inv.k7 i j d;exact⟨⟨g,R.below.trans (d.mono R.inv.base),R.len,λ t s v f a2=>aF.mono c (R.sl t s v f a2)⟩,c⟩
def Rel.vO(R:Rel E B ax w0 st G S w tmps)(t:Tr)(arr:Tu Tq)(cs:aP)(ar:arr.size=cs.length)(U:∀(j:Nat)(c:ah)(v:Tq),cs[j]?=some c->arr[j]?=some v->aF st.tk G S w c v/\v.oneCell'=true): ∃I,Rel E B ax w0 (st.h2 cs) I S (w.alloc (.cells arr t)) tmps/\Ext st.tk G S w (st.h2 cs).tk I S (w.alloc (.cells arr t))/\aF (st.h2 cs).tk I S (w.alloc (.cells arr t)) (.box st.ag.length 0) (.pointer (some ⟨w.heap.size,0,none⟩)):=by
 have T:Below w.heap.size w (w.alloc (.cells arr t)):=(Below.refl _ _).alloc (a8 _) _;obtain⟨f,p⟩:=R.inv.k7 (S':=S) (w':=w.alloc (.cells arr t)) (λ _ h=>h) (λ _ h=>.inl h) T;have M:G.ag.length=st.ag.length:=R.inv.e';have o:∀(d b:Nat),(G.ag++[w.heap.size])[d]?=some b->(G.ag[d]?=some b/\d<st.ag.length)\/(d=st.ag.length/\b=w.heap.size):=by intro d b i;rcases kE d G.ag.length with h|h|h;(·rw[bu h]at i;exact .inl ⟨i,ac⟩);(·subst h;simp at i;exact .inr ⟨M,i.symm⟩);rw[eL c0]at i;cases i
 have x:Ext st.tk G S w st.tk ⟨G.ag++[w.heap.size],G.tk,G.mp,G.dd⟩ S (w.alloc (.cells arr t)):=⟨λ d b i=>by show(G.ag++[w.heap.size])[d]?=some b;rw[bu (aD.1 i).1];exact i,p.tk,p.sub,p.cell,p.mp,p.calm,p.same,λ b i m=>by rcases m with⟨d,m⟩ |m;(·rcases o d b m with h| ⟨_,rfl⟩;(·exact .inl ⟨d,h.1⟩);omega);exact .inr m,p.new⟩;have an:lz st.tk G S (w.alloc (.cells arr t)) st.tk ⟨G.ag++[w.heap.size],G.tk,G.mp,G.dd⟩ S (w.alloc (.cells arr t)):=⟨x.ag,x.tk,λ _ h=>h,λ _ _=>di.refl _ _,λ _ _ h=>h⟩;refine⟨⟨G.ag++[w.heap.size],G.tk,G.mp,G.dd⟩,⟨⟨f.base,f.hR,f.slt,by simp[ai.h2,M],f.gS,?_,?_,?_,?_,f.apart,f.fw,f.hi,f.eW,f.fj,f.gr,λ d b i m=>?_,f.hr,f.hj,f.f_,λ d j b i W=>by rcases o d b i with h| ⟨_,rfl⟩;(·exact f.hH d j b h.1 W);have:=(R.inv.eW j _ W).2;omega⟩,R.below.trans (T.mono R.inv.base),R.len,λ t s v l a2=>aF.mono x (R.sl t s v l a2)⟩,x,?_⟩;·intro d b i;rcases o d b i with h| ⟨_,rfl⟩;(·exact f.dJ d b h.1);exact⟨R.inv.base,al⟩
 ·intro d j b L aq;rcases o d b L with h| ⟨h,aA⟩<;>rcases o j b aq with k| ⟨k,aB⟩;(·exact f.gq d j b h.1 k.1);(·have:=(R.inv.dJ d b h.1).2;omega);(·have:=(R.inv.dJ j b k.1).2;omega);omega
 ·intro id b O y i;rcases o id b i with h| ⟨rfl,rfl⟩;(·(have ap:st.ag[id]?=some (some O):=by simp only[ai.h2]at y;rw[bu h.2]at y;exact y);obtain⟨⟨H,Z,z,J,C⟩,K⟩:=f.box id b O ap h.1;exact⟨⟨H,Z,z,J,λ j c v l a2=>⟨aF.k5 an (C j c v l a2).1,(C j c v l a2).2⟩⟩,K⟩);simp[ai.h2]at y;subst y;refine⟨⟨t,arr,heap_alloc_new w _,ar,λ j c v l a2=>⟨aF.mono x (U j c v l a2).1,(U j c v l a2).2⟩⟩,λ a ao az=>?_⟩;have:=R.inv.slt a ao;omega
 ·intro H n e X l a2;obtain⟨a,cap,z,J,C,K⟩:=f.tok H n e X l a2;refine⟨a,cap,z,J,C,λ V=>?_⟩;obtain⟨g,aj,N,aa,ab,ad,ae,af⟩:=K V;refine⟨g,aj,N,aa,ab,ad,ae,λ d L=>?_⟩;rcases o d g L with h| ⟨_,rfl⟩;(·exact af d h.1);obtain⟨F,Q,d1,d2,d3,_⟩:=(by obtain⟨au,av,D,aw,ay,ak⟩:=R.inv.tok H n e X l a2;rw[z]at D;injection D with D _ am;subst D;subst am;exact ak V:∃(F:Nat)(Q:Tu Tq),a=some ⟨F,0,none⟩/\B<=F/\w.heap[F]?=some (.cells Q e (0,0))/\_);rw[N]at d1;injection d1 with d1;injection d1 with d1;subst d1;rw[oH (a8 _)]at d3;cases d3
 ·rcases o d b i with h| ⟨_,rfl⟩;(·exact R.inv.gC d b h.1 m);exact q3 _ (R.inv.gr _ m)
 exact⟨w.heap.size,by simp[<-M],rfl⟩
def aF.zero(tk:bo)(v:Tq):aF tk G S w (p4 (li v)) v:=by
 have h:=aq.const (S:=S) (w:=w) v;unfold li at h⊢;split at h;·exact h
 ·exact h
 ·exact h
 ·exact⟨h,none,rfl⟩
 ·exact h
 ·exact h
 exact h
def QJ(j:co E)(R:Rel E B ax w0 st G S w tmps){t:Tr} :c7 E B ax w0 (ry E t st) G S w st.tk tmps (do pure (.value (<-Instr.alloc t true (.tuple #[])))):=by intro F d _;unfold ry at d;split at d;(next g=>cases d;obtain⟨D,z,u,o,s,_,y,x,p,n,_⟩:=(j.dp t).info (.inl g.2);obtain⟨i,k,m,l⟩:=R.vO t z.cells ((E.T t).zero.map p4) (by rw[cE,g.1,n,s]) (λ C c v a a2=>by rw[<-x,bm,bm]at a;(have f:z.cells.toList[C]?=some v:=by simpa using a2);rw[f]at a;simp at a;subst a;exact⟨aF.zero _ v,p v (aT f)⟩);exact⟨_,_,_,by simp[Instr.alloc,zeroValue,typeInfo,o,y,newVar,Go.newRow],.inl rfl,i,S,k,l,m⟩);cases d
def R7{l:am}(h:l.all af.one=true){c:af} {j:Nat}(a:l[j]?=some c):c.one=true:=cu.1 h c (aT a)
def JG(R:Rel E B ax w0 st G S w tmps){t:Tr} {x:ah} {f:Tq}(n:aF st.tk G S w x f):c7 E B ax w0 (qd E t x st) G S w st.tk tmps (do pure (.value (<-Instr.box t f))):=by
 intro F d _;unfold qd at d;split at d;·split at d;(next s=>split at d;(next z=>cases d;obtain⟨vs,rfl,o⟩:=aq.qy n;obtain⟨j,k,m,l⟩:=R.vO t vs.toArray (s.map ah.val) (by simp[o.1]) (λ g c v a a2=>by rw[bm]at a;cases i:s[g]? with|none=>rw[i]at a;cases a|some p=>rw[i]at a;simp at a;subst a;have h:=o.2 g p v i (by simpa using a2);exact⟨h,aq.oA h (R7 z i)⟩);exact⟨_,_,_,by simp[Instr.box,newVar,Go.newRow,Value.cells],.inl rfl,j,S,k,l,m⟩);cases d);cases d
 split at d;next D=>cases d;have y:=aF.oA n D;(have C:f.cells=#[f]:=by cases f<;>simp_all[Value.cells,Value.oneCell']);obtain⟨j,k,m,l⟩:=R.vO t #[f] [x] rfl (λ g c v a a2=>by match g,a,a2 with|0,a,a2=>simp at a a2;subst a;subst a2;exact⟨n,y⟩ |g+1,a,_=>simp at a);exact⟨_,_,_,by simp[Instr.box,newVar,Go.newRow,C],.inl rfl,j,S,k,l,m⟩
 cases d
def fP(S:bA)(w:Ts)(m:Nat)(xs:am)(vs:Tp Tq):Prop:=vs.length=xs.length*m/\(∀(a:Nat)(x:af),xs[a]?=some x->x.cells.length=m)/\ ∀(a:Nat)(x:af)(d:Nat)(c:af)(u:Tq),xs[a]?=some x->x.cells[d]?=some c->vs[a*m+d]?=some u->aq S w c u
def fP.mono{m:Nat} {xs:am} {vs:Tp Tq} {S':bA} {w':Ts}(h:fP S w m xs vs)(f:∀a,S a->S' a)(hw:∀a,S a->di w w' a):fP S' w' m xs vs:=⟨h.1,h.2.1,λ g x i c u d a2 a3=>(h.2.2 g x i c u d a2 a3).mono f hw⟩
def xp{i j n m:Nat}(a:i<n)(c:j<m):i*m+j<n*m:=by have:(i+1)*m<=n*m:=iV _ a;rw[kG]at this;omega
def fP.nil(m:Nat):fP S w m [] []:=⟨al,al,al⟩
def fP.append{m:Nat} {xs j:am} {vs us:Tp Tq}(h:fP S w m xs vs)(k:fP S w m j us):fP S w m (xs++j) (vs++us):=by
 refine⟨by simp[h.1,k.1,kG],λ d x a=>?_,λ d x i c u a g hu=>?_⟩;·by_cases f:d<xs.length;(·rw[bu f]at a;exact h.2.1 d x a);rw[b1 ac]at a;exact k.2.1 _ x a
 by_cases f:d<xs.length;·rw[bu f]at a;(have l:i<m:=by rw[<-h.2.1 d x a];exact(aD.1 g).1);rw[bu (by rw[h.1];exact xp f l)]at hu;exact h.2.2 d x i c u a g hu
 rw[b1 ac]at a;have n:xs.length*m<=d*m:=iV _ ac;rw[b1 (by rw[h.1];omega),h.1]at hu;refine k.2.2 (d-xs.length) x i c u a g ?_;rw[Nat.sub_mul,<-hu];congr 1;omega
def aq.flat{m:Nat} {xs:am} {v:Tq}(h:aq S w (.aa m xs) v):∃(a:Tt Tv)(i:Tv)(cap:Nat)(vs:Tp Tq),v=.slice a xs.length cap/\(xs≠[]->a=some i)/\xs.length<=cap/\cap<=maxLen/\(∀(k:Nat)(u:Tq),vs[k]?=some u->S (i.add k)/\w.cell? (i.add k)=some u/\u.oneCell'=true)/\fP S w m xs vs:=by
 obtain⟨a,i,cap,g,rfl,z,C,F,p,B,G⟩:=aq.mm h;refine⟨a,i,cap,(List.range (xs.length*m)).map λ k=>g (k/m) (k %m),rfl,z,C,F,λ k u ae=>?_,al,p,λ f x l c u d s hu=>?_⟩;·rw[bm]at ae;by_cases n:k<xs.length*m;(·simp[n]at ae;subst ae;(have E:0<m:=by rcases kD m with e|e;(·subst e;simp at n);exact e);have o:k/m<xs.length:=Nat.div_lt_of_lt_mul (by rw[sj];exact n);have j:k %m<m:=oO _ E;have d:=aQ o;have D:=p _ _ d;have:=B (k/m) _ (k %m) _ d (aQ (by rw[D];exact j));rw[sj,Nat.div_add_mod]at this;exact this);simp[n]at ae
 have o:f<xs.length:=(aD.1 d).1;have j:l<m:=by rw[<-p f x d];exact(aD.1 s).1
 have t:(f*m+l)/m=f:=by rw[sj,Nat.mul_add_div ac,Nat.div_eq_of_lt j];omega
 have y:(f*m+l)%m=l:=by rw[sj,Nat.mul_add_mod,sm j]
 rw[bm,m9 (xp o j)]at hu;simp only[du,t,y,cg]at hu;subst hu;exact G f x l c d s
def aq.of_flat{m:Nat} {xs:am} {a:Tt Tv} {ad:Tv} {cap:Nat} {vs:Tp Tq}(z:m≠0)(l:xs≠[]->a=some ad)(o:xs.length<=cap)(y:cap<=maxLen)(n:∀(k:Nat)(u:Tq),vs[k]?=some u->S (ad.add k)/\w.cell? (ad.add k)=some u/\u.oneCell'=true)(he:fP S w m xs vs):aq S w (.aa m xs) (.slice a xs.length cap):=by (have j:∀(d:Nat)(x:af)(f:Nat)(c:af),xs[d]?=some x->x.cells[f]?=some c->vs[d*m+f]?=some (vs.getD (d*m+f) undef):=by intro d x f c g i;have p:d<xs.length:=(aD.1 g).1;(have s:f<m:=by rw[<-he.2.1 d x g];exact(aD.1 i).1);(have t:d*m+f<vs.length:=by rw[he.1];exact xp p s);rw[cl,aQ t];rfl);exact aq.aa m xs a ad cap (λ d f=>vs.getD (d*m+f) undef) l o y he.2.1 (λ d x f c g i=>n _ _ (j d x f c g i)) (λ d x f c g i=>he.2.2 d x f c _ g i (j d x f c g i)) (λ h=>absurd h z)
def Rel.newRow(R:Rel E B ax w0 st G S w tmps)(t:Tr)(arr:Tu Tq):Rel E B ax w0 st G (λ a=>S a\/a.block=w.heap.size) (w.alloc (.cells arr t)) tmps/\Ext st.tk G S w st.tk G (λ a=>S a\/a.block=w.heap.size) (w.alloc (.cells arr t))/\ ∀d,(w.alloc (.cells arr t)).cell? ⟨w.heap.size,d,none⟩=arr[d]?:=by have i:Below w.heap.size w (w.alloc (.cells arr t)):=(Below.refl _ _).alloc (a8 _) _;obtain⟨f,g⟩:=R.k7 (S':=λ a=>S a\/a.block=w.heap.size) (w':=w.alloc (.cells arr t)) (λ _ h=>.inl h) (λ a c=>by rcases c with c|c;(·exact .inl c);exact .inr ⟨ac,by rw[c];simp⟩) i;exact⟨f,g,λ d=>World.cell?_alloc_new w arr t d⟩
def Rel.drew(R:Rel E B ax w0 st G S w tmps):Rel E B ax w0 st G S w.drew tmps/\Ext st.tk G S w st.tk G S w.drew:=R.k7 (λ _ h=>h) (λ _ h=>.inl h) ⟨rfl,rfl,rfl,a8 _,λ _ _=>rfl,Nat.le_succ _⟩
def Mq(v:Tq):(li v).cells=[li v]:=by unfold li;split<;>rfl
def co.cells(j:co E){t:Tr}(h:(E.T t).size≠0):∃(a:TypeInfo)(z:Tq),E.P.info? t=some a/\a.size=(E.T t).size/\a.bytes=(E.T t).bytes/\a.zero=some z/\z.cells.toList.map li=(E.T t).zero/\(∀v∈z.cells.toList,v.oneCell'=true)/\z.cells.size=(E.T t).size/\(af.m0 (E.T t) (E.T t).zero).cells=(E.T t).zero/\((E.T t).agg=false->(E.T t).size=1):=by
 obtain⟨a,z,u,l,d,k,n,i,m,g,f,_⟩:=(j.dp t).info (.inl h);refine⟨a,z,l,d,k,n,i,m,g.trans d,?_,λ c=>?_⟩;·unfold af.m0;split;(·rfl);rename_i c;rw[if_neg c]at f;(have:z.cells=#[z]:=by cases z<;>simp_all[Value.cells,Value.oneCell']);rw[<-i,this];simp[Mq]
 rw[c]at f;have:z.cells=#[z]:=by cases z<;>simp_all[Value.cells,Value.oneCell']
 rw[<-d,<-g,this];rfl
def fP.zero(p:co E){e:Tr}(h:(E.T e).size≠0){z:Tq}(k:z.cells.toList.map li=(E.T e).zero)(g:z.cells.size=(E.T e).size)(n:Nat):fP S w (E.T e).size (List.replicate n (af.m0 (E.T e) (E.T e).zero)) ((Array.range (n*(E.T e).size)).map (z.cells[· %z.cells.size]!)).toList:=by
 obtain⟨_,_,_,_,_,_,_,_,_,l,_⟩:=p.cells h;have j:(E.T e).zero.length=(E.T e).size:=by rw[<-k];simp[g]
 refine⟨al,λ m x a=>?_,λ m x f c u a d hu=>?_⟩;·rw[List.getElem?_replicate]at a;split at a;(·cases a;rw[l,j]);cases a
 rw[List.getElem?_replicate]at a;split at a;next s=>cases a;rw[l]at d;(have i:f<(E.T e).size:=by rw[<-j];exact(aD.1 d).1);(have o:(m*(E.T e).size+f)%(E.T e).size=f:=by rw[sj,Nat.mul_add_mod,sm i]);have y:=xp s i;(have B:z.cells[f]! =u:=by simp[y,g,o]at hu;exact hu);(have t:f<z.cells.size:=by rw[g];exact i);rw[<-k,bm]at d;(have:z.cells.toList[f]?=some u:=by rw[<-B];simp[t]);rw[this]at d;simp at d;subst d;exact aq.const u
 cases a
def BT{z:Tq}(d:∀v∈z.cells.toList,v.oneCell'=true)(k j:Nat){u:Tq}(f:0<z.cells.size)(h:((Array.range k).map (z.cells[· %z.cells.size]!)).toList[j]?=some u):u.oneCell'=true:=by (have a:j<k:=by have:=(aD.1 h).1;simpa using this);have c:j %z.cells.size<z.cells.size:=oO _ f;simp[a]at h;subst h;rw[getElem!_pos z.cells _ c];exact d _ al
def Hk{α:Type}(l:Tp α):∀(n j:Nat)(c:α),(List.replicate n l).flatten[j]?=some c->l[j %l.length]?=some c|0,j,c,h=>by simp at h|n+1,j,c,h=>by rw[m8,uu]at h;rcases eM j l.length with a|a;(·rw[bu a]at h;rw[sm a];exact h);rw[b1 a]at h;have:=Hk l n (j-l.length) c h;rwa[<-Nat.mod_eq_sub_mod a]at this
def MN(s:co E)(R:Rel E B ax w0 st G S w tmps){t:Tr} {x y:ah} {Z aa:Tq}(U:aF st.tk G S w x Z)(V:aF st.tk G S w y aa):c7 E B ax w0 (wk E t x y st) G S w st.tk tmps (do pure (.value (<-Instr.makeSlice t Z aa))):=by intro az d Q;unfold wk at d;have ae:=(s.dp t).k;split at d;(next e k n X c aw=>rw[aw]at ae;split at d;(next W=>split at d;(·cases d;obtain⟨C,rfl,aj,i⟩:=Q;cases aq.nK U;cases aq.nK V;have j:(E.T e).size≠0:=ac;obtain⟨o,z,I,L,F,N,M,J,H,_⟩:=s.cells j;obtain⟨m,rfl⟩:=Int.eq_ofNat_of_zero_le C;(have D:(o.bytes:Int)*(m:Int)<=281474976710656:=by rw[F,Int.mul_comm];omega);have l:=run_make (P:=E.P) w t e o z ae I N k X m m ac ac D ac;rw[da,L]at l;obtain⟨ab,ak,an,am⟩:=R.vO e ((Array.range (m*(E.T e).size)).map (z.cells[· %z.cells.size]!)) ((List.replicate m (E.T e).zero).flatten.map ah.val) (by simp[W.1]) (λ f c v g a2=>by rw[<-fq]at a2;refine⟨?_,BT J _ f ac a2⟩;(have au:f<m*(E.T e).size:=by have:=(aD.1 a2).1;simpa using this);rw[bm]at g;cases K:(List.replicate m (E.T e).zero).flatten[f]? with|none=>rw[K]at g;cases g|some p=>rw[K]at g;simp only[du,cg]at g;subst g;have i:=Hk _ m f p K;rw[W.1,<-H,<-M,bm]at i;have av:f %z.cells.size<z.cells.size:=oO _ ac;(have ay:z.cells.toList[f %z.cells.size]?=some v:=by simp[au]at a2;rw[<-a2];simp[av]);rw[ay]at i;simp only[du,cg]at i;subst i;exact aq.const v);refine⟨_,_,_,by simp only[Sem.run_bind,l,Result.andThen_ok,Sem.run_pure];rfl,.inl rfl,ab,S,ak,?_,an⟩;obtain⟨b,ao,O⟩:=am;refine⟨b,m,ao,?_,al,by simp only[maxLen];omega⟩;simp only[Value.pointer.injEq,cg,Addr.mk.injEq]at O;rw[<-O.1];simp);cases d;obtain⟨C,rfl,aj,i⟩:=Q;cases aq.nK U;cases aq.nK V;have j:(E.T e).size≠0:=ac;obtain⟨o,z,I,L,F,N,M,J,H,_⟩:=s.cells j;obtain⟨m,rfl⟩:=Int.eq_ofNat_of_zero_le C;obtain⟨ag,ai,ap⟩:=R.newRow e ((Array.range (m*(E.T e).size)).map (z.cells[· %z.cells.size]!));have ar:fP (λ a=>S a\/a.block=w.heap.size) (w.alloc (.cells ((Array.range (m*(E.T e).size)).map (z.cells[· %z.cells.size]!)) e)) (E.T e).size (List.replicate m (af.m0 (E.T e) (E.T e).zero)) ((Array.range (m*(E.T e).size)).map (z.cells[· %z.cells.size]!)).toList:=fP.zero s j M H m;(have D:(o.bytes:Int)*(m:Int)<=281474976710656:=by rw[F,Int.mul_comm];omega);have l:=run_make (P:=E.P) w t e o z ae I N k X m m ac ac D ac;rw[da,L]at l;refine⟨_,_,_,by simp only[Sem.run_bind,l,Result.andThen_ok,Sem.run_pure];rfl,.inl rfl,G,_,ag,?_,ai⟩;refine⟨?_,some ⟨w.heap.size,0,none⟩,al⟩;have:=aq.of_flat (ad:=⟨w.heap.size,0,none⟩) (a:=some ⟨w.heap.size,0,none⟩) (cap:=m) j (λ _=>rfl) al (by simp only[maxLen];omega) (λ f u hu=>by rw[jK,hn,ap];exact⟨.inr rfl,by rw[<-fq];exact hu,BT J _ f ac hu⟩) ar;simpa using this);cases d);cases d
end
section
variable{E:Env} {B:Nat} {ax:Tv->Prop} {w0:Ts} {st:ai} {G:bR} {S:Tv->Prop} {w:Ts} {tmps:Tu Tq}
def Gd(off:Nat):∀(l:Tp Tq)(k:Nat)(cells:Tu Tq),off+k+l.length<=cells.size->((l.zipIdx k).foldl (λ cs p=>cs.setIfInBounds (off+p.2) p.1) cells).toList=cells.toList.take (off+k)++(l++cells.toList.drop (off+k+l.length)) | [],k,cells,h=>by simp|v::l,k,cells,h=>by simp only[List.zipIdx_cons,mB];(have a:off+(k+1)+l.length<=(cells.setIfInBounds (off+k) v).size:=by simp at h⊢;omega);rw[Gd off l (k+1) _ a];(have ae:off+k<cells.toList.length:=by simp at h⊢;omega);simp only[v6];rw[show off+(k+1)=(off+k)+1 by omega,List.take_succ_eq_append_getElem (by simpa using ae)];rw[List.take_set_of_le (a8 _),List.drop_set_of_lt ac];simp;congr 1;omega
def Hl(off:Nat)(v:Tq)(cells:Tu Tq)(h:off+v.cells.size<=cells.size):(v.cells.zipIdx.foldl (λ cs(c,a)=>cs.setIfInBounds (off+a) c) cells).toList=cells.toList.take off++(v.cells.toList++cells.toList.drop (off+v.cells.size)):=by have:=Gd off v.cells.toList 0 cells (by simpa using h);simp only[lR]at this;rw[<-Array.foldl_toList,Array.toList_zipIdx];simpa using this
def bh.S3{cs l:am} {vs us:Tp Tq}(h:bh S w cs vs)(k:bh S w l us)(off:Nat):bh S w (cs.take off++(l++cs.drop (off+l.length))) (vs.take off++(us++vs.drop (off+us.length))):=by rw[<-k.1];exact bh.append (h.take off) (bh.append k (h.drop _))
def Ep{tk:bo} {d:ep} {s:ah} {v:Tq} {l:am}(h:yQ d s=some l)(j:aF tk G S w s v):v.cells.size=d.size/\bh S w l v.cells.toList/\l.length=d.size/\(d.agg=false->∃p,s.dn=some p/\l=[p]/\p.one=true)/\(af.m0 d l).cells=l:=by
 unfold yQ at h;split at h;next c=>split at h;(·split at h;(next g=>cases h;obtain⟨vs,rfl,m⟩:=aq.qy j;exact⟨by simp[Value.cells,<-m.1,g],by simpa[Value.cells]using m,g,λ n=>by simp[c]at n,by simp[af.m0,c,af.cells]⟩);cases h);cases h
 rename_i c;split at h;next p i=>split at h;(next a=>cases h;simp only[bP,beq_iff_eq]at a;have k:=aF.dn j i;have o:=aq.oA k a.1;(have f:v.cells=#[v]:=by cases v<;>simp_all[Value.cells,Value.oneCell']);refine⟨by rw[f,a.2];rfl,by rw[f];exact bh.cons k bh.nil,by simp[a.2],λ _=>⟨p,i,rfl,a.1⟩,?_⟩;simp only[af.m0,c];cases p<;>simp_all[af.one,af.cells]);cases h
 cases h
def nv(tk:bo)(G:bR)(S:bA)(w:Ts):Tp (Nat×ah)->Tp (Nat×Tq)->Prop| [],[]=>True| (a,s)::r,(c,v)::q=>a=c/\aF tk G S w s v/\nv tk G S w r q|_,_=>False
def Cp{tk:bo} {place:Nat->Tt (Nat×ep)} {place':Nat->Tt (Nat×Nat)}(j:∀i n d,place i=some (n,d)->place' i=some (n,d.size)): ∀(parts:Tp (Nat×ah))(vals:Tp (Nat×Tq))(cs l:am)(cells:Tu Tq),nv tk G S w parts vals->bh S w cs cells.toList->vd place cs parts=some l-> ∃f,Instr.fill place' cells vals=some f/\bh S w l f.toList| [],[],cs,l,cells,_,g,h=>by simp only[vd,cg]at h;subst h;exact⟨cells,rfl,g⟩ | [],_::_,_,_,_,a,_,_=>a.elim|_::_,[],_,_,_,a,_,_=>a.elim| (i,s)::r,(k,v)::q,cs,l,cells,a,g,h=>by obtain⟨rfl,F,y⟩:=a;simp only[vd]at h;split at h;(·cases h);rename_i off d C;split at h;(·cases h);rename_i m B;split at h;(next J=>obtain⟨t,x,H,_⟩:=Ep B F;(have I:cs.length=cells.size:=by simpa using g.1);have K:off+d.size<=cells.size:=ac;have E:off+v.cells.size<=cells.size:=ac;have D:=Hl off v cells E;(have z:bh S w (cs.take off++(m++cs.drop (off+m.length))) ((v.cells.zipIdx.foldl (λ cs(c,k)=>cs.setIfInBounds (off+k) c) cells).toList):=by rw[D];have:=g.S3 x off;simpa using this);obtain⟨f,o,p⟩:=Cp j r q _ l _ y z h;refine⟨f,?_,p⟩;simp only[Instr.fill,j _ _ _ C,t];rw[if_neg];(·exact o);simp;omega);cases h
def Rel.parts(R:Rel E B ax w0 st G S w tmps)(d:Tp Deferred):∀(ps:Tp (Nat×Operand)),nv st.tk G S w (ps.map λ p=>(p.1,aL st p.2)) (ps.map λ p=>(p.1,({tmps:=tmps,defers:=d}:Act).eval p.2)) | []=>trivial|p::r=>⟨rfl,R.val p.2 d,Rel.parts R d r⟩
def Fs:∀(l:Tp Field),(∀f∈l,∃a,E.P.info? f.type=some a/\a.size=(E.T f.type).size)->(l.mapM λ f=>(do pure (f.offset,<-sizeOf f.type):Sem (Nat×Nat))).run E.P w=.ok (l.map λ f=>(f.offset,(E.T f.type).size)) w| [],_=>by simp|f::r,h=>by obtain⟨a,d,i⟩:=h f al;have j:=Fs r (λ g c=>h g (by simp[c]));simp only[List.mapM_cons,Sem.run_bind,iM d,Result.andThen_ok,Sem.run_pure,j,i,eS]
def QK(m:co E)(R:Rel E B ax w0 st G S w tmps){t:Tr} {parts:Tp (Nat×ah)} {vals:Tu (Nat×Tq)}(C:nv st.tk G S w parts vals.toList):c7 E B ax w0 (u6 E t parts st) G S w st.tk tmps (do pure (.value (<-Instr.build t vals))):=c7.same R λ ac c _=>by unfold u6 at c;have ae:=(m.dp t).k;split at c;(next K=>obtain⟨g,z,u,D,ab,_,I,X,_⟩:=(m.dp t).info (.inr K);(have H:bh S w (E.T t).zero z.cells.toList:=by rw[<-X];exact bh.const _);split at c;(next aa x=>rw[x]at ae;obtain⟨F,hu,y⟩:=ae;split at c;(next L=>split at c;(next l p=>cases c;(have O:∀f∈F.toList,∃g,E.P.info? f.type=some g/\g.size=(E.T f.type).size:=by intro f M;have:=cu.1 L (f.offset,f.type) (by rw[<-y];exact a_.2 ⟨f,M,rfl⟩);simp only[lT,bne_iff_ne]at this;obtain⟨g,_,_,a,b,_⟩:=(m.dp f.type).info this;exact⟨g,a,b⟩);(have V:(F.mapM λ f=>(do pure (f.offset,<-sizeOf f.type):Sem (Nat×Nat))).run E.P w=.ok (F.toList.map λ f=>(f.offset,(E.T f.type).size)).toArray w:=by rw[Array.mapM_eq_mapM_toList];simp only[Sem.run_map,Fs F.toList O,Result.andThen_ok]);obtain⟨i,o,j⟩:=Cp (place':=λ g=>((F.toList.map λ f=>(f.offset,(E.T f.type).size)).toArray)[g]?) (λ g Z d h=>by rw[<-y,bm]at h;cases s:F.toList[g]? with|none=>rw[s]at h;cases h|some f=>rw[s]at h;simp only[du,cg,jw]at h;obtain⟨rfl,rfl⟩:=h;(have U:F[g]?=some f:=by simpa using s);simp[U]) parts vals.toList _ l z.cells C H p;refine⟨rfl,.agg i,?_,?_⟩;(·simp only[Instr.build,Sem.run_bind,zeroValue,typeInfo,run_program,Result.andThen_ok,D,Sem.run_pure,I,run_underlying hu,V,o]);have:=aq.agg (S:=S) (w:=w) l i.toList j.1 j.2;simpa[aF]using this);cases c);cases c);(next n e x=>rw[x]at ae;split at c;(next Q=>split at c;(next l p=>cases c;obtain⟨J,_,_,N,W,_⟩:=(m.dp e).info (.inl (by simpa using Q));obtain⟨i,o,j⟩:=Cp (place':=λ g=>some (g*J.size,J.size)) (λ g Z d h=>by simp only[cg,jw]at h;obtain⟨rfl,rfl⟩:=h;rw[W]) parts vals.toList _ l z.cells C H p;refine⟨rfl,.agg i,?_,?_⟩;(·simp only[Instr.build,Sem.run_bind,zeroValue,typeInfo,run_program,Result.andThen_ok,D,Sem.run_pure,I,run_underlying ae,iM N,o]);have:=aq.agg (S:=S) (w:=w) l i.toList j.1 j.2;simpa[aF]using this);cases c);cases c);cases c);cases c
def fP.set{m:Nat} {xs:am} {vs us:Tp Tq}(h:fP S w m xs vs){i:Nat}(t:i<xs.length){x:af}(l:x.cells.length=m)(hu:bh S w x.cells us):fP S w m (xs.set i x) (vs.take (i*m)++(us++vs.drop (i*m+m))):=by
 have p:us.length=m:=by rw[<-hu.1,l]
 have C:i*m+m<=xs.length*m:=by have:(i+1)*m<=xs.length*m:=iV _ t;rw[kG]at this;omega
 refine⟨by rw[bO,dQ,bO,ju,kf,h.1,p,pw ac];omega,λ k y a=>?_,λ k y f c u a g d=>?_⟩;·rw[gV]at a;split at a;(·cases a;exact l);exact h.2.1 k y a
 rw[gV]at a;split at a;next n=>subst n;cases a;(have o:f<m:=by rw[<-l];exact(aD.1 g).1);(have j:(vs.take (i*m)).length=i*m:=by rw[dQ,h.1,pw ac]);rw[b1 ac,bu ac,j]at d;refine hu.2 f c u g ?_;rw[<-d];congr 1;omega
 rename_i n;have o:f<m:=by rw[<-h.2.1 k y a];exact(aD.1 g).1
 refine h.2.2 k y f c u a g ?_;have j:(vs.take (i*m)).length=i*m:=by rw[dQ,h.1,pw ac]
 rcases eM k i with z|B;·have:k*m+f<i*m:=xp z o;rw[bu ac,c9,if_pos this]at d;exact d
 have s:i<k:=ac;have:i*m+m<=k*m:=by have:(i+1)*m<=k*m:=iV _ s;rw[kG]at this;omega
 rw[b1 ac,b1 ac,fs,j,p]at d;rw[<-d];congr 1;omega
def EI{tk:bo} {d:ep} {S':bA} {w':Ts}(x:∀a,S a->S' a)(hw:∀a,S a->di w w' a): ∀(parts:Tp (Nat×ah))(vals:Tp (Nat×Tq))(xs l:am)(cells:Tu Tq),nv tk G S w parts vals->fP S' w' d.size xs cells.toList->(∀v∈cells.toList,v.oneCell'=true)->wN d xs parts=some l-> ∃g,Instr.fill (λ f=>some (f*d.size,d.size)) cells vals=some g/\fP S' w' d.size l g.toList/\(∀v∈g.toList,v.oneCell'=true)/\l.length=xs.length| [],[],xs,l,cells,_,m,j,h=>by simp only[wN,cg]at h;subst h;exact⟨cells,rfl,m,j,rfl⟩ | [],_::_,_,_,_,i,_,_,_=>i.elim|_::_,[],_,_,_,i,_,_,_=>i.elim| (f,s)::r,(n,v)::q,xs,l,cells,i,m,z,h=>by obtain⟨rfl,N,K⟩:=i;simp only[wN]at h;split at h;(·cases h);rename_i C L;split at h;(next p=>obtain⟨j,o,I,_,t⟩:=Ep L (aF.x2 N);(have O:f*d.size+d.size<=cells.size:=by have:(f+1)*d.size<=xs.length*d.size:=iV _ p.1;rw[kG]at this;have:=m.1;simp at this;omega);have B:=Hl (f*d.size) v cells ac;(have J:fP S' w' d.size (xs.set f (af.m0 d C)) ((v.cells.zipIdx.foldl (λ cs(c,n)=>cs.setIfInBounds (f*d.size+n) c) cells).toList):=by rw[B,j];exact m.set p.1 (by rw[t,I]) (by rw[t];exact o.mono x hw));(have M:∀u∈((v.cells.zipIdx.foldl (λ cs(c,n)=>cs.setIfInBounds (f*d.size+n) c) cells).toList),u.oneCell'=true:=by rw[B];intro u hu;simp only[dH]at hu;rcases hu with hu|hu|hu;(·exact z u (uq hu));(·obtain⟨k,ae⟩:=lP.1 hu;(have y:k<C.length:=by rw[o.1];exact(aD.1 ae).1);exact aq.oA (o.2 k _ u (aQ y) ae) (cu.1 p.2 _ (iA y)));exact z u (pB hu));obtain⟨g,D,E,F,H⟩:=EI x hw r q _ l _ K J M h;refine⟨g,?_,E,F,by rw[H];simp⟩;simp only[Instr.fill,j];rw[if_neg];(·exact D);simp;omega);cases h
def Er(i:co E)(R:Rel E B ax w0 st G S w tmps){t:Tr} {n:Nat} {parts:Tp (Nat×ah)} {vals:Tu (Nat×Tq)}(I:nv st.tk G S w parts vals.toList):c7 E B ax w0 (pK E t n parts st) G S w st.tk tmps (do pure (.value (<-Instr.buildSlice t n vals))):=by intro al c _;unfold pK at c;have ae:=(i.dp t).k;split at c;(next e V=>rw[V]at ae;split at c;(next Z=>obtain⟨ai,x,aj⟩:=Z;split at c;(next xs X=>cases c;obtain⟨ak,z,j,s,ag,ab,aa,Q,K,_⟩:=i.cells (t:=e) ac;have L:fP S w (E.T e).size (List.replicate n (af.m0 (E.T e) (E.T e).zero)) ((Array.range (n*(E.T e).size)).map (z.cells[· %z.cells.size]!)).toList:=fP.zero i ac aa K n;obtain⟨l,g,D,F,H⟩:=EI (S':=S) (w':=w) (λ _ h=>h) (λ _ _=>di.refl _ _) parts vals.toList _ xs _ I L (λ v W=>by obtain⟨y,M⟩:=lP.1 W;exact BT Q _ y ac M) X;obtain⟨C,d,J⟩:=R.newRow e l;(have U:(Instr.buildSlice t n vals).run E.P w=.ok (.slice (some ⟨w.heap.size,0,none⟩) n n) (w.alloc (.cells l e)):=by by_cases o:n*(E.T e).size=0;(·(have O:n=0:=by rcases kD n with h|h;(·exact h);exact absurd o (Nat.ne_of_gt (Nat.mul_pos h x)));subst O;(have m:∀f:Nat->Tq,(Array.range 0).map f=#[]:=λ f=>by simp);rw[q4,m]at g;simp only[Instr.buildSlice,Sem.run_bind,run_underlying ae,Result.andThen_ok,iM j,s,q4,Nat.reducePow,gt_iff_lt,oI,if_false,if_true,Sem.run_pure,m,g,Go.newRow,run_newObj];rfl);have N:¬16777216<n*(E.T e).size:=ac;simp only[Instr.buildSlice,Sem.run_bind,run_underlying ae,Result.andThen_ok,iM j,s,Sem.run_ite,Nat.reducePow,N,o,if_false,gt_iff_lt,zeroValue,typeInfo,run_program,j,Sem.run_pure,ab,g,Go.newRow,run_newObj];rfl);(have p:xs.length=n:=by rw[H];simp);refine⟨_,_,_,by simp only[Sem.run_bind,U,Result.andThen_ok,Sem.run_pure];rfl,.inl rfl,G,_,C,?_,d⟩;refine⟨?_,some ⟨w.heap.size,0,none⟩,by rw[p]⟩;have:=aq.of_flat (ad:=⟨w.heap.size,0,none⟩) (a:=some ⟨w.heap.size,0,none⟩) (cap:=n) ac (λ _=>rfl) ac (by have:n*1<=n*(E.T e).size:=Nat.mul_le_mul_left _ x;simp only[maxLen];omega) (λ y u hu=>by rw[jK,hn,J];exact⟨.inr rfl,by rw[<-fq];exact hu,F u (aT hu)⟩) (D.mono d.sub d.cell);rw[p]at this;exact this);cases c);cases c);cases c
end
end Go.Abs
