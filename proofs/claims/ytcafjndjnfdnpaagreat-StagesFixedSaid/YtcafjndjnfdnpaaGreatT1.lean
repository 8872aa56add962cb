/- Contracts of the functions, and what they rest on: part 1. -/
import Derived.CallsIn
import Derived.Below
import Derived.Maps.AppendAt
import Derived.Maps.Own
import Derived.OrdersIn
import Derived.RangeFuncSeq
import Derived.Laws.StructEq
import Derived.Laws.MakeOwn
import Derived.Maps.RangeRun
import Derived.Maps.Keyed
import Derived.Carry
import Derived.Lib.SliceRun
import Derived.Sort.LoopGhostIn
import Derived.RangeFuncNested
import Derived.RangeFuncLeaves
import Derived.Scope
import Derived.Test.YtcafjndjnfdnpaaGreatProg
import Derived.KernelRfl
import Derived.Sort.OwnSortedInts
import Derived.Shelf.Abstract
import Derived.Shelf.Small.Strs
import Derived.Shelf.SortM.Plain
import Derived.Shelf.Slices.CompactI
import Derived.ChangeSame
import Derived.OpenShut
import Derived.ProofKit
import Derived.Shelf.SlSortCmp.NoneTotal
import Derived.Shelf.Slices.Clone
set_option linter.unusedVariables false
set_option linter.unusedSimpArgs false
namespace Go.Abs
open Go.RowKit
theorem Zyp:type_of% @Nat.le_refl:=@Nat.le_refl
theorem Zy1:type_of% @Nat.le_trans:=@Nat.le_trans
theorem Zye:type_of% @List.getElem?_append_left:=@List.getElem?_append_left
theorem Zyd:type_of% @List.getElem?_append_right:=@List.getElem?_append_right
theorem ZzX:type_of% @Nat.or_lt_two_pow:=@Nat.or_lt_two_pow
theorem Z0v:type_of% @Nat.pow_lt_pow_right:=@Nat.pow_lt_pow_right
theorem ZxZ:type_of% @List.getElem?_eq_some_iff:=@List.getElem?_eq_some_iff
theorem Zyb:type_of% @List.mem_of_getElem?:=@List.mem_of_getElem?
theorem Zy7:type_of% @Nat.lt_of_lt_of_le:=@Nat.lt_of_lt_of_le
theorem Zy6:type_of% @Nat.lt_or_ge:=@Nat.lt_or_ge
theorem Zy3:type_of% @List.mem_singleton:=@List.mem_singleton
theorem ZyJ:type_of% @List.mem_cons:=@List.mem_cons
theorem Zyh:type_of% @List.getElem?_map:=@List.getElem?_map
theorem Zyw:type_of% @List.getElem?_eq_none:=@List.getElem?_eq_none
theorem Z0c:type_of% @Nat.le_of_not_lt:=@Nat.le_of_not_lt
theorem Zz6:type_of% @Nat.add_assoc:=@Nat.add_assoc
theorem Zya:type_of% @List.getElem?_eq_getElem:=@List.getElem?_eq_getElem
theorem Zyx:type_of% @List.getElem?_take:=@List.getElem?_take
theorem Zy8:type_of% @List.getElem?_drop:=@List.getElem?_drop
theorem Zyj:type_of% @List.getD_eq_getElem?_getD:=@List.getD_eq_getElem?_getD
theorem Zyn:type_of% @Array.getElem?_eq_getElem:=@Array.getElem?_eq_getElem
theorem Zz2:type_of% @Nat.add_comm:=@Nat.add_comm
theorem Zzi:type_of% @Nat.add_mul:=@Nat.add_mul
theorem Zyk:type_of% @Int.le_refl:=@Int.le_refl
theorem Z09:type_of% @Nat.zero_mul:=@Nat.zero_mul
theorem Zy5:type_of% @Option.map_some:=@Option.map_some
theorem Zyu:type_of% @Option.some.injEq:=@Option.some.injEq
theorem Zzo:type_of% @Prod.mk.injEq:=@Prod.mk.injEq
theorem ZyA:type_of% @Bool.eq_iff_iff:=@Bool.eq_iff_iff
theorem Zzq:type_of% @List.cons_append:=@List.cons_append
theorem ZyZ:type_of% @List.drop_eq_getElem_cons:=@List.drop_eq_getElem_cons
theorem Zz0:type_of% @List.length_pos_iff:=@List.length_pos_iff
theorem ZyQ:type_of% @Nat.zero_le:=@Nat.zero_le
theorem Zzb:type_of% @Array.getElem?_eq_none:=@Array.getElem?_eq_none
theorem Zzs:type_of% @Nat.lt_trichotomy:=@Nat.lt_trichotomy
theorem Z0r:type_of% @Nat.lt_irrefl:=@Nat.lt_irrefl
theorem Zys:type_of% @List.length_map:=@List.length_map
theorem Zym:type_of% @List.all_eq_true:=@List.all_eq_true
theorem ZyY:type_of% @Nat.mul_le_mul_right:=@Nat.mul_le_mul_right
theorem ZzE:type_of% @Nat.eq_zero_or_pos:=@Nat.eq_zero_or_pos
theorem Z0A:type_of% @Nat.mul_comm:=@Nat.mul_comm
theorem Z0f:type_of% @Nat.mod_lt:=@Nat.mod_lt
theorem ZzF:type_of% @Nat.mod_eq_of_lt:=@Nat.mod_eq_of_lt
theorem ZzN:type_of% @List.getElem?_range:=@List.getElem?_range
theorem ZzL:type_of% @List.flatten_cons:=@List.flatten_cons
theorem ZyR:type_of% @Int.toNat_natCast:=@Int.toNat_natCast
theorem Zy2:type_of% @Array.getElem?_toList:=@Array.getElem?_toList
theorem ZyK:type_of% @Nat.zero_add:=@Nat.zero_add
theorem Zz7:type_of% @Array.toList_setIfInBounds:=@Array.toList_setIfInBounds
theorem Zzj:type_of% @Nat.add_zero:=@Nat.add_zero
theorem Zyi:type_of% @Bool.and_eq_true:=@Bool.and_eq_true
theorem Zzl:type_of% @List.map_cons:=@List.map_cons
theorem Zyz:type_of% @List.mem_map:=@List.mem_map
theorem Zzd:type_of% @Bool.or_eq_true:=@Bool.or_eq_true
theorem Zyg:type_of% @List.length_append:=@List.length_append
theorem ZyE:type_of% @List.length_take:=@List.length_take
theorem ZzS:type_of% @List.length_drop:=@List.length_drop
theorem Z00:type_of% @Nat.min_eq_left:=@Nat.min_eq_left
theorem ZyC:type_of% @List.getElem?_set:=@List.getElem?_set
theorem Zy4:type_of% @List.mem_append:=@List.mem_append
theorem Z0w:type_of% @List.mem_of_mem_take:=@List.mem_of_mem_take
theorem ZyO:type_of% @List.mem_iff_getElem?:=@List.mem_iff_getElem?
theorem Zzg:type_of% @List.getElem_mem:=@List.getElem_mem
theorem ZzB:type_of% @Nat.not_lt_zero:=@Nat.not_lt_zero
theorem ZyS:type_of% @List.ext_getElem?:=@List.ext_getElem?
theorem Z0s:type_of% @List.all_cons:=@List.all_cons
theorem ZyF:type_of% @List.getElem?_of_mem:=@List.getElem?_of_mem
theorem ZyL:type_of% @Bool.true_and:=@Bool.true_and
theorem Z01:type_of% @List.nodup_cons:=@List.nodup_cons
theorem ZyG:type_of% @Option.map_eq_some_iff:=@Option.map_eq_some_iff
theorem Z0i:type_of% @List.find?_eq_none:=@List.find?_eq_none
theorem Zzy:type_of% @List.any_eq_true:=@List.any_eq_true
theorem ZzM:type_of% @List.getElem?_inj:=@List.getElem?_inj
theorem Zz1:type_of% @List.any_eq_false:=@List.any_eq_false
theorem Z0g:type_of% @Option.map_eq_none_iff:=@Option.map_eq_none_iff
theorem Z0n:type_of% @Array.getElem?_modify:=@Array.getElem?_modify
theorem ZyX:type_of% @List.map_append:=@List.map_append
theorem ZzA:type_of% @List.nodup_append:=@List.nodup_append
theorem Zzk:type_of% @Array.length_toList:=@Array.length_toList
theorem Zyc:type_of% @Option.some.inj:=@Option.some.inj
theorem Zyv:type_of% @Array.getElem?_eq_some_iff:=@Array.getElem?_eq_some_iff
theorem Zy9:type_of% @List.append_assoc:=@List.append_assoc
theorem Z0o:type_of% @List.getElem?_toArray:=@List.getElem?_toArray
theorem Zzw:type_of% @Nat.sub_self:=@Nat.sub_self
theorem ZzZ:type_of% @List.getElem?_cons_zero:=@List.getElem?_cons_zero
theorem ZzU:type_of% @List.mem_cons_self:=@List.mem_cons_self
theorem ZyW:type_of% @List.flatMap_cons:=@List.flatMap_cons
theorem Z0j:type_of% @Nat.succ_mul:=@Nat.succ_mul
theorem ZyN:type_of% @List.mem_cons_of_mem:=@List.mem_cons_of_mem
theorem Z0B:type_of% @Ne.symm:=@Ne.symm
theorem Zyy:type_of% @List.eq_nil_of_length_eq_zero:=@List.eq_nil_of_length_eq_zero
theorem Z07:type_of% @List.size_toArray:=@List.size_toArray
theorem Zz3:type_of% @List.length_nil:=@List.length_nil
theorem Zzp:type_of% @List.append_nil:=@List.append_nil
theorem ZzG:type_of% @List.mem_replicate:=@List.mem_replicate
theorem ZyB:type_of% @List.mem_filter:=@List.mem_filter
theorem ZzV:type_of% @Bool.or_eq_false_iff:=@Bool.or_eq_false_iff
theorem ZyM:type_of% @List.length_cons:=@List.length_cons
theorem ZyV:type_of% @Array.getElem?_setIfInBounds:=@Array.getElem?_setIfInBounds
theorem ZzJ:type_of% @Array.toArray_toList:=@Array.toArray_toList
theorem Z0F:type_of% @Option.bind_some:=@Option.bind_some
theorem Zzr:type_of% @List.map_congr_left:=@List.map_congr_left
theorem Zyo:type_of% @Array.getD_eq_getD_getElem?:=@Array.getD_eq_getD_getElem?
theorem Zy0:type_of% @Option.getD_some:=@Option.getD_some
theorem Z0d:type_of% @Nat.testBit_or:=@Nat.testBit_or
theorem Z0a:type_of% @Nat.testBit_two_pow:=@Nat.testBit_two_pow
theorem ZyP:type_of% @List.mem_range:=@List.mem_range
theorem Z0k:type_of% @List.count_pos_iff:=@List.count_pos_iff
theorem Z0z:type_of% @Array.getElem?_replicate:=@Array.getElem?_replicate
theorem Zyf:type_of% @decide_eq_true_eq:=@decide_eq_true_eq
theorem Z0p:type_of% @List.length_replicate:=@List.length_replicate
theorem ZyU:type_of% @of_decide_eq_true:=@of_decide_eq_true
theorem Z0C:type_of% @List.nodup_nil:=@List.nodup_nil
theorem Z0D:type_of% @Nat.le_of_eq:=@Nat.le_of_eq
theorem Zzf:type_of% @Bool.false_eq_true:=@Bool.false_eq_true
theorem ZyD:type_of% @List.take_add_one:=@List.take_add_one
theorem Zyl:type_of% @List.take_of_length_le:=@List.take_of_length_le
theorem ZzK:type_of% @List.any_eq_not_all_not:=@List.any_eq_not_all_not
theorem Z0x:type_of% @Nat.eq_of_testBit_eq:=@Nat.eq_of_testBit_eq
theorem Z02:type_of% @Nat.testBit_and:=@Nat.testBit_and
theorem ZzP:type_of% @List.drop_eq_nil_of_le:=@List.drop_eq_nil_of_le
theorem ZzO:type_of% @List.mem_map_of_mem:=@List.mem_map_of_mem
theorem Z0t:type_of% @List.all_eq_false:=@List.all_eq_false
theorem Z0q:type_of% @List.all_append:=@List.all_append
theorem Zzh:type_of% @Bool.eq_false_iff:=@Bool.eq_false_iff
theorem Zz5:type_of% @List.getElem?_cons_succ:=@List.getElem?_cons_succ
theorem Zyt:type_of% @List.length_singleton:=@List.length_singleton
theorem Zzz:type_of% @List.getLastD_eq_getLast?:=@List.getLastD_eq_getLast?
theorem ZzC:type_of% @List.getLast?_eq_getElem?:=@List.getLast?_eq_getElem?
theorem Zyq:type_of% @decide_eq_true:=@decide_eq_true
theorem Zyr:type_of% @decide_eq_false:=@decide_eq_false
theorem Z0h:type_of% @Nat.one_mul:=@Nat.one_mul
theorem Zzv:type_of% @Int.tmod_eq_emod_of_nonneg:=@Int.tmod_eq_emod_of_nonneg
theorem Z0l:type_of% @Nat.lt_or_eq_of_le:=@Nat.lt_or_eq_of_le
theorem Z08:type_of% @Nat.le_of_lt_succ:=@Nat.le_of_lt_succ
theorem ZyH:type_of% @List.length_filter_le:=@List.length_filter_le
theorem Zzx:type_of% @List.take_left':=@List.take_left'
theorem Z03:type_of% @List.nil_append:=@List.nil_append
theorem Zz4:type_of% @Nat.mul_one:=@Nat.mul_one
theorem ZyT:type_of% @List.set_append_right:=@List.set_append_right
theorem Zzc:type_of% @List.getElem?_set_self:=@List.getElem?_set_self
theorem ZyI:type_of% @List.take_append_drop:=@List.take_append_drop
theorem Zzn:type_of% @List.pairwise_iff_getElem:=@List.pairwise_iff_getElem
theorem Zzt:type_of% @Bool.not_eq_true':=@Bool.not_eq_true'
theorem Z0E:type_of% @Nat.mul_le_mul:=@Nat.mul_le_mul
theorem Z0y:type_of% @Int.mul_le_mul:=@Int.mul_le_mul
theorem ZzD:type_of% @Int.mul_le_mul_of_nonneg_right:=@Int.mul_le_mul_of_nonneg_right
theorem ZzQ:type_of% @Int.add_zero:=@Int.add_zero
theorem Zzm:type_of% @decide_eq_false_iff_not:=@decide_eq_false_iff_not
theorem ZzT:type_of% @Nat.zero_testBit:=@Nat.zero_testBit
theorem ZzY:type_of% @Bool.false_or:=@Bool.false_or
theorem Z0m:type_of% @Nat.testBit_two_pow_sub_one:=@Nat.testBit_two_pow_sub_one
theorem ZzH:type_of% @List.filter_append:=@List.filter_append
theorem Zz8:type_of% @List.map_map:=@List.map_map
theorem Z0e:type_of% @decide_eq_decide:=@decide_eq_decide
theorem Zze:type_of% @List.take_length:=@List.take_length
theorem Zzu:type_of% @Function.comp_def:=@Function.comp_def
theorem Z04:type_of% @List.Nodup.sublist:=@List.Nodup.sublist
theorem Z0b:type_of% @List.filter_sublist:=@List.filter_sublist
theorem Z05:type_of% @List.find?_cons:=@List.find?_cons
theorem ZzR:type_of% @List.getElem_cons_drop:=@List.getElem_cons_drop
theorem Zza:type_of% @List.flatMap_append:=@List.flatMap_append
theorem Zz9:type_of% @List.length_filter_lt_length_iff_exists:=@List.length_filter_lt_length_iff_exists
theorem ZzW:type_of% @List.map_nil:=@List.map_nil
theorem ZzI:type_of% @List.pairwise_cons:=@List.pairwise_cons
theorem Z06:type_of% @List.mem_eraseDups:=@List.mem_eraseDups
theorem Z0G:type_of% @List.mem_flatten:=@List.mem_flatten
theorem Z0u:type_of% @Decidable.not_not:=@Decidable.not_not
structure Below (B:Nat) (w w':World):Prop where
 os:w'.os=w.os
 tape:w'.tape=w.tape
 output:w'.output=w.output
 size:w.heap.size<=w'.heap.size
 block:∀k,k<B->w'.heap[k]?=w.heap[k]?
 more:w.drawn<=w'.drawn
theorem Below.kit {B:Nat} {w w':World} (h:Below B w w'):Go.RowKit.Below B w w':=⟨h.os,h.tape,h.output,h.size,h.block⟩
theorem Below.of {B:Nat} {w w':World} (h:Go.RowKit.Below B w w') (hm:w.drawn<=w'.drawn):Below B w w':=⟨h.os,h.tape,h.output,h.size,h.block,hm⟩
theorem Below.refl (B:Nat) (w:World):Below B w w:=⟨rfl,rfl,rfl,Zyp _,λ _ _=>rfl,Zyp _⟩
theorem Below.trans {B:Nat} {a b c:World} (h:Below B a b) (k:Below B b c):Below B a c:=.of (h.kit.trans k.kit) (Zy1 h.more k.more)
theorem Below.mono {B B':Nat} {w w':World} (h:Below B w w') (hB:B'<=B):Below B' w w':=.of (h.kit.mono hB) h.more
theorem Below.drew {B:Nat} {a w:World} (h:Below B a w):Below B a w.drew:=.of h.kit.drew (Zy1 h.more (Nat.le_succ _))
theorem Below.heap_alloc (w:World) (o:Obj) (k:Nat) (h:k<w.heap.size):(w.alloc o).heap[k]?=w.heap[k]?:=Go.RowKit.Below.heap_alloc w o k h
theorem Below.alloc {B:Nat} {a w:World} (h:Below B a w) (hB:B<=w.heap.size) (o:Obj):Below B a (w.alloc o):=.of (h.kit.alloc hB o) h.more
theorem Below.grown {B:Nat} {a w w':World} {row:Option Nat} (h:Below B a w) (hg:w.grownBy w' row) (hm:w.drawn<=w'.drawn) (hB:B<=w.heap.size) (hr:∀k,row=some k->B<=k):Below B a w':=.of (h.kit.grown hg hB hr) (Zy1 h.more hm)
theorem Below.frame {W w':World} (h:Below W.heap.size W w') (may:MemPlace->Prop):W.keptBut w' may:=h.kit.frame may
theorem Below.same {W w':World} (h:Below W.heap.size W w') {p:MemPlace} (hp:p.block<W.heap.size):W.sameAt w' p:=h.kit.same hp
inductive PV where
 | any
 | int (k:IntKind) (n:Int)
 | bool (b:Bool)
 | str (s:ByteArray)
 | agg (cs:List PV)
 | tup (vs:List PV)
 | list (m:Nat) (xs:List PV)
 | ptr (cs:List PV) (off:Nat)
 | fn (f:FuncId) (caps:List PV)
 | yld (l:Nat)
 | ref
 | map (ks vs:List PV)
instance:Inhabited PV:=⟨.any⟩
def PV.cells:PV->List PV
 | .agg cs=>cs
 | x=>[x]
def PV.flat1:PV->Bool
 | .int _ _ | .bool _ | .str _=>true
 | _=>false
def PV.flat:PV->Bool
 | .agg cs=>cs.all PV.flat1
 | p=>p.flat1
def PV.toVal1:PV->Value
 | .int k n=>.int k n
 | .bool b=>.bool b
 | .str s=>.string s
 | _=>undef
def PV.toVal:PV->Value
 | .agg cs=>.agg (cs.map PV.toVal1).toArray
 | p=>p.toVal1
structure ZbM (es:List (PV × PV)) (arr:Array MapEntry) (clock:Nat):Prop where
 len:es.length=arr.size
 key:∀(i:Nat) (p:PV × PV) (x:MapEntry),es[i]?=some p->arr[i]?=some x->p.1.flat=true/\x.key=p.1.toVal
 born:∀x∈arr.toList,x.born<clock
 nodB:(arr.toList.map (·.born)).Nodup
 nodK:(es.map (·.1)).Nodup
def Qq (w w':World) (a:Addr):Prop:=w'.cell? a=w.cell? a/\∀(es:Array MapEntry) (c:Nat),w.heap[a.block]?=some (.map es c)->w'.heap[a.block]?=some (.map es c)
theorem Qq.refl (w:World) (a:Addr):Qq w w a:=⟨rfl,λ _ _ h=>h⟩
theorem Qq.trans {w w' w'':World} {a:Addr} (k:Qq w' w'' a) (h:Qq w w' a):Qq w w'' a:=⟨k.1.trans h.1,λ es c e=>k.2 es c (h.2 es c e)⟩
theorem Qq.of_block {w w':World} {a:Addr} (h:w'.heap[a.block]?=w.heap[a.block]?):Qq w w' a:=⟨World.cell?_of_block h,λ _ _ e=>h.trans e⟩
theorem Qq.of_cells {w w':World} {a:Addr} {arr:Array Value} {t:TypeId} {m:Nat × Nat} (hc:w'.cell? a=w.cell? a) (h:w.heap[a.block]?=some (.cells arr t m)):Qq w w' a:=⟨hc,λ es c e=>by rw [h] at e;cases e⟩
inductive RV (S:Addr->Prop) (w:World):PV->Value->Prop
 | any (v:Value):RV S w .any v
 | int (k:IntKind) (n:Int):RV S w (.int k n) (.int k n)
 | bool (b:Bool):RV S w (.bool b) (.bool b)
 | str (s:ByteArray):RV S w (.str s) (.string s)
 | agg (cs:List PV) (vs:List Value) (hl:cs.length=vs.length)
   (h:∀(i:Nat) (c:PV) (v:Value),cs[i]?=some c->vs[i]?=some v->RV S w c v):RV S w (.agg cs) (.agg vs.toArray)
 | tup (cs:List PV) (vs:List Value) (hl:cs.length=vs.length)
   (h:∀(i:Nat) (c:PV) (v:Value),cs[i]?=some c->vs[i]?=some v->RV S w c v):RV S w (.tup cs) (.tuple vs.toArray)
 | list (m:Nat) (xs:List PV) (a:Option Addr) (ad:Addr) (cap:Nat) (g:Nat->Nat->Value)
   (ha:xs≠[]->a=some ad) (hcap:xs.length<=cap) (hmax:cap<=maxLen)
   (hm:∀(i:Nat) (x:PV),xs[i]?=some x->x.cells.length=m)
   (hc:∀(i:Nat) (x:PV) (j:Nat) (c:PV),xs[i]?=some x->x.cells[j]?=some c ->
    S (ad.add (i*m+j))/\w.cell? (ad.add (i*m+j))=some (g i j)/\(g i j).oneCell'=true)
   (hr:∀(i:Nat) (x:PV) (j:Nat) (c:PV),xs[i]?=some x->x.cells[j]?=some c->RV S w c (g i j))
   (hz:m=0->cap=0) :
   RV S w (.list m xs) (.slice a xs.length cap)
 | ptr (cs:List PV) (off:Nat) (ad:Addr) (g:Nat->Value)
   (hc:∀(j:Nat) (c:PV),cs[j]?=some c->S (ad.add j)/\w.cell? (ad.add j)=some (g j)/\(g j).oneCell'=true)
   (hr:∀(j:Nat) (c:PV),cs[j]?=some c->RV S w c (g j)):RV S w (.ptr cs off) (.pointer (some (ad.add off)))
 | fn (f:FuncId) (caps:List PV) (vs:List Value) (hl:caps.length=vs.length)
   (h:∀(i:Nat) (c:PV) (v:Value),caps[i]?=some c->vs[i]?=some v->RV S w c v):RV S w (.fn f caps) (.func (.func f) #[] vs.toArray)
 | yld (l:Nat):RV S w (.yld l) (.func (.yield l) #[] #[])
 | ref (v:Value) (h:v.oneCell'=true):RV S w .ref v
 | mapNil:RV S w (.map [] []) (.map none)
 | map (ks vs:List PV) (es:List (PV × PV)) (b:Nat) (arr:Array MapEntry) (clock:Nat) (hp:es.Perm (ks.zip vs)) (hl:ks.length=vs.length) (hS:S ⟨b,0,none⟩) (hb:w.heap[b]?=some (.map arr clock)) (he:ZbM es arr clock)
   (hv:∀(i:Nat) (p:PV × PV) (x:MapEntry),es[i]?=some p->arr[i]?=some x->RV S w p.2 x.val):RV S w (.map ks vs) (.map (some b))
theorem RV.mono {S S':Addr->Prop} {w w':World} (hS:∀a,S a->S' a) (hw:∀a,S a->Qq w w' a) {p:PV} {v:Value} (h:RV S w p v):RV S' w' p v:=by
 induction h with
 | any v=>exact .any v
 | int k n=>exact .int k n
 | bool b=>exact .bool b
 | str s=>exact .str s
 | agg cs vs hl _ ih=>exact .agg cs vs hl ih
 | tup cs vs hl _ ih=>exact .tup cs vs hl ih
 | list m xs a ad cap g ha hcap hmax hm hc _ hz ih =>
  exact .list m xs a ad cap g ha hcap hmax hm (λ i x j c h1 h2=>let ⟨a1,a2,a3⟩:=hc i x j c h1 h2;⟨hS _ a1,(hw _ a1).1.trans a2,a3⟩) ih hz
 | ptr cs off ad g hc _ ih =>
  exact .ptr cs off ad g (λ j c h1=>let ⟨a1,a2,a3⟩:=hc j c h1;⟨hS _ a1,(hw _ a1).1.trans a2,a3⟩) ih
 | fn f caps vs hl _ ih=>exact .fn f caps vs hl ih
 | yld l=>exact .yld l
 | ref v h=>exact .ref v h
 | mapNil=>exact .mapNil
 | map ks vs es b arr clock hp hl h1 h2 he _ ih=>exact .map ks vs es b arr clock hp hl (hS _ h1) ((hw _ h1).2 _ _ h2) he ih
def RVs (S:Addr->Prop) (w:World) (ps:List PV) (vs:List Value):Prop :=
 ps.length=vs.length/\∀(i:Nat) (p:PV) (v:Value),ps[i]?=some p->vs[i]?=some v->RV S w p v
theorem RVs.mono {S S':Addr->Prop} {w w':World} (hS:∀a,S a->S' a) (hw:∀a,S a->Qq w w' a) {ps:List PV} {vs:List Value} (h:RVs S w ps vs):RVs S' w' ps vs :=
 ⟨h.1,λ i p v h1 h2=>(h.2 i p v h1 h2).mono hS hw⟩
theorem RVs.nil {S:Addr->Prop} {w:World}:RVs S w [] []:=⟨rfl,λ i p v h=>by simp at h⟩
theorem RVs.cons {S:Addr->Prop} {w:World} {p:PV} {v:Value} {ps:List PV} {vs:List Value} (h:RV S w p v) (hs:RVs S w ps vs):RVs S w (p::ps) (v::vs) :=
 ⟨by simp [hs.1],λ i q u h1 h2=>by
  cases i with
  | zero=>simp at h1 h2;subst h1;subst h2;exact h
  | succ i=>exact hs.2 i q u (by simpa using h1) (by simpa using h2)⟩
theorem RVs.append {S:Addr->Prop} {w:World} {ps qs:List PV} {vs us:List Value} (h:RVs S w ps vs) (h':RVs S w qs us):RVs S w (ps++qs) (vs++us) :=
 ⟨by simp [h.1,h'.1],λ i q u h1 h2=>by
  by_cases hi:i<ps.length
  ·rw [Zye hi] at h1
   rw [Zye (by rw [<-h.1];exact hi)] at h2
   exact h.2 i q u h1 h2
  ·rw [Zyd (by omega)] at h1
   rw [Zyd (by rw [<-h.1];omega),<-h.1] at h2
   exact h'.2 _ q u h1 h2⟩
theorem RV.agg_iff {S:Addr->Prop} {w:World} {cs:List PV} {v:Value} (h:RV S w (.agg cs) v):∃vs:List Value,v=.agg vs.toArray/\RVs S w cs vs:=by
 cases h with
 | agg _ vs hl h=>exact ⟨vs,rfl,hl,h⟩
theorem RV.tup_iff {S:Addr->Prop} {w:World} {cs:List PV} {v:Value} (h:RV S w (.tup cs) v):∃vs:List Value,v=.tuple vs.toArray/\RVs S w cs vs:=by
 cases h with
 | tup _ vs hl h=>exact ⟨vs,rfl,hl,h⟩
def ZnS (S:Addr->Prop) (w w':World):Addr->Prop:=λ a=>S a\/(w.heap.size<=a.block/\a.block<w'.heap.size)
def ZaJ (P:Program) (f:FuncId):Prop:=∀(args:Array Value) (w:World),(callFunc f args).run P w=.ok (.enter f args) w
def Zc (P:Program) (f:FuncId) (args:List PV) (r:PV):Prop :=
 ZaJ P f/\∀(S:Addr->Prop) (w:World) (vs:List Value),(∀a,S a->a.block<w.heap.size)->RVs S w args vs ->
  Calls P f vs.toArray w λ e w'=>∃v,e=.returned v/\Below w.heap.size w w'/\RV (ZnS S w w') w' r v
inductive TK where
 | int (k:IntKind) | bool | str | slice (e:TypeId) | struct (fs:List (Nat × TypeId)) | array (n:Nat) (e:TypeId) | ptr (e:TypeId) | map (k e:TypeId) | func | other
inductive SK where
 | int | bool | str
structure TD where
 k:TK
 size:Nat
 bytes:Nat
 agg:Bool
 eq:Option (List SK)
 zero:List PV
instance:Inhabited TD:=⟨⟨.other,0,0,false,none,[]⟩⟩
structure ZgS (F:Nat->Prop) (S S':Addr->Prop) (w w':World):Prop where
 calm:Below 0 w w'
 same:∀b,F b->w'.heap[b]?=w.heap[b]?
 sub:∀a,S a->S' a
 cell:∀a,S a->Qq w w' a
 new:∀a,S' a->S a\/¬F a.block
 slt:∀a,S' a->a.block<w'.heap.size
def ZmB (an:Bool) (ys:List (List PV)) (k:Nat) (ps:List PV) (k':Nat):Prop :=
 match an with
 | true=>k<2 ^ ys.length/\∃i,ys[i]?=some ps/\k.testBit i=false/\k'=k ||| 2 ^ i
 | false=>ys[k]?=some ps/\k'=k+1
def Ziz (an:Bool) (ys:List (List PV)) (k:Nat):Prop:=match an with | true=>k+1=2 ^ ys.length | false=>k=ys.length
def ZbK (an:Bool) (ys:List (List PV)):Nat:=match an with | true=>2 ^ ys.length | false=>ys.length+1
theorem Zve {an:Bool} {ys:List (List PV)} {k k':Nat} {ps:List PV} (h:ZmB an ys k ps k') (hk:k<ZbK an ys):k'<ZbK an ys:=by
 cases an with
 | true =>
  obtain ⟨_,i,h1,_,rfl⟩:=h
  exact ZzX hk (Z0v (by omega) (ZxZ.1 h1).1)
 | false =>
  obtain ⟨h1,rfl⟩:=h
  have:=(ZxZ.1 h1).1
  show k+1<ys.length+1
  omega
theorem Zjs {an:Bool} {ys:List (List PV)} {k k':Nat} {ps:List PV} (h:ZmB an ys k ps k'):ps∈ys:=by
 cases an with
 | true=>obtain ⟨_,i,h1,_⟩:=h;exact Zyb h1
 | false=>exact Zyb h.1
theorem Zt0 {an:Bool} {ys:List (List PV)} {k k':Nat} {ps:List PV} (h:ZmB an ys k ps k'):k<ZbK an ys:=by
 cases an with
 | true=>exact h.1
 | false =>
  have:=(ZxZ.1 h.1).1
  show k<ys.length+1
  omega
theorem Zvf (an:Bool) (ys:List (List PV)):0<ZbK an ys:=by
 cases an with
 | true=>exact Nat.pow_pos (by omega)
 | false=>exact Nat.succ_pos _
structure YS where
 l:Nat
 ys:List (List PV)
 any:Bool
 J:Nat->(Nat->Prop)->(Addr->Prop)->World->Prop
 ok:∀(k:Nat) (F:Nat->Prop) (S S':Addr->Prop) (w w':World),J k F S w->ZgS F S S' w w'->J k F S' w'
def YS.none:YS:=⟨0,[],false,λ _ _ _ _=>True,λ _ _ _ _ _ _ h _=>h⟩
instance:Inhabited YS:=⟨.none⟩
structure Env where
 P:Program
 T:TypeId->TD
 clo:FuncId->Bool
 rows:Bool
 Y:YS
inductive Cap where
 | pv (p:PV)
 | box (id off:Nat)
inductive SV where
 | undef
 | val (p:PV)
 | lit (m:Nat) (xs:List PV)
 | own (t:Nat) (m:Nat) (xs:List PV)
 | box (id off:Nat)
 | msl (id off len:Nat)
 | clo (f:FuncId) (caps:List Cap)
 | rbx (id off i m k:Nat)
 | mp (id:Nat)
 | row (id off m len cap:Nat)
 | it (id:Nat)
 | mtup (id:Nat) (ps:List PV)
instance:Inhabited SV:=⟨.undef⟩
def SV.pv:SV->Option PV
 | .val p=>some p
 | .lit m xs=>some (.list m xs)
 | .own _ m xs=>some (.list m xs)
 | .mp _=>some .ref
 | _=>none
inductive ZaK where
 | plain (k e:TypeId) (n:Nat)
 | ents (es:List (PV × PV)) (mk:Option (PV × Int))
 | iter (src:Option Nat) (es:List (PV × PV)) (left:List PV) (cur:Option PV)
 | gone
structure Ax where
 mp:List ZaK
 yk:Nat
structure St where
 sl:List SV
 bx:List (Option (List SV))
 tk:List (Nat × TypeId)
 ax:Ax
structure Gh where
 bx:List Nat
 tk:List Value
 mp:List Nat
 fp:Nat->Prop
def Zag (G:Gh) (b:Nat):Prop :=
 (∃i:Nat,G.bx[i]?=some b)\/(∃t n cap:Nat,G.tk[t]?=some (.slice (some ⟨b,0,none⟩) n cap)/\n<cap)\/(∃i:Nat,G.mp[i]?=some b)\/G.fp b
def ZmC (G:Gh) (S:Addr->Prop) (w:World):Cap->Value->Prop
 | .pv p,v=>RV S w p v
 | .box id off,v=>∃b,G.bx[id]?=some b/\v=.pointer (some ⟨b,off,none⟩)
def RSV (tk:List (Nat × TypeId)) (G:Gh) (S:Addr->Prop) (w:World):SV->Value->Prop
 | .undef,v=>v=Go.undef
 | .val p,v=>RV S w p v
 | .lit m xs,v=>RV S w (.list m xs) v/\∃a,v=.slice a xs.length xs.length
 | .own t m xs,v=>RV S w (.list m xs) v/\∃hv le,G.tk[t]?=some hv/\tk[t]?=some le/\xs.length<=le.1/\(xs.length=le.1->v=hv)
 | .box id off,v=>∃b,G.bx[id]?=some b/\v=.pointer (some ⟨b,off,none⟩)
 | .msl id off len,v=>∃b cap,G.bx[id]?=some b/\v=.slice (some ⟨b,off,none⟩) len cap/\len<=cap/\cap<=maxLen
 | .clo f caps,v=>∃vs:List Value,v=.func (.func f) #[] vs.toArray/\caps.length=vs.length/\∀(i:Nat) (c:Cap) (u:Value),caps[i]?=some c->vs[i]?=some u->ZmC G S w c u
 | .rbx id off i m k,v=>∃b,G.bx[id]?=some b/\v=.pointer (some ⟨b,off+i*m+k,none⟩)
 | .mp id,v=>∃b,G.mp[id]?=some b/\v=.map (some b)
 | .row id off _ len cap,v=>∃b,G.bx[id]?=some b/\v=.slice (some ⟨b,off,none⟩) len cap/\len<=cap/\cap<=maxLen
 | .it id,v=>∃b,G.mp[id]?=some b/\v=.pointer (some ⟨b,0,none⟩)
 | .mtup id ps,v=>∃(b:Nat) (vs:List Value),G.mp[id]?=some b/\v=.tuple (.map (some b)::vs).toArray/\RVs S w ps vs
def SV.norm:SV->SV
 | .rbx id off i m k=>.box id (off+i*m+k)
 | s=>s
theorem RSV.norm {tk:List (Nat × TypeId)} {G:Gh} {S:Addr->Prop} {w:World} {s:SV} {v:Value} (h:RSV tk G S w s v):RSV tk G S w s.norm v:=by
 cases s<;>exact h
def SV.litz:SV->SV
 | .val (.list 0 [])=>.lit 0 []
 | s=>s
theorem RSV.litz {tk:List (Nat × TypeId)} {G:Gh} {S:Addr->Prop} {w:World} {s:SV} {v:Value} (h:RSV tk G S w s v):RSV tk G S w s.litz v:=by
 unfold SV.litz
 split
 ·have h':RV S w (.list 0 []) v:=h
  cases h' with
  | list _ _ a ad cap g ha hcap hmax hm hc hr hz =>
   obtain rfl:=hz rfl
   exact ⟨h,a,rfl⟩
 ·exact h
def SV.litE:SV->SV
 | .lit _ []=>.lit 0 []
 | s=>s
structure Ext (tk:List (Nat × TypeId)) (G:Gh) (S:Addr->Prop) (w:World) (tk':List (Nat × TypeId)) (G':Gh) (S':Addr->Prop) (w':World):Prop where
 bx:∀(i b:Nat),G.bx[i]?=some b->G'.bx[i]?=some b
 tk:∀(t:Nat) (hv:Value) (le:Nat × TypeId),G.tk[t]?=some hv->tk[t]?=some le ->
  ∃hv' le',G'.tk[t]?=some hv'/\tk'[t]?=some le'/\((le'=le/\hv'=hv)\/le.1<le'.1)
 sub:∀a,S a->S' a
 cell:∀a,S a->Qq w w' a
 mp:∀(i b:Nat),G.mp[i]?=some b->G'.mp[i]?=some b
 calm:Below 0 w w'
 same:∀b,b<w.heap.size->¬Zag G b->w'.heap[b]?=w.heap[b]?
 foot:∀b,b<w.heap.size->Zag G' b->Zag G b
 new:∀a,S' a->S a\/Zag G a.block\/w.heap.size<=a.block
theorem Ext.refl (tk:List (Nat × TypeId)) (G:Gh) (S:Addr->Prop) (w:World):Ext tk G S w tk G S w :=
 ⟨λ _ _ h=>h,λ _ hv le h1 h2=>⟨hv,le,h1,h2,.inl ⟨rfl,rfl⟩⟩,λ _ h=>h,λ _ _=>Qq.refl _ _,λ _ _ h=>h,Below.refl _ _,λ _ _ _=>rfl,λ _ _ h=>h,λ _ h=>.inl h⟩
theorem Ext.trans {tk tk' tk'':List (Nat × TypeId)} {G G' G'':Gh} {S S' S'':Addr->Prop} {w w' w'':World} (h:Ext tk G S w tk' G' S' w') (k:Ext tk' G' S' w' tk'' G'' S'' w'') :
  Ext tk G S w tk'' G'' S'' w'':=by
 refine ⟨λ i b hb=>k.bx _ _ (h.bx _ _ hb),λ t hv le h1 h2=>?_,λ a ha=>k.sub _ (h.sub _ ha),λ a ha=>(k.cell _ (h.sub _ ha)).trans (h.cell _ ha),λ i b hb=>k.mp _ _ (h.mp _ _ hb),h.calm.trans k.calm,
  λ b hb hf=>(k.same b (Zy7 hb h.calm.size) (λ hf'=>hf (h.foot b hb hf'))).trans (h.same b hb hf),λ b hb hf=>h.foot b hb (k.foot b (Zy7 hb h.calm.size) hf),λ a ha=>?_⟩
 rotate_left
 ·rcases k.new a ha with h1 | h1 | h1
  ·exact h.new a h1
  ·rcases Zy6 a.block w.heap.size with h2 | h2
   ·exact .inr (.inl (h.foot _ h2 h1))
   ·exact .inr (.inr h2)
  ·exact .inr (.inr (Zy1 h.calm.size h1))
 obtain ⟨hv1,le1,a1,a2,a3⟩:=h.tk t hv le h1 h2
 obtain ⟨hv2,le2,b1,b2,b3⟩:=k.tk t hv1 le1 a1 a2
 refine ⟨hv2,le2,b1,b2,?_⟩
 rcases a3 with ⟨rfl,rfl⟩ | a3
 ·exact b3
 ·rcases b3 with ⟨rfl,rfl⟩ | b3
  ·exact .inr a3
  ·exact .inr (by omega)
structure ZgT (tk:List (Nat × TypeId)) (G:Gh) (S:Addr->Prop) (w:World) (tk':List (Nat × TypeId)) (G':Gh) (S':Addr->Prop) (w':World):Prop where
 bx:∀(i b:Nat),G.bx[i]?=some b->G'.bx[i]?=some b
 tk:∀(t:Nat) (hv:Value) (le:Nat × TypeId),G.tk[t]?=some hv->tk[t]?=some le ->
  ∃hv' le',G'.tk[t]?=some hv'/\tk'[t]?=some le'/\((le'=le/\hv'=hv)\/le.1<le'.1)
 sub:∀a,S a->S' a
 cell:∀a,S a->Qq w w' a
 mp:∀(i b:Nat),G.mp[i]?=some b->G'.mp[i]?=some b
theorem Ext.to0 {tk tk':List (Nat × TypeId)} {G G':Gh} {S S':Addr->Prop} {w w':World} (h:Ext tk G S w tk' G' S' w'):ZgT tk G S w tk' G' S' w':=⟨h.bx,h.tk,h.sub,h.cell,h.mp⟩
theorem ZgT.tkTrans {tk tk' tk'':List (Nat × TypeId)} {G G' G'':Gh} {S S' S'':Addr->Prop} {w w' w'':World} (h:ZgT tk G S w tk' G' S' w') (k:ZgT tk' G' S' w' tk'' G'' S'' w'') :
  ∀(t:Nat) (hv:Value) (le:Nat × TypeId),G.tk[t]?=some hv->tk[t]?=some le->∃hv' le',G''.tk[t]?=some hv'/\tk''[t]?=some le'/\((le'=le/\hv'=hv)\/le.1<le'.1):=by
 intro t hv le h1 h2
 obtain ⟨hv1,le1,a1,a2,a3⟩:=h.tk t hv le h1 h2
 obtain ⟨hv2,le2,b1,b2,b3⟩:=k.tk t hv1 le1 a1 a2
 refine ⟨hv2,le2,b1,b2,?_⟩
 rcases a3 with ⟨rfl,rfl⟩ | a3
 ·exact b3
 ·rcases b3 with ⟨rfl,rfl⟩ | b3
  ·exact .inr a3
  ·exact .inr (by omega)
theorem Ext.step {tk tk' tk'':List (Nat × TypeId)} {G G' G'':Gh} {S S':Addr->Prop} {w w':World} (h:Ext tk G S w tk' G' S' w') (k:ZgT tk' G' S' w' tk'' G'' S' w') (hf:∀b,b<w.heap.size->Zag G'' b->Zag G' b):Ext tk G S w tk'' G'' S' w' :=
 ⟨λ i b hb=>k.bx _ _ (h.bx _ _ hb),h.to0.tkTrans k,h.sub,h.cell,λ i b hb=>k.mp _ _ (h.mp _ _ hb),h.calm,h.same,λ b hb hf'=>h.foot b hb (hf b hb hf'),h.new⟩
theorem ZmC.mono0 {tk tk':List (Nat × TypeId)} {G G':Gh} {S S':Addr->Prop} {w w':World} (h:ZgT tk G S w tk' G' S' w') {c:Cap} {v:Value} (hs:ZmC G S w c v):ZmC G' S' w' c v:=by
 cases c with
 | pv p=>exact RV.mono h.sub h.cell hs
 | box id off=>obtain ⟨b,h1,h2⟩:=hs;exact ⟨b,h.bx _ _ h1,h2⟩
theorem RSV.mono0 {tk tk':List (Nat × TypeId)} {G G':Gh} {S S':Addr->Prop} {w w':World} (h:ZgT tk G S w tk' G' S' w') {s:SV} {v:Value} (hs:RSV tk G S w s v):RSV tk' G' S' w' s v:=by
 cases s with
 | undef=>exact hs
 | val p=>exact RV.mono h.sub h.cell hs
 | lit m xs=>exact ⟨RV.mono h.sub h.cell hs.1,hs.2⟩
 | own t m xs =>
  obtain ⟨h1,hv,le,h2,h3,h4,h5⟩:=hs
  obtain ⟨hv',le',k1,k2,k3⟩:=h.tk t hv le h2 h3
  refine ⟨RV.mono h.sub h.cell h1,hv',le',k1,k2,?_,?_⟩
  ·rcases k3 with ⟨rfl,_⟩ | k3<;>omega
  ·rcases k3 with ⟨rfl,rfl⟩ | k3
   ·exact h5
   ·intro e;omega
 | box id off=>obtain ⟨b,h1,h2⟩:=hs;exact ⟨b,h.bx _ _ h1,h2⟩
 | msl id off len=>obtain ⟨b,cap,h1,h2⟩:=hs;exact ⟨b,cap,h.bx _ _ h1,h2⟩
 | clo f caps =>
  obtain ⟨vs,h1,h2,h3⟩:=hs
  exact ⟨vs,h1,h2,λ i c u a b=>ZmC.mono0 h (h3 i c u a b)⟩
 | rbx id off i m k=>obtain ⟨b,h1,h2⟩:=hs;exact ⟨b,h.bx _ _ h1,h2⟩
 | mp id=>obtain ⟨b,h1,h2⟩:=hs;exact ⟨b,h.mp _ _ h1,h2⟩
 | row id off m len cap=>obtain ⟨b,h1,h2⟩:=hs;exact ⟨b,h.bx _ _ h1,h2⟩
 | it id=>obtain ⟨b,h1,h2⟩:=hs;exact ⟨b,h.mp _ _ h1,h2⟩
 | mtup id ps=>obtain ⟨b,vs,h1,h2,h3⟩:=hs;exact ⟨b,vs,h.mp _ _ h1,h2,h3.mono h.sub h.cell⟩
theorem RSV.mono {tk tk':List (Nat × TypeId)} {G G':Gh} {S S':Addr->Prop} {w w':World} (h:Ext tk G S w tk' G' S' w') {s:SV} {v:Value} (hs:RSV tk G S w s v):RSV tk' G' S' w' s v:=RSV.mono0 h.to0 hs
theorem RSV.pv {tk:List (Nat × TypeId)} {G:Gh} {S:Addr->Prop} {w:World} {s:SV} {v:Value} {p:PV} (h:RSV tk G S w s v) (hp:s.pv=some p):RV S w p v:=by
 cases s with
 | undef=>cases hp
 | val q=>cases hp;exact h
 | lit m xs=>cases hp;exact h.1
 | own t m xs=>cases hp;exact h.1
 | box id off=>cases hp
 | msl id off len=>cases hp
 | clo f caps=>cases hp
 | rbx id off i m k=>cases hp
 | mp id=>cases hp;obtain ⟨b,_,rfl⟩:=h;exact .ref _ rfl
 | row id off m len cap=>cases hp
 | it id=>cases hp
 | mtup id ps=>cases hp
def Zjt (S:Addr->Prop) (w:World) (b:Nat) (es:List (PV × PV)) (mk:Option (PV × Int)):Prop :=
 ∃(arr:Array MapEntry) (clock:Nat) (es0:List (PV × PV)),w.heap[b]?=some (.map arr clock)/\es0.Perm es/\ZbM es0 arr clock /\
  (∀(i:Nat) (p:PV × PV) (x:MapEntry),es0[i]?=some p->arr[i]?=some x->RV S w p.2 x.val)/\∀(k:PV) (n:Int),mk=some (k,n)->∃x∈arr.toList,x.key=k.toVal/\(x.born:Int)=n
def Zgt (w:World) (b bm:Nat) (left:List PV) (cur:Option PV):Prop :=
 ∃(arr:Array MapEntry) (clock since:Nat) (seen:Array Nat) (last:Nat),w.heap[bm]?=some (.map arr clock)/\w.heap[b]?=some (.mapIter (some bm) since seen last)/\(∀x∈arr.toList,x.born<since)/\since<=last/\since<=clock /\
  left.Nodup/\(∀k∈left,k.flat=true/\∃x∈arr.toList,x.key=k.toVal/\seen.contains x.born=false)/\(∀x∈arr.toList,seen.contains x.born=false->∃k∈left,x.key=k.toVal) /\
  ∀k,cur=some k->(last=clock/\k.flat=true)/\∃x∈arr.toList,x.key=k.toVal/\seen.back?=some x.born
def ZaD (E:Env) (M:List Nat) (S:Addr->Prop) (w:World) (b:Nat):ZaK->Prop
 | .plain k e n=>(∃D:DataW Unit,w.ownsMap E.P k (plainElem E.P e) b n D)/\∀a,S a->a.block≠b
 | .ents es mk=>Zjt S w b es mk/\∀a,S a->a.block≠b
 | .iter (some m) _ left cur=>(∃bm,M[m]?=some bm/\Zgt w b bm left cur)/\∀a,S a->a.block≠b
 | .iter none es left cur=>((w.heap[b]?=some (.mapIter none 0 #[] 0)/\left=[]/\cur=none)\/∃bm,S ⟨bm,0,none⟩/\Zjt S w bm es none/\Zgt w b bm left cur)/\∀a,S a->a.block≠b
 | .gone=>True
structure Inv (E:Env) (B:Nat) (S0:Addr->Prop) (bx:List (Option (List SV))) (tk:List (Nat × TypeId)) (ax:Ax) (G:Gh) (S:Addr->Prop) (w:World):Prop where
 base:B<=w.heap.size
 s0:∀a,S a->S0 a\/B<=a.block
 slt:∀a,S a->a.block<w.heap.size
 lbx:G.bx.length=bx.length
 ltk:G.tk.length=tk.length
 old:∀(i b:Nat),G.bx[i]?=some b->B<=b/\b<w.heap.size
 dist:∀(i j b:Nat),G.bx[i]?=some b->G.bx[j]?=some b->i=j
 box:∀(id b:Nat) (cs:List SV),bx[id]?=some (some cs)->G.bx[id]?=some b->(∃(t:TypeId) (arr:Array Value),w.heap[b]?=some (.cells arr t (0,0)) /\
  arr.size=cs.length/\∀(j:Nat) (c:SV) (v:Value),cs[j]?=some c->arr[j]?=some v->RSV tk G S w c v/\v.oneCell'=true)/\∀a,S a->a.block≠b
 tok:∀(t n:Nat) (e:TypeId) (hv:Value),tk[t]?=some (n,e)->G.tk[t]?=some hv->∃a cap,hv=.slice a n cap/\n<=cap/\cap<=maxLen /\
  (n<cap->∃(g:Nat) (cur:Array Value),a=some ⟨g,0,none⟩/\B<=g/\w.heap[g]?=some (.cells cur e (0,0))/\cur.size=cap*(E.T e).size /\
   (∀a,S a->a.block=g->a.off<n*(E.T e).size)/\(∀(i:Nat),G.bx[i]?≠some g))
 apart:∀(t t' n n' cap cap' g:Nat),t≠t'->G.tk[t]?=some (.slice (some ⟨g,0,none⟩) n cap)->n<cap->G.tk[t']?≠some (.slice (some ⟨g,0,none⟩) n' cap')\/n' ≥ cap'
 lmp:G.mp.length=ax.mp.length
 dmp:∀(i j b:Nat),G.mp[i]?=some b->G.mp[j]?=some b->i=j
 mpo:∀(i b:Nat),G.mp[i]?=some b->B<=b/\b<w.heap.size
 mpk:∀(i b:Nat) (c:ZaK),ax.mp[i]?=some c->G.mp[i]?=some b->ZaD E G.mp S w b c
 flt:∀b,G.fp b->b<w.heap.size
 fbx:∀(i b:Nat),G.bx[i]?=some b->¬G.fp b
 ftk:∀(t n cap g:Nat),G.tk[t]?=some (.slice (some ⟨g,0,none⟩) n cap)->n<cap->¬G.fp g
 fmp:∀(i b:Nat),G.mp[i]?=some b->¬G.fp b
 yl:E.Y.J ax.yk G.fp S w/\(E.Y.ys≠[]->B=0)
structure Res where
 side:Prop
 v:SV
 st:St
def Res.go (r:Option Res) (K:SV->St->Prop):Prop :=
 match r with
 | some r=>r.side/\K r.v r.st
 | none=>False
def Za1:Value->PV
 | .int k n=>.int k n
 | .bool b=>.bool b
 | .string s=>.str s
 | .slice none 0 0=>.list 0 []
 | .map none=>.map [] []
 | _=>.any
def ZmD:Value->SV
 | .int k n=>.val (.int k n)
 | .bool b=>.val (.bool b)
 | .string s=>.val (.str s)
 | .slice none 0 0=>.lit 0 []
 | .agg cs=>.val (.agg (cs.toList.map Za1))
 | .map none=>.val (.map [] [])
 | _=>.val .any
def Zp (st:St):Operand->SV
 | .tmp t=>st.sl.getD t .undef
 | .const v=>ZmD v
 | .func f=>.val (.fn f [])
 | .global _=>.val .any
def St.put (st:St) (dst:Option Tmp) (v:SV):St :=
 match dst with
 | some d=>{ st with sl:=st.sl.set d v }
 | none=>st
def Zdc:SV->Option (IntKind × Int)
 | .val (.int k n)=>some (k,n)
 | _=>none
def SV.elems:SV->Option (Nat × List PV)
 | .val (.list m xs)=>some (m,xs)
 | .lit m xs=>some (m,xs)
 | .own _ m xs=>some (m,xs)
 | _=>none
def Zam:List SV->Option (List PV)
 | []=>some []
 | s::r=>match s.pv,Zam r with
  | some p,some l=>some (p::l)
  | _,_=>none
def PV.one:PV->Bool
 | .int _ _ | .bool _ | .str _ | .list _ _ | .ptr _ _ | .fn _ _ | .yld _ | .ref | .map _ _=>true
 | _=>false
def SV.one:SV->Bool
 | .val p=>p.one
 | .undef=>false
 | .mtup _ _=>false
 | _=>true
def ZfB (d:TD) (s:SV):Option (List PV) :=
 if d.agg then (match s with | .val (.agg l)=>if l.length=d.size then some l else none | _=>none)
 else (match s.pv with | some p=>if p.one&&d.size == 1 then some [p] else none | none=>none)
def PV.ofCells (d:TD) (cs:List PV):PV:=if d.agg then .agg cs else cs.getD 0 .any
def Zgu (c a b:SV) (st:St):Option Res :=
 match c with
 | .val (.bool t)=>some ⟨True,if t then a else b,st⟩
 | _=>none
def Zbu (E:Env) (s:TypeId) (x:SV) (f:Nat) (st:St):Option Res :=
 match (E.T s).k with
 | .struct fs =>
  match fs[f]? with
  | some (o,ft) =>
   if (E.T ft).size=0 then none else
   match x with
   | .val (.ptr cs off)=>some ⟨True,.val (.ptr cs (off+o)),st⟩
   | .box id off=>some ⟨True,.box id (off+o),st⟩
   | .rbx id off i m k=>some ⟨True,.rbx id off i m (k+o),st⟩
   | _=>none
  | none=>none
 | _=>none
def YZ (E:Env) (t:TypeId) (x:SV) (st:St):Option Res :=
 match x with
 | .val (.ptr cs off) =>
  if (E.T t).agg then some ⟨off+(E.T t).size<=cs.length,.val (.agg ((cs.drop off).take (E.T t).size)),st⟩
  else if (E.T t).size=1 then some ⟨off<cs.length,.val (cs.getD off .any),st⟩ else none
 | .box id off =>
  match st.bx.getD id none with
  | some cs =>
   if (E.T t).agg then
    match Zam ((cs.drop off).take (E.T t).size) with
    | some l=>some ⟨off+(E.T t).size<=cs.length,.val (.agg l),st⟩
    | none=>none
   else if (E.T t).size=1 then some ⟨off<cs.length,cs.getD off .undef,st⟩ else none
  | none=>none
 | _=>none
def St.setBx (st:St) (id:Nat) (c:Option (List SV)):St:={ st with bx:=st.bx.set id c }
def Zai (E:Env) (t:TypeId) (x v:SV) (st:St):Option Res :=
 match x with
 | .box id off =>
  match st.bx.getD id none with
  | some cs =>
   if (E.T t).agg then
    match v with
    | .val (.agg l) =>
     if l.length=(E.T t).size/\l.all PV.one then some ⟨off+l.length<=cs.length,.undef,st.setBx id (some (cs.take off++(l.map SV.val++cs.drop (off+l.length))))⟩ else none
    | _=>none
   else if v.one/\(E.T t).size=1 then some ⟨off<cs.length,.undef,st.setBx id (some (cs.set off v))⟩ else none
  | none=>none
 | _=>none
def St.newBx (st:St) (cs:List SV):St:={ st with bx:=st.bx++[some cs] }
def Zju:PV->SV
 | .list 0 []=>.lit 0 []
 | p=>.val p
def Zdd (E:Env) (t:TypeId) (st:St):Option Res :=
 if (E.T t).zero.length=(E.T t).size/\(E.T t).size≠0 then some ⟨True,.box st.bx.length 0,st.newBx ((E.T t).zero.map Zju)⟩ else none
def Zjv (E:Env) (t:TypeId) (v:SV) (st:St):Option Res :=
 if (E.T t).agg then
  match v with
  | .val (.agg l)=>if l.all PV.one then some ⟨True,.box st.bx.length 0,st.newBx (l.map SV.val)⟩ else none
  | _=>none
 else if v.one then some ⟨True,.box st.bx.length 0,st.newBx [v]⟩ else none
def ZhJ (place:Nat->Option (Nat × TD)) (cells:List PV):List (Nat × SV)->Option (List PV)
 | []=>some cells
 | (i,v)::rest =>
  match place i with
  | none=>none
  | some (off,d) =>
   match ZfB d v with
   | none=>none
   | some l=>if off+l.length<=cells.length then ZhJ place (cells.take off++(l++cells.drop (off+l.length))) rest else none
def ZfC (E:Env) (t:TypeId) (parts:List (Nat × SV)) (st:St):Option Res :=
 if (E.T t).agg then
  match (E.T t).k with
  | .struct fs =>
   if fs.all λ p=>(E.T p.2).size != 0 || (E.T p.2).agg then
    match ZhJ (λ i=>(fs[i]?).map λ p=>(p.1,E.T p.2)) (E.T t).zero parts with
    | some l=>some ⟨True,.val (.agg l),st⟩
    | none=>none
   else none
  | .array _ e =>
   if (E.T e).size != 0 then
    match ZhJ (λ i=>some (i*(E.T e).size,E.T e)) (E.T t).zero parts with
    | some l=>some ⟨True,.val (.agg l),st⟩
    | none=>none
   else none
  | _=>none
 else none
def ZdB (d:TD) (xs:List PV):List (Nat × SV)->Option (List PV)
 | []=>some xs
 | (i,v)::rest =>
  match ZfB d v.litE with
  | none=>none
  | some l=>if i<xs.length/\l.all PV.one then ZdB d (xs.set i (PV.ofCells d l)) rest else none
def ZaS (E:Env) (t:TypeId) (n:Nat) (parts:List (Nat × SV)) (st:St):Option Res :=
 match (E.T t).k with
 | .slice e =>
  if (E.T e).zero.length=(E.T e).size/\0<(E.T e).size/\n*(E.T e).size<=16777216 then
   match ZdB (E.T e) (List.replicate n (PV.ofCells (E.T e) (E.T e).zero)) parts with
   | some xs=>some ⟨True,.lit (E.T e).size xs,st⟩
   | none=>none
  else none
 | _=>none
def Zcb (E:Env) (t:TypeId) (len cap:SV) (st:St):Option Res :=
 match (E.T t).k,len,cap with
 | .slice e,.val (.int _ n),.val (.int _ c) =>
  if (E.T e).zero.length=(E.T e).size/\0<(E.T e).size then
   if E.rows then some ⟨0<=n/\n=c/\n*(E.T e).bytes<=140737488355328/\n<=140737488355328,.msl st.bx.length 0 n.toNat,st.newBx ((List.replicate n.toNat (E.T e).zero).flatten.map SV.val)⟩ else
   some ⟨0<=n/\n=c/\n*(E.T e).bytes<=140737488355328/\n<=140737488355328,.lit (E.T e).size (List.replicate n.toNat (PV.ofCells (E.T e) (E.T e).zero)),st⟩
  else none
 | _,_,_=>none
def ZgU (o:Option SV) (d:Int):Option Int :=
 match o with
 | none=>some d
 | some (.val (.int _ n))=>some n
 | _=>none
def Zec (E:Env) (t:TypeId) (x:SV) (lo hi mx:Option SV) (st:St):Option Res :=
 match mx,(E.T t).k with
 | none,.slice e =>
  match x.elems with
  | some (m,xs) =>
   if (m=(E.T e).size\/xs=[])/\(E.T e).size≠0 then
    match ZgU lo 0,ZgU hi xs.length with
    | some l,some h=>some ⟨0<=l/\l<=h/\h<=xs.length,.val (.list m ((xs.take h.toNat).drop l.toNat)),st⟩
    | _,_=>none
   else none
  | none=>none
 | none,.str =>
  match x with
  | .val (.str s) =>
   match ZgU lo 0,ZgU hi s.size with
   | some l,some h=>some ⟨0<=l/\l<=h/\h<=s.size,.val (.str (s.extract l.toNat h.toNat)),st⟩
   | _,_=>none
  | _=>none
 | _,_=>none
def Zbo (E:Env) (t:TypeId) (id off:Nat) (lo hi mx:Option SV) (st:St):Option Res :=
 match (E.T t).k,lo with
 | .array n e,none =>
  if (E.T e).size≠0/\n<=9223372036854775807 then
   match hi,mx with
   | some (.val (.int _ h)),some (.val (.int _ m))=>some ⟨0<=h/\h<=m/\m<=n,.msl id off h.toNat,st⟩
   | some (.val (.int _ h)),none=>some ⟨0<=h/\h<=n,.msl id off h.toNat,st⟩
   | none,none=>some ⟨True,.msl id off n,st⟩
   | _,_=>none
  else none
 | _,_=>none
def ZeQ (E:Env) (id off i m:Nat):SV:=match E.rows with | true=>.rbx id off i m 0 | false=>.box id (off+i*m)
def ZbN (E:Env) (t:TypeId) (id off m len cap:Nat) (lo hi mx:Option SV) (st:St):Option Res :=
 match mx,(E.T t).k with
 | none,.slice e =>
  if m=(E.T e).size/\m≠0 then
   match lo,ZgU hi len with
   | none,some h=>some ⟨(0:Int)<=0/\0<=h/\h<=len,.row id off m h.toNat cap,st⟩
   | some (.val (.int _ l)),some h=>some ⟨(0<=l/\l<=h/\h<=len)/\0<=l/\l<cap,.row id (off+l.toNat*m) m (h - l).toNat ((cap:Int) - l).toNat,st⟩
   | _,_=>none
  else none
 | _,_=>none
def Q5 (E:Env) (t:TypeId) (x i:SV) (st:St):Option Res :=
 match Zdc i with
 | none=>none
 | some (_,n) =>
  match (E.T t).k with
  | .slice e =>
   if (E.T e).size=0 then none else
   match x with
   | .msl id off len=>some ⟨0<=n/\n<len,ZeQ E id off n.toNat (E.T e).size,st⟩
   | .row id off _ len _=>some ⟨0<=n/\n<len,ZeQ E id off n.toNat (E.T e).size,st⟩
   | x =>
    match x.elems with
    | some (m,xs)=>if m=(E.T e).size then some ⟨0<=n/\n<xs.length,.val (.ptr (xs.getD n.toNat .any).cells 0),st⟩ else none
    | none=>none
  | .array cnt e =>
   if (E.T e).size=0 then none else
   match x with
   | .val (.ptr cs off)=>some ⟨0<=n/\n<cnt,.val (.ptr cs (off+n.toNat*(E.T e).size)),st⟩
   | .box id off=>some ⟨0<=n/\n<cnt,ZeQ E id off n.toNat (E.T e).size,st⟩
   | _=>none
  | _=>none
def ZgV (E:Env) (t:TypeId) (x i:SV) (st:St):Option Res :=
 match Zdc i,(E.T t).k,x with
 | some (_,n),.str,.val (.str s)=>some ⟨0<=n/\n<s.size,.val (.int .u8 (s.data.toList.getD n.toNat 0).toNat),st⟩
 | _,_,_=>none
def ZfD (E:Env) (t:TypeId) (x:SV) (f:Nat) (st:St):Option Res :=
 match (E.T t).k,x with
 | .struct fs,.val (.agg cs) =>
  match fs[f]? with
  | some (o,ft) =>
   if (E.T ft).agg then some ⟨o+(E.T ft).size<=cs.length,.val (.agg ((cs.drop o).take (E.T ft).size)),st⟩
   else if (E.T ft).size=1 then some ⟨o<cs.length,.val (cs.getD o .any),st⟩ else none
  | none=>none
 | _,_=>none
def Zc5 (x:SV) (i:Nat) (st:St):Option Res :=
 match x with
 | .val (.tup vs)=>match vs[i]? with | some p=>some ⟨True,.val p,st⟩ | none=>none
 | .mtup id ps=>(match i with | 0=>some ⟨True,.mp id,st⟩ | j+1=>match ps[j]? with | some p=>some ⟨True,.val p,st⟩ | none=>none)
 | _=>none
def Zjj (id:Nat) (cs:List PV):Cap->Cap
 | .box i o=>if i=id then .pv (.ptr cs o) else .box i o
 | c=>c
def Zgv:List Cap->Option (List PV)
 | []=>some []
 | .pv p::r=>(Zgv r).map (p::·)
 | .box _ _::_=>none
def Zgw (id:Nat) (cs:List PV):SV->SV
 | .box i o=>if i=id then .val (.ptr cs o) else .box i o
 | .clo f caps=>match Zgv (caps.map (Zjj id cs)) with | some ps=>.val (.fn f ps) | none=>.clo f (caps.map (Zjj id cs))
 | s=>s
def St.sealBx (st:St) (id:Nat) (cs:List PV):St:={ st with sl:=st.sl.map (Zgw id cs),bx:=st.bx.set id none }
def Zaa (st:St):List SV->Option (List PV × St)
 | []=>some ([],st)
 | .val p::r=>(Zaa st r).map λ q=>(p::q.1,q.2)
 | .lit m xs::r=>(Zaa st r).map λ q=>(.list m xs::q.1,q.2)
 | .box id off::r =>
  match Zaa st r with
  | none=>none
  | some (l,st') =>
   match st'.bx.getD id none with
   | some cs=>match Zam cs with | some ps=>some (.ptr ps off::l,st'.sealBx id ps) | none=>none
   | none=>none
 | _=>none
def ZaL:List SV->Option (List Cap)
 | []=>some []
 | .val p::r=>(ZaL r).map (.pv p::·)
 | .lit m xs::r=>(ZaL r).map (.pv (.list m xs)::·)
 | .box id off::r=>(ZaL r).map (.box id off::·)
 | _=>none
def Zed (E:Env) (fn:Fn) (first captured:List SV) (st:St):Option Res :=
 match fn,first with
 | .func f,[] =>
  if E.clo f then (match ZaL captured with | some l=>some ⟨True,.clo f l,st⟩ | none=>none)
  else match Zaa st captured with | some (l,st')=>some ⟨True,.val (.fn f l),st'⟩ | none=>none
 | _,_=>none
def Zqb (op:UnOp) (x:SV) (st:St):Option Res :=
 match op,x with
 | .not,.val (.bool b)=>some ⟨True,.val (.bool (!b)),st⟩
 | .neg,.val (.int .i64 n)=>some ⟨-9223372036854775808<n/\n<=9223372036854775807,.val (.int .i64 (-n)),st⟩
 | .xor,.val (.int .u64 n)=>some ⟨True,.val (.int .u64 (IntKind.u64.wrap (BitVec.ofInt 64 IntKind.u64.max ^^^ BitVec.ofInt 64 n).toNat)),st⟩
 | _,_=>none
def ZdC (E:Env) (src dst:TypeId) (x:SV) (st:St):Option Res :=
 match (E.T src).k,(E.T dst).k,x with
 | .int k,.int k',.val (.int k'' n)=>if k=k'/\k''=k/\k=.i64 then some ⟨-9223372036854775808<=n/\n<=9223372036854775807,.val (.int k n),st⟩ else some ⟨True,.val (.int k' (k'.wrap n)),st⟩
 | .str,.str,.val (.str s)=>some ⟨True,.val (.str s),st⟩
 | _,_,_=>none
def Zj (n:Int):Prop:=-9223372036854775808<=n/\n<=9223372036854775807
def ZeR (op:BinOp) (a b:Int):Option (Prop × PV) :=
 match op with
 | .add=>some (Zj (a+b),.int .i64 (a+b))
 | .sub=>some (Zj (a - b),.int .i64 (a - b))
 | .mul=>some (Zj (a*b),.int .i64 (a*b))
 | .quo=>some (b≠0/\Zj (a.tdiv b),.int .i64 (a.tdiv b))
 | .rem=>some (b≠0,.int .i64 (a.tmod b))
 | .eql=>some (True,.bool (decide (a=b)))
 | .neq=>some (True,.bool (decide (a≠b)))
 | .lss=>some (True,.bool (decide (a<b)))
 | .leq=>some (True,.bool (decide (a<=b)))
 | .gtr=>some (True,.bool (decide (b<a)))
 | .geq=>some (True,.bool (decide (b<=a)))
 | _=>none
def ZbO (op:BinOp) (k:IntKind) (a b:Int):Option (Prop × PV) :=
 match op with
 | .and=>some (True,.int k (k.wrap ((BitVec.ofInt k.bits a &&& BitVec.ofInt k.bits b).toNat)))
 | .or=>some (True,.int k (k.wrap ((BitVec.ofInt k.bits a ||| BitVec.ofInt k.bits b).toNat)))
 | .add=>some (True,.int k (k.wrap (a+b)))
 | .sub=>some (True,.int k (k.wrap (a - b)))
 | .rem=>some (b≠0,.int k (a.tmod b))
 | .eql=>some (True,.bool (decide (a=b)))
 | .neq=>some (True,.bool (decide (a≠b)))
 | .lss=>some (True,.bool (decide (a<b)))
 | .leq=>some (True,.bool (decide (a<=b)))
 | .gtr=>some (True,.bool (decide (b<a)))
 | .geq=>some (True,.bool (decide (b<=a)))
 | _=>none
def Zjw:SK->PV->PV->Option Bool
 | .int,.int k a,.int k' b=>if k=k' then some (decide (a=b)) else none
 | .bool,.bool a,.bool b=>some (decide (a=b))
 | .str,.str a,.str b=>some (decide (a=b))
 | _,_,_=>none
def Qm:List SK->List PV->List PV->Option Bool
 | [],[],[]=>some true
 | k::ks,x::xs,y::ys=>match Zjw k x y,Qm ks xs ys with | some a,some b=>some (a&&b) | _,_=>none
 | _,_,_=>none
def Zjx (E:Env) (op:BinOp) (t:TypeId) (x y:SV) (st:St):Option Res :=
 match x,y with
 | .val (.int k a),.val (.int k' b) =>
  match op with
  | .shl=>some ⟨0<=b/\b<k.bits,.val (.int k (k.wrap (a*2 ^ b.toNat))),st⟩
  | .shr=>some ⟨0<=b/\b<k.bits,.val (.int k (a.fdiv (2 ^ b.toNat))),st⟩
  | op =>
   if k=k' then
    match (match E.clo 11000000 with | true=>ZbO op k a b | false=>if k=.i64 then ZeR op a b else ZbO op k a b) with
    | some (s,p)=>some ⟨s,.val p,st⟩
    | none=>none
   else none
 | .val (.bool a),.val (.bool b) =>
  match (E.T t).k,op with
  | .bool,.eql=>some ⟨True,.val (.bool (decide (a=b))),st⟩
  | .bool,.neq=>some ⟨True,.val (.bool (decide (a≠b))),st⟩
  | _,_=>none
 | .val (.str a),.val (.str b) =>
  match op with
  | .eql=>some ⟨True,.val (.bool (decide (a=b))),st⟩
  | .neq=>some ⟨True,.val (.bool (decide (a≠b))),st⟩
  | _=>none
 | .val (.agg a),.val (.agg b) =>
  match (E.T t).eq with
  | none=>none
  | some ks =>
   match Qm ks a b,op with
   | some r,.eql=>some ⟨True,.val (.bool r),st⟩
   | some r,.neq=>some ⟨True,.val (.bool (!r)),st⟩
   | _,_=>none
 | _,_=>none
def Zjy:PV->PV->Bool
 | .int k n,.int k' n'=>decide (k=k')&&decide (n=n')
 | .bool a,.bool b=>decide (a=b)
 | .str a,.str b=>decide (a=b)
 | _,_=>false
def ZnT:List PV->List PV->Bool
 | [],[]=>true
 | a::r,b::r'=>Zjy a b&&ZnT r r'
 | _,_=>false
def keq:PV->PV->Bool
 | .agg a,.agg b=>ZnT a b
 | a,b=>Zjy a b
def QG (es:List (PV × PV)) (k:PV):Option PV:=(es.find? λ p=>keq k p.1).map (·.2)
def ZeS (es:List (PV × PV)) (k:PV):Bool:=es.any λ p=>keq k p.1
def Zdz (es:List (PV × PV)) (k v:PV):List (PV × PV):=if ZeS es k then es.map λ p=>if keq k p.1 then (p.1,v) else p else es++[(k,v)]
def ZiZ (es:List (PV × PV)) (k:PV):List (PV × PV):=es.filter λ p=>!keq k p.1
def ZkX (es:List (PV × PV)) (k z:PV):List (PV × PV):=if ZeS es k then es else es++[(k,z)]
def Zd0 (E:Env) (k:TypeId):Option (List SK) :=
 match (E.T k).k with
 | .int _=>some [.int]
 | .bool=>some [.bool]
 | .str=>some [.str]
 | .struct _=>(E.T k).eq
 | _=>none
def PV.isAgg:PV->Bool
 | .agg _=>true
 | _=>false
def Zan (E:Env) (k:TypeId):Bool:=match (E.T k).k with | .struct _=>true | _=>false
def Yu (ag:Bool) (ks:List SK) (es:List (PV × PV)) (k:PV):Prop:=(k.flat=true/\k.cells.length=ks.length)/\k.isAgg=ag/\∀p∈es,p.1.isAgg=ag/\Qm ks k.cells p.1.cells=some (keq k p.1)
def Zee (m:SV) (st:St):Option (List (PV × PV)) :=
 match m with
 | .val (.map ks vs)=>some (ks.zip vs)
 | .mp id=>match st.ax.mp[id]? with | some (.ents es _)=>some es | _=>none
 | _=>none
def Zef (d:TD):Option PV:=if d.agg then some (.agg d.zero) else if d.size=1 then (match d.zero with | [z]=>some z | _=>none) else none
def Zd1 (id:Nat) (mp:List ZaK):Bool:=mp.all λ c=>match c with | .iter (some m) _ _ _=>m != id | _=>true
def ZhK (id:Nat) (k:PV):ZaK->ZaK
 | .iter (some m) es left cur=>if m=id then .iter (some m) es (left.filter λ x=>!keq k x) (match cur with | some c=>if keq k c then none else some c | none=>none) else .iter (some m) es left cur
 | c=>c
def St.mps (st:St) (mp:List ZaK):St:={ st with ax:={ st.ax with mp:=mp } }
def ZcC (E:Env) (t:TypeId) (m x:SV) (ok:Bool) (st:St):Option Res :=
 match (E.T t).k,x with
 | .map k e,.val key =>
  match Zd0 E k,Zee m st,Zef (E.T e) with
  | some ks,some es,some z=>some ⟨Yu (Zan E k) ks es key,.val (if ok then .tup [(QG es key).getD z,.bool (QG es key).isSome] else (QG es key).getD z),st⟩
  | _,_,_=>none
 | _,_=>none
def ZeT (E:Env) (t k':TypeId) (m x:SV) (st:St):Option Res :=
 match (E.T t).k,m,x with
 | .map k _,.mp id,.val key =>
  match Zd0 E k,st.ax.mp[id]? with
  | some ks,some (.ents es _)=>if k'=k then some ⟨Yu (Zan E k) ks es key,.val (.tup []),st.mps ((st.ax.mp.map (ZhK id key)).set id (.ents (ZiZ es key) none))⟩ else none
  | _,_=>none
 | _,_,_=>none
def ZmE (E:Env) (t:TypeId) (m:SV) (st:St):Option Res :=
 match (E.T t).k,m with
 | .map _ _,.mp id =>
  match st.ax.mp[id]? with
  | some (.ents es _)=>some ⟨True,.it st.ax.mp.length,st.mps (st.ax.mp++[.iter (some id) [] (es.map (·.1)) none])⟩
  | _=>none
 | .map _ _,.val (.map ks vs)=>some ⟨True,.it st.ax.mp.length,st.mps (st.ax.mp++[.iter none (ks.zip vs) ks none])⟩
 | _,_=>none
def Zeg (st:St) (src:Option Nat) (es:List (PV × PV)):Option (List (PV × PV)) :=
 match src with
 | none=>some es
 | some m=>match st.ax.mp[m]? with | some (.ents es _)=>some es | _=>none
def Zeh (x:SV) (st:St):Option Res :=
 match x with
 | .it id =>
  match st.ax.mp[id]? with
  | some (.iter src es _ (some k)) =>
   match Zeg st src es with
   | some es=>some ⟨(QG es k).isSome=true,.val (.tup [k,(QG es k).getD .any]),st⟩
   | none=>none
  | _=>none
 | _=>none
def Zei (m s v:SV) (st:St):Option Res :=
 match m,s,v.pv with
 | .mp id,.val (.int .i64 n),some p =>
  match st.ax.mp[id]? with
  | some (.ents es (some (k,n')))=>if k.flat=true then some ⟨n=n',.undef,st.mps (st.ax.mp.set id (.ents (Zdz es k p) none))⟩ else none
  | _=>none
 | _,_,_=>none
def ZmF (x:SV) (st:St) (K:SV->St->Prop):Prop :=
 match x with
 | .it id =>
  match st.ax.mp[id]? with
  | some (.iter src es left _) =>
   match Zeg st src es with
   | some es'=>(left=[]->K (.val (.tup [.bool false])) st) /\
     ∀k v,k∈left->(k,v)∈es'->K (.val (.tup [.bool true,k,v])) (st.mps (st.ax.mp.set id (.iter src es (left.filter λ y=>!keq k y) (some k))))
   | none=>False
  | _=>False
 | _=>False
def ZbP (E:Env) (t:TypeId) (m x:SV) (st:St) (K:SV->St->Prop):Prop :=
 match (E.T t).k,m,x with
 | .map k e,.mp id,.val key =>
  match Zd0 E k,st.ax.mp[id]?,Zef (E.T e) with
  | some ks,some (.ents es _),some z=>Yu (Zan E k) ks es key/\(Zd1 id st.ax.mp=true\/ZeS es key=true) /\
    ∀n,K (.val (.tup [(QG es key).getD z,.int .i64 n])) (st.mps (st.ax.mp.set id (.ents (ZkX es key z) (some (key,n)))))
  | _,_,_=>False
 | _,_,_=>False
def Zjz (E:Env) (t:TypeId) (x:SV) (st:St):Option Res :=
 match (E.T t).k,x with
 | .str,.val (.str s)=>some ⟨True,.val (.int .i64 s.size),st⟩
 | .slice _,.msl _ _ n=>some ⟨True,.val (.int .i64 n),st⟩
 | .slice _,.row _ _ _ n _=>some ⟨True,.val (.int .i64 n),st⟩
 | .slice _,x=>match x.elems with | some (_,xs)=>some ⟨True,.val (.int .i64 xs.length),st⟩ | none=>none
 | .array n _,_=>some ⟨True,.val (.int .i64 n),st⟩
 | .map _ _,x=>match Zee x st with | some es=>some ⟨True,.val (.int .i64 es.length),st⟩ | none=>none
 | _,_=>none
def ZdD (E:Env) (t:TypeId) (s y:SV) (st:St):Option Res :=
 match (E.T t).k,y.elems with
 | .slice e,some (m',ys) =>
  if (m'=(E.T e).size\/ys=[])/\0<(E.T e).size/\(E.T e).zero.length=(E.T e).size then
   match s.litz with
   | .lit m xs =>
    if m=(E.T e).size\/xs=[] then
     some ⟨(xs.length+ys.length)*((E.T e).bytes+1)<=140737488355328,.own st.tk.length (E.T e).size (xs++ys),{ st with tk:=st.tk++[((xs++ys).length,e)] }⟩
    else none
   | .own k m xs =>
    if (m=(E.T e).size\/xs=[])/\((st.tk.getD k (0,0)).2=e) then
     some ⟨(st.tk.getD k (0,0)).1=xs.length/\k<st.tk.length/\(xs.length+ys.length)*((E.T e).bytes+1)<=140737488355328,.own k (E.T e).size (xs++ys),{ st with tk:=st.tk.set k ((xs++ys).length,e) }⟩
    else none
   | _=>none
  else none
 | _,_=>none
def ZgW (E:Env) (t:TypeId) (x:SV) (st:St):Option Res :=
 match (E.T t).k,x with
 | .slice e,.row id off m len _ =>
  if m=(E.T e).size/\0<(E.T e).size/\(E.T e).zero.length=(E.T e).size then
   match st.bx.getD id none with
   | some cs=>some ⟨off+len*m<=cs.length,.val .any,st.setBx id (some (cs.take off++(List.replicate (len*m) (.val .any)++cs.drop (off+len*m))))⟩
   | none=>none
  else none
 | _,_=>none
def ZfE (E:Env) (t:TypeId) (reserve:Option Operand) (st:St):Option Res :=
 match (E.T t).k,reserve with
 | .map k e,none =>
  match E.clo 9000000 with
  | true=>some ⟨True,.mp st.ax.mp.length,{ st with ax:={ st.ax with mp:=st.ax.mp++[.ents [] none] } }⟩
  | false=>some ⟨True,.mp st.ax.mp.length,{ st with ax:={ st.ax with mp:=st.ax.mp++[.plain k e 0] } }⟩
 | _,_=>none
def ZmG (k:IntKind) (a:Int):Prop:=k.min<=a/\a<=k.max
def Zcc (E:Env) (t:TypeId) (m x v:SV) (st:St):Option Res :=
 match m with
 | .mp id =>
  match st.ax.mp[id]?,(E.T t).k with
  | some (.plain k e n),.map k' e' =>
   match (E.T k).k,(E.T e).k,x,v with
   | .int kk',.bool,.val (.int kk a),.val (.bool _)=>if k=k'/\e=e'/\kk=kk'/\Zd1 id st.ax.mp=true then some ⟨n<9223372036854775807/\ZmG kk a,.undef,{ st with ax:={ st.ax with mp:=st.ax.mp.set id (.plain k e (n+1)) } }⟩ else none
   | _,_,_,_=>none
  | some (.ents es mk),.map k _ =>
   match Zd0 E k,x,v.pv with
   | some ks,.val key,some p=>some ⟨Yu (Zan E k) ks es key/\(Zd1 id st.ax.mp=true\/ZeS es key=true),.undef,st.mps (st.ax.mp.set id (.ents (Zdz es key p) mk))⟩
   | _,_,_=>none
  | _,_=>none
 | _=>none
def ZdE (mn:Bool) (xs:List SV) (st:St):Option Res :=
 match xs with
 | [.val (.int .i64 a),.val (.int .i64 b)]=>some ⟨True,.val (.int .i64 (if mn then min a b else max a b)),st⟩
 | _=>none
def ZdF (E:Env) (b:Builtin) (ts:List TypeId) (xs:List SV) (st:St):Option Res :=
 match b,ts,xs with
 | .len,[t],[x]=>Zjz E t x st
 | .append,[t,t'],[s,y]=>if t=t' then ZdD E t s y st else none
 | .min,_,xs=>ZdE true xs st
 | .max,_,xs=>ZdE false xs st
 | .delete,[t,k],[m,x]=>ZeT E t k m x st
 | .clear,[t],[x]=>ZgW E t x st
 | _,_,_=>none
def ZR (E:Env) (o:Op) (st:St):Option Res :=
 match o with
 | .move x | .assign x=>some ⟨True,Zp st x,st⟩
 | .pick c a b=>Zgu (Zp st c) (Zp st a) (Zp st b) st
 | .alloc t=>Zdd E t st
 | .box t x=>Zjv E t (Zp st x) st
 | .build t parts=>ZfC E t (parts.toList.map λ p=>(p.1,Zp st p.2)) st
 | .buildSlice t n parts=>ZaS E t n (parts.toList.map λ p=>(p.1,Zp st p.2)) st
 | .load t a=>YZ E t (Zp st a).norm st
 | .store t a x=>Zai E t (Zp st a).norm (Zp st x) st
 | .nilCheck x=>(match Zp st x with | .val (.ptr cs o)=>some ⟨True,.val (.ptr cs o),st⟩ | .box id o=>some ⟨True,.box id o,st⟩ | .val (.fn f cs)=>some ⟨True,.val (.fn f cs),st⟩ | .clo f cs=>some ⟨True,.clo f cs,st⟩ | .rbx a b c d e=>some ⟨True,.rbx a b c d e,st⟩ | .val (.yld l)=>some ⟨True,.val (.yld l),st⟩ | _=>none)
 | .binOp op t x y _=>Zjx E op t (Zp st x) (Zp st y) st
 | .unOp op _ x=>Zqb op (Zp st x) st
 | .convert s d x=>ZdC E s d (Zp st x) st
 | .makeFunc fn first cap=>Zed E fn (first.toList.map (Zp st)) (cap.toList.map (Zp st)) st
 | .makeSlice t l c=>Zcb E t (Zp st l) (Zp st c) st
 | .makeMap t r=>ZfE E t r st
 | .mapUpdate t m x v=>Zcc E t (Zp st m) (Zp st x) (Zp st v) st
 | .lookup t m x ok=>ZcC E t (Zp st m) (Zp st x) ok st
 | .range t m=>ZmE E t (Zp st m) st
 | .entry x=>Zeh (Zp st x) st
 | .entryStore _ m s v=>Zei (Zp st m) (Zp st s) (Zp st v) st
 | .slice t x lo hi mx=>(match Zp st x with | .box id off=>Zbo E t id off (lo.map (Zp st)) (hi.map (Zp st)) (mx.map (Zp st)) st | .row id off m len cap=>ZbN E t id off m len cap (lo.map (Zp st)) (hi.map (Zp st)) (mx.map (Zp st)) st | x=>Zec E t x (lo.map (Zp st)) (hi.map (Zp st)) (mx.map (Zp st)) st)
 | .fieldAddr s x f=>Zbu E s (Zp st x) f st
 | .field t x f=>ZfD E t (Zp st x) f st
 | .indexAddr t x i=>Q5 E t (Zp st x) (Zp st i) st
 | .index t x i=>ZgV E t (Zp st x) (Zp st i) st
 | .extract x i=>Zc5 (Zp st x) i st
 | .call { callee:=.builtin b,args,argTypes }=>ZdF E b argTypes.toList (args.toList.map (Zp st)) st
 | _=>none
def YOk (P:Program) (Y:YS):Prop :=
 ∀(r:Option Nat) (n:Nat) (k k1:Nat) (ps:List PV) (vs:List Value) (F:Nat->Prop) (S:Addr->Prop) (w:World),ZmB Y.any Y.ys k ps k1->Y.J k F S w->(∀b,F b->b<w.heap.size)->(∀a,S a->a.block<w.heap.size)->RVs S w ps vs ->
  YieldAt ({ Fence.wide with round:=r }) n P Y.l vs.toArray w λ e w'=>∃(k':Nat) (F':Nat->Prop) (S':Addr->Prop),((e=.returned (.bool true)/\k'=k1)\/(e=.returned (.bool false)/\k'=ZbK Y.any Y.ys))/\Y.J k' F' S' w' /\
   Below 0 w w'/\(∀b,b<w.heap.size->¬F b->w'.heap[b]?=w.heap[b]?)/\(∀b,F' b->(F b\/w.heap.size<=b)/\b<w'.heap.size)/\(∀a,S a->S' a)/\(∀a,S a->Qq w w' a) /\
   (∀a,S' a->(S a\/F a.block\/w.heap.size<=a.block)/\a.block<w'.heap.size)
def ZkY (P:Program) (f:FuncId) (caps:List PV) (xs:List (List PV)) (an:Bool):Prop :=
 ZaJ P f/\∀(Y:YS) (r:Option Nat) (n:Nat) (F:Nat->Prop) (S:Addr->Prop) (w:World) (vs:List Value),Y.ys=xs->Y.any=an->YOk P Y->Y.J 0 F S w->(∀b,F b->b<w.heap.size)->(∀a,S a->a.block<w.heap.size)->RVs S w caps vs ->
  CallsIn ({ Fence.wide with round:=r }) n P f (#[.func (.yield Y.l) #[] #[]]++vs.toArray) w λ e w'=>∃(v:Value) (k:Nat) (F':Nat->Prop) (S':Addr->Prop),e=.returned v/\(Ziz an xs k\/k=ZbK an xs)/\Y.J k F' S' w'/\Below 0 w w'
def Zde (P:Program) (f:FuncId) (caps:List PV) (xs:List (List PV)):Prop:=ZkY P f caps xs false
def Zt1 (E:Env) (f:FuncId) (args:List PV) (K:PV->Prop):Prop:=∃r,Zc E.P f args r/\K r
def ZV (E:Env) (f:FuncId) (svs:List SV) (bx:List (Option (List SV))) (tk:List (Nat × TypeId)) (ax:Ax) (Q:SV->List (Option (List SV))->List (Nat × TypeId)->Ax->Prop):Prop :=
 ZaJ E.P f/\∀(B:Nat) (S0:Addr->Prop) (w0:World) (G:Gh) (S:Addr->Prop) (w:World) (vs:List Value),Inv E B S0 bx tk ax G S w->Below B w0 w->svs.length=vs.length ->
  (∀(i:Nat) (s:SV) (v:Value),svs[i]?=some s->vs[i]?=some v->RSV tk G S w s v) ->
  Calls E.P f vs.toArray w λ e w'=>∃v r bx' tk' ax' G' S',Q r bx' tk' ax'/\e=.returned v/\Inv E B S0 bx' tk' ax' G' S' w'/\Below B w0 w'/\Ext tk G S w tk' G' S' w'/\RSV tk' G' S' w' r v
def ZmH (E:Env) (ts:List TypeId):Bool :=
 match ts with
 | t::_=>E.rows&&!E.clo (2000000+t)
 | []=>E.rows
structure ZnU where
 rows:Bool
 at_:List TypeId->Bool
def Env.rm (E:Env):ZnU:=⟨E.rows,ZmH E⟩
def Cap.sv:Cap->SV
 | .pv p=>.val p
 | .box id off=>.box id off
def Zqc (E:Env) (f:FuncId) (svs:List SV) (st:St) (K:SV->St->Prop):Prop :=
 ∃Q,ZV E f svs st.bx st.tk st.ax Q/\∀r bx' tk' ax',Q r bx' tk' ax'->K r ⟨st.sl,bx',tk',ax'⟩
def St.yks (st:St) (k:Nat):St:={ st with ax:={ st.ax with yk:=k } }
def ZgX (E:Env) (l:Nat) (ps:List PV) (st:St) (K:SV->St->Prop):Prop :=
 l=E.Y.l/\∃k1,ZmB E.Y.any E.Y.ys st.ax.yk ps k1/\K (.val (.bool true)) (st.yks k1)/\K (.val (.bool false)) (st.yks (ZbK E.Y.any E.Y.ys))
def Zcw (id m:Nat) (xs:List PV) (s:SV):SV :=
 match s with
 | .msl i off len=>if i=id/\off=0/\len<=xs.length then .val (.list m (xs.take len)) else .msl i off len
 | .row i off m' len cap=>if i=id/\off=0/\m'=m/\len<=xs.length then .val (.list m (xs.take len)) else .row i off m' len cap
 | s=>Zgw id (xs.flatMap PV.cells) s
def St.sealRow (st:St) (id m:Nat) (xs:List PV):St:={ st with sl:=st.sl.map (Zcw id m xs),bx:=st.bx.set id none }
def ZnV (id:Nat) (ks vs:List PV):SV->SV
 | .mp i=>if i=id then .val (.map ks vs) else .mp i
 | s=>s
def St.sealMp (st:St) (id:Nat) (ks vs:List PV):St:={ st with sl:=st.sl.map (ZnV id ks vs),ax:={ st.ax with mp:=st.ax.mp.set id .gone } }
inductive Frz:St->List SV->St->List SV->Prop
 | refl (st:St) (l:List SV):Frz st l st l
 | still (id:Nat) (cs:List SV) (ps:List PV) (st st':St) (l l':List SV) (h1:st.bx.getD id none=some cs) (h2:Zam cs=some ps)
   (h3:Frz (st.sealBx id ps) (l.map (Zgw id ps)) st' l'):Frz st l st' l'
 | row (id m:Nat) (cs:List SV) (xs:List PV) (st st':St) (l l':List SV) (h1:st.bx.getD id none=some cs) (h2:cs=(xs.flatMap PV.cells).map SV.val) (hm:∀x∈xs,x.cells.length=m)
   (h3:Frz (st.sealRow id m xs) (l.map (Zcw id m xs)) st' l') (hm0:m≠0:=by decide):Frz st l st' l'
 | map (id:Nat) (es:List (PV × PV)) (mk:Option (PV × Int)) (ks vs:List PV) (st st':St) (l l':List SV) (h1:st.ax.mp[id]?=some (.ents es mk)) (h2:es.Perm (ks.zip vs)) (hl:ks.length=vs.length)
   (h3:Frz (st.sealMp id ks vs) (l.map (ZnV id ks vs)) st' l'):Frz st l st' l'
def Zqd (st:St) (l:List SV) (K:List PV->St->Prop):Prop:=∃st' l' ps,Frz st l st' l'/\Zam l'=some ps/\K ps st'
def Zj0 (P:Program) (f:FuncId) (m:Nat) (xs:List PV) (r:PV):Prop :=
 ZaJ P f/\∀(S:Addr->Prop) (w:World) (a:Addr) (cap:Nat) (vals:List Value),(∀a,S a->a.block<w.heap.size)->vals.length=xs.length*m->(∀(j:Nat) (v:Value),vals[j]?=some v->w.cell? (a.add j)=some v/\v.oneCell'=true) ->
  RVs S w (xs.flatMap PV.cells) vals->xs.length<=cap->cap<=maxLen->Calls P f #[.slice (some a) xs.length cap] w λ e w'=>∃v,e=.returned v/\Below w.heap.size w w'/\RV (ZnS S w w') w' r v
def Zx9 (E:Env) (f:FuncId) (args:List SV) (st:St) (K:SV->St->Prop):Prop :=
 ∃(id off m len cap:Nat) (cells:List SV) (xs:List PV) (r:PV),args=[.row id off m len cap]/\st.bx.getD id none=some cells/\(cells.drop off).take (len*m)=(xs.flatMap PV.cells).map SV.val/\xs.length=len/\(∀x∈xs,x.cells.length=m) /\
  Zj0 E.P f m xs r/\K (.val r) st
def Zt2 (E:Env) (f:FuncId) (caps:List PV) (args:List SV) (st:St) (K:SV->St->Prop):Prop :=
 (Zqd st args λ l st'=>Zt1 E f (l++caps) λ r=>K (.val r) st')\/(caps=[]/\Zx9 E f args st K)\/Zqc E f (args++caps.map SV.val) st K
def Zcq (E:Env) (ts:List TypeId) (xs:List SV) (st:St) (K:SV->St->Prop):Prop :=
 match ts,xs with
 | [t,t'],[s,y] =>
  match (E.T t).k,y.elems with
  | .slice e,some (m',ys) =>
   t=t'/\m'=(E.T e).size/\ys≠[]/\0<(E.T e).size/\(E.T e).zero.length=(E.T e).size /\
   match s.litz with
   | .lit ms zs =>
    (ms=(E.T e).size\/zs=[])/\(zs.length+ys.length)*((E.T e).bytes+1)<=140737488355328 /\
     ∀cap,zs.length+ys.length<=cap->cap<=maxLen->K (.row st.bx.length 0 (E.T e).size (zs.length+ys.length) cap)
      (st.newBx (((zs++ys).flatMap PV.cells).map SV.val++List.replicate ((cap - (zs.length+ys.length))*(E.T e).size) (.val .any)))
   | .row id off m len cap =>
    m=(E.T e).size/\(len+ys.length)*((E.T e).bytes+1)<=140737488355328/\∃cells,st.bx.getD id none=some cells/\off+cap*m<=cells.length /\
     (len+ys.length<=cap->K (.row id off m (len+ys.length) cap) (st.setBx id (some (cells.take (off+len*m)++((ys.flatMap PV.cells).map SV.val++cells.drop (off+len*m+ys.length*m)))))) /\
     (cap<len+ys.length->∀cap',len+ys.length<=cap'->cap'<=maxLen->K (.row st.bx.length 0 m (len+ys.length) cap')
      (st.newBx ((cells.drop off).take (len*m)++((ys.flatMap PV.cells).map SV.val++List.replicate ((cap' - (len+ys.length))*m) (.val .any)))))
   | _=>False
  | _,_=>False
 | _,_=>False
def ZmI (E:Env) (f:FuncId) (svs:List SV):Option (List PV):=match E.clo (5000000+f) with | true=>none | false=>Zam svs
theorem ZnW {E:Env} {f:FuncId} {svs:List SV} {l:List PV} (h:ZmI E f svs=some l):Zam svs=some l:=by
 unfold ZmI at h
 split at h
 ·cases h
 ·exact h
def ZnX:BinOp->Operand->Option Bool
 | .eql,.const (.slice none 0 0)=>some true
 | .neq,.const (.slice none 0 0)=>some false
 | _,_=>none
def Zj1 (E:Env) (b:Bool) (t:TypeId) (x:SV) (st:St) (K:SV->St->Prop):Prop :=
 match (E.T t).k,x.elems with
 | .slice _,some (m,xs) =>
  (xs=[]->K (.val (.bool b)) st)/\K (.val (.bool (!b))) st
 | _,_=>False
def Zcy (E:Env) (dr:Bool) (o:Op) (st:St) (K:SV->St->Prop):Prop :=
 match o with
 | .call { callee:=.value x,args,.. } =>
  match Zp st x with
  | .val (.fn f caps) =>
   match ZmI E f (args.toList.map (Zp st)) with
   | some l=>Zt1 E f (l++caps) λ r=>K (.val r) st
   | none=>dr=false/\Zt2 E f caps (args.toList.map (Zp st)) st K
  | .clo f caps=>dr=false/\Zqc E f (args.toList.map (Zp st)++caps.map Cap.sv) st K
  | .val (.yld l) =>
   match Zam (args.toList.map (Zp st)) with
   | some ps=>dr=false/\ZgX E l ps st K
   | none=>dr=false/\Zqd st (args.toList.map (Zp st)) λ ps st'=>ZgX E l ps st' K
  | _=>False
 | .call { callee:=.builtin .append,args,argTypes } =>
  match ZmH E argTypes.toList with
  | true=>dr=false/\Zcq E argTypes.toList (args.toList.map (Zp st)) st K
  | false=>Res.go (ZR E o st) K
 | .next x false=>dr=false/\ZmF (Zp st x) st K
 | .mapEntry t m x=>dr=false/\ZbP E t (Zp st m) (Zp st x) st K
 | .binOp op t x y u =>
  match ZnX op y with
  | some b=>dr=false/\Zj1 E b t (Zp st x) st K
  | none=>Res.go (ZR E (.binOp op t x y u) st) K
 | o=>Res.go (ZR E o st) K
def ZgY (ops:List Oper) (j:Nat):Option Tmp:=(ops[j]?).bind (·.dst)
def Zbb (E:Env) (dr:Bool) (ops:List Oper):List Oper->St->(St->Prop)->Prop
 | [],st,K=>K st
 | o::rest,st,K =>
  match o.guard with
  | none=>Zcy E dr o.op st λ v st'=>Zbb E dr ops rest (st'.put o.dst v) K
  | some (j,want) =>
   match ZgY ops j with
   | none=>False
   | some t =>
    match st.sl.getD t .undef with
    | .undef=>Zbb E dr ops rest (st.put o.dst .undef) K
    | .val (.bool b) =>
     (b=want->Zcy E dr o.op (st.put (some t) (.val (.bool want))) λ v st'=>Zbb E dr ops rest (st'.put o.dst v) K) /\
     (b=!want->Zbb E dr ops rest ((st.put (some t) (.val (.bool (!want)))).put o.dst .undef) K)
    | _=>False
def ZmJ:List Nat->(Nat->Prop)->Prop
 | [],_=>True
 | [i],f=>f i
 | i::r,f=>f i/\ZmJ r f
theorem ZnY {f:Nat->Prop}:∀{l:List Nat},ZmJ l f->∀i∈l,f i
 | [],_,i,hi=>by cases hi
 | [j],h,i,hi=>by rw [Zy3] at hi;subst hi;exact h
 | j::k::r,h,i,hi=>by
  rcases ZyJ.1 hi with rfl | hi
  ·exact h.1
  ·exact ZnY h.2 i hi
theorem ZhL {f g:Nat->Prop} (hk:∀i,f i->g i):∀{l:List Nat},ZmJ l f->ZmJ l g
 | [],_=>trivial
 | [_],h=>hk _ h
 | _::_::_,h=>⟨hk _ h.1,ZhL hk h.2⟩
def ZeC (E:Env) (ops:Array Oper):Nat->Array Bool->St->(St->Prop)->Prop
 | 0,listed,st,K=>(match Region.ready .any ops listed with | []=>K st | _=>False)
 | fuel+1,listed,st,K=>(match Region.ready .any ops listed with
  | []=>K st
  | i::r=>ZmJ (i::r) λ i=>(match ops[i]? with
   | none=>False
   | some o=>Zbb E false ops.toList [o] st λ st'=>ZeC E ops fuel (listed.setIfInBounds i true) st' K))
inductive ZwO where
 | text
 | each
 | cut (c:Nat)
def ZvV (E:Env) (id:Nat):Nat->Nat->Option Nat
 | 0,_=>none
 | n+1,c=>match E.clo (3000000+100*id+c) with | true=>some c | false=>ZvV E id n (c+1)
def Zbf (E:Env) (draw:Bool) (id n:Nat):ZwO :=
 match draw&&E.clo (1000000+id) with
 | false=>.text
 | true=>match ZvV E id n 0 with | none=>.each | some c=>.cut c
theorem ZfZ {E:Env} {draw:Bool} {id n:Nat} (h:Zbf E draw id n≠.text):draw=true:=by
 cases draw with
 | true=>rfl
 | false=>exact absurd rfl h
def Zbc:TypeDesc->Bool
 | .struct _ | .array _ _=>true
 | _=>false
def Za2 (P:Program) (F:TypeId->Option (List SK)) (off:Nat):List Field->Option (List SK)
 | []=>some []
 | f::r =>
  if f.name≠"_"/\f.offset=off then
   match F f.type with
   | none=>none
   | some ks=>if ks.length=P.cellsOf f.type/\ks≠[] then (Za2 P F (off+ks.length) r).map (ks++·) else none
  else none
def flatK (P:Program):Nat->TypeId->Option (List SK)
 | 0,_=>none
 | d+1,t =>
  match P.underlying t with
  | some .bool=>some [.bool]
  | some (.int _)=>some [.int]
  | some .string=>some [.str]
  | some (.struct fs)=>if P.stoodInHeld t then none else Za2 P (flatK P d) 0 fs.toList
  | _=>none
def KOk (P:Program) (t:TypeId):TK->Prop
 | .int k=>P.underlying t=some (.int k)
 | .bool=>P.underlying t=some .bool
 | .str=>P.underlying t=some .string
 | .slice e=>P.underlying t=some (.slice e)
 | .struct fs=>∃F:Array Field,P.underlying t=some (.struct F)/\F.toList.map (λ f=>(f.offset,f.type))=fs
 | .array n e=>P.underlying t=some (.array n e)
 | .ptr e=>P.underlying t=some (.pointer e)
 | .map k e=>P.underlying t=some (.map k e)
 | .func=>True
 | .other=>True
structure Zt3 (P:Program) (T:TypeId->TD) (t:TypeId):Prop where
 k:KOk P t (T t).k
 info:(T t).size≠0\/(T t).agg=true->∃(i:TypeInfo) (z:Value) (u:TypeDesc),P.info? t=some i/\i.size=(T t).size/\i.bytes=(T t).bytes/\i.zero=some z /\
  z.cells.toList.map Za1=(T t).zero/\(∀v∈z.cells.toList,v.oneCell'=true)/\z.cells.size=i.size/\(if (T t).agg then ∃cs,z=.agg cs else z.oneCell'=true)/\P.underlying t=some u/\Zbc u=(T t).agg
 eq:∀ks,(T t).eq=some ks->∃d,d<9999/\flatK P d t=some ks/\P.eqGuardType P.depth t=false/\∃fs,P.underlying t=some (.struct fs)
structure ZQ (E:Env):Prop where
 td:∀t,Zt3 E.P E.T t
 mixed:E.P.follows .mixedOrders=true
 yok:YOk E.P E.Y
structure Rel (E:Env) (B:Nat) (S0:Addr->Prop) (w0:World) (st:St) (G:Gh) (S:Addr->Prop) (w:World) (tmps:Array Value):Prop where
 inv:Inv E B S0 st.bx st.tk st.ax G S w
 below:Below B w0 w
 len:st.sl.length=tmps.size
 sl:∀(t:Nat) (s:SV) (v:Value),st.sl[t]?=some s->tmps[t]?=some v->RSV st.tk G S w s v
section
variable {E:Env} {B:Nat} {S0:Addr->Prop} {w0:World} {st:St} {G:Gh} {S:Addr->Prop} {w:World} {tmps:Array Value}
theorem RV.const (v:Value):RV S w (Za1 v) v:=by
 unfold Za1
 split
 ·exact .int _ _
 ·exact .bool _
 ·exact .str _
 ·have:=RV.list (S:=S) (w:=w) 0 [] none ⟨0,0,none⟩ 0 (λ _ _=>undef) (by simp) (by simp) (by simp [maxLen]) (by simp) (by simp) (by simp) (λ _=>rfl)
  simpa using this
 ·exact .mapNil
 ·exact .any _
theorem RVs.const (vs:List Value):RVs S w (vs.map Za1) vs :=
 ⟨by simp,λ i p v h1 h2=>by
  rw [Zyh,h2] at h1
  simp at h1
  subst h1
  exact RV.const v⟩
theorem RV.list_nil (m:Nat) (a:Option Addr) (cap:Nat) (hcap:cap<=maxLen) (hz:m=0->cap=0:=by first | (intro h;exact absurd h (by decide)) | exact λ _=>rfl):RV S w (.list m []) (.slice a 0 cap):=by
 have:=RV.list (S:=S) (w:=w) m [] a ⟨0,0,none⟩ cap (λ _ _=>undef) (by simp) (by simp) hcap (by simp) (by simp) (by simp) hz
 simpa using this
theorem RSV.litE {tk:List (Nat × TypeId)} {s:SV} {v:Value} (h:RSV tk G S w s v):RSV tk G S w s.litE v:=by
 unfold SV.litE
 split
 ·obtain ⟨h1,a,rfl⟩:=h
  exact ⟨RV.list_nil 0 a 0 (by simp [maxLen]),a,rfl⟩
 ·exact h
theorem RSV.const (tk:List (Nat × TypeId)) (v:Value):RSV tk G S w (ZmD v) v:=by
 unfold ZmD
 split
 ·exact RV.int _ _
 ·exact RV.bool _
 ·exact RV.str _
 ·exact ⟨RV.list_nil 0 none 0 (by simp [maxLen]),none,rfl⟩
 ·rename_i cs
  have:=RV.agg (S:=S) (w:=w) (cs.toList.map Za1) cs.toList (by simp) (RVs.const cs.toList).2
  simpa [RSV] using this
 ·exact RV.mapNil
 ·exact RV.any _
theorem Rel.val (R:Rel E B S0 w0 st G S w tmps) (x:Operand) (d:List Deferred):RSV st.tk G S w (Zp st x) (({ tmps:=tmps,defers:=d }:Act).eval x):=by
 cases x with
 | const v=>exact RSV.const _ v
 | global g=>exact RV.any _
 | func f =>
  have:=RV.fn (S:=S) (w:=w) f [] [] rfl (by simp)
  simpa [RSV,Zp,Act.eval] using this
 | tmp t =>
  simp only [Zp,Act.eval]
  by_cases ht:t<st.sl.length
  ·have ht':t<tmps.size:=by rw [<-R.len];exact ht
   refine R.sl t _ _ ?_ ?_
   ·simp [List.getD,ht]
   ·simp [ht']
  ·have ht':¬t<tmps.size:=by rw [<-R.len];exact ht
   simp [List.getD,Zyw (Z0c ht),Array.getD,ht',RSV]
def QK (E:Env) (B:Nat) (S0:Addr->Prop) (w0:World) (r:Option Res) (G:Gh) (S:Addr->Prop) (w:World) (tk:List (Nat × TypeId)) (tmps:Array Value) (s:Sem Next):Prop :=
 ∀r',r=some r'->r'.side->∃nx v w',s.run E.P w=.ok nx w'/\(nx=.value v\/(nx=.skip/\v=undef)) /\
  ∃G' S',Rel E B S0 w0 r'.st G' S' w' tmps/\RSV r'.st.tk G' S' w' r'.v v/\Ext tk G S w r'.st.tk G' S' w'
theorem QK.same {r:Option Res} {s:Sem Next} (R:Rel E B S0 w0 st G S w tmps)
  (h:∀r',r=some r'->r'.side->r'.st=st/\∃v,s.run E.P w=.ok (.value v) w/\RSV st.tk G S w r'.v v):QK E B S0 w0 r G S w st.tk tmps s:=by
 intro r' hr hs
 obtain ⟨h1,v,h2,h3⟩:=h r' hr hs
 exact ⟨_,v,w,h2,.inl rfl,G,S,by rw [h1];exact R,by rw [h1];exact h3,by rw [h1];exact Ext.refl _ _ _ _⟩
theorem RV.of_one {p:PV} {v:Value} (h:RV S w p v) (hp:p.one=true):v.oneCell'=true:=by
 cases h<;>simp_all [PV.one,Value.oneCell']
theorem RSV.of_one {tk:List (Nat × TypeId)} {s:SV} {v:Value} (h:RSV tk G S w s v) (hs:s.one=true):v.oneCell'=true:=by
 cases s with
 | undef=>cases hs
 | val p=>exact RV.of_one h hs
 | lit m xs=>obtain ⟨_,a,rfl⟩:=h;rfl
 | own t m xs=>obtain ⟨h,_⟩:=h;exact RV.of_one h rfl
 | box id off=>obtain ⟨b,_,rfl⟩:=h;rfl
 | msl id off len=>obtain ⟨b,cap,_,rfl,_⟩:=h;rfl
 | clo f caps=>obtain ⟨vs,rfl,_⟩:=h;rfl
 | rbx id off i m k=>obtain ⟨b,_,rfl⟩:=h;rfl
 | mp id=>obtain ⟨b,_,rfl⟩:=h;rfl
 | row id off m len cap=>obtain ⟨b,_,rfl,_⟩:=h;rfl
 | it id=>obtain ⟨b,_,rfl⟩:=h;rfl
 | mtup id ps=>cases hs
theorem ZrC (R:Rel E B S0 w0 st G S w tmps) (x:Operand) (d:List Deferred) :
  QK E B S0 w0 (some ⟨True,Zp st x,st⟩) G S w st.tk tmps (pure (.value (({ tmps:=tmps,defers:=d }:Act).eval x))) :=
 QK.same R λ r' hr _=>by cases hr;exact ⟨rfl,_,rfl,R.val x d⟩
theorem Zvg (R:Rel E B S0 w0 st G S w tmps) {c a b:SV} {vc va vb:Value} (hc:RSV st.tk G S w c vc) (ha:RSV st.tk G S w a va) (hb:RSV st.tk G S w b vb) :
  QK E B S0 w0 (Zgu c a b st) G S w st.tk tmps (do pure (.value (if <-asBool vc then va else vb))) :=
 QK.same R λ r' hr hs=>by
  unfold Zgu at hr
  split at hr
  ·cases hr
   cases hc
   rename_i q
   refine ⟨rfl,if q then va else vb,by simp [asBool],?_⟩
   cases q
   ·exact hb
   ·exact ha
  ·cases hr
theorem Qw {P:Program} {t:TypeId} {i:TypeInfo} (h:P.info? t=some i) (w:World):(sizeOf t).run P w=.ok i.size w:=by
 simp [sizeOf,typeInfo,h]
theorem Addr.add_add' (a:Addr) (i j:Nat):(a.add i).add j=a.add (i+j):=by
 unfold Addr.add
 by_cases hi:i=0<;>by_cases hj:j=0<;>simp [hi,hj,Zz6]
theorem Y0 (b o n:Nat):(⟨b,o,none⟩:Addr).add n=⟨b,o+n,none⟩:=by
 unfold Addr.add;split<;>simp_all
theorem ZmK (hE:ZQ E) (R:Rel E B S0 w0 st G S w tmps) {s:TypeId} {x:SV} {f:Nat} {vx:Value} (hx:RSV st.tk G S w x vx) :
  QK E B S0 w0 (Zbu E s x f st) G S w st.tk tmps (do pure (.value (<-Instr.fieldAt s vx f))) :=
 QK.same R λ r' hr _=>by
  unfold Zbu at hr
  have hk:=(hE.td s).k
  split at hr
  ·rename_i fs hs
   rw [hs] at hk
   obtain ⟨F,hu,hF⟩:=hk
   split at hr
   ·rename_i o ft hf
    have hFf:∃fd,F[f]?=some fd/\fd.offset=o/\fd.type=ft:=by
     rw [<-hF,Zyh] at hf
     cases hq:F.toList[f]? with
     | none=>simp [hq] at hf
     | some fd=>simp [hq] at hf;exact ⟨fd,by simpa using hq,hf.1,hf.2⟩
    obtain ⟨fd,hfd,ho,hft⟩:=hFf
    split at hr
    ·cases hr
    ·rename_i hz
     obtain ⟨i,z,u,hi,hsz,_⟩:=(hE.td ft).info (.inl hz)
     have hrun:∀a,(Instr.fieldAt s (.pointer (some a)) f).run E.P w=.ok (.pointer (some (a.add o))) w:=by
      intro a
      simp [Instr.fieldAt,run_underlying hu,hfd,Instr.sureAddr,fieldPlace,hft,Qw hi,hsz,hz,ho]
     split at hr
     ·cases hr
      cases hx with
      | ptr cs off ad g hc hrr =>
       refine ⟨rfl,_,by simp [hrun];rfl,?_⟩
       rw [Addr.add_add']
       exact RV.ptr _ _ ad g hc hrr
     ·cases hr
      obtain ⟨b,hb,rfl⟩:=hx
      refine ⟨rfl,_,by simp [hrun];rfl,b,hb,?_⟩
      rw [Y0]
     ·cases hr
      obtain ⟨b,hb,rfl⟩:=hx
      refine ⟨rfl,_,by simp [hrun];rfl,b,hb,?_⟩
      rw [Y0,Zz6]
     ·cases hr
   ·cases hr
  ·cases hr
theorem Zqe (R:Rel E B S0 w0 st G S w tmps) {x:SV} {i:Nat} {vx:Value} (hx:RSV st.tk G S w x vx) :
  QK E B S0 w0 (Zc5 x i st) G S w st.tk tmps (do pure (.value (<-Instr.extract vx i))) :=
 QK.same R λ r' hr _=>by
  unfold Zc5 at hr
  split at hr
  ·rename_i vs
   split at hr
   ·rename_i p hp
    cases hr
    obtain ⟨us,rfl,hl,hu⟩:=RV.tup_iff hx
    have hi:i<us.length:=by rw [<-hl];exact (ZxZ.1 hp).1
    refine ⟨rfl,us[i],?_,hu i p _ hp (Zya hi)⟩
    simp [Instr.extract,hi]
   ·cases hr
  ·rename_i id ps
   obtain ⟨b,vs,hb,rfl,hl,hv⟩:=hx
   split at hr
   ·cases hr
    exact ⟨rfl,.map (some b),by simp [Instr.extract],b,hb,rfl⟩
   ·rename_i j
    split at hr
    ·rename_i p hp
     cases hr
     have hi:j<vs.length:=by rw [<-hl];exact (ZxZ.1 hp).1
     refine ⟨rfl,vs[j],?_,hv j p _ hp (Zya hi)⟩
     simp [Instr.extract,hi]
    ·cases hr
  ·cases hr
theorem ZwP (R:Rel E B S0 w0 st G S w tmps) {op:UnOp} {x:SV} {vx:Value} (hx:RSV st.tk G S w x vx) :
  QK E B S0 w0 (Zqb op x st) G S w st.tk tmps (do pure (.value (<-Op.unary op vx))) :=
 QK.same R λ r' hr hside=>by
  unfold Zqb at hr
  split at hr
  ·cases hr
   cases hx
   exact ⟨rfl,_,by simp [Op.unary],RV.bool _⟩
  ·cases hr
   cases hx
   rename_i n
   refine ⟨rfl,_,by simp [Op.unary,Op.intArith];rfl,?_⟩
   have:IntKind.i64.wrap (-n)=-n:=by
    simp only at hside
    rw [IntKind.wrap_i64]
    omega
   rw [this]
   exact RV.int _ _
  ·cases hr
   cases hx
   exact ⟨rfl,.int .u64 _,rfl,RV.int _ _⟩
  ·cases hr
theorem RVs.drop_take {cs:List PV} {vs:List Value} (h:RVs S w cs vs) (o n:Nat):RVs S w ((cs.drop o).take n) ((vs.drop o).take n) :=
 ⟨by simp [h.1],λ i p v h1 h2=>by
  rw [Zyx] at h1 h2
  split at h1
  ·rename_i hlt
   rw [if_pos hlt,Zy8] at h2
   rw [Zy8] at h1
   exact h.2 _ p v h1 h2
  ·cases h1⟩
theorem ZeD {t:TypeId} {u:TypeDesc} {i:TypeInfo} (hu:E.P.underlying t=some u) (hag:Zbc u=true) (hi:E.P.info? t=some i) (a:Addr) (cs:List Value) (hl:cs.length=i.size)
  (h:∀j v,cs[j]?=some v->w.cell? (a.add j)=some v):(loadVar t a).run E.P w=.ok (.agg cs.toArray) w:=by
 have hg:(isAgg t).run E.P w=.ok true w:=by
  unfold isAgg
  cases u<;>simp_all [Zbc,run_underlying hu]
 simp [loadVar,hg,Qw hi,<-hl,run_loadCells_list w a cs h]
theorem ZeE {t:TypeId} {u:TypeDesc} (hu:E.P.underlying t=some u) (hag:Zbc u=false) (a:Addr) (v:Value) (h:w.cell? a=some v):(loadVar t a).run E.P w=.ok v w:=by
 have hg:(isAgg t).run E.P w=.ok false w:=by
  unfold isAgg
  cases u<;>simp_all [Zbc,run_underlying hu]
 simp [loadVar,hg,h]
theorem ZrX {cs:List PV} {ad:Addr} {g:Nat->Value} (hc:∀(j:Nat) (c:PV),cs[j]?=some c->S (ad.add j)/\w.cell? (ad.add j)=some (g j)/\(g j).oneCell'=true)
  (hr:∀(j:Nat) (c:PV),cs[j]?=some c->RV S w c (g j)) (off n:Nat) (hn:off+n<=cs.length) :
  ∃vs:List Value,vs.length=n/\(∀j v,vs[j]?=some v->w.cell? ((ad.add off).add j)=some v)/\RVs S w ((cs.drop off).take n) vs:=by
 refine ⟨(List.range n).map λ j=>g (off+j),by simp,λ j v hv=>?_,by simp;omega,λ j p v h1 h2=>?_⟩
 ·rw [Zyh] at hv
  by_cases hj:j<n
  ·simp [hj] at hv
   subst hv
   rw [Addr.add_add']
   exact (hc (off+j) _ (Zya (by omega))).2.1
  ·simp [hj] at hv
 ·rw [Zyh] at h2
  rw [Zyx] at h1
  by_cases hj:j<n
  ·simp [hj] at h2
   subst h2
   rw [if_pos hj,Zy8] at h1
   exact hr _ _ h1
  ·simp [hj] at h1
theorem Zej:∀{l:List SV} {ps:List PV},Zam l=some ps->ps.length=l.length
 | [],ps,h=>by simp [Zam] at h;subst h;rfl
 | s::r,ps,h=>by
  unfold Zam at h
  split at h
  ·rename_i p q _ hq
   cases h
   simp [Zej hq]
  ·cases h
theorem ZfF:∀{l:List SV} {ps:List PV},Zam l=some ps->∀(i:Nat) (p:PV),ps[i]?=some p->∃s,l[i]?=some s/\s.pv=some p
 | [],ps,h,i,p,hp=>by simp [Zam] at h;subst h;simp at hp
 | s::r,ps,h,i,p,hp=>by
  unfold Zam at h
  split at h
  ·rename_i q qs h1 h2
   cases h
   cases i with
   | zero=>simp at hp;subst hp;exact ⟨s,rfl,h1⟩
   | succ i =>
    obtain ⟨s',a,b⟩:=ZfF h2 i p (by simpa using hp)
    exact ⟨s',by simpa using a,b⟩
  ·cases h
theorem RSVs.pvs {tk:List (Nat × TypeId)} {l:List SV} {ps:List PV} {vs:List Value} (h:Zam l=some ps) (hl:l.length=vs.length)
  (hr:∀(i:Nat) (s:SV) (v:Value),l[i]?=some s->vs[i]?=some v->RSV tk G S w s v):RVs S w ps vs :=
 ⟨by rw [Zej h,hl],λ i p v h1 h2=>by
  obtain ⟨s,a,b⟩:=ZfF h i p h1
  exact RSV.pv (hr i s v a h2) b⟩
theorem Inv.read (hI:Inv E B S0 st.bx st.tk st.ax G S w) {id b:Nat} {cs:List SV} (hb:G.bx[id]?=some b) (hc:st.bx.getD id none=some cs) :
  ∃(t:TypeId) (arr:Array Value),w.heap[b]?=some (.cells arr t (0,0))/\arr.size=cs.length /\
   (∀(j:Nat) (c:SV) (v:Value),cs[j]?=some c->arr[j]?=some v->RSV st.tk G S w c v/\v.oneCell'=true)/\(∀j,w.cell? ⟨b,j,none⟩=arr[j]?)/\∀a,S a->a.block≠b:=by
 have h:st.bx[id]?=some (some cs):=by
  rw [Zyj] at hc
  cases h:st.bx[id]? with
  | none=>simp [h] at hc
  | some x=>simp [h] at hc;rw [hc]
 obtain ⟨⟨t,arr,h1,h2,h3⟩,h4⟩:=hI.box id b cs h hb
 exact ⟨t,arr,h1,h2,h3,λ j=>by simp [World.cell?,h1],h4⟩
theorem ZlD (hE:ZQ E) (R:Rel E B S0 w0 st G S w tmps) {t:TypeId} {x:SV} {vx:Value} (hx:RSV st.tk G S w x vx) :
  ∀r',YZ E t x st=some r'->r'.side->r'.st=st/\∃v,(do pure (Next.value (<-Instr.loadAt t vx)):Sem Next).run E.P w=.ok (.value v) w/\RSV st.tk G S w r'.v v :=
 λ r' hr hside=>by
  unfold YZ at hr
  split at hr
  ·rename_i cs off
   cases hx with
   | ptr _ _ ad g hc hrr =>
    split at hr
    ·rename_i hag
     cases hr
     obtain ⟨i,z,u,hi,hsz,_,_,_,_,_,_,hu,hua⟩:=(hE.td t).info (.inr hag)
     obtain ⟨vs,hl,hcell,hrv⟩:=ZrX hc hrr off (E.T t).size hside
     refine ⟨rfl,_,by simp [Instr.loadAt,Instr.sureAddr,ZeD hu (by rw [hua,hag]) hi (ad.add off) vs (by rw [hl,hsz]) hcell];rfl,?_⟩
     exact RV.agg _ vs hrv.1 hrv.2
    ·rename_i hag
     split at hr
     ·rename_i h1
      cases hr
      obtain ⟨i,z,u,hi,hsz,_,_,_,_,_,_,hu,hua⟩:=(hE.td t).info (.inl (by omega))
      have hside':off<cs.length:=hside
      have hcs:cs[off]?=some cs[off]:=Zya hside'
      obtain ⟨_,hcell,_⟩:=hc off _ hcs
      refine ⟨rfl,_,by simp [Instr.loadAt,Instr.sureAddr,ZeE hu (by rw [hua];simpa using hag) (ad.add off) _ hcell];rfl,?_⟩
      show RV S w (cs.getD off .any) _
      rw [Zyj,hcs]
      exact hrr off _ hcs
     ·cases hr
  ·rename_i id off
   obtain ⟨b,hb,rfl⟩:=hx
   split at hr
   ·rename_i cs hcs
    obtain ⟨ty,arr,hh,hl,hrr,hcell,_⟩:=R.inv.read hb hcs
    split at hr
    ·rename_i hag
     obtain ⟨i,z,u,hi,hsz,_,_,_,_,_,_,hu,hua⟩:=(hE.td t).info (.inr hag)
     split at hr
     ·rename_i l hps
      cases hr
      have hside':off+(E.T t).size<=cs.length:=hside
      have hrv:RVs S w l ((arr.toList.drop off).take (E.T t).size):=RSVs.pvs (tk:=st.tk) (G:=G) hps (by simp [hl]) (λ i s v h1 h2=>by
       rw [Zyx] at h1 h2
       split at h1
       ·rename_i hlt
        rw [if_pos hlt,Zy8] at h2
        rw [Zy8] at h1
        exact (hrr _ s v h1 (by simpa using h2)).1
       ·cases h1)
      refine ⟨rfl,_,by
       simp [Instr.loadAt,Instr.sureAddr,ZeD hu (by rw [hua,hag]) hi ⟨b,off,none⟩ ((arr.toList.drop off).take (E.T t).size) (by simp [hl,hsz];omega) (λ j v hv=>by
        rw [Y0,hcell]
        rw [Zyx] at hv
        split at hv
        ·rw [Zy8] at hv;simpa using hv
        ·cases hv)]
       rfl,?_⟩
      exact RV.agg _ _ hrv.1 hrv.2
     ·cases hr
    ·rename_i hag
     split at hr
     ·rename_i h1
      cases hr
      obtain ⟨i,z,u,hi,hsz,_,_,_,_,_,_,hu,hua⟩:=(hE.td t).info (.inl (by omega))
      have hside':off<cs.length:=hside
      have hva:arr[off]?=some arr[off]:=Zyn (by omega)
      refine ⟨rfl,_,by simp [Instr.loadAt,Instr.sureAddr,ZeE hu (by rw [hua];simpa using hag) ⟨b,off,none⟩ arr[off] (by rw [hcell];exact hva)];rfl,?_⟩
      rw [Zyj,Zya hside']
      exact (hrr off _ _ (Zya hside') hva).1
     ·cases hr
   ·cases hr
  ·cases hr
theorem Zvh (hE:ZQ E) (R:Rel E B S0 w0 st G S w tmps) {t:TypeId} {x:SV} {vx:Value} (hx:RSV st.tk G S w x vx) :
  QK E B S0 w0 (YZ E t x st) G S w st.tk tmps (do pure (.value (<-Instr.loadAt t vx))) :=
 QK.same R (ZlD hE R hx)
end
section
variable {E:Env} {B:Nat} {S0:Addr->Prop} {w0:World} {st:St} {G:Gh} {S:Addr->Prop} {w:World} {tmps:Array Value}
theorem Zek {t:TypeId} {u:TypeDesc} (hu:E.P.underlying t=some u) (w:World):(isAgg t).run E.P w=.ok (Zbc u) w:=by
 unfold isAgg
 cases u<;>simp [Zbc,run_underlying hu]
theorem Zt4 (hE:ZQ E) (R:Rel E B S0 w0 st G S w tmps) {t:TypeId} {x:SV} {f:Nat} {vx:Value} (hx:RSV st.tk G S w x vx) :
  QK E B S0 w0 (ZfD E t x f st) G S w st.tk tmps (do pure (.value (<-Instr.field t vx f))) :=
 QK.same R λ r' hr hside=>by
  unfold ZfD at hr
  have hk:=(hE.td t).k
  split at hr
  ·rename_i fs cs hs
   rw [hs] at hk
   obtain ⟨F,hu,hF⟩:=hk
   obtain ⟨vs,rfl,hl,hv⟩:=RV.agg_iff hx
   split at hr
   ·rename_i o ft hf
    have hFf:∃fd,F[f]?=some fd/\fd.offset=o/\fd.type=ft:=by
     rw [<-hF,Zyh] at hf
     cases hq:F.toList[f]? with
     | none=>simp [hq] at hf
     | some fd=>simp [hq] at hf;exact ⟨fd,by simpa using hq,hf.1,hf.2⟩
    obtain ⟨fd,hfd,ho,hft⟩:=hFf
    split at hr
    ·rename_i hag
     cases hr
     obtain ⟨i,z,u,hi,hsz,_,_,_,_,_,_,huu,hua⟩:=(hE.td ft).info (.inr hag)
     have hrv:=RVs.drop_take ⟨hl,hv⟩ o (E.T ft).size
     refine ⟨rfl,.agg ((vs.drop o).take (E.T ft).size).toArray,?_,RV.agg _ _ hrv.1 hrv.2⟩
     simp [Instr.field,run_underlying hu,hfd,part,hft,Zek huu,hua,hag,asAgg,Qw hi,hsz,ho]
     try (apply Array.ext';simp [List.take_drop,Zz2])
    ·rename_i hag
     split at hr
     ·rename_i h1
      cases hr
      obtain ⟨i,z,u,hi,hsz,_,_,_,_,_,_,huu,hua⟩:=(hE.td ft).info (.inl (by omega))
      have hside':o<cs.length:=hside
      have hvs:o<vs.length:=by omega
      refine ⟨rfl,vs[o],?_,?_⟩
      ·simp [Instr.field,run_underlying hu,hfd,part,hft,Zek huu,hua,hag,asAgg,ho,hvs]
      ·show RV S w (cs.getD o .any) _
       rw [Zyj,Zya hside']
       exact hv o _ _ (Zya hside') (Zya hvs)
     ·cases hr
   ·cases hr
  ·cases hr
theorem RSV.elems {tk:List (Nat × TypeId)} {x:SV} {v:Value} {m:Nat} {xs:List PV} (h:RSV tk G S w x v) (he:x.elems=some (m,xs)):RV S w (.list m xs) v:=by
 cases x with
 | undef=>cases he
 | val p=>cases p<;>simp [SV.elems] at he;obtain ⟨rfl,rfl⟩:=he;exact h
 | lit m' xs'=>simp [SV.elems] at he;obtain ⟨rfl,rfl⟩:=he;exact h.1
 | own t m' xs'=>simp [SV.elems] at he;obtain ⟨rfl,rfl⟩:=he;exact h.1
 | box id off=>cases he
 | msl id off len=>cases he
 | clo f caps=>cases he
 | rbx id off i m k=>cases he
 | mp id=>cases he
 | row id off m len cap=>cases he
 | it id=>cases he
 | mtup id ps=>cases he
theorem RV.slice_iff {m:Nat} {xs:List PV} {v:Value} (h:RV S w (.list m xs) v) :
  ∃(a:Option Addr) (ad:Addr) (cap:Nat) (g:Nat->Nat->Value),v=.slice a xs.length cap/\(xs≠[]->a=some ad)/\xs.length<=cap/\cap<=maxLen/\(∀(i:Nat) (x:PV),xs[i]?=some x->x.cells.length=m) /\
   (∀(i:Nat) (x:PV) (j:Nat) (c:PV),xs[i]?=some x->x.cells[j]?=some c->S (ad.add (i*m+j))/\w.cell? (ad.add (i*m+j))=some (g i j)/\(g i j).oneCell'=true) /\
   (∀(i:Nat) (x:PV) (j:Nat) (c:PV),xs[i]?=some x->x.cells[j]?=some c->RV S w c (g i j)):=by
 cases h with
 | list _ _ a ad cap g ha hcap hmax hm hc hr hz=>exact ⟨a,ad,cap,g,rfl,ha,hcap,hmax,hm,hc,hr⟩
theorem RV.nilz {m:Nat} {xs:List PV} {a:Option Addr} {n cap:Nat} (h:RV S w (.list m xs) (.slice a n cap)):m=0->cap=0:=by
 cases h with
 | list _ _ a ad cap g ha hcap hmax hm hc hr hz=>exact hz
theorem Zi0 {tk:List (Nat × TypeId)} {x:SV} {v:Value} {k:IntKind} {n:Int} (h:RSV tk G S w x v) (hi:Zdc x=some (k,n)):v=.int k n:=by
 unfold Zdc at hi
 split at hi
 ·cases hi;cases h;rfl
 ·cases hi
theorem Zb5 {t e:TypeId} {i:TypeInfo} (hu:E.P.underlying t=some (.slice e)) (hi:E.P.info? e=some i) (ad:Addr) (len cap:Nat) (k:IntKind) (n:Int) (h0:0<=n) (h1:n<len) :
  (Instr.indexAt t (.slice (some ad) len cap) (.int k n)).run E.P w=.ok (.pointer (some (ad.add (n.toNat*i.size)))) w:=by
 simp [Instr.indexAt,asIntOf,run_underlying hu,h0,h1,Qw hi]
theorem Zdf {t e:TypeId} {c:Nat} {i:TypeInfo} (hu:E.P.underlying t=some (.array c e)) (hi:E.P.info? e=some i) (ad:Addr) (k:IntKind) (n:Int) (h0:0<=n) (h1:n<c) :
  (Instr.indexAt t (.pointer (some ad)) (.int k n)).run E.P w=.ok (.pointer (some (ad.add (n.toNat*i.size)))) w:=by
 simp [Instr.indexAt,asIntOf,run_underlying hu,h0,h1,Qw hi,Instr.sureAddr]
theorem Zgx {tk:List (Nat × TypeId)} {id off i m b:Nat} {v:Value} (hb:G.bx[id]?=some b) (hv:v=.pointer (some ⟨b,off+i*m,none⟩)):RSV tk G S w (ZeQ E id off i m) v:=by
 unfold ZeQ
 split
 ·exact ⟨b,hb,hv⟩
 ·exact ⟨b,hb,hv⟩
theorem ZmL (hE:ZQ E) (R:Rel E B S0 w0 st G S w tmps) {t:TypeId} {x ix:SV} {vx vi:Value} (hx:RSV st.tk G S w x vx) (hix:RSV st.tk G S w ix vi) :
  QK E B S0 w0 (Q5 E t x ix st) G S w st.tk tmps (do pure (.value (<-Instr.indexAt t vx vi))) :=
 QK.same R λ r' hr hside=>by
  unfold Q5 at hr
  split at hr
  ·cases hr
  ·rename_i k n hin
   cases Zi0 hix hin
   have hk:=(hE.td t).k
   split at hr
   ·rename_i e hs
    rw [hs] at hk
    split at hr
    ·cases hr
    rename_i hz
    obtain ⟨i,z,u,hi,hsz,_⟩:=(hE.td e).info (.inl hz)
    split at hr
    ·rename_i id off len
     cases hr
     obtain ⟨b,cap,hb,rfl,hlc,hcm⟩:=hx
     obtain ⟨h0,h1⟩:=hside
     refine ⟨rfl,_,by simp [Zb5 hk hi _ _ _ _ _ h0 h1];rfl,Zgx hb ?_⟩
     rw [Y0,hsz]
    ·rename_i id off m len cap
     cases hr
     obtain ⟨b,hb,rfl,hlc,hcm⟩:=hx
     obtain ⟨h0,h1⟩:=hside
     refine ⟨rfl,_,by simp [Zb5 hk hi _ _ _ _ _ h0 h1];rfl,Zgx hb ?_⟩
     rw [Y0,hsz]
    ·rename_i x' _ _
     split at hr
     ·rename_i m xs hel
      split at hr
      ·rename_i hm
       cases hr
       obtain ⟨h0,h1⟩:=hside
       obtain ⟨a,ad,cap,g,rfl,ha,_,_,hmm,hc,hrr⟩:=RV.slice_iff (RSV.elems hx hel)
       have hlt:n.toNat<xs.length:=by omega
       have hne:xs≠[]:=by intro h;subst h;simp at hlt
       obtain rfl:=ha hne
       refine ⟨rfl,_,by simp [Zb5 hk hi _ _ _ _ _ h0 h1];rfl,?_⟩
       have hget:xs[n.toNat]?=some (xs.getD n.toNat .any):=by
        rw [Zyj,Zya hlt];rfl
       exact RV.ptr (S:=S) (w:=w) (xs.getD n.toNat .any).cells 0 (ad.add (n.toNat*i.size)) (λ j=>g n.toNat j)
        (λ j c hj=>by
         have:=hc n.toNat _ j c hget hj
         rw [Addr.add_add',hsz,<-hm]
         exact this)
        (λ j c hj=>hrr n.toNat _ j c hget hj)
      ·cases hr
     ·cases hr
   ·rename_i cnt e hs
    rw [hs] at hk
    split at hr
    ·cases hr
    rename_i hz
    obtain ⟨i,z,u,hi,hsz,_⟩:=(hE.td e).info (.inl hz)
    split at hr
    ·rename_i cs off
     cases hr
     obtain ⟨h0,h1⟩:=hside
     cases hx with
     | ptr _ _ ad g hc hrr =>
      refine ⟨rfl,_,by simp [Zdf hk hi _ _ _ h0 h1];rfl,?_⟩
      rw [Addr.add_add',hsz]
      exact RV.ptr _ _ ad g hc hrr
    ·rename_i id off
     cases hr
     obtain ⟨h0,h1⟩:=hside
     obtain ⟨b,hb,rfl⟩:=hx
     refine ⟨rfl,_,by simp [Zdf hk hi _ _ _ h0 h1];rfl,Zgx hb ?_⟩
     rw [Y0,hsz]
    ·cases hr
   ·cases hr
theorem Zt5 (hE:ZQ E) (R:Rel E B S0 w0 st G S w tmps) {t:TypeId} {x ix:SV} {vx vi:Value} (hx:RSV st.tk G S w x vx) (hix:RSV st.tk G S w ix vi) :
  QK E B S0 w0 (ZgV E t x ix st) G S w st.tk tmps (do pure (.value (<-Instr.index t vx vi))) :=
 QK.same R λ r' hr hside=>by
  unfold ZgV at hr
  split at hr
  ·rename_i k n s hin hs
   cases Zi0 hix hin
   have hk:=(hE.td t).k
   rw [hs] at hk
   cases hr
   cases hx
   obtain ⟨h0,h1⟩:=hside
   have hlt:n.toNat<s.size:=by omega
   refine ⟨rfl,.int .u8 (s[n.toNat]'hlt).toNat,?_,?_⟩
   ·simp [Instr.index,asIntOf,run_underlying hk,h0,getElem?_pos,hlt]
   ·have:s.data.toList.getD n.toNat 0=s[n.toNat]'hlt:=by
     rw [Zyj,Zya (by simpa using hlt)]
     rfl
    show RV S w (.int .u8 ((s.data.toList.getD n.toNat 0).toNat:Nat)) _
    rw [this]
    exact RV.int _ _
  ·cases hr
theorem RV.sub {m:Nat} {xs:List PV} {a:Option Addr} {cap l h:Nat} (hR:RV S w (.list m xs) (.slice a xs.length cap)) (hl:l<=h) (hh:h<=xs.length) :
  RV S w (.list m ((xs.take h).drop l)) (.slice (if cap=l then a else a.map (·.add (l*m))) (h - l) (cap - l)):=by
 obtain ⟨a',ad,cap',g,he,ha,hcap,hmax,hmm,hc,hrr⟩:=RV.slice_iff hR
 injection he with e1 e2 e3
 subst e1
 subst e3
 have hlen:((xs.take h).drop l).length=h - l:=by simp;omega
 have hget:∀(i:Nat) (x:PV),((xs.take h).drop l)[i]?=some x->xs[l+i]?=some x:=by
  intro i x hx
  rw [Zy8,Zyx] at hx
  split at hx
  ·exact hx
  ·cases hx
 have:=RV.list (S:=S) (w:=w) m ((xs.take h).drop l) (if cap=l then a else a.map (·.add (l*m))) (if cap=l then ad else ad.add (l*m)) (cap - l) (λ i j=>g (l+i) j)
  (λ hne=>by
   have hx:xs≠[]:=by intro e;subst e;simp at hne
   rw [ha hx]
   split<;>rfl)
  (by rw [hlen];omega) (by omega)
  (λ i x hx=>hmm (l+i) x (hget i x hx))
  (λ i x j c hx hj=>by
   have hcap':¬cap=l:=by
    intro e
    have:l+i<xs.length:=(ZxZ.1 (hget i x hx)).1
    omega
   rw [if_neg hcap',Addr.add_add']
   have:=hc (l+i) x j c (hget i x hx) hj
   rw [show l*m+(i*m+j)=(l+i)*m+j by rw [Zzi];omega]
   exact this)
  (λ i x j c hx hj=>hrr (l+i) x j c (hget i x hx) hj)
  (λ h0=>by
   have e2:=RV.nilz hR h0
   subst e2
   exact Nat.zero_sub _)
 rw [hlen] at this
 exact this
def Zja (tk:List (Nat × TypeId)) (G:Gh) (S:Addr->Prop) (w:World):Option SV->Option Value->Prop
 | none,none=>True
 | some s,some v=>RSV tk G S w s v
 | _,_=>False
theorem Zc6 {tk:List (Nat × TypeId)} {o:Option SV} {ov:Option Value} {d n:Int} (h:ZgU o d=some n)
  (hrel:Zja tk G S w o ov):(o=none/\ov=none/\n=d)\/∃k,ov=some (.int k n):=by
 unfold ZgU at h
 split at h
 ·cases h
  cases ov with
  | none=>exact .inl ⟨rfl,rfl,rfl⟩
  | some v=>exact hrel.elim
 ·cases h
  cases ov with
  | none=>exact hrel.elim
  | some v =>
   cases hrel
   exact .inr ⟨_,rfl⟩
 ·cases h
theorem YK {k:IntKind} {n:Int} {y:Nat} {c:BoundsCode} (h0:0<=n) (h1:n<=y):(Instr.sliceBound (.int k n) y c).run E.P w=.ok n.toNat w:=by
 simp [Instr.sliceBound,asIntOf,h0,h1]
theorem Zbl {isSlice:Bool} {len cap:Nat} {lo hi:Option Value} {l h:Int}
  (hlo:(lo=none/\l=0)\/∃k,lo=some (.int k l)) (hhi:(hi=none/\h=len)\/∃k,hi=some (.int k h)) (h0:0<=l) (h1:l<=h) (h2:h<=len) (h3:len<=cap) :
  (Instr.sliceBounds isSlice len cap lo hi none).run E.P w=.ok (l.toNat,h.toNat,cap) w:=by
 have hc:h<=(cap:Int):=by omega
 have hn:l<=((h.toNat:Nat):Int):=by omega
 rcases hlo with ⟨rfl,rfl⟩ | ⟨k,rfl⟩<;>rcases hhi with ⟨rfl,rfl⟩ | ⟨k',rfl⟩
 ·simp [Instr.sliceBounds]
 ·simp [Instr.sliceBounds,YK (by omega:0<=h) hc]
 ·simp [Instr.sliceBounds,YK h0 (by omega:l<=((len:Nat):Int))]
 ·simp [Instr.sliceBounds,YK (by omega:0<=h) hc,YK h0 hn]
theorem Zt6 (hE:ZQ E) (R:Rel E B S0 w0 st G S w tmps) {t:TypeId} {x:SV} {vx:Value} {lo hi mx:Option SV} {vlo vhi vmx:Option Value} (hx:RSV st.tk G S w x vx)
  (hlo:Zja st.tk G S w lo vlo) (hhi:Zja st.tk G S w hi vhi)
  (hmx:mx=none->vmx=none) :
  QK E B S0 w0 (Zec E t x lo hi mx st) G S w st.tk tmps (do pure (.value (<-Instr.sliceAt t vx vlo vhi vmx))) :=
 QK.same R λ r' hr hside=>by
  unfold Zec at hr
  have hk:=(hE.td t).k
  split at hr
  ·rename_i e hs
   rw [hs] at hk
   obtain rfl:=hmx rfl
   split at hr
   ·rename_i m xs hel
    split at hr
    ·rename_i hm
     split at hr
     ·rename_i l h hl hh
      cases hr
      obtain ⟨h0,h1,h2⟩:=hside
      have hR:=RSV.elems hx hel
      obtain ⟨a,ad,cap,g,rfl,ha,hcap,hmax,hmm,hc,hrr⟩:=RV.slice_iff hR
      have b1:(vlo=none/\l=0)\/∃k,vlo=some (.int k l):=by
       rcases Zc6 hl hlo with ⟨_,a,b⟩ | h
       ·exact .inl ⟨a,b⟩
       ·exact .inr h
      have b2:(vhi=none/\h=xs.length)\/∃k,vhi=some (.int k h):=by
       rcases Zc6 hh hhi with ⟨_,a,b⟩ | h
       ·exact .inl ⟨a,b⟩
       ·exact .inr h
      have hb:=Zbl (E:=E) (w:=w) (isSlice:=true) b1 b2 h0 h1 h2 hcap
      have hsub:=RV.sub (l:=l.toNat) (h:=h.toNat) hR (by omega) (by omega)
      obtain ⟨i,z,u,hi,hsz,_⟩:=(hE.td e).info (.inl hm.2)
      refine ⟨rfl,_,by simp [Instr.sliceAt,Instr.slice,run_underlying hk,hb,Qw hi];rfl,?_⟩
      rcases hm.1 with hme | hxs
      ·rw [hsz,<-hme]
       exact hsub
      ·have hz:xs.length=0:=by rw [hxs];rfl
       have hl0:l=0:=by omega
       have hh0:h=0:=by omega
       rw [hl0,hh0]
       exact RV.list_nil m _ _ (by simpa using hmax) (λ h=>by
        have e2:=RV.nilz hR h
        subst e2
        rfl)
     ·cases hr
    ·cases hr
   ·cases hr
  ·rename_i hs
   rw [hs] at hk
   obtain rfl:=hmx rfl
   split at hr
   ·rename_i s
    split at hr
    ·rename_i l h hl hh
     cases hr
     cases hx
     obtain ⟨h0,h1,h2⟩:=hside
     have b1:(vlo=none/\l=0)\/∃k,vlo=some (.int k l):=by
      rcases Zc6 hl hlo with ⟨_,a,b⟩ | h
      ·exact .inl ⟨a,b⟩
      ·exact .inr h
     have b2:(vhi=none/\h=s.size)\/∃k,vhi=some (.int k h):=by
      rcases Zc6 hh hhi with ⟨_,a,b⟩ | h
      ·exact .inl ⟨a,b⟩
      ·exact .inr h
     have hb:=Zbl (E:=E) (w:=w) (isSlice:=false) b1 b2 h0 h1 h2 (Zyp _)
     exact ⟨rfl,_,by simp [Instr.sliceAt,Instr.slice,run_underlying hk,hb],RV.str _⟩
    ·cases hr
   ·cases hr
  ·cases hr
theorem Zc7 {tk:List (Nat × TypeId)} {o:Option SV} {v:Option Value} (h:Zja tk G S w o v) (ho:o=none):v=none:=by
 subst ho
 cases v with
 | none=>rfl
 | some v=>exact h.elim
theorem ZgZ {tk:List (Nat × TypeId)} {o:Option SV} {v:Option Value} {k:IntKind} {n:Int} (h:Zja tk G S w o v) (ho:o=some (.val (.int k n))):v=some (.int k n):=by
 subst ho
 cases v with
 | none=>exact h.elim
 | some v=>have h:RV S w (.int k n) v:=h;cases h;rfl
theorem ZnZ (hE:ZQ E) (R:Rel E B S0 w0 st G S w tmps) {t:TypeId} {id off m len cap:Nat} {vx:Value} {lo hi mx:Option SV} {vlo vhi vmx:Option Value} (hx:RSV st.tk G S w (.row id off m len cap) vx)
  (hlo:Zja st.tk G S w lo vlo) (hhi:Zja st.tk G S w hi vhi) (hmx:Zja st.tk G S w mx vmx) :
  QK E B S0 w0 (ZbN E t id off m len cap lo hi mx st) G S w st.tk tmps (do pure (.value (<-Instr.sliceAt t vx vlo vhi vmx))) :=
 QK.same R λ r' hr hside=>by
  unfold ZbN at hr
  have hk:=(hE.td t).k
  split at hr
  ·rename_i e hs
   rw [hs] at hk
   obtain rfl:=Zc7 hmx rfl
   split at hr
   ·rename_i hm
    obtain ⟨i,z,u,hi,hsz,_⟩:=(hE.td e).info (.inl (by rw [<-hm.1];exact hm.2))
    obtain ⟨b,hb,rfl,hlc,hcm⟩:=hx
    split at hr
    ·rename_i h hh
     cases hr
     obtain ⟨_,h0,h1⟩:=hside
     obtain rfl:=Zc7 hlo rfl
     have b2:(vhi=none/\h=len)\/∃k,vhi=some (.int k h):=by
      rcases Zc6 hh hhi with ⟨_,a,b⟩ | h
      ·exact .inl ⟨a,b⟩
      ·exact .inr h
     have hbb:=Zbl (E:=E) (w:=w) (isSlice:=true) (lo:=none) (l:=0) (.inl ⟨rfl,rfl⟩) b2 (Zyk _) h0 h1 hlc
     refine ⟨rfl,.slice (some ⟨b,off,none⟩) h.toNat cap,?_,b,hb,rfl,by omega,hcm⟩
     have hz:∀(c:Prop) [Decidable c] (k:Nat),(if c then some (⟨b,off,none⟩:Addr) else some ((⟨b,off,none⟩:Addr).add (0*k)))=some ⟨b,off,none⟩:=by
      intro c _ k;split
      ·rfl
      ·rw [Z09];rfl
     simp only [Instr.sliceAt,Instr.slice,Sem.run_bind,run_underlying hk,Result.andThen_ok,hbb,Qw hi,Sem.run_pure,Zy5,Int.toNat_zero,hz,Nat.sub_zero]
    ·rename_i kk l h hh
     cases hr
     obtain ⟨⟨h0,h1,h2⟩,_,h3⟩:=hside
     have e1:=ZgZ hlo rfl
     have b2:(vhi=none/\h=len)\/∃k,vhi=some (.int k h):=by
      rcases Zc6 hh hhi with ⟨_,a,b⟩ | h
      ·exact .inl ⟨a,b⟩
      ·exact .inr h
     have hbb:=Zbl (E:=E) (w:=w) (isSlice:=true) (lo:=vlo) (l:=l) (.inr ⟨_,e1⟩) b2 h0 h1 h2 hlc
     refine ⟨rfl,.slice (some ⟨b,off+l.toNat*m,none⟩) (h - l).toNat ((cap:Int) - l).toNat,?_,b,hb,rfl,by omega,by omega⟩
     have hne:¬cap=l.toNat:=by omega
     have hsub:h.toNat - l.toNat=(h - l).toNat:=by omega
     have hsub2:cap - l.toNat=((cap:Int) - l).toNat:=by omega
     simp only [Instr.sliceAt,Instr.slice,Sem.run_bind,run_underlying hk,Result.andThen_ok,hbb,Qw hi,Sem.run_pure,Zy5,hne,if_false,hsz,<-hm.1,Y0,hsub,hsub2]
    ·cases hr
   ·cases hr
  ·cases hr
theorem Zoa (hE:ZQ E) (R:Rel E B S0 w0 st G S w tmps) {t:TypeId} {id off:Nat} {vx:Value} {lo hi mx:Option SV} {vlo vhi vmx:Option Value} (hx:RSV st.tk G S w (.box id off) vx)
  (hlo:Zja st.tk G S w lo vlo) (hhi:Zja st.tk G S w hi vhi) (hmx:Zja st.tk G S w mx vmx) :
  QK E B S0 w0 (Zbo E t id off lo hi mx st) G S w st.tk tmps (do pure (.value (<-Instr.sliceAt t vx vlo vhi vmx))) :=
 QK.same R λ r' hr hside=>by
  unfold Zbo at hr
  have hk:=(hE.td t).k
  split at hr
  ·rename_i n e hs
   rw [hs] at hk
   ·split at hr
    ·rename_i hc
     obtain ⟨b,hb,rfl⟩:=hx
     obtain rfl:=Zc7 hlo rfl
     obtain ⟨i,z,u,hi,hsz,_⟩:=(hE.td e).info (.inl hc.1)
     have fin:∀(h m:Int),0<=h->h<=m->m<=n->(Instr.sliceBounds false n n none vhi vmx).run E.P w=.ok (0,h.toNat,m.toNat) w ->
       ∃v,(do pure (Next.value (<-Instr.sliceAt t (.pointer (some ⟨b,off,none⟩)) none vhi vmx)):Sem Next).run E.P w=.ok (.value v) w/\RSV st.tk G S w (.msl id off h.toNat) v:=by
      intro h m h0 h1 h2 hrun
      refine ⟨.slice (some ⟨b,off,none⟩) h.toNat m.toNat,?_,b,m.toNat,hb,rfl,by omega,by simp only [maxLen];omega⟩
      have hz:∀(c:Prop) [Decidable c] (k:Nat),(if c then (⟨b,off,none⟩:Addr) else (⟨b,off,none⟩:Addr).add (0*k))=⟨b,off,none⟩:=by
       intro c _ k;split
       ·rfl
       ·rw [Z09];rfl
      simp only [Instr.sliceAt,Sem.run_bind,run_underlying hk,Result.andThen_ok,Instr.sureAddr,Sem.run_pure,hrun,Qw hi,hz,Nat.sub_zero]
     split at hr
     ·cases hr
      obtain ⟨h0,h1,h2⟩:=hside
      rename_i k h k' m
      have e1:=ZgZ hhi rfl
      have e2:=ZgZ hmx rfl
      subst e1;subst e2
      refine ⟨rfl,fin h m h0 h1 h2 ?_⟩
      have hm:h<=((m.toNat:Nat):Int):=by omega
      simp [Instr.sliceBounds,YK (by omega:0<=m) h2,YK h0 hm]
     ·cases hr
      obtain ⟨h0,h1⟩:=hside
      rename_i k h
      have e1:=ZgZ hhi rfl
      have e2:=Zc7 hmx rfl
      subst e1;subst e2
      refine ⟨rfl,fin h n h0 h1 (Zyk _) ?_⟩
      simp [Instr.sliceBounds,YK h0 h1]
     ·cases hr
      have e1:=Zc7 hhi rfl
      have e2:=Zc7 hmx rfl
      subst e1;subst e2
      have:=fin n n (by omega) (Zyk _) (Zyk _) (by simp [Instr.sliceBounds])
      exact ⟨rfl,by simpa using this⟩
     ·cases hr
    ·cases hr
  ·cases hr
end
section
variable {E:Env} {B:Nat} {S0:Addr->Prop} {w0:World} {st:St} {G:Gh} {S:Addr->Prop} {w:World} {tmps:Array Value}
theorem Zdg {n:Int} (h:Zj n):IntKind.i64.wrap n=n:=by
 unfold Zj at h
 rw [IntKind.wrap_i64]
 omega
theorem Zcd (op:BinOp) (t:TypeId) (x y:Operand) (k k':IntKind) (a b:Int):(eqGuard op t x y (.int k a) (.int k' b)).run E.P w=.ok () w:=by
 unfold eqGuard
 cases op<;>simp
theorem Zha (op:BinOp) (t:TypeId) (x y:Operand) (a b:Bool):(eqGuard op t x y (.bool a) (.bool b)).run E.P w=.ok () w:=by
 unfold eqGuard
 cases op<;>simp
theorem Zi1 (op:BinOp) (t:TypeId) (x y:Operand) (a b:ByteArray):(eqGuard op t x y (.string a) (.string b)).run E.P w=.ok () w:=by
 unfold eqGuard
 cases op<;>simp
theorem Zob {op:BinOp} {a b:Int} {s:Prop} {p:PV} (h:ZeR op a b=some (s,p)) (hs:s) (t:TypeId) :
  ∃v,(binOp op t (.int .i64 a) (.int .i64 b)).run E.P w=.ok v w/\RV S w p v:=by
 cases op<;>simp only [ZeR,Zyu,Zzo,reduceCtorEq] at h<;>obtain ⟨rfl,rfl⟩:=h
 ·exact ⟨_,by simp [binOp,Op.intArith,Zdg hs],RV.int _ _⟩
 ·exact ⟨_,by simp [binOp,Op.intArith,Zdg hs],RV.int _ _⟩
 ·exact ⟨_,by simp [binOp,Op.intArith,Zdg hs],RV.int _ _⟩
 ·exact ⟨_,by simp [binOp,Op.intDiv,hs.1,Zdg hs.2],RV.int _ _⟩
 ·exact ⟨_,by have hs':¬b=0:=hs;simp [binOp,Op.intDiv,hs'],RV.int _ _⟩
 ·refine ⟨.bool (a == b),by simp [binOp,Op.intCmp],?_⟩
  have:(a == b)=decide (a=b):=by rw [ZyA];simp
  rw [this]
  exact RV.bool _
 ·refine ⟨.bool (a != b),by simp [binOp,Op.intCmp],?_⟩
  have:(a != b)=decide (a≠b):=by rw [ZyA];simp
  rw [this]
  exact RV.bool _
 ·exact ⟨_,by simp [binOp,Op.intCmp],RV.bool _⟩
 ·exact ⟨_,by simp [binOp,Op.intCmp],RV.bool _⟩
 ·exact ⟨_,by simp [binOp,Op.intCmp],RV.bool _⟩
 ·exact ⟨_,by simp [binOp,Op.intCmp],RV.bool _⟩
theorem Zga {op:BinOp} {k:IntKind} {a b:Int} {s:Prop} {p:PV} (h:ZbO op k a b=some (s,p)) (hs:s) (t:TypeId) :
  ∃v,(binOp op t (.int k a) (.int k b)).run E.P w=.ok v w/\RV S w p v:=by
 cases op<;>simp only [ZbO,Zyu,Zzo,reduceCtorEq] at h<;>obtain ⟨rfl,rfl⟩:=h
 ·exact ⟨_,by simp [binOp,Op.intArith],RV.int _ _⟩
 ·exact ⟨_,by simp [binOp,Op.intArith],RV.int _ _⟩
 ·exact ⟨_,by have hs':¬b=0:=hs;simp [binOp,Op.intDiv,hs'],RV.int _ _⟩
 ·exact ⟨.int k _,by simp only [binOp,Op.intBits];simp only [ne_eq,not_true_eq_false,↓reduceIte,Sem.run_pure],RV.int _ _⟩
 ·exact ⟨.int k _,by simp only [binOp,Op.intBits];simp only [ne_eq,not_true_eq_false,↓reduceIte,Sem.run_pure],RV.int _ _⟩
 ·refine ⟨.bool (a == b),by simp [binOp,Op.intCmp],?_⟩
  have:(a == b)=decide (a=b):=by rw [ZyA];simp
  rw [this]
  exact RV.bool _
 ·refine ⟨.bool (a != b),by simp [binOp,Op.intCmp],?_⟩
  have:(a != b)=decide (a≠b):=by rw [ZyA];simp
  rw [this]
  exact RV.bool _
 ·exact ⟨_,by simp [binOp,Op.intCmp],RV.bool _⟩
 ·exact ⟨_,by simp [binOp,Op.intCmp],RV.bool _⟩
 ·exact ⟨_,by simp [binOp,Op.intCmp],RV.bool _⟩
 ·exact ⟨_,by simp [binOp,Op.intCmp],RV.bool _⟩
theorem RV.int_inv {k:IntKind} {n:Int} {v:Value} (h:RV S w (.int k n) v):v=.int k n:=by cases h;rfl
theorem RV.bool_inv {b:Bool} {v:Value} (h:RV S w (.bool b) v):v=.bool b:=by cases h;rfl
theorem RV.str_inv {s:ByteArray} {v:Value} (h:RV S w (.str s) v):v=.string s:=by cases h;rfl
theorem Zhb (a b:ByteArray):(a.toList == b.toList)=decide (a=b):=by
 rw [ByteArray.toList_eq,ByteArray.toList_eq,ZyA]
 obtain ⟨⟨x⟩⟩:=a
 obtain ⟨⟨y⟩⟩:=b
 simp
theorem ZeU:∀{ks:List SK} {xs ys:List PV} {r:Bool},Qm ks xs ys=some r->xs.length=ks.length/\ys.length=ks.length
 | [],[],[],_,_=>⟨rfl,rfl⟩
 | k::ks,x::xs,y::ys,r,h=>by
  simp only [Qm] at h
  split at h
  ·rename_i a b _ hb
   obtain ⟨h1,h2⟩:=ZeU hb
   simp [h1,h2]
  ·cases h
 | [],[],_::_,_,h | [],_::_,_,_,h | _::_,[],_,_,h | _::_,_::_,[],_,h=>by simp [Qm] at h
theorem Zgb:∀{ks ls:List SK} {xs ys:List PV} {r:Bool},Qm (ks++ls) xs ys=some r ->
  ∃a b,Qm ks (xs.take ks.length) (ys.take ks.length)=some a/\Qm ls (xs.drop ks.length) (ys.drop ks.length)=some b/\r=(a&&b)
 | [],ls,xs,ys,r,h=>⟨true,r,by simp [Qm],by simpa using h,by simp⟩
 | k::ks,ls,x::xs,y::ys,r,h=>by
  simp only [Zzq,Qm] at h
  split at h
  ·rename_i a b ha hb
   cases h
   obtain ⟨c,d,h1,h2,h3⟩:=Zgb hb
   exact ⟨a&&c,d,by simp [Qm,ha,h1],by simpa using h2,by rw [h3,Bool.and_assoc]⟩
  ·cases h
 | k::ks,ls,[],ys,r,h=>by simp [Qm] at h
 | k::ks,ls,x::xs,[],r,h=>by simp [Qm] at h
def ZdG (P:Program) (t:TypeId) (vs:List Value):Value :=
 match P.underlying t with
 | some (.struct _)=>.agg vs.toArray
 | _=>vs.getD 0 undef
theorem RVs.take {cs:List PV} {vs:List Value} (h:RVs S w cs vs) (n:Nat):RVs S w (cs.take n) (vs.take n):=by simpa using RVs.drop_take h 0 n
theorem RVs.drop {cs:List PV} {vs:List Value} (h:RVs S w cs vs) (n:Nat):RVs S w (cs.drop n) (vs.drop n) :=
 ⟨by simp [h.1],λ i p v h1 h2=>by rw [Zy8] at h1 h2;exact h.2 _ p v h1 h2⟩
theorem RVs.one_inv {p:PV} {vs:List Value} (h:RVs S w [p] vs):∃v,vs=[v]/\RV S w p v:=by
 match vs,h with
 | [v],h=>exact ⟨v,rfl,h.2 0 p v rfl rfl⟩
 | [],h=>exact absurd h.1 (by simp)
 | _::_::_,h=>exact absurd h.1 (by simp)
theorem Zgy {P:Program} {t:TypeId} {u:TypeDesc} (h:P.underlying t=some u):∃i,P.info? t=some i:=by
 unfold Program.underlying at h
 cases hq:P.info? t with
 | some i=>exact ⟨i,rfl⟩
 | none=>rw [hq] at h;cases h
theorem Y7 {P:Program} {t:TypeId} {fs:Array Field} (h:P.underlying t=some (.struct fs)) (vs:List Value):ZdG P t vs=.agg vs.toArray:=by
 simp only [ZdG,h]
theorem Zbv {P:Program} {t:TypeId} {u:TypeDesc} (h:P.underlying t=some u) (hag:Zbc u=false) (vs:List Value):ZdG P t vs=vs.getD 0 undef:=by
 simp only [ZdG,h]
 cases u<;>simp_all [Zbc]
theorem Zj2 {t:TypeId} {ks:List SK} (hk:∃d,flatK E.P d t=some ks) (hn:ks.length=E.P.cellsOf t) (vs:List Value) (off:Nat) (h:off+ks.length<=vs.length) :
  (part t vs.toArray off).run E.P w=.ok (ZdG E.P t ((vs.drop off).take ks.length)) w:=by
 obtain ⟨d,hd⟩:=hk
 cases d with
 | zero=>cases hd
 | succ d =>
  have hsc:∀u:TypeDesc,E.P.underlying t=some u->Zbc u=false->ks.length=1->(part t vs.toArray off).run E.P w=.ok (ZdG E.P t ((vs.drop off).take ks.length)) w:=by
   intro u hu hag h1
   have hlt:off<vs.length:=by omega
   rw [Zbv hu hag,h1]
   have e:((vs.drop off).take 1).getD 0 undef=vs[off]:=by
    rw [ZyZ hlt]
    rfl
   rw [e]
   simp [part,Zek hu,hag,hlt]
  simp only [flatK] at hd
  split at hd
  ·rename_i hu;cases hd;exact hsc _ hu rfl rfl
  ·rename_i hu;cases hd;exact hsc _ hu rfl rfl
  ·rename_i hu;cases hd;exact hsc _ hu rfl rfl
  ·rename_i fs hu
   obtain ⟨i,hi⟩:=Zgy hu
   have hsz:i.size=ks.length:=by
    rw [hn];simp [Program.cellsOf,hi]
   rw [Y7 hu]
   simp [part,Zek hu,Zbc,Qw hi,hsz]
   try (apply Array.ext';simp [List.take_drop,Zz2])
  ·cases hd
theorem Zhc (d:Nat) (F:TypeId->Option (List SK)) (hF:∀t ks,F t=some ks->∃n,flatK E.P n t=some ks)
  (heq:∀(t:TypeId) (ks:List SK) (xs ys:List PV) (vs us:List Value) (r:Bool),F t=some ks->RVs S w xs vs->RVs S w ys us->Qm ks xs ys=some r ->
   (Op.equalIn d t (ZdG E.P t vs) (ZdG E.P t us)).run E.P w=.ok r w) :
  ∀(fs:List Field) (off:Nat) (ks:List SK) (xs ys:List PV) (vs us:List Value) (r:Bool),Za2 E.P F off fs=some ks->RVs S w xs vs->RVs S w ys us->Qm ks (xs.drop off) (ys.drop off)=some r ->
   (Op.eqFields d vs.toArray us.toArray fs).run E.P w=.ok r w
 | [],off,ks,xs,ys,vs,us,r,hf,hx,hy,he=>by
  simp only [Za2,Zyu] at hf
  subst hf
  generalize xs.drop off=a at he
  generalize ys.drop off=b at he
  match a,b,he with
  | [],[],he=>simp [Qm] at he;subst he;simp [Op.eqFields]
  | _::_,_,he=>simp [Qm] at he
  | [],_::_,he=>simp [Qm] at he
 | f::fs,off,ks,xs,ys,vs,us,r,hf,hx,hy,he=>by
  simp only [Za2] at hf
  split at hf
  ·rename_i hname
   split at hf
   ·cases hf
   ·rename_i ks1 hk1
    split at hf
    ·rename_i hlen
     cases hr1:Za2 E.P F (off+ks1.length) fs with
     | none=>simp [hr1] at hf
     | some ks2 =>
      simp [hr1] at hf
      subst hf
      obtain ⟨a,b,h1,h2,rfl⟩:=Zgb he
      have hL:=ZeU h1
      have hx1:ks1.length<=(xs.drop off).length:=by
       have:=hL.1;simp at this ⊢;omega
      have hy1:ks1.length<=(ys.drop off).length:=by
       have:=hL.2;simp at this ⊢;omega
      have hz:0<ks1.length:=Zz0.2 hlen.2
      have hvs:off+ks1.length<=vs.length:=by rw [<-hx.1];simp at hx1;omega
      have hus:off+ks1.length<=us.length:=by rw [<-hy.1];simp at hy1;omega
      have e1:=heq f.type ks1 _ _ _ _ a hk1 ((hx.drop off).take ks1.length) ((hy.drop off).take ks1.length) h1
      have ih:=Zhc d F hF heq fs (off+ks1.length) ks2 xs ys vs us b hr1 hx hy (by simpa [List.drop_drop,Zz2] using h2)
      simp only [Op.eqFields,ne_eq,hname.1,not_false_eq_true,↓reduceIte,Sem.run_bind,hname.2,Zj2 (hF _ _ hk1) hlen.1 vs off hvs,Zj2 (hF _ _ hk1) hlen.1 us off hus,Result.andThen_ok,e1,Sem.run_ite,ih,Sem.run_pure]
      cases a<;>simp
    ·cases hf
  ·cases hf
theorem Zbw {k:SK} {xs ys:List PV} {r:Bool} (h:Qm [k] xs ys=some r):∃x y,xs=[x]/\ys=[y]/\Zjw k x y=some r:=by
 match xs,ys,h with
 | [x],[y],h =>
  simp only [Qm] at h
  cases hq:Zjw k x y with
  | none=>simp [hq] at h
  | some a=>simp [hq] at h;exact ⟨x,y,rfl,rfl,by rw [<-h];exact hq⟩
 | [],_,h=>simp [Qm] at h
 | x::y::xs,[],h=>simp [Qm] at h
 | x::y::xs,[z],h=>simp [Qm] at h
 | x::y::xs,z::u::zs,h=>simp [Qm] at h
 | [x],[],h=>simp [Qm] at h
 | [x],y::z::zs,h=>simp [Qm] at h
theorem ZaT:∀(n d:Nat),n<=d->∀(t:TypeId) (ks:List SK) (xs ys:List PV) (vs us:List Value) (r:Bool),flatK E.P n t=some ks->RVs S w xs vs->RVs S w ys us->Qm ks xs ys=some r ->
   (Op.equalIn d t (ZdG E.P t vs) (ZdG E.P t us)).run E.P w=.ok r w
 | 0,_,_,_,_,_,_,_,_,_,h,_,_,_=>by cases h
 | n+1,0,hd,_,_,_,_,_,_,_,_,_,_,_=>by omega
 | n+1,d+1,hd,t,ks,xs,ys,vs,us,r,h,hx,hy,he=>by
  simp only [flatK] at h
  split at h
  ·rename_i hu
   cases h
   obtain ⟨x,y,rfl,rfl,hp⟩:=Zbw he
   obtain ⟨v,rfl,hv⟩:=RVs.one_inv hx
   obtain ⟨u,rfl,hu'⟩:=RVs.one_inv hy
   rw [Zbv hu rfl,Zbv hu rfl]
   cases x<;>cases y<;>simp only [Zjw,reduceCtorEq,Zyu] at hp
   cases hv;cases hu'
   rename_i a b
   simp [Op.equalIn,run_underlying hu,List.getD,<-hp]
   rw [ZyA];simp
  ·rename_i hu
   cases h
   obtain ⟨x,y,rfl,rfl,hp⟩:=Zbw he
   obtain ⟨v,rfl,hv⟩:=RVs.one_inv hx
   obtain ⟨u,rfl,hu'⟩:=RVs.one_inv hy
   rw [Zbv hu rfl,Zbv hu rfl]
   cases x<;>cases y<;>simp only [Zjw,reduceCtorEq,Option.ite_none_right_eq_some,Zyu] at hp
   cases hv;cases hu'
   obtain ⟨rfl,hp⟩:=hp
   simp [Op.equalIn,run_underlying hu,List.getD,<-hp]
   rw [ZyA];simp
  ·rename_i hu
   cases h
   obtain ⟨x,y,rfl,rfl,hp⟩:=Zbw he
   obtain ⟨v,rfl,hv⟩:=RVs.one_inv hx
   obtain ⟨u,rfl,hu'⟩:=RVs.one_inv hy
   rw [Zbv hu rfl,Zbv hu rfl]
   cases x<;>cases y<;>simp only [Zjw,reduceCtorEq,Zyu] at hp
   cases hv;cases hu'
   rename_i a b
   simp [Op.equalIn,run_underlying hu,List.getD,<-hp]
   rw [<-Zhb,beq_toListBytes]
  ·rename_i fs hu
   split at h
   ·cases h
   ·rename_i hst
    have hfo:E.P.fieldsOf t=fs:=by simp [Program.fieldsOf,hu]
    rw [Y7 hu,Y7 hu,run_equalIn_struct w d t vs.toArray us.toArray (by rw [hfo];exact hu) (by simpa using hst),hfo]
    exact Zhc d (flatK E.P n) (λ t ks h=>⟨n,h⟩) (λ t ks xs ys vs us r h1 h2 h3 h4=>ZaT n d (by omega) t ks xs ys vs us r h1 h2 h3 h4) fs.toList 0 ks xs ys vs us r h hx hy (by simpa using he)
  ·cases h
theorem ZeF {op:BinOp} {t:TypeId} (x y:Operand) (vs us:Array Value) (h:E.P.eqGuardType E.P.depth t=false):(eqGuard op t x y (.agg vs) (.agg us)).run E.P w=.ok () w:=by
 unfold eqGuard
 cases op<;>simp [h]
theorem ZdH (d:Nat) {t:TypeId} (hu:E.P.underlying t=some .bool) (a b:Bool):(Op.equalIn (d+1) t (.bool a) (.bool b)).run E.P w=.ok (a == b) w:=by
 simp [Op.equalIn,run_underlying hu]
theorem Zwo (hE:ZQ E) (R:Rel E B S0 w0 st G S w tmps) {op:BinOp} {t:TypeId} {x y:SV} {vx vy:Value} (ox oy:Operand) (hx:RSV st.tk G S w x vx) (hy:RSV st.tk G S w y vy) :
  QK E B S0 w0 (Zjx E op t x y st) G S w st.tk tmps (do pure (.value (<-(do eqGuard op t ox oy vx vy;binOp op t vx vy)))) :=
 QK.same R λ r' hr hside=>by
  unfold Zjx at hr
  split at hr
  ·rename_i k a k' b
   cases RV.int_inv hx
   cases RV.int_inv hy
   split at hr
   ·cases hr
    obtain ⟨h0,h1⟩:=hside
    refine ⟨rfl,.int k (k.wrap (a*2 ^ b.toNat)),?_,RV.int _ _⟩
    have hm:min b.toNat k.bits=b.toNat:=by omega
    simp [Zcd,binOp,Op.shift,show ¬b<0 by omega,hm]
   ·cases hr
    obtain ⟨h0,h1⟩:=hside
    refine ⟨rfl,.int k (a.fdiv (2 ^ b.toNat)),?_,RV.int _ _⟩
    have hm:min b.toNat k.bits=b.toNat:=by omega
    simp [Zcd,binOp,Op.shift,show ¬b<0 by omega,hm]
   ·split at hr
    ·rename_i hkk
     subst hkk
     split at hr
     ·rename_i s p hsp
      cases hr
      split at hsp
      ·obtain ⟨v,h1,h2⟩:=Zga (E:=E) (w:=w) (S:=S) hsp hside t
       exact ⟨rfl,v,by simp [Zcd,h1],h2⟩
      split at hsp
      ·rename_i hk
       subst hk
       obtain ⟨v,h1,h2⟩:=Zob (E:=E) (w:=w) (S:=S) hsp hside t
       exact ⟨rfl,v,by simp [Zcd,h1],h2⟩
      ·obtain ⟨v,h1,h2⟩:=Zga (E:=E) (w:=w) (S:=S) hsp hside t
       exact ⟨rfl,v,by simp [Zcd,h1],h2⟩
     ·cases hr
    ·cases hr
  ·rename_i a b
   cases RV.bool_inv hx
   cases RV.bool_inv hy
   have hk:=(hE.td t).k
   split at hr
   ·rename_i hs
    rw [hs] at hk
    cases hr
    refine ⟨rfl,.bool (a == b),by simp only [Sem.run_bind,Zha,binOp,Op.equal,Op.maxDepth,ZdH 9999 hk,Result.andThen_ok,Sem.run_pure],?_⟩
    have:(a == b)=decide (a=b):=by rw [ZyA];simp
    rw [this]
    exact RV.bool _
   ·rename_i hs
    rw [hs] at hk
    cases hr
    refine ⟨rfl,.bool (!(a == b)),by simp only [Sem.run_bind,Zha,binOp,Op.equal,Op.maxDepth,ZdH 9999 hk,Result.andThen_ok,Sem.run_pure],?_⟩
    have:(!(a == b))=decide (a≠b):=by rw [ZyA];simp
    rw [this]
    exact RV.bool _
   ·cases hr
  ·rename_i a b
   cases RV.str_inv hx
   cases RV.str_inv hy
   split at hr
   ·cases hr
    refine ⟨rfl,.bool (a.toList == b.toList),by simp [Zi1,binOp,Op.stringOp],?_⟩
    rw [Zhb]
    exact RV.bool _
   ·cases hr
    refine ⟨rfl,.bool (!(a.toList == b.toList)),by simp [Zi1,binOp,Op.stringOp],?_⟩
    rw [Zhb,<-decide_not]
    exact RV.bool _
   ·cases hr
  ·rename_i a b
   obtain ⟨vs,rfl,hvs⟩:=RV.agg_iff hx
   obtain ⟨us,rfl,hus⟩:=RV.agg_iff hy
   split at hr
   ·cases hr
   ·rename_i ks hks
    obtain ⟨d,hd,hfl,hgt,fs,hu⟩:=(hE.td t).eq ks hks
    split at hr
    ·rename_i r he
     cases hr
     have hq:=ZaT (E:=E) (w:=w) (S:=S) d 10000 (by omega) t ks a b vs us r hfl hvs hus he
     rw [Y7 hu,Y7 hu] at hq
     refine ⟨rfl,.bool r,?_,RV.bool _⟩
     simp only [Sem.run_bind,ZeF ox oy _ _ hgt,Result.andThen_ok,binOp,Op.equal,Op.maxDepth,hq,Sem.run_pure]
    ·rename_i r he
     cases hr
     have hq:=ZaT (E:=E) (w:=w) (S:=S) d 10000 (by omega) t ks a b vs us r hfl hvs hus he
     rw [Y7 hu,Y7 hu] at hq
     refine ⟨rfl,.bool (!r),?_,RV.bool _⟩
     simp only [Sem.run_bind,ZeF ox oy _ _ hgt,Result.andThen_ok,binOp,Op.equal,Op.maxDepth,hq,Sem.run_pure]
    ·cases hr
  ·cases hr
theorem Zqf (hE:ZQ E) (R:Rel E B S0 w0 st G S w tmps) {s d:TypeId} {x:SV} {vx:Value} (hx:RSV st.tk G S w x vx) :
  QK E B S0 w0 (ZdC E s d x st) G S w st.tk tmps (do pure (.value (<-convert s d vx))) :=
 QK.same R λ r' hr hside=>by
  unfold ZdC at hr
  have hs:=(hE.td s).k
  have hd:=(hE.td d).k
  split at hr
  ·rename_i k k' k'' n h1 h2
   rw [h1] at hs
   rw [h2] at hd
   cases RV.int_inv hx
   split at hr
   ·rename_i hk
    obtain ⟨rfl,rfl,rfl⟩:=hk
    cases hr
    refine ⟨rfl,.int .i64 n,?_,RV.int _ _⟩
    simp [convert,run_underlying hs,run_underlying hd,Conv.intToInt,Zdg (show Zj n from hside)]
   ·cases hr
    refine ⟨rfl,.int k' (k'.wrap n),?_,RV.int _ _⟩
    simp [convert,run_underlying hs,run_underlying hd,Conv.intToInt]
  ·rename_i str h1 h2
   rw [h1] at hs
   rw [h2] at hd
   cases hr
   cases RV.str_inv hx
   refine ⟨rfl,.string str,?_,RV.str _⟩
   simp [convert,run_underlying hs,run_underlying hd]
  ·cases hr
theorem Rel.ents (R:Rel E B S0 w0 st G S w tmps) {x:SV} {v:Value} {es:List (PV × PV)} (hx:RSV st.tk G S w x v) (he:Zee x st=some es) :
  (v=.map none/\es=[])\/∃(b:Nat) (arr:Array MapEntry) (clock:Nat) (es0:List (PV × PV)),v=.map (some b)/\w.heap[b]?=some (.map arr clock)/\es0.Perm es/\ZbM es0 arr clock /\
   ∀(i:Nat) (p:PV × PV) (y:MapEntry),es0[i]?=some p->arr[i]?=some y->RV S w p.2 y.val:=by
 unfold Zee at he
 split at he
 ·rename_i ks vs
  cases he
  cases hx with
  | mapNil=>exact .inl ⟨rfl,rfl⟩
  | map _ _ es0 b arr clock hp hl hS hb he hv=>exact .inr ⟨b,arr,clock,es0,rfl,hb,hp,he,hv⟩
 ·rename_i id
  split at he
  ·rename_i es' mk hid
   cases he
   obtain ⟨b,hb,rfl⟩:=hx
   obtain ⟨⟨arr,clock,es0,h1,h2,h3,h4,_⟩,_⟩:=R.inv.mpk id b _ hid hb
   exact .inr ⟨b,arr,clock,es0,rfl,h1,h2,h3,h4⟩
  ·cases he
 ·cases he
theorem Zwp (hE:ZQ E) (R:Rel E B S0 w0 st G S w tmps) {t:TypeId} {x:SV} {vx:Value} (hx:RSV st.tk G S w x vx) (ty:TypeId) :
  QK E B S0 w0 (Zjz E t x st) G S w st.tk tmps (do pure (.value (<-Builtin.len_ #[t] ty #[vx]))) :=
 QK.same R λ r' hr hside=>by
  unfold Zjz at hr
  have hk:=(hE.td t).k
  split at hr
  ·rename_i s h1
   rw [h1] at hk
   cases hr
   cases RV.str_inv hx
   exact ⟨rfl,_,by simp [Builtin.len_,run_underlying hk,goInt],RV.int _ _⟩
  ·rename_i e id off n h1
   rw [h1] at hk
   cases hr
   obtain ⟨b,cap,hb,rfl,_⟩:=hx
   exact ⟨rfl,_,by simp [Builtin.len_,run_underlying hk,goInt],RV.int _ _⟩
  ·rename_i e id off m n cap h1
   rw [h1] at hk
   cases hr
   obtain ⟨b,hb,rfl,_⟩:=hx
   exact ⟨rfl,_,by simp [Builtin.len_,run_underlying hk,goInt],RV.int _ _⟩
  ·rename_i e x' h1 _ _
   rw [h1] at hk
   split at hr
   ·rename_i m xs hel
    cases hr
    obtain ⟨a,ad,cap,g,rfl,_⟩:=RV.slice_iff (RSV.elems hx hel)
    exact ⟨rfl,_,by simp [Builtin.len_,run_underlying hk,goInt],RV.int _ _⟩
   ·cases hr
  ·rename_i n e h1
   rw [h1] at hk
   cases hr
   exact ⟨rfl,_,by simp [Builtin.len_,run_underlying hk,goInt],RV.int _ _⟩
  ·rename_i k e h1
   rw [h1] at hk
   split at hr
   ·rename_i es he
    cases hr
    rcases R.ents hx he with ⟨rfl,rfl⟩ | ⟨b,arr,clock,es0,rfl,hb,hp,hE0,_⟩
    ·exact ⟨rfl,_,by simp [Builtin.len_,run_underlying hk,goInt],RV.int _ _⟩
    ·refine ⟨rfl,.int .i64 arr.size,by simp [Builtin.len_,run_underlying hk,goInt,MapKept.run_getObj_map hb],?_⟩
     rw [<-hp.length_eq,hE0.len]
     exact RV.int _ _
   ·cases hr
  ·cases hr
end
section
variable {E:Env} {B:Nat} {S0:Addr->Prop} {w0:World} {st:St} {G:Gh} {S:Addr->Prop} {w:World} {tmps:Array Value}
def Zhd:Obj->Bool
 | .map _ _ | .mapIter _ _ _ _=>true
 | _=>false
def ZbI (w w':World) (b:Nat):Prop:=∀o,Zhd o=true->w.heap[b]?=some o->w'.heap[b]?=some o
theorem ZbI.refl (w:World) (b:Nat):ZbI w w b:=λ _ _ h=>h
theorem ZbI.of_eq {w w':World} {b:Nat} (h:w'.heap[b]?=w.heap[b]?):ZbI w w' b:=λ _ _ e=>h.trans e
theorem ZaD.mono {M M':List Nat} {S S':Addr->Prop} {w w':World} {b:Nat} {c:ZaK} (h:ZaD E M S w b c) (hb:ZbI w w' b) (hm:∀(m bm:Nat),M[m]?=some bm->M'[m]?=some bm/\ZbI w w' bm)
  (hS:∀a,S a->S' a) (hw:∀a,S a->Qq w w' a) (hn:∀a,S' a->S a\/a.block≠b\/∀o,Zhd o=true->w.heap[b]?≠some o):ZaD E M' S' w' b c:=by
 have hs:(∀a,S a->a.block≠b)->(∃o,Zhd o=true/\w.heap[b]?=some o)->∀a,S' a->a.block≠b:=λ h ⟨o,h1,h2⟩ a ha=>(hn a ha).elim (h a) λ h3=>h3.elim id λ h4=>absurd h2 (h4 o h1)
 match c,h with
 | .plain k e n,h =>
  obtain ⟨⟨D,es,clock,h1,h2⟩,h3⟩:=h
  exact ⟨⟨D,es,clock,hb _ rfl h1,h2⟩,hs h3 ⟨_,rfl,h1⟩⟩
 | .ents es mk,h =>
  obtain ⟨⟨arr,clock,es0,h1,h2,h3,h4,h5⟩,h6⟩:=h
  exact ⟨⟨arr,clock,es0,hb _ rfl h1,h2,h3,λ i p x a1 a2=>(h4 i p x a1 a2).mono hS hw,h5⟩,hs h6 ⟨_,rfl,h1⟩⟩
 | .iter (some m) es left cur,h =>
  obtain ⟨⟨bm,h1,arr,clock,since,seen,last,h2,h4,h5⟩,h3⟩:=h
  obtain ⟨k1,k2⟩:=hm m bm h1
  exact ⟨⟨bm,k1,arr,clock,since,seen,last,k2 _ rfl h2,hb _ rfl h4,h5⟩,hs h3 ⟨_,rfl,h4⟩⟩
 | .iter none es left cur,h =>
  obtain ⟨h1,h3⟩:=h
  rcases h1 with ⟨h1,h2⟩ | ⟨bm,h1,h2,arr,clock,since,seen,last,h5,h4,h6⟩
  ·exact ⟨.inl ⟨hb _ rfl h1,h2⟩,hs h3 ⟨_,rfl,h1⟩⟩
  ·refine ⟨.inr ⟨bm,hS _ h1,?_,arr,clock,since,seen,last,(hw _ h1).2 _ _ h5,hb _ rfl h4,h6⟩,hs h3 ⟨_,rfl,h4⟩⟩
   obtain ⟨arr,clock,es0,q1,q2,q3,q4,q5⟩:=h2
   exact ⟨arr,clock,es0,(hw _ h1).2 _ _ q1,q2,q3,λ i p x a1 a2=>(q4 i p x a1 a2).mono hS hw,q5⟩
 | .gone,_=>trivial
theorem Inv.transport {bx:List (Option (List SV))} {tk:List (Nat × TypeId)} {ax:Ax} (hI:Inv E B S0 bx tk ax G S w) {S':Addr->Prop} {w':World} (hS:∀a,S a->S' a)
  (hnew:∀a,S' a->S a\/(w.heap.size<=a.block/\a.block<w'.heap.size)) (hbel:Below w.heap.size w w') :
  Inv E B S0 bx tk ax G S' w'/\Ext tk G S w tk G S' w':=by
 have hblk:=hbel.block
 have hsz:=hbel.size
 have hE:Ext tk G S w tk G S' w':=⟨λ _ _ h=>h,λ _ hv le h1 h2=>⟨hv,le,h1,h2,.inl ⟨rfl,rfl⟩⟩,hS,λ a ha=>Qq.of_block (hblk _ (hI.slt a ha)),λ _ _ h=>h,hbel.mono (ZyQ _),λ b hb _=>hblk b hb,λ _ _ h=>h,λ a ha=>(hnew a ha).imp id λ h=>.inr h.1⟩
 have hslt:∀a,S' a->a.block<w'.heap.size:=λ a ha=>by
  rcases hnew a ha with h | h
  ·exact Zy7 (hI.slt a h) hsz
  ·exact h.2
 refine ⟨⟨Zy1 hI.base hsz,λ a ha=>?_,hslt,hI.lbx,hI.ltk,λ i b hb=>⟨(hI.old i b hb).1,Zy7 (hI.old i b hb).2 hsz⟩,hI.dist,λ id b cs hc hb=>?_,λ t n e hv h1 h2=>?_,hI.apart,hI.lmp,hI.dmp,
  λ i b h=>⟨(hI.mpo i b h).1,Zy7 (hI.mpo i b h).2 hsz⟩,λ i b c h1 h2=>(hI.mpk i b c h1 h2).mono (ZbI.of_eq (hblk b (hI.mpo i b h2).2)) (λ m bm h=>⟨h,ZbI.of_eq (hblk bm (hI.mpo m bm h).2)⟩) hS (λ a ha=>Qq.of_block (hblk _ (hI.slt a ha))) (λ a ha=>(hnew a ha).imp id λ h=>.inl λ e=>by have:=(hI.mpo i b h2).2;have:=h.1;omega),λ b hb=>Zy7 (hI.flt b hb) hsz,hI.fbx,hI.ftk,hI.fmp,
  ⟨E.Y.ok _ _ _ _ _ _ hI.yl.1 ⟨hE.calm,λ b hb=>hblk b (hI.flt b hb),hS,hE.cell,λ a ha=>(hnew a ha).imp id λ h hf=>absurd (hI.flt _ hf) (by omega),hslt⟩,hI.yl.2⟩⟩,hE⟩
 ·rcases hnew a ha with h | h
  ·exact hI.s0 a h
  ·exact .inr (Zy1 hI.base h.1)
 ·obtain ⟨⟨t,arr,h1,h2,h3⟩,h4⟩:=hI.box id b cs hc hb
  have hlt:=(hI.old id b hb).2
  refine ⟨⟨t,arr,(hblk b hlt).trans h1,h2,λ j c v a1 a2=>⟨RSV.mono hE (h3 j c v a1 a2).1,(h3 j c v a1 a2).2⟩⟩,λ a ha hab=>?_⟩
  rcases hnew a ha with h | h
  ·exact h4 a h hab
  ·omega
 ·obtain ⟨a,cap,h3,h4,h5,h6⟩:=hI.tok t n e hv h1 h2
  refine ⟨a,cap,h3,h4,h5,λ hlt=>?_⟩
  obtain ⟨g,cur,k1,k2,k3,k4,k5,k6⟩:=h6 hlt
  have hg:g<w.heap.size:=by
   rcases Zy6 g w.heap.size with h | h
   ·exact h
   ·rw [Zzb h] at k3;cases k3
  refine ⟨g,cur,k1,k2,(hblk g hg).trans k3,k4,λ a' ha' hb'=>?_,k6⟩
  rcases hnew a' ha' with h | h
  ·exact k5 a' h hb'
  ·omega
theorem Rel.transport (R:Rel E B S0 w0 st G S w tmps) {S':Addr->Prop} {w':World} (hS:∀a,S a->S' a)
  (hnew:∀a,S' a->S a\/(w.heap.size<=a.block/\a.block<w'.heap.size)) (hb:Below w.heap.size w w') :
  Rel E B S0 w0 st G S' w' tmps/\Ext st.tk G S w st.tk G S' w':=by
 obtain ⟨h1,h2⟩:=R.inv.transport hS hnew hb
 exact ⟨⟨h1,R.below.trans (hb.mono R.inv.base),R.len,λ t s v a1 a2=>RSV.mono h2 (R.sl t s v a1 a2)⟩,h2⟩
theorem Rel.newBox (R:Rel E B S0 w0 st G S w tmps) (t:TypeId) (arr:Array Value) (cs:List SV) (hl:arr.size=cs.length)
  (hc:∀(j:Nat) (c:SV) (v:Value),cs[j]?=some c->arr[j]?=some v->RSV st.tk G S w c v/\v.oneCell'=true) :
  ∃G',Rel E B S0 w0 (st.newBx cs) G' S (w.alloc (.cells arr t)) tmps/\Ext st.tk G S w (st.newBx cs).tk G' S (w.alloc (.cells arr t))/\RSV (st.newBx cs).tk G' S (w.alloc (.cells arr t)) (.box st.bx.length 0) (.pointer (some ⟨w.heap.size,0,none⟩)):=by
 have hbel:Below w.heap.size w (w.alloc (.cells arr t)):=(Below.refl _ _).alloc (Zyp _) _
 obtain ⟨h1,h2⟩:=R.inv.transport (S':=S) (w':=w.alloc (.cells arr t)) (λ _ h=>h) (λ _ h=>.inl h) hbel
 have hlen:G.bx.length=st.bx.length:=R.inv.lbx
 have hnew:∀(i b:Nat),(G.bx++[w.heap.size])[i]?=some b->(G.bx[i]?=some b/\i<st.bx.length)\/(i=st.bx.length/\b=w.heap.size):=by
  intro i b hb
  rcases Zzs i G.bx.length with h | h | h
  ·rw [Zye h] at hb;exact .inl ⟨hb,by omega⟩
  ·subst h;simp at hb;exact .inr ⟨hlen,hb.symm⟩
  ·rw [Zyw (by simp;omega)] at hb;cases hb
 have hE:Ext st.tk G S w st.tk ⟨G.bx++[w.heap.size],G.tk,G.mp,G.fp⟩ S (w.alloc (.cells arr t)) :=
  ⟨λ i b hb=>by
   show (G.bx++[w.heap.size])[i]?=some b
   rw [Zye (ZxZ.1 hb).1];exact hb,h2.tk,h2.sub,h2.cell,h2.mp,h2.calm,h2.same,λ b hb hf=>by
    rcases hf with ⟨i,hf⟩ | hf
    ·rcases hnew i b hf with h | ⟨_,rfl⟩
     ·exact .inl ⟨i,h.1⟩
     ·omega
    ·exact .inr hf,h2.new⟩
 have hE':ZgT st.tk G S (w.alloc (.cells arr t)) st.tk ⟨G.bx++[w.heap.size],G.tk,G.mp,G.fp⟩ S (w.alloc (.cells arr t)) :=
  ⟨hE.bx,hE.tk,λ _ h=>h,λ _ _=>Qq.refl _ _,λ _ _ h=>h⟩
 refine ⟨⟨G.bx++[w.heap.size],G.tk,G.mp,G.fp⟩,⟨⟨h1.base,h1.s0,h1.slt,by simp [St.newBx,hlen],h1.ltk,?_,?_,?_,?_,h1.apart,h1.lmp,h1.dmp,h1.mpo,h1.mpk,h1.flt,λ i b hb hf=>?_,h1.ftk,h1.fmp,h1.yl⟩,R.below.trans (hbel.mono R.inv.base),R.len,λ t s v a1 a2=>RSV.mono hE (R.sl t s v a1 a2)⟩,hE,?_⟩
 ·intro i b hb
  rcases hnew i b hb with h | ⟨_,rfl⟩
  ·exact h1.old i b h.1
  ·exact ⟨R.inv.base,by simp⟩
 ·intro i j b hi hj
  rcases hnew i b hi with h | ⟨h,hh⟩<;>rcases hnew j b hj with k | ⟨k,kk⟩
  ·exact h1.dist i j b h.1 k.1
  ·have:=(R.inv.old i b h.1).2;omega
  ·have:=(R.inv.old j b k.1).2;omega
  ·omega
 ·intro id b cs' hcs hb
  rcases hnew id b hb with h | ⟨rfl,rfl⟩
  ·have hcs':st.bx[id]?=some (some cs'):=by
    simp only [St.newBx] at hcs
    rw [Zye h.2] at hcs;exact hcs
   obtain ⟨⟨t',arr',b1,b2,b3⟩,b4⟩:=h1.box id b cs' hcs' h.1
   exact ⟨⟨t',arr',b1,b2,λ j c v a1 a2=>⟨RSV.mono0 hE' (b3 j c v a1 a2).1,(b3 j c v a1 a2).2⟩⟩,b4⟩
  ·simp [St.newBx] at hcs
   subst hcs
   refine ⟨⟨t,arr,heap_alloc_new w _,hl,λ j c v a1 a2=>⟨RSV.mono hE (hc j c v a1 a2).1,(hc j c v a1 a2).2⟩⟩,λ a ha hab=>?_⟩
   have:=R.inv.slt a ha
   omega
 ·intro t' n e hv a1 a2
  obtain ⟨a,cap,b1,b2,b3,b4⟩:=h1.tok t' n e hv a1 a2
  refine ⟨a,cap,b1,b2,b3,λ hlt=>?_⟩
  obtain ⟨g,cur,c1,c2,c3,c4,c5,c6⟩:=b4 hlt
  refine ⟨g,cur,c1,c2,c3,c4,c5,λ i hi=>?_⟩
  rcases hnew i g hi with h | ⟨_,rfl⟩
  ·exact c6 i h.1
  ·obtain ⟨g',cur',d1,d2,d3,_⟩:=(by
    obtain ⟨a',cap',e1,e2,e3,e4⟩:=R.inv.tok t' n e hv a1 a2
    rw [b1] at e1
    injection e1 with e1 _ e5
    subst e1;subst e5
    exact e4 hlt:∃(g':Nat) (cur':Array Value),a=some ⟨g',0,none⟩/\B<=g'/\w.heap[g']?=some (.cells cur' e (0,0))/\_)
   rw [c1] at d1
   injection d1 with d1
   injection d1 with d1
   subst d1
   rw [Zzb (Zyp _)] at d3
   cases d3
 ·rcases hnew i b hb with h | ⟨_,rfl⟩
  ·exact R.inv.fbx i b h.1 hf
  ·exact Z0r _ (R.inv.flt _ hf)
 ·exact ⟨w.heap.size,by simp [<-hlen],rfl⟩
theorem RSV.zero (tk:List (Nat × TypeId)) (v:Value):RSV tk G S w (Zju (Za1 v)) v:=by
 have h:=RV.const (S:=S) (w:=w) v
 unfold Za1 at h ⊢
 split at h
 ·exact h
 ·exact h
 ·exact h
 ·exact ⟨h,none,rfl⟩
 ·exact h
 ·exact h
theorem Zt7 (hE:ZQ E) (R:Rel E B S0 w0 st G S w tmps) {t:TypeId} :
  QK E B S0 w0 (Zdd E t st) G S w st.tk tmps (do pure (.value (<-Instr.alloc t true (.tuple #[])))):=by
 intro r' hr _
 unfold Zdd at hr
 split at hr
 ·rename_i hz
  cases hr
  obtain ⟨i,z,u,hi,hsz,_,hzz,hzc,hone,hcs,_⟩:=(hE.td t).info (.inl hz.2)
  obtain ⟨G',hR,hX,hV⟩:=R.newBox t z.cells ((E.T t).zero.map Zju) (by rw [Zys,hz.1,hcs,hsz]) (λ j c v a1 a2=>by
   rw [<-hzc,Zyh,Zyh] at a1
   have a2':z.cells.toList[j]?=some v:=by simpa using a2
   rw [a2'] at a1
   simp at a1
   subst a1
   exact ⟨RSV.zero _ v,hone v (Zyb a2')⟩)
  exact ⟨_,_,_,by simp [Instr.alloc,zeroValue,typeInfo,hi,hzz,newVar,Go.newRow],.inl rfl,G',S,hR,hV,hX⟩
 ·cases hr
theorem Zvi {l:List PV} (h:l.all PV.one=true) {c:PV} {j:Nat} (hc:l[j]?=some c):c.one=true:=Zym.1 h c (Zyb hc)
theorem Zwq (R:Rel E B S0 w0 st G S w tmps) {t:TypeId} {x:SV} {vx:Value} (hx:RSV st.tk G S w x vx) :
  QK E B S0 w0 (Zjv E t x st) G S w st.tk tmps (do pure (.value (<-Instr.box t vx))):=by
 intro r' hr _
 unfold Zjv at hr
 split at hr
 ·split at hr
  ·rename_i l
   split at hr
   ·rename_i hall
    cases hr
    obtain ⟨vs,rfl,hvs⟩:=RV.agg_iff hx
    obtain ⟨G',hR,hX,hV⟩:=R.newBox t vs.toArray (l.map SV.val) (by simp [hvs.1]) (λ j c v a1 a2=>by
     rw [Zyh] at a1
     cases hq:l[j]? with
     | none=>rw [hq] at a1;cases a1
     | some p =>
      rw [hq] at a1
      simp at a1
      subst a1
      have h:=hvs.2 j p v hq (by simpa using a2)
      exact ⟨h,RV.of_one h (Zvi hall hq)⟩)
    exact ⟨_,_,_,by simp [Instr.box,newVar,Go.newRow,Value.cells],.inl rfl,G',S,hR,hV,hX⟩
   ·cases hr
  ·cases hr
 ·split at hr
  ·rename_i hone
   cases hr
   have h1:=RSV.of_one hx hone
   have hcells:vx.cells=#[vx]:=by cases vx<;>simp_all [Value.cells,Value.oneCell']
   obtain ⟨G',hR,hX,hV⟩:=R.newBox t #[vx] [x] rfl (λ j c v a1 a2=>by
    match j,a1,a2 with
    | 0,a1,a2=>simp at a1 a2;subst a1;subst a2;exact ⟨hx,h1⟩
    | j+1,a1,_=>simp at a1)
   exact ⟨_,_,_,by simp [Instr.box,newVar,Go.newRow,hcells],.inl rfl,G',S,hR,hV,hX⟩
  ·cases hr
def Els (S:Addr->Prop) (w:World) (m:Nat) (xs:List PV) (vs:List Value):Prop :=
 vs.length=xs.length*m/\(∀(i:Nat) (x:PV),xs[i]?=some x->x.cells.length=m) /\
  ∀(i:Nat) (x:PV) (j:Nat) (c:PV) (u:Value),xs[i]?=some x->x.cells[j]?=some c->vs[i*m+j]?=some u->RV S w c u
theorem Els.mono {m:Nat} {xs:List PV} {vs:List Value} {S':Addr->Prop} {w':World} (h:Els S w m xs vs) (hS:∀a,S a->S' a) (hw:∀a,S a->Qq w w' a):Els S' w' m xs vs :=
 ⟨h.1,h.2.1,λ i x j c u a1 a2 a3=>(h.2.2 i x j c u a1 a2 a3).mono hS hw⟩
theorem Zj3 {i j n m:Nat} (hi:i<n) (hj:j<m):i*m+j<n*m:=by
 have:(i+1)*m<=n*m:=ZyY _ hi
 rw [Zzi] at this
 omega
theorem Els.nil (m:Nat):Els S w m [] []:=⟨by simp,by simp,by simp⟩
theorem Els.append {m:Nat} {xs ys:List PV} {vs us:List Value} (h:Els S w m xs vs) (k:Els S w m ys us):Els S w m (xs++ys) (vs++us):=by
 refine ⟨by simp [h.1,k.1,Zzi],λ i x hx=>?_,λ i x j c u hx hc hu=>?_⟩
 ·by_cases hi:i<xs.length
  ·rw [Zye hi] at hx;exact h.2.1 i x hx
  ·rw [Zyd (by omega)] at hx;exact k.2.1 _ x hx
 ·by_cases hi:i<xs.length
  ·rw [Zye hi] at hx
   have hj:j<m:=by rw [<-h.2.1 i x hx];exact (ZxZ.1 hc).1
   rw [Zye (by rw [h.1];exact Zj3 hi hj)] at hu
   exact h.2.2 i x j c u hx hc hu
  ·rw [Zyd (by omega)] at hx
   have hm:xs.length*m<=i*m:=ZyY _ (by omega)
   rw [Zyd (by rw [h.1];omega),h.1] at hu
   refine k.2.2 (i - xs.length) x j c u hx hc ?_
   rw [Nat.sub_mul,<-hu]
   congr 1
   omega
theorem RV.flat {m:Nat} {xs:List PV} {v:Value} (h:RV S w (.list m xs) v):∃(a:Option Addr) (ad:Addr) (cap:Nat) (vs:List Value),v=.slice a xs.length cap/\(xs≠[]->a=some ad) /\
  xs.length<=cap/\cap<=maxLen/\(∀(k:Nat) (u:Value),vs[k]?=some u->S (ad.add k)/\w.cell? (ad.add k)=some u/\u.oneCell'=true)/\Els S w m xs vs:=by
 obtain ⟨a,ad,cap,g,rfl,ha,hcap,hmax,hmm,hc,hr⟩:=RV.slice_iff h
 refine ⟨a,ad,cap,(List.range (xs.length*m)).map λ k=>g (k / m) (k % m),rfl,ha,hcap,hmax,λ k u hk=>?_,by simp,hmm,λ i x j c u hx hcj hu=>?_⟩
 ·rw [Zyh] at hk
  by_cases hlt:k<xs.length*m
  ·simp [hlt] at hk
   subst hk
   have hm:0<m:=by
    rcases ZzE m with e | e
    ·subst e;simp at hlt
    ·exact e
   have hi:k / m<xs.length:=Nat.div_lt_of_lt_mul (by rw [Z0A];exact hlt)
   have hj:k % m<m:=Z0f _ hm
   have hx:=Zya hi
   have hcl:=hmm _ _ hx
   have:=hc (k / m) _ (k % m) _ hx (Zya (by rw [hcl];exact hj))
   rw [Z0A,Nat.div_add_mod] at this
   exact this
  ·simp [hlt] at hk
 ·have hi:i<xs.length:=(ZxZ.1 hx).1
  have hj:j<m:=by rw [<-hmm i x hx];exact (ZxZ.1 hcj).1
  have e1:(i*m+j) / m=i:=by
   rw [Z0A,Nat.mul_add_div (by omega),Nat.div_eq_of_lt hj];omega
  have e2:(i*m+j) % m=j:=by
   rw [Z0A,Nat.mul_add_mod,ZzF hj]
  rw [Zyh,ZzN (Zj3 hi hj)] at hu
  simp only [Zy5,e1,e2,Zyu] at hu
  subst hu
  exact hr i x j c hx hcj
theorem RV.of_flat {m:Nat} {xs:List PV} {a:Option Addr} {ad:Addr} {cap:Nat} {vs:List Value} (hz:m≠0) (ha:xs≠[]->a=some ad) (hcap:xs.length<=cap) (hmax:cap<=maxLen)
  (hc:∀(k:Nat) (u:Value),vs[k]?=some u->S (ad.add k)/\w.cell? (ad.add k)=some u/\u.oneCell'=true) (he:Els S w m xs vs):RV S w (.list m xs) (.slice a xs.length cap):=by
 have hget:∀(i:Nat) (x:PV) (j:Nat) (c:PV),xs[i]?=some x->x.cells[j]?=some c->vs[i*m+j]?=some (vs.getD (i*m+j) undef):=by
  intro i x j c hx hcj
  have hi:i<xs.length:=(ZxZ.1 hx).1
  have hj:j<m:=by rw [<-he.2.1 i x hx];exact (ZxZ.1 hcj).1
  have hlt:i*m+j<vs.length:=by rw [he.1];exact Zj3 hi hj
  rw [Zyj,Zya hlt]
  rfl
 exact RV.list m xs a ad cap (λ i j=>vs.getD (i*m+j) undef) ha hcap hmax he.2.1 (λ i x j c hx hcj=>hc _ _ (hget i x j c hx hcj)) (λ i x j c hx hcj=>he.2.2 i x j c _ hx hcj (hget i x j c hx hcj)) (λ h=>absurd h hz)
theorem Rel.newRow (R:Rel E B S0 w0 st G S w tmps) (t:TypeId) (arr:Array Value) :
  Rel E B S0 w0 st G (λ a=>S a\/a.block=w.heap.size) (w.alloc (.cells arr t)) tmps/\Ext st.tk G S w st.tk G (λ a=>S a\/a.block=w.heap.size) (w.alloc (.cells arr t)) /\
   ∀j,(w.alloc (.cells arr t)).cell? ⟨w.heap.size,j,none⟩=arr[j]?:=by
 have hbel:Below w.heap.size w (w.alloc (.cells arr t)):=(Below.refl _ _).alloc (Zyp _) _
 obtain ⟨h1,h2⟩:=R.transport (S':=λ a=>S a\/a.block=w.heap.size) (w':=w.alloc (.cells arr t)) (λ _ h=>.inl h) (λ a ha=>by
  rcases ha with ha | ha
  ·exact .inl ha
  ·exact .inr ⟨by omega,by rw [ha];simp⟩) hbel
 exact ⟨h1,h2,λ j=>World.cell?_alloc_new w arr t j⟩
theorem Rel.drew (R:Rel E B S0 w0 st G S w tmps):Rel E B S0 w0 st G S w.drew tmps/\Ext st.tk G S w st.tk G S w.drew :=
 R.transport (λ _ h=>h) (λ _ h=>.inl h) ⟨rfl,rfl,rfl,Zyp _,λ _ _=>rfl,Nat.le_succ _⟩
theorem ZkZ (v:Value):(Za1 v).cells=[Za1 v]:=by
 unfold Za1;split<;>rfl
theorem ZQ.cells (hE:ZQ E) {t:TypeId} (h:(E.T t).size≠0):∃(i:TypeInfo) (z:Value),E.P.info? t=some i/\i.size=(E.T t).size/\i.bytes=(E.T t).bytes/\i.zero=some z /\
  z.cells.toList.map Za1=(E.T t).zero/\(∀v∈z.cells.toList,v.oneCell'=true)/\z.cells.size=(E.T t).size/\(PV.ofCells (E.T t) (E.T t).zero).cells=(E.T t).zero/\((E.T t).agg=false->(E.T t).size=1):=by
 obtain ⟨i,z,u,hi,hsz,hby,hzz,hzc,hone,hcs,hag,_⟩:=(hE.td t).info (.inl h)
 refine ⟨i,z,hi,hsz,hby,hzz,hzc,hone,hcs.trans hsz,?_,λ hf=>?_⟩
 ·unfold PV.ofCells
  split
  ·rfl
  ·rename_i hf
   rw [if_neg hf] at hag
   have:z.cells=#[z]:=by cases z<;>simp_all [Value.cells,Value.oneCell']
   rw [<-hzc,this]
   simp [ZkZ]
 ·rw [hf] at hag
  have:z.cells=#[z]:=by cases z<;>simp_all [Value.cells,Value.oneCell']
  rw [<-hsz,<-hcs,this]
  rfl
theorem Els.zero (hE:ZQ E) {e:TypeId} (h:(E.T e).size≠0) {z:Value} (hzc:z.cells.toList.map Za1=(E.T e).zero) (hcs:z.cells.size=(E.T e).size) (n:Nat) :
  Els S w (E.T e).size (List.replicate n (PV.ofCells (E.T e) (E.T e).zero)) ((Array.range (n*(E.T e).size)).map (z.cells[· % z.cells.size]!)).toList:=by
 obtain ⟨_,_,_,_,_,_,_,_,_,hzz,_⟩:=hE.cells h
 have hlen:(E.T e).zero.length=(E.T e).size:=by rw [<-hzc];simp [hcs]
 refine ⟨by simp,λ i x hx=>?_,λ i x j c u hx hcj hu=>?_⟩
 ·rw [List.getElem?_replicate] at hx
  split at hx
  ·cases hx;rw [hzz,hlen]
  ·cases hx
 ·rw [List.getElem?_replicate] at hx
  split at hx
  ·rename_i hi
   cases hx
   rw [hzz] at hcj
   have hj:j<(E.T e).size:=by rw [<-hlen];exact (ZxZ.1 hcj).1
   have e2:(i*(E.T e).size+j) % (E.T e).size=j:=by
    rw [Z0A,Nat.mul_add_mod,ZzF hj]
   have hlt:=Zj3 hi hj
   have hu':z.cells[j]! = u:=by
    simp [hlt,hcs,e2] at hu
    exact hu
   have hj':j<z.cells.size:=by rw [hcs];exact hj
   rw [<-hzc,Zyh] at hcj
   have:z.cells.toList[j]?=some u:=by
    rw [<-hu']
    simp [hj']
   rw [this] at hcj
   simp at hcj
   subst hcj
   exact RV.const u
  ·cases hx
theorem Zj4 {z:Value} (hone:∀v∈z.cells.toList,v.oneCell'=true) (k j:Nat) {u:Value} (hz:0<z.cells.size) (h:((Array.range k).map (z.cells[· % z.cells.size]!)).toList[j]?=some u):u.oneCell'=true:=by
 have hj:j<k:=by
  have:=(ZxZ.1 h).1
  simpa using this
 have hlt:j % z.cells.size<z.cells.size:=Z0f _ hz
 simp [hj] at h
 subst h
 rw [getElem!_pos z.cells _ hlt]
 exact hone _ (by simp)
theorem Zoc {α:Type} (l:List α):∀(n j:Nat) (c:α),(List.replicate n l).flatten[j]?=some c->l[j % l.length]?=some c
 | 0,j,c,h=>by simp at h
 | n+1,j,c,h=>by
  rw [List.replicate_succ,ZzL] at h
  rcases Zy6 j l.length with hj | hj
  ·rw [Zye hj] at h
   rw [ZzF hj];exact h
  ·rw [Zyd hj] at h
   have:=Zoc l n (j - l.length) c h
   rwa [<-Nat.mod_eq_sub_mod hj] at this
theorem ZmM (hE:ZQ E) (R:Rel E B S0 w0 st G S w tmps) {t:TypeId} {x y:SV} {vx vy:Value} (hx:RSV st.tk G S w x vx) (hy:RSV st.tk G S w y vy) :
  QK E B S0 w0 (Zcb E t x y st) G S w st.tk tmps (do pure (.value (<-Instr.makeSlice t vx vy))):=by
 intro r' hr hside
 unfold Zcb at hr
 have hk:=(hE.td t).k
 split at hr
 ·rename_i e k n k' c hs
  rw [hs] at hk
  split at hr
  ·rename_i hz
   split at hr
   ·cases hr
    obtain ⟨h0,rfl,h2,h3⟩:=hside
    cases RV.int_inv hx
    cases RV.int_inv hy
    have hne:(E.T e).size≠0:=by omega
    obtain ⟨i,z,hi,hsz,hby,hzz,hzc,hone,hcs,_⟩:=hE.cells hne
    obtain ⟨m,rfl⟩:=Int.eq_ofNat_of_zero_le h0
    have hb:(i.bytes:Int)*(m:Int)<=281474976710656:=by
     rw [hby,Int.mul_comm];omega
    have hrun:=run_make (P:=E.P) w t e i z hk hi hzz k k' m m (by omega) (by omega) hb (by omega)
    rw [ZyR,hsz] at hrun
    obtain ⟨G',hR,hX,hV⟩:=R.newBox e ((Array.range (m*(E.T e).size)).map (z.cells[· % z.cells.size]!)) ((List.replicate m (E.T e).zero).flatten.map SV.val) (by simp [hz.1]) (λ j c v a1 a2=>by
     rw [<-Zy2] at a2
     refine ⟨?_,Zj4 hone _ j (by omega) a2⟩
     have hj:j<m*(E.T e).size:=by
      have:=(ZxZ.1 a2).1
      simpa using this
     rw [Zyh] at a1
     cases hq:(List.replicate m (E.T e).zero).flatten[j]? with
     | none=>rw [hq] at a1;cases a1
     | some p =>
      rw [hq] at a1
      simp only [Zy5,Zyu] at a1
      subst a1
      have h3:=Zoc _ m j p hq
      rw [hz.1,<-hcs,<-hzc,Zyh] at h3
      have hlt:j % z.cells.size<z.cells.size:=Z0f _ (by omega)
      have hv:z.cells.toList[j % z.cells.size]?=some v:=by
       simp [hj] at a2
       rw [<-a2]
       simp [hlt]
      rw [hv] at h3
      simp only [Zy5,Zyu] at h3
      subst h3
      exact RV.const v)
    refine ⟨_,_,_,by simp only [Sem.run_bind,hrun,Result.andThen_ok,Sem.run_pure];rfl,.inl rfl,G',S,hR,?_,hX⟩
    obtain ⟨b,hb1,hb2⟩:=hV
    refine ⟨b,m,hb1,?_,by simp,by simp only [maxLen];omega⟩
    simp only [Value.pointer.injEq,Zyu,Addr.mk.injEq] at hb2
    rw [<-hb2.1]
    simp
   cases hr
   obtain ⟨h0,rfl,h2,h3⟩:=hside
   cases RV.int_inv hx
   cases RV.int_inv hy
   have hne:(E.T e).size≠0:=by omega
   obtain ⟨i,z,hi,hsz,hby,hzz,hzc,hone,hcs,_⟩:=hE.cells hne
   obtain ⟨m,rfl⟩:=Int.eq_ofNat_of_zero_le h0
   obtain ⟨R1,X1,hcell⟩:=R.newRow e ((Array.range (m*(E.T e).size)).map (z.cells[· % z.cells.size]!))
   have hels:Els (λ a=>S a\/a.block=w.heap.size) (w.alloc (.cells ((Array.range (m*(E.T e).size)).map (z.cells[· % z.cells.size]!)) e)) (E.T e).size (List.replicate m (PV.ofCells (E.T e) (E.T e).zero)) ((Array.range (m*(E.T e).size)).map (z.cells[· % z.cells.size]!)).toList:=Els.zero hE hne hzc hcs m
   have hb:(i.bytes:Int)*(m:Int)<=281474976710656:=by
    rw [hby,Int.mul_comm];omega
   have hrun:=run_make (P:=E.P) w t e i z hk hi hzz k k' m m (by omega) (by omega) hb (by omega)
   rw [ZyR,hsz] at hrun
   refine ⟨_,_,_,by simp only [Sem.run_bind,hrun,Result.andThen_ok,Sem.run_pure];rfl,.inl rfl,G,_,R1,?_,X1⟩
   refine ⟨?_,some ⟨w.heap.size,0,none⟩,by simp⟩
   have:=RV.of_flat (ad:=⟨w.heap.size,0,none⟩) (a:=some ⟨w.heap.size,0,none⟩) (cap:=m) hne (λ _=>rfl) (by simp) (by simp only [maxLen];omega) (λ j u hu=>by
    rw [Y0,ZyK,hcell]
    exact ⟨.inr rfl,by rw [<-Zy2];exact hu,Zj4 hone _ j (by omega) hu⟩) hels
   simpa using this
  ·cases hr
 ·cases hr
end
section
variable {E:Env} {B:Nat} {S0:Addr->Prop} {w0:World} {st:St} {G:Gh} {S:Addr->Prop} {w:World} {tmps:Array Value}
theorem ZlE (off:Nat):∀(l:List Value) (k:Nat) (cells:Array Value),off+k+l.length<=cells.size ->
  ((l.zipIdx k).foldl (λ cs p=>cs.setIfInBounds (off+p.2) p.1) cells).toList=cells.toList.take (off+k)++(l++cells.toList.drop (off+k+l.length))
 | [],k,cells,h=>by simp
 | v::l,k,cells,h=>by
  simp only [List.zipIdx_cons,List.foldl_cons]
  have h':off+(k+1)+l.length<=(cells.setIfInBounds (off+k) v).size:=by simp at h ⊢;omega
  rw [ZlE off l (k+1) _ h']
  have hk:off+k<cells.toList.length:=by simp at h ⊢;omega
  simp only [Zz7]
  rw [show off+(k+1)=(off+k)+1 by omega,List.take_succ_eq_append_getElem (by simpa using hk)]
  rw [List.take_set_of_le (Zyp _),List.drop_set_of_lt (by omega)]
  simp
  congr 1
  omega
theorem Zod (off:Nat) (v:Value) (cells:Array Value) (h:off+v.cells.size<=cells.size) :
  (v.cells.zipIdx.foldl (λ cs (c,j)=>cs.setIfInBounds (off+j) c) cells).toList=cells.toList.take off++(v.cells.toList++cells.toList.drop (off+v.cells.size)):=by
 have:=ZlE off v.cells.toList 0 cells (by simpa using h)
 simp only [Zzj] at this
 rw [<-Array.foldl_toList,Array.toList_zipIdx]
 simpa using this
theorem RVs.splice {cs l:List PV} {vs us:List Value} (h:RVs S w cs vs) (k:RVs S w l us) (off:Nat) :
  RVs S w (cs.take off++(l++cs.drop (off+l.length))) (vs.take off++(us++vs.drop (off+us.length))):=by
 rw [<-k.1]
 exact RVs.append (h.take off) (RVs.append k (h.drop _))
theorem Zgc {tk:List (Nat × TypeId)} {d:TD} {s:SV} {v:Value} {l:List PV} (h:ZfB d s=some l) (hr:RSV tk G S w s v) :
  v.cells.size=d.size/\RVs S w l v.cells.toList/\l.length=d.size/\(d.agg=false->∃p,s.pv=some p/\l=[p]/\p.one=true)/\(PV.ofCells d l).cells=l:=by
 unfold ZfB at h
 split at h
 ·rename_i hag
  split at h
  ·split at h
   ·rename_i hl
    cases h
    obtain ⟨vs,rfl,hvs⟩:=RV.agg_iff hr
    exact ⟨by simp [Value.cells,<-hvs.1,hl],by simpa [Value.cells] using hvs,hl,λ hf=>by simp [hag] at hf,by simp [PV.ofCells,hag,PV.cells]⟩
   ·cases h
  ·cases h
 ·rename_i hag
  split at h
  ·rename_i p hp
   split at h
   ·rename_i h1
    cases h
    simp only [Zyi,beq_iff_eq] at h1
    have hv:=RSV.pv hr hp
    have h2:=RV.of_one hv h1.1
    have hcells:v.cells=#[v]:=by cases v<;>simp_all [Value.cells,Value.oneCell']
    refine ⟨by rw [hcells,h1.2];rfl,by rw [hcells];exact RVs.cons hv RVs.nil,by simp [h1.2],λ _=>⟨p,hp,rfl,h1.1⟩,?_⟩
    simp only [PV.ofCells,hag]
    cases p<;>simp_all [PV.one,PV.cells]
   ·cases h
  ·cases h
def ZlF (tk:List (Nat × TypeId)) (G:Gh) (S:Addr->Prop) (w:World):List (Nat × SV)->List (Nat × Value)->Prop
 | [],[]=>True
 | (i,s)::r,(j,v)::q=>i=j/\RSV tk G S w s v/\ZlF tk G S w r q
 | _,_=>False
theorem ZmN {tk:List (Nat × TypeId)} {place:Nat->Option (Nat × TD)} {place':Nat->Option (Nat × Nat)} (hp:∀i o d,place i=some (o,d)->place' i=some (o,d.size)) :
  ∀(parts:List (Nat × SV)) (vals:List (Nat × Value)) (cs l:List PV) (cells:Array Value),ZlF tk G S w parts vals->RVs S w cs cells.toList->ZhJ place cs parts=some l ->
   ∃cells',Instr.fill place' cells vals=some cells'/\RVs S w l cells'.toList
 | [],[],cs,l,cells,_,hc,h=>by
  simp only [ZhJ,Zyu] at h
  subst h
  exact ⟨cells,rfl,hc⟩
 | [],_::_,_,_,_,hP,_,_=>hP.elim
 | _::_,[],_,_,_,hP,_,_=>hP.elim
 | (i,s)::r,(j,v)::q,cs,l,cells,hP,hc,h=>by
  obtain ⟨rfl,hv,hP'⟩:=hP
  simp only [ZhJ] at h
  split at h
  ·cases h
  ·rename_i off d hpl
   split at h
   ·cases h
   ·rename_i l1 hl1
    split at h
    ·rename_i hle
     obtain ⟨h1,h2,h3,_⟩:=Zgc hl1 hv
     have hcl:cs.length=cells.size:=by simpa using hc.1
     have hsz':off+d.size<=cells.size:=by omega
     have hsz:off+v.cells.size<=cells.size:=by omega
     have hset:=Zod off v cells hsz
     have hc':RVs S w (cs.take off++(l1++cs.drop (off+l1.length))) ((v.cells.zipIdx.foldl (λ cs (c,j)=>cs.setIfInBounds (off+j) c) cells).toList):=by
      rw [hset]
      have:=hc.splice h2 off
      simpa using this
     obtain ⟨cells',e1,e2⟩:=ZmN hp r q _ l _ hP' hc' h
     refine ⟨cells',?_,e2⟩
     simp only [Instr.fill,hp _ _ _ hpl,h1]
     rw [if_neg]
     ·exact e1
     ·simp;omega
    ·cases h
theorem Rel.parts (R:Rel E B S0 w0 st G S w tmps) (d:List Deferred):∀(ps:List (Nat × Operand)),ZlF st.tk G S w (ps.map λ p=>(p.1,Zp st p.2)) (ps.map λ p=>(p.1,({ tmps:=tmps,defers:=d }:Act).eval p.2))
 | []=>trivial
 | p::r=>⟨rfl,R.val p.2 d,Rel.parts R d r⟩
theorem Zj5:∀(l:List Field),(∀f∈l,∃i,E.P.info? f.type=some i/\i.size=(E.T f.type).size) ->
  (l.mapM λ f=>(do pure (f.offset,<-sizeOf f.type):Sem (Nat × Nat))).run E.P w=.ok (l.map λ f=>(f.offset,(E.T f.type).size)) w
 | [],_=>by simp
 | f::r,h=>by
  obtain ⟨i,hi,hs⟩:=h f (by simp)
  have ih:=Zj5 r (λ g hg=>h g (by simp [hg]))
  simp only [List.mapM_cons,Sem.run_bind,Qw hi,Result.andThen_ok,Sem.run_pure,ih,hs,Zzl]
theorem Zt8 (hE:ZQ E) (R:Rel E B S0 w0 st G S w tmps) {t:TypeId} {parts:List (Nat × SV)} {vals:Array (Nat × Value)} (hP:ZlF st.tk G S w parts vals.toList) :
  QK E B S0 w0 (ZfC E t parts st) G S w st.tk tmps (do pure (.value (<-Instr.build t vals))) :=
 QK.same R λ r' hr _=>by
  unfold ZfC at hr
  have hk:=(hE.td t).k
  split at hr
  ·rename_i hag
   obtain ⟨i,z,u,hi,hsz,_,hzz,hzc,_⟩:=(hE.td t).info (.inr hag)
   have hz0:RVs S w (E.T t).zero z.cells.toList:=by rw [<-hzc];exact RVs.const _
   split at hr
   ·rename_i fs hs
    rw [hs] at hk
    obtain ⟨F,hu,hF⟩:=hk
    split at hr
    ·rename_i hall
     split at hr
     ·rename_i l hl
      cases hr
      have hinfo:∀f∈F.toList,∃i,E.P.info? f.type=some i/\i.size=(E.T f.type).size:=by
       intro f hf
       have:=Zym.1 hall (f.offset,f.type) (by rw [<-hF];exact Zyz.2 ⟨f,hf,rfl⟩)
       simp only [Zzd,bne_iff_ne] at this
       obtain ⟨i,_,_,a,b,_⟩:=(hE.td f.type).info this
       exact ⟨i,a,b⟩
      have hrun:(F.mapM λ f=>(do pure (f.offset,<-sizeOf f.type):Sem (Nat × Nat))).run E.P w=.ok (F.toList.map λ f=>(f.offset,(E.T f.type).size)).toArray w:=by
       rw [Array.mapM_eq_mapM_toList]
       simp only [Sem.run_map,Zj5 F.toList hinfo,Result.andThen_ok]
      obtain ⟨cells',e1,e2⟩:=ZmN (place':=λ i=>((F.toList.map λ f=>(f.offset,(E.T f.type).size)).toArray)[i]?) (λ i o d h=>by
       rw [<-hF,Zyh] at h
       cases hq:F.toList[i]? with
       | none=>rw [hq] at h;cases h
       | some f =>
        rw [hq] at h
        simp only [Zy5,Zyu,Zzo] at h
        obtain ⟨rfl,rfl⟩:=h
        have hq':F[i]?=some f:=by simpa using hq
        simp [hq']) parts vals.toList _ l z.cells hP hz0 hl
      refine ⟨rfl,.agg cells',?_,?_⟩
      ·simp only [Instr.build,Sem.run_bind,zeroValue,typeInfo,run_program,Result.andThen_ok,hi,Sem.run_pure,hzz,run_underlying hu,hrun,e1]
      ·have:=RV.agg (S:=S) (w:=w) l cells'.toList e2.1 e2.2
       simpa [RSV] using this
     ·cases hr
    ·cases hr
   ·rename_i n e hs
    rw [hs] at hk
    split at hr
    ·rename_i hne
     split at hr
     ·rename_i l hl
      cases hr
      obtain ⟨ie,_,_,hie,hsze,_⟩:=(hE.td e).info (.inl (by simpa using hne))
      obtain ⟨cells',e1,e2⟩:=ZmN (place':=λ i=>some (i*ie.size,ie.size)) (λ i o d h=>by
       simp only [Zyu,Zzo] at h
       obtain ⟨rfl,rfl⟩:=h
       rw [hsze]) parts vals.toList _ l z.cells hP hz0 hl
      refine ⟨rfl,.agg cells',?_,?_⟩
      ·simp only [Instr.build,Sem.run_bind,zeroValue,typeInfo,run_program,Result.andThen_ok,hi,Sem.run_pure,hzz,run_underlying hk,Qw hie,e1]
      ·have:=RV.agg (S:=S) (w:=w) l cells'.toList e2.1 e2.2
       simpa [RSV] using this
     ·cases hr
    ·cases hr
   ·cases hr
  ·cases hr
theorem Els.set {m:Nat} {xs:List PV} {vs us:List Value} (h:Els S w m xs vs) {i:Nat} (hi:i<xs.length) {x:PV} (hx:x.cells.length=m) (hu:RVs S w x.cells us) :
  Els S w m (xs.set i x) (vs.take (i*m)++(us++vs.drop (i*m+m))):=by
 have hul:us.length=m:=by rw [<-hu.1,hx]
 have him:i*m+m<=xs.length*m:=by
  have:(i+1)*m<=xs.length*m:=ZyY _ hi
  rw [Zzi] at this;omega
 refine ⟨by rw [Zyg,ZyE,Zyg,ZzS,List.length_set,h.1,hul,Z00 (by omega)];omega,λ k y hy=>?_,λ k y j c u hy hc hu'=>?_⟩
 ·rw [ZyC] at hy
  split at hy
  ·cases hy;exact hx
  ·exact h.2.1 k y hy
 ·rw [ZyC] at hy
  split at hy
  ·rename_i hik
   subst hik
   cases hy
   have hj:j<m:=by rw [<-hx];exact (ZxZ.1 hc).1
   have ht:(vs.take (i*m)).length=i*m:=by rw [ZyE,h.1,Z00 (by omega)]
   rw [Zyd (by omega),Zye (by omega),ht] at hu'
   refine hu.2 j c u hc ?_
   rw [<-hu']
   congr 1
   omega
  ·rename_i hik
   have hj:j<m:=by rw [<-h.2.1 k y hy];exact (ZxZ.1 hc).1
   refine h.2.2 k y j c u hy hc ?_
   have ht:(vs.take (i*m)).length=i*m:=by rw [ZyE,h.1,Z00 (by omega)]
   rcases Zy6 k i with hlt | hge
   ·have:k*m+j<i*m:=Zj3 hlt hj
    rw [Zye (by omega),Zyx,if_pos this] at hu'
    exact hu'
   ·have hgt:i<k:=by omega
    have:i*m+m<=k*m:=by
     have:(i+1)*m<=k*m:=ZyY _ hgt
     rw [Zzi] at this;omega
    rw [Zyd (by omega),Zyd (by omega),Zy8,ht,hul] at hu'
    rw [<-hu']
    congr 1
    omega
theorem Zhe {tk:List (Nat × TypeId)} {d:TD} {S':Addr->Prop} {w':World} (hS:∀a,S a->S' a) (hw:∀a,S a->Qq w w' a) :
  ∀(parts:List (Nat × SV)) (vals:List (Nat × Value)) (xs l:List PV) (cells:Array Value),ZlF tk G S w parts vals->Els S' w' d.size xs cells.toList->(∀v∈cells.toList,v.oneCell'=true)->ZdB d xs parts=some l ->
   ∃cells',Instr.fill (λ i=>some (i*d.size,d.size)) cells vals=some cells'/\Els S' w' d.size l cells'.toList/\(∀v∈cells'.toList,v.oneCell'=true)/\l.length=xs.length
 | [],[],xs,l,cells,_,hc,h1,h=>by
  simp only [ZdB,Zyu] at h
  subst h
  exact ⟨cells,rfl,hc,h1,rfl⟩
 | [],_::_,_,_,_,hP,_,_,_=>hP.elim
 | _::_,[],_,_,_,hP,_,_,_=>hP.elim
 | (i,s)::r,(j,v)::q,xs,l,cells,hP,hc,hone,h=>by
  obtain ⟨rfl,hv,hP'⟩:=hP
  simp only [ZdB] at h
  split at h
  ·cases h
  ·rename_i l1 hl1
   split at h
   ·rename_i hle
    obtain ⟨h1,h2,h3,_,h5⟩:=Zgc hl1 (RSV.litE hv)
    have hlt:i*d.size+d.size<=cells.size:=by
     have:(i+1)*d.size<=xs.length*d.size:=ZyY _ hle.1
     rw [Zzi] at this
     have:=hc.1
     simp at this
     omega
    have hset:=Zod (i*d.size) v cells (by omega)
    have hE:Els S' w' d.size (xs.set i (PV.ofCells d l1)) ((v.cells.zipIdx.foldl (λ cs (c,j)=>cs.setIfInBounds (i*d.size+j) c) cells).toList):=by
     rw [hset,h1]
     exact hc.set hle.1 (by rw [h5,h3]) (by rw [h5];exact h2.mono hS hw)
    have hone':∀u∈((v.cells.zipIdx.foldl (λ cs (c,j)=>cs.setIfInBounds (i*d.size+j) c) cells).toList),u.oneCell'=true:=by
     rw [hset]
     intro u hu
     simp only [Zy4] at hu
     rcases hu with hu | hu | hu
     ·exact hone u (Z0w hu)
     ·obtain ⟨k,hk⟩:=ZyO.1 hu
      have hk':k<l1.length:=by rw [h2.1];exact (ZxZ.1 hk).1
      exact RV.of_one (h2.2 k _ u (Zya hk') hk) (Zym.1 hle.2 _ (Zzg hk'))
     ·exact hone u (List.mem_of_mem_drop hu)
    obtain ⟨cells',e1,e2,e3,e4⟩:=Zhe hS hw r q _ l _ hP' hE hone' h
    refine ⟨cells',?_,e2,e3,by rw [e4];simp⟩
    simp only [Instr.fill,h1]
    rw [if_neg]
    ·exact e1
    ·simp;omega
   ·cases h
theorem Zla (hE:ZQ E) (R:Rel E B S0 w0 st G S w tmps) {t:TypeId} {n:Nat} {parts:List (Nat × SV)} {vals:Array (Nat × Value)} (hP:ZlF st.tk G S w parts vals.toList) :
  QK E B S0 w0 (ZaS E t n parts st) G S w st.tk tmps (do pure (.value (<-Instr.buildSlice t n vals))):=by
 intro r' hr _
 unfold ZaS at hr
 have hk:=(hE.td t).k
 split at hr
 ·rename_i e hs
  rw [hs] at hk
  split at hr
  ·rename_i hz
   obtain ⟨hz1,hz2,hz3⟩:=hz
   split at hr
   ·rename_i xs hxs
    cases hr
    obtain ⟨i,z,hi,hsz,hby,hzz,hzc,hone,hcs,_⟩:=hE.cells (t:=e) (by omega)
    have hels0:Els S w (E.T e).size (List.replicate n (PV.ofCells (E.T e) (E.T e).zero)) ((Array.range (n*(E.T e).size)).map (z.cells[· % z.cells.size]!)).toList:=Els.zero hE (by omega) hzc hcs n
    obtain ⟨cells',e1,e2,e3,e4⟩:=Zhe (S':=S) (w':=w) (λ _ h=>h) (λ _ _=>Qq.refl _ _) parts vals.toList _ xs _ hP hels0 (λ v hv=>by
     obtain ⟨j,hj⟩:=ZyO.1 hv
     exact Zj4 hone _ j (by omega) hj) hxs
    obtain ⟨R1,X1,hcell⟩:=R.newRow e cells'
    have hrun:(Instr.buildSlice t n vals).run E.P w=.ok (.slice (some ⟨w.heap.size,0,none⟩) n n) (w.alloc (.cells cells' e)):=by
     by_cases h0:n*(E.T e).size=0
     ·have hn:n=0:=by
       rcases ZzE n with h | h
       ·exact h
       ·exact absurd h0 (Nat.ne_of_gt (Nat.mul_pos h hz2))
      subst hn
      have e0:∀f:Nat->Value,(Array.range 0).map f=#[]:=λ f=>by simp
      rw [Z09,e0] at e1
      simp only [Instr.buildSlice,Sem.run_bind,run_underlying hk,Result.andThen_ok,Qw hi,hsz,Z09,Nat.reducePow,gt_iff_lt,ZzB,if_false,if_true,Sem.run_pure,e0,e1,Go.newRow,run_newObj]
      rfl
     ·have hle:¬16777216<n*(E.T e).size:=by omega
      simp only [Instr.buildSlice,Sem.run_bind,run_underlying hk,Result.andThen_ok,Qw hi,hsz,Sem.run_ite,Nat.reducePow,hle,h0,if_false,gt_iff_lt,zeroValue,typeInfo,run_program,hi,Sem.run_pure,hzz,e1,Go.newRow,run_newObj]
      rfl
    have hlen:xs.length=n:=by rw [e4];simp
    refine ⟨_,_,_,by simp only [Sem.run_bind,hrun,Result.andThen_ok,Sem.run_pure];rfl,.inl rfl,G,_,R1,?_,X1⟩
    refine ⟨?_,some ⟨w.heap.size,0,none⟩,by rw [hlen]⟩
    have:=RV.of_flat (ad:=⟨w.heap.size,0,none⟩) (a:=some ⟨w.heap.size,0,none⟩) (cap:=n) (by omega) (λ _=>rfl) (by omega) (by
      have:n*1<=n*(E.T e).size:=Nat.mul_le_mul_left _ hz2
      simp only [maxLen];omega) (λ j u hu=>by
     rw [Y0,ZyK,hcell]
     exact ⟨.inr rfl,by rw [<-Zy2];exact hu,e3 u (Zyb hu)⟩) (e2.mono X1.sub X1.cell)
    rw [hlen] at this
    exact this
   ·cases hr
  ·cases hr
 ·cases hr
end
end Go.Abs
