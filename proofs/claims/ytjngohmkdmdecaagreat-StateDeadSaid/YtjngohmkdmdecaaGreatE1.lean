/- An evaluator of the model's code over plain values, and its soundness; of no program. -/
import Derived.Calls
import Derived.Laws.Sem
import Derived.Deep.MidRow
import Derived.Below
import Derived.Laws.StructEq
import Derived.Laws.Cover3
import Derived.ChangeKeysEq
import Derived.Laws.BytesString
set_option linter.all false
namespace Go.Ab
theorem ZAA:type_of% @Option.bind_some:=@Option.bind_some
theorem ZAB:type_of% @List.getElem?_eq_some_iff:=@List.getElem?_eq_some_iff
theorem ZAC:type_of% @List.getElem?_eq_getElem:=@List.getElem?_eq_getElem
theorem ZAD:type_of% @cond_false:=@cond_false
theorem ZAF:type_of% @Bool.and_eq_true:=@Bool.and_eq_true
theorem ZAG:type_of% @List.mem_of_getElem?:=@List.mem_of_getElem?
theorem ZAH:type_of% @Option.bind_eq_some_iff:=@Option.bind_eq_some_iff
theorem ZAI:type_of% @Option.map_eq_some_iff:=@Option.map_eq_some_iff
theorem ZAK:type_of% @cond_true:=@cond_true
theorem ZAL:type_of% @Nat.le_refl:=@Nat.le_refl
theorem ZAM:type_of% @if_neg:=@if_neg
theorem ZAN:type_of% @if_pos:=@if_pos
theorem ZAO:type_of% @Option.some.injEq:=@Option.some.injEq
theorem ZAP:type_of% @List.getElem?_of_mem:=@List.getElem?_of_mem
theorem ZAS:type_of% @List.length_take:=@List.length_take
theorem ZAT:type_of% @List.getElem?_append_left:=@List.getElem?_append_left
theorem ZAU:type_of% @List.getElem?_set_self:=@List.getElem?_set_self
theorem ZAV:type_of% @List.getElem?_append_right:=@List.getElem?_append_right
theorem ZAX:type_of% @List.eq_nil_of_length_eq_zero:=@List.eq_nil_of_length_eq_zero
theorem ZAa:type_of% @List.getElem?_set_ne:=@List.getElem?_set_ne
theorem ZAc:type_of% @List.mem_append:=@List.mem_append
theorem ZAe:type_of% @List.length_append:=@List.length_append
theorem ZAf:type_of% @Nat.mul_le_mul_right:=@Nat.mul_le_mul_right
theorem ZAg:type_of% @List.mem_cons:=@List.mem_cons
theorem ZAh:type_of% @Option.some.inj:=@Option.some.inj
theorem ZAi:type_of% @Nat.ble_eq_true_of_le:=@Nat.ble_eq_true_of_le
theorem ZAj:type_of% @Bool.not_eq_true':=@Bool.not_eq_true'
theorem ZAm:type_of% @Nat.ble_eq:=@Nat.ble_eq
theorem ZAo:type_of% @List.append_nil:=@List.append_nil
theorem ZAp:type_of% @List.append_assoc:=@List.append_assoc
theorem ZAr:type_of% @Nat.add_mul:=@Nat.add_mul
theorem ZAs:type_of% @Array.getElem?_toList:=@Array.getElem?_toList
theorem ZAt:type_of% @decide_eq_true_eq:=@decide_eq_true_eq
theorem ZAw:type_of% @List.getElem?_eq_none:=@List.getElem?_eq_none
theorem ZAx:type_of% @List.length_drop:=@List.length_drop
theorem ZAy:type_of% @Array.getElem?_eq_getElem:=@Array.getElem?_eq_getElem
theorem ZAz:type_of% @Nat.lt_of_lt_of_le:=@Nat.lt_of_lt_of_le
theorem ZA0:type_of% @List.take_of_length_le:=@List.take_of_length_le
theorem ZA3:type_of% @Prod.mk.injEq:=@Prod.mk.injEq
theorem ZA4:type_of% @List.getElem?_drop:=@List.getElem?_drop
theorem ZA5:type_of% @Nat.zero_add:=@Nat.zero_add
theorem ZA8:type_of% @Array.length_toList:=@Array.length_toList
theorem ZA9:type_of% @Nat.add_sub_cancel_left:=@Nat.add_sub_cancel_left
theorem ZBA:type_of% @List.take_append_drop:=@List.take_append_drop
theorem ZBB:type_of% @Bool.or_eq_true:=@Bool.or_eq_true
theorem ZBD:type_of% @Nat.le_trans:=@Nat.le_trans
theorem ZBH:type_of% @List.drop_of_length_le:=@List.drop_of_length_le
theorem ZBI:type_of% @Nat.zero_le:=@Nat.zero_le
theorem ZBJ:type_of% @List.take_append_of_le_length:=@List.take_append_of_le_length
theorem ZBL:type_of% @Nat.le_of_ble_eq_true:=@Nat.le_of_ble_eq_true
theorem ZBN:type_of% @Array.mem_toList_iff:=@Array.mem_toList_iff
theorem ZBO:type_of% @List.getElem_mem:=@List.getElem_mem
theorem ZBR:type_of% @Nat.not_le:=@Nat.not_le
theorem ZBf:type_of% @Ne.symm:=@Ne.symm
theorem ZBg:type_of% @Array.eq_empty_of_size_eq_zero:=@Array.eq_empty_of_size_eq_zero
theorem ZBh:type_of% @List.nil_append:=@List.nil_append
theorem ZBo:type_of% @List.getElem?_take_of_lt:=@List.getElem?_take_of_lt
theorem ZBp:type_of% @and_true:=@and_true
theorem ZBq:type_of% @Nat.eq_zero_or_pos:=@Nat.eq_zero_or_pos
theorem ZBu:type_of% @Nat.zero_mul:=@Nat.zero_mul
theorem ZBy:type_of% @Nat.lt_or_ge:=@Nat.lt_or_ge
theorem ZBz:type_of% @beq_iff_eq:=@beq_iff_eq
theorem ZB2:type_of% @List.drop_append_of_le_length:=@List.drop_append_of_le_length
theorem ZCA:type_of% @Nat.eq_of_beq_eq_true:=@Nat.eq_of_beq_eq_true
theorem ZCB:type_of% @Nat.succ_mul:=@Nat.succ_mul
theorem ZCC:type_of% @Nat.add_assoc:=@Nat.add_assoc
theorem ZCK:type_of% @List.drop_zero:=@List.drop_zero
theorem ZCL:type_of% @List.extract_eq_take_drop:=@List.extract_eq_take_drop
theorem ZCP:type_of% @List.mem_of_mem_take:=@List.mem_of_mem_take
theorem ZCQ:type_of% @Array.toList_extract:=@Array.toList_extract
theorem ZCS:type_of% @List.flatten_cons:=@List.flatten_cons
theorem ZCe:type_of% @List.mem_of_mem_drop:=@List.mem_of_mem_drop
theorem ZCh:type_of% @Nat.le_add_right:=@Nat.le_add_right
theorem ZCi:type_of% @List.drop_append:=@List.drop_append
theorem ZCn:type_of% @Nat.mod_lt:=@Nat.mod_lt
theorem ZCs:type_of% @Prod.mk.inj:=@Prod.mk.inj
def hg1:Unit:=()
def hg2:Unit:=hg1
def hg3:Unit:=hg2
def hg4:Unit:=hg3
def hg5:Unit:=hg4
def _root_.Option.ob{α β:Type}(x:Option α)(f:α->Option β):Option β:=(fun(_:Unit)=>match x with|some a=>f a|none=>none) hg5
def bq{α:Type}(b:Bool)(x y:α):α:=(fun(_:Unit)=>match b with|true=>x|false=>y) hg5
inductive Ty where
 |int (k:IntKind)|byte|bool|str|opq|nat
 |sl (t:Ty)|one (t:Ty)|pair (a b:Ty)|arr (n:Nat) (t:Ty)
 |ref (f:Nat) (t:Ty)
 |ptr (t:Ty)
 deriving DecidableEq
@[reducible] def Ty.den:Ty->Type
  |.int _=>Int
  |.byte=>UInt8
  |.bool=>Bool
  |.str=>List UInt8
  |.opq=>Value
  |.nat=>Nat
  |.sl t=>List t.den
  |.one t=>t.den
  |.pair a b=>a.den×b.den
  |.arr _ t=>List t.den
  |.ref _ t=>List t.den⊕Option (Nat×(Nat×Nat))
  |.ptr t=>List t.den
def Ty.cells:Ty->Nat
 |.one t=>t.cells
 |.pair a b=>a.cells+b.cells
 |.arr n t=>n*t.cells
 |_=>1
def Ty.unref:Ty->Ty
 |.ref _ t=>.sl t
 |.one t=>.one t.unref
 |.pair a b=>.pair a.unref b.unref
 |.int k=>.int k
 |.byte=>.byte
 |.bool=>.bool
 |.str=>.str
 |.opq=>.opq
 |.nat=>.nat
 |.sl t=>.sl t
 |.arr n t=>.arr n t
 |.ptr t=>.ptr t
def bY:(t:Ty)->t.unref.den->t.den
 |.ref _ _,l=>.inl l
 |.one t,x=>bY t x
 |.pair a b,x=>(bY a x.1,bY b x.2)
 |.int _,x=>x
 |.byte,x=>x
 |.bool,x=>x
 |.str,x=>x
 |.opq,x=>x
 |.nat,x=>x
 |.sl _,x=>x
 |.arr _ _,x=>x
 |.ptr _,x=>x
def bA(n:Nat):List Nat->Bool
 |[]=>false
 |i::r=>bif Nat.beq i n then true else bA n r
def Ty.famIn(fs:List Nat):Ty->Bool
 |.ref f t=>bA (f%16) fs&&t.famIn fs
 |.sl t=>t.famIn fs
 |.one t=>t.famIn fs
 |.pair a b=>a.famIn fs&&b.famIn fs
 |.arr _ t=>t.famIn fs
 |.ptr t=>t.famIn fs
 |_=>true
def Ty.isAgg:Ty->Bool
 |.one _|.pair _ _|.arr _ _=>true
 |_=>false
def Ty.noRef:Ty->Bool
 |.ref _ _=>false
 |.sl t=>t.noRef
 |.one t=>t.noRef
 |.pair a b=>a.noRef&&b.noRef
 |.arr _ t=>t.noRef
 |.ptr t=>t.noRef
 |_=>true
def Ty.zero:(t:Ty)->t.den
 |.int _=>(0:Int)
 |.byte=>(0:UInt8)
 |.bool=>false
 |.str=>([]:List UInt8)
 |.opq=>.nilFunc
 |.nat=>(0:Nat)
 |.sl t=>([]:List t.den)
 |.one t=>t.zero
 |.pair a b=>(a.zero,b.zero)
 |.arr n t=>List.replicate n t.zero
 |.ref _ _=>.inr none
 |.ptr t=>([]:List t.den)
def jX{α:Type}(f:α->α->Bool):List α->List α->Bool
 |[],[]=>true
 |a::l,b::r=>f a b&&jX f l r
 |_,_=>false
def Ty.eqb:(t:Ty)->t.den->t.den->Bool
 |.int _,(a:Int),(b:Int)=>a==b
 |.byte,(a:UInt8),(b:UInt8)=>a==b
 |.bool,(a:Bool),(b:Bool)=>a==b
 |.str,(a:List UInt8),(b:List UInt8)=>a==b
 |.one t,a,b=>t.eqb a b
 |.pair s t,a,b=>s.eqb a.1 b.1&&t.eqb a.2 b.2
 |.arr _ t,a,b=>jX t.eqb a b
 |_,_,_=>false
def Ty.keyed:Ty->Bool
 |.int _|.byte|.bool|.str=>true
 |.one t=>t.keyed
 |.pair s t=>s.keyed&&t.keyed
 |.arr _ t=>t.keyed
 |_=>false
def Ty.to{t u:Ty}(h:t=u)(x:t.den):u.den:=h▸x
def Ty.toL{t u:Ty}(h:t=u)(l:List t.den):List u.den:=h▸l
abbrev nZ(k v:Ty):Type:=List ((k.den×v.den)×Nat)×Nat
abbrev CL(k v:Ty):Ty:=.pair (.sl (.pair (.pair k v) .nat)) .nat
section
variable {k v : Ty}
def dF:List ((k.den×v.den)×Nat)->k.den->Option (v.den×Nat)
 |[],_=>none
 |((a,b),n)::r,x=>bif k.eqb x a then some (b,n) else dF r x
def gX(m:nZ k v)(x:k.den):Option v.den:=(dF m.1 x).map (·.1)
def sV:List ((k.den×v.den)×Nat)->k.den->v.den->List ((k.den×v.den)×Nat)
 |[],_,_=>[]
 |((a,b),n)::r,x,y=>bif k.eqb x a then((x,y),n)::r else((a,b),n)::sV r x y
def iM(m:nZ k v)(x:k.den)(y:v.den):nZ k v:=
 match dF m.1 x with
 |some _=>(sV m.1 x y,m.2)
 |none=>(m.1++[((x,y),m.2)],m.2+1)
def wU:List ((k.den×v.den)×Nat)->k.den->List ((k.den×v.den)×Nat)
 |[],_=>[]
 |((a,b),n)::r,x=>bif k.eqb x a then r else((a,b),n)::wU r x
def UX(m:nZ k v)(x:k.den):nZ k v:=(wU m.1 x,m.2)
def UQ(m:nZ k v)(x:k.den):Nat:=
 match dF m.1 x with
 |some e=>e.2
 |none=>m.2
def UY(m:nZ k v)(x:k.den):nZ k v:=
 match dF m.1 x with
 |some e=>(sV m.1 x e.1,m.2)
 |none=>(m.1++[((x,v.zero),m.2)],m.2+1)
def CM:List ((k.den×v.den)×Nat)->Int->v.den->Option (List ((k.den×v.den)×Nat))
 |[],_,_=>none
 |((a,b),n)::r,i,y=>bif (n:Int)==i then some (((a,y),n)::r) else(CM r i y).map (((a,b),n)::·)
def UG(m:nZ k v)(i:Int)(y:v.den):Option (nZ k v):=(CM m.1 i y).map fun l=>(l,m.2)
end
def dq{β:Type}(t u:Ty)(K:t=u->Option β)(E:Option β):Option β:=(fun(_:Unit)=>match(inferInstance:Decidable (t=u)) with|.isTrue h=>K h|.isFalse _=>E) hg5
def HL:List Ty->Type
 |[]=>Unit
 |t::r=>t.den×HL r
@[reducible] def TD:List Ty->Type
  |[]=>Unit
  |[t]=>t.den
  |t::u::r=>t.den×TD (u::r)
def CN:(ts:List Ty)->HL ts->TD ts
 |[],_=>()
 |[_],x=>x.1
 |_::u::r,x=>(x.1,CN (u::r) x.2)
def eY:(ts:List Ty)->TD ts->HL ts
 |[],_=>()
 |[_],x=>(x,())
 |_::u::r,x=>(x.1,eY (u::r) x.2)
inductive AV where
 |p (t:Ty) (x:t.den)
 |pt (t:Ty) (l:List t.den) (i j:Nat)
 |own (es id i j:Nat)
 |rp (f es k i j:Nat)
 |sl (es id off n:Nat)
 |slf (es id:Nat)
 |mp (id:Nat)
 |fn (f:FuncId) (first caps:List AV)
 |agg (l:List AV)
 |tup (l:List AV)
 |junk
instance:Inhabited AV:=⟨.junk⟩
inductive Blk where
 |vars (c:List AV)
 |rows (e:TypeId) (t:Ty) (l:List t.den)
 |map (kt vt:Ty) (m:nZ kt vt)
 |fmap (kt:Ty) (l:List (kt.den×AV))
 |fam (e:TypeId) (s:Ty) (ms:List (Nat×List s.den))
structure Ent where
 fz:Bool
 b:Blk
abbrev Hp:=List (Nat×Option Ent)
abbrev AV.i(k:IntKind)(n:Int):AV:=.p (.int k) n
abbrev AV.b(t:Bool):AV:=.p .bool t
abbrev AV.s(l:List UInt8):AV:=.p .str l
def AV.ofTy:(t:Ty)->t.den->AV
 |.byte,c=>.p (.int .u8) (c.toNat:Int)
 |t,x=>.p t x
def CO:(t:Ty)->t.den->(u:Ty)->Option u.den
 |.opq,.slice none 0 0,.sl s=>some ([]:List s.den)
 |.opq,.slice none 0 0,.ref _ _=>some (.inr none)
 |.opq,.pointer none,.ptr s=>some ([]:List s.den)
 |.sl s,l,.ref _ s'=>if h:s=s' then some (.inl (Ty.toL h l)) else none
 |_,_,_=>none
def SD(f:FuncId):(u:Ty)->Option u.den
 |.opq=>some (.func (.func f) #[] #[])
 |_=>none
def AV.get?(u:Ty):AV->Option u.den
 |.p t x=>if h:t=u then some (h▸x) else CO t x u
 |.fn f [] []=>SD f u
 |_=>none
def AV.int?(k:IntKind)(a:AV):Option Int:=a.get? (.int k)
def AV.bool?(a:AV):Option Bool:=a.get? .bool
def AV.str?(a:AV):Option (List UInt8):=a.get? .str
def TI:(t:Ty)->t.den->Option Int
 |.int _,n=>some n
 |_,_=>none
def AV.any? :AV->Option Int
 |.p t x=>TI t x
 |_=>none
def AV.tup? :AV->Option (List AV)
 |.tup l=>some l
 |_=>none
def oA(n:Int):Option UInt8:=if 0<=n/\n<256 then some (UInt8.ofNat n.toNat) else none
def aK(i:Int)(n:Nat):Option Nat:=if 0<=i/\i<n then some i.toNat else none
def bL(i:Int)(n:Nat):Option Nat:=if 0<=i/\i<=n then some i.toNat else none
def TJ{α:Type}(l:List α)(i:Nat):Option (List α):=if i<l.length then some (l.drop i) else none
def aP{β:Type}(b:Bool)(K:Option β):Option β:=(fun(_:Unit)=>match b with|true=>K|false=>none) hg3
def aG:Hp->Nat->Option Ent
 |[],_=>none
 |(i,e)::r,id=>bif Nat.beq i id then e else aG r id
def aN:Hp->Nat->Bool
 |[],_=>false
 |(i,_)::r,id=>bif Nat.beq i id then true else aN r id
def aS:Hp->Nat->Option Ent->Hp
 |[],id,e=>[(id,e)]
 |(i,x)::r,id,e=>bif Nat.beq i id then(i,e)::r else(i,x)::aS r id e
section
variable {β : Type}
def split:(t:Ty)->t.den->List AV
 |.one t,x=>split t x
 |.pair a b,x=>split a x.1++split b x.2
 |.arr _ _,_=>[]
 |t,x=>[.ofTy t x]
def IB:AV->Bool
 |.p t _=>t.isAgg
 |.agg _=>true
 |_=>false
def dR:AV->Option (List AV)
 |.p t x=>bif Nat.beq (split t x).length t.cells then some (split t x) else none
 |.agg l=>some l
 |.tup _=>none
 |.junk=>none
 |a=>some [a]
def ES{δ:Type}(f:List AV->(δ->Option β)->Option β)(c:Nat):Nat->List AV->(List δ->Option β)->Option β
 |0,_,K=>K []
 |n+1,cs,K=>f (cs.take c) fun x=>ES f c n (cs.drop c) fun l=>K (x::l)
def asm:(t:Ty)->List AV->(t.den->Option β)->Option β
 |.byte,cs,K=>((cs.headD .junk).int? .u8).ob fun n=>(oA n).bind K
 |.one t,cs,K=>asm t cs K
 |.pair a b,cs,K=>asm a (cs.take a.cells) fun x=>asm b (cs.drop a.cells) fun y=>K (x,y)
 |.arr n t,cs,K=>ES (asm t) t.cells n cs K
 |.ptr t,cs,K=>match cs.headD .junk with
  |.pt u l i 0=>dq u t (fun h=>(TJ (Ty.toL h l) i).bind K) none
  |a=>(a.get? (.ptr t)).ob K
 |u,cs,K=>((cs.headD .junk).get? u).ob K
def asC(u:Ty)(a:AV)(K:u.den->Option β):Option β:=
 (dR a).ob fun cs=>aP (Nat.beq cs.length u.cells&&(IB a==u.isAgg))<|asm u cs K
def asA(u:Ty)(a:AV)(K:u.den->Option β):Option β:=
 match a with
 |.p t x=>dq t u (fun h=>K (Ty.to h x)) (asC u (.p t x) K)
 |a=>asC u a K
def sub:(t:Ty)->t.den->Nat->(u:Ty)->(u.den->Option β)->Option β
 |.one t,x,o,u,K=>dq (.one t) u (fun h=>bq (Nat.beq o 0) (K (Ty.to h x)) none) (sub t x o u K)
 |.pair a b,x,o,u,K=>dq (.pair a b) u (fun h=>bq (Nat.beq o 0) (K (Ty.to h x)) none)
  (bq (Nat.blt o a.cells) (sub a x.1 o u K) (sub b x.2 (o-a.cells) u K))
 |t,x,o,u,K=>dq t u (fun h=>bq (Nat.beq o 0) (K (Ty.to h x)) none) none
def upd:(t:Ty)->t.den->Nat->(u:Ty)->u.den->(t.den->Option β)->Option β
 |.one t,x,o,u,y,K=>dq u (.one t) (fun h=>bq (Nat.beq o 0) (K (Ty.to h y)) none) (upd t x o u y K)
 |.pair a b,x,o,u,y,K=>dq u (.pair a b) (fun h=>bq (Nat.beq o 0) (K (Ty.to h y)) none)
  (bq (Nat.blt o a.cells) (upd a x.1 o u y fun z=>K (z,x.2)) (upd b x.2 (o-a.cells) u y fun z=>K (x.1,z)))
 |t,_,o,u,y,K=>dq u t (fun h=>bq (Nat.beq o 0) (K (Ty.to h y)) none) none
end
mutual
def AV.ren(f:Nat->Option Nat):AV->AV
 |.p t x=>.p t x
 |.pt t l i j=>.pt t l i j
 |.own es id i j=>match f id with|some k=>.own es k i j|none=>.junk
 |.rp g es k i j=>.rp g es k i j
 |.sl es id off n=>match f id with|some k=>.sl es k off n|none=>.junk
 |.slf es id=>match f id with|some k=>.slf es k|none=>.junk
 |.mp id=>match f id with|some k=>.mp k|none=>.junk
 |.fn g a c=>.fn g (AV.renL f a) (AV.renL f c)
 |.agg l=>.agg (AV.renL f l)
 |.tup l=>.tup (AV.renL f l)
 |.junk=>.junk
def AV.renL(f:Nat->Option Nat):List AV->List AV
 |[]=>[]
 |a::l=>AV.ren f a::AV.renL f l
end
def Blk.ren(f:Nat->Option Nat):Blk->Blk
 |.vars c=>.vars (AV.renL f c)
 |.rows e t l=>.rows e t l
 |.map k v m=>.map k v m
 |.fmap k l=>.fmap k (l.map fun x=>(x.1,AV.ren f x.2))
 |.fam e s ms=>.fam e s ms
def Ent.ren(f:Nat->Option Nat)(e:Ent):Ent:=⟨e.fz,e.b.ren f⟩
mutual
def AV.ids:AV->List Nat
 |.own _ id _ _=>[id]
 |.sl _ id _ _=>[id]
 |.slf _ id=>[id]
 |.mp id=>[id]
 |.fn _ a c=>AV.idsL a++AV.idsL c
 |.agg l=>AV.idsL l
 |.tup l=>AV.idsL l
 |_=>[]
def AV.idsL:List AV->List Nat
 |[]=>[]
 |a::l=>AV.ids a++AV.idsL l
end
def Ent.ids(e:Ent):List Nat:=
 match e.b with
 |.vars c=>AV.idsL c
 |.fmap _ l=>l.flatMap fun x=>AV.ids x.2
 |_=>[]
def reach(H:Hp):Nat->List Nat->List Nat->List Nat
 |0,_,acc=>acc
 |_+1,[],acc=>acc
 |n+1,id::todo,acc=>
  bif bA id acc then reach H n todo acc else
  match aG H id with
  |none=>reach H n todo acc
  |some e=>reach H n (e.ids++todo) (acc++[id])
def uJ:Nat:=1000
def jF:List Nat->Bool
 |[]=>true
 |i::r=> !bA i r&&jF r
def eZ:List (Nat×Nat)->Nat->Option Nat
 |[],_=>none
 |(i,k)::r,id=>bif Nat.beq i id then some k else eZ r id
def gY(H:Hp)(f:Nat->Option Nat):List (Nat×Nat)->Hp
 |[]=>[]
 |(id,k)::r=>match aG H id with
  |some e=>(k,some (e.ren f))::gY H f r
  |none=>gY H f r
def gZ(H:Hp):List Nat->Bool
 |[]=>true
 |i::r=>(match aG H i with|some _=>true|none=>false)&&gZ H r
def lV:List Nat->List Nat->Bool
 |[],_=>true
 |i::r,l=>bA i l&&lV r l
def eqN:List Nat->List Nat->Bool
 |[],[]=>true
 |i::r,k::l=>Nat.beq i k&&eqN r l
 |_,_=>false
def aC:Nat:=1000000
def enc(f k:Nat):Nat:=aC+(16*k+f%16)
def aA:Nat:=999984
def bB(f:Nat):Nat:=aA+f%16
def jU:List Nat->List Nat
 |[]=>[]
 |i::r=>bif Nat.ble aA i then jU r else i::jU r
def rN:List Nat->List Nat
 |[]=>[]
 |i::r=>bif Nat.ble aA i then i::rN r else rN r
def yY:List Nat->List (Nat×Nat)
 |[]=>[]
 |i::r=>(i,i)::yY r
def gP:List Nat->List Nat
 |[]=>[]
 |i::r=>bif Nat.ble aA i then(i-aA)::gP r else gP r
def bM:Nat->List Nat->List Nat
 |_,[]=>[]
 |n,i::r=>bif Nat.ble aA i then i::bM n r else n::bM (n+1) r
def uK:List (Nat×Nat)->Bool
 |[]=>true
 |(i,k)::r=>(Nat.beq i k||(Nat.blt i aA&&Nat.blt k aA))&&uK r
def lX:Hp->List Nat
 |[]=>[]
 |(k,_)::r=>k::lX r
def sW:List Nat->Bool
 |[]=>true
 |i::r=>Nat.blt i aC&&sW r
def mU:Nat->Nat->List Nat
 |_,0=>[]
 |k,n+1=>k::mU (k+1) n
def NS(n:Nat):List (Nat×Nat)->Bool
 |[]=>true
 |(i,k)::r=>(Nat.beq i k||(Nat.ble n i&&Nat.ble n k))&&NS n r
def rB(H:Hp):Nat->Hp
 |0=>H
 |n+1=>bif aN H n||Nat.ble aA n then rB H n else(n,none)::rB H n
def kG:List Nat->List Nat->List (Nat×Nat)
 |i::r,k::ks=>(i,k)::kG r ks
 |_,_=>[]
def lB:List (Nat×Nat)->List Nat
 |[]=>[]
 |(i,_)::r=>i::lB r
def jG:List (Nat×Nat)->List Nat
 |[]=>[]
 |(_,k)::r=>k::jG r
inductive Tr where
 |lf
 |nd (l:Tr) (v:AV) (r:Tr)
def Tr.get:Tr->Nat->AV
 |.lf,_=>.junk
 |.nd l v r,n=>bif Nat.beq n 0 then v else bif Nat.beq (n%2) 1 then l.get (n/2) else r.get (n/2-1)
def Tr.put:Tr->Nat->AV->Tr
 |.lf,_,_=>.lf
 |.nd l v r,n,a=>bif Nat.beq n 0 then .nd l a r else bif Nat.beq (n%2) 1 then .nd (l.put (n/2) a) v r else .nd l v (r.put (n/2-1) a)
def Tr.full:Nat->Tr
 |0=>.lf
 |d+1=>.nd (Tr.full d) .junk (Tr.full d)
structure St where
 tm:Tr
 nt:Nat
 n0:Nat
 hp:Hp
def AV.lit:Value->AV
 |.int k n=>.p (.int k) n
 |.bool b=>.p .bool b
 |.string s=>.p .str s.data.toList
 |.agg _=>.junk
 |.tuple _=>.junk
 |v=>.p .opq v
def oB:List Value->Bool
 |[]=>true
 |.agg _::_=>false
 |.tuple _::_=>false
 |_::r=>oB r
def St.opnd(st:St):Operand->AV
 |.tmp t=>bq (Nat.blt t 1048576) (st.tm.get t) .junk
 |.const (.agg cs)=>bq (oB cs.toList) (.agg (cs.toList.map AV.lit)) .junk
 |.const v=>.lit v
 |.global g=>st.tm.get (1048576+g)
 |.func f=>.fn f [] []
def St.putO(st:St)(d:Option Nat)(a:AV):St:=
 match d with
 |some d=>{st with tm:=st.tm.put d a}
 |none=>st
def jV(nt:Nat):Option Nat->Bool
 |some d=>Nat.blt d nt&&Nat.blt d 1048576
 |none=>true
mutual
inductive Kd where
 |p (t:Ty)
 |pt (t:Ty)
 |own (es id i j:Nat)
 |ownx (es id j:Nat)
 |sl (es id:Nat)
 |slf (es id:Nat)
 |mp (id:Nat)
 |any
 |fn (f:FuncId) (a c:KdL)
 |agg (l:KdL)
 |tup (l:KdL)
 |nilp (v:Value)
inductive KdL where
 |nil
 |cons (k:Kd) (r:KdL)
end
inductive BKd where
 |vars (l:KdL)
 |rows (e:TypeId) (t:Ty)
 |map (kt vt:Ty)
 |fam (e:TypeId) (s:Ty)
abbrev HK:=List (Nat×Bool×BKd)
structure Shp where
 ks:KdL
 hs:HK
mutual
def Kd.lv:Kd->List Ty->List Ty
 |.p t,r=>t::r
 |.pt t,r=>.sl t::r
 |.ownx _ _ _,r=>.nat::r
 |.sl _ _,r=>.nat::.nat::r
 |.fn _ a c,r=>KdL.lv a (KdL.lv c r)
 |.agg l,r=>KdL.lv l r
 |.tup l,r=>KdL.lv l r
 |_,r=>r
def KdL.lv:KdL->List Ty->List Ty
 |.nil,r=>r
 |.cons k l,r=>Kd.lv k (KdL.lv l r)
end
def BKd.lv:BKd->List Ty->List Ty
 |.vars l,r=>l.lv r
 |.rows _ t,r=>.sl t::r
 |.map k v,r=>CL k v::r
 |.fam _ s,r=>.sl (.pair .nat (.sl s))::r
def eI:HK->List Ty->List Ty
 |[],r=>r
 |(_,_,k)::l,r=>k.lv (eI l r)
def Shp.tys(s:Shp):List Ty:=s.ks.lv (eI s.hs [])
@[reducible] def Shp.D(s:Shp):Type:=TD s.tys
mutual
def Kd.ids:Kd->List Nat
 |.own _ id _ _=>[id]
 |.ownx _ id _=>[id]
 |.sl _ id=>[id]
 |.slf _ id=>[id]
 |.mp id=>[id]
 |.fn _ a c=>KdL.ids a++KdL.ids c
 |.agg l=>KdL.ids l
 |.tup l=>KdL.ids l
 |_=>[]
def KdL.ids:KdL->List Nat
 |.nil=>[]
 |.cons k l=>Kd.ids k++KdL.ids l
end
def BKd.ids:BKd->List Nat
 |.vars l=>l.ids
 |_=>[]
def vG:HK->List Nat
 |[]=>[]
 |(_,_,k)::r=>k.ids++vG r
def aJ:HK->List Nat
 |[]=>[]
 |(id,_,_)::r=>id::aJ r
def KdL.length:KdL->Nat
 |.nil=>0
 |.cons _ r=>r.length+1
mutual
def emb:(k:Kd)->(r:List Ty)->HL (k.lv r)->AV×HL r
 |.p t,_,x=>(.p t x.1,x.2)
 |.pt t,_,x=>(.pt t x.1 0 0,x.2)
 |.own es id i j,_,x=>(.own es id i j,x)
 |.ownx es id j,_,x=>(.own es id x.1 j,x.2)
 |.sl es id,_,x=>(.sl es id x.1 x.2.1,x.2.2)
 |.slf es id,_,x=>(.slf es id,x)
 |.mp id,_,x=>(.mp id,x)
 |.any,_,x=>(.junk,x)
 |.fn f a c,r,x=>let y:=embL a (c.lv r) x;let z:=embL c r y.2;(.fn f y.1 z.1,z.2)
 |.agg l,r,x=>let y:=embL l r x;(.agg y.1,y.2)
 |.tup l,r,x=>let y:=embL l r x;(.tup y.1,y.2)
 |.nilp v,_,x=>(.p .opq v,x)
def embL:(k:KdL)->(r:List Ty)->HL (k.lv r)->List AV×HL r
 |.nil,_,x=>([],x)
 |.cons k l,r,x=>let y:=emb k (l.lv r) x;let z:=embL l r y.2;(y.1::z.1,z.2)
end
def lC:(k:BKd)->(r:List Ty)->HL (k.lv r)->Blk×HL r
 |.vars l,r,x=>let y:=embL l r x;(.vars y.1,y.2)
 |.rows e t,_,x=>(.rows e t x.1,x.2)
 |.map k v,_,x=>(.map k v x.1,x.2)
 |.fam e s,_,x=>(.fam e s x.1,x.2)
def jY:(h:HK)->(r:List Ty)->HL (eI h r)->Hp×HL r
 |[],_,x=>([],x)
 |(id,fz,k)::l,r,x=>let y:=lC k (eI l r) x;let z:=jY l r y.2;((id,some ⟨fz,y.1⟩)::z.1,z.2)
def Shp.emb(s:Shp)(t:s.D):List AV×Hp:=
 let y:=embL s.ks (eI s.hs []) (eY s.tys t)
 (y.1,(jY s.hs [] y.2).1)
section
variable {γ : Type}
mutual
def JH:(k:Kd)->(r:List Ty)->HL (k.lv r)->(AV->HL r->γ)->γ
 |.p t,_,x,K=>K (.p t x.1) x.2
 |.pt t,_,x,K=>K (.pt t x.1 0 0) x.2
 |.own es id i j,_,x,K=>K (.own es id i j) x
 |.ownx es id j,_,x,K=>K (.own es id x.1 j) x.2
 |.sl es id,_,x,K=>K (.sl es id x.1 x.2.1) x.2.2
 |.slf es id,_,x,K=>K (.slf es id) x
 |.mp id,_,x,K=>K (.mp id) x
 |.any,_,x,K=>K .junk x
 |.fn f a c,r,x,K=>embKL a (c.lv r) x fun va x1=>embKL c r x1 fun vc x2=>K (.fn f va vc) x2
 |.agg l,r,x,K=>embKL l r x fun v x1=>K (.agg v) x1
 |.tup l,r,x,K=>embKL l r x fun v x1=>K (.tup v) x1
 |.nilp v,_,x,K=>K (.p .opq v) x
def embKL:(k:KdL)->(r:List Ty)->HL (k.lv r)->(List AV->HL r->γ)->γ
 |.nil,_,x,K=>K [] x
 |.cons k l,r,x,K=>JH k (l.lv r) x fun v x1=>embKL l r x1 fun vs x2=>K (v::vs) x2
end
def SE:(k:BKd)->(r:List Ty)->HL (k.lv r)->(Blk->HL r->γ)->γ
 |.vars l,r,x,K=>embKL l r x fun v x1=>K (.vars v) x1
 |.rows e t,_,x,K=>K (.rows e t x.1) x.2
 |.map k v,_,x,K=>K (.map k v x.1) x.2
 |.fam e s,_,x,K=>K (.fam e s x.1) x.2
def CP:(h:HK)->(r:List Ty)->HL (eI h r)->(Hp->HL r->γ)->γ
 |[],_,x,K=>K [] x
 |(id,fz,k)::l,r,x,K=>SE k (eI l r) x fun b x1=>CP l r x1 fun H x2=>K ((id,some ⟨fz,b⟩)::H) x2
def Shp.embC(s:Shp)(t:s.D)(K:List AV->Hp->γ):γ:=embKL s.ks (eI s.hs []) (eY s.tys t) fun vs x1=>CP s.hs [] x1 fun H _=>K vs H
mutual
theorem u4Z:(k:Kd)->(r:List Ty)->(x:HL (k.lv r))->(K:AV->HL r->γ)->JH k r x K=K (emb k r x).1 (emb k r x).2
 |.p _,_,_,_|.pt _,_,_,_|.own _ _ _ _,_,_,_|.ownx _ _ _,_,_,_|.sl _ _,_,_,_|.slf _ _,_,_,_|.mp _,_,_,_|.any,_,_,_|.nilp _,_,_,_=>rfl
 |.fn f a c,r,x,K=>by
  simp only[JH,emb];rw[dhZ a (c.lv r) x,dhZ c r]
 |.agg l,r,x,K=>by
  simp only[JH,emb];rw[dhZ l r x]
 |.tup l,r,x,K=>by
  simp only[JH,emb];rw[dhZ l r x]
theorem dhZ:(k:KdL)->(r:List Ty)->(x:HL (k.lv r))->(K:List AV->HL r->γ)->embKL k r x K=K (embL k r x).1 (embL k r x).2
 |.nil,_,_,_=>rfl
 |.cons k l,r,x,K=>by
  simp only[embKL,embL];rw[u4Z k (l.lv r) x,dhZ l r]
end
theorem sOZ(k)(r)(x)(K:Blk->HL r->γ):SE k r x K=K (lC k r x).1 (lC k r x).2:=by
 cases k with
 |vars l=>exact dhZ l r x _
 |rows e t=>rfl
 |map k v=>rfl
 |fam e s=>rfl
theorem nnZ:(h:HK)->(r:List Ty)->(x:HL (eI h r))->(K:Hp->HL r->γ)->CP h r x K=K (jY h r x).1 (jY h r x).2
 |[],_,_,_=>rfl
 |(id,fz,k)::l,r,x,K=>by
  simp[CP,jY];rw[sOZ k (eI l r) x,nnZ l r]
theorem Shp.embC_eq(s:Shp)(t)(K:List AV->Hp->γ):s.embC t K=K (s.emb t).1 (s.emb t).2:=by
 exact(dhZ s.ks (eI s.hs []) (eY s.tys t) fun vs x1=>CP s.hs [] x1 fun H _=>K vs H).trans (nnZ s.hs [] _ _)
end
@[reducible] def cP:List Shp->Type
  |[]=>Empty
  |[s]=>s.D
  |s::t::r=>s.D⊕cP (t::r)
def cP.on{γ:Type}:(l:List Shp)->cP l->((s:Shp)->s.D->γ)->γ
 |[],x,_=>Empty.elim x
 |[s],x,K=>K s x
 |s::t::r,x,K=>match x with
  |.inl y=>K s y
  |.inr y=>cP.on (t::r) y K
def AV.own?(es id i j:Nat):AV->Bool
 |.own es' id' i' j'=>Nat.beq es es'&&Nat.beq id id'&&Nat.beq i i'&&Nat.beq j j'
 |_=>false
def AV.ownx?(es id j:Nat):AV->Option Nat
 |.own es' id' i j'=>bif Nat.beq es es'&&Nat.beq id id'&&Nat.beq j j' then some i else none
 |_=>none
def AV.sl?(es id:Nat):AV->Option (Nat×Nat)
 |.sl es' id' i n=>bif Nat.beq es es'&&Nat.beq id id' then some (i,n) else none
 |_=>none
def AV.slf?(es id:Nat):AV->Bool
 |.slf es' id'=>Nat.beq es es'&&Nat.beq id id'
 |_=>false
def AV.mp?(id:Nat):AV->Bool
 |.mp id'=>Nat.beq id id'
 |_=>false
def AV.pt?(u:Ty):AV->Option (List u.den)
 |.pt t l 0 0=>if h:t=u then some (h▸l) else none
 |_=>none
def AV.fn?(f:FuncId):AV->Option (List AV×List AV)
 |.fn g a c=>bif Nat.beq f g then some (a,c) else none
 |.p .opq (.func (.func g) a c)=>bif Nat.beq f g&&(Nat.beq a.size 0&&Nat.beq c.size 0) then some ([],[]) else none
 |_=>none
def JI :Value->Value->Bool
 |.pointer none,.pointer none=>true
 |.map none,.map none=>true
 |.slice none 0 0,.slice none 0 0=>true
 |.nilFunc,.nilFunc=>true
 |_,_=>false
def AV.nil?(v:Value):AV->Bool
 |.p .opq x=>JI v x
 |_=>false
section
variable {β : Type}
mutual
def co:(k:Kd)->(r:List Ty)->AV->HL r->(HL (k.lv r)->Option β)->Option β
 |.p t,_,a,x,K=>asA t a fun y=>K (y,x)
 |.pt t,_,a,x,K=>(a.pt? t).ob fun l=>K (l,x)
 |.own es id i j,_,a,x,K=>aP (a.own? es id i j)<|K x
 |.ownx es id j,_,a,x,K=>(a.ownx? es id j).ob fun y=>K (y,x)
 |.sl es id,_,a,x,K=>(a.sl? es id).ob fun y=>K (y.1,y.2,x)
 |.slf es id,_,a,x,K=>aP (a.slf? es id)<|K x
 |.mp id,_,a,x,K=>aP (a.mp? id)<|K x
 |.any,_,_,x,K=>K x
 |.fn f ka kc,r,a,x,K=>(a.fn? f).ob fun y=>aP (Nat.beq y.1.length ka.length&&Nat.beq y.2.length kc.length)<|
  coL kc r y.2 x fun x1=>coL ka (kc.lv r) y.1 x1 K
 |.agg l,r,a,x,K=>(dR a).ob fun c=>aP (IB a&&Nat.beq c.length l.length)<|coL l r c x K
 |.tup l,r,a,x,K=>a.tup?.ob fun c=>aP (Nat.beq c.length l.length)<|coL l r c x K
 |.nilp v,_,a,x,K=>aP (a.nil? v)<|K x
def coL:(k:KdL)->(r:List Ty)->List AV->HL r->(HL (k.lv r)->Option β)->Option β
 |.nil,_,_,x,K=>K x
 |.cons k l,r,c,x,K=>coL l r c.tail x fun x1=>co k (l.lv r) (c.headD .junk) x1 K
end
def Blk.vars?(n:Nat):Blk->Option (List AV)
 |.vars c=>bif Nat.beq c.length n then some c else none
 |_=>none
def Blk.rows?(e:TypeId)(u:Ty):Blk->Option (List u.den)
 |.rows e' t l=>bif Nat.beq e e' then(if h:t=u then some (h▸l) else none) else none
 |_=>none
def Blk.map?(k v):Blk->Option (nZ k v)
 |.map k' v' m=>if h:CL k' v'=CL k v then some (Ty.to h m) else none
 |_=>none
def Blk.fam?(e:TypeId)(u:Ty):Blk->Option (List (Nat×List u.den))
 |.fam e' t l=>bif Nat.beq e e' then(if h:t=u then some (h▸l) else none) else none
 |_=>none
def coB:(k:BKd)->(r:List Ty)->Blk->HL r->(HL (k.lv r)->Option β)->Option β
 |.vars l,r,b,x,K=>(b.vars? l.length).ob fun c=>coL l r c x K
 |.rows e t,_,b,x,K=>(b.rows? e t).ob fun l=>K (l,x)
 |.map k v,_,b,x,K=>(b.map? k v).ob fun m=>K (m,x)
 |.fam e s,_,b,x,K=>(b.fam? e s).ob fun l=>K (l,x)
def JJ(fz:Bool)(H:Hp)(id:Nat):Option Blk:=
 match aG H id with
 |some e=>bif e.fz==fz then some e.b else none
 |none=>none
def coH:(h:HK)->(r:List Ty)->Hp->HL r->(HL (eI h r)->Option β)->Option β
 |[],_,_,x,K=>K x
 |(id,fz,k)::l,r,H,x,K=>(JJ fz H id).ob fun b=>coH l r H x fun x1=>coB k (eI l r) b x1 K
def Shp.ok(s:Shp):Bool:=jF (aJ s.hs)&&lV (s.ks.ids++vG s.hs) (aJ s.hs)
def Shp.co(s:Shp)(vs:List AV)(H:Hp)(K:s.D->Option β):Option β:=
 aP (s.ok&&Nat.beq vs.length s.ks.length)<|
 coH s.hs [] H () fun x=>coL s.ks (eI s.hs []) vs x fun y=>K (CN s.tys y)
end
mutual
def Kd.fits:Kd->AV->Bool
 |.p t,a=>match a with
  |.p t' x=>decide (t'=t)||(CO t' x t).isSome||t'.isAgg
  |.agg _=>t.isAgg
  |.fn _ [] []=>decide (t= .opq)
  |_=>false
 |.pt _,a=>match a with
  |.pt _ _ _ _=>true
  |_=>false
 |.own es id i j,a=>a.own? es id i j
 |.ownx es id j,a=>(a.ownx? es id j).isSome
 |.sl es id,a=>(a.sl? es id).isSome
 |.slf es id,a=>a.slf? es id
 |.mp id,a=>a.mp? id
 |.any,_=>true
 |.fn f _ _,a=>(a.fn? f).isSome
 |.agg l,a=>match dR a with
  |some c=>Nat.beq c.length l.length&&KdL.fits l c
  |none=>false
 |.tup l,a=>match a with
  |.tup c=>Nat.beq c.length l.length&&KdL.fits l c
  |_=>false
 |.nilp v,a=>a.nil? v
def KdL.fits:KdL->List AV->Bool
 |.nil,_=>true
 |.cons k l,c=>k.fits (c.headD .junk)&&l.fits c.tail
end
def zV:HK->Hp->Bool
 |[],_=>true
 |(id,fz,k)::r,H=>(match aG H id with
  |some e=>e.fz==fz&&(match k,e.b with
   |.vars l,.vars c=>Nat.beq c.length l.length&&l.fits c
   |_,_=>true)
  |none=>false)&&zV r H
def AV.noRef:AV->Bool
 |.p _ _=>true
 |.pt _ _ _ _=>true
 |a=>(AV.ids a).isEmpty
def Tr.keep:Tr->Tr
 |.lf=>.lf
 |.nd l v r=>.nd l.keep (bif v.noRef then v else .junk) r.keep
def Tr.junk(t:Tr):List Nat->Tr
 |[]=>t
 |k::r=>(t.put k .junk).junk r
structure dM where
 live:List Nat
 s:Shp
abbrev dM.D(s:dM):Type:=s.s.D
def Shp.rco{β}(s:Shp)(vs:List AV)(H:Hp)(pairs:List (Nat×Nat))(K:s.D->Option β):Option β:=
 aP (jF (lB pairs)&&(jF (jG pairs)&&(sW (jG pairs)&&uK pairs))&&gZ H (lB pairs))<|s.co (AV.renL (eZ pairs) vs) (gY H (eZ pairs) pairs) K
def cP.rco{β}(vs:List AV)(H:Hp)(pairs:List (Nat×Nat)):(l:List Shp)->(cP l->Option β)->Option β
 |[],_=>none
 |[s],K=>s.rco vs H pairs K
 |s::t::r,K=>bq (s.ks.fits (AV.renL (eZ pairs) vs)&&zV s.hs (gY H (eZ pairs) pairs)) (s.rco vs H pairs fun x=>K (.inl x)) (cP.rco vs H pairs (t::r) fun x=>K (.inr x))
def dM.ps(sh:dM)(H:Hp)(vs:List AV):List (Nat×Nat):=kG (reach H uJ (AV.idsL vs) []) (jU (aJ sh.s.hs))++yY (rN (aJ sh.s.hs))
def St.prj{β}(st:St)(sh:dM)(K:sh.D->Option β):Option β:=
 let vs:=sh.live.map st.tm.get
 let ps:=sh.ps st.hp vs
 aP (NS st.n0 ps&&lV (rN (lX st.hp)) (rN (aJ sh.s.hs)))<|sh.s.rco vs st.hp ps K
def NT:List Nat->List AV->Tr->Tr
 |k::r,a::l,t=>NT r l (t.put k a)
 |_,_,t=>t
def dM.inj(sh:dM)(base:Tr)(nt n0:Nat)(t:sh.D):St:=sh.s.embC t fun vs H=>⟨NT sh.live vs base,nt,n0,rB H n0⟩
theorem dM.inj_eq(sh:dM)(base)(nt n0)(t):sh.inj base nt n0 t=⟨NT sh.live (sh.s.emb t).1 base,nt,n0,rB (sh.s.emb t).2 n0⟩:=Shp.embC_eq _ _ _
def aB:Nat:=4611686018427387904
def iter{τ ο}:Nat->(τ->Option (τ⊕ο))->τ->Option ο
 |0,_,_=>none
 |n+1,f,s=>(f s).ob fun r=>match r with
  |.inl s'=>iter n f s'
  |.inr o=>some o
@[reducible] def Out(ret:Bool):List (Nat×dM)->Type->Type
  |[],β=>bif ret then β else Empty
  |[(_,s)],β=>bif ret then s.D⊕β else s.D
  |(_,s)::o::r,β=>s.D⊕Out ret (o::r) β
def Out.ret{β}:(l:List (Nat×dM))->β->Out true l β
 |[],b=>b
 |[_],b=>.inr b
 |_::o::r,b=>.inr (Out.ret (o::r) b)
def Out.mk{β γ}(st:St):(ret:Bool)->(l:List (Nat×dM))->Nat->(Out ret l β->Option γ)->Option γ
 |_,[],_,_=>none
 |true,[(j,s)],i,K=>bq (Nat.beq j i) (st.prj s fun t=>K (.inl t)) none
 |false,[(j,s)],i,K=>bq (Nat.beq j i) (st.prj s fun t=>K t) none
 |ret,(j,s)::o::r,i,K=>bq (Nat.beq j i) (st.prj s fun t=>K (.inl t)) (Out.mk st ret (o::r) i fun x=>K (.inr x))
def Out.on{β}(base:Tr)(nt n0:Nat):(ret:Bool)->(l:List (Nat×dM))->Out ret l β->(Nat->St->Option β)->(β->Option β)->Option β
 |true,[],x,_,R=>R x
 |false,[],x,_,_=>Empty.elim x
 |true,[(j,s)],x,X,R=>match x with|.inl t=>X j (s.inj base nt n0 t)|.inr b=>R b
 |false,[(j,s)],x,X,_=>X j (s.inj base nt n0 x)
 |ret,(j,s)::o::r,x,X,R=>match x with|.inl t=>X j (s.inj base nt n0 t)|.inr y=>Out.on base nt n0 ret (o::r) y X R
noncomputable section
structure TK where
 ids:List Nat:=[]
 sh:List Nat:=[]
 md:List Nat:=[]
 fn:Nat:=0
structure Ann where
 ids:List Nat:=[]
 sh:List Nat:=[]
 md:List Nat:=[]
 fn:Nat:=0
 more:List TK:=[]
def Ann.atL(H:Hp)(a:Ann):List TK->Ann
 |[]=>a
 |m::r=>bq (gZ H m.sh) {ids:=m.ids,sh:=m.sh,md:=m.md,fn:=m.fn} (Ann.atL H a r)
def Ann.at(a:Ann)(H:Hp):Ann:=a.atL H a.more
section
variable (P : Program)
def bW:Nat:=20
def CQ(f:TypeId->Option Ty):List TypeId->Option Ty
 |[]=>none
 |[t]=>f t
 |t::r=>(f t).ob fun a=>(CQ f r).map fun b=>.pair a b
def IC:Nat->TypeId->Option Ty
 |0,_=>none
 |n+1,t=>match P.underlying t with
  |some (.int .u8)=>some .byte
  |some (.int k)=>some (.int k)
  |some .bool=>some .bool
  |some .string=>some .str
  |some (.slice e)=>(IC n e).map .sl
  |some (.array k e)=>(IC n e).map (.arr k)
  |some (.struct fs)=>match fs.toList.map (·.type) with
   |[f]=>(IC n f).map .one
   |l=>CQ (IC n) l
  |some (.pointer e)=>match IC n e with
   |some u=>some (.ptr u)
   |none=>some .opq
  |some (.map _ _)|some (.func _ _ _)=>some .opq
  |_=>none
def fG(t:TypeId):Bool:=match P.underlying t with|some (.struct _)|some (.array _ _)=>true|_=>false
def eP(t:TypeId):Bool:=match P.underlying t with|some (.struct _)|some (.array _ _)=>false|some _=>true|none=>false
def ty(t:TypeId):Option Ty:=(IC P bW t).ob fun u=>
 bq (Nat.beq u.cells (P.cellsOf t)&& !Nat.beq u.cells 0&&(bq u.isAgg (fG P t) (eP P t))) (some u) none
def isB(e:TypeId):Bool:=match P.underlying e with|some (.int .u8)=>true|_=>false
def zW(t:TypeId):Option (List AV):=(P.info? t).ob fun i=>i.zero.ob fun z=>bq (z.cells.toList.all Value.oneCell') (some (z.cells.toList.map AV.lit)) none
def Ty.plain:Ty->Bool
 |.opq|.nat=>false
 |.one t=>t.plain
 |.pair a b=>a.plain&&b.plain
 |.arr _ t=>t.plain
 |_=>true
def Ty.zeros:Ty->List Value
 |.int k=>[.int k 0]
 |.byte=>[.int .u8 0]
 |.bool=>[.bool false]
 |.str=>[.string ⟨#[]⟩]
 |.sl _=>[.slice none 0 0]
 |.ref _ _=>[.slice none 0 0]
 |.ptr _=>[.pointer none]
 |.one t=>t.zeros
 |.pair a b=>a.zeros++b.zeros
 |.arr n t=>(List.replicate n t.zeros).flatten
 |_=>[]
def wA:Value->Value->Bool
 |.int k n,.int k' n'=>k==k'&&n==n'
 |.bool a,.bool b=>a==b
 |.string a,.string b=>a.data.size==b.data.size&&a.data.size==0
 |.slice none 0 0,.slice none 0 0=>true
 |.pointer none,.pointer none=>true
 |_,_=>false
def pP:List Value->List Value->Bool
 |[],[]=>true
 |a::l,b::r=>wA a b&&pP l r
 |_,_=>false
def mV(e:TypeId)(u:Ty):Bool:=
 u.plain&&match P.info? e with
 |some i=>match i.zero with
  |some z=>pP z.cells.toList u.zeros&&(match z with|.agg _=>u.isAgg|_=> !u.isAgg)
  |none=>false
 |none=>false
def qO(f:TypeId->Ty->Bool):List Field->Nat->Ty->Bool
 |[x],o,u=>x.name != "_" &&Nat.beq x.offset o&&Nat.beq (P.cellsOf x.type) u.cells&&f x.type u
 |x::r,o,.pair a b=>x.name != "_" &&Nat.beq x.offset o&&Nat.beq (P.cellsOf x.type) a.cells&&f x.type a&&qO f r (o+a.cells) b
 |_,_,_=>false
def mW(t:TypeId)(u:Ty):Bool:= !Nat.beq u.cells 0&&bq u.isAgg (fG P t) (eP P t)
def eqT:Nat->TypeId->Ty->Bool
 |0,_,_=>false
 |n+1,t,u=>match P.underlying t,u with
  |some (.int k),.int k'=>decide (k=k')
  |some (.int k),.byte=>decide (k= .u8)
  |some .bool,.bool=>true
  |some .string,.str=>true
  |some (.struct fs),.one v=> !P.stoodInHeld t&&qO P (fun t u=>mW P t u&&eqT n t u) fs.toList 0 v
  |some (.struct fs),.pair a b=> !P.stoodInHeld t&&qO P (fun t u=>mW P t u&&eqT n t u) fs.toList 0 (.pair a b)
  |some (.array m e),.arr m' v=>Nat.beq m m'&&Nat.beq (P.cellsOf e) v.cells&&mW P e v&&eqT n e v
  |_,_=>false
def bG:Nat:=140737488355328
def nro(f:Nat):Bool:= !Nat.beq (f%16) 15
def frz(H:Hp)(id:Nat):Hp:=bq (Nat.ble aA id) H (match aG H id with|some e=>aS H id (some ⟨true,e.b⟩)|none=>H)
def CR(H:Hp):AV->Hp
 |.own _ id _ _=>frz H id
 |.sl _ id _ _=>frz H id
 |.slf _ id=>frz H id
 |_=>H
def view(H:Hp):AV->Option AV
 |.p t x=>some (.p t x)
 |.pt t l i j=>some (.pt t l i j)
 |.fn f [] []=>some (.fn f [] [])
 |.slf es id=>match aG H id with
  |some ⟨true,.rows _ t l⟩=>bq (Nat.beq es t.cells) (some (.p (.sl t) l)) none
  |_=>none
 |.sl es id off n=>match aG H id with
  |some ⟨true,.rows _ t l⟩=>bq (Nat.beq es t.cells&&Nat.ble (off+n) l.length) (some (.p (.sl t) ((l.drop off).take n))) none
  |_=>none
 |.own es id i j=>match aG H id with
  |some ⟨true,.rows _ t l⟩=>bq (Nat.beq es t.cells) (some (.pt t l i j)) none
  |_=>none
 |_=>none
def pure1(H:Hp)(a:AV):Option (AV×Hp):=(view (CR H a) a).map fun x=>(x,CR H a)
def rC(H:Hp):List AV->Option (List AV×Hp)
 |[]=>some ([],H)
 |a::r=>(pure1 H a).ob fun x=>(rC x.2 r).map fun y=>(x.1::y.1,y.2)
def nO(H:Hp):AV->Option (AV×Hp)
 |.agg l=>(rC H l).map fun x=>(.agg x.1,x.2)
 |a=>pure1 H a
section
variable {β : Type}
def ET{α}(ms:List (Nat×List α))(k off n:Nat):Option (List α):=
 match ms[k]? with
 |some (st,l)=>bq (Nat.ble 2 st&&Nat.ble (off+n) l.length) (some ((l.drop off).take n)) none
 |none=>none
structure Fm where
 f:Nat
 s:Ty
 ms:List (Nat×List s.den)
def JK(f:Nat)(s:Ty):List Fm->Option (List (Nat×List s.den))
 |[]=>none
 |m::r=>bq (Nat.beq m.f (f%16)) (dq m.s s (fun h=>some (h▸m.ms)) none) (JK f s r)
def bE{α γ:Type}(g:α->Option γ):List α->Option (List γ)
 |[]=>some []
 |x::r=>(g x).bind fun y=>(bE g r).map (y::·)
def aT(fms:List Fm):(t:Ty)->t.den->Option t.unref.den
 |.ref f s,x=>match x with
  |.inl l=>some l
  |.inr none=>some ([]:List s.den)
  |.inr (some (k,off,n))=>(JK f s fms).ob fun ms=>ET ms k off n
 |.one t,x=>aT fms t x
 |.pair a b,x=>(aT fms a x.1).bind fun y=>(aT fms b x.2).map fun z=>(y,z)
 |.int _,x=>some x
 |.byte,x=>some x
 |.bool,x=>some x
 |.str,x=>some x
 |.opq,x=>some x
 |.nat,x=>some x
 |.sl _,x=>some x
 |.arr _ _,x=>some x
 |.ptr _,x=>some x
def lY:(t:Ty)->t.den->Option t.unref.den
 |.ref _ s,x=>match x with
  |.inl l=>some l
  |.inr none=>some ([]:List s.den)
  |_=>none
 |.one t,x=>lY t x
 |.pair a b,x=>(lY a x.1).bind fun y=>(lY b x.2).map fun z=>(y,z)
 |.int _,x=>some x
 |.byte,x=>some x
 |.bool,x=>some x
 |.str,x=>some x
 |.opq,x=>some x
 |.nat,x=>some x
 |.sl _,x=>some x
 |.arr _ _,x=>some x
 |.ptr _,x=>some x
def aV{α:Type}(m:Nat×List α):Nat×List α:=(bq (Nat.beq m.1 0) 0 2,m.2)
def uL:Hp->Hp
 |[]=>[]
 |(i,some ⟨fz,.fam e s ms⟩)::r=>(i,some ⟨fz,.fam e s (ms.map aV)⟩)::uL r
 |x::r=>x::uL r
def sX(H:Hp):Nat->List Fm
 |0=>[]
 |n+1=>match aG H (aA+n) with
  |some ⟨_,.fam _ s ms⟩=>⟨n,s,ms⟩::sX H n
  |_=>sX H n
def yZ(H:Hp):List Fm:=sX H 16
def rO(fms:List Fm)(a:AV)(K:AV->Option β):Option β:=
 match a with
 |.p (.sl t) l=>bq t.noRef (K (.p (.sl t) l)) ((bE (aT fms t) (show List t.den from l)).bind fun l'=>K (.p (.sl t.unref) l'))
 |.p t x=>bq t.noRef (K (.p t x)) ((aT fms t x).bind fun y=>K (.p t.unref y))
 |.pt t l i j=>aP t.noRef<|K (.pt t l i j)
 |a=>K a
def EU(a:AV)(K:AV->Option β):Option β:=
 match a with
 |.p (.sl t) l=>bq t.noRef (K (.p (.sl t) l)) ((bE (lY t) (show List t.den from l)).bind fun l'=>K (.p (.sl t.unref) l'))
 |.p t x=>bq t.noRef (K (.p t x)) ((lY t x).bind fun y=>K (.p t.unref y))
 |a=>K a
end
def AV.anyRef:AV->Bool
 |.p t _=> !t.noRef
 |.pt t _ _ _=> !t.noRef
 |_=>false
section
variable {β : Type}
def JL(H:Hp)(a:AV)(K:AV->Option β):Option β:=
 match a with
 |.p t x=>K (.p t x)
 |.pt t l i j=>K (.pt t l i j)
 |.fn f [] []=>K (.fn f [] [])
 |.slf es id=>match aG H id with
  |some ⟨true,.rows _ t l⟩=>bq (Nat.beq es t.cells) (K (.p (.sl t) l)) none
  |_=>none
 |.sl es id off n=>match aG H id with
  |some ⟨true,.rows _ t l⟩=>bq (Nat.beq es t.cells&&Nat.ble (off+n) l.length) (K (.p (.sl t) ((l.drop off).take n))) none
  |_=>none
 |.own es id i j=>match aG H id with
  |some ⟨true,.rows _ t l⟩=>bq (Nat.beq es t.cells) (K (.pt t l i j)) none
  |_=>none
 |_=>none
theorem utZ{α}(c)(a)(K:α->Option β):(bq c (some a) none).ob K=bq c (K a) none:=by cases c<;>rfl
theorem sdZ(H)(a)(K:AV->Option β):JL H a K=(view H a).ob K:=by
 unfold JL view;split
 case h_4 es id=>
  rcases aG H id with _|⟨fz,b⟩
  ·rfl
  ·cases fz<;>cases b<;>first|rfl|simp_all[utZ]
 case h_5 es id off n=>
  rcases aG H id with _|⟨fz,b⟩
  ·rfl
  ·cases fz<;>cases b<;>first|rfl|simp_all[utZ]
 case h_6 es id i j=>
  rcases aG H id with _|⟨fz,b⟩
  ·rfl
  ·cases fz<;>cases b<;>first|rfl|simp_all[utZ]
 all_goals rfl
def zX(H:Hp)(a:AV)(K:AV->Hp->Option β):Option β:=JL (CR H a) a fun x=>K x (CR H a)
theorem kzZ(H)(a)(K:AV->Hp->Option β):zX H a K=(pure1 H a).ob fun x=>K x.1 x.2:=by
 unfold zX pure1;rw[sdZ];cases view (CR H a) a<;>rfl
def rP:Hp->List AV->(List AV->Hp->Option β)->Option β
 |H,[],K=>K [] H
 |H,a::r,K=>zX H a fun x H'=>rP H' r fun l H''=>K (x::l) H''
theorem e0Z:∀(l) (H) (K:List AV->Hp->Option β),rP H l K=(rC H l).ob fun x=>K x.1 x.2
 |[],_,_=>rfl
 |a::r,H,K=>by
  unfold rP rC;rw[kzZ];cases pure1 H a with
  |none=>rfl
  |some x=>
   show rP x.2 r _=_;rw[e0Z r];show _=((rC x.2 r).map _).ob _;cases rC x.2 r<;>rfl
def JM(H:Hp)(a:AV)(K:AV->Hp->Option β):Option β:=
 match a with
 |.agg l=>rP H l fun l H'=>K (.agg l) H'
 |a=>zX H a K
theorem rbZ(H)(a)(K:AV->Hp->Option β):JM H a K=(nO H a).ob fun x=>K x.1 x.2:=by
 cases a
 case agg l=>
  show rP H l _=((rC H l).map _).ob _;rw[e0Z];cases rC H l<;>rfl
 all_goals exact kzZ _ _ _
end
section
variable {β : Type}
def yQ:(t:Ty)->t.den->Nat->(u:Ty)->(AV->Option β)->Option β
 |.one t,x,o,u,K=>bq (decide ((Ty.one t).unref=u)&&Nat.beq o 0) (K (.p (.one t) x)) (yQ t x o u K)
 |.pair a b,x,o,u,K=>bq (decide ((Ty.pair a b).unref=u)&&Nat.beq o 0) (K (.p (.pair a b) x))
  (bq (Nat.blt o a.cells) (yQ a x.1 o u K) (yQ b x.2 (o-a.cells) u K))
 |t,x,o,u,K=>bq (decide (t.unref=u)&&Nat.beq o 0) (K (.ofTy t x)) none
def wV:(t:Ty)->t.den->Nat->(u:Ty)->AV->(t.den->Option β)->Option β
 |.one t,x,o,u,v,K=>bq (decide ((Ty.one t).unref=u)&&Nat.beq o 0) (asA (.one t) v K) (wV t x o u v K)
 |.pair a b,x,o,u,v,K=>bq (decide ((Ty.pair a b).unref=u)&&Nat.beq o 0) (asA (.pair a b) v K)
  (bq (Nat.blt o a.cells) (wV a x.1 o u v fun z=>K (z,x.2)) (wV b x.2 (o-a.cells) u v fun z=>K (x.1,z)))
 |t,_,o,u,v,K=>bq (decide (t.unref=u)&&Nat.beq o 0) (asA t v K) none
def rD(u:Ty)(t:TypeId)(x:u.den)(j:Nat)(K:AV->Option β):Option β:=
 (ty P t).ob fun want=>bq u.noRef (sub u x j want fun y=>K (.ofTy want y)) (yQ u x j want K)
def oC(t:TypeId)(u:Ty)(l:List u.den)(i j:Nat)(K:AV->Option β):Option β:=
 match ty P t with
 |some (.arr n u')=>bq (decide (u'=u)&&Nat.beq i 0&&Nat.beq j 0) (aP (Nat.beq l.length n)<|K (.p (.arr n u) l)) (l[i]?.bind fun x=>rD P u t x j K)
 |_=>l[i]?.bind fun x=>rD P u t x j K
def wW(t:TypeId)(c:List AV)(j:Nat)(K:AV->Option β):Option β:=
 bq (fG P t) (aP (Nat.ble (j+P.cellsOf t) c.length&& !Nat.beq (P.cellsOf t) 0)<|K (.agg ((c.drop j).take (P.cellsOf t)))) (bq (eP P t) (c[j]?.ob K) none)
def rQ(t:TypeId)(a:AV)(H:Hp)(K:AV->Option β):Option β:=
 match a with
 |.own es id i j=>match aG H id with
  |some ⟨_,.vars c⟩=>wW P t c (i*es+j) K
  |some ⟨_,.rows _ u l⟩=>bq (Nat.beq es u.cells) (oC P t u l i j K) none
  |_=>none
 |.pt u l i j=>oC P t u l i j K
 |.rp f es k i j=>match aG H (bB f) with
  |some ⟨_,.fam _ s ms⟩=>ms[k]?.bind fun m=>aP (Nat.blt 0 m.1&&Nat.beq es s.cells)<|oC P t s m.2 i j K
  |_=>none
 |_=>none
def setFrom{α:Type}:List α->Nat->List α->List α
 |c,_,[]=>c
 |c,j,x::r=>setFrom (c.set j x) (j+1) r
def GR(H:Hp)(id:Nat):Bool:=match aG H id with|some e=> !e.fz|none=>false
def uM(t:TypeId)(e:TypeId)(u:Ty)(l:List u.den)(i j:Nat)(id:Nat)(v:AV)(H:Hp)(K:AV->Hp->Option β):Option β:=
 match ty P t with
 |some (.arr n u')=>bq (decide (u'=u)&&Nat.beq i 0&&Nat.beq j 0) (aP (Nat.beq l.length n)<|asA (.arr n u) v fun l'=>aP (Nat.beq l'.length n)<|K .junk (aS H id (some ⟨false,.rows e u l'⟩))) (asA (.arr n u') v fun y=>l[i]?.bind fun x=>upd u x j (.arr n u') y fun x'=>K .junk (aS H id (some ⟨false,.rows e u (l.set i x')⟩)))
 |some want=>asA want v fun y=>l[i]?.bind fun x=>upd u x j want y fun x'=>K .junk (aS H id (some ⟨false,.rows e u (l.set i x')⟩))
 |none=>none
def zY:Ty->Nat->Ty->Option Ty
 |.one t,o,u=>bq (decide ((Ty.one t).unref=u)&&Nat.beq o 0) (some (.one t)) (zY t o u)
 |.pair a b,o,u=>bq (decide ((Ty.pair a b).unref=u)&&Nat.beq o 0) (some (.pair a b)) (bq (Nat.blt o a.cells) (zY a o u) (zY b (o-a.cells) u))
 |t,o,u=>bq (decide (t.unref=u)&&Nat.beq o 0) (some t) none
def Ty.leaves:Ty->List Ty
 |.one t=>t.leaves
 |.pair a b=>a.leaves++b.leaves
 |t=>[t]
def JN(H:Hp)(t:Ty)(a:AV):Option (AV×Hp):=
 match t,a with
 |.ref f s,.slf es id=>match aG H id,aG H (bB f) with
  |some ⟨false,.rows e t l⟩,some ⟨false,.fam e' s' ms⟩=>dq t s (fun h=>dq s' s (fun h'=>bq (Nat.beq es s.cells&&Nat.beq e e')
   (some (.p (.ref f s) (.inr (some (ms.length,0,l.length))),aS (aS H id none) (bB f) (some ⟨false,.fam e' s' (ms++[(1,Ty.toL (h.trans h'.symm) l)])⟩))) none) none) none
  |_,_=>none
 |_,a=>some (a,H)
def NU(H:Hp):List Ty->List AV->Option (List AV×Hp)
 |t::ts,a::l=>(JN H t a).ob fun x=>(NU x.2 ts l).map fun y=>(x.1::y.1,y.2)
 |_,l=>some (l,H)
def NV(H:Hp)(t:Ty)(a:AV):Option (AV×Hp):=
 match a with
 |.agg l=>(NU H t.leaves l).map fun x=>(.agg x.1,x.2)
 |a=>JN H t a
def SF(t e:TypeId)(u:Ty)(l:List u.den)(i j:Nat)(id:Nat)(v:AV)(H:Hp)(K:AV->Hp->Option β):Option β:=
 (ty P t).ob fun want=>(zY u j want).ob fun u'=>(NV H u' v).ob fun y=>(nO y.2 y.1).ob fun x=>aP (GR x.2 id)<|
  l[i]?.bind fun x0=>wV u x0 j want x.1 fun x'=>K .junk (aS x.2 id (some ⟨false,.rows e u (l.set i x')⟩))
def SG(t:TypeId)(f k i j es:Nat)(v:AV)(H:Hp)(K:AV->Hp->Option β):Option β:=
 (ty P t).ob fun want=>(nO H v).ob fun x=>match aG x.2 (bB f) with
  |some ⟨false,.fam e s ms⟩=>aP (nro f)<|ms[k]?.bind fun m=>aP (Nat.beq m.1 1&&Nat.beq es s.cells&&s.noRef)<|asA want x.1 fun y=>m.2[i]?.bind fun r=>upd s r j want y fun r'=>
   K .junk (aS x.2 (bB f) (some ⟨false,.fam e s (ms.set k (1,m.2.set i r'))⟩))
  |_=>none
def pQ(t:TypeId)(a v:AV)(H:Hp)(K:AV->Hp->Option β):Option β:=
 match a with
 |.own es id i j=>match aG H id with
  |some ⟨false,.vars c⟩=>(dR v).ob fun vs=>
   aP (Nat.beq vs.length (P.cellsOf t)&& !Nat.beq (P.cellsOf t) 0&&Nat.ble (i*es+j+vs.length) c.length)<|K .junk (aS H id (some ⟨false,.vars (setFrom c (i*es+j) vs)⟩))
  |some ⟨false,.rows e u l⟩=>bq (Nat.beq es u.cells) (bq u.noRef ((nO H v).ob fun x=>aP (GR x.2 id)<|uM P t e u l i j id x.1 x.2 K) (SF P t e u l i j id v H K)) none
  |_=>none
 |.rp f es k i j=>SG P t f k i j es v H K
 |_=>none
def gA(H:Hp)(id:Nat)(b:Blk)(K:Hp->Option β):Option β:=bq (aN H id||Nat.ble aA id) none (K (aS H id (some ⟨false,b⟩)))
def sY(t:TypeId)(id:Nat)(H:Hp)(K:AV->Hp->Option β):Option β:=
 (ty P t).ob fun u=>aP (mV P t u)<|gA H id (.rows t u [u.zero]) fun H'=>K (.own u.cells id 0 0) H'
def zZ(t:TypeId)(v:AV)(id:Nat)(H:Hp)(K:AV->Hp->Option β):Option β:=
 (ty P t).ob fun u=>(nO H v).ob fun x=>asA u x.1 fun y=>gA x.2 id (.rows t u [y]) fun H'=>K (.own u.cells id 0 0) H'
def pR(t:TypeId)(id:Nat)(H:Hp)(K:AV->Hp->Option β):Option β:=
 match P.underlying t with
 |some (.array n e)=>(ty P e).ob fun u=>aP (mV P t (.arr n u))<|
  gA H id (.rows t u (List.replicate n u.zero)) fun H'=>K (.own u.cells id 0 0) H'
 |_=>(zW P t).ob fun z=>gA H id (.vars z) fun H'=>K (.own 0 id 0 0) H'
def zA(t:TypeId)(v:AV)(id:Nat)(H:Hp)(K:AV->Hp->Option β):Option β:=
 match P.underlying t with
 |some (.array n e)=>(ty P e).ob fun u=>(nO H v).ob fun x=>asA (.arr n u) x.1 fun l=>aP (Nat.beq l.length n)<|
  gA x.2 id (.rows t u l) fun H'=>K (.own u.cells id 0 0) H'
 |_=>(dR v).ob fun c=>gA H id (.vars c) fun H'=>K (.own 0 id 0 0) H'
def lZ(s:TypeId)(f:Nat):Option (Nat×TypeId):=
 match P.underlying s with
 |some (.struct fs)=>fs[f]?.ob fun x=>bq (Nat.beq (P.cellsOf x.type) 0) none (some (x.offset,x.type))
 |_=>none
def gQ(s:TypeId)(a:AV)(f:Nat)(K:AV->Option β):Option β:=
 match lZ P s f,a with
 |some (o,_),.own es id i j=>K (.own es id i (j+o))
 |some (o,_),.pt u l i j=>K (.pt u l i (j+o))
 |some (o,_),.rp f es k i j=>K (.rp f es k i (j+o))
 |_,_=>none
def pS(s:TypeId)(a:AV)(f:Nat)(K:AV->Option β):Option β:=
 match lZ P s f,a with
 |some (o,t),.agg c=>bq (fG P t) (aP (Nat.ble (o+P.cellsOf t) c.length)<|K (.agg ((c.drop o).take (P.cellsOf t)))) (bq (eP P t) (c[o]?.ob K) none)
 |some (o,t),.p u x=>bq u.isAgg (rD P u t x o K) none
 |_,_=>none
def wB(H:Hp)(es id:Nat):Option Nat:=
 match aG H id with
 |some ⟨_,.vars c⟩=>bq (Nat.beq es 1) (some c.length) none
 |_=>none
def jZ(H:Hp)(es id:Nat)(K:(u:Ty)->List u.den->Option β):Option β:=
 match aG H id with
 |some ⟨_,.rows _ u l⟩=>bq (Nat.beq es u.cells) (K u l) none
 |_=>none
def vS{α:Type}(x:α⊕Option (Nat×(Nat×Nat))):Option (Nat×(Nat×Nat)):=
 match x with
 |.inr y=>y
 |_=>none
def eJ{s:Ty}(x:List s.den⊕Option (Nat×(Nat×Nat))):Nat:=
 match x with
 |.inl l=>l.length
 |.inr none=>0
 |.inr (some (_,_,n))=>n
def jA(t:TypeId)(a ix:AV)(H:Hp)(K:AV->Option β):Option β:=
 ix.any?.ob fun x=>
 match P.underlying t with
 |some (.array n e)=>aP (!Nat.beq (P.cellsOf e) 0)<|match a with
  |.own es id i j=>bq (Nat.beq es (P.cellsOf e)&&Nat.beq i 0&&Nat.beq j 0) ((aK x n).bind fun q=>K (.own es id q 0)) ((aK x n).bind fun q=>K (.own es id i (j+q*P.cellsOf e)))
  |.pt u l i j=>bq (Nat.beq u.cells (P.cellsOf e)&&Nat.beq i 0&&Nat.beq j 0) ((aK x n).bind fun q=>K (.pt u l q 0)) ((aK x n).bind fun q=>K (.pt u l i (j+q*P.cellsOf e)))
  |_=>none
 |some (.slice e)=>aP (!Nat.beq (P.cellsOf e) 0)<|match a with
  |.slf es id=>bq (Nat.beq es (P.cellsOf e)) (match wB H es id with
   |some n=>(aK x n).bind fun q=>K (.own es id q 0)
   |none=>jZ H es id fun _ l=>(aK x l.length).bind fun q=>K (.own es id q 0)) none
  |.sl es id off n=>bq (Nat.beq es (P.cellsOf e)) ((aK x n).bind fun q=>K (.own es id (off+q) 0)) none
  |.p (.sl u) l=>bq (Nat.beq u.cells (P.cellsOf e)) ((aK x (List.length (α:=u.den) l)).bind fun q=>K (.pt u l q 0)) none
  |.p (.ref f u) r=>bq (Nat.beq u.cells (P.cellsOf e)) ((vS r).bind fun k=>(aK x k.2.2).bind fun q=>K (.rp f u.cells k.1 (k.2.1+q) 0)) none
  |_=>none
 |_=>none
def sZ(t:TypeId)(a ix:AV)(K:AV->Option β):Option β:=
 ix.any?.ob fun x=>
 match P.underlying t with
 |some .string=>a.str?.ob fun l=>(aK x l.length).bind fun q=>l[q]?.bind fun c=>K (.i .u8 (c.toNat:Int))
 |some (.array n e)=>(ty P e).ob fun u=>asA (.arr n u) a fun(l:List u.den)=>(aK x n).bind fun q=>
  l[q]?.bind fun y=>K (.ofTy u y)
 |_=>none
def tC(a:Option AV)(d:Nat)(m:Nat)(K:Nat->Option β):Option β:=
 match a with
 |none=>K d
 |some a=>a.any?.ob fun x=>(bL x m).bind K
def EV{α:Type}(l:List α)(lo hi:Option AV)(K:List α->Option β):Option β:=
 match lo,hi with
 |none,none=>K l
 |none,some h=>h.any?.ob fun x=>(bL x l.length).bind fun h=>K (l.take h)
 |some b,none=>b.any?.ob fun x=>(bL x l.length).bind fun b=>K (l.drop b)
 |some b,some h=>h.any?.ob fun y=>(bL y l.length).bind fun h=>b.any?.ob fun x=>(bL x h).bind fun b=>K ((l.take h).drop b)
def kH{α}(x:List α⊕Option (Nat×Nat×Nat))(b n:Nat):List α⊕Option (Nat×Nat×Nat):=
 match x with
 |.inl l=>.inl ((l.take (b+n)).drop b)
 |.inr none=>.inr none
 |.inr (some (k,off,_))=>bq (Nat.beq n 0) (.inl []) (.inr (some (k,off+b,n)))
def pT(t:TypeId)(a:AV)(lo hi:Option AV)(H:Hp)(K:AV->Option β):Option β:=
 match P.underlying t with
 |some .string=>a.str?.ob fun l=>EV l lo hi fun l'=>K (.s l')
 |some (.slice e)=>match a with
  |.slf es id=>bq (Nat.beq es (P.cellsOf e)&& !Nat.beq es 0) (match lo,hi with
   |none,none=>K (.slf es id)
   |lo,hi=>jZ H es id fun _ l=>tC hi l.length l.length fun h=>tC lo 0 h fun b=>K (.sl es id b (h-b))) none
  |.sl es id off n=>bq (Nat.beq es (P.cellsOf e)&& !Nat.beq es 0) (tC hi n n fun h=>tC lo 0 h fun b=>K (.sl es id (off+b) (h-b))) none
  |.p (.sl u) l=>bq (Nat.beq u.cells (P.cellsOf e)&& !Nat.beq u.cells 0) (EV (α:=u.den) l lo hi fun l'=>K (.p (.sl u) l')) none
  |.p .opq (.slice none 0 0)=>aP (!Nat.beq (P.cellsOf e) 0)<|tC hi 0 0 fun h=>tC lo 0 h fun _=>K (.p .opq (.slice none 0 0))
  |.p (.ref f u) x=>bq (Nat.beq u.cells (P.cellsOf e)&& !Nat.beq u.cells 0) (tC hi (eJ (s:=u) x) (eJ (s:=u) x) fun h=>tC lo 0 h fun b=>K (.p (.ref f u) (kH (α:=u.den) x b (h-b)))) none
  |_=>none
 |some (.array n e)=>match a with
  |.own es id 0 0=>bq (Nat.beq es (P.cellsOf e)&& !Nat.beq es 0) (jZ H es id fun _ l=>aP (Nat.ble n bG&&Nat.beq n l.length)<|match lo,hi with
   |none,none=>K (.slf es id)
   |lo,hi=>tC hi n n fun h=>tC lo 0 h fun b=>K (.sl es id b (h-b))) none
  |.pt u l 0 0=>bq (Nat.beq u.cells (P.cellsOf e)&& !Nat.beq u.cells 0&&Nat.ble n bG&&Nat.beq n l.length) (EV l lo hi fun l'=>K (.p (.sl u) l')) none
  |_=>none
 |_=>none
def mA(t:TypeId)(a:AV)(lo:Option AV)(hi mx:AV)(K:AV->Option β):Option β:=
 match P.underlying t with
 |some (.slice e)=>match a with
  |.p (.sl u) l=>bq (Nat.beq u.cells (P.cellsOf e)&& !Nat.beq u.cells 0) (mx.any?.ob fun y=>(bL y (List.length (α:=u.den) l)).bind fun m=>hi.any?.ob fun x=>(bL x m).bind fun h=>match lo with
   |none=>K (.p (.sl u) (List.take (α:=u.den) h l))
   |some lo=>lo.any?.ob fun x=>(bL x h).bind fun b=>K (.p (.sl u) (List.drop (α:=u.den) b (List.take h l)))) none
  |_=>none
 |_=>none
def oD(H:Hp)(u:Ty)(a:AV)(K:List u.den->Option β):Option β:=
 match a with
 |.p t x=>dq t (.sl u) (fun h=>K (Ty.to h x))
  (dq t .str (fun h=>dq (.sl .byte) (.sl u) (fun h2=>K (Ty.to h2 (Ty.to h x:List UInt8))) none) ((CO t x (.sl u)).ob fun l=>K l))
 |.slf es id=>match aG H id with
  |some ⟨_,.rows _ t l⟩=>dq t u (fun h=>(bq (Nat.beq es t.cells) (K (Ty.toL h l)) none)) none
  |_=>none
 |.sl es id off n=>match aG H id with
  |some ⟨_,.rows _ t l⟩=>dq t u (fun h=>(bq (Nat.beq es t.cells&&Nat.ble (off+n) l.length) (K (((Ty.toL h l).drop off).take n)) none)) none
  |_=>none
 |_=>none
def AA(H:Hp)(a:AV)(K:Nat->Option β):Option β:=
 match a with
 |.sl _ _ _ n=>K n
 |.slf es id=>match wB H es id with
  |some n=>K n
  |none=>jZ H es id fun _ l=>K l.length
 |.p (.sl u) l=>K (List.length (α:=u.den) l)
 |.p .opq (.slice none 0 0)=>K 0
 |.p (.ref _ u) r=>K (eJ (s:=u) r)
 |_=>none
def JO(H:Hp)(a:AV)(K:Nat->Option β):Option β:=
 match a with
 |.p .opq (.map none)=>K 0
 |.mp id=>match aG H id with
  |some ⟨_,.map _ _ m⟩=>K m.1.length
  |_=>none
 |_=>none
def ID(t:TypeId)(H:Hp)(a:AV)(K:Nat->Option β):Option β:=
 match P.underlying t with
 |some .string=>a.str?.ob fun l=>K l.length
 |some (.slice _)=>AA H a K
 |some (.map _ _)=>JO H a K
 |some (.array n _)=>K n
 |_=>none
def mX(e:TypeId)(n:Nat):Bool:=Nat.ble (n*P.bytesOf e) bG&&Nat.ble n bG
def AB(e:TypeId)(n:Nat):Bool:=match P.info? e with|some i=>(match i.zero with|some z=>Nat.beq z.cells.size n|none=>false)|none=>false
def kI(t:TypeId)(s x:AV)(id:Nat)(H:Hp)(K:AV->Hp->Option β):Option β:=
 match P.underlying t with
 |some (.slice e)=>(ty P e).ob fun u=>
  oD H u x fun m=>
   match s with
   |.p .opq (.slice none 0 0)=>aP (AB P e u.cells&&mX P e m.length)<|gA H id (.rows e u m) fun H'=>K (.slf u.cells id) H'
   |.slf es old=>match aG H old with
    |some ⟨false,.rows e' t l⟩=>dq t u (fun h=>aP (AB P e u.cells&&Nat.beq e e'&&Nat.beq es u.cells&&mX P e (l.length+m.length))<|
     gA (aS H old none) id (.rows e u (Ty.toL h l++m)) fun H'=>K (.slf es id) H')
     (dq u t.unref (fun h=>aP (AB P e u.cells&&Nat.beq e e'&&Nat.beq es u.cells&&mX P e (l.length+m.length))<|
     gA (aS H old none) id (.rows e t (l++(Ty.toL h m).map (bY t))) fun H'=>K (.slf es id) H') none)
    |_=>none
   |.sl es old 0 n=>match aG H old with
    |some ⟨false,.rows e' t l⟩=>dq t u (fun h=>aP (AB P e u.cells&&Nat.beq e e'&&Nat.beq es u.cells&&Nat.ble n l.length&&mX P e (n+m.length))<|
     gA (aS H old none) id (.rows e u ((Ty.toL h l).take n++m)) fun H'=>K (.slf es id) H') none
    |_=>none
   |_=>none
 |_=>none
def aW{α:Type}(l:List α)(at_:Nat)(m:List α):List α:=l.take at_++m++l.drop (at_+m.length)
def rR{α}(ms:List (Nat×List α))(x:List α⊕Option (Nat×Nat×Nat))(m:List α):Option (List (Nat×List α)×Nat):=
 match x with
 |.inl l=>aP (Nat.beq l.length 0) (some (ms,0))
 |.inr none=>some (ms,0)
 |.inr (some (k,off,n))=>ms[k]?.bind fun p=>aP (Nat.beq p.1 1&&Nat.ble (off+n) p.2.length) (some (ms.set k (1,aW p.2 off (m.take n)),min m.length n))
def uN(t:TypeId)(d x:AV)(H:Hp)(K:AV->Hp->Option β):Option β:=
 match P.underlying t with
 |some (.slice e)=>(ty P e).ob fun u=>
  oD H u x fun m=>
   match d with
   |.slf es id=>match aG H id with
    |some ⟨false,.rows e' t l⟩=>dq t u (fun h=>aP (Nat.beq es u.cells)<|
     K (.i .i64 ((min m.length l.length:Nat):Int)) (aS H id (some ⟨false,.rows e' u (aW (Ty.toL h l) 0 (m.take l.length))⟩))) none
    |_=>none
   |.sl es id off n=>match aG H id with
    |some ⟨false,.rows e' t l⟩=>dq t u (fun h=>aP (Nat.beq es u.cells&&Nat.ble (off+n) l.length)<|
     K (.i .i64 ((min m.length n:Nat):Int)) (aS H id (some ⟨false,.rows e' u (aW (Ty.toL h l) off (m.take n))⟩))) none
    |_=>none
   |.p (.ref f s) x=>aP (nro f)<|match aG H (bB f) with
    |some ⟨false,.fam e' s' ms⟩=>dq s' s (fun h=>dq u s' (fun h2=>(rR ms (h▸(show List s.den⊕Option (Nat×Nat×Nat) from x)) (Ty.toL h2 m)).bind fun y=>
     K (.i .i64 (y.2:Int)) (aS H (bB f) (some ⟨false,.fam e' s' y.1⟩))) none) none
    |_=>none
   |_=>none
 |_=>none
def pU(t:TypeId)(d:AV)(H:Hp)(K:AV->Hp->Option β):Option β:=
 match P.underlying t with
 |some (.slice e)=>(ty P e).ob fun u=>aP (mV P e u)<|
  match d with
  |.p .opq (.slice none 0 0)=>K (.tup []) H
  |.slf es id=>match aG H id with
   |some ⟨false,.rows e' t l⟩=>dq t u (fun h=>aP (Nat.beq es u.cells)<|K (.tup []) (aS H id (some ⟨false,.rows e' u (aW (Ty.toL h l) 0 (List.replicate l.length u.zero))⟩))) none
   |_=>none
  |.sl es id off n=>match aG H id with
   |some ⟨false,.rows e' t l⟩=>dq t u (fun h=>aP (Nat.beq es u.cells&&Nat.ble (off+n) l.length)<|K (.tup []) (aS H id (some ⟨false,.rows e' u (aW (Ty.toL h l) off (List.replicate n u.zero))⟩))) none
   |_=>none
  |_=>none
 |_=>none
def iN(src dst:TypeId)(a:AV)(H:Hp)(K:AV->Option β):Option β:=
 match P.underlying src,P.underlying dst with
 |some (.int ks),some (.int k)=>(a.int? ks).ob fun n=>K (.i k (k.wrap n))
 |some .string,some .string=>a.str?.ob fun l=>K (.s l)
 |some (.slice e),some .string=>bq (isB P e) (oD H .byte a fun l=>K (.s l)) none
 |some (.slice _),some (.slice e)=>none
 |_,_=>none
def iO(src dst:TypeId)(a:AV)(id:Nat)(H:Hp)(K:AV->Hp->Option β):Option β:=
 match P.underlying src,P.underlying dst with
 |some .string,some (.slice e)=>bq (isB P e) (a.str?.ob fun l=>aP (Nat.ble l.length bG)<|gA H id (.rows e .byte l) fun H'=>K (.slf 1 id) H') none
 |some (.slice _),some (.slice e)=>match a with
  |.slf es old=>match aG H old with
   |some ⟨false,.rows _ .byte l⟩=>bq (Nat.beq src dst&&isB P e&&Nat.beq es 1) (aP (Nat.blt 0 (List.length (α:=UInt8) l))<|K (.slf es old) H) none
   |_=>none
  |_=>none
 |_,_=>none
def uP(t:TypeId)(l c:AV)(id:Nat)(H:Hp)(K:AV->Hp->Option β):Option β:=
 match P.underlying t with
 |some (.slice e)=>l.any?.ob fun n=>c.any?.ob fun m=>(bL m bG).bind fun m'=>(bL n m').bind fun n'=>
  (ty P e).ob fun u=>aP (mV P e u&&Nat.ble (m'*P.bytesOf e) bG)<|
   gA H id (.rows e u (List.replicate n' u.zero)) fun H'=>K (.slf u.cells id) H'
 |_=>none
def AD(t:TypeId):Bool:=match P.underlying t with|some (.func _ _ _)=>true|_=>false
def JP:List Nat->Ty->Ty
 |[f],.sl s=>.ref f s
 |_,v=>v
def kF(t:TypeId)(r:Option AV)(md:List Nat)(id:Nat)(H:Hp)(K:AV->Hp->Option β):Option β:=
 match P.underlying t with
 |some (.map kt et)=>(ty P kt).ob fun k=>aP (match r with|none=>true|some a=>a.any?.isSome)<|
  bq (AD P et) (gA H id (.fmap k []) fun H'=>K (.mp id) H') ((ty P et).ob fun v=>gA H id (.map k (JP md v) ([],0)) fun H'=>K (.mp id) H')
 |_=>none
def VL(c:Bool)(v:AV)(ok:Bool):AV:=bq c (.tup [v,.b ok]) v
def tD(kt:TypeId)(k:Ty):Bool:=decide (ty P kt=some k)&&eqT P bW kt k&&k.keyed
def wX(t:TypeId)(k v:Ty):Bool:=
 match P.underlying t with
 |some (.map kt et)=>tD P kt k&&decide (ty P et=some v.unref)&&mV P et v
 |_=>false
def AE(t:TypeId)(k:Ty):Bool:=
 match P.underlying t with
 |some (.map kt et)=>tD P kt k&&AD P et&&(match P.info? et with|some i=>(match i.zero with|some .nilFunc=>true|_=>false)|none=>false)
 |_=>false
def uQ{k:Ty}:List (k.den×AV)->k.den->(Option AV->Option β)->Option β
 |[],_,K=>K none
 |(a,b)::r,x,K=>bq (k.eqb x a) (K (some b)) (uQ r x K)
def wC(c:Bool)(v:Ty)(r:Option v.den)(K:AV->Option β):Option β:=K (VL c (.ofTy v (r.getD v.zero)) r.isSome)
def mB(t:TypeId)(m ix:AV)(c:Bool)(H:Hp)(K:AV->Option β):Option β:=
 match m with
 |.mp id=>match aG H id with
  |some ⟨_,.map k v M⟩=>aP (wX P t k v)<|asA k ix fun key=>wC c v (gX M key) K
  |some ⟨_,.fmap k l⟩=>aP (AE P t k)<|asA k ix fun key=>uQ l key fun r=>match r with
   |some y=>K (VL c y true)
   |none=>K (VL c (.p .opq .nilFunc) false)
  |_=>none
 |.p .opq (.map none)=>match P.underlying t with
  |some (.map kt et)=>(ty P kt).ob fun k=>(ty P et).ob fun v=>aP (wX P t k v)<|asA k ix fun _=>wC c v none K
  |_=>none
 |_=>none
def GT{k:Ty}:List (k.den×AV)->k.den->Bool
 |[],_=>true
 |(a,_)::r,x=> !k.eqb x a&&GT r x
def JQ(H:Hp)(id:Nat)(x:AV):Option (AV×Hp):=
 match aG H id with
 |some ⟨_,.map _ v _⟩=>bq v.noRef (nO H x) ((NV H v x).ob fun y=>nO y.2 y.1)
 |_=>nO H x
def mC(t:TypeId)(m key x:AV)(H:Hp)(K:AV->Hp->Option β):Option β:=
 match m with
 |.mp id=>match aG H id with
  |some ⟨false,.fmap k l⟩=>aP (AE P t k)<|asA k key fun a=>aP (GT l a)<|(dR x).ob fun c=>aP (Nat.beq c.length 1)<|
   K .junk (aS H id (some ⟨false,.fmap k (l++[(a,x)])⟩))
  |_=>(JQ H id x).ob fun y=>match aG y.2 id with
   |some ⟨false,.map k v M⟩=>aP (wX P t k v)<|asA k key fun a=>asA v y.1 fun b=>K .junk (aS y.2 id (some ⟨false,.map k v (iM M a b)⟩))
   |_=>none
 |_=>none
def tE:(Nat->Option (Nat×Nat))->List AV->List (Nat×AV)->Option (List AV)
 |_,cells,[]=>some cells
 |pl,cells,(i,v)::rest=>(pl i).ob fun x=>(dR v).ob fun c=>
    bq (Nat.beq c.length x.2&&Nat.ble (x.1+c.length) cells.length) (tE pl (setFrom cells x.1 c) rest) none
def tF(t:TypeId)(parts:List (Nat×AV))(K:AV->Option β):Option β:=
 (zW P t).ob fun z=>
 match P.underlying t with
 |some (.struct fs)=>(fs.toList.mapM fun f=>(P.info? f.type).map fun i=>(f.offset,i.size)).ob fun places=>(tE (places.toArray[·]?) z parts).ob fun c=>K (.agg c)
 |some (.array _ e)=>(P.info? e).ob fun ie=>(tE (fun i=>some (i*ie.size,ie.size)) z parts).ob fun c=>K (.agg c)
 |_=>none
def zB(H:Hp)(rb:Option Nat)(u:Ty):Ty:=
 match rb with
 |some b=>match aG H b with
  |some ⟨_,.rows _ t _⟩=>if t.unref=u then t else u
  |_=>u
 |none=>u
def fQ(t:TypeId)(len:Nat)(parts:List (Nat×AV))(vs:Bool)(rb:Option Nat)(id:Nat)(H:Hp)(K:AV->Hp->Option β):Option β:=
 match P.underlying t with
 |some (.slice e)=>(zW P e).ob fun z=>(ty P e).ob fun u=>
  aP (Nat.beq z.length u.cells&&Nat.ble (len*z.length) 16777216)<|
  (tE (fun i=>some (i*P.cellsOf e,P.cellsOf e)) (List.replicate len z).flatten parts).ob fun c=>
  bq vs (aP (Nat.beq u.cells 1)<|gA H id (.vars c) fun H'=>K (.slf 1 id) H')<|
  rP H c fun cs H1=>ES (asm (zB H rb u)) u.cells len cs fun l=>gA H1 id (.rows e (zB H rb u) l) fun H'=>K (.slf u.cells id) H'
 |_=>none
def wY(op:BinOp)(k:IntKind)(a b:Int):Int:=
 match op with
 |.and=>k.wrap ((BitVec.ofInt k.bits a&&&BitVec.ofInt k.bits b).toNat:Int)
 |.or=>k.wrap ((BitVec.ofInt k.bits a|||BitVec.ofInt k.bits b).toNat:Int)
 |.xor=>k.wrap ((BitVec.ofInt k.bits a^^^BitVec.ofInt k.bits b).toNat:Int)
 |_=>k.wrap ((BitVec.ofInt k.bits a&&& ~~~BitVec.ofInt k.bits b).toNat:Int)
def JR(op:BinOp)(k k':IntKind):Bool:=match op with|.shl|.shr=>true|_=>k==k'
def zC(op:BinOp)(k:IntKind)(a b:Int)(K:AV->Option β):Option β:=
 match op with
 |.add=>K (.i k (k.wrap (a+b)))
 |.sub=>K (.i k (k.wrap (a-b)))
 |.mul=>K (.i k (k.wrap (a*b)))
 |.quo=>aP (!decide (b=0))<|K (.i k (k.wrap (a.tdiv b)))
 |.rem=>aP (!decide (b=0))<|K (.i k (a.tmod b))
 |.and|.or|.xor|.andNot=>K (.i k (wY op k a b))
 |.shl=>aP (decide (0<=b))<|K (.i k (k.wrap (a*2^(min b.toNat k.bits))))
 |.shr=>aP (decide (0<=b))<|K (.i k (a.fdiv (2^(min b.toNat k.bits))))
 |.eql=>K (.b (a==b))
 |.neq=>K (.b (!(a==b)))
 |.lss=>K (.b (decide (a<b)))
 |.leq=>K (.b (decide (a<=b)))
 |.gtr=>K (.b (decide (a>b)))
 |.geq=>K (.b (decide (a>=b)))
def zD(op:BinOp)(a b:List UInt8)(K:AV->Option β):Option β:=
 match op with
 |.add=>aP (Nat.ble (a.length+b.length) bG)<|K (.s (a++b))
 |.eql=>K (.b (a==b))
 |.neq=>K (.b (!(a==b)))
 |.lss=>K (.b (Op.bytesLess a b))
 |.leq=>K (.b (Op.bytesLess a b||a==b))
 |.gtr=>K (.b (!(Op.bytesLess a b||a==b)))
 |.geq=>K (.b (!Op.bytesLess a b))
 |_=>none
def qP(n:Nat)(K:Bool->Option β):Option β:=
 @ite _ (n=0->K true=K false) (Classical.propDecidable _) (K false) none
def SU(n:Nat)(K:Int->Option β):Option β:=
 @dite _ (∃r,∀c,n<=c->c<=9223372036854775807->K (c:Int)=some r) (Classical.propDecidable _) (fun h=>some h.choose) (fun _=>none)
def IE{α:Type}:List α->Bool
 |[]=>true
 |_::_=>false
def EW(a b:AV):Option Bool:=
 match a,b with
 |.p .opq (.pointer none),.p .opq (.pointer none)=>some true
 |.own _ _ _ _,.p .opq (.pointer none)=>some false
 |.p .opq (.pointer none),.own _ _ _ _=>some false
 |.pt _ _ _ _,.p .opq (.pointer none)=>some false
 |.p .opq (.pointer none),.pt _ _ _ _=>some false
 |.p (.ptr _) l,.p .opq (.pointer none)=>some (IE l)
 |_,_=>none
def EY(a b:AV):Option Bool:=
 match a,b with
 |.mp _,.p .opq (.map none)=>some false
 |.p .opq (.map none),.mp _=>some false
 |.p .opq (.map none),.p .opq (.map none)=>some true
 |_,_=>none
def EZ(a b:AV):Option Bool:=
 match a,b with
 |.p .opq .nilFunc,.p .opq .nilFunc=>some true
 |.fn _ _ _,.p .opq .nilFunc=>some false
 |.p .opq .nilFunc,.fn _ _ _=>some false
 |_,_=>none
def FA(t:TypeId)(a b:AV)(H:Hp)(K:Bool->Option β):Option β:=
 match P.underlying t with
 |some (.pointer _)=>(EW a b).ob K
 |some (.map _ _)=>(EY a b).ob K
 |some (.func _ _ _)=>(EZ a b).ob K
 |some (.slice _)=>match a,b with
  |.p .opq (.slice none 0 0),.p .opq (.slice none 0 0)=>K true
  |a,.p .opq (.slice none 0 0)=>AA H a fun n=>qP n K
  |.p .opq (.slice none 0 0),b=>AA H b fun n=>qP n K
  |_,_=>none
 |_=>(ty P t).ob fun u=>aP (eqT P bW t u&& !P.eqGuardType P.depth t)<|asA u a fun x=>asA u b fun y=>K (u.eqb x y)
def zF(op:BinOp)(t u:TypeId)(a b:AV)(H:Hp)(K:AV->Option β):Option β:=
 match P.underlying t with
 |some (.int k)=>match P.underlying u with
  |some (.int k')=>(a.int? k).ob fun x=>(b.int? k').ob fun y=>
   aP (JR op k k')<|zC op k x y K
  |_=>none
 |some .string=>a.str?.ob fun x=>b.str?.ob fun y=>zD op x y K
 |_=>match op with
  |.eql=>FA P t a b H fun r=>K (.b r)
  |.neq=>FA P t a b H fun r=>K (.b (!r))
  |_=>none
def IF(op:UnOp)(t:TypeId)(a:AV)(K:AV->Option β):Option β:=
 match op,P.underlying t with
 |.not,some .bool=>a.bool?.ob fun x=>K (.b (!x))
 |.neg,some (.int k)=>(a.int? k).ob fun x=>K (.i k (k.wrap (0-x)))
 |.xor,some (.int k)=>(a.int? k).ob fun x=>K (.i k (wY .xor k (if k.signed then-1 else k.max) x))
 |_,_=>none
def NW:List Int->Int->Int
 |[],m=>m
 |y::r,m=>NW r (if y<m then y else m)
def NX:List Int->Int->Int
 |[],m=>m
 |y::r,m=>NX r (if y>m then y else m)
def VC(k:IntKind):List AV->Option (List Int)
 |[]=>some []
 |a::r=>(a.int? k).ob fun n=>(VC k r).map (n::·)
def wZ(t:TypeId)(c a b:AV)(K:AV->Option β):Option β:=
 c.bool?.ob fun q=>match P.underlying t with
  |some .bool=>match a.bool?,b.bool? with
   |some x,some y=>K (.b (bq q x y))
   |some x,none=>aP q<|K (.b x)
   |none,some y=>aP (!q)<|K (.b y)
   |none,none=>none
  |_=>bq q (K a) (K b)
end
end
end
noncomputable section
inductive Gh where
 |freeze (slot:Nat)
 |ownNil (slot:Nat) (e:TypeId) (id:Nat)
 |ownCell (blk off:Nat) (e:TypeId) (id:Nat)
 |renum (old new:Nat)
 |pure (slot:Nat)
 |frzB (blk:Nat)
 |pureCell (blk off:Nat)
 |newFam (f:Nat) (e:TypeId) (s:Ty)
 |toRef (blk:Nat) (t:Ty)
 |mem (slot f:Nat)
 |opn (slot m:Nat)
inductive Cn where
 |slot (k:Nat) (kd:Kd)
 |cell (b j:Nat) (kd:Kd)
 |key (id:Nat)
structure MR where
 i:Nat
 J:Nat
 i1:Nat
 o:Operand
 J':Nat
 C:Nat
 i2:Nat
 ops:List (Oper×Ann)
 ops1:List Oper
 ops2:List (Oper×Ann)
 kt:Ty
 vt:Ty
 mid:Nat
 sh:dM
 ret:Bool
 outs:List (Nat×dM)
inductive AC where
 |skip
 |ret
 |exit (id:Nat)
 |seq (a b:AC)
 |cond (c:Operand) (a b:AC)
 |block (id:Nat) (a:AC)
 |loop (sh:dM) (ret:Bool) (outs:List (Nat×dM)) (a:AC)
 |region (id:Nat) (ops:List (Oper×Ann)) (draw:Bool)
 |join (sh:dM) (ret:Bool) (outs:List (Nat×dM)) (a:AC)
 |pre (g:Gh) (a:AC)
 |sel (q:Cn) (a b:AC)
 |post (g:Gh) (a:AC)
 |round (a r:AC)
 |mrange (m:MR) (a:AC)
 |bad (c:Code)
inductive Ov where
 |leaf
 |one (a:Ov)
 |two (a b:Ov)
 |loop (sh:dM) (ret:Bool) (outs:List (Nat×dM)) (a:Ov)
 |reg (l:List (Nat×Ann))
 |join (sh:dM) (ret:Bool) (outs:List (Nat×dM)) (a:Ov)
 |pre (g:Gh) (a:Ov)
 |sel (q:Cn) (a b:Ov)
 |post (g:Gh) (a:Ov)
 |round (a r:Ov)
 |mr (l l2:List (Nat×Ann)) (kt vt:Ty) (mid:Nat) (sh:dM) (ret:Bool) (outs:List (Nat×dM)) (a:Ov)
def SH:List (Nat×Ann)->Nat->Ann
 |[],_=>{}
 |(i,a)::r,k=>bq (Nat.beq i k) a (SH r k)
def rS(l:List (Nat×Ann)):Nat->List Oper->List (Oper×Ann)
 |_,[]=>[]
 |k,o::r=>(o,SH l k)::rS l (k+1) r
def plain:Code->AC
 |.ret=>.ret
 |.exit i=>.exit i
 |.seq a b=>.seq (plain a) (plain b)
 |.cond c a b=>.cond c (plain a) (plain b)
 |.block i a=>.block i (plain a)
 |.region i ops d=>.region i (rS [] 0 ops.toList) d
 |.skip=>.skip
 |c=>.bad c
structure MP where
 i:Nat
 ops:Array Oper
 J:Nat
 i1:Nat
 ops1:Array Oper
 o:Operand
 J':Nat
 C:Nat
 i2:Nat
 ops2:Array Oper
 y:Code
def JS:Code->Option MP
 |.seq (.region i ops false) (.block J (.loop (.seq (.region i1 ops1 false) (.seq (.cond o .skip (.exit J')) (.block C (.seq (.region i2 ops2 false) y))))))=>some ⟨i,ops,J,i1,ops1,o,J',C,i2,ops2,y⟩
 |_=>none
def build:Ov->Code->AC
 |.one x,.block i a=>.block i (build x a)
 |.two x y,.seq a b=>.seq (build x a) (build y b)
 |.two x y,.cond c a b=>.cond c (build x a) (build y b)
 |.loop sh rt outs x,.loop a=>.loop sh rt outs (build x a)
 |.reg l,.region i ops d=>.region i (rS l 0 ops.toList) d
 |.join sh rt outs x,c=>.join sh rt outs (build x c)
 |.pre g x,c=>.pre g (build x c)
 |.sel q x y,c=>.sel q (build x c) (build y c)
 |.post g x,c=>.post g (build x c)
 |.round x y,.loop a=>.round (build x a) (build y (.loop a))
 |.mr l l2 kt vt mid sh rt outs x,c=>match JS c with
  |some p=>.mrange ⟨p.i,p.J,p.i1,p.o,p.J',p.C,p.i2,rS l 0 p.ops.toList,p.ops1.toList,rS l2 0 p.ops2.toList,kt,vt,mid,sh,rt,outs⟩ (build x p.y)
  |none=>plain c
 |_,c=>plain c
def AC.wr:AC->List Nat
 |.seq a b=>a.wr++b.wr
 |.cond _ a b=>a.wr++b.wr
 |.block _ a=>a.wr
 |.loop _ _ _ a=>a.wr
 |.region _ ops _=>ops.filterMap (·.1.dst)
 |.join _ _ _ a=>a.wr
 |.pre (.ownNil k _ _) a=>k::a.wr
 |.pre (.pure k) a=>k::a.wr
 |.pre (.mem k _) a=>k::a.wr
 |.pre (.opn k _) a=>k::a.wr
 |.pre _ a=>a.wr
 |.sel _ a b=>a.wr++b.wr
 |.post (.ownNil k _ _) a=>k::a.wr
 |.post (.pure k) a=>k::a.wr
 |.post (.mem k _) a=>k::a.wr
 |.post (.opn k _) a=>k::a.wr
 |.post _ a=>a.wr
 |.round a r=>a.wr++r.wr
 |.mrange m a=>m.ops.filterMap (·.1.dst)++(m.ops1.filterMap (·.dst)++(m.ops2.filterMap (·.1.dst)++a.wr))
 |_=>[]
structure MQ where
 t:TypeId
 x:Operand
 it:Nat
 n:Nat
 b:Nat
 e:Nat
def zG:List Oper->Option (Nat×TypeId×Operand)
 |[⟨some it,.range t x,_,_,_,none⟩]=>some (it,t,x)
 |[]=>none
 |_::r=>zG r
def VM:List Oper->Option (Nat×Nat×Nat×Nat)
 |[⟨some n,.next (.tmp it) false,_,_,_,none⟩,⟨some b,.extract (.tmp n') 0,_,_,_,none⟩]=>some (n,it,b,n')
 |_=>none
def JU:List Oper->Option (Nat×Nat)
 |⟨some e,.entry (.tmp it),_,_,_,none⟩::_=>some (e,it)
 |_=>none
def JV:Operand->Option Nat
 |.tmp b=>some b
 |_=>none
def MR.wr(m:MR)(a:AC):List Nat:=m.ops1.filterMap (·.dst)++(m.ops2.filterMap (·.1.dst)++a.wr)
def TL(m:MR)(a:AC)(nt:Nat):Option MQ:=
 (zG (m.ops.map (·.1))).ob fun q=>(VM m.ops1).ob fun q1=>(JU (m.ops2.map (·.1))).ob fun q2=>(JV m.o).ob fun b=>
 bq (Nat.beq q1.2.1 q.1&&Nat.beq q2.2 q.1&&Nat.beq q1.2.2.2 q1.1&&Nat.beq b q1.2.2.1&&Nat.beq m.J m.J'&&(Nat.blt q.1 nt&&Nat.blt q1.1 nt&&Nat.blt b nt&&Nat.blt q2.1 nt)&&Nat.ble nt 1048576&& !bA q.1 (m.wr a)&& !Nat.beq q1.1 b)
  (some ⟨q.2.1,q.2.2,q.1,q1.1,b,q2.1⟩) none
def xA{κ:Type}(seen:List Nat)(l:List (κ×Nat)):List (κ×Nat):=l.filter fun e=> !bA e.2 seen
def MOk{τ κ ο:Type}(hd:τ->Option (List (κ×Nat)))(f:τ->κ×Nat->Option (τ⊕ο))(Q:τ⊕ο->Prop):Nat->List Nat->τ->Prop
 |0,_,_=>False
 |n+1,seen,t=>∃l,hd t=some l/\(xA seen l=[]->Q (.inl t))/\∀e∈xA seen l,(∃t',f t e=some (.inl t')/\MOk hd f Q n (e.2::seen) t')\/(∃o,f t e=some (.inr o)/\Q (.inr o))
def CU{τ κ ο γ:Type}(hd:τ->Option (List (κ×Nat)))(f:τ->κ×Nat->Option (τ⊕ο))(t0:τ)(F:τ⊕ο->Option γ):Option γ:=by
 classical
 exact if h:∃r n,MOk hd f (fun o=>F o=some r) n [] t0 then some (Classical.choose h) else none
theorem qhZ{τ κ ο γ:Type}{hd:τ->Option (List (κ×Nat))}{f:τ->κ×Nat->Option (τ⊕ο)}{t0:τ}{F:τ⊕ο->Option γ}{r:γ}(h:CU hd f t0 F=some r):∃n,MOk hd f (fun o=>F o=some r) n [] t0:=by
 unfold CU at h;split at h
 ·rename_i hx;simp only[ZAO] at h;have:=Classical.choose_spec hx;rw[h] at this;exact this
 ·cases h
def AV.mp1? :AV->Option Nat
 |.mp id=>some id
 |_=>none
def zH(k v:Ty)(H:Hp)(id:Nat):Option (nZ k v):=(aG H id).ob fun e=>e.b.map? k v
def FB(ps:List (Nat×Nat))(i k:Nat):Bool:=match eZ ps i with
 |some j=>Nat.beq j k
 |none=>false
def AC.rd:AC->Bool
 |.round _ _|.bad _=>true
 |_=>false
structure FnT where
 f:FuncId
 i:Shp
 os:List Shp
 spec:i.D->Option (cP os)
abbrev Tbl:=List FnT
section
variable (P : Program) (T : Tbl)
section
variable {β : Type}
def pV(fms:List Fm):List AV->(List AV->Option β)->Option β
 |[],K=>K []
 |a::r,K=>rO fms a fun x=>pV fms r fun l=>K (x::l)
def zI:List AV->(List AV->Option β)->Option β
 |[],K=>K []
 |a::r,K=>EU a fun x=>zI r fun l=>K (x::l)
def xB(a:AV)(K:AV->Option β):Option β:=
 match a with
 |.agg l=>zI l fun l'=>K (.agg l')
 |a=>EU a K
def AF:List AV->Bool
 |[]=>false
 |a::r=>a.anyRef||AF r
def mY(H:Hp)(a:AV)(K:AV->Hp->Option β):Option β:=
 match a with
 |.agg l=>bq (AF l) (pV (yZ (uL H)) l fun l'=>K (.agg l') (uL H)) (K (.agg l) H)
 |a=>bq a.anyRef (rO (yZ (uL H)) a fun x=>K x (uL H)) (K a H)
def xC(H:Hp)(a:AV)(K:AV->Hp->Option β):Option β:=JM H a fun x H'=>mY H' x K
def vH(H:Hp)(a:AV):Option (AV×Hp):=(nO H a).ob fun x=>mY x.2 x.1 fun y H'=>some (y,H')
def oE{α}(ms:List (Nat×List α))(x:List α⊕Option (Nat×(Nat×Nat))):Option (List α×List (Nat×List α)):=
 match x with
 |.inl _=>none
 |.inr none=>some ([],ms)
 |.inr (some (k,off,n))=>ms[k]?.bind fun m=>aP (Nat.beq m.1 1&&Nat.beq off 0&&Nat.ble n m.2.length) (some (m.2.take n,ms.set k (0,m.2)))
def TM{α}(ms:List (Nat×List α))(x:List α⊕Option (Nat×(Nat×Nat))):Option (List α×List (Nat×List α)):=
 match x with
 |.inr (some (k,off,n))=>ms[k]?.bind fun m=>aP (Nat.beq m.1 1&&Nat.beq off 0&&Nat.ble n m.2.length) (some (m.2.take n,ms.map fun m=>(0,m.2)))
 |_=>none
def vI{α}(f:Nat)(ms:List (Nat×List α))(x:List α⊕Option (Nat×(Nat×Nat))):Option (List α×List (Nat×List α)):=bq (nro f) (oE ms x) (TM ms x)
def FC(H:Hp)(m:Nat)(a:AV):Option (AV×Hp):=
 match m with
 |0=>some (a,H)
 |1=>vH H a
 |2=>(vH H a).map fun x=>(x.1,H)
 |3=>xB a fun x=>some (x,H)
 |m=>match a with
  |.p (.ref f s) x=>match aG H (bB f) with
   |some ⟨false,.fam e s' ms⟩=>dq s' s (fun h=>aP (Nat.beq e ((m-10)%5000)&& !aN H (m+100000)&&Nat.blt (m+100000) aA)<|(vI f ms (h▸(show List s.den⊕Option (Nat×(Nat×Nat)) from x))).bind fun y=>
    some (.slf s'.cells (m+100000),aS (aS H (bB f) (some ⟨false,.fam e s' y.2⟩)) (m+100000) (some ⟨false,.rows e s' y.1⟩))) none
   |_=>none
  |.p .opq (.slice none 0 0)=>(ty P ((m-10)%5000)).ob fun u=>bq (aN H (m+100000)||Nat.ble aA (m+100000)) none (some (.slf u.cells (m+100000),aS H (m+100000) (some ⟨false,.rows ((m-10)%5000) u []⟩)))
  |.sl es old 0 n=>match aG H old with
   |some ⟨false,.rows e t l⟩=>bq (Nat.beq es t.cells&& !aN H (m+100000)&&Nat.blt (m+100000) aA&&Nat.ble n l.length) (some (.slf es (m+100000),aS (aS H old none) (m+100000) (some ⟨false,.rows e t (l.take n)⟩))) none
   |_=>some (.sl es old 0 n,H)
  |a=>some (a,H)
def zJ:Hp->List Nat->List AV->Option (List AV×Hp)
 |H,_,[]=>some ([],H)
 |H,ms,a::r=>(FC P H (ms.headD 0) a).ob fun x=>(zJ x.2 ms.tail r).map fun y=>(x.1::y.1,y.2)
def GU(H:Hp)(m:Nat)(a:AV)(K:AV->Hp->Option β):Option β:=
 match m with
 |0=>K a H
 |1=>xC H a K
 |2=>xC H a fun x _=>K x H
 |3=>xB a fun x=>K x H
 |m=>match a with
  |.p (.ref f s) x=>match aG H (bB f) with
   |some ⟨false,.fam e s' ms⟩=>dq s' s (fun h=>aP (Nat.beq e ((m-10)%5000)&& !aN H (m+100000)&&Nat.blt (m+100000) aA)<|(vI f ms (h▸(show List s.den⊕Option (Nat×(Nat×Nat)) from x))).bind fun y=>
    K (.slf s'.cells (m+100000)) (aS (aS H (bB f) (some ⟨false,.fam e s' y.2⟩)) (m+100000) (some ⟨false,.rows e s' y.1⟩))) none
   |_=>none
  |.p .opq (.slice none 0 0)=>(ty P ((m-10)%5000)).ob fun u=>bq (aN H (m+100000)||Nat.ble aA (m+100000)) none (K (.slf u.cells (m+100000)) (aS H (m+100000) (some ⟨false,.rows ((m-10)%5000) u []⟩)))
  |.sl es old 0 n=>match aG H old with
   |some ⟨false,.rows e t l⟩=>bq (Nat.beq es t.cells&& !aN H (m+100000)&&Nat.blt (m+100000) aA&&Nat.ble n l.length) (K (.slf es (m+100000)) (aS (aS H old none) (m+100000) (some ⟨false,.rows e t (l.take n)⟩))) none
   |_=>K (.sl es old 0 n) H
  |a=>K a H
theorem vgZ{α γ}(c)(a)(b)(K:α->γ->Option β):bq c (K a b) none=(bq c (some (a,b)) none).ob fun x=>K x.1 x.2:=by cases c<;>rfl
theorem vkZ{α γ}(c)(a)(b)(K:α->γ->Option β):bq c none (K a b)=(bq c none (some (a,b))).ob fun x=>K x.1 x.2:=by cases c<;>rfl
theorem lKZ{α γ:Type}(x:Option α)(f)(K:γ->Option β):(x.bind f).ob K=x.bind fun y=>(f y).ob K:=by cases x<;>rfl
theorem whZ{α γ}(x:Option α)(f)(K:γ->Option β):(x.ob f).ob K=x.ob fun y=>(f y).ob K:=by cases x<;>rfl
theorem qeZ{γ}(c)(x y:Option γ)(K:γ->Option β):(bq c x y).ob K=bq c (x.ob K) (y.ob K):=by cases c<;>rfl
theorem p0Z{γ}(c)(x)(K:γ->Option β):(aP c x).ob K=aP c (x.ob K):=by cases c<;>rfl
theorem vuZ{γ}{t u}(f)(K:γ->Option β):(dq t u f none).ob K=dq t u (fun h=>(f h).ob K) none:=by
 unfold dq;split<;>rfl
theorem k6Z{γ}(fms)(a)(f)(K:γ->Option β):(rO fms a f).ob K=rO fms a fun x=>(f x).ob K:=by
 unfold rO
 grind[qeZ,lKZ,p0Z]
theorem hIZ{γ}(fms)(K:γ->Option β):∀(l) (f),(pV fms l f).ob K=pV fms l fun x=>(f x).ob K
 |[],_=>rfl
 |a::r,f=>by
  unfold pV;rw[k6Z];congr 1;funext x;exact hIZ fms K r _
theorem pyZ{γ}(a)(f)(K:γ->Option β):(EU a f).ob K=EU a fun x=>(f x).ob K:=by
 unfold EU
 grind[qeZ,lKZ]
theorem noZ{γ}(K:γ->Option β):∀(l) (f),(zI l f).ob K=zI l fun x=>(f x).ob K
 |[],_=>rfl
 |a::r,f=>by
  unfold zI;rw[pyZ];congr 1;funext x;exact noZ K r _
theorem smZ{γ}(a)(f)(K:γ->Option β):(xB a f).ob K=xB a fun x=>(f x).ob K:=by
 unfold xB
 grind[noZ,pyZ]
theorem oLZ{γ}(H)(a)(f)(K:γ->Option β):(mY H a f).ob K=mY H a fun x H'=>(f x H').ob K:=by
 unfold mY
 grind[qeZ,hIZ,k6Z]
theorem ghZ(H)(a)(K:AV->Hp->Option β):xC H a K=(vH H a).ob fun x=>K x.1 x.2:=by
 unfold xC vH;rw[rbZ,whZ];congr 1;funext x;rw[oLZ]
 rfl
theorem mxZ(H)(m)(a)(K:AV->Hp->Option β):GU P H m a K=(FC P H m a).ob fun x=>K x.1 x.2:=by
 unfold GU FC;split
 ·rfl
 ·grind[ghZ]
 ·rw[ghZ];cases vH H a<;>rfl
 ·rw[smZ];rfl
 ·split
  ·rename_i f s x;rcases aG H (bB f) with _|⟨fz,b⟩
   ·rfl
   ·cases fz
    ·cases b
     case fam e s' ms=>
      simp;rw[vuZ];congr 1;funext h;rw[p0Z,lKZ]
      rfl
     all_goals rfl
    ·rfl
  ·generalize ty P _=q;cases q with
   |none=>rfl
   |some u=>exact vkZ _ _ _ _
  ·rename_i es old n;rcases aG H old with _|⟨fz,b⟩
   ·rfl
   ·cases fz<;>cases b<;>first|rfl|exact vgZ _ _ _ _
  ·rfl
def uR:Hp->List Nat->List AV->(List AV->Hp->Option β)->Option β
 |H,_,[],K=>K [] H
 |H,ms,a::r,K=>GU P H (ms.headD 0) a fun x H'=>uR H' ms.tail r fun l H''=>K (x::l) H''
theorem doZ:∀(l) (ms) (H) (K:List AV->Hp->Option β),uR P H ms l K=(zJ P H ms l).ob fun x=>K x.1 x.2
 |[],_,_,_=>rfl
 |a::r,ms,H,K=>by
  unfold uR zJ;rw[mxZ];cases FC P H (ms.headD 0) a with
  |none=>rfl
  |some x=>
   show uR P x.2 ms.tail r _=_;rw[doZ r];show _=((zJ P x.2 ms.tail r).map _).ob _;cases zJ P x.2 ms.tail r<;>rfl
def fH(H:Hp):Hp->Hp
 |[]=>H
 |(i,e)::r=>aS (fH H r) i e
def fE:Hp->List Nat->Hp
 |H,[]=>H
 |H,i::r=>fE (aS H i none) r
def tG(H:Hp):List Nat->Bool
 |[]=>true
 |i::r=> !aN H i&&tG H r
def mD:List AV->AV
 |[a]=>a
 |l=>.tup l
def Ty.scal:Ty->Bool
 |.int _|.byte|.bool|.str|.nat=>true
 |.one t=>t.scal
 |.pair a b=>a.scal&&b.scal
 |.arr _ t=>t.scal
 |_=>false
def bU(fs:List Nat):List Ty->Bool
 |[]=>true
 |t::r=>t.famIn fs&&bU fs r
def gL:List Ty->Bool
 |[]=>true
 |t::r=>t.scal&&gL r
def uS(e:FnT)(args:List AV)(an:Ann)(H:Hp)(K:AV->Hp->Option β):Option β:=
 uR P H an.md args fun x1 xH=>
 aP (tG xH an.ids&&jF an.ids&&eqN (aJ e.i.hs) (bM 0 an.sh)&&(!bA 2 an.md||(e.os.all (fun o=>gL o.tys)&&Nat.beq an.sh.length 0&&Nat.beq an.ids.length 0))&&(bU (gP (aJ e.i.hs)) e.i.tys&&(e.os.all fun o=>bU (gP (aJ o.hs)) o.tys))&&(sW an.ids&&Nat.ble (an.sh.length+an.ids.length) aA))<|
 e.i.rco x1 xH (kG an.sh (bM 0 an.sh)) fun t=>
 (e.spec t).bind fun r=>cP.on e.os r fun o x2=>
  let all:=an.sh++an.ids
  let back:=kG (bM 0 all) all
  o.embC x2 fun vs H2=>
  aP (jF all&&jF (lX H2)&&lV (lX H2) (lB back))<|
  K (AV.ren (eZ back) (mD vs)) (fH (fE xH an.sh) (gY H2 (eZ back) back))
def AV.fnv? :AV->Option (FuncId×List AV×List AV)
 |.fn f a c=>some (f,a,c)
 |.p .opq (.func (.func f) a c)=>bq (Nat.beq a.size 0&&Nat.beq c.size 0) (some (f,[],[])) none
 |_=>none
def GV(f:FuncId):Tbl->Option FnT
 |[]=>none
 |e::r=>bq (Nat.beq e.f f) (some e) (GV f r)
def JW(T:Tbl)(n:Nat)(f:FuncId):Option FnT:=
 match T[n]? with
 |some e=>bq (Nat.beq e.f f) (some e) (GV f T)
 |none=>none
def isR(o:Oper):Bool:=
 match o.op with
 |.move _|.assign _|.pick _ _ _|.build _ _|.load _ _|.nilCheck _|.binOp _ _ _ _ _|.unOp _ _ _|.makeFunc _ _ _|.slice _ _ _ _ _
 |.fieldAddr _ _ _|.field _ _ _|.indexAddr _ _ _|.index _ _ _|.extract _ _|.lookup _ _ _ _=>true
 |.convert _ d _=>match P.underlying d with
  |some (.slice _)=>false
  |_=>true
 |.call c=>match c.callee with
  |.builtin .len|.builtin .min|.builtin .max|.builtin .cap=>true
  |_=>false
 |_=>false
def evR(o:Oper)(r:Operand->AV)(H:Hp)(K:AV->Option β):Option β:=
 match o.op with
 |.move x|.assign x=>K (r x)
 |.pick c a b=>wZ P o.type (r c) (r a) (r b) K
 |.build t ps=>tF P t (ps.toList.map fun x=>(x.1,r x.2)) K
 |.load t a=>rQ P t (r a) H K
 |.nilCheck x=>match r x with
  |.own es id i j=>K (.own es id i j)
  |.pt u l i j=>K (.pt u l i j)
  |.fn f a c=>K (.fn f a c)
  |.rp f es k i j=>K (.rp f es k i j)
  |.p (.ptr t) l=>aP (!IE (show List t.den from l)) (K (.pt t l 0 0))
  |_=>none
 |.binOp op t x y u=>zF P op t u (r x) (r y) H K
 |.lookup t x ix c=>mB P t (r x) (r ix) c H K
 |.unOp op t x=>IF P op t (r x) K
 |.convert s d x=>iN P s d (r x) H K
 |.makeFunc (.func f) a c=>K (.fn f (a.toList.map r) (c.toList.map r))
 |.slice t x lo hi none=>pT P t (r x) (lo.map r) (hi.map r) H K
 |.slice t x lo (some hi) (some mx)=>mA P t (r x) (lo.map r) (r hi) (r mx) K
 |.fieldAddr s x f=>gQ P s (r x) f K
 |.field s x f=>pS P s (r x) f K
 |.indexAddr t x ix=>jA P t (r x) (r ix) H K
 |.index t x ix=>sZ P t (r x) (r ix) K
 |.extract x i=>(r x).tup?.ob fun l=>l[i]?.ob K
 |.call c=>
  match c.callee with
  |.builtin .len=>match c.args.toList,c.argTypes.toList with
   |[a],[t]=>ID P t H (r a) fun n=>K (.i .i64 (n:Int))
   |_,_=>none
  |.builtin .cap=>match c.args.toList,c.argTypes.toList with
   |[a],[t]=>match P.underlying t with
    |some (.slice _)=>match r a with
     |.p .opq (.slice none 0 0)=>K (.i .i64 0)
     |a=>AA H a fun n=>SU n fun m=>K (.i .i64 m)
    |_=>none
   |_,_=>none
  |.builtin .min=>match P.underlying o.type with
   |some (.int k)=>(VC k (c.args.toList.map r)).ob fun l=>match l with
    |x::l=>K (.i k (NW l x))
    |[]=>none
   |_=>none
  |.builtin .max=>match P.underlying o.type with
   |some (.int k)=>(VC k (c.args.toList.map r)).ob fun l=>match l with
    |x::l=>K (.i k (NX l x))
    |[]=>none
   |_=>none
  |_=>none
 |_=>none
def evW(o:Oper)(an:Ann)(r:Operand->AV)(H:Hp)(K:AV->Hp->Option β):Option β:=
 match o.op with
 |.alloc t=>bq (IE an.md) (pR P t (an.ids.headD 0) H K) (sY P t (an.ids.headD 0) H K)
 |.box t x=>bq (IE an.md) (zA P t (r x) (an.ids.headD 0) H K) (zZ P t (r x) (an.ids.headD 0) H K)
 |.buildSlice t n ps=>fQ P t n (ps.toList.map fun x=>(x.1,r x.2)) (Nat.beq (an.md.headD 0) 1) an.sh.head? (an.ids.headD 0) H K
 |.store t a x=>pQ P t (r a) (r x) H K
 |.convert s d x=>match P.underlying d with
  |some .string=>iN P s d (r x) H fun v=>K v H
  |_=>iO P s d (r x) (an.ids.headD 0) H K
 |.makeSlice t l c=>uP P t (r l) (r c) (an.ids.headD 0) H K
 |.makeMap t q=>kF P t (q.map r) an.md (an.ids.headD 0) H K
 |.mapUpdate t m k x|.insert t m k x=>mC P t (r m) (r k) (r x) H K
 |.call c=>
  match c.callee with
  |.builtin .append=>match c.args.toList,c.argTypes.toList with
   |[s,x],[t,u]=>match P.underlying u with
    |some (.slice _)=>kI P t (r s) (r x) (an.ids.headD 0) H K
    |some .string=>kI P t (r s) (r x) (an.ids.headD 0) H K
    |_=>none
   |_,_=>none
  |.builtin .copy=>match c.args.toList,c.argTypes.toList with
   |[d,x],t::_=>uN P t (r d) (r x) H K
   |_,_=>none
  |.builtin .clear=>match c.args.toList,c.argTypes.toList with
   |[d],[t]=>pU P t (r d) H K
   |_,_=>none
  |.value f=>(r f).fnv?.ob fun x=>match JW T an.fn x.1 with
   |some e=>uS P e (x.2.1++c.args.toList.map r++x.2.2) an H K
   |none=>none
  |_=>none
 |_=>none
def ev1(o:Oper)(an:Ann)(st:St)(K:St->Option β):Option β:=
 bq (isR P o) (evR P o st.opnd st.hp fun v=>K (st.putO o.dst v)) (evW P T o an st.opnd st.hp fun v H=>K {st.putO o.dst v with hp:=H})
def St.skip(st:St)(o:Oper):St:=st.putO o.dst (.tup [])
def evG(all:List Oper)(o:Oper)(st:St)(go skip:St->Option β):Option β:=
 bq (jV st.nt o.dst) (match o.guard with
  |none=>go st
  |some (j,want)=>((all[j]?).ob (·.dst)).ob fun d=>aP (Nat.blt d 1048576)<|
   match st.tm.get d with
   |.tup []=>skip (st.skip o)
   |a=>a.bool?.ob fun t=>
    bq t ((bq want (go {st with tm:=st.tm.put d (.b true)}) (skip (St.skip {st with tm:=st.tm.put d (.b true)} o)))) ((bq want (skip (St.skip {st with tm:=st.tm.put d (.b false)} o)) (go {st with tm:=st.tm.put d (.b false)})))) none
def oF:List (Oper×Ann)->List Oper->St->(St->Option β)->Option β
 |[],_,st,K=>K st
 |(o,an)::rest,all,st,K=>evG all o st (fun st=>ev1 P T o (an.at st.hp) st fun st'=>oF rest all st' K) (fun st=>oF rest all st K)
def FD:List Nat->List Nat
 |[]=>[]
 |i::r=>bq (bA i r) (FD r) (i::FD r)
def Ty.fams:Ty->List Nat
 |.ref f t=>bB f::t.fams
 |.sl t=>t.fams
 |.one t=>t.fams
 |.pair a b=>a.fams++b.fams
 |.arr _ t=>t.fams
 |_=>[]
def JX:AV->List Nat
 |.p t _=>t.fams
 |_=>[]
def GW:List AV->List Nat
 |[]=>[]
 |a::l=>JX a++GW l
def TN:AV->List Nat
 |.agg l=>GW l
 |a=>JX a
def JY:List AV->List Nat
 |[]=>[]
 |a::l=>TN a++JY l
def NY(o:Oper)(r:Operand->AV):List Nat:=
 match o.op with
 |.move _|.fieldAddr _ _ _|.field _ _ _|.extract _ _=>[]
 |.store _ a x=>match r a with
  |.own 0 id _ _=>[id]
  |y=>AV.idsL [y,r x]
 |.call _=>AV.idsL (o.op.operands.toList.map r)++JY (o.op.operands.toList.map r)
 |_=>AV.idsL (o.op.operands.toList.map r)
def rT(o:Oper)(an:Ann)(r:Operand->AV):List Nat:=FD (an.sh++an.ids++NY o r)
def yR(H:Hp)(i:Nat):Bool:=Nat.blt i aA&&(match aG H i with|some ⟨true,_⟩=>true|_=>false)
def xD(H:Hp):List Nat->List Nat
 |[]=>[]
 |i::r=>bq (yR H i) (i::xD H r) (xD H r)
def vJ(H:Hp):List Nat->List Nat
 |[]=>[]
 |i::r=>bq (yR H i) (vJ H r) (i::vJ H r)
def nV(H:Hp):List Nat->Hp
 |[]=>[]
 |i::r=>bq (aN H i) ((i,aG H i)::nV H r) (nV H r)
def IG:List Nat->List Nat->Bool
 |[],_=>true
 |m::r,l=>(Nat.blt m 4||bA (m+100000) l)&&IG r l
def tH(o:Oper):Bool:=
 match o.op with
 |.alloc _|.box _ _|.buildSlice _ _ _|.makeSlice _ _ _|.makeMap _ _=>true
 |.convert s _ _=>match P.underlying s with|some .string=>true|_=>false
 |.call c=>match c.callee with|.builtin .append=>true|_=>false
 |_=>false
def AG(t:TypeId):Bool:=match P.underlying t with|some (.slice _)=>false|_=>true
def NZ(o:Oper):Bool:=
 match o.op with
 |.binOp _ t _ _ _=>AG P t
 |.call c=>match c.callee with
  |.builtin .cap=>false
  |_=>true
 |_=>true
def TO(o:Oper)(an:Ann)(st:St)(K:St->Option β):Option β:=
 bq (isR P o) (aP (NZ P o)<|evR P o st.opnd (nV st.hp (rT o an st.opnd)) fun v=>K (st.putO o.dst v))
  (aP ((!tH P o|| !Nat.beq an.ids.length 0)&&IG an.md (rT o an st.opnd))<|evW P T o an st.opnd (nV st.hp (rT o an st.opnd)) fun v H=>
   aP (lV (lX H) (rT o an st.opnd)&&sW (rT o an st.opnd))<|K {st.putO o.dst v with hp:=fH (fH (fE st.hp (rT o an st.opnd)) H) (nV st.hp (xD st.hp (rT o an st.opnd)))})
structure Fp where
 i:Nat
 fp:List Nat
 wr:List Nat
def tI:List Nat->List Nat->Bool
 |[],_=>false
 |i::r,l=>bA i l||tI r l
def GX(a b:Fp):Bool:=tI a.wr b.fp||tI b.wr a.fp
def CV(done:List (Nat×List Nat)):List Edge->List Nat
 |[]=>[]
 |e::r=>bq (Region.binds .any e) (e.on::((done.lookup e.on).getD []++CV done r)) (CV done r)
def AH:Nat->List Oper->List (Nat×List Nat)->List (Nat×List Nat)
 |_,[],done=>done
 |i,o::r,done=>AH (i+1) r ((i,FD (CV done o.after.toList))::done)
def AI(cl:List (Nat×List Nat))(a b:Fp):Bool:= !GX a b||bA a.i ((cl.lookup b.i).getD [])
def pW(cl:List (Nat×List Nat)):List Fp->Bool
 |[]=>true
 |b::r=>(r.all fun a=>AI cl a b)&&pW cl r
structure Nm where
 i:Nat
 cl:List Nat
 rd:List Nat
 wr:Option Nat
def oG:List Operand->List Nat
 |[]=>[]
 |.tmp t::r=>t::oG r
 |.global g::r=>(1048576+g)::oG r
 |_::r=>oG r
def tJ(all:List Oper)(o:Oper):List Nat:=
 match o.guard with
 |some (g,_)=>(match all[g]? with|some x=>(match x.dst with|some d=>[d]|none=>[])|none=>[])
 |none=>[]
def nms(cl:List (Nat×List Nat))(all:List Oper):Nat->List Oper->List Nm
 |_,[]=>[]
 |i,o::r=>⟨i,(cl.lookup i).getD [],tJ all o++oG o.op.operands.toList,o.dst⟩::nms cl all (i+1) r
def eB(l:List Nat):Option Nat->Bool
 |none=>false
 |some d=>bA d l
def JZ:Option Nat->Option Nat->Bool
 |some a,some b=>Nat.beq a b
 |_,_=>false
def uT(a b:Nm):Bool:= !eB b.rd a.wr&& !eB a.rd b.wr&& !JZ a.wr b.wr
def GY(a:Nm):List Nm->Bool
 |[]=>true
 |b::r=>(bA a.i b.cl||uT a b)&&GY a r
def zK:List Nm->Bool
 |[]=>true
 |a::r=>GY a r&&zK r
def wD(i:Nat):List Edge->Bool
 |[]=>true
 |e::r=>(!Region.binds .any e||Nat.blt e.on i)&&wD i r
def pX:Nat->List Oper->Bool
 |_,[]=>true
 |i,o::r=>wD i o.after.toList&&(match o.op with|.select _ _=>false|_=>true)&&pX (i+1) r
def oH:List (Nat×Oper×Ann)->List Oper->St->List Fp->(St->List Fp->Option β)->Option β
 |[],_,st,fs,K=>K st fs
 |(i,o,an)::rest,all,st,fs,K=>
  evG all o st (fun st=>TO P T o (an.at st.hp) st fun st'=>oH rest all st' (⟨i,rT o (an.at st.hp) st.opnd,bq (isR P o) [] (vJ st.hp (rT o (an.at st.hp) st.opnd))⟩::fs) K) (fun st=>oH rest all st fs K)
def oI{α:Type}:Nat->List α->List (Nat×α)
 |_,[]=>[]
 |k,a::r=>(k,a)::oI (k+1) r
def Cn.holds(st:St):Cn->Bool
 |.slot k kd=>kd.fits (st.tm.get k)
 |.cell b j kd=>match aG st.hp b with
  |some ⟨_,.vars c⟩=>kd.fits (c.getD j .junk)
  |_=>false
 |.key id=>match aG st.hp id with
  |some _=>true
  |none=>false
def mZ(old new:Nat)(id:Nat):Option Nat:=bq (Nat.beq id old) (some new) (some id)
def Tr.ren(f:Nat->Option Nat):Tr->Tr
 |.lf=>.lf
 |.nd l v r=>.nd (l.ren f) (AV.ren f v) (r.ren f)
def oJ(f:Nat->Option Nat):Hp->Hp
 |[]=>[]
 |(i,some e)::r=>(i,some (e.ren f))::oJ f r
 |(i,none)::r=>(i,none)::oJ f r
def zL(g:Gh)(st:St):Option St:=
 match g with
 |.renum old new=>match aG st.hp old with
  |some e=>bq (aN st.hp new||Nat.ble aA new||Nat.ble aA old) none (some {st with tm:=st.tm.ren (mZ old new),hp:=aS (aS (oJ (mZ old new) st.hp) old none) new (some (e.ren (mZ old new)))})
  |none=>none
 |.pure k=>(vH st.hp (st.tm.get k)).map fun x=>{st with tm:=st.tm.put k x.1,hp:=x.2}
 |.freeze k=>some {st with hp:=CR st.hp (st.tm.get k)}
 |.frzB id=>some {st with hp:=frz st.hp id}
 |.pureCell b o=>match aG st.hp b with
  |some ⟨false,.vars c⟩=>match c[o]? with
   |some a=>match vH st.hp a with
    |some (x,H')=>match aG H' b with
     |some ⟨false,.vars _⟩=>some {st with hp:=aS H' b (some ⟨false,.vars (c.set o x)⟩)}
     |_=>none
    |none=>some st
   |none=>some st
  |_=>some st
 |.ownNil k e id=>match st.tm.get k with
  |.p .opq (.slice none 0 0)=>(ty P e).ob fun u=>bq (aN st.hp id||Nat.ble aA id) none (some {st with tm:=st.tm.put k (.slf u.cells id),hp:=aS st.hp id (some ⟨false,.rows e u []⟩)})
  |_=>some st
 |.ownCell b o e id=>match aG st.hp b with
  |some ⟨false,.vars c⟩=>match c[o]? with
   |some (.p .opq (.slice none 0 0))=>(ty P e).ob fun u=>bq (aN st.hp id||Nat.ble aA id) none (some {st with hp:=aS (aS st.hp b (some ⟨false,.vars (c.set o (.slf u.cells id))⟩)) id (some ⟨false,.rows e u []⟩)})
   |_=>some st
  |_=>some st
 |.newFam f e s=>bq (aN st.hp (bB f)|| !s.noRef||Nat.beq s.cells 0) none (some {st with hp:=aS st.hp (bB f) (some ⟨false,.fam e s []⟩)})
 |.mem k f=>match aG st.hp (bB f) with
  |some ⟨false,.fam _ s _⟩=>(JN st.hp (.ref f s) (st.tm.get k)).map fun x=>{st with tm:=st.tm.put k x.1,hp:=x.2}
  |_=>none
 |.opn k m=>bq (Nat.blt m 10) none ((FC P st.hp m (st.tm.get k)).map fun x=>{st with tm:=st.tm.put k x.1,hp:=x.2})
 |.toRef id t=>match aG st.hp id with
  |some ⟨false,.rows e u l⟩=>dq u t.unref (fun h=>some {st with hp:=aS st.hp id (some ⟨false,.rows e t ((Ty.toL h l).map (bY t))⟩)}) none
  |_=>none
def xE{β}(g:Gh)(st:St)(K:St->Option β):Option β:=
 match g with
 |.pureCell b o=>match aG st.hp b with
  |some ⟨false,.vars c⟩=>match c[o]? with
   |some a=>xC st.hp a fun x H'=>match aG H' b with
    |some ⟨false,.vars _⟩=>K {st with hp:=aS H' b (some ⟨false,.vars (c.set o x)⟩)}
    |_=>none
   |none=>K st
  |_=>K st
 |.opn k m=>bq (Nat.blt m 10) none (GU P st.hp m (st.tm.get k) fun x H'=>K {st with tm:=st.tm.put k x,hp:=H'})
 |g=>(zL P g st).ob K
end
def Out.retO{β γ:Type}:(ret:Bool)->(l:List (Nat×dM))->β->(Out ret l β->Option γ)->Option γ
 |true,l,b,K=>K (Out.ret l b)
 |false,_,_,_=>none
variable (fu : Nat)
def evS:{β:Type}->AC->St->(St->Option β)->(Nat->St->Option β)->(St->Option β)->Option β
 |_,.skip,st,K,_,_=>K st
 |_,.ret,st,_,_,R=>R st
 |_,.exit i,st,_,X,_=>X i st
 |_,.seq a b,st,K,X,R=>evS a st (fun st'=>evS b st' K X R) X R
 |_,.cond c a b,st,K,X,R=>(st.opnd c).bool?.ob fun t=>bq t (evS a st K X R) (evS b st K X R)
 |_,.block i a,st,K,X,R=>evS a st K (fun j st'=>bq (Nat.beq j i) (K st') (X j st')) R
 |β,.loop sh rt outs a,st,K,X,R=>
  st.prj sh fun t0=>
  (iter fu (fun t=>evS (β:=sh.D⊕Out rt outs β) a (sh.inj ((st.tm.keep).junk a.wr) st.nt st.n0 t) (fun st''=>st''.prj sh fun t'=>some (.inl t'))
   (fun i st''=>Out.mk st'' rt outs i fun o=>some (.inr o))
   (fun st''=>(R st'').ob fun b=>Out.retO rt outs b fun o=>some (.inr o))) t0).bind fun o=>
  Out.on ((st.tm.keep).junk a.wr) st.nt st.n0 rt outs o X some
 |_,.region _ ops draw,st,K,_,_=>bq draw (aP (pX 0 (ops.map (·.1))&&zK (nms (AH 0 (ops.map (·.1)) []) (ops.map (·.1)) 0 (ops.map (·.1))))<|oH P T (oI 0 ops) (ops.map (·.1)) st [] fun st' fs=>aP (pW (AH 0 (ops.map (·.1)) []) fs)<|K st') (oF P T ops (ops.map (·.1)) st K)
 |β,.join sh rt outs a,st,K,X,R=>
  (evS (β:=Out rt ((0,sh)::outs) β) a st (fun st''=>Out.mk st'' rt ((0,sh)::outs) 0 some)
   (fun i st''=>Out.mk st'' rt ((0,sh)::outs) (i+1) some)
   (fun st''=>(R st'').ob fun b=>Out.retO rt ((0,sh)::outs) b some)).bind fun o=>
  Out.on ((st.tm.keep).junk a.wr) st.nt st.n0 rt ((0,sh)::outs) o (fun i st''=>match i with|0=>K st''|i+1=>X i st'') some
 |_,.pre g a,st,K,X,R=>xE P g st fun st'=>evS a st' K X R
 |_,.sel q a b,st,K,X,R=>bq (Cn.holds st q) (evS a st K X R) (evS b st K X R)
 |_,.post g a,st,K,X,R=>evS a st (fun st'=>xE P g st' K) X R
 |β,.mrange m a,st,K,X,R=>
  oF P T m.ops.dropLast (m.ops.map (·.1)) st fun st1=>
  (TL m a st1.nt).ob fun q=>
  aP (match P.underlying q.t with|some (.map _ _)=>true|_=>false)<|
  ((st1.opnd q.x).mp1?).ob fun m0=>(zH m.kt m.vt st1.hp m0).ob fun g0=>
  aP (FB (m.sh.ps (st1.putO (some q.it) .junk).hp (m.sh.live.map (st1.putO (some q.it) .junk).tm.get)) m0 m.mid)<|
  (st1.putO (some q.it) .junk).prj m.sh fun t0=>
  CU (fun t=>(zH m.kt m.vt (m.sh.inj (((st1.putO (some q.it) .junk).tm.keep).junk (m.wr a)) st1.nt (Nat.max st1.n0 (m.mid+1)) t).hp m.mid).ob fun g=>aP (Nat.beq g.2 g0.2) (some g.1))
   (fun t e=>oF P T m.ops2.tail (m.ops2.map (·.1)) ((((m.sh.inj (((st1.putO (some q.it) .junk).tm.keep).junk (m.wr a)) st1.nt (Nat.max st1.n0 (m.mid+1)) t).putO (some q.n) .junk).putO (some q.b) (.b true)).putO (some q.e) (.tup [.ofTy m.kt e.1.1,.ofTy m.vt e.1.2])) fun st2=>
    evS (β:=m.sh.D⊕Out m.ret m.outs β) a st2 (fun st3=>st3.prj m.sh fun t'=>some (.inl t'))
     (fun j st3=>bq (Nat.beq j m.C) (st3.prj m.sh fun t'=>some (.inl t')) (Out.mk st3 m.ret m.outs j fun o=>some (.inr o)))
     (fun st3=>(R st3).ob fun b=>Out.retO m.ret m.outs b fun o=>some (.inr o)))
   t0 (fun o=>match o with
    |.inl t=>(((m.sh.inj (((st1.putO (some q.it) .junk).tm.keep).junk (m.wr a)) st1.nt (Nat.max st1.n0 (m.mid+1)) t).putO (some q.n) .junk).putO (some q.b) (.b false)).prj m.sh fun t2=>K (m.sh.inj (((st1.putO (some q.it) .junk).tm.keep).junk (m.wr a)) st1.nt st1.n0 t2)
    |.inr o=>Out.on (((st1.putO (some q.it) .junk).tm.keep).junk (m.wr a)) st1.nt st1.n0 m.ret m.outs o (fun j st'=>bq (Nat.beq j m.J) (K st') (X j st')) some)
 |_,.round a r,st,K,X,R=>aP r.rd<|evS a st (fun st'=>evS r st' K X R) X R
 |_,.bad _,_,_,_,_=>none
structure FnA where
 ov:Ov
 i:Shp
 os:List Shp
 md:List Nat
def xF:Tr->Nat->List AV->Tr
 |t,_,[]=>t
 |t,k,a::r=>xF (t.put k a) (k+1) r
def tK{β}:List ResultVar->St->(List AV->Option β)->Option β
 |[],_,K=>K []
 |.tmp t::r,st,K=>tK r st fun l=>K (st.opnd (.tmp t)::l)
 |.cell a t::r,st,K=>rQ P t (st.opnd (.tmp a)) st.hp fun v=>tK r st fun l=>K (v::l)
def fin(fn:Func)(fa:FnA)(st:St):Option (cP fa.os):=
 tK P fn.results.toList st fun l=>uR P st.hp fa.md l fun x1 xH=>
  let n:=(jU (aJ fa.i.hs)).length
  let ids:=reach xH uJ (mU 0 n++AV.idsL x1) []
  let news:=ids.filter fun i=> !Nat.blt i n
  let olds:=ids.filter fun i=>Nat.blt i n
  cP.rco x1 xH (kG (olds++news) (olds++mU n news.length)++yY (rN (lX xH))) fa.os some
def depth(n:Nat):Nat:=Nat.log2 n+1
def evF(fn:Func)(fa:FnA)(t:fa.i.D):Option (cP fa.os):=
 fa.i.embC t fun vs H=>
 aP (eqN (aJ fa.i.hs) (bM 0 (aJ fa.i.hs))&& !bA 2 fa.md&&(Nat.ble fa.i.hs.length aA&&fa.os.all fun o=>bU (gP (aJ o.hs)) o.tys&&lV (rN (aJ fa.i.hs)) (rN (aJ o.hs))))<|
 aP (Nat.ble vs.length 1048576)<|
 fn.body.ob fun c=>evS P T fu (build fa.ov c) ⟨xF (Tr.full (depth fn.ntmps)) 0 vs,fn.ntmps,(jU (aJ fa.i.hs)).length,H⟩ (fin P fn fa) (fun _ _=>none) (fin P fn fa)
end
end
inductive RB where
 |no
 |virt
 |real (g sz n:Nat)
abbrev Rho:=Nat->RB
structure Z where
 w:World
 M:Nat->Prop
 C:Nat->Prop
 ρ:Rho
 D:Nat->Prop
def dZ(ρ ρ':Rho):Prop:=∀id,aC<=id->ρ id≠.no->ρ' id=ρ id
theorem dZ.of{ρ ρ'}(h:∀id,ρ id≠.no->ρ' id=ρ id):dZ ρ ρ':=fun id _=>h id
theorem dZ.eq{ρ ρ'}(h:ρ'=ρ):dZ ρ ρ':=fun _ _ _=>by rw[h]
def Cl(w:World)(M:Nat->Prop)(ρ:Rho):(t:Ty)->t.den->List Value->Prop
 |.int k,n,vs=>vs=[.int k n]
 |.byte,c,vs=>vs=[.int .u8 (c.toNat:Int)]
 |.bool,b,vs=>vs=[.bool b]
 |.str,l,vs=>vs=[.string ⟨⟨l⟩⟩]
 |.opq,v,vs=>vs=[v]/\v.oneCell'=true
 |.nat,_,_=>False
 |.one t,x,vs=>Cl w M ρ t x vs
 |.pair a b,x,vs=>∃u v,vs=u++v/\Cl w M ρ a x.1 u/\Cl w M ρ b x.2 v
 |.arr n t,l,vs=>List.length (α:=t.den) l=n/\∃css:List (List Value),css.length=n/\vs=css.flatten/\∀(i:Nat) (e) u,(show List t.den from l)[i]? =some e->css[i]? =some u->Cl w M ρ t e u
 |.sl t,l,vs=>∃A c,vs=[.slice A (List.length (α:=t.den) l) c]/\List.length (α:=t.den) l<=c/\c<=maxLen/\(A=none->c=0)/\
  (List.length (α:=t.den) l≠0->∃b off,A=some ⟨b,off,none⟩/\¬M b/\b<w.heap.size/\
   ∀(i) (e),(show List t.den from l)[i]? =some e->∃u,Cl w M ρ t e u/\w.rangeAt b (off+i*t.cells) u)
 |.ptr t,l,vs=>(List.length (α:=t.den) l=0/\vs=[.pointer none])\/
  (List.length (α:=t.den) l≠0/\∃b off,vs=[.pointer (some ⟨b,off,none⟩)]/\¬M b/\b<w.heap.size/\
   ∀(i) (e),(show List t.den from l)[i]? =some e->∃u,Cl w M ρ t e u/\w.rangeAt b (off+i*t.cells) u)
 |.ref f t,x,vs=>match x with
  |.inl l=>∃A c,vs=[.slice A (List.length (α:=t.den) l) c]/\List.length (α:=t.den) l<=c/\c<=maxLen/\(A=none->c=0)/\
   (List.length (α:=t.den) l≠0->∃b off,A=some ⟨b,off,none⟩/\¬M b/\b<w.heap.size/\
    ∀(i) (e),(show List t.den from l)[i]? =some e->∃u,Cl w M ρ t e u/\w.rangeAt b (off+i*t.cells) u)
  |.inr none=>vs=[.slice none 0 0]
  |.inr (some (k,off,n))=>(∃A,ρ (enc f k)= .virt/\n=0/\vs=[.slice A 0 0])\/
   ∃g sz m c,ρ (enc f k)= .real g sz m/\n<=c/\(off+c)*t.cells<=sz/\c<=maxLen/\vs=[.slice (some ⟨g,off*t.cells,none⟩) n c]
def bK(w:World)(M:Nat->Prop)(ρ:Rho)(t:Ty)(x:t.den)(v:Value):Prop:=
 ∃vs,Cl w M ρ t x vs/\v=(bif t.isAgg then .agg vs.toArray else vs.headD undef)
def eR(w:World)(M:Nat->Prop)(ρ:Rho)(b off:Nat)(t:Ty)(l:List t.den):Prop:=
 ∀(i) e,l[i]? =some e->∃u,Cl w M ρ t e u/\w.rangeAt b (off+i*t.cells) u
inductive aF (z:Z):AV->Value->Prop
 |p (t:Ty) (x:t.den) (v:Value) (h:bK z.w z.M z.ρ t x v):aF z (.p t x) v
 |pt (t:Ty) (l:List t.den) (i j b off:Nat) (hM:¬z.M b) (hlt:b<z.w.heap.size) (h:eR z.w z.M z.ρ b off t l):aF z (.pt t l i j) (.pointer (some ⟨b,off+i*t.cells+j,none⟩))
 |own (es id i j g sz n:Nat) (h:z.ρ id= .real g sz n):aF z (.own es id i j) (.pointer (some ⟨g,i*es+j,none⟩))
 |rp (f es k i j g sz n:Nat) (h:z.ρ (enc f k)= .real g sz n):aF z (.rp f es k i j) (.pointer (some ⟨g,i*es+j,none⟩))
 |slV (es id off:Nat) (A:Option Addr) (h:z.ρ id= .virt):aF z (.sl es id off 0) (.slice A 0 0)
 |slE (es id off g sz m o:Nat) (h:z.ρ id= .real g sz m):aF z (.sl es id off 0) (.slice (some ⟨g,o,none⟩) 0 0)
 |sl (es id off n g sz m c:Nat) (h:z.ρ id= .real g sz m) (hn:n<=c) (hs:(off+c)*es<=sz) (hm:c<=maxLen):aF z (.sl es id off n) (.slice (some ⟨g,off*es,none⟩) n c)
 |slfV (es id:Nat) (A:Option Addr) (h:z.ρ id= .virt):aF z (.slf es id) (.slice A 0 0)
 |slf (es id g sz n c:Nat) (h:z.ρ id= .real g sz n) (hn:n<=c) (hs:c*es<=sz) (hm:c<=maxLen):aF z (.slf es id) (.slice (some ⟨g,0,none⟩) n c)
 |mp (id g sz n:Nat) (h:z.ρ id= .real g sz n):aF z (.mp id) (.map (some g))
 |fn (f:FuncId) (a c:List AV) (va vc:Array Value) (ha:va.size=a.length) (hc:vc.size=c.length)
  (h1:∀(i:Nat) (x:AV) (v:Value),a[i]? =some x->va[i]? =some v->aF z x v)
  (h2:∀(i:Nat) (x:AV) (v:Value),c[i]? =some x->vc[i]? =some v->aF z x v):aF z (.fn f a c) (.func (.func f) va vc)
 |agg (l:List AV) (cs:Array Value) (hs:cs.size=l.length) (h1:∀v∈cs,v.oneCell'=true)
  (h:∀(i:Nat) (x:AV) (v:Value),l[i]? =some x->cs[i]? =some v->aF z x v):aF z (.agg l) (.agg cs)
 |tup (l:List AV) (vs:Array Value) (hs:vs.size=l.length)
  (h:∀(i:Nat) (x:AV) (v:Value),l[i]? =some x->vs[i]? =some v->aF z x v):aF z (.tup l) (.tuple vs)
 |junk (v:Value):aF z .junk v
def okF(cs:Array Value)(fr:Nat×Nat):Prop:=fr.1=fr.2\/cs.size<=fr.1
def okR(t:Ty)(cs:Array Value)(fr:Nat×Nat):Prop:=fr.1=fr.2\/(t= .byte/\cs.size<=fr.1)
theorem okR.f{t}{cs}{fr}(h:okR t cs fr):okF cs fr:=h.imp id fun h=>h.2
theorem eiZ{t}{cs cs'}{fr}(h:okR t cs fr)(hs:cs'.size=cs.size):okR t cs' fr:=by simp_all[okR]
theorem okR0{t}(cs):okR t cs (0,0):=.inl rfl
def fX(z:Z)(g sz n:Nat):Blk->Prop
 |.vars c=>∃cs e fr,z.w.heap[g]? =some (.cells cs e fr)/\okF cs fr/\cs.size=sz/\(c.length=sz/\n=sz)/\(∀(i:Nat) a v,c[i]? =some a->cs[i]? =some v->aF z a v)/\∀v∈cs,v.oneCell'=true
 |.rows e t l=>∃cs fr,z.w.heap[g]? =some (.cells cs e fr)/\okR t cs fr/\cs.size=sz/\l.length=n/\l.length*t.cells<=sz/\0<t.cells/\
  (∀(i:Nat) x,l[i]? =some x->∃u,Cl z.w z.M z.ρ t x u/\∀(j:Nat) v,u[j]? =some v->cs[i*t.cells+j]? =some v)
 |.map k v m=>∃es,z.w.heap[g]? =some (.map es m.2)/\es.size=m.1.length/\(∀(i:Nat) x e,m.1[i]? =some x->es[i]? =some e->bK z.w z.M z.ρ k x.1.1 e.key/\bK z.w z.M z.ρ v x.1.2 e.val/\e.born=x.2)/\
  (∀(i j:Nat) x y,m.1[i]? =some x->m.1[j]? =some y->x.2=y.2->i=j)/\(∀(i:Nat) x,m.1[i]? =some x->x.2<m.2)
 |.fmap k l=>∃es clock,z.w.heap[g]? =some (.map es clock)/\es.size=l.length/\(∀(i:Nat) x e,l[i]? =some x->es[i]? =some e->bK z.w z.M z.ρ k x.1 e.key/\aF z x.2 e.val)
 |.fam _ _ _=>False
def oK:Blk->Prop
 |.rows _ t l=>l=[]/\0<t.cells
 |_=>False
def dX(z:Z)(id:Nat)(e:Ent):Prop:=
 match z.ρ id with
 |.no=>False
 |.virt=>oK e.b
 |.real g sz n=>g<z.w.heap.size/\(e.fz=false->z.C g)/\(e.fz=true->¬z.M g)/\fX z g sz n e.b
def rt(id:Nat):Nat:=if aC<=id then aA+(id-aC)%16 else id
def pick(k:Nat)(e:Ent):Option Ent:=
 match e.b with
 |.fam e' s ms=>match ms[k]? with
  |some (st,l)=>if st=0 then none else some ⟨e.fz||Nat.ble 2 st,.rows e' s l⟩
  |none=>none
 |_=>none
def aQ(H:Hp)(id:Nat):Option Ent:=
 if aC<=id then(aG H (rt id)).bind (pick ((id-aC)/16)) else if aA<=id then none else aG H id
def Ent.has(k:Nat)(e:Ent):Bool:=
 match e.b with
 |.fam _ _ ms=>decide (k<ms.length)
 |_=>true
def cQ(H:Hp)(id:Nat):Bool:=
 if aC<=id then(match aG H (rt id) with|some e=>e.has ((id-aC)/16)|none=>aN H (rt id)) else if aA<=id then false else aN H id
def famOk(id:Nat)(e:Ent):Prop:=
 match e.b with
 |.fam _ s _=>aA<=id/\id<aC/\s.noRef=true/\0<s.cells/\e.fz=false
 |_=>id<aA
def Ro(id:Nat):Prop:=aC<=id/\(id-aC)%16=15
theorem Ro.rt{id}(h:Ro id):rt id=aA+15:=by unfold Ab.rt;rw[ZAN h.1,h.2]
theorem bSZ{id}(h:id<aA):¬Ro id:=fun hr=>by
 have h0:aA<aC:=by decide
 have:=hr.1;omega
theorem uOZ{f}:nro f=true↔f%16≠15:=by
 unfold nro;rw[ZAj,<-Bool.not_eq_true,Nat.beq_eq]
theorem qrZ{f k}:Ro (enc f k)↔f%16=15:=by
 simp_all[Ro,enc]
structure aH (z:Z) (H:Hp):Prop where
 ent:∀id e,aQ H id=some e->dX z id e
 inj:∀id id' e e' g sz n g' sz' n',id≠id'->aQ H id=some e->aQ H id'=some e'->e.fz=false->e'.fz=false->z.ρ id= .real g sz n->z.ρ id'= .real g' sz' n'->¬(Ro id/\Ro id')->g≠g'
 fresh:∀id,cQ H id=false->z.ρ id= .no\/z.D id
 sub:∀g,z.C g->z.M g
 fam:∀id e,aG H id=some e->famOk id e
 key:∀id,aN H id=true->id<aC
 dyn:∀id,aC<=id->aN H (rt id)=true->¬z.D id
 nos:∀id,aA<=id->id<aC->z.ρ id= .no
theorem lgZ{f k}(h:nro f=true):¬Ro (enc f k):=fun hr=>uOZ.1 h (qrZ.1 hr)
structure Nx (z z':Z):Prop where
 os:z'.w.os=z.w.os
 tape:z'.w.tape=z.w.tape/\z.w.drawn<=z'.w.drawn
 output:z'.w.output=z.w.output
 size:z.w.heap.size<=z'.w.heap.size
 block:∀b,b<z.w.heap.size->¬z.C b->z'.w.heap[b]? =z.w.heap[b]?
 subM:∀g,z'.M g->z.M g\/z.w.heap.size<=g
 subC:∀g,z'.C g->z.C g\/z.w.heap.size<=g
 keepM:∀g,g<z.w.heap.size->z.M g->¬z.C g->z'.M g
 ext:∀id,z.ρ id≠.no->z'.ρ id=z.ρ id
 dom:z'.D=z.D
theorem Nx.refl(z):Nx z z:=⟨rfl,⟨rfl,ZAL _⟩,rfl,ZAL _,fun _ _ _=>rfl,fun _ h=>.inl h,fun _ h=>.inl h,fun _ _ h _=>h,fun _ _=>rfl,rfl⟩
theorem Nx.trans{z z' z''}(h:Nx z z')(k:Nx z' z''):Nx z z'':=by
 have h1:=h.size;refine⟨k.os.trans h.os,⟨k.tape.1.trans h.tape.1,ZBD h.tape.2 k.tape.2⟩,k.output.trans h.output,ZBD h.size k.size,fun b hb hC=> ?_,fun g hg=> ?_,fun g hg=> ?_,fun g hg hM hC=> ?_,fun id hid=> ?_,k.dom.trans h.dom⟩
 ·have hC':¬z'.C b:=fun hm=>by
   rcases h.subC b hm with h2|h2<;>grind
  rw[k.block b (by omega) hC',h.block b hb hC]
 ·rcases k.subM g hg with h2|h2
  ·exact h.subM g h2
  omega
 ·rcases k.subC g hg with h2|h2
  ·exact h.subC g h2
  omega
 ·refine k.keepM g (by omega) (h.keepM g hg hM hC) fun hm=> ?_;rcases h.subC g hm with h2|h2<;>grind
 ·have h1:=h.ext id hid;rw[<-h1];exact k.ext id (by simp_all)
theorem baZ{css:List (List Value)}{n}(h:∀u∈css,u.length=n):css.flatten.length=css.length*n:=by
 induction css<;>grind
theorem bfZ{α β:Type}{l:List α}{c:List β}(h:c.length=l.length){i:Nat}{u}(hu:c[i]? =some u):∃e,l[i]? =some e:=
 ⟨_,ZAC (by grind)⟩
theorem Cl.len{w}{M}{ρ}:{t:Ty}->{x:t.den}->{vs:List Value}->Cl w M ρ t x vs->vs.length=t.cells
 |.int _,_,_,h|.byte,_,_,h|.bool,_,_,h|.str,_,_,h=>by subst h;rfl
 |.opq,_,_,h=>by obtain⟨rfl,_⟩:=h;rfl
 |.nat,_,_,h=>h.elim
 |.one t,_,_,h=>Cl.len (t:=t) h
 |.pair a b,_,_,h=>by
  obtain⟨u,v,rfl,h1,h2⟩:=h;rw[ZAe,Cl.len h1,Cl.len h2];rfl
 |.arr n t,l,_,h=>by
  obtain⟨hn,css,h1,rfl,h2⟩:=h;rw[baZ,h1]
  ·rfl
  ·intro u hu
   let⟨i,hi⟩:=ZAP hu
   let⟨e,he⟩:=bfZ (l:=((l))) (by rw[h1,<-hn]) hi
   exact Cl.len (h2 i e u he hi)
 |.sl t,_,_,h=>by obtain⟨A,c,rfl,_⟩:=h;rfl
 |.ptr t,_,_,h=>by rcases h with⟨_,rfl⟩|⟨_,b,off,rfl,_⟩<;>rfl
 |.ref f t,.inl l,_,h=>by obtain⟨A,c,rfl,_⟩:=h;rfl
 |.ref f t,.inr none,_,h=>by subst h;rfl
 |.ref f t,.inr (some (k,off,n)),_,h=>by rcases h with⟨A,_,_,rfl⟩|⟨g,sz,m,c,_,_,_,_,rfl⟩<;>rfl
theorem Cl.one{w}{M}{ρ}:{t:Ty}->{x:t.den}->{vs:List Value}->Cl w M ρ t x vs->∀v∈vs,v.oneCell'=true
 |.int _,_,_,h|.byte,_,_,h|.bool,_,_,h|.str,_,_,h=>by subst h;simp[Value.oneCell']
 |.opq,_,_,h=>by obtain⟨rfl,h⟩:=h<;>grind
 |.nat,_,_,h=>h.elim
 |.one t,_,_,h=>Cl.one (t:=t) h
 |.pair a b,_,_,h=>by
  obtain⟨u,v,rfl,h1,h2⟩:=h;intro x hx;rcases ZAc.1 hx with hx|hx
  ·exact Cl.one h1 x hx
  ·exact Cl.one h2 x hx
 |.arr n t,l,_,h=>by
  obtain⟨hn,css,h1,rfl,h2⟩:=h;intro x hx
  let⟨u,hu,hx⟩:=List.mem_flatten.1 hx
  let⟨i,hi⟩:=ZAP hu
  let⟨e,he⟩:=bfZ (l:=((l))) (by rw[h1,<-hn]) hi
  exact Cl.one (h2 i e u he hi) x hx
 |.sl t,_,_,h=>by obtain⟨A,c,rfl,_⟩:=h;simp[Value.oneCell']
 |.ptr t,_,_,h=>by rcases h with⟨_,rfl⟩|⟨_,b,off,rfl,_⟩<;>simp[Value.oneCell']
 |.ref f t,.inl l,_,h=>by obtain⟨A,c,rfl,_⟩:=h;simp[Value.oneCell']
 |.ref f t,.inr none,_,h=>by simp[Cl] at h;subst h;simp[Value.oneCell']
 |.ref f t,.inr (some (k,off,n)),_,h=>by rcases h with⟨A,_,_,rfl⟩|⟨g,sz,m,c,_,_,_,_,rfl⟩<;>simp[Value.oneCell']
theorem World.rangeAt.same{w w':World}{b o}{vs}(h:w.rangeAt b o vs)(he:w'.heap[b]? =w.heap[b]?):w'.rangeAt b o vs:=fun j v hj=>by
 rw[World.cell?_of_block he];exact h j v hj
theorem Cl.keep{w w'}{M M'}{ρ ρ'}(hs:w.heap.size<=w'.heap.size)(hb:∀b,b<w.heap.size->¬M b->w'.heap[b]? =w.heap[b]?)(hM:∀g,M' g->M g\/w.heap.size<=g)(hr:dZ ρ ρ'):
 {t:Ty}->{x:t.den}->{vs:List Value}->Cl w M ρ t x vs->Cl w' M' ρ' t x vs
 |.int _,_,_,h|.byte,_,_,h|.bool,_,_,h|.str,_,_,h|.opq,_,_,h=>h
 |.nat,_,_,h=>h.elim
 |.one t,_,_,h=>Cl.keep hs hb hM hr (t:=t) h
 |.pair a b,_,_,h=>by
  obtain⟨u,v,rfl,h1,h2⟩:=h;exact⟨u,v,rfl,Cl.keep hs hb hM hr h1,Cl.keep hs hb hM hr h2⟩
 |.arr n t,l,_,h=>by
  obtain⟨hn,css,h1,rfl,h2⟩:=h;exact⟨hn,css,h1,rfl,fun i e u he hu=>Cl.keep hs hb hM hr (h2 i e u he hu)⟩
 |.sl t,l,_,h=>by
  obtain⟨A,c,rfl,h1,h2,h3,h4⟩:=h;refine⟨A,c,rfl,h1,h2,h3,fun h0=> ?_⟩
  let⟨b,off,h5,h6,h7,h8⟩:=h4 h0
  refine⟨b,off,h5,fun hm=> ?_,by omega,fun i e he=> ?_⟩
  ·rcases hM b hm with h|h
   ·exact h6 h
   ·omega
  ·let⟨u,h9,h10⟩:=h8 i e he
   exact⟨u,Cl.keep hs hb hM hr h9,World.rangeAt.same h10 (hb b h7 h6)⟩
 |.ptr t,l,_,h=>by
  rcases h with h|⟨h1,b,off,rfl,h6,h7,h8⟩
  ·exact .inl h
  refine .inr ⟨h1,b,off,rfl,fun hm=> ?_,by omega,fun i e he=> ?_⟩
  ·rcases hM b hm with h|h
   ·exact h6 h
   ·omega
  ·let⟨u,h9,h10⟩:=h8 i e he
   exact⟨u,Cl.keep hs hb hM hr h9,World.rangeAt.same h10 (hb b h7 h6)⟩
 |.ref f t,.inl l,_,h=>by
  obtain⟨A,c,rfl,h1,h2,h3,h4⟩:=h;refine⟨A,c,rfl,h1,h2,h3,fun h0=> ?_⟩
  let⟨b,off,h5,h6,h7,h8⟩:=h4 h0
  refine⟨b,off,h5,fun hm=> ?_,by omega,fun i e he=> ?_⟩
  ·rcases hM b hm with h|h
   ·exact h6 h
   ·omega
  ·let⟨u,h9,h10⟩:=h8 i e he
   exact⟨u,Cl.keep hs hb hM hr h9,World.rangeAt.same h10 (hb b h7 h6)⟩
 |.ref f t,.inr none,_,h=>h
 |.ref f t,.inr (some (k,off,n)),_,h=>by
  have hd:aC<=enc f k:=ZCh _ _;rcases h with⟨A,h1,h2,h3⟩|⟨g,sz,m,c,h1,h2⟩
  ·exact .inl ⟨A,by rw[hr _ hd (by simp_all),h1],h2,h3⟩
  ·exact .inr ⟨g,sz,m,c,by rw[hr _ hd (by simp_all),h1],h2⟩
theorem eR.keep{w w'}{M M'}{ρ ρ'}(hs:w.heap.size<=w'.heap.size)(hb:∀b,b<w.heap.size->¬M b->w'.heap[b]? =w.heap[b]?)(hM:∀g,M' g->M g\/w.heap.size<=g)(hr:dZ ρ ρ')
 {b off}{t}{l}(h:eR w M ρ b off t l)(hlt:b<w.heap.size)(hn:¬M b):eR w' M' ρ' b off t l:=fun i e he=>by
 let⟨u,h9,h10⟩:=h i e he
 exact⟨u,Cl.keep hs hb hM hr h9,World.rangeAt.same h10 (hb b hlt hn)⟩
theorem bK.keep{w w'}{M M'}{ρ ρ'}(hs:w.heap.size<=w'.heap.size)(hb:∀b,b<w.heap.size->¬M b->w'.heap[b]? =w.heap[b]?)(hM:∀g,M' g->M g\/w.heap.size<=g)(hr:dZ ρ ρ')
 {t}{x}{v}(h:bK w M ρ t x v):bK w' M' ρ' t x v:=by
 let⟨vs,h1,h2⟩:=h
 exact⟨vs,Cl.keep hs hb hM hr h1,h2⟩
theorem Cl.dyn{w}{M}{ρ ρ'}(hr:dZ ρ ρ'){t}{x}{vs}(h:Cl w M ρ t x vs):Cl w M ρ' t x vs:=h.keep (ZAL _) (fun _ _ _=>rfl) (fun _ h=>.inl h) hr
theorem bK.dyn{w}{M}{ρ ρ'}(hr:dZ ρ ρ'){t}{x}{v}(h:bK w M ρ t x v):bK w M ρ' t x v:=h.keep (ZAL _) (fun _ _ _=>rfl) (fun _ h=>.inl h) hr
def uU(fs:List Nat)(ρ ρ':Rho):Prop:=∀f k,bA (f%16) fs=true->ρ (enc f k)≠.no->ρ' (enc f k)=ρ (enc f k)
theorem Cl.on{w}{M}{ρ ρ'}{fs}(hs:uU fs ρ ρ'):{t:Ty}->{x:t.den}->{vs:List Value}->t.famIn fs=true->Cl w M ρ t x vs->Cl w M ρ' t x vs
 |.int _,_,_,_,h|.byte,_,_,_,h|.bool,_,_,_,h|.str,_,_,_,h|.opq,_,_,_,h=>h
 |.nat,_,_,_,h=>h.elim
 |.one t,_,_,hn,h=>Cl.on hs (t:=t) hn h
 |.pair a b,_,_,hn,h=>by
  obtain⟨u,v,rfl,h1,h2⟩:=h;simp[Ty.famIn] at hn;exact⟨u,v,rfl,Cl.on hs hn.1 h1,Cl.on hs hn.2 h2⟩
 |.arr n t,l,_,hn,h=>by
  obtain⟨hl,css,h1,rfl,h2⟩:=h;exact⟨hl,css,h1,rfl,fun i e u he hu=>Cl.on hs hn (h2 i e u he hu)⟩
 |.sl t,l,_,hn,h=>by
  obtain⟨A,c,rfl,h1,h2,h3,h4⟩:=h;refine⟨A,c,rfl,h1,h2,h3,fun h0=> ?_⟩
  let⟨b,off,h5,h6,h7,h8⟩:=h4 h0
  refine⟨b,off,h5,h6,h7,fun i e he=> ?_⟩
  let⟨u,h9,h10⟩:=h8 i e he
  exact⟨u,Cl.on hs hn h9,h10⟩
 |.ptr t,l,_,hn,h=>by
  rcases h with h|⟨h1,b,off,rfl,h6,h7,h8⟩
  ·exact .inl h
  refine .inr ⟨h1,b,off,rfl,h6,h7,fun i e he=> ?_⟩
  let⟨u,h9,h10⟩:=h8 i e he
  exact⟨u,Cl.on hs hn h9,h10⟩
 |.ref f t,.inl l,_,hn,h=>by
  simp[Ty.famIn] at hn;obtain⟨A,c,rfl,h1,h2,h3,h4⟩:=h;refine⟨A,c,rfl,h1,h2,h3,fun h0=> ?_⟩
  let⟨b,off,h5,h6,h7,h8⟩:=h4 h0
  refine⟨b,off,h5,h6,h7,fun i e he=> ?_⟩
  let⟨u,h9,h10⟩:=h8 i e he
  exact⟨u,Cl.on hs hn.2 h9,h10⟩
 |.ref f t,.inr none,_,_,h=>h
 |.ref f t,.inr (some (k,off,n)),_,hn,h=>by
  simp[Ty.famIn] at hn;rcases h with⟨A,h1,h2,h3⟩|⟨g,sz,m,c,h1,h2⟩
  ·exact .inl ⟨A,by rw[hs f k hn.1 (by simp_all),h1],h2,h3⟩
  ·exact .inr ⟨g,sz,m,c,by rw[hs f k hn.1 (by simp_all),h1],h2⟩
def Agr(ρ ρ':Rho)(P:List Nat->Bool):Prop:=dZ ρ ρ'\/∃fs,uU fs ρ ρ'/\P fs=true
theorem Agr.inl{ρ ρ'}{P}(h:dZ ρ ρ'):Agr ρ ρ' P:=Or.inl h
theorem Agr.on{ρ ρ'}{P}{fs}(h:uU fs ρ ρ')(hp:P fs=true):Agr ρ ρ' P:=Or.inr ⟨fs,h,hp⟩
theorem Agr.mono{ρ ρ'}{P Q}(h:Agr ρ ρ' P)(hq:∀fs,P fs=true->Q fs=true):Agr ρ ρ' Q:=by
 rcases h with h|⟨fs,h1,h2⟩
 ·exact .inl h
 ·exact .on h1 (hq fs h2)
theorem Cl.to{w}{M}{ρ ρ'}{t}(hd:Agr ρ ρ' fun fs=>t.famIn fs){x}{vs}(h:Cl w M ρ t x vs):Cl w M ρ' t x vs:=by
 rcases hd with hd|⟨fs,h1,h2⟩
 ·exact h.dyn hd
 ·exact h.on h1 h2
theorem bK.to{w}{M}{ρ ρ'}{t}(hd:Agr ρ ρ' fun fs=>t.famIn fs){x}{v}(h:bK w M ρ t x v):bK w M ρ' t x v:=by
 let⟨vs,h1,h2⟩:=h
 exact⟨vs,h1.to hd,h2⟩
theorem eR.to{w}{M}{ρ ρ'}{t}(hd:Agr ρ ρ' fun fs=>t.famIn fs){b off}{l}(h:eR w M ρ b off t l):eR w M ρ' b off t l:=fun i e he=>by
 let⟨u,h1,h2⟩:=h i e he
 exact⟨u,h1.to hd,h2⟩
mutual
def AV.famInT(fs:List Nat):AV->Bool
 |.p t _=>t.famIn fs
 |.pt t _ _ _=>t.famIn fs
 |.rp f _ _ _ _=>bA (f%16) fs
 |.fn _ a c=>AV.famInTL fs a&&AV.famInTL fs c
 |.agg l=>AV.famInTL fs l
 |.tup l=>AV.famInTL fs l
 |_=>true
def AV.famInTL(fs:List Nat):List AV->Bool
 |[]=>true
 |a::l=>a.famInT fs&&AV.famInTL fs l
end
theorem bpZ{fs}:∀{l} {a},AV.famInTL fs l=true->a∈l->a.famInT fs=true
 |[],_,_,h=>by cases h
 |x::l,a,hl,h=>by
  simp[AV.famInTL] at hl;rcases ZAg.1 h with rfl|h
  ·exact hl.1
  ·exact bpZ hl.2 h
def Blk.famInT(fs:List Nat):Blk->Bool
 |.vars c=>AV.famInTL fs c
 |.rows _ t _=>t.famIn fs
 |.map k v _=>k.famIn fs&&v.famIn fs
 |.fmap k l=>k.famIn fs&&l.all fun x=>x.2.famInT fs
 |.fam _ s _=>s.famIn fs
structure Kp (z z':Z):Prop where
 size:z.w.heap.size<=z'.w.heap.size
 block:∀b,b<z.w.heap.size->¬z.M b->z'.w.heap[b]? =z.w.heap[b]?
 subM:∀g,z'.M g->z.M g\/z.w.heap.size<=g
 ext:∀id,z.ρ id≠.no->z'.ρ id=z.ρ id
theorem Nx.kp{z z'}(h:Nx z z')(hs:∀g,z.C g->z.M g):Kp z z':=⟨h.size,fun b hb hM=>h.block b hb fun hC=>hM (hs b hC),h.subM,h.ext⟩
theorem Kp.real{z z'}(k:Kp z z'){id g sz n}(h:z.ρ id= .real g sz n):z'.ρ id= .real g sz n:=by rw[k.ext id (by simp_all),h]
theorem Kp.virt{z z'}(k:Kp z z'){id}(h:z.ρ id= .virt):z'.ρ id= .virt:=by rw[k.ext id (by simp_all),h]
theorem Cl.kp{z z'}(k:Kp z z'){t}{x}{vs}(h:Cl z.w z.M z.ρ t x vs):Cl z'.w z'.M z'.ρ t x vs:=h.keep k.size k.block k.subM (.of k.ext)
theorem bK.kp{z z'}(k:Kp z z'){t}{x}{v}(h:bK z.w z.M z.ρ t x v):bK z'.w z'.M z'.ρ t x v:=h.keep k.size k.block k.subM (.of k.ext)
theorem aF.kp{z z'}{a}{v}(k:Kp z z')(h:aF z a v):aF z' a v:=by
 induction h with
 |p t x v h=>exact .p t x v (h.kp k)
 |pt t l i j b off hM hlt h=>
  refine .pt t l i j b off (fun hm=> ?_) (ZAz hlt k.size) (h.keep k.size k.block k.subM (.of k.ext) hlt hM);rcases k.subM b hm with h|h<;>grind
 |own es id i j g sz n h=>exact .own es id i j g sz n (k.real h)
 |rp f es k' i j g sz n h=>exact .rp f es k' i j g sz n (k.real h)
 |slV es id off A h=>exact .slV es id off A (k.virt h)
 |slE es id off g sz m o h=>exact .slE es id off g sz m o (k.real h)
 |sl es id off n g sz m c h hn hs hm=>exact .sl es id off n g sz m c (k.real h) hn hs hm
 |slfV es id A h=>exact .slfV es id A (k.virt h)
 |slf es id g sz n c h hn hs hm=>exact .slf es id g sz n c (k.real h) hn hs hm
 |mp id g sz n h=>exact .mp id g sz n (k.real h)
 |fn f a c va vc ha hc h1 h2 ih1 ih2=>exact .fn f a c va vc ha hc ih1 ih2
 |agg l cs hs h1 h ih=>exact .agg l cs hs h1 ih
 |tup l vs hs h ih=>exact .tup l vs hs ih
 |junk v=>exact .junk v
theorem fX.kp{z z'}(k:Kp z z'){g sz n}{b}(h:fX z g sz n b)(hg:z'.w.heap[g]? =z.w.heap[g]?):fX z' g sz n b:=by
 cases b with
 |vars c=>
  let⟨cs,e,fr,a1,a2,a3,a4,a5,a6⟩:=h
  exact⟨cs,e,fr,hg.trans a1,a2,a3,a4,fun i a v x y=>(a5 i a v x y).kp k,a6⟩
 |rows e t l=>
  let⟨cs,fr,a1,a2,a3,a4,a5,a6,a7⟩:=h
  refine⟨cs,fr,hg.trans a1,a2,a3,a4,a5,a6,fun i x hx=> ?_⟩
  let⟨u,b1,b2⟩:=a7 i x hx
  exact⟨u,b1.kp k,b2⟩
 |map kt vt m=>
  let⟨es,a1,a2,a3,a4⟩:=h
  exact⟨es,hg.trans a1,a2,fun i x e q1 q2=>⟨(a3 i x e q1 q2).1.kp k,(a3 i x e q1 q2).2.1.kp k,(a3 i x e q1 q2).2.2⟩,a4⟩
 |fmap kt l=>
  let⟨es,clock,a1,a2,a3⟩:=h
  exact⟨es,clock,hg.trans a1,a2,fun i x e q1 q2=>⟨(a3 i x e q1 q2).1.kp k,(a3 i x e q1 q2).2.kp k⟩⟩
 |fam e s ms=>exact h.elim
theorem dX.kp{z z'}(k:Kp z z'){id}{e}(h:dX z id e)
 (hb:∀g sz n,z.ρ id= .real g sz n->z'.w.heap[g]? =z.w.heap[g]? /\(z.C g->z'.C g)):dX z' id e:=by
 unfold dX at*;cases hρ:z.ρ id with
 |no=>simp_all
 |virt=>rw[k.virt hρ];simp_all
 |real g sz n=>
  rw[k.real hρ];rw[hρ] at h
  let⟨h1,h2,h3,h4⟩:=h
  let⟨hg,hC⟩:=hb g sz n hρ
  refine⟨ZAz h1 k.size,fun hf=>hC (h2 hf),fun hf hm=> ?_,h4.kp k hg⟩;rcases k.subM g hm with h|h<;>grind
theorem afZ(a b:Nat):(Nat.beq a b=true)↔a=b:=⟨ZCA,fun h=>by simp_all⟩
theorem ahZ{a b:Nat}(h:a≠b):Nat.beq a b=false:=by
 grind[afZ]
theorem apZ(H)(id)(e)(k):aG (aS H id e) k=if k=id then e else aG H k:=by
 induction H with
 |nil=>by_cases h:k=id
       ·subst h;simp[aS,aG]
       simp_all[aS,aG,ahZ,ZBf]
 |cons x H ih=>
  let⟨i,y⟩:=x
  by_cases hi:i=id
  ·subst hi;simp[aS,aG];by_cases h:k=i
   ·subst h;simp
   simp_all[ahZ,ZBf]
  ·simp[aS,ahZ hi,aG]
   grind[afZ,ahZ]
theorem atZ(H)(id)(e)(k):aN (aS H id e) k=(decide (k=id)||aN H k):=by
 induction H with
 |nil=>by_cases h:k=id
       ·subst h;simp[aS,aN]
       simp_all[aS,aN,ahZ,ZBf]
 |cons x H ih=>
  let⟨i,y⟩:=x
  by_cases hi:i=id
  ·subst hi;simp[aS,aN]
   simp_all
  ·simp[aS,ahZ hi,aN]
   grind
theorem ajZ{H}{id}{e}(h:aG H id=some e):aN H id=true:=by
 induction H with
 |nil=>cases h
 |cons x H ih=>
  simp only[aG,aN] at*
  grind
@[simp] theorem bq_true{α}(x y:α):bq true x y=x:=rfl
@[simp] theorem bq_false{α}(x y:α):bq false x y=y:=rfl
theorem aUZ{β}{t u}{K}{E}{r:β}(h:dq t u K E=some r):(∃e,K e=some r)\/E=some r:=by
 unfold dq at h;split at h<;>grind
theorem adZ{β}{b}{K}{r:β}:aP b K=some r↔b=true/\K=some r:=by cases b<;>simp[aP]
theorem agZ{α β}{x}{f:α->Option β}{r}:x.ob f=some r↔∃a,x=some a/\f a=some r:=by cases x<;>simp[Option.ob]
section
variable {z : Z} {H : Hp}
theorem eAZ:aA+16=aC:=by simp[aA,aC]
theorem aZZ{id}(h:id<aC):rt id=id:=ZAM (ZBR.2 h)
theorem bOZ{id}(h:aC<=id):aA<=rt id/\rt id<aC:=by
 unfold rt;rw[ZAN h];have h2:=eAZ;omega
theorem dVZ(f k):rt (enc f k)=bB f:=by
 unfold rt;rw[ZAN (show aC<=enc f k from ZCh _ _)];have h:(enc f k-aC)%16=f%16:=by unfold enc;omega
 rw[h]
 rfl
theorem n1Z(f k):(enc f k-aC)/16=k:=by
 grind[enc,aC]
theorem vnZ{id}(h:aC<=id):∃f k,f<16/\id=enc f k:=by
 refine⟨(id-aC)%16,(id-aC)/16,ZCn _ (by omega),?_⟩
 grind[enc]
theorem iHZ{f f' k k'}(h:enc f k=enc f' k'):f%16=f'%16/\k=k':=by
 grind[enc]
theorem ckZ(f k):aC<=enc f k:=ZCh _ _
theorem bVZ(f):aA<=bB f/\bB f<aC:=by
 have h2:=eAZ;unfold bB;omega
theorem aqZ{H}{id}(h:id<aA):aQ H id=aG H id:=by
 unfold aQ;rw[ZAM (ZBR.2 (Nat.lt_trans h (show aA<aC by decide))),ZAM (ZBR.2 h)]
theorem aDZ{H}{id}(h:id<aA):cQ H id=aN H id:=by
 unfold cQ;rw[ZAM (ZBR.2 (Nat.lt_trans h (show aA<aC by decide))),ZAM (ZBR.2 h)]
theorem a8Z{H}{id}(h:aC<=id):aQ H id=(aG H (rt id)).bind (pick ((id-aC)/16)):=ZAN h
theorem azZ{H}{id}(h:aC<=id):cQ H id=(match aG H (rt id) with|some e=>e.has ((id-aC)/16)|none=>aN H (rt id)):=ZAN h
theorem cKZ(H)(f k):aQ H (enc f k)=(aG H (bB f)).bind (pick k):=by simp_all[a8Z,ckZ,dVZ,n1Z]
theorem ctZ{H H'}{id}(h:aG H' (rt id)=aG H (rt id)):aQ H' id=aQ H id:=by
 by_cases hd:aC<=id
 ·rw[a8Z hd,a8Z hd,h]
 simp_all[aQ,aZZ]
theorem dGZ{H H'}{id}(h:aG H' (rt id)=aG H (rt id))(hk:aN H' (rt id)=aN H (rt id)):cQ H' id=cQ H id:=by
 by_cases hd:aC<=id
 ·rw[azZ hd,azZ hd,h,hk]
 simp_all[cQ,aZZ]
theorem a9Z{id}(hid:id<aA)(H)(e)(k):aQ (aS H id e) k=if k=id then e else aQ H k:=by
 by_cases h:k=id
 ·simp_all[aqZ,apZ]
 ·rw[ZAM h];refine ctZ ?_;rw[apZ]
  grind[bOZ,aZZ,ZBR]
theorem bxZ{id}(hid:id<aA)(H)(e)(k):cQ (aS H id e) k=(decide (k=id)||cQ H k):=by
 by_cases h:k=id
 ·simp_all[aDZ,atZ]
 ·have hne:rt k≠id:=by
   intro e;by_cases hd:aC<=k
   ·have:=(bOZ hd).1;omega
   ·exact h (by rw[<-aZZ (ZBR.1 hd)];exact e)
  rw[dGZ (H:=H) (by rw[apZ,ZAM hne]) (by rw[atZ];simp[hne])]
  grind
theorem aH.low(hH:aH z H){id}{e}(h:aG H id=some e)(hn:z.ρ id≠.no):id<aA:=by
 have h1:=hH.key _ (ajZ h);rcases ZBy id aA with h2|h2
 ·omega
 ·exact absurd (hH.nos id h2 h1) hn
theorem aH.x(hH:aH z H){id}{e}(h:aG H id=some e)(hn:z.ρ id≠.no):aQ H id=some e:=by
 rw[aqZ (hH.low h hn)];exact h
theorem aVZ{r:RB}{g sz n}(h:r= .real g sz n):r≠.no:=by simp_all
theorem pkZ{r:RB}(h:r= .virt):r≠.no:=by simp_all
theorem aH.realX(hH:aH z H){id}{e}(h:aQ H id=some e){g sz n}(hρ:z.ρ id= .real g sz n):
 g<z.w.heap.size/\(e.fz=false->z.C g)/\(e.fz=true->¬z.M g)/\fX z g sz n e.b:=by
 have:=hH.ent _ _ h
 simp_all[dX]
theorem aH.real(hH:aH z H){id}{e}(h:aG H id=some e){g sz n}(hρ:z.ρ id= .real g sz n):
 g<z.w.heap.size/\(e.fz=false->z.C g)/\(e.fz=true->¬z.M g)/\fX z g sz n e.b:=hH.realX (hH.x h (aVZ hρ)) hρ
theorem aH.virt(hH:aH z H){id}{e}(h:aG H id=some e)(hρ:z.ρ id= .virt):oK e.b:=by
 have:=hH.ent _ _ (hH.x h (pkZ hρ))
 simp_all[dX]
theorem aH.ne(hH:aH z H){id id'}{e e'}{g sz n g' sz' n'}(hi:id≠id')(h:aQ H id=some e)(h':aQ H id'=some e')(hf:e'.fz=false)(hρ:z.ρ id= .real g sz n)(hρ':z.ρ id'= .real g' sz' n')(hr:¬(Ro id/\Ro id')):g≠g':=by
 cases he:e.fz
 ·exact hH.inj id id' e e' g sz n g' sz' n' hi h h' he hf hρ hρ' hr
 ·rintro rfl;exact(hH.realX h hρ).2.2.1 he (hH.sub _ ((hH.realX h' hρ').2.1 hf))
theorem fX.famOk{g sz n id}{b}{fz}(h:fX z g sz n b)(hid:id<aA):famOk id ⟨fz,b⟩:=by
 cases b with
 |fam e s ms=>exact h.elim
 |_=>exact hid
theorem oK.famOk{id}{b}{fz}(h:oK b)(hid:id<aA):famOk id ⟨fz,b⟩:=by
 cases b with
 |fam e s ms=>exact h.elim
 |_=>exact hid
theorem famOk.other{id}{e}(h:Ab.famOk id e)(hid:id<aA)(id')(hid':id'<aA)(fz):Ab.famOk id' ⟨fz,e.b⟩:=by
 let⟨fz0,b⟩:=e
 cases b with
 |fam e s ms=>have:=h.1;omega
 |_=>exact hid'
theorem aH.side{z':Z}{id}{e}(hH:aH z H)(hid:id<aA)(hf:∀x,e=some x->Ab.famOk id x)(hD:z'.D=z.D)(hρ:∀i,aA<=i->i<aC->z'.ρ i=z.ρ i):
 (∀i x,aG (aS H id e) i=some x->Ab.famOk i x)/\(∀i,aN (aS H id e) i=true->i<aC)/\(∀i,aC<=i->aN (aS H id e) (rt i)=true->¬z'.D i)/\∀i,aA<=i->i<aC->z'.ρ i= .no:=by
 have h0:aA<aC:=by decide
 refine⟨fun i x h=> ?_,fun i h=> ?_,fun i hd h=> ?_,fun i h1 h2=>by rw[hρ i h1 h2];exact hH.nos i h1 h2⟩
 ·rw[apZ] at h;by_cases hi:i=id
  ·simp_all
  ·rw[ZAM hi] at h;exact hH.fam i x h
 ·rw[atZ] at h;simp[ZAt] at h;rcases h with rfl|h
  ·omega
  ·exact hH.key i h
 ·rw[atZ] at h;have h1:=(bOZ hd).1;have:rt i≠id:=by omega
  simp[this,Bool.false_or] at h;rw[hD];exact hH.dyn i hd h
structure Upd (H:Hp) (id:Nat) (b:Blk) (H':Hp):Prop where
 X:∀i,aQ H' i=if i=id then some ⟨false,b⟩ else aQ H i
 K:∀i,cQ H' i=false->cQ H i=false
 fam:∀i x,aG H' i=some x->(aG H i=some x\/Ab.famOk i x)
 key:∀i,aN H' i=true->aN H i=true
theorem Upd.stat{id}{b0 b}(hid:id<aA)(hg:aG H id=some ⟨false,b0⟩)(hf:Ab.famOk id ⟨false,b⟩):Upd H id b (aS H id (some ⟨false,b⟩)):=by
 refine⟨fun i=>a9Z hid _ _ i,fun i hi=> ?_,fun i x h=> ?_,fun i h=> ?_⟩
 ·simp_all[bxZ]
 ·rw[apZ] at h
  grind
 ·rw[atZ] at h
  grind[ajZ]
theorem jcZ{id}(h:aC<=id){f}(hr:rt id=bB f):∃k,id=enc f k:=by
 obtain⟨f',k,hf,rfl⟩:=vnZ h;rw[dVZ] at hr;have:=by
  unfold bB at hr;omega
 exact⟨k,by simp_all[enc]⟩
theorem bIZ(H)(f)(e)(i):(∀k,aQ (aS H (bB f) e) (enc f k)=e.bind (pick k))/\((∀k,i≠enc f k)->aQ (aS H (bB f) e) i=aQ H i):=by
 refine⟨fun k=> ?_,fun h=> ?_⟩
 ·rw[cKZ,apZ,ZAN rfl]
 ·by_cases hd:aC<=i
  ·refine ctZ ?_;rw[apZ]
   grind[jcZ]
  ·unfold aQ;rw[ZAM hd];split
   ·rfl
   ·rw[apZ]
    grind[bVZ]
theorem cbZ(H)(f)(e)(i):(∀k,cQ (aS H (bB f) (some e)) (enc f k)=e.has k)/\((∀k,i≠enc f k)->cQ (aS H (bB f) (some e)) i=cQ H i):=by
 refine⟨fun k=> ?_,fun h=> ?_⟩
 ·rw[azZ (ckZ f k),dVZ,n1Z,apZ,ZAN rfl]
 ·by_cases hd:aC<=i
  ·have hne:rt i≠bB f:=fun hr=>by
    grind[jcZ]
   exact dGZ (by rw[apZ,ZAM hne]) (by simp_all[atZ])
  ·unfold cQ
   grind[bVZ,atZ]
theorem gtZ{f k}{fz}{e}{s}{ms}{m}(hg:aG H (bB f)=some ⟨fz,.fam e s ms⟩)(hm:ms[k]? =some m)(h0:m.1≠0):
 aQ H (enc f k)=some ⟨fz||Nat.ble 2 m.1,.rows e s m.2⟩:=by
 simp_all[cKZ,pick]
theorem Upd.mem{f k}{e}{s}{ms}{m}(hg:aG H (bB f)=some ⟨false,.fam e s ms⟩)(hf:Ab.famOk (bB f) ⟨false,.fam e s ms⟩)(hm:ms[k]? =some m)(l'):
 Upd H (enc f k) (.rows e s l') (aS H (bB f) (some ⟨false,.fam e s (ms.set k (1,l'))⟩)):=by
 have hlt:=(ZAB.1 hm).1;refine⟨fun i=> ?_,fun i hi=> ?_,fun i x h=> ?_,fun i h=> ?_⟩
 ·by_cases hi:∃k',i=enc f k'
  ·obtain⟨k',rfl⟩:=hi;rw[(bIZ H f _ 0).1 k'];by_cases hk:k'=k
   ·subst hk;rw[ZAN rfl];simp[pick];rw[ZAU hlt]
    rfl
   ·rw[ZAM fun h=>hk (iHZ h).2,cKZ,hg];simp[pick];rw[ZAa (ZBf hk)]
  simp_all[bIZ]
 ·by_cases hi':∃k',i=enc f k'
  ·obtain⟨k',rfl⟩:=hi';rw[(cbZ H f _ 0).1 k'] at hi;rw[azZ (ckZ f k'),dVZ,n1Z,hg];simpa[Ent.has] using hi
  simp_all[cbZ]
 ·rw[apZ] at h;by_cases hi:i=bB f
  ·rw[ZAN hi] at h;cases h;rw[hi];exact .inr hf
  simp_all
 ·rw[atZ] at h;simp[ZAt] at h
  grind[ajZ]
theorem aH.writeX{id g sz n}{b0 b}{w'}{H'}(hH:aH z H)(hg:aQ H id=some ⟨false,b0⟩)(hρ:z.ρ id= .real g sz n)
 (hos:w'.os=z.w.os)(htape:w'.tape=z.w.tape/\z.w.drawn<=w'.drawn)(hout:w'.output=z.w.output)(hsz:w'.heap.size=z.w.heap.size)(hne:∀b,b≠g->w'.heap[b]? =z.w.heap[b]?)
 (hb:Kp z {z with w:=w'}->fX {z with w:=w'} g sz n b)(hu:Upd H id b H')(hr:¬Ro id):aH {z with w:=w'} H'/\Nx z {z with w:=w'}:=by
 have hC:=(hH.realX hg hρ).2.1 rfl;have hn:Nx z {z with w:=w'}:=⟨hos,htape,hout,Nat.le_of_eq hsz.symm,fun b _ hb=>hne b (fun h=>hb (h▸hC)),fun _ h=>.inl h,fun _ h=>.inl h,fun _ _ h _=>h,fun _ _=>rfl,rfl⟩;have hk:=hn.kp hH.sub;refine⟨⟨fun i e hi=> ?_,fun i i' e e' a sa na a' sa' na' hii h1 h2 m1 m2 h3 h4=> ?_,fun i hi=>hH.fresh i (hu.K i hi),hH.sub,fun i x h=>(hu.fam i x h).elim (hH.fam i x) fun h=>h,fun i h=>hH.key i (hu.key i h),fun i hd h=>hH.dyn i hd (hu.key _ h),hH.nos⟩,hn⟩
 ·rw[hu.X] at hi;by_cases h:i=id
  ·subst h;rw[ZAN rfl] at hi;injection hi with hi;subst hi;unfold dX;show match z.ρ i with|.no=>False|.virt=>oK b|.real g sz n=>_
   rw[hρ];exact⟨by show g<w'.heap.size;rw[hsz];exact(hH.realX hg hρ).1,fun _=>hC,(fun h=>by cases h),hb hk⟩
  ·rw[ZAM h] at hi;refine(hH.ent _ _ hi).kp hk fun a sa na ha=>⟨hne a (fun hag=> ?_),fun h=>h⟩;subst hag;exact hH.ne h hi hg rfl ha hρ (fun h=>hr h.2) rfl
 ·rw[hu.X] at h1 h2;have q:∀j ee,(if j=id then some (⟨false,b⟩:Ent) else aQ H j)=some ee->ee.fz=false->∃ee',aQ H j=some ee'/\ee'.fz=false:=fun j ee hj hf=>by
   by_cases h:j=id
   ·subst h;exact⟨_,hg,rfl⟩
   ·rw[ZAM h] at hj;exact⟨_,hj,hf⟩
  obtain⟨e1,q1,f1⟩:=q _ _ h1 m1;obtain⟨e2,q2,f2⟩:=q _ _ h2 m2;exact hH.inj i i' _ _ _ _ _ _ _ _ hii q1 q2 f1 f2 h3 h4
theorem aH.write{id g sz n}{b0 b}{w'}(hH:aH z H)(hg:aG H id=some ⟨false,b0⟩)(hρ:z.ρ id= .real g sz n)
 (hos:w'.os=z.w.os)(htape:w'.tape=z.w.tape/\z.w.drawn<=w'.drawn)(hout:w'.output=z.w.output)(hsz:w'.heap.size=z.w.heap.size)(hne:∀b,b≠g->w'.heap[b]? =z.w.heap[b]?)
 (hb:Kp z {z with w:=w'}->fX {z with w:=w'} g sz n b):aH {z with w:=w'} (aS H id (some ⟨false,b⟩))/\Nx z {z with w:=w'}:=by
 have hC:=(hH.real hg hρ).2.1 rfl;have hid:=hH.low hg (aVZ hρ);have hn:Nx z {z with w:=w'}:=⟨hos,htape,hout,Nat.le_of_eq hsz.symm,fun b _ hb=>hne b (fun h=>hb (h▸hC)),fun _ h=>.inl h,fun _ h=>.inl h,fun _ _ h _=>h,fun _ _=>rfl,rfl⟩;exact hH.writeX (hH.x hg (aVZ hρ)) hρ hos htape hout hsz hne hb (.stat hid hg ((hb (hn.kp hH.sub)).famOk hid)) (bSZ hid)
theorem aH.new{id g sz n}{b}{w'}(hH:aH z H)(hk:aN H id=false/\id<aA)(hd:¬z.D id)(hg:z.w.heap.size<=g)(hg':g<w'.heap.size)
 (hos:w'.os=z.w.os)(htape:w'.tape=z.w.tape/\z.w.drawn<=w'.drawn)(hout:w'.output=z.w.output)(hsz:z.w.heap.size<=w'.heap.size)(hold:∀k,k<z.w.heap.size->w'.heap[k]? =z.w.heap[k]?)
 (hb:∀z',z'.w=w'->Kp z z'->fX z' g sz n b):
 ∃z',z'.w=w'/\aH z' (aS H id (some ⟨false,b⟩))/\Nx z z'/\z'.ρ id= .real g sz n:=by
 obtain⟨hk,hid⟩:=hk;have hno:=(hH.fresh id (by simp_all[aDZ])).resolve_right hd
 let z':Z:=⟨w',fun x=>z.M x\/x=g,fun x=>z.C x\/x=g,fun i=>if i=id then .real g sz n else z.ρ i,z.D⟩
 have e1:∀i,i≠id->z'.ρ i=z.ρ i:=fun i hi=>ZAM hi;have e2:z'.ρ id= .real g sz n:=ZAN rfl;have hn:Nx z z':=⟨hos,htape,hout,hsz,fun b hb _=>hold b hb,fun x hx=>hx.elim .inl fun h=>.inr (by omega),fun x hx=>hx.elim .inl fun h=>.inr (by omega),
  fun _ _ h _=>.inl h,fun i hi=>e1 i (by grind),rfl⟩
 have hkp:=hn.kp hH.sub;have hreal:∀i e a sa na,aQ H i=some e->z.ρ i= .real a sa na->a<z.w.heap.size:=fun i e a sa na h1 h2=>(hH.realX h1 h2).1;have s:=hH.side (z':=z') (e:=some ⟨false,b⟩) hid (fun x hx=>by injection hx with hx;subst hx;exact(hb z' rfl hkp).famOk hid) rfl (fun i h1 _=>e1 i (by omega));refine⟨z',rfl,⟨fun i e hi=> ?_,fun i i' e e' a sa na a' sa' na' hii h1 h2 m1 m2 h3 h4=> ?_,fun i hi=> ?_,fun x hx=>hx.elim (fun h=>.inl (hH.sub x h)) .inr,s.1,s.2.1,s.2.2.1,s.2.2.2⟩,hn,e2⟩
 ·rw[a9Z hid] at hi;by_cases h:i=id
  ·subst h;rw[ZAN rfl] at hi;injection hi with hi;subst hi;unfold dX;rw[e2];exact⟨hg',fun _=>.inr rfl,(fun h=>by cases h),hb z' rfl hkp⟩
  ·rw[ZAM h] at hi;refine(hH.ent _ _ hi).kp hkp fun a sa na ha=>⟨hold a (hreal _ _ _ _ _ hi ha),.inl⟩
 ·rw[a9Z hid] at h1 h2;by_cases hi:i=id
  ·have hi':i'≠id:=fun h=>hii (hi.trans h.symm);rw[ZAM hi'] at h2;rw[hi,e2] at h3;rw[e1 _ hi'] at h4;injection h3 with h3;have:=hreal _ _ _ _ _ h2 h4;intro _;omega
  ·rw[ZAM hi] at h1;rw[e1 _ hi] at h3;by_cases hi':i'=id
   ·rw[hi',e2] at h4;injection h4 with h4;have:=hreal _ _ _ _ _ h1 h3;intro _;omega
   ·rw[ZAM hi'] at h2;rw[e1 _ hi'] at h4;exact hH.inj i i' _ _ _ _ _ _ _ _ hii h1 h2 m1 m2 h3 h4
 ·rw[bxZ hid] at hi;simp at hi;rw[e1 _ hi.1];exact hH.fresh i hi.2
theorem aH.newV{id}{b}(hH:aH z H)(hk:aN H id=false/\id<aA)(hd:¬z.D id)(hb:oK b):
 ∃z',z'.w=z.w/\aH z' (aS H id (some ⟨false,b⟩))/\Nx z z'/\z'.ρ id= .virt:=by
 let⟨hk,hid⟩:=hk
 have hno:=(hH.fresh id (by simp_all[aDZ])).resolve_right hd
 let z':={z with ρ:=fun i=>if i=id then .virt else z.ρ i}
 have e1:∀i,i≠id->z'.ρ i=z.ρ i:=fun i hi=>ZAM hi;have e2:z'.ρ id= .virt:=ZAN rfl;have hn:Nx z z':=⟨rfl,⟨rfl,ZAL _⟩,rfl,ZAL _,fun _ _ _=>rfl,fun _ h=>.inl h,fun _ h=>.inl h,fun _ _ h _=>h,fun i hi=>e1 i (by grind),rfl⟩;have hkp:=hn.kp hH.sub;have s:=hH.side (z':=z') (e:=some ⟨false,b⟩) hid (fun x hx=>by cases hx;exact hb.famOk hid) rfl (fun i h1 _=>e1 i (by omega));refine⟨z',rfl,⟨fun i e hi=> ?_,fun i i' e e' a sa na a' sa' na' hii h1 h2 m1 m2 h3 h4=> ?_,fun i hi=> ?_,hH.sub,s.1,s.2.1,s.2.2.1,s.2.2.2⟩,hn,e2⟩
 ·rw[a9Z hid] at hi;by_cases h:i=id
  ·subst h;rw[ZAN rfl] at hi
   grind[dX]
  ·rw[ZAM h] at hi;exact(hH.ent _ _ hi).kp hkp fun a sa na ha=>⟨rfl,fun h=>h⟩
 ·rw[a9Z hid] at h1 h2;by_cases hi:i=id
  ·rw[hi,e2] at h3;cases h3
  ·by_cases hi':i'=id
   ·rw[hi',e2] at h4;cases h4
   ·rw[ZAM hi] at h1;rw[ZAM hi'] at h2;rw[e1 _ hi] at h3;rw[e1 _ hi'] at h4;exact hH.inj i i' _ _ _ _ _ _ _ _ hii h1 h2 m1 m2 h3 h4
 ·rw[bxZ hid] at hi;simp at hi;rw[e1 _ hi.1];exact hH.fresh i hi.2
theorem aH.kill{id}(hH:aH z H)(hk:aN H id=true):aH z (aS H id none):=by
 have q:∀j ee,aQ (aS H id none) j=some ee->aQ H j=some ee:=fun j ee hj=>by
  by_cases hi:rt j=id
  ·exfalso;by_cases hd:aC<=j
   ·simp_all[a8Z,apZ,ZAN]
   ·rw[aZZ (ZBR.1 hd)] at hi
    simp_all[aQ,ZAM,apZ,ZAN]
  ·rwa [ctZ (H:=H) (by rw[apZ,ZAM hi])] at hj
 have hkk:∀j,aN (aS H id none) j=aN H j:=fun j=>by
  simp_all[atZ]
 refine⟨fun i e hi=>hH.ent _ _ (q _ _ hi),fun i i' e e' a sa na a' sa' na' hii h1 h2 m1 m2 h3 h4=>hH.inj i i' _ _ _ _ _ _ _ _ hii (q _ _ h1) (q _ _ h2) m1 m2 h3 h4,fun i hi=> ?_,hH.sub,fun i x h=> ?_,fun i h=>hH.key i (by simp_all),fun i hd h=>hH.dyn i hd (by simp_all),hH.nos⟩
 ·refine hH.fresh i ?_;by_cases h:rt i=id
  ·by_cases hd:aC<=i
   ·rw[azZ hd,apZ,ZAN h] at hi;simp only at hi;rw[hkk,h,hk] at hi;cases hi
   simp_all[aZZ,ZBR,cQ,ZAM]
  ·rwa [dGZ (by rw[apZ,ZAM h]) (hkk _)] at hi
 ·rw[apZ] at h;split at h
  ·cases h
  ·exact hH.fam i x h
theorem m8Z(id)(hH:aH z H):∃z',z'.w=z.w/\aH z' (frz H id)/\Nx z z'/\z'.ρ=z.ρ:=by
 unfold frz;by_cases hid:Nat.ble aA id=true
 ·rw[hid];exact⟨z,rfl,hH,Nx.refl z,rfl⟩
 have hid':=ZBR.1 fun h=>hid (ZAi h);rw[Bool.eq_false_iff.2 hid,bq_false];split
 ·rename_i e he;have heX:aQ H id=some e:=by rw[aqZ hid'];exact he
  have qm:∀j ee,(if j=id then some (⟨true,e.b⟩:Ent) else aQ H j)=some ee->ee.fz=false->aQ H j=some ee/\j≠id:=fun j ee hj hf=>by
   by_cases h:j=id
   ·rw[ZAN h] at hj;injection hj with hj;rw[<-hj] at hf;cases hf
   ·rw[ZAM h] at hj;exact⟨hj,h⟩
  have hinj:∀i i' (ee ee') g sz n g' sz' n',i≠i'->aQ (aS H id (some ⟨true,e.b⟩)) i=some ee->aQ (aS H id (some ⟨true,e.b⟩)) i'=some ee'->ee.fz=false->ee'.fz=false->z.ρ i= .real g sz n->z.ρ i'= .real g' sz' n'->¬(Ro i/\Ro i')->g≠g':=fun i i' ee ee' a sa na a' sa' na' hii h1 h2 m1 m2 h3 h4=>by
   rw[a9Z hid'] at h1 h2;exact hH.inj i i' _ _ _ _ _ _ _ _ hii (qm _ _ h1 m1).1 (qm _ _ h2 m2).1 m1 m2 h3 h4
  have hfresh:∀i,cQ (aS H id (some ⟨true,e.b⟩)) i=false->z.ρ i= .no\/z.D i:=fun i hi=>by
   rw[bxZ hid'] at hi;simp at hi;exact hH.fresh i hi.2
  have hs:∀z':Z,z'.D=z.D->z'.ρ=z.ρ->_:=fun z' h1 h2=>hH.side (e:=some ⟨true,e.b⟩) hid' (fun x hx=>by cases hx;exact(hH.fam id e he).other hid' id hid' true) h1 (fun i _ _=>by rw[h2]);by_cases hz:∃g sz n,z.ρ id= .real g sz n
  ·let⟨g,sz,n,hρ⟩:=hz
   by_cases hfz:e.fz=true
   ·have s:=hs z rfl rfl;refine⟨z,rfl,⟨fun i ee hi=> ?_,hinj,hfresh,hH.sub,s.1,s.2.1,s.2.2.1,s.2.2.2⟩,Nx.refl z,rfl⟩;rw[a9Z hid'] at hi;by_cases h:i=id
    ·subst h;rw[ZAN rfl] at hi;cases hi;have:=hH.ent _ _ heX;unfold dX at*;rw[hfz] at this;exact this
    ·rw[ZAM h] at hi;exact hH.ent _ _ hi
   ·have hff:=by simpa using hfz
    have hC:=(hH.real he hρ).2.1 hff
    let z':={z with M:=fun x=>z.M x/\x≠g,C:=fun x=>z.C x/\x≠g}
    have hn:Nx z z':=⟨rfl,⟨rfl,ZAL _⟩,rfl,ZAL _,fun _ _ _=>rfl,fun x hx=>.inl hx.1,fun x hx=>.inl hx.1,fun x _ hM hx=>⟨hM,fun h=>hx (h▸hC)⟩,fun _ _=>rfl,rfl⟩;have hkp:=hn.kp hH.sub;have s:=hs z' rfl rfl;refine⟨z',rfl,⟨fun i ee hi=> ?_,hinj,hfresh,fun x hx=>⟨hH.sub x hx.1,hx.2⟩,s.1,s.2.1,s.2.2.1,s.2.2.2⟩,hn,rfl⟩;rw[a9Z hid'] at hi;by_cases h:i=id
    ·subst h;rw[ZAN rfl] at hi;cases hi
     let⟨h1,h2,h3,h4⟩:=hH.real he hρ
     unfold dX;rw[(hρ)];exact⟨h1,(fun h=>by cases h),fun _ h=>h.2 rfl,h4.kp hkp rfl⟩
    ·rw[ZAM h] at hi;have h0:=hH.ent _ _ hi;unfold dX at h0⊢;cases hρi:z.ρ i with
     |no=>rw[hρi] at h0;exact h0.elim
     |virt=>rw[hρi] at h0;exact h0
     |real a sa na=>
      rw[hρi] at h0
      let⟨b1,b2,b3,b4⟩:=h0
      exact⟨b1,fun hf=>⟨b2 hf,hH.ne h hi heX hff hρi hρ fun h=>bSZ hid' h.2⟩,fun hf hm=>b3 hf hm.1,b4.kp hkp rfl⟩
  ·have s:=hs z rfl rfl;refine⟨z,rfl,⟨fun i ee hi=> ?_,hinj,hfresh,hH.sub,s.1,s.2.1,s.2.2.1,s.2.2.2⟩,Nx.refl z,rfl⟩;rw[a9Z hid'] at hi;by_cases h:i=id
   ·subst h;rw[ZAN rfl] at hi;cases hi;have h0:=hH.ent _ _ heX;unfold dX at*;cases hρ:z.ρ i with
    |no=>rw[hρ] at h0;exact h0
    |virt=>rw[hρ] at h0;exact h0
    |real g sz n=>exact absurd ⟨g,sz,n,hρ⟩ hz
   ·rw[ZAM h] at hi;exact hH.ent _ _ hi
 grind[Nx.refl]
theorem qgZ(a)(hH:aH z H):∃z',z'.w=z.w/\aH z' (CR H a)/\Nx z z'/\z'.ρ=z.ρ:=by
 unfold CR;split
 ·exact m8Z _ hH
 ·exact m8Z _ hH
 ·exact m8Z _ hH
 grind[Nx.refl]
end
section
variable {z : Z}
theorem bK.scal{w}{M}{ρ}{t}{x}{v}(h:bK w M ρ t x v)(ht:t.isAgg=false)(hc:t.cells=1):Cl w M ρ t x [v]:=by
 let⟨vs,h1,h2⟩:=h
 have hl:=h1.len
 match vs,hl with
 |[u],_=>simp_all
 |[],hl=>simp_all
 |_::_::_,hl=>simp_all
theorem bK.int{w}{M}{ρ}{k}{n:Int}{v}(h:bK w M ρ (.int k) n v):v= .int k n:=by
 have:=h.scal rfl rfl
 simp_all[Cl,ZBp]
theorem bK.bool{w}{M}{ρ}{b:Bool}{v}(h:bK w M ρ .bool b v):v= .bool b:=by
 have:=h.scal rfl rfl
 simp_all[Cl,ZBp]
theorem bK.str{w}{M}{ρ}{l:List UInt8}{v}(h:bK w M ρ .str l v):v= .string ⟨⟨l⟩⟩:=by
 have:=h.scal rfl rfl
 simp_all[Cl,ZBp]
theorem bK.opq{w}{M}{ρ}{x v:Value}(h:bK w M ρ .opq x v):v=x/\x.oneCell'=true:=by
 have:=h.scal rfl rfl
 simp_all[Cl,ZBp]
theorem bK.sl{w}{M}{ρ}{t}{l:List t.den}{v}(h:bK w M ρ (.sl t) l v):
 ∃A c,v= .slice A l.length c/\l.length<=c/\c<=maxLen/\(A=none->c=0)/\(l.length≠0->∃b off,A=some ⟨b,off,none⟩/\¬M b/\b<w.heap.size/\eR w M ρ b off t l):=by
 have:=h.scal rfl rfl
 let⟨A,c,h1,h2⟩:=this
 simp[ZBp] at h1;exact⟨A,c,h1,h2⟩
theorem bK.mkSc{w}{M}{ρ}{t}{x}{v}(h:Cl w M ρ t x [v])(ht:t.isAgg=false):bK w M ρ t x v:=⟨[v],h,by simp_all⟩
theorem bK.mkI{w}{M}{ρ}(k)(n:Int):bK w M ρ (.int k) n (.int k n):=.mkSc rfl rfl
theorem bK.mkB{w}{M}{ρ}(b:Bool):bK w M ρ .bool b (.bool b):=.mkSc rfl rfl
theorem bK.mkS{w}{M}{ρ}(l:List UInt8):bK w M ρ .str l (.string ⟨⟨l⟩⟩):=.mkSc rfl rfl
theorem aF.mkI(k)(n):aF z (.i k n) (.int k n):=.p _ _ _ (.mkI k n)
theorem aF.mkB(b):aF z (.b b) (.bool b):=.p _ _ _ (.mkB b)
theorem aF.mkS(l):aF z (.s l) (.string ⟨⟨l⟩⟩):=.p _ _ _ (.mkS l)
theorem aF.v{t}{x}{v}(h:aF z (.p t x) v):bK z.w z.M z.ρ t x v:=by cases h<;>grind
theorem m7Z{t u}{x}{y}{v}(h:CO t x u=some y)(hv:bK z.w z.M z.ρ t x v):bK z.w z.M z.ρ u y v:=by
 unfold CO at h;split at h
 ·simp at h;subst h;obtain⟨rfl,_⟩:=hv.opq;exact .mkSc ⟨none,0,rfl,ZAL _,by omega,fun _=>rfl,fun h=>absurd rfl h⟩ rfl
 ·simp at h;subst h;obtain⟨rfl,_⟩:=hv.opq;exact .mkSc rfl rfl
 ·simp at h;subst h;obtain⟨rfl,_⟩:=hv.opq;exact .mkSc (.inl ⟨rfl,rfl⟩) rfl
 ·split at h
  ·rename_i hs;subst hs;simp at h;subst h;exact .mkSc (hv.scal rfl rfl) rfl
  ·cases h
 grind
theorem gJZ{u}{a}{x}{v}(h:a.get? u=some x)(ha:aF z a v):bK z.w z.M z.ρ u x v:=by
 unfold AV.get? at h;split at h
 ·have hv:=ha.v;split at h
  ·rename_i ht;subst ht;simp at h;subst h;exact hv
  ·exact m7Z h hv
 ·unfold SD at h;split at h
  ·simp at h;subst h;cases ha with|fn _ _ _ va vc h1 h2=>
   obtain rfl:va=#[]:=ZBg (by simpa using h1);obtain rfl:vc=#[]:=ZBg (by simpa using h2);exact .mkSc ⟨rfl,rfl⟩ rfl
  ·cases h
 grind
theorem ekZ{k}{a}{n}{v}(h:a.int? k=some n)(ha:aF z a v):v= .int k n:=(gJZ h ha).int
theorem bYZ{a}{b}{v}(h:a.bool? =some b)(ha:aF z a v):v= .bool b:=(gJZ h ha).bool
theorem eoZ{a}{l}{v}(h:a.str? =some l)(ha:aF z a v):v= .string ⟨⟨l⟩⟩:=(gJZ h ha).str
theorem bCZ{a}{n}{v}(h:a.any? =some n)(ha:aF z a v):∃k,v= .int k n:=by
 unfold AV.any? at h;split at h
 ·unfold TI at h;split at h
  ·rename_i k m;simp at h;subst h;exact⟨k,ha.v.int⟩
  ·cases h
 grind
theorem rUZ{n}{c}(h:oA n=some c):n=(c.toNat:Int):=by
 grind[oA,UInt8.toNat_ofNat']
theorem ijZ{a}{l}{v}(h:a.tup? =some l)(ha:aF z a v):∃vs,v= .tuple vs/\vs.size=l.length/\∀(i:Nat) x u,l[i]? =some x->vs[i]? =some u->aF z x u:=by
 unfold AV.tup? at h;split at h
 ·simp at h;subst h;cases ha with|tup _ vs h1 h2=>exact⟨vs,rfl,h1,h2⟩
 grind
def aR(z:Z)(l:List AV)(vs:List Value):Prop:=l.length=vs.length/\∀(i:Nat) a v,l[i]? =some a->vs[i]? =some v->aF z a v
theorem aR.nil:aR z [] []:=⟨rfl,fun i a v h=>by grind⟩
theorem aR.cons{a}{v}{l}{vs}(h:aF z a v)(hs:aR z l vs):aR z (a::l) (v::vs):=by
 refine⟨by simp[hs.1],fun i x u h1 h2=> ?_⟩
 match i with
 |0=>simp_all
 |i+1=>exact hs.2 i x u (by simp_all) (by simp_all)
theorem aR.head{a}{v}{l}{vs}(h:aR z (a::l) (v::vs)):aF z a v:=h.2 0 a v rfl rfl
theorem aR.tail{a}{v}{l}{vs}(h:aR z (a::l) (v::vs)):aR z l vs:=
 ⟨by simpa using h.1,fun i x u h1 h2=>h.2 (i+1) x u (by simp_all) (by simp_all)⟩
theorem aR.append{l l'}{vs vs'}(h:aR z l vs)(h':aR z l' vs'):aR z (l++l') (vs++vs'):=by
 refine⟨by simp[h.1,h'.1],fun i a v h1 h2=> ?_⟩;by_cases hi:i<l.length
 ·rw[ZAT hi] at h1;rw[ZAT (by rw[<-h.1];omega)] at h2;exact h.2 i a v h1 h2
 ·rw[ZAV (by omega)] at h1;rw[ZAV (by rw[<-h.1];omega),<-h.1] at h2;exact h'.2 _ a v h1 h2
theorem aR.take{l}{vs}(h:aR z l vs)(n):aR z (l.take n) (vs.take n):=by
 refine⟨by simp[h.1],fun i a v h1 h2=> ?_⟩;have hi:i<n:=by
  have:=(ZAB.1 h1).1;simp at this;omega
 rw[ZBo hi] at h1 h2;exact h.2 i a v h1 h2
theorem aR.drop{l}{vs}(h:aR z l vs)(n):aR z (l.drop n) (vs.drop n):=by
 refine⟨by simp[h.1],fun i a v h1 h2=> ?_⟩;rw[ZA4] at h1 h2;exact h.2 _ a v h1 h2
theorem aR.kp{z'}{l}{vs}(k:Kp z z')(h:aR z l vs):aR z' l vs:=⟨h.1,fun i a v h1 h2=>(h.2 i a v h1 h2).kp k⟩
theorem aR.get{l}{vs}(h:aR z l vs){i:Nat}{a}(ha:l[i]? =some a):∃v,vs[i]? =some v/\aF z a v:=by
 have hlt:i<vs.length:=by
  have:=(ZAB.1 ha).1;rw[<-h.1];exact this
 exact⟨_,ZAC hlt,h.2 i a _ ha (ZAC hlt)⟩
theorem aR.headD{l}{vs}(h:aR z l vs):aF z (l.headD .junk) (vs.headD undef):=by
 match l,vs,h with
 |[],[],_=>exact .junk _
 |a::l,v::vs,h=>exact h.head
 |[],_::_,h=>have:=h.1;simp_all
 |_::_,[],h=>have:=h.1;simp_all
theorem aF.reps{l}{cs}(h:aF z (.agg l) (.agg cs)):aR z l cs.toList:=by
 cases h with|agg _ _ hs h1 h=>exact⟨by grind,fun i a v h2 h3=>h i a v h2 (by simp_all)⟩
theorem b7Z{t}{x}{v}(h:bK z.w z.M z.ρ t x v):aF z (.ofTy t x) v:=by
 unfold AV.ofTy;split
 ·have:=h.scal rfl rfl;simp[Cl,ZBp] at this;subst this;exact .mkI _ _
 ·exact .p _ _ _ h
theorem ePZ:(t:Ty)->(x:t.den)->(split t x).length<=t.cells
 |.one t,x=>ePZ t x
 |.pair a b,x=>by
  have h1:=ePZ a x.1;have h2:=ePZ b x.2;simp[split,Ty.cells];omega
 |.arr _ _,_=>ZBI _
 |.int _,_|.byte,_|.bool,_|.str,_|.opq,_|.nat,_|.ptr _,_|.sl _,_|.ref _ _,_=>ZAL _
theorem ewZ:{t:Ty}->{x:t.den}->{vs:List Value}->Cl z.w z.M z.ρ t x vs->(split t x).length=t.cells->aR z (split t x) vs
 |.one t,x,vs,h,hl=>ewZ (t:=t) h hl
 |.pair a b,x,vs,h,hl=>by
  obtain⟨u,v,rfl,h1,h2⟩:=h;have q1:=ePZ a x.1;have q2:=ePZ b x.2;simp[split,Ty.cells] at hl;exact(ewZ h1 (by omega)).append (ewZ h2 (by omega))
 |.arr n t,x,vs,h,hl=>by
  have:=h.len;rw[<-hl] at this
  match vs,this with
  |[],_=>exact .nil
 |.int _,_,vs,h,_|.bool,_,vs,h,_|.str,_,vs,h,_=>by
  have hl:=h.len
  match vs,hl with
  |[v],_=>exact .cons (.p _ _ _ (.mkSc h rfl)) .nil
 |.opq,_,vs,h,_=>by
  have hl:=h.len
  match vs,hl with
  |[v],_=>exact .cons (.p _ _ _ (.mkSc h rfl)) .nil
 |.sl _,_,vs,h,_|.ptr _,_,vs,h,_|.ref _ _,_,vs,h,_=>by
  have hl:=h.len
  match vs,hl with
  |[v],_=>exact .cons (.p _ _ _ (.mkSc h rfl)) .nil
 |.byte,_,vs,h,_=>by
  subst h;exact .cons (.mkI _ _) .nil
 |.nat,_,_,h,_=>h.elim
theorem cHZ{a}{l}{v}(h:dR a=some l)(ha:aF z a v):aR z l v.cells.toList/\(∀u∈v.cells,u.oneCell'=true)/\
 v=(bif IB a then .agg v.cells else v.cells.toList.headD undef):=by
 have one:∀(b) (v),aF z b v->v.oneCell'=true->aR z [b] v.cells.toList/\(∀u∈v.cells,u.oneCell'=true)/\v=v.cells.toList.headD undef:=fun b v hb h1=>by
  have hc:v.cells=#[v]:=by cases v<;>first|rfl|(simp[Value.oneCell'] at h1;done)
  rw[hc];exact⟨.cons hb .nil,fun u hu=>by simp_all,rfl⟩
 cases ha with
 |p t x v h1=>
  simp[dR] at h;cases hl:Nat.beq (split t x).length t.cells<;>rw[hl] at h<;>simp at h;subst h;rw[afZ] at hl
  let⟨vs,h2,h3⟩:=h1
  cases hagg:t.isAgg<;>rw[hagg] at h3<;>simp[ZAK] at h3
  ·have hn:=h2.len;have hc:t.cells=1:=by cases t<;>first|rfl|simp_all[Ty.isAgg]
   match vs,hn with
   |[u],_=>
    simp at h3;subst h3
    let⟨q1,q2,q3⟩:=one (.p t x) v (.p _ _ _ (.mkSc h2 hagg)) (h2.one v (by simp))
    have e:v.cells=#[v]:=by
     have:=h2.one v (by simp);cases v<;>first|rfl|(simp[Value.oneCell'] at this;done)
    refine⟨by grind[ewZ],q2,by simp only[IB,hagg,ZAD];omega⟩
   |[],hn=>simp_all
   |_::_::_,hn=>simp_all
  ·subst h3;exact⟨ewZ h2 hl,fun u hu=>h2.one u (by simpa[Value.cells] using hu),by simp only[IB,hagg,ZAK];rfl⟩
 |pt t l i j b off hM hlt h1=>simp[dR] at h;subst h;exact one _ _ (.pt _ _ _ _ _ _ hM hlt h1) rfl
 |own es id i j g sz n h1=>simp[dR] at h;subst h;exact one _ _ (.own _ _ _ _ _ _ _ h1) rfl
 |rp f es k i j g sz n h1=>simp[dR] at h;subst h;exact one _ _ (.rp _ _ _ _ _ _ _ _ h1) rfl
 |slV es id off A h1=>simp[dR] at h;subst h;exact one _ _ (.slV _ _ _ _ h1) rfl
 |slE es id off g sz m o h1=>simp[dR] at h;subst h;exact one _ _ (.slE _ _ _ _ _ _ _ h1) rfl
 |sl es id off n g sz m c h1 hn hs hm=>simp[dR] at h;subst h;exact one _ _ (.sl _ _ _ _ _ _ _ _ h1 hn hs hm) rfl
 |slfV es id A h1=>simp[dR] at h;subst h;exact one _ _ (.slfV _ _ _ h1) rfl
 |slf es id g sz n c h1 hn hs hm=>simp[dR] at h;subst h;exact one _ _ (.slf _ _ _ _ _ _ h1 hn hs hm) rfl
 |mp id g sz n h1=>simp[dR] at h;subst h;exact one _ _ (.mp _ _ _ _ h1) rfl
 |fn f a c va vc ha hc h1 h2=>simp[dR] at h;subst h;exact one _ _ (.fn _ _ _ _ _ ha hc h1 h2) rfl
 |agg l' cs hs h1 h2=>
  simp[dR] at h;subst h;exact⟨⟨by simp[Value.cells,hs],fun i a v q1 q2=>h2 i a v q1 (by simpa[Value.cells] using q2)⟩,h1,rfl⟩
 |tup l' vs hs h2=>simp[dR] at h
 |junk v=>simp[dR] at h
section
variable {β : Type}
theorem liZ{t}{c}(f)
 (hf:∀{cs} {vs} {K} {r:β},f cs K=some r->aR z cs vs->cs.length=c->(∀v∈vs,v.oneCell'=true)->∃y,Cl z.w z.M z.ρ t y vs/\K y=some r):
 ∀(n) {cs} {vs} {K} {r},ES f c n cs K=some r->aR z cs vs->cs.length=n*c->(∀v∈vs,v.oneCell'=true)->
  ∃(l:List t.den) (css:List (List Value)),l.length=n/\css.length=n/\vs=css.flatten/\(∀(i:Nat) e u,l[i]? =some e->css[i]? =some u->Cl z.w z.M z.ρ t e u)/\K l=some r
 |0,cs,vs,K,r,h,hr,hl,_=>by
  have:=ZAX (by rw[<-hr.1,hl,ZBu]);exact⟨[],[],rfl,rfl,by simp_all,fun i e u h1=>by grind,h⟩
 |n+1,cs,vs,K,r,h,hr,hl,h1=>by
  simp[ES] at h;have hlen:(n+1)*c=n*c+c:=ZCB n c
  let⟨y,q1,q2⟩:=hf h (hr.take c) (by rw[ZAS];omega) (fun v hv=>h1 v (ZCP hv))
  let⟨l,css,p1,p2,p3,p4,p5⟩:=liZ f hf n q2 (hr.drop c) (by rw[ZAx];omega) (fun v hv=>h1 v (ZCe hv))
  refine⟨y::l,vs.take c::css,by simp[p1],by simp[p2],by rw[ZCS,<-p3,ZBA],fun i e u q3 q4=> ?_,p5⟩
  grind
theorem h9Z:{u:Ty}->{cs:List AV}->{vs:List Value}->{K:u.den->Option β}->{r:β}->asm u cs K=some r->aR z cs vs->cs.length=u.cells->(∀v∈vs,v.oneCell'=true)->
 ∃y,Cl z.w z.M z.ρ u y vs/\K y=some r
 |.byte,cs,vs,K,r,h,hr,hl,h1=>by
  simp only[asm] at h
  let⟨n,h2,h3⟩:=agZ.1 h
  let⟨c,h4,h5⟩:=ZAH.1 h3
  have hv:=ekZ h2 hr.headD;have hlv:vs.length=1:=by rw[<-hr.1,hl];rfl
  match vs,hlv with
  |[v],_=>
   simp at hv;subst hv;rw[rUZ h4];exact⟨c,rfl,h5⟩
 |.one t,cs,vs,K,r,h,hr,hl,h1=>h9Z (u:=t) h hr hl h1
 |.pair a b,cs,vs,K,r,h,hr,hl,h1=>by
  simp[asm] at h;simp[Ty.cells] at hl
  let⟨x,q1,q2⟩:=h9Z h (hr.take a.cells) (by simp_all) (fun v hv=>h1 v (ZCP hv))
  let⟨y,q3,q4⟩:=h9Z q2 (hr.drop a.cells) (by simp_all) (fun v hv=>h1 v (ZCe hv))
  exact⟨(x,y),⟨_,_,(ZBA _ _).symm,q1,q3⟩,q4⟩
 |.arr n t,cs,vs,K,r,h,hr,hl,h1=>by
  simp[asm] at h
  let⟨l,css,p1,p2,p3,p4,p5⟩:=liZ (asm t) (fun h hr hl h1=>h9Z h hr hl h1) n h hr hl h1
  exact⟨l,⟨p1,css,p2,p3,p4⟩,p5⟩
 |.int k,cs,vs,K,r,h,hr,hl,h1|.bool,cs,vs,K,r,h,hr,hl,h1|.str,cs,vs,K,r,h,hr,hl,h1|.opq,cs,vs,K,r,h,hr,hl,h1|.nat,cs,vs,K,r,h,hr,hl,h1|.sl _,cs,vs,K,r,h,hr,hl,h1|.ref _ _,cs,vs,K,r,h,hr,hl,h1=>by
  simp only[asm] at h
  let⟨n,h2,h3⟩:=agZ.1 h
  have hv:=(gJZ h2 hr.headD).scal rfl rfl;have hlv:vs.length=1:=by rw[<-hr.1,hl];rfl
  match vs,hlv with
  |[v],_=>grind
 |.ptr t,cs,vs,K,r,h,hr,hl,h1=>by
  have hlv:vs.length=1:=by rw[<-hr.1,hl];rfl
  simp only[asm] at h;have hd:=hr.headD
  match vs,hlv with
  |[v],_=>
   split at h
   ·rename_i u l i hh;rw[hh] at hd;rcases aUZ h with⟨ht,h⟩|h
    ·subst ht
     let⟨l',h2,h3⟩:=ZAH.1 h
     unfold TJ at h2;split at h2
     ·rename_i hi;obtain rfl:=ZAh h2;cases hd with
      |pt _ _ _ _ b off hM hlt hrow=>
       refine⟨_,.inr ⟨?_,b,off+i*u.cells,rfl,hM,hlt,fun k e he=> ?_⟩,h3⟩
       ·show(List.drop i l).length≠0;rw[ZAx];have:i<l.length:=hi;omega
       ·let⟨w,h5,h6⟩:=hrow (i+k) e (by rw[<-List.getElem?_drop];exact he)
        exact⟨w,h5,by rw[ZAr,<-Nat.add_assoc] at h6;exact h6⟩
     ·cases h2
    grind
   ·let⟨n,h2,h3⟩:=agZ.1 h
    have hv:=(gJZ h2 hr.headD).scal rfl rfl
    grind
theorem tDZ{u}{a}{K}{r:β}{v}(h:asC u a K=some r)(ha:aF z a v):∃y,bK z.w z.M z.ρ u y v/\K y=some r:=by
 let⟨cs,h1,h2⟩:=agZ.1 h
 let⟨h3,h4⟩:=adZ.1 h2
 simp[ZBz] at h3
 let⟨q1,q2,q3⟩:=cHZ h1 ha
 let⟨y,q4,q5⟩:=h9Z h4 q1 h3.1 (fun v hv=>q2 v (by simpa using hv))
 refine⟨y,⟨_,q4,?_⟩,q5⟩;rw[<-h3.2];omega
theorem bTZ{u}{a}{K}{r:β}{v}(h:asA u a K=some r)(ha:aF z a v):∃y,bK z.w z.M z.ρ u y v/\K y=some r:=by
 unfold asA at h;split at h
 ·rename_i t x;rcases aUZ h with⟨ht,h⟩|h
  ·subst ht;exact⟨x,ha.v,h⟩
  ·exact tDZ h ha
 grind[tDZ]
theorem sub_self{t}{x}{vs}{o:Nat}{u}{K:u.den->Option β}{r}{w}{M}{ρ}(h)(hc:Cl w M ρ t x vs)
 (hk:bq (Nat.beq o 0) (K (Ty.to h x)) none=some r):∃y,Cl w M ρ u y ((vs.drop o).take u.cells)/\o+u.cells<=t.cells/\K y=some r:=by
 subst h;cases ho:Nat.beq o 0<;>rw[ho] at hk<;>simp only[bq_true,bq_false] at hk
 ·grind
 ·rw[afZ] at ho;subst ho;refine⟨x,?_,by omega,hk⟩;rw[ZCK,ZA0 (by rw[hc.len];exact ZAL _)];omega
theorem kyZ{w}{M}{ρ}:{t:Ty}->{x:t.den}->{o:Nat}->{u:Ty}->{K:u.den->Option β}->{r:β}->{vs:List Value}->sub t x o u K=some r->Cl w M ρ t x vs->
 ∃y,Cl w M ρ u y ((vs.drop o).take u.cells)/\o+u.cells<=t.cells/\K y=some r
 |.one t,x,o,u,K,r,vs,h,hc=>by
  rcases aUZ h with⟨ht,h⟩|h
  ·exact sub_self ht hc h
  ·exact kyZ (t:=t) h hc
 |.pair a b,x,o,u,K,r,vs,h,hc=>by
  rcases aUZ h with⟨ht,h⟩|h
  ·exact sub_self ht hc h
  ·obtain⟨v1,v2,rfl,h1,h2⟩:=hc;cases ho:Nat.blt o a.cells<;>rw[ho] at h<;>simp[bq_false] at h
   ·have ho':a.cells<=o:=by
     rcases ZBy o a.cells with h'|h'
     ·rw[show Nat.blt o a.cells=true from ZAi h'] at ho;cases ho
     ·exact h'
    let⟨y,q1,q2,q3⟩:=kyZ h h2
    refine⟨y,?_,by simp[Ty.cells];omega,q3⟩;rw[ZCi,ZBH (by rw[h1.len];exact ho'),ZBh,h1.len];omega
   ·have ho':=ZBL ho
    let⟨y,q1,q2,q3⟩:=kyZ h h1
    refine⟨y,?_,by simp[Ty.cells];omega,q3⟩;rw[ZB2 (by rw[h1.len];omega),ZBJ (by rw[ZAx,h1.len];omega)];omega
 |.int _,x,o,u,K,r,vs,h,hc|.byte,x,o,u,K,r,vs,h,hc|.bool,x,o,u,K,r,vs,h,hc|.str,x,o,u,K,r,vs,h,hc|.opq,x,o,u,K,r,vs,h,hc|.nat,x,o,u,K,r,vs,h,hc|.ptr _,x,o,u,K,r,vs,h,hc
 |.sl _,x,o,u,K,r,vs,h,hc|.arr _ _,x,o,u,K,r,vs,h,hc|.ref _ _,x,o,u,K,r,vs,h,hc=>by
  simp[sub] at h;rcases aUZ h with⟨ht,h⟩|h
  ·exact sub_self ht hc h
  grind
theorem a4Z:(t:Ty)->t.unref.cells=t.cells
 |.one t=>a4Z t
 |.pair a b=>by simp[Ty.unref,Ty.cells,a4Z a,a4Z b]
 |.int _|.byte|.bool|.str|.opq|.nat|.ptr _|.sl _|.arr _ _|.ref _ _=>rfl
theorem fZZ(t:Ty):t.unref.isAgg=t.isAgg:=by cases t<;>rfl
theorem fNZ{t}{x}{vs}{o:Nat}{u}{K:AV->Option β}{r}{w}{M}{ρ}{E}(hc:Cl w M ρ t x vs)
 (hk:bq (decide (t.unref=u)&&Nat.beq o 0) (K (.ofTy t x)) E=some r):(∃(t':Ty) (y:t'.den),t'.unref=u/\Cl w M ρ t' y ((vs.drop o).take t'.cells)/\o+t'.cells<=t.cells/\K (.ofTy t' y)=some r)\/E=some r:=by
 cases ho:(decide (t.unref=u)&&Nat.beq o 0)<;>rw[ho] at hk<;>simp[bq_false] at hk
 ·simp_all
 ·simp[afZ] at ho;obtain⟨h1,rfl⟩:=ho;refine .inl ⟨t,x,h1,?_,by omega,hk⟩;rw[ZCK,ZA0 (by rw[hc.len];exact ZAL _)];omega
theorem fLZ{w}{M}{ρ}:{t:Ty}->{x:t.den}->{o:Nat}->{u:Ty}->{K:AV->Option β}->{r:β}->{vs:List Value}->yQ t x o u K=some r->Cl w M ρ t x vs->
 ∃(t':Ty) (y:t'.den),t'.unref=u/\Cl w M ρ t' y ((vs.drop o).take t'.cells)/\o+t'.cells<=t.cells/\K (.ofTy t' y)=some r
 |.one t,x,o,u,K,r,vs,h,hc=>by
  simp only[yQ] at h;rcases fNZ hc h with h|h
  ·exact h
  ·exact fLZ (t:=t) h hc
 |.pair a b,x,o,u,K,r,vs,h,hc=>by
  simp only[yQ] at h;rcases fNZ (t:=.pair a b) hc h with h|h
  ·exact h
  ·obtain⟨v1,v2,rfl,h1,h2⟩:=hc;cases ho:Nat.blt o a.cells<;>rw[ho] at h<;>simp only[bq_true,bq_false] at h
   ·have ho':a.cells<=o:=by
     rcases ZBy o a.cells with h'|h'
     ·rw[show Nat.blt o a.cells=true from ZAi h'] at ho;cases ho
     ·exact h'
    obtain⟨t',y,q0,q1,q2,q3⟩:=fLZ h h2;refine⟨t',y,q0,?_,by simp only[Ty.cells];omega,q3⟩;rw[ZCi,ZBH (by rw[h1.len];exact ho'),ZBh,h1.len];omega
   ·have ho':o<a.cells:=ZBL ho;obtain⟨t',y,q0,q1,q2,q3⟩:=fLZ h h1;refine⟨t',y,q0,?_,by simp only[Ty.cells];omega,q3⟩;rw[ZB2 (by rw[h1.len];omega),ZBJ (by rw[ZAx,h1.len];omega)];omega
 |.int _,x,o,u,K,r,vs,h,hc|.byte,x,o,u,K,r,vs,h,hc|.bool,x,o,u,K,r,vs,h,hc|.str,x,o,u,K,r,vs,h,hc|.opq,x,o,u,K,r,vs,h,hc|.nat,x,o,u,K,r,vs,h,hc|.ptr _,x,o,u,K,r,vs,h,hc
 |.sl _,x,o,u,K,r,vs,h,hc|.arr _ _,x,o,u,K,r,vs,h,hc|.ref _ _,x,o,u,K,r,vs,h,hc=>by
  simp only[yQ] at h;rcases fNZ hc h with h|h<;>grind
theorem bK.cells'{w}{M}{ρ}{t}{x}{v}(h:bK w M ρ t x v):Cl w M ρ t x v.cells.toList:=by
 let⟨vs,h1,h2⟩:=h
 cases hagg:t.isAgg<;>rw[hagg] at h2<;>simp[ZAD] at h2
 ·have hl:=h1.len;have hc:t.cells=1:=by cases t<;>first|rfl|simp_all[Ty.isAgg]
  match vs,hl with
  |[u],_=>
   subst h2;have h3:=h1.one v (by simp);have e:v.cells=#[v]:=by cases v<;>first|rfl|(simp[Value.oneCell'] at h3)
   simp_all
  |[],hl=>simp_all
  |_::_::_,hl=>simp_all
 ·subst h2;exact h1
theorem gAZ{t}{vs:List Value}{o:Nat}{u}{a}{v}{K}{r}{E:Option β}(hl:vs.length=t.cells)(ha:aF z a v)
 (hk:bq (decide (t.unref=u)&&Nat.beq o 0) (asA t a K) E=some r):(∃x',Cl z.w z.M z.ρ t x' (vs.take o++v.cells.toList++vs.drop (o+u.cells))/\o+u.cells<=t.cells/\v.cells.size=u.cells/\(∀c∈v.cells,c.oneCell'=true)/\K x'=some r)\/E=some r:=by
 cases ho:(decide (t.unref=u)&&Nat.beq o 0)<;>rw[ho] at hk<;>simp only[bq_true,bq_false] at hk
 ·simp_all
 ·simp only[ZAF,ZAt,afZ] at ho;obtain⟨rfl,rfl⟩:=ho;obtain⟨y,h1,h2⟩:=bTZ hk ha;have h3:=h1.cells';refine .inl ⟨y,?_,by rw[a4Z];omega,by rw[a4Z];have:=h3.len;simpa using this,fun c hc=>h3.one c (by simpa using hc),h2⟩
  simp_all[a4Z,List.take_zero,ZBh,ZBH,ZAo]
theorem ilZ:{t:Ty}->{x:t.den}->{o:Nat}->{u:Ty}->{a:AV}->{v:Value}->{K:t.den->Option β}->{r:β}->{vs:List Value}->wV t x o u a K=some r->Cl z.w z.M z.ρ t x vs->aF z a v->
 ∃x',Cl z.w z.M z.ρ t x' (vs.take o++v.cells.toList++vs.drop (o+u.cells))/\o+u.cells<=t.cells/\v.cells.size=u.cells/\(∀c∈v.cells,c.oneCell'=true)/\K x'=some r
 |.one t,x,o,u,a,v,K,r,vs,h,hc,ha=>by
  simp only[wV] at h;rcases gAZ hc.len ha h with h|h
  ·exact h
  ·exact ilZ (t:=t) h hc ha
 |.pair a b,x,o,u,y,v,K,r,vs,h,hc,ha=>by
  simp only[wV] at h;rcases gAZ hc.len ha h with h|h
  ·exact h
  ·obtain⟨v1,v2,rfl,h1,h2⟩:=hc;have l1:=h1.len;have l2:=h2.len;cases ho:Nat.blt o a.cells<;>rw[ho] at h<;>simp only[bq_true,bq_false] at h
   ·have ho':a.cells<=o:=by
     rcases ZBy o a.cells with h'|h'
     ·rw[show Nat.blt o a.cells=true from ZAi h'] at ho;cases ho
     ·exact h'
    obtain⟨z,q1,q2,q3,q4,q5⟩:=ilZ h h2 ha;refine⟨(x.1,z),⟨v1,_,?_,h1,q1⟩,by simp only[Ty.cells];omega,q3,q4,q5⟩;rw[List.take_append,ZA0 (by omega),ZCi,ZBH (by omega),ZBh,l1]
    grind
   ·have ho':o<a.cells:=ZBL ho;obtain⟨z,q1,q2,q3,q4,q5⟩:=ilZ h h1 ha;refine⟨(z,x.2),⟨_,v2,?_,q1,h2⟩,by simp only[Ty.cells];omega,q3,q4,q5⟩
    grind
 |.int _,x,o,u,a,v,K,r,vs,h,hc,ha|.byte,x,o,u,a,v,K,r,vs,h,hc,ha|.bool,x,o,u,a,v,K,r,vs,h,hc,ha|.str,x,o,u,a,v,K,r,vs,h,hc,ha|.opq,x,o,u,a,v,K,r,vs,h,hc,ha
 |.nat,x,o,u,a,v,K,r,vs,h,hc,ha|.ptr _,x,o,u,a,v,K,r,vs,h,hc,ha|.sl _,x,o,u,a,v,K,r,vs,h,hc,ha|.arr _ _,x,o,u,a,v,K,r,vs,h,hc,ha|.ref _ _,x,o,u,a,v,K,r,vs,h,hc,ha=>by
  simp only[wV] at h;rcases gAZ hc.len ha h with h|h<;>grind
theorem eDZ{w}{M}{ρ}:{t:Ty}->{x:t.unref.den}->{vs:List Value}->Cl w M ρ t.unref x vs->Cl w M ρ t (bY t x) vs
 |.one t,x,vs,h=>eDZ (t:=t) h
 |.pair a b,x,vs,h=>by
  obtain⟨u,v,rfl,h1,h2⟩:=h;exact⟨u,v,rfl,eDZ h1,eDZ h2⟩
 |.ref f t,x,vs,h=>h
 |.int _,x,vs,h|.byte,x,vs,h|.bool,x,vs,h|.str,x,vs,h|.opq,x,vs,h|.nat,x,vs,h|.ptr _,x,vs,h|.sl _,x,vs,h|.arr _ _,x,vs,h=>h
theorem ggZ{w}{M}{ρ}:{t:Ty}->{x:t.den}->{y:t.unref.den}->{vs:List Value}->lY t x=some y->Cl w M ρ t x vs->Cl w M ρ t.unref y vs
 |.one t,x,y,vs,h,hc=>ggZ (t:=t) h hc
 |.pair a b,x,y,vs,h,hc=>by
  obtain⟨u,v,rfl,h1,h2⟩:=hc
  let⟨p,h3,h4⟩:=ZAH.1 h
  obtain⟨q,h5,rfl⟩:=ZAI.1 h4;exact⟨u,v,rfl,ggZ h3 h1,ggZ h5 h2⟩
 |.ref f t,.inl l,y,vs,h,hc=>by
  obtain rfl:=ZAh h;exact hc
 |.ref f t,.inr none,y,vs,h,hc=>by
  obtain rfl:=ZAh h;obtain rfl:vs=[.slice none 0 0]:=hc;exact⟨none,0,rfl,ZAL _,by omega,fun _=>rfl,fun h=>absurd rfl h⟩
 |.ref f t,.inr (some _),y,vs,h,hc=>by grind[lY]
 |.int _,x,y,vs,h,hc|.byte,x,y,vs,h,hc|.bool,x,y,vs,h,hc|.str,x,y,vs,h,hc|.opq,x,y,vs,h,hc|.nat,x,y,vs,h,hc|.ptr _,x,y,vs,h,hc|.sl _,x,y,vs,h,hc|.arr _ _,x,y,vs,h,hc=>by
  obtain rfl:=ZAh h;exact hc
theorem i8Z{t}{vs us:List Value}{o:Nat}{u}{y}{K:t.den->Option β}{r}{w}{M}{ρ}(h)(hv:vs.length=t.cells)(hc:Cl w M ρ u y us)
 (hk:bq (Nat.beq o 0) (K (Ty.to h y)) none=some r):∃x',Cl w M ρ t x' (vs.take o++us++vs.drop (o+u.cells))/\o+u.cells<=t.cells/\K x'=some r:=by
 subst h;cases ho:Nat.beq o 0<;>rw[ho] at hk<;>simp only[bq_true,bq_false] at hk
 ·grind
 ·rw[afZ] at ho;subst ho;refine⟨y,?_,by omega,hk⟩
  grind
theorem mCZ{w}{M}{ρ}:{t:Ty}->{x:t.den}->{o:Nat}->{u:Ty}->{y:u.den}->{K:t.den->Option β}->{r:β}->{vs us:List Value}->upd t x o u y K=some r->Cl w M ρ t x vs->Cl w M ρ u y us->
 ∃x',Cl w M ρ t x' (vs.take o++us++vs.drop (o+u.cells))/\o+u.cells<=t.cells/\K x'=some r
 |.one t,x,o,u,y,K,r,vs,us,h,hc,hu=>by
  rcases aUZ h with⟨ht,h⟩|h
  ·exact i8Z ht hc.len hu h
  ·exact mCZ (t:=t) h hc hu
 |.pair a b,x,o,u,y,K,r,vs,us,h,hc,hu=>by
  simp[upd] at h;rcases aUZ h with⟨ht,h⟩|h
  ·exact i8Z ht hc.len hu h
  ·obtain⟨v1,v2,rfl,h1,h2⟩:=hc;have l1:=h1.len;have l2:=h2.len;have lu:=hu.len;cases ho:Nat.blt o a.cells<;>rw[ho] at h<;>simp[bq_false] at h
   ·have ho':a.cells<=o:=by
     rcases ZBy o a.cells with h'|h'
     ·rw[show Nat.blt o a.cells=true from ZAi h'] at ho;cases ho
     ·exact h'
    let⟨z,q1,q2,q3⟩:=mCZ h h2 hu
    refine⟨(x.1,z),⟨v1,_,?_,h1,q1⟩,by simp[Ty.cells];omega,q3⟩;rw[List.take_append,ZA0 (by omega),ZCi,ZBH (by omega),l1]
    grind
   ·have ho':=ZBL ho
    let⟨z,q1,q2,q3⟩:=mCZ h h1 hu
    refine⟨(z,x.2),⟨_,v2,?_,q1,h2⟩,by simp[Ty.cells];omega,q3⟩
    grind
 |.int _,x,o,u,y,K,r,vs,us,h,hc,hu|.byte,x,o,u,y,K,r,vs,us,h,hc,hu|.bool,x,o,u,y,K,r,vs,us,h,hc,hu|.str,x,o,u,y,K,r,vs,us,h,hc,hu|.opq,x,o,u,y,K,r,vs,us,h,hc,hu|.nat,x,o,u,y,K,r,vs,us,h,hc,hu|.ptr _,x,o,u,y,K,r,vs,us,h,hc,hu
 |.sl _,x,o,u,y,K,r,vs,us,h,hc,hu|.arr _ _,x,o,u,y,K,r,vs,us,h,hc,hu|.ref _ _,x,o,u,y,K,r,vs,us,h,hc,hu=>by
  simp[upd] at h;rcases aUZ h with⟨ht,h⟩|h
  ·exact i8Z ht hc.len hu h
  grind
end
end
section
variable {P : Program}
theorem b6Z{t n:Nat}(h:P.cellsOf t=n)(h0:n≠0):(P.info? t).map (·.size)=some n:=by
 unfold Program.cellsOf at h;cases hi:(P.info? t).map (·.size)<;>grind
theorem dmZ{t}{u}(h:ty P t=some u):u.cells=P.cellsOf t/\0<u.cells/\(u.isAgg=true->fG P t=true)/\(u.isAgg=false->eP P t=true):=by
 let⟨v,h1,h2⟩:=agZ.1 h
 cases hb:(Nat.beq v.cells (P.cellsOf t)&& !Nat.beq v.cells 0&&bq v.isAgg (fG P t) (eP P t))<;>rw[hb] at h2
 ·cases h2
 ·simp[ZAO] at h2;subst h2;simp[afZ] at hb
  let⟨⟨q1,q2⟩,q3⟩:=hb
  refine⟨q1,?_,fun h=>by rw[h] at q3;exact q3,fun h=>by rw[h] at q3;exact q3⟩;rcases ZBq v.cells with h|h<;>simp_all
theorem eZZ{t}(h:fG P t=true):∃d,P.underlying t=some d/\d.isRow=true:=by
 unfold fG at h
 grind
theorem hqZ{t}(h:eP P t=true):∃d,P.underlying t=some d/\d.isRow=false:=by
 unfold eP at h
 grind
theorem jUZ{t}(w)(h:eP P t=true):(isAgg t).run P w= .ok false w:=by
 let⟨d,hd,hr⟩:=hqZ h
 unfold isAgg;rw[Sem.run_bind,run_underlying hd w];cases d<;>simp_all
theorem dvZ{w}{b o}{t}{v}(hs:eP P t=true)(hc:w.cell? ⟨b,o,none⟩=some v):
 (Instr.loadAt t (.pointer (some ⟨b,o,none⟩))).run P w= .ok v w:=by
 simp[Instr.loadAt,Instr.sureAddr,loadVar,jUZ w hs,hc]
theorem c1Z{w}{b o n}{t}(cs)(hs:fG P t=true)(hn:P.cellsOf t=n)(h0:n≠0)(hl:cs.length=n)
 (hc:w.rangeAt b o cs):(Instr.loadAt t (.pointer (some ⟨b,o,none⟩))).run P w= .ok (.agg cs.toArray) w:=by
 let⟨d,hd,hr⟩:=eZZ hs
 exact run_loadAt_mid w b o t cs d hc hd hr (by simp_all[b6Z])
theorem elZ{w:World}{b o}{vs}(h:w.rangeAt b o vs)(k n):w.rangeAt b (o+k) ((vs.drop k).take n):=fun j v hj=>by
 have hjn:j<n:=by
  have:=(ZAB.1 hj).1;simp at this;omega
 rw[ZBo hjn,ZA4] at hj;rw[ZCC];exact h _ _ hj
theorem hfZ{w:World}{b o}{u v}(h1:w.rangeAt b o u)(h2:w.rangeAt b (o+u.length) v):w.rangeAt b o (u++v):=fun j x hj=>by
 by_cases h:j<u.length
 ·rw[ZAT h] at hj;exact h1 j x hj
 ·rw[ZAV (by omega)] at hj;have:=h2 _ _ hj
  grind
theorem eR.tail{w}{M}{ρ}{b off}{t}{x}{l}(h:eR w M ρ b off t (x::l)):eR w M ρ b (off+t.cells) t l:=fun i e he=>by
 let⟨u,h1,h2⟩:=h (i+1) e (by simpa using he)<;>grind
theorem eR.cells{w}{M}{ρ}{t}:∀{l} {b off},eR w M ρ b off t l->
 ∃css:List (List Value),css.length=l.length/\(∀(i:Nat) e u,l[i]? =some e->css[i]? =some u->Cl w M ρ t e u)/\w.rangeAt b off css.flatten
 |[],b,off,_=>⟨[],rfl,fun i e u h=>by grind,fun j v h=>by grind⟩
 |x::l,b,off,h=>by
  obtain⟨u,h1,h2⟩:=h 0 x rfl
  let⟨css,q1,q2,q3⟩:=eR.cells h.tail
  refine⟨u::css,by simp[q1],fun i e v p1 p2=> ?_,?_⟩
  ·match i with
   |0=>simp at p1 p2;subst p1;subst p2;exact h1
   |i+1=>exact q2 i e v (by simpa using p1) (by simpa using p2)
  ·exact hfZ (by simpa using h2) (by rw[h1.len];exact q3)
theorem eR.sub{w}{M}{ρ}{b off}{t}{l}(h:eR w M ρ b off t l)(k n):eR w M ρ b (off+k*t.cells) t ((l.drop k).take n):=fun i e he=>by
 have hi:i<n:=by
  have:=(ZAB.1 he).1;simp at this;omega
 rw[ZBo hi,ZA4] at he
 let⟨u,h1,h2⟩:=h _ _ he<;>grind
section
variable {β : Type} {z : Z} {H : Hp}
theorem bzZ{w:World}{g o}{cs}{e}{fr}(h:w.heap[g]? =some (.cells cs e fr)):w.cell? ⟨g,o,none⟩=cs[o]? :=by
 unfold World.cell?;simp_all
theorem fX.rowAt{g sz n}{e}{t}{l}(h:fX z g sz n (.rows e t l)):eR z.w z.M z.ρ g 0 t l:=fun i x hx=>by
 let⟨cs,fr,a1,a2,a3,a4,a5,a6,a7⟩:=h
 let⟨u,h1,h2⟩:=a7 i x hx
 refine⟨u,h1,fun j v hj=> ?_⟩;rw[bzZ a1]
 simp_all
theorem uYZ{a a'}{v}(hH:aH z H)(h:view H a=some a')(ha:aF z a v):aF z a' v:=by
 unfold view at h;split at h
 ·simp at h;subst h;exact ha
 ·simp at h;subst h;exact ha
 ·simp at h;subst h;exact ha
 ·rename_i es id;split at h
  ·rename_i e t l hg;cases hb:Nat.beq es t.cells<;>rw[hb] at h
   ·cases h
   ·simp[ZAO] at h;subst h;rw[afZ] at hb;subst hb;cases ha with
    |slfV _ _ A hρ=>
     obtain⟨rfl,_⟩:=hH.virt hg hρ;refine .p _ _ _ (.mkSc ⟨A,0,rfl,ZAL _,by unfold maxLen;omega,fun _=>rfl,fun h=>absurd rfl h⟩ rfl)
    |slf _ _ g sz n c hρ hn hs hm=>
     let⟨h1,_,h3,h4⟩:=hH.real hg hρ
     have hrow:=h4.rowAt
     let⟨cs,fr,a1,a2,a3,a4,a5,a6,a7⟩:=h4
     have a4':=a4;rw[<-a4'] at hn⊢;exact .p _ _ _ (.mkSc ⟨_,c,rfl,hn,hm,(fun h=>by cases h),fun _=>⟨g,0,rfl,h3 rfl,h1,hrow⟩⟩ rfl)
  ·cases h
 ·rename_i es id off n;split at h
  ·rename_i e t l hg;cases hb:(Nat.beq es t.cells&&Nat.ble (off+n) l.length)<;>rw[hb] at h
   ·cases h
   ·simp[ZAO] at h;subst h;simp[ZAm] at hb;obtain⟨rfl,hb⟩:=hb;have hlen:((l.drop off).take n).length=n:=by rw[ZAS,ZAx];omega
    have mk:∀A c,n<=c->c<=maxLen->(A=none->c=0)->(n≠0->∃b o,A=some ⟨b,o,none⟩/\¬z.M b/\b<z.w.heap.size/\eR z.w z.M z.ρ b o t ((l.drop off).take n))->
     aF z (.p (.sl t) ((l.drop off).take n)) (.slice A n c):=fun A c q1 q2 q3 q4=>by
     have:bK z.w z.M z.ρ (.sl t) ((l.drop off).take n) (.slice A ((l.drop off).take n).length c):=
      .mkSc ⟨A,c,rfl,by rw[hlen];exact q1,q2,q3,fun h0=>q4 (by rwa [hlen] at h0)⟩ rfl
     rw[hlen] at this;exact .p _ _ _ this
    cases ha with
    |slV _ _ _ A hρ=>exact mk A 0 (ZAL _) (by unfold maxLen;omega) (fun _=>rfl) (fun h=>absurd rfl h)
    |slE _ _ _ g sz m o hρ=>exact mk _ 0 (ZAL _) (by unfold maxLen;omega) (fun _=>rfl) (fun h=>absurd rfl h)
    |sl _ _ _ _ g sz m c hρ hn hs hm=>
     let⟨h1,_,h3,h4⟩:=hH.real hg hρ
     refine mk _ c hn hm (fun h=>by cases h) fun _=>⟨g,off*t.cells,rfl,h3 rfl,h1,?_⟩;have:=h4.rowAt.sub off n;rwa [ZA5] at this
  ·cases h
 ·rename_i es id i j;split at h
  ·rename_i e t l hg;cases hb:Nat.beq es t.cells<;>rw[hb] at h
   ·cases h
   ·simp[ZAO] at h;subst h;rw[afZ] at hb;subst hb;cases ha with
    |own _ _ _ _ g sz n hρ=>
     let⟨h1,_,h3,h4⟩:=hH.real hg hρ
     have:=aF.pt t l i j g 0 (h3 rfl) h1 h4.rowAt;rwa [ZA5] at this
  ·cases h
 grind
theorem mrZ{a a'}{H'}{v}(hH:aH z H)(h:pure1 H a=some (a',H'))(ha:aF z a v):
 ∃z',z'.w=z.w/\aH z' H'/\Nx z z'/\z'.ρ=z.ρ/\aF z' a' v:=by
 let⟨x,h1,h2⟩:=ZAI.1 h
 obtain⟨rfl,rfl⟩:=h2
 let⟨z',q1,q2,q3,q4⟩:=qgZ a hH
 exact⟨z',q1,q2,q3,q4,uYZ q2 h1 (ha.kp (q3.kp hH.sub))⟩
theorem iNZ:∀{l l'} {z} {H H'} {vs},aH z H->rC H l=some (l',H')->aR z l vs->
 ∃z',z'.w=z.w/\aH z' H'/\Nx z z'/\z'.ρ=z.ρ/\aR z' l' vs
 |[],l',z,H,H',vs,hH,h,hr=>by
  simp[rC] at h
  grind[Nx.refl]
 |a::l,l',z,H,H',vs,hH,h,hr=>by
  let⟨⟨x,H1⟩,h1,h2⟩:=agZ.1 h
  let⟨⟨y,H2⟩,h3,h4⟩:=ZAI.1 h2
  obtain⟨rfl,rfl⟩:=h4
  match vs,hr with
  |[],hr=>have:=hr.1;simp at this
  |v::vs,hr=>
   let⟨z1,q1,q2,q3,q4,q5⟩:=mrZ hH h1 hr.head
   let⟨z2,p1,p2,p3,p4,p5⟩:=iNZ q2 h3 (hr.tail.kp (q3.kp hH.sub))
   exact⟨z2,p1.trans q1,p2,q3.trans p3,p4.trans q4,.cons (q5.kp (p3.kp q2.sub)) p5⟩
theorem bUZ{a a'}{H'}{v}(hH:aH z H)(h:nO H a=some (a',H'))(ha:aF z a v):
 ∃z',z'.w=z.w/\aH z' H'/\Nx z z'/\z'.ρ=z.ρ/\aF z' a' v:=by
 unfold nO at h;split at h
 ·let⟨⟨l',H1⟩,h1,h2⟩:=ZAI.1 h
  obtain⟨rfl,rfl⟩:=h2;cases ha with|agg _ cs hs h3 h4=>
  let⟨z',q1,q2,q3,q4,q5⟩:=iNZ (vs:=cs.toList) hH h1 ⟨by simp[hs],fun i a v p1 p2=>h4 i a v p1 (by simpa using p2)⟩
  refine⟨z',q1,q2,q3,q4,.agg _ _ ?_ h3 fun i x v p1 p2=>q5.2 i x v p1 (by simpa using p2)⟩;have:=q5.1;simpa using this.symm
 grind[mrZ]
theorem s4Z{u}{t}{x}{j}{K}{r:β}{b o}{us}(h:rD P u t x j K=some r)(hc:Cl z.w z.M z.ρ u x us)(ho:z.w.rangeAt b o us):
 ∃a v,(Instr.loadAt t (.pointer (some ⟨b,o+j,none⟩))).run P z.w= .ok v z.w/\aF z a v/\K a=some r:=by
 unfold rD at h
 let⟨want,h1,h2⟩:=agZ.1 h
 let⟨t1,t2,t3,t4⟩:=dmZ h1
 cases hnr:u.noRef<;>rw[hnr] at h2<;>simp[bq_false] at h2
 ·let⟨t',y,q0,q1,q2,q3⟩:=fLZ h2 hc
  have e1:t'.cells=want.cells:=by rw[<-q0,a4Z]
  have e2:t'.isAgg=want.isAgg:=by rw[<-q0,fZZ]
  have hr:=elZ ho j t'.cells;have hl:=q1.len;cases hagg:t'.isAgg
  ·have hcells:t'.cells=1:=by cases t'<;>first|rfl|simp_all[Ty.isAgg]
   match hvs:(us.drop j).take t'.cells,hl with
   |[],hl=>simp_all
   |_::_::_,hl=>simp_all
   |[v],_=>
    rw[hvs] at hr q1;refine⟨_,v,dvZ (t4 (by simp_all)) (by have:=hr 0 v rfl;simpa using this),b7Z (.mkSc q1 hagg),q3⟩
  ·refine⟨_,_,c1Z _ (t3 (by rw[<-e2];exact hagg)) (by rw[e1];exact t1.symm) (by omega) hl hr,b7Z ⟨_,q1,by rw[hagg];rfl⟩,q3⟩
 let⟨y,q1,q2,q3⟩:=kyZ h2 hc
 have hr:=elZ ho j want.cells;have hl:=q1.len;cases hagg:want.isAgg
 ·have hcells:want.cells=1:=by cases want<;>first|rfl|(simp[Ty.isAgg] at hagg;done)
  match hvs:(us.drop j).take want.cells,hl with
  |[],hl=>rw[hcells] at hl;simp at hl
  |_::_::_,hl=>rw[hcells] at hl;simp at hl
  |[v],_=>
   rw[hvs] at hr q1;refine⟨_,v,dvZ (t4 hagg) (by have:=hr 0 v rfl;simpa using this),b7Z (.mkSc q1 hagg),q3⟩
 ·refine⟨_,_,c1Z _ (t3 hagg) t1.symm (by omega) hl hr,b7Z ⟨_,q1,by rw[hagg];rfl⟩,q3⟩
theorem g6Z{t}{u}{l}{i j}{K}{r:β}{b off}(h:oC P t u l i j K=some r)(hr:eR z.w z.M z.ρ b off u l):
 ∃a v,(Instr.loadAt t (.pointer (some ⟨b,off+i*u.cells+j,none⟩))).run P z.w= .ok v z.w/\aF z a v/\K a=some r:=by
 have key:(l[i]?.bind fun x=>rD P u t x j K)=some r->∃a v,(Instr.loadAt t (.pointer (some ⟨b,off+i*u.cells+j,none⟩))).run P z.w= .ok v z.w/\aF z a v/\K a=some r:=by
  intro h
  let⟨x,h1,h2⟩:=ZAH.1 h
  let⟨us,h3,h4⟩:=hr i x h1
  exact s4Z h2 h3 h4
 unfold oC at h;split at h
 ·rename_i n u' hty
  let⟨t1,t2,t3,t4⟩:=dmZ hty
  cases hb:(decide (u'=u)&&Nat.beq i 0&&Nat.beq j 0)<;>rw[hb] at h
  ·exact key h
  ·let⟨h1,h2⟩:=adZ.1 h
   simp[afZ] at hb h1;obtain⟨⟨rfl,rfl⟩,rfl⟩:=hb
   let⟨css,q1,q2,q3⟩:=hr.cells
   have hl:css.flatten.length=n*u'.cells:=by
    rw[baZ,q1,h1];intro w hw
    let⟨k,hk⟩:=ZAP hw
    let⟨e,he⟩:=bfZ q1 hk
    exact(q2 k e w he hk).len
   refine⟨.p (.arr n u') l,.agg css.flatten.toArray,?_,.p _ _ _ ⟨css.flatten,⟨h1,css,by rw[q1,h1],rfl,q2⟩,rfl⟩,h2⟩;have:=c1Z css.flatten (t3 rfl) t1.symm (by omega) hl q3;simpa using this
 simp_all
theorem qzZ{t}{c}{j}{K}{r:β}{g}{vs}(h:wW P t c j K=some r)(hc:aR z c vs)(h1:∀v∈vs,v.oneCell'=true)
 (ho:z.w.rangeAt g 0 vs):∃a v,(Instr.loadAt t (.pointer (some ⟨g,j,none⟩))).run P z.w= .ok v z.w/\aF z a v/\K a=some r:=by
 unfold wW at h;cases ha:fG P t<;>rw[ha] at h<;>simp[bq_false] at h
 ·cases hs:eP P t<;>rw[hs] at h<;>simp only[bq_true,bq_false] at h
  ·cases h
  ·let⟨x,h2,h3⟩:=agZ.1 h
   let⟨v,h4,h5⟩:=hc.get h2
   exact⟨x,v,dvZ hs (by have:=ho j v h4;simp_all),h5,h3⟩
 ·let⟨h2,h3⟩:=adZ.1 h
  simp[ZAm] at h2
  let⟨h2,h4⟩:=h2
  have h0:P.cellsOf t≠0:=fun h0=>by simp_all
  have hl:=hc.1;have hlen:((vs.drop j).take (P.cellsOf t)).length=P.cellsOf t:=by rw[ZAS,ZAx];omega
  refine⟨_,_,c1Z _ ha rfl h0 hlen (by have:=elZ ho j (P.cellsOf t);simp_all),.agg _ _ ?_ (fun v hv=> ?_) (fun i x v p1 p2=> ?_),h3⟩
  ·simp_all
  ·grind
  ·exact((hc.drop j).take (P.cellsOf t)).2 i x v p1 (by simp_all)
theorem fX.vars_at{g sz n}{c}(h:fX z g sz n (.vars c)):∃vs,aR z c vs/\(∀v∈vs,v.oneCell'=true)/\z.w.rangeAt g 0 vs:=by
 let⟨cs,e,fr,a1,a2,a3,⟨a4,_⟩,a5,a6⟩:=h
 refine⟨cs.toList,⟨by simp;omega,fun i a v p1 p2=>a5 i a v p1 (by simpa using p2)⟩,fun v hv=>a6 v (by simpa using hv),fun j v hj=> ?_⟩;rw[bzZ a1]
 simp_all
theorem koZ{t}{a}{K}{r:β}{pv}(h:rQ P t a H K=some r)(hH:aH z H)(ha:aF z a pv):
 ∃x v,(Instr.loadAt t pv).run P z.w= .ok v z.w/\aF z x v/\K x=some r:=by
 unfold rQ at h;split at h
 ·rename_i es id i j;split at h
  ·rename_i c hg;cases ha with
   |own _ _ _ _ g sz n hρ=>
    let⟨vs,q1,q2,q3⟩:=(hH.real hg hρ).2.2.2.vars_at
    exact qzZ h q1 q2 q3
  ·rename_i e u l hg;cases hi:Nat.beq es u.cells<;>rw[hi] at h<;>simp only[bq_true,bq_false] at h
   ·cases h
   ·rw[afZ] at hi;subst hi;cases ha with
    |own _ _ _ _ g sz n hρ=>
     have:=g6Z h (hH.real hg hρ).2.2.2.rowAt;simpa using this
  ·cases h
 ·cases ha with|pt _ _ _ _ b off hM hlt hr=>exact g6Z h hr
 ·split at h
  ·rename_i fz e s ms hg
   let⟨m,h1,h2⟩:=ZAH.1 h
   let⟨h3,h4⟩:=adZ.1 h2
   simp[afZ] at h3;obtain⟨h3,rfl⟩:=h3;cases ha with
   |rp _ _ _ _ _ g sz n hρ=>
    have:=g6Z h4 (hH.realX (gtZ hg h1 (by omega)) hρ).2.2.2.rowAt;simpa using this
  ·cases h
 grind
def dC:Array Value->Nat->List Value->Array Value
 |c,_,[]=>c
 |c,o,v::r=>dC (c.setIfInBounds o v) (o+1) r
theorem alZ(vs):∀(c) (o),(dC c o vs).size=c.size:=by
 induction vs<;>grind[dC]
theorem auZ(vs):∀(c) (o k),o+vs.length<=c.size->(dC c o vs)[k]? =if o<=k/\k<o+vs.length then vs[k-o]? else c[k]? :=by
 induction vs with
 |nil=>simp_all[dC,ZAM]
 |cons v vs ih=>
  intro c o k hk;rw[dC]
  grind
theorem gMZ(w:World)(g o)(v)(cs)(e)(fr)(h:w.heap[g]? =some (.cells cs e fr)):(w.setCell ⟨g,o,none⟩ v).heap[g]? =some (.cells (cs.setIfInBounds o v) e fr):=by
 unfold World.setCell
 grind
theorem anZ(vs):∀(w:World) (g o) (cs) (e) (fr),w.heap[g]? =some (.cells cs e fr)->(w.setCells g o vs).heap[g]? =some (.cells (dC cs o vs) e fr):=by
 induction vs with
 |nil=>intro w g o cs e fr h;exact h
 |cons v vs ih=>intro w g o cs e fr h;exact ih _ _ _ _ _ _ (gMZ w g o v cs e fr h)
theorem amZ(vs):∀(w:World) (g o b),b≠g->(w.setCells g o vs).heap[b]? =w.heap[b]? :=by
 induction vs with
 |nil=>intro w g o b _;rfl
 |cons v vs ih=>intro w g o b h;exact(ih _ g (o+1) b h).trans (RowKit.Below.heap_setCell w ⟨g,o,none⟩ v b h)
theorem arZ(vs):∀(w:World) (g o),(w.setCells g o vs).heap.size=w.heap.size/\(w.setCells g o vs).os=w.os/\((w.setCells g o vs).tape=w.tape/\w.drawn<=(w.setCells g o vs).drawn)/\(w.setCells g o vs).output=w.output:=by
 induction vs with
 |nil=>intro w g o;exact⟨rfl,rfl,⟨rfl,ZAL _⟩,rfl⟩
 |cons v vs ih=>
  intro w g o
  let⟨h1,h2,h3,h4⟩:=ih (w.setCell ⟨g,o,none⟩ v) g (o+1)
  exact⟨h1.trans (by simp_all),h2,h3,h4⟩
theorem cZZ{α}(vs):∀(c:List α) (j),(setFrom c j vs).length=c.length:=by
 induction vs<;>grind[setFrom]
theorem daZ{α}(vs):∀(c:List α) (j k),j+vs.length<=c.length->(setFrom c j vs)[k]? =if j<=k/\k<j+vs.length then vs[k-j]? else c[k]? :=by
 induction vs with
 |nil=>simp_all[setFrom,ZAM]
 |cons v vs ih=>
  intro c j k hk;rw[setFrom]
  grind
theorem eOZ{w}{g o}{t}{v}{n}(ht:w.there g o v.cells.size)(hn:P.cellsOf t=n)(h0:n≠0)(hs:v.cells.size=n)(h1:∀u∈v.cells,u.oneCell'=true):
 (Instr.storeAt t (.pointer (some ⟨g,o,none⟩)) v).run P w= .ok () (w.setCells g o v.cells.toList):=by
 have hi:=b6Z hn h0;have:=run_storeCells_cells (P:=P) g o v.cells.toList 0 w (fun j hj=>by simpa using(ht j (by omega)).1) (fun j hj=>by simpa using(ht j (by omega)).2)
  (fun u hu=>h1 u (by simp_all))
 cases hq:P.info? t with
 |none=>simp_all
 |some i=>
  have hs':v.cells.size=i.size:=by simp[hq] at hi;omega
  simp[Instr.storeAt,Instr.sureAddr,storeVar,sizeOf,typeInfo,hq,hs',this]
theorem diZ{w:World}{g o n}{cs}{e}{fr}(h:w.heap[g]? =some (.cells cs e fr))(hf:okF cs fr)(hn:o+n<=cs.size):w.there g o n:=fun j hj=>by
 constructor
 ·rw[bzZ h];grind
 ·unfold World.frozen?;rcases hf with hf|hf<;>grind
theorem mqZ{i j n es:Nat}(hi:i<n)(hj:j<es):i*es+j<n*es:=by
 have:(i+1)*es<=n*es:=ZAf _ hi
 grind
def Ok(P:Program)(s:Sem Value)(z:Z)(K:AV->Hp->Option β)(r:β):Prop:=
 ∃x v H' z',s.run P z.w= .ok v z'.w/\aH z' H'/\aF z' x v/\Nx z z'/\K x H'=some r
def OkP(P:Program)(s:Sem Value)(z:Z)(K:AV->Option β)(r:β):Prop:=
 ∃x v,s.run P z.w= .ok v z.w/\aF z x v/\K x=some r
theorem qQZ{id g sz n o}{t}{v}{b0 b}{cs}{e}{fr}{H'}(hH:aH z H)(hg:aQ H id=some ⟨false,b0⟩)(hρ:z.ρ id= .real g sz n)
 (hcs:z.w.heap[g]? =some (.cells cs e fr))(hf:okF cs fr)(hc0:P.cellsOf t≠0)(hsz:v.cells.size=P.cellsOf t)(hfit:o+v.cells.size<=cs.size)(h1:∀u∈v.cells,u.oneCell'=true)
 (hb:∀z',Kp z z'->z'.w.heap[g]? =some (.cells (dC cs o v.cells.toList) e fr)->fX z' g sz n b)(hu:Upd H id b H')(hro:¬Ro id):
 ∃z',(Instr.storeAt t (.pointer (some ⟨g,o,none⟩)) v).run P z.w= .ok () z'.w/\aH z' H'/\Nx z z'/\z'.ρ=z.ρ:=by
 let⟨q1,q2,q3,q4⟩:=arZ v.cells.toList z.w g o
 let⟨p1,p2⟩:=hH.writeX hg hρ q2 q3 q4 q1 (fun b hb=>amZ _ _ _ _ _ hb) (fun k=>hb _ k (anZ _ _ _ _ _ _ _ hcs)) hu hro
 exact⟨_,eOZ (diZ hcs hf hfit) rfl hc0 hsz h1,p1,p2,rfl⟩
theorem muZ{id g sz n o}{t}{v}{b0 b}{cs}{e}{fr}(hH:aH z H)(hg:aG H id=some ⟨false,b0⟩)(hρ:z.ρ id= .real g sz n)
 (hcs:z.w.heap[g]? =some (.cells cs e fr))(hf:okF cs fr)(hc0:P.cellsOf t≠0)(hsz:v.cells.size=P.cellsOf t)(hfit:o+v.cells.size<=cs.size)(h1:∀u∈v.cells,u.oneCell'=true)
 (hb:∀z',Kp z z'->z'.w.heap[g]? =some (.cells (dC cs o v.cells.toList) e fr)->fX z' g sz n b):
 ∃z',(Instr.storeAt t (.pointer (some ⟨g,o,none⟩)) v).run P z.w= .ok () z'.w/\aH z' (aS H id (some ⟨false,b⟩))/\Nx z z':=by
 let⟨q1,q2,q3,q4⟩:=arZ v.cells.toList z.w g o
 let⟨p1,p2⟩:=hH.write hg hρ q2 q3 q4 q1 (fun b hb=>amZ _ _ _ _ _ hb) (fun k=>hb _ k (anZ _ _ _ _ _ _ _ hcs))
 exact⟨_,eOZ (diZ hcs hf hfit) rfl hc0 hsz h1,p1,p2⟩
theorem uNZ{cs cs'}{fr}(h:okF cs fr)(hs:cs'.size=cs.size):okF cs' fr:=by simp_all[okF]
theorem bK.cells{w}{M}{ρ}{t}{x}{v}(h:bK w M ρ t x v):Cl w M ρ t x v.cells.toList/\∀u∈v.cells,u.oneCell'=true:=
 ⟨h.cells',fun u hu=>h.cells'.one u (by simp_all)⟩
theorem fQZ{id g sz n i j}{t}{e}{u}{l:List u.den}{x x'}{v}{b0}{us}{H'}{cs}{fr}
 (hH:aH z H)(hg:aQ H id=some ⟨false,b0⟩)(hρ:z.ρ id= .real g sz n)(a1:z.w.heap[g]? =some (.cells cs e fr))(a2:okR u cs fr)(a3:cs.size=sz)(a4:l.length=n)(a5:l.length*u.cells<=sz)(a6:0<u.cells)
 (a7:∀(i) x,l[i]? =some x->∃us,Cl z.w z.M z.ρ u x us/\∀(j) v,us[j]? =some v->cs[i*u.cells+j]? =some v)(hsz:v.cells.size=P.cellsOf t)(hc0:P.cellsOf t≠0)(hx:l[i]? =some x)(c4:∀u∈v.cells,u.oneCell'=true)
 (c1:Cl z.w z.M z.ρ u x us)(c2:∀(j) v,us[j]? =some v->cs[i*u.cells+j]? =some v)(q1:Cl z.w z.M z.ρ u x' (us.take j++v.cells.toList++us.drop (j+v.cells.size)))(q2:j+v.cells.size<=u.cells)(hu:Upd H id (.rows e u (l.set i x')) H')(hro:¬Ro id):
 ∃z',(Instr.storeAt t (.pointer (some ⟨g,i*u.cells+j,none⟩)) v).run P z.w= .ok () z'.w/\aH z' H'/\Nx z z'/\z'.ρ=z.ρ:=by
 have hi:i<l.length:=(ZAB.1 hx).1;have hup:(i+1)*u.cells<=l.length*u.cells:=ZAf _ hi;rw[ZCB] at hup;have hul:=c1.len;refine qQZ (P:=P) (t:=t) (o:=i*u.cells+j) (v:=v) (b:=.rows e u (l.set i x')) hH hg hρ a1 a2.f hc0 hsz (by omega) c4 (fun z' k hw=>by
  refine⟨_,fr,hw,eiZ a2 (alZ _ _ _),by simp_all[alZ],by simp_all,by simp_all,a6,fun i' y' hi'=> ?_⟩;by_cases hii:i=i'
  ·subst hii;rw[ZAU hi] at hi';obtain rfl:x'=y':=ZAh hi';refine⟨_,q1.kp k,fun m w hm=> ?_⟩;rw[auZ _ _ _ _ (by grind)];have hlen:(us.take j++v.cells.toList++us.drop (j+v.cells.size)).length=u.cells:=by
    simp[ZAS,ZAx];omega
   have hmlt:m<u.cells:=by
    have:=(ZAB.1 hm).1;omega
   simp only[ZA8];by_cases h1:j<=m/\m<j+v.cells.size
   ·grind
   ·rw[ZAM (by omega)];by_cases h2:m<j
    ·rw[ZAp,ZAT (by simp;omega),ZBo h2] at hm;exact c2 m w hm
    grind
  ·rw[ZAa hii] at hi';obtain⟨us',d1,d2⟩:=a7 i' y' hi';refine⟨us',d1.kp k,fun m w hm=> ?_⟩;have hmlt:m<u.cells:=by
    have:=(ZAB.1 hm).1;rw[d1.len] at this;exact this
   rw[auZ _ _ _ _ (by grind),ZAM,d2 m w hm];simp only[ZA8];rcases ZBy i i' with hlt|hge
   ·have:(i+1)*u.cells<=i'*u.cells:=ZAf _ hlt
    grind
   ·have:(i'+1)*u.cells<=i*u.cells:=ZAf _ (by omega);rw[ZCB] at this;omega) hu hro
theorem gBZ{id g sz n i j}{t}{e}{u want}{l}{x}{y}{v}{b0}{K:AV->Hp->Option β}{r}{mk:List u.den->Hp}
 (hH:aH z H)(hg:aQ H id=some ⟨false,b0⟩)(hρ:z.ρ id= .real g sz n)(hb:fX z g sz n (.rows e u l))(hty:ty P t=some want)(hx:l[i]? =some x)(hy:bK z.w z.M z.ρ want y v)
 (h:upd u x j want y (fun x'=>K .junk (mk (l.set i x')))=some r)(hu:∀l',Upd H id (.rows e u l') (mk l'))(hro:¬Ro id):
 ∃H' z',(Instr.storeAt t (.pointer (some ⟨g,i*u.cells+j,none⟩)) v).run P z.w= .ok () z'.w/\aH z' H'/\Nx z z'/\K .junk H'=some r:=by
 let⟨t1,t2,t3,t4⟩:=dmZ hty
 let⟨c3,c4⟩:=hy.cells
 have hvl:=c3.len;have hvs:=by simpa using hvl
 let⟨cs,fr,a1,a2,a3,a4,a5,a6,a7⟩:=hb
 let⟨us,c1,c2⟩:=a7 i x hx
 obtain⟨x',q1,q2,q3⟩:=mCZ h c1 c3;obtain⟨z',s1,s2,s3,_⟩:=fQZ (P:=P) (t:=t) hH hg hρ a1 a2 a3 a4 a5 a6 a7 (by omega) (by omega) hx c4 c1 c2 (by rw[hvs];exact q1) (by omega) (hu _) hro;exact⟨_,z',s1,s2,s3,q3⟩
theorem kvZ{id g sz n i j}{t}{e}{u want}{l}{x}{a}{v}{b0}{K:AV->Hp->Option β}{r}{mk:List u.den->Hp}
 (hH:aH z H)(hg:aQ H id=some ⟨false,b0⟩)(hρ:z.ρ id= .real g sz n)(hb:fX z g sz n (.rows e u l))(hty:ty P t=some want)(hx:l[i]? =some x)(ha:aF z a v)
 (h:wV u x j want a (fun x'=>K .junk (mk (l.set i x')))=some r)(hu:∀l',Upd H id (.rows e u l') (mk l'))(hro:¬Ro id):
 ∃H' z',(Instr.storeAt t (.pointer (some ⟨g,i*u.cells+j,none⟩)) v).run P z.w= .ok () z'.w/\aH z' H'/\Nx z z'/\K .junk H'=some r:=by
 let⟨t1,t2,t3,t4⟩:=dmZ hty
 let⟨cs,fr,a1,a2,a3,a4,a5,a6,a7⟩:=hb
 let⟨us,c1,c2⟩:=a7 i x hx
 let⟨x',q1,q2,q3,c4,q4⟩:=ilZ h c1 ha
 obtain⟨z',s1,s2,s3,_⟩:=fQZ (P:=P) (t:=t) hH hg hρ a1 a2 a3 a4 a5 a6 a7 (by omega) (by omega) hx c4 c1 c2 (by rw[q3];exact q1) (by omega) (hu _) hro;exact⟨_,z',s1,s2,s3,q4⟩
theorem aH.newM{f}{e}{s}{ms}{l}{r}(hH:aH z H)(hg:aG H (bB f)=some ⟨false,.fam e s ms⟩)
 (hr:(r= .virt/\l=[])\/∃g sz n,r= .real g sz n/\g<z.w.heap.size/\z.C g/\fX z g sz n (.rows e s l)/\∀i ee sz' n',aQ H i=some ee->ee.fz=false->z.ρ i= .real g sz' n'->Ro i/\f%16=15):
 ∃z',z'.w=z.w/\aH z' (aS H (bB f) (some ⟨false,.fam e s (ms++[(1,l)])⟩))/\Nx z z'/\z'.ρ (enc f ms.length)=r:=by
 have hfo:=hH.fam _ _ hg;have aN:=ajZ hg;have hno:z.ρ (enc f ms.length)= .no:=by
  refine(hH.fresh _ ?_).resolve_right (hH.dyn _ (ckZ _ _) (by simp_all[dVZ]));rw[azZ (ckZ _ _),dVZ,n1Z,hg];simp[Ent.has]
 let z':={z with ρ:=fun i=>if i=enc f ms.length then r else z.ρ i}
 have e1:∀i,i≠enc f ms.length->z'.ρ i=z.ρ i:=fun i hi=>ZAM hi;have e2:z'.ρ (enc f ms.length)=r:=ZAN rfl;have hn:Nx z z':=⟨rfl,⟨rfl,ZAL _⟩,rfl,ZAL _,fun _ _ _=>rfl,fun _ h=>.inl h,fun _ h=>.inl h,fun _ _ h _=>h,fun i hi=>e1 i (by grind),rfl⟩;have hkp:=hn.kp hH.sub;have hX:∀i,aQ (aS H (bB f) (some ⟨false,.fam e s (ms++[(1,l)])⟩)) i=if i=enc f ms.length then some ⟨false,.rows e s l⟩ else aQ H i:=fun i=>by
  by_cases hi:∃k',i=enc f k'
  ·obtain⟨k',rfl⟩:=hi;rw[(bIZ H f _ 0).1 k'];by_cases hk:k'=ms.length
   ·subst hk;rw[ZAN rfl];simp[pick]
    rfl
   ·rw[ZAM fun h=>hk (iHZ h).2,cKZ,hg];simp only[ZAA,pick];rcases ZBy k' ms.length with hlt|hge
    ·rw[ZAT hlt]
    ·rw[ZAV hge,ZAw (by simp;omega),ZAw hge]
  simp_all[bIZ,ZAM]
 refine⟨z',rfl,⟨fun i ee hi=> ?_,fun i i' ee ee' a sa na a' sa' na' hii h1 h2 m1 m2 h3 h4=> ?_,fun i hi=> ?_,hH.sub,fun i x h=> ?_,fun i h=> ?_,fun i hd h=> ?_,fun i h1 h2=> ?_⟩,hn,e2⟩
 ·rw[hX] at hi;by_cases h:i=enc f ms.length
  ·subst h;rw[ZAN rfl] at hi;cases hi;unfold dX;rw[e2];have hc:=hfo.2.2.2.1;rcases hr with⟨rfl,rfl⟩|⟨g,sz,n,rfl,q1,q2,q3,_⟩
   ·exact⟨rfl,hc⟩
   ·exact⟨q1,fun _=>q2,(fun h=>by cases h),q3.kp hkp rfl⟩
  ·rw[ZAM h] at hi;exact(hH.ent _ _ hi).kp hkp fun a sa na ha=>⟨rfl,fun h=>h⟩
 ·rw[hX] at h1 h2;have key:∀j jj a sa na a' sa' na',aQ H jj=some a->a.fz=false->z.ρ jj= .real a' sa' na'->z'.ρ (enc f ms.length)= .real j sa na->¬(Ro jj/\Ro (enc f ms.length))->j≠a':=by
   rintro j jj a sa na a' sa' na' p1 p2 p3 p4 p5 rfl;rw[e2] at p4;rcases hr with⟨rfl,_⟩|⟨g,sz,n,rfl,_,_,_,q⟩
   ·cases p4
   ·cases p4;exact p5 ((q jj a _ _ p1 p2 p3).imp id qrZ.2)
  by_cases hi:i=enc f ms.length
  ·have hi':i'≠enc f ms.length:=fun h=>hii (hi.trans h.symm);rw[ZAM hi'] at h2;rw[e1 _ hi'] at h4;rw[hi] at h3;exact fun p5=>key _ _ _ _ _ _ _ _ h2 m2 h4 h3 fun h=>p5 (by rw[hi];exact h.symm)
  ·rw[ZAM hi] at h1;rw[e1 _ hi] at h3;by_cases hi':i'=enc f ms.length
   ·rw[hi'] at h4;exact fun p5=>(key _ _ _ _ _ _ _ _ h1 m1 h3 h4 fun h=>p5 (by rw[hi'];exact h)).symm
   ·rw[ZAM hi'] at h2;rw[e1 _ hi'] at h4;exact hH.inj i i' _ _ _ _ _ _ _ _ hii h1 h2 m1 m2 h3 h4
 ·by_cases hi':∃k',i=enc f k'
  ·obtain⟨k',rfl⟩:=hi';rw[(cbZ H f _ 0).1 k'] at hi;simp[Ent.has] at hi;rw[e1 _ fun h=>by have:=(iHZ h).2;omega];refine hH.fresh _ ?_;rw[azZ (ckZ f k'),dVZ,n1Z,hg];simp[Ent.has];omega
  ·rw[(cbZ H f _ i).2 fun k' h=>hi' ⟨k',h⟩] at hi;rw[e1 _ fun h=>hi' ⟨_,h⟩];exact hH.fresh i hi
 ·rw[apZ] at h;by_cases hi:i=bB f
  ·rw[ZAN hi] at h;cases h;rw[hi];exact hfo
  ·rw[ZAM hi] at h;exact hH.fam i x h
 ·rw[atZ] at h;simp only[ZBB,ZAt] at h;rcases h with rfl|h
  ·exact(bVZ f).2
  ·exact hH.key i h
 ·rw[atZ] at h;simp only[ZBB,ZAt] at h;refine hH.dyn i hd ?_;rcases h with h|h
  ·rw[h];exact aN
  ·exact h
 ·rw[e1 i fun h=>by have:=ckZ f ms.length;omega];exact hH.nos i h1 h2
theorem lCZ{t}{a a'}{H'}{v}(hH:aH z H)(h:JN H t a=some (a',H'))(ha:aF z a v):
 ∃z',z'.w=z.w/\aH z' H'/\Nx z z'/\aF z' a' v:=by
 unfold JN at h;split at h
 ·rename_i f s es id;split at h
  ·rename_i e t l e' s' ms hg hg';rcases aUZ h with⟨ht,hh⟩|hh
   ·clear h;subst ht;rcases aUZ hh with⟨hs,h⟩|h
    ·subst hs;cases hb:(Nat.beq es s'.cells&&Nat.beq e e')<;>rw[hb] at h<;>simp only[bq_true,bq_false] at h
     ·cases h
     simp[afZ] at hb;obtain⟨rfl,rfl⟩:=hb;obtain⟨rfl,rfl⟩:=ZCs (ZAh h);have hkill:=hH.kill (ajZ hg);have hlow:=by
      refine hH.low hg ?_;cases ha with
      |slfV _ _ A hρ=>exact pkZ hρ
      |slf _ _ g sz n c hρ hn hs hm=>exact aVZ hρ
     have hg2:aG (aS H id none) (bB f)=some ⟨false,.fam e s' ms⟩:=by
      rw[apZ,ZAM]
      ·exact hg'
      ·have:=(bVZ f).1;omega
     cases ha with
     |slfV _ _ A hρ=>
      obtain⟨rfl,_⟩:=hH.virt hg hρ;obtain⟨z',p1,p2,p3,p4⟩:=hkill.newM hg2 (.inl ⟨rfl,rfl⟩);exact⟨z',p1,p2,p3,.p _ _ _ (.mkSc (.inl ⟨A,p4,rfl,rfl⟩) rfl)⟩
     |slf _ _ g sz n c hρ hn hs hm=>
      let⟨b1,b2,b3,b4⟩:=hH.real hg hρ
      obtain⟨z',p1,p2,p3,p4⟩:=hkill.newM hg2 (.inr ⟨g,sz,n,rfl,b1,b2 rfl,b4,fun i ee sz' n' q1 q2 q3=>by
       rw[a9Z hlow] at q1;split at q1
       ·cases q1
       ·rename_i hne;exact absurd rfl (hH.inj i id _ _ _ _ _ _ _ _ hne q1 (hH.x hg (aVZ hρ)) q2 rfl q3 hρ fun h=>bSZ hlow h.2)⟩)
      have hln:l.length=n:=by let⟨cs,fr,a1,a2,a3,a4,_⟩:=b4;exact a4
      refine⟨z',p1,p2,p3,.p _ _ _ (.mkSc (.inr ⟨g,sz,n,c,p4,?_⟩) rfl)⟩;show l.length<=c/\(0+c)*s'.cells<=sz/\c<=maxLen/\[Value.slice (some ⟨g,0,none⟩) n c]=[.slice (some ⟨g,0*s'.cells,none⟩) l.length c];rw[hln,ZBu,ZA5];exact⟨hn,hs,hm,rfl⟩
    ·cases h
   ·cases hh
  ·cases h
 grind[ZAO,ZA3,Nx.refl]
theorem qcZ:∀{ts} {l l'} {z} {H H'} {vs},aH z H->NU H ts l=some (l',H')->aR z l vs->
 ∃z',z'.w=z.w/\aH z' H'/\Nx z z'/\aR z' l' vs
 |[],l,l',z,H,H',vs,hH,h,hr=>by
  have h:some (l,H)=some (l',H'):=by cases l<;>exact h
  grind[ZAO,ZA3,Nx.refl]
 |t::ts,[],l',z,H,H',vs,hH,h,hr=>by
  simp[NU,ZA3] at h
  grind[Nx.refl]
 |t::ts,a::l,l',z,H,H',vs,hH,h,hr=>by
  let⟨⟨x,H1⟩,h1,h2⟩:=agZ.1 h
  let⟨⟨y,H2⟩,h3,h4⟩:=ZAI.1 h2
  obtain⟨rfl,rfl⟩:=h4
  match vs,hr with
  |[],hr=>have:=hr.1;simp at this
  |v::vs,hr=>
   let⟨z1,q1,q2,q3,q4⟩:=lCZ hH h1 hr.head
   let⟨z2,p1,p2,p3,p4⟩:=qcZ q2 h3 (hr.tail.kp (q3.kp hH.sub))
   exact⟨z2,p1.trans q1,p2,q3.trans p3,.cons (q4.kp (p3.kp q2.sub)) p4⟩
theorem p9Z{t}{a a'}{H'}{v}(hH:aH z H)(h:NV H t a=some (a',H'))(ha:aF z a v):
 ∃z',z'.w=z.w/\aH z' H'/\Nx z z'/\aF z' a' v:=by
 unfold NV at h;split at h
 ·let⟨⟨l',H1⟩,h1,h2⟩:=ZAI.1 h
  obtain⟨rfl,rfl⟩:=h2;cases ha with|agg _ cs hs h3 h4=>
  let⟨z',q1,q2,q3,q5⟩:=qcZ (vs:=cs.toList) hH h1 ⟨by simp[hs],fun i a v p1 p2=>h4 i a v p1 (by simpa using p2)⟩
  refine⟨z',q1,q2,q3,.agg _ _ ?_ h3 fun i x v p1 p2=>q5.2 i x v p1 (by simpa using p2)⟩;have:=q5.1;simpa using this.symm
 grind[lCZ]
theorem qCZ{id g sz n i j}{t}{e}{u}{l}{a}{v}{b0}{K}{r:β}
 (h:uM P t e u l i j id a H K=some r)(hH:aH z H)(hg:aG H id=some ⟨false,b0⟩)(hρ:z.ρ id= .real g sz n)(hb:fX z g sz n (.rows e u l))(ha:aF z a v):
 ∃H' z',(Instr.storeAt t (.pointer (some ⟨g,i*u.cells+j,none⟩)) v).run P z.w= .ok () z'.w/\aH z' H'/\Nx z z'/\K .junk H'=some r:=by
 have key:∀want,ty P t=some want->(asA want a fun y=>l[i]?.bind fun x=>upd u x j want y fun x'=>K .junk (aS H id (some ⟨false,.rows e u (l.set i x')⟩)))=some r->
  ∃H' z',(Instr.storeAt t (.pointer (some ⟨g,i*u.cells+j,none⟩)) v).run P z.w= .ok () z'.w/\aH z' H'/\Nx z z'/\K .junk H'=some r:=by
  intro want hty h
  let⟨y,h1,h2⟩:=bTZ h ha
  let⟨x,h3,h4⟩:=ZAH.1 h2
  have hid:=hH.low hg (aVZ hρ);exact gBZ hH (hH.x hg (aVZ hρ)) hρ hb hty h3 h1 h4 (fun l'=>.stat hid hg hid) (bSZ hid)
 unfold uM at h;split at h
 ·rename_i m u' hty;cases hc:(decide (u'=u)&&Nat.beq i 0&&Nat.beq j 0)<;>rw[hc] at h<;>simp[bq_true,bq_false] at h
  ·exact key _ hty h
  ·simp only[ZAF,ZAt,afZ] at hc;obtain⟨⟨rfl,rfl⟩,rfl⟩:=hc
   let⟨h1,h2⟩:=adZ.1 h
   let⟨l',h3,h4⟩:=bTZ h2 ha
   let⟨h5,h6⟩:=adZ.1 h4
   rw[afZ] at h1 h5
   let⟨t1,t2,t3,t4⟩:=dmZ hty
   let⟨cs,fr,a1,a2,a3,a4,a5,a6,a7⟩:=hb
   let⟨c3,c4⟩:=h3.cells
   have hvl:=c3.len;have hvs:=by simpa[Ty.cells] using hvl
   let⟨_,css,d1,d2,d3⟩:=c3
   let⟨z',s1,s2,s3⟩:=muZ (P:=P) (t:=t) (o:=0*u'.cells+0) (b:=.rows e u' l') hH hg hρ a1 a2.f (by omega) (by rw[hvs];exact t1) (by rw[hvs,<-h1];omega) c4 (fun z' k hw=>by
    refine⟨_,fr,hw,eiZ a2 (alZ _ _ _),by rw[alZ];exact a3,by rw[h5,<-h1];exact a4,by rw[h5,<-h1];exact a5,a6,fun i' y' hi'=> ?_⟩;have hil:i'<css.length:=by
     have:=(ZAB.1 hi').1;omega
    refine⟨css[i'],(d3 i' y' _ hi' (ZAC hil)).kp k,fun q w hq=> ?_⟩;have hlens:∀u∈css,u.length=u'.cells:=fun u hu=>by
     let⟨k,hk⟩:=ZAP hu
     let⟨e,he⟩:=bfZ (l:=l') (by rw[d1,h5]) hk
     exact(d3 k e u he hk).len
    have hqlt:=by
     have:=(ZAB.1 hq).1;rwa [hlens _ (ZBO hil)] at this
    have hlt:=mqZ hil hqlt;have hfl:∀(css:List (List Value)) (k) (hk),(∀u∈css,u.length=u'.cells)->∀q w,css[k][q]? =some w->css.flatten[k*u'.cells+q]? =some w:=by
     intro css;induction css with
     |nil=>intro k hk;simp at hk
     |cons c css ih=>
      intro k hk hl q w hq
      match k with
      |0=>
       simp at hq;rw[ZCS,ZBu,ZA5,ZAT (ZAB.1 hq).1];exact hq
      |k+1=>
       have hc:=hl c (by simp);rw[ZCS,ZAV (by rw[ZCB];omega)];have:=ih k (by simpa using hk) (fun u hu=>hl u (by simp[hu])) q w (by simpa using hq);rw[<-this];congr 1;rw[ZCB];omega
    have h7:=hfl css i' hil hlens q w hq;rw[auZ _ _ _ _ (by simp;rw[hvs,<-h1];omega),ZAN (by simp;rw[hvs];rw[d1] at hlt;omega)];rw[<-h7,<-d2];congr 1;omega)
   exact⟨_,z',s1,s2,s3,h6⟩
 ·rename_i want hne hty;exact key _ hty h
 grind
theorem nSZ{t}{a x}{K}{r:β}{pv v}(h:pQ P t a x H K=some r)(hH:aH z H)(ha:aF z a pv)(hx:aF z x v):
 ∃H' z',(Instr.storeAt t pv v).run P z.w= .ok () z'.w/\aH z' H'/\Nx z z'/\K .junk H'=some r:=by
 unfold pQ at h;split at h
 ·rename_i es id i j;cases ha with
  |own _ _ _ _ g sz n hρ=>
   split at h
   ·rename_i c hg
    let⟨vs,h1,h2⟩:=agZ.1 h
    let⟨h3,h4⟩:=adZ.1 h2
    simp only[ZAF,ZAj,ZAm,afZ] at h3
    let⟨⟨h5,h6⟩,h7⟩:=h3
    obtain⟨o,ho⟩:∃o,i*es+j=o:=⟨_,rfl⟩;rw[ho] at h4 h7⊢
    let⟨p1,p2,_⟩:=cHZ h1 hx
    let⟨_,_,_,cs,e,fr,q1,q2,q3,⟨q4,qn⟩,q5,q6⟩:=hH.real hg hρ
    have hc0:P.cellsOf t≠0:=fun h0=>by rw[h0] at h6;simp at h6
    have hvs:=by have:=p1.1;simpa using this.symm
    obtain⟨z',s1,s2,s3⟩:=muZ (o:=o) (b:=.vars (setFrom c o vs)) hH hg hρ q1 q2 hc0 (by omega) (by omega) p2 (fun z' k hw=>by
     refine⟨_,e,fr,hw,uNZ q2 (alZ _ _ _),by rw[alZ];exact q3,⟨by rw[cZZ];exact q4,qn⟩,fun m a u hk hu=> ?_,fun u hu=> ?_⟩
     ·rw[daZ _ _ _ _ h7] at hk;rw[auZ _ _ _ _ (by simp;omega)] at hu;simp only[ZA8,hvs] at hu;by_cases hin:o<=m/\m<o+vs.length
      ·rw[ZAN hin] at hk hu;exact(p1.2 _ _ _ hk hu).kp k
      ·rw[ZAM hin] at hk hu;exact(q5 _ _ _ hk hu).kp k
     ·obtain⟨m,hm,rfl⟩:=Array.mem_iff_getElem.1 hu;have hk':=ZAy hm;generalize (dC cs o v.cells.toList)[m]=u at hk';rw[auZ _ _ _ _ (by simp;omega)] at hk';split at hk'
      ·exact p2 u (by have:=ZAG hk';simpa using this)
      ·exact q6 u (Array.mem_of_getElem? hk'))
    exact⟨_,z',s1,s2,s3,h4⟩
   ·rename_i e u l hg;cases hes:Nat.beq es u.cells<;>rw[hes] at h<;>simp only[bq_true,bq_false] at h
    ·cases h
    rw[afZ] at hes;subst hes;cases hnr:u.noRef<;>rw[hnr] at h<;>simp only[bq_true,bq_false] at h
    ·unfold SF at h
     let⟨want,g1,h⟩:=agZ.1 h
     let⟨u',g2,h⟩:=agZ.1 h
     let⟨⟨a1,H1⟩,g3,h⟩:=agZ.1 h
     let⟨⟨a2,H2⟩,g4,h⟩:=agZ.1 h
     let⟨g5,h⟩:=adZ.1 h
     let⟨x0,g6,h⟩:=ZAH.1 h
     let⟨z1,p1,p2,p3,p4⟩:=p9Z hH g3 hx
     let⟨z2,r1,r2,r3,r4,r5⟩:=bUZ p2 g4 p4
     obtain⟨b1,hg1⟩:∃b1,aG H2 id=some ⟨false,b1⟩:=by
      simp only[GR] at g5;split at g5
      ·rename_i e' he'
       let⟨fz,b1⟩:=e'
       simp only[ZAj] at g5;subst g5;exact⟨b1,he'⟩
      ·cases g5
     have hn:=p3.trans r3;have hρ2:z2.ρ id= .real g sz n:=by rw[hn.ext id (aVZ hρ)];exact hρ
     have hb:=(hH.real hg hρ).2.2.2.kp (hn.kp hH.sub) (by rw[r1,p1]);have hid:=r2.low hg1 (aVZ hρ2)
     let⟨H',z',s1,s2,s3,s4⟩:=kvZ r2 (r2.x hg1 (aVZ hρ2)) hρ2 hb g1 g6 r5 h (fun l'=>.stat hid hg1 hid) (bSZ hid)
     exact⟨H',z',by rw[<-p1,<-r1];exact s1,s2,hn.trans s3,s4⟩
    let⟨⟨a',H1⟩,h1,h2⟩:=agZ.1 h
    let⟨h3,h4⟩:=adZ.1 h2
    let⟨z1,p1,p2,p3,p4,p5⟩:=bUZ hH h1 hx
    have hg1:∃b1,aG H1 id=some ⟨false,b1⟩:=by
     simp only[GR] at h3;split at h3
     ·rename_i e' he'
      let⟨fz,b1⟩:=e'
      simp only[ZAj] at h3;subst h3;exact⟨b1,he'⟩
     ·cases h3
    let⟨b1,hg1⟩:=hg1
    have hb:=(hH.real hg hρ).2.2.2.kp (p3.kp hH.sub) (by rw[p1])
    let⟨H',z',s1,s2,s3,s4⟩:=qCZ h4 p2 hg1 (by rw[p4];exact hρ) hb p5
    exact⟨H',z',by rw[<-p1];exact s1,s2,p3.trans s3,s4⟩
   ·cases h
 ·rename_i f es k i j;unfold SG at h
  let⟨want,g1,h⟩:=agZ.1 h
  let⟨⟨a1,H1⟩,g2,h⟩:=agZ.1 h
  obtain⟨z1,p1,p2,p3,p4,p5⟩:=bUZ hH g2 hx;split at h
  ·rename_i e s ms hg;obtain⟨hnr,h⟩:=adZ.1 h;obtain⟨m,g3,h⟩:=ZAH.1 h;obtain⟨g4,h'⟩:=adZ.1 h;clear h;simp only[ZAF,afZ] at g4;obtain⟨⟨g4,hes⟩,g5⟩:=g4;subst hes;clear g5;have h:=h';obtain⟨y,g6,h⟩:=bTZ h p5;obtain⟨r0,g7,h⟩:=ZAH.1 h;cases ha with
   |rp _ _ _ _ _ g sz n hρ=>
    have hρ1:z1.ρ (enc f k)= .real g sz n:=by rw[p4];exact hρ
    have hgX:=gtZ hg g3 (by rw[g4];omega);have hfz:((⟨false||Nat.ble 2 m.1,.rows e s m.2⟩:Ent))=⟨false,.rows e s m.2⟩:=by rw[g4];rfl
    rw[hfz] at hgX;obtain⟨H',z',s1,s2,s3,s4⟩:=gBZ p2 hgX hρ1 (p2.realX hgX hρ1).2.2.2 g1 g7 g6 h (fun l'=>.mem hg (p2.fam _ _ hg) g3 l') (lgZ hnr);exact⟨H',z',by rw[<-p1];exact s1,s2,p3.trans s3,s4⟩
  ·cases h
 grind
end
end
section
variable {P : Program} {β : Type} {z : Z} {H : Hp}
theorem OkP.mk'{s}{K}{r:β}{x}{v}(h1:s.run P z.w= .ok v z.w)(h2:aF z x v)(h3:K x=some r):OkP P s z K r:=⟨x,v,h1,h2,h3⟩
theorem a7Z{t n:Nat}(w)(h:P.cellsOf t=n)(h0:n≠0):(sizeOf t).run P w= .ok n w:=by
 have hi:=b6Z h h0;cases hq:P.info? t with
 |none=>simp_all
 |some i=>simp[hq] at hi;simp[sizeOf,typeInfo,hq,hi]
theorem eaZ{s}{f o}{t}(h:lZ P s f=some (o,t)):∃fs x,P.underlying s=some (.struct fs)/\fs[f]? =some x/\P.cellsOf x.type≠0/\x.offset=o/\x.type=t:=by
 unfold lZ at h;split at h
 ·rename_i fs hu
  let⟨x,h1,h2⟩:=agZ.1 h
  cases hb:Nat.beq (P.cellsOf x.type) 0<;>rw[hb] at h2<;>simp only[bq_true,bq_false] at h2
  ·simp[ZA3] at h2;exact⟨fs,x,hu,h1,fun h=>(by rw[h] at hb;cases hb),h2.1,h2.2⟩
  ·cases h2
 grind
theorem emZ{s}{f o b p}{t}(h:lZ P s f=some (o,t))(w):(Instr.fieldAt s (.pointer (some ⟨b,p,none⟩)) f).run P w= .ok (.pointer (some ⟨b,p+o,none⟩)) w:=by
 let⟨fs,x,h1,h2,h3,h4,h5⟩:=eaZ h
 have hs:=a7Z w rfl h3;simp[Instr.fieldAt,run_underlying h1,h2,Instr.sureAddr,fieldPlace,hs,h3,h4,Addr.add_mid]
theorem haZ{s}{a}{f}{K}{r:β}{v}(h:gQ P s a f K=some r)(ha:aF z a v):OkP P (Instr.fieldAt s v f) z K r:=by
 unfold gQ at h;split at h
 ·rename_i o t es id i j ho;cases ha with
  |own _ _ _ _ g sz n hρ=>exact .mk' (by rw[emZ ho];rw[ZCC]) (.own _ _ _ _ _ _ _ hρ) h
 ·rename_i o t u l i j ho;cases ha with
  |pt _ _ _ _ b off hM hlt hr=>exact .mk' (by rw[emZ ho,ZCC (off+i*u.cells)]) (.pt _ _ _ _ _ _ hM hlt hr) h
 ·rename_i o t f' es k i j ho;cases ha with
  |rp _ _ _ _ _ g sz n hρ=>exact .mk' (by rw[emZ ho];rw[ZCC]) (.rp _ _ _ _ _ _ _ _ hρ) h
 grind
theorem bwZ{t}{cs}{o n}(w)(h:fG P t=true)(hn:P.cellsOf t=n)(h0:n≠0):(part t cs o).run P w= .ok (.agg (cs.extract o (o+n))) w:=by
 let⟨d,hd,hr⟩:=eZZ h
 have hs:=a7Z w hn h0;have ha:(isAgg t).run P w= .ok true w:=by
  unfold isAgg;rw[Sem.run_bind,run_underlying hd w];cases d<;>simp_all
 simp[part,ha,hs]
theorem bhZ{t}{cs}{o}{v}(w)(h:eP P t=true)(hv:cs[o]? =some v):(part t cs o).run P w= .ok v w:=by
 simp[part,jUZ w h,hv]
theorem vaZ{u}{t}{x}{cs}{o}{K}{r:β}(h:rD P u t x o K=some r)(hc:Cl z.w z.M z.ρ u x cs.toList):OkP P (part t cs o) z K r:=by
 unfold rD at h
 let⟨want,h1,h2⟩:=agZ.1 h
 let⟨t1,t2,t3,t4⟩:=dmZ h1
 obtain⟨t',y,e1,e2,q1,q3⟩:∃(t':Ty) (y:t'.den),t'.cells=want.cells/\t'.isAgg=want.isAgg/\Cl z.w z.M z.ρ t' y ((cs.toList.drop o).take t'.cells)/\K (.ofTy t' y)=some r:=by
  cases hnr:u.noRef<;>rw[hnr] at h2<;>simp only[bq_true,bq_false] at h2
  ·let⟨t',y,q0,q1,q2,q3⟩:=fLZ h2 hc
   exact⟨t',y,by rw[<-q0,a4Z],by rw[<-q0,fZZ],q1,q3⟩
  grind[kyZ]
 rw[<-e1] at t1 t2;rw[<-e2] at t3 t4;clear h2 h1 e1 e2;have hl:=q1.len;cases hagg:t'.isAgg
 ·have hcells:t'.cells=1:=by cases t'<;>first|rfl|simp_all[Ty.isAgg]
  match hvs:(cs.toList.drop o).take t'.cells,hl with
  |[],hl=>simp_all
  |_::_::_,hl=>simp_all
  |[v],_=>
   rw[hvs] at q1;have hv:=by
    have:((cs.toList.drop o).take t'.cells)[0]? =some v:=by rw[hvs];rfl
    rw[hcells] at this;simpa using this
   exact .mk' (bhZ z.w (t4 hagg) hv) (b7Z (.mkSc q1 hagg)) q3
 ·refine .mk' (bwZ z.w (t3 hagg) t1.symm (by omega)) (b7Z ⟨_,q1,?_⟩) q3;rw[hagg];simp only[ZAK];congr 1
  grind
theorem ntZ{s}{a}{f}{K}{r:β}{v}(h:pS P s a f K=some r)(ha:aF z a v):OkP P (Instr.field s v f) z K r:=by
 have run:∀{o t} {cs},lZ P s f=some (o,t)->(Instr.field s (.agg cs) f).run P z.w=(part t cs o).run P z.w:=fun{o t cs} ho=>by
  let⟨fs,x,h1,h2,h3,h4,h5⟩:=eaZ ho
  simp[Instr.field,run_underlying h1,h2,asAgg,h4,h5]
 unfold pS at h;split at h
 ·rename_i o t c ho
  let⟨fs,x,h1,h2,h3,h4,h5⟩:=eaZ ho
  cases ha with|agg _ cs hs q1 q2=>
  have hc:aR z c cs.toList:=⟨by simp[hs],fun i a v p1 p2=>q2 i a v p1 (by simpa using p2)⟩;cases hagg:fG P t<;>rw[hagg] at h<;>simp[bq_false] at h
  ·cases hsc:eP P t<;>rw[hsc] at h<;>simp only[bq_true,bq_false] at h
   ·cases h
   ·let⟨a',p1,p2⟩:=agZ.1 h
    let⟨v,p3,p4⟩:=hc.get p1
    exact .mk' (by rw[run ho];exact bhZ z.w hsc (by simpa using p3)) p4 p2
  ·let⟨p1,p2⟩:=adZ.1 h
   rw[ZAm] at p1;have h0:P.cellsOf t≠0:=by rw[<-h5];exact h3
   have hd:=(hc.drop o).take (P.cellsOf t);refine .mk' (by rw[run ho];exact bwZ z.w hagg rfl h0) (.agg _ _ ?_ (fun v hv=> ?_) (fun i x v e1 e2=>hd.2 i x v e1 ?_)) p2
   ·have:=hd.1;rw[this];rw[<-Array.length_toList];simp
   ·have hv':=ZBN.2 hv;rw[ZCQ] at hv';exact q1 v (ZBN.1 (ZCe (ZCP (by simpa[List.extract] using hv'))))
   ·have:(cs.extract o (o+P.cellsOf t)).toList[i]? =some v:=by rw[ZAs];exact e2
    rw[ZCQ,ZCL,ZA9] at this;exact this
 ·rename_i o t u x ho;cases hagg:u.isAgg<;>rw[hagg] at h<;>simp only[bq_true,bq_false] at h
  ·cases h
  ·let⟨vs,p1,p2⟩:=ha.v
   rw[hagg] at p2;simp at p2;subst p2;obtain⟨y,v,e1,e2,e3⟩:=vaZ h (by simpa using p1);exact .mk' (by rw[run ho];exact e1) e2 e3
 grind
theorem coZ{i}{n q}(h:aK i n=some q):0<=i/\i<n/\i.toNat=q:=by
 simp_all[aK]
theorem cvZ{i}{n q}(h:bL i n=some q):0<=i/\i<=n/\i.toNat=q:=by
 simp_all[bL]
theorem dPZ{es id}{K}{r:β}(h:jZ H es id K=some r):∃fz e u l,aG H id=some ⟨fz,.rows e u l⟩/\es=u.cells/\K u l=some r:=by
 grind[jZ,Nat.beq,bq_true,bq_false,afZ]
theorem hzZ{es id n}{v}(h:wB H es id=some n)(hH:aH z H)(ha:aF z (.slf es id) v):
 es=1/\∃g sz c,z.ρ id= .real g sz n/\v= .slice (some ⟨g,0,none⟩) n c/\n<=c/\c<=maxLen:=by
 unfold wB at h;split at h
 ·rename_i fz c hg;cases hb:Nat.beq es 1<;>rw[hb] at h<;>simp only[bq_true,bq_false] at h
  ·cases h
  ·rw[afZ] at hb;simp at h;subst h;cases ha with
   |slfV _ _ A hρ=>exact absurd (hH.virt hg hρ) (fun h=>h)
   |slf _ _ g sz n k hρ hn hs hm=>
    let⟨_,_,_,cs,e,fr,a1,a2,a3,⟨a4,a5⟩,_⟩:=hH.real hg hρ
    have e1:n=c.length:=by omega
    subst e1;exact⟨hb,g,sz,k,hρ,rfl,hn,hm⟩
 grind
theorem iRZ{es id}{v}{fz}{e}{u}{l}(hH:aH z H)(hg:aG H id=some ⟨fz,.rows e u l⟩)(ha:aF z (.slf es id) v):
 ∃A c,v= .slice A l.length c/\l.length<=c/\(l.length≠0->∃g sz n,z.ρ id= .real g sz n/\A=some ⟨g,0,none⟩/\c*es<=sz/\c<=maxLen)/\
  (z.ρ id= .virt\/∃g sz n,z.ρ id= .real g sz n/\A=some ⟨g,0,none⟩/\c*es<=sz/\c<=maxLen)/\c<=maxLen:=by
 cases ha with
 |slfV _ _ A hρ=>
  obtain⟨rfl,_⟩:=hH.virt hg hρ;exact⟨A,0,rfl,ZAL _,fun h=>absurd rfl h,.inl hρ,by omega⟩
 |slf _ _ g sz n c hρ hn hs hm=>
  let⟨_,_,_,cs,fr,a1,a2,a3,a4,a5,a6,a7⟩:=hH.real hg hρ
  rw[<-a4] at hn⊢
  grind
theorem aSZ{t e}{b o n c q m:Nat}{k}{x:Int}(w)(h:P.underlying t=some (.slice e))(h0:0<=x)(h1:x<n)(h2:x.toNat=q)(hm:P.cellsOf e=m)(hm0:m≠0):
 (Instr.indexAt t (.slice (some ⟨b,o,none⟩) n c) (.int k x)).run P w= .ok (.pointer (some ⟨b,o+q*m,none⟩)) w:=by
 have hs:=a7Z w hm hm0;simp[Instr.indexAt,asIntOf,run_underlying h,h0,h1,hs,h2,Addr.add_mid]
theorem byZ{t e}{b o n q m}{k}{x:Int}(w)(h:P.underlying t=some (.array n e))(h0:0<=x)(h1:x<n)(h2:x.toNat=q)(hm:P.cellsOf e=m)(hm0:m≠0):
 (Instr.indexAt t (.pointer (some ⟨b,o,none⟩)) (.int k x)).run P w= .ok (.pointer (some ⟨b,o+q*m,none⟩)) w:=by
 have hs:=a7Z w hm hm0;simp[Instr.indexAt,asIntOf,run_underlying h,h0,h1,hs,h2,Addr.add_mid,Instr.sureAddr]
end
end Go.Ab
