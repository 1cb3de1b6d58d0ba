/- An evaluator of the model's code over plain values, and its soundness; of no program. -/
import Derived.Calls
import Derived.Laws.Sem
import Derived.Deep.MidRow
import Derived.Below
import Derived.Laws.StructEq
import Derived.Laws.Cover3
import Derived.ChangeKeysEq
import Derived.Laws.BytesString
set_option linter.all false
namespace Go.Ab
theorem ZAA:type_of% @Option.bind_some:=@Option.bind_some
theorem ZAB:type_of% @List.getElem?_eq_getElem:=@List.getElem?_eq_getElem
theorem ZAC:type_of% @List.getElem?_eq_some_iff:=@List.getElem?_eq_some_iff
theorem ZAD:type_of% @cond_false:=@cond_false
theorem ZAF:type_of% @Bool.and_eq_true:=@Bool.and_eq_true
theorem ZAG:type_of% @Option.bind_eq_some_iff:=@Option.bind_eq_some_iff
theorem ZAH:type_of% @Option.map_eq_some_iff:=@Option.map_eq_some_iff
theorem ZAI:type_of% @List.mem_of_getElem?:=@List.mem_of_getElem?
theorem ZAJ:type_of% @if_neg:=@if_neg
theorem ZAL:type_of% @if_pos:=@if_pos
theorem ZAM:type_of% @cond_true:=@cond_true
theorem ZAN:type_of% @Nat.le_refl:=@Nat.le_refl
theorem ZAQ:type_of% @List.length_take:=@List.length_take
theorem ZAR:type_of% @List.getElem?_set_self:=@List.getElem?_set_self
theorem ZAS:type_of% @List.getElem?_append_left:=@List.getElem?_append_left
theorem ZAT:type_of% @List.getElem?_of_mem:=@List.getElem?_of_mem
theorem ZAU:type_of% @List.getElem?_append_right:=@List.getElem?_append_right
theorem ZAW:type_of% @Option.some.injEq:=@Option.some.injEq
theorem ZAX:type_of% @List.getElem?_set_ne:=@List.getElem?_set_ne
theorem ZAY:type_of% @List.eq_nil_of_length_eq_zero:=@List.eq_nil_of_length_eq_zero
theorem ZAd:type_of% @List.getElem?_eq_none:=@List.getElem?_eq_none
theorem ZAe:type_of% @Nat.mul_le_mul_right:=@Nat.mul_le_mul_right
theorem ZAf:type_of% @List.length_append:=@List.length_append
theorem ZAg:type_of% @Option.some.inj:=@Option.some.inj
theorem ZAh:type_of% @List.mem_append:=@List.mem_append
theorem ZAi:type_of% @Nat.ble_eq_true_of_le:=@Nat.ble_eq_true_of_le
theorem ZAj:type_of% @List.mem_cons:=@List.mem_cons
theorem ZAk:type_of% @Nat.add_mul:=@Nat.add_mul
theorem ZAl:type_of% @Bool.not_eq_true':=@Bool.not_eq_true'
theorem ZAm:type_of% @Nat.ble_eq:=@Nat.ble_eq
theorem ZAq:type_of% @decide_eq_true_eq:=@decide_eq_true_eq
theorem ZAs:type_of% @List.append_nil:=@List.append_nil
theorem ZAv:type_of% @List.length_drop:=@List.length_drop
theorem ZAw:type_of% @List.take_of_length_le:=@List.take_of_length_le
theorem ZAx:type_of% @List.append_assoc:=@List.append_assoc
theorem ZAy:type_of% @List.getElem?_drop:=@List.getElem?_drop
theorem ZAz:type_of% @Nat.zero_add:=@Nat.zero_add
theorem ZA1:type_of% @Prod.mk.injEq:=@Prod.mk.injEq
theorem ZA2:type_of% @Bool.or_eq_true:=@Bool.or_eq_true
theorem ZA5:type_of% @Array.length_toList:=@Array.length_toList
theorem ZA6:type_of% @Nat.add_sub_cancel_left:=@Nat.add_sub_cancel_left
theorem ZA7:type_of% @Array.getElem?_toList:=@Array.getElem?_toList
theorem ZBC:type_of% @Nat.le_trans:=@Nat.le_trans
theorem ZBD:type_of% @List.take_append_drop:=@List.take_append_drop
theorem ZBE:type_of% @Array.getElem?_eq_getElem:=@Array.getElem?_eq_getElem
theorem ZBF:type_of% @Nat.zero_le:=@Nat.zero_le
theorem ZBG:type_of% @List.drop_of_length_le:=@List.drop_of_length_le
theorem ZBH:type_of% @Array.mem_toList_iff:=@Array.mem_toList_iff
theorem ZBN:type_of% @List.getElem_mem:=@List.getElem_mem
theorem ZBQ:type_of% @Nat.le_of_ble_eq_true:=@Nat.le_of_ble_eq_true
theorem ZBR:type_of% @Nat.not_le:=@Nat.not_le
theorem ZBU:type_of% @List.take_append_of_le_length:=@List.take_append_of_le_length
theorem ZBa:type_of% @List.getElem?_take_of_lt:=@List.getElem?_take_of_lt
theorem ZBb:type_of% @List.nil_append:=@List.nil_append
theorem ZBk:type_of% @Ne.symm:=@Ne.symm
theorem ZBl:type_of% @and_true:=@and_true
theorem ZBm:type_of% @Nat.eq_zero_or_pos:=@Nat.eq_zero_or_pos
theorem ZBp:type_of% @beq_iff_eq:=@beq_iff_eq
theorem ZBq:type_of% @Nat.zero_mul:=@Nat.zero_mul
theorem ZBt:type_of% @Array.eq_empty_of_size_eq_zero:=@Array.eq_empty_of_size_eq_zero
theorem ZBw:type_of% @List.drop_append_of_le_length:=@List.drop_append_of_le_length
theorem ZBx:type_of% @List.mem_of_mem_take:=@List.mem_of_mem_take
theorem ZB1:type_of% @Nat.lt_or_ge:=@Nat.lt_or_ge
theorem ZB2:type_of% @List.drop_zero:=@List.drop_zero
theorem ZCC:type_of% @Nat.eq_of_beq_eq_true:=@Nat.eq_of_beq_eq_true
theorem ZCD:type_of% @Nat.succ_mul:=@Nat.succ_mul
theorem ZCE:type_of% @Nat.add_assoc:=@Nat.add_assoc
theorem ZCJ:type_of% @List.extract_eq_take_drop:=@List.extract_eq_take_drop
theorem ZCO:type_of% @Array.toList_extract:=@Array.toList_extract
theorem ZCQ:type_of% @List.flatten_cons:=@List.flatten_cons
theorem ZCT:type_of% @Nat.le_add_right:=@Nat.le_add_right
theorem ZCV:type_of% @Nat.mod_lt:=@Nat.mod_lt
theorem ZCi:type_of% @List.mem_of_mem_drop:=@List.mem_of_mem_drop
theorem ZCj:type_of% @List.mem_flatten:=@List.mem_flatten
theorem ZCk:type_of% @List.drop_append:=@List.drop_append
def hg1:Unit:=()
def hg2:Unit:=hg1
def hg3:Unit:=hg2
def hg4:Unit:=hg3
def hg5:Unit:=hg4
def _root_.Option.ob{α β:Type}(x:Option α)(f:α->Option β):Option β:=(λ(_:Unit)=>match x with|some a=>f a|none=>none) hg5
def bq{α:Type}(b:Bool)(x y:α):α:=(λ(_:Unit)=>match b with|true=>x|false=>y) hg5
inductive Ty where
 |int (k:IntKind)|byte|bool|str|opq|nat
 |sl (t:Ty)|one (t:Ty)|pair (a b:Ty)|arr (n:Nat) (t:Ty)
 |ref (f:Nat) (t:Ty)
 |ptr (t:Ty)
 deriving DecidableEq
@[reducible] def Ty.den:Ty->Type
  |.int _=>Int
  |.byte=>UInt8
  |.bool=>Bool
  |.str=>List UInt8
  |.opq=>Value
  |.nat=>Nat
  |.sl t=>List t.den
  |.one t=>t.den
  |.pair a b=>a.den×b.den
  |.arr _ t=>List t.den
  |.ref _ t=>List t.den⊕Option (Nat×(Nat×Nat))
  |.ptr t=>List t.den
def Ty.cells:Ty->Nat
 |.one t=>t.cells
 |.pair a b=>a.cells+b.cells
 |.arr n t=>n*t.cells
 |_=>1
def Ty.unref:Ty->Ty
 |.ref _ t=>.sl t
 |.one t=>.one t.unref
 |.pair a b=>.pair a.unref b.unref
 |.int k=>.int k
 |.byte=>.byte
 |.bool=>.bool
 |.str=>.str
 |.opq=>.opq
 |.nat=>.nat
 |.sl t=>.sl t
 |.arr n t=>.arr n t
 |.ptr t=>.ptr t
def dE:(t:Ty)->t.unref.den->t.den
 |.ref _ _,l=>.inl l
 |.one t,x=>dE t x
 |.pair a b,x=>(dE a x.1,dE b x.2)
 |.int _,x=>x
 |.byte,x=>x
 |.bool,x=>x
 |.str,x=>x
 |.opq,x=>x
 |.nat,x=>x
 |.sl _,x=>x
 |.arr _ _,x=>x
 |.ptr _,x=>x
def cH(n:Nat):List Nat->Bool
 |[]=>false
 |i::r=>bif Nat.beq i n then true else cH n r
def Ty.famIn(fs:List Nat):Ty->Bool
 |.ref f t=>cH (f%16) fs&&t.famIn fs
 |.sl t=>t.famIn fs
 |.one t=>t.famIn fs
 |.pair a b=>a.famIn fs&&b.famIn fs
 |.arr _ t=>t.famIn fs
 |.ptr t=>t.famIn fs
 |_=>true
def Ty.isAgg:Ty->Bool
 |.one _|.pair _ _|.arr _ _=>true
 |_=>false
def Ty.noRef:Ty->Bool
 |.ref _ _=>false
 |.sl t=>t.noRef
 |.one t=>t.noRef
 |.pair a b=>a.noRef&&b.noRef
 |.arr _ t=>t.noRef
 |.ptr t=>t.noRef
 |_=>true
def Ty.zero:(t:Ty)->t.den
 |.int _=>(0:Int)
 |.byte=>(0:UInt8)
 |.bool=>false
 |.str=>([]:List UInt8)
 |.opq=>.nilFunc
 |.nat=>(0:Nat)
 |.sl t=>([]:List t.den)
 |.one t=>t.zero
 |.pair a b=>(a.zero,b.zero)
 |.arr n t=>List.replicate n t.zero
 |.ref _ _=>.inr none
 |.ptr t=>([]:List t.den)
def kW{α:Type}(f:α->α->Bool):List α->List α->Bool
 |[],[]=>true
 |a::l,b::r=>f a b&&kW f l r
 |_,_=>false
def Ty.eqb:(t:Ty)->t.den->t.den->Bool
 |.int _,(a:Int),(b:Int)=>a==b
 |.byte,(a:UInt8),(b:UInt8)=>a==b
 |.bool,(a:Bool),(b:Bool)=>a==b
 |.str,(a:List UInt8),(b:List UInt8)=>a==b
 |.one t,a,b=>t.eqb a b
 |.pair s t,a,b=>s.eqb a.1 b.1&&t.eqb a.2 b.2
 |.arr _ t,a,b=>kW t.eqb a b
 |_,_,_=>false
def Ty.keyed:Ty->Bool
 |.int _|.byte|.bool|.str=>true
 |.one t=>t.keyed
 |.pair s t=>s.keyed&&t.keyed
 |.arr _ t=>t.keyed
 |_=>false
def Ty.to{t u:Ty}(h:t=u)(x:t.den):u.den:=h▸x
def Ty.toL{t u:Ty}(h:t=u)(l:List t.den):List u.den:=h▸l
abbrev rI(k v:Ty):Type:=List ((k.den×v.den)×Nat)×Nat
abbrev HY(k v:Ty):Ty:=.pair (.sl (.pair (.pair k v) .nat)) .nat
section
variable {k v : Ty}
def eN:List ((k.den×v.den)×Nat)->k.den->Option (v.den×Nat)
 |[],_=>none
 |((a,b),n)::r,x=>bif k.eqb x a then some (b,n) else eN r x
def kX(m:rI k v)(x:k.den):Option v.den:=(eN m.1 x).map (·.1)
def wQ:List ((k.den×v.den)×Nat)->k.den->v.den->List ((k.den×v.den)×Nat)
 |[],_,_=>[]
 |((a,b),n)::r,x,y=>bif k.eqb x a then((x,y),n)::r else((a,b),n)::wQ r x y
def mQ(m:rI k v)(x:k.den)(y:v.den):rI k v:=
 match eN m.1 x with
 |some _=>(wQ m.1 x y,m.2)
 |none=>(m.1++[((x,y),m.2)],m.2+1)
def xR:List ((k.den×v.den)×Nat)->k.den->List ((k.den×v.den)×Nat)
 |[],_=>[]
 |((a,b),n)::r,x=>bif k.eqb x a then r else((a,b),n)::xR r x
def VL(m:rI k v)(x:k.den):rI k v:=(xR m.1 x,m.2)
def VE(m:rI k v)(x:k.den):Nat:=
 match eN m.1 x with
 |some e=>e.2
 |none=>m.2
def VM(m:rI k v)(x:k.den):rI k v:=
 match eN m.1 x with
 |some e=>(wQ m.1 x e.1,m.2)
 |none=>(m.1++[((x,v.zero),m.2)],m.2+1)
def DN:List ((k.den×v.den)×Nat)->Int->v.den->Option (List ((k.den×v.den)×Nat))
 |[],_,_=>none
 |((a,b),n)::r,i,y=>bif (n:Int)==i then some (((a,y),n)::r) else(DN r i y).map (((a,b),n)::·)
def UV(m:rI k v)(i:Int)(y:v.den):Option (rI k v):=(DN m.1 i y).map λl=>(l,m.2)
end
def dq{β:Type}(t u:Ty)(K:t=u->Option β)(E:Option β):Option β:=(fun(_:Unit)=>match(inferInstance:Decidable (t=u)) with|.isTrue h=>K h|.isFalse _=>E) hg5
def HL:List Ty->Type
 |[]=>Unit
 |t::r=>t.den×HL r
@[reducible] def TD:List Ty->Type
  |[]=>Unit
  |[t]=>t.den
  |t::u::r=>t.den×TD (u::r)
def DO:(d:List Ty)->HL d->TD d
 |[],_=>()
 |[_],x=>x.1
 |_::u::r,x=>(x.1,DO (u::r) x.2)
def gD:(d:List Ty)->TD d->HL d
 |[],_=>()
 |[_],x=>(x,())
 |_::u::r,x=>(x.1,gD (u::r) x.2)
inductive AV where
 |p (t:Ty) (x:t.den)
 |pt (t:Ty) (l:List t.den) (i j:Nat)
 |own (es id i j:Nat)
 |rp (f es k i j:Nat)
 |sl (es id off n:Nat)
 |slf (es id:Nat)
 |mp (id:Nat)
 |fn (f:FuncId) (first caps:List AV)
 |agg (l:List AV)
 |tup (l:List AV)
 |junk
instance:Inhabited AV:=⟨.junk⟩
inductive Blk where
 |vars (c:List AV)
 |rows (e:TypeId) (t:Ty) (l:List t.den)
 |map (kt vt:Ty) (m:rI kt vt)
 |fmap (kt:Ty) (l:List (kt.den×AV))
 |fam (e:TypeId) (s:Ty) (ms:List (Nat×List s.den))
structure Ent where
 fz:Bool
 b:Blk
abbrev Hp:=List (Nat×Option Ent)
abbrev AV.i(k:IntKind)(n:Int):AV:=.p (.int k) n
abbrev AV.b(t:Bool):AV:=.p .bool t
abbrev AV.s(l:List UInt8):AV:=.p .str l
def AV.ofTy:(t:Ty)->t.den->AV
 |.byte,c=>.p (.int .u8) (c.toNat:Int)
 |t,x=>.p t x
def DP:(t:Ty)->t.den->(u:Ty)->Option u.den
 |.opq,.slice none 0 0,.sl s=>some ([]:List s.den)
 |.opq,.slice none 0 0,.ref _ _=>some (.inr none)
 |.opq,.pointer none,.ptr s=>some ([]:List s.den)
 |.sl s,l,.ref _ d=>if h:s=d then some (.inl (Ty.toL h l)) else none
 |_,_,_=>none
def SV(f:FuncId):(u:Ty)->Option u.den
 |.opq=>some (.func (.func f) #[] #[])
 |_=>none
def AV.get?(u:Ty):AV->Option u.den
 |.p t x=>if h:t=u then some (h▸x) else DP t x u
 |.fn f [] []=>SV f u
 |_=>none
def AV.int?(k:IntKind)(a:AV):Option Int:=a.get? (.int k)
def AV.bool?(a:AV):Option Bool:=a.get? .bool
def AV.str?(a:AV):Option (List UInt8):=a.get? .str
def TZ:(t:Ty)->t.den->Option Int
 |.int _,n=>some n
 |_,_=>none
def AV.any? :AV->Option Int
 |.p t x=>TZ t x
 |_=>none
def AV.tup? :AV->Option (List AV)
 |.tup l=>some l
 |_=>none
def pB(n:Int):Option UInt8:=if 0<=n/\n<256 then some (UInt8.ofNat n.toNat) else none
def bJ(i:Int)(n:Nat):Option Nat:=if 0<=i/\i<n then some i.toNat else none
def cO(i:Int)(n:Nat):Option Nat:=if 0<=i/\i<=n then some i.toNat else none
def UA{α:Type}(l:List α)(i:Nat):Option (List α):=if i<l.length then some (l.drop i) else none
def bO{β:Type}(b:Bool)(K:Option β):Option β:=(λ(_:Unit)=>match b with|true=>K|false=>none) hg3
def bF:Hp->Nat->Option Ent
 |[],_=>none
 |(i,e)::r,id=>bif Nat.beq i id then e else bF r id
def bM:Hp->Nat->Bool
 |[],_=>false
 |(i,_)::r,id=>bif Nat.beq i id then true else bM r id
def bR:Hp->Nat->Option Ent->Hp
 |[],id,e=>[(id,e)]
 |(i,x)::r,id,e=>bif Nat.beq i id then(i,e)::r else(i,x)::bR r id e
section
variable {β : Type}
def split:(t:Ty)->t.den->List AV
 |.one t,x=>split t x
 |.pair a b,x=>split a x.1++split b x.2
 |.arr _ _,_=>[]
 |t,x=>[.ofTy t x]
def JC:AV->Bool
 |.p t _=>t.isAgg
 |.agg _=>true
 |_=>false
def eX:AV->Option (List AV)
 |.p t x=>bif Nat.beq (split t x).length t.cells then some (split t x) else none
 |.agg l=>some l
 |.tup _=>none
 |.junk=>none
 |a=>some [a]
def FQ{d:Type}(f:List AV->(d->Option β)->Option β)(c:Nat):Nat->List AV->(List d->Option β)->Option β
 |0,_,K=>K []
 |n+1,cs,K=>f (cs.take c) λx=>FQ f c n (cs.drop c) λl=>K (x::l)
def asm:(t:Ty)->List AV->(t.den->Option β)->Option β
 |.byte,cs,K=>((cs.headD .junk).int? .u8).ob λn=>(pB n).bind K
 |.one t,cs,K=>asm t cs K
 |.pair a b,cs,K=>asm a (cs.take a.cells) λx=>asm b (cs.drop a.cells) λy=>K (x,y)
 |.arr n t,cs,K=>FQ (asm t) t.cells n cs K
 |.ptr t,cs,K=>match cs.headD .junk with
  |.pt u l i 0=>dq u t (λh=>(UA (Ty.toL h l) i).bind K) none
  |a=>(a.get? (.ptr t)).ob K
 |u,cs,K=>((cs.headD .junk).get? u).ob K
def asC(u:Ty)(a:AV)(K:u.den->Option β):Option β:=
 (eX a).ob λcs=>bO (Nat.beq cs.length u.cells&&(JC a==u.isAgg))<|asm u cs K
def asA(u:Ty)(a:AV)(K:u.den->Option β):Option β:=
 match a with
 |.p t x=>dq t u (λh=>K (Ty.to h x)) (asC u (.p t x) K)
 |a=>asC u a K
def sub:(t:Ty)->t.den->Nat->(u:Ty)->(u.den->Option β)->Option β
 |.one t,x,o,u,K=>dq (.one t) u (λh=>bq (Nat.beq o 0) (K (Ty.to h x)) none) (sub t x o u K)
 |.pair a b,x,o,u,K=>dq (.pair a b) u (λh=>bq (Nat.beq o 0) (K (Ty.to h x)) none)
  (bq (Nat.blt o a.cells) (sub a x.1 o u K) (sub b x.2 (o-a.cells) u K))
 |t,x,o,u,K=>dq t u (λh=>bq (Nat.beq o 0) (K (Ty.to h x)) none) none
def upd:(t:Ty)->t.den->Nat->(u:Ty)->u.den->(t.den->Option β)->Option β
 |.one t,x,o,u,y,K=>dq u (.one t) (λh=>bq (Nat.beq o 0) (K (Ty.to h y)) none) (upd t x o u y K)
 |.pair a b,x,o,u,y,K=>dq u (.pair a b) (λh=>bq (Nat.beq o 0) (K (Ty.to h y)) none)
  (bq (Nat.blt o a.cells) (upd a x.1 o u y λz=>K (z,x.2)) (upd b x.2 (o-a.cells) u y λz=>K (x.1,z)))
 |t,_,o,u,y,K=>dq u t (λh=>bq (Nat.beq o 0) (K (Ty.to h y)) none) none
end
mutual
def AV.ren(f:Nat->Option Nat):AV->AV
 |.p t x=>.p t x
 |.pt t l i j=>.pt t l i j
 |.own es id i j=>match f id with|some k=>.own es k i j|none=>.junk
 |.rp g es k i j=>.rp g es k i j
 |.sl es id off n=>match f id with|some k=>.sl es k off n|none=>.junk
 |.slf es id=>match f id with|some k=>.slf es k|none=>.junk
 |.mp id=>match f id with|some k=>.mp k|none=>.junk
 |.fn g a c=>.fn g (AV.renL f a) (AV.renL f c)
 |.agg l=>.agg (AV.renL f l)
 |.tup l=>.tup (AV.renL f l)
 |.junk=>.junk
def AV.renL(f:Nat->Option Nat):List AV->List AV
 |[]=>[]
 |a::l=>AV.ren f a::AV.renL f l
end
def Blk.ren(f:Nat->Option Nat):Blk->Blk
 |.vars c=>.vars (AV.renL f c)
 |.rows e t l=>.rows e t l
 |.map k v m=>.map k v m
 |.fmap k l=>.fmap k (l.map λx=>(x.1,AV.ren f x.2))
 |.fam e s d=>.fam e s d
def Ent.ren(f:Nat->Option Nat)(e:Ent):Ent:=⟨e.fz,e.b.ren f⟩
mutual
def AV.ids:AV->List Nat
 |.own _ id _ _=>[id]
 |.sl _ id _ _=>[id]
 |.slf _ id=>[id]
 |.mp id=>[id]
 |.fn _ a c=>AV.idsL a++AV.idsL c
 |.agg l=>AV.idsL l
 |.tup l=>AV.idsL l
 |_=>[]
def AV.idsL:List AV->List Nat
 |[]=>[]
 |a::l=>AV.ids a++AV.idsL l
end
def Ent.ids(e:Ent):List Nat:=
 match e.b with
 |.vars c=>AV.idsL c
 |.fmap _ l=>l.flatMap λx=>AV.ids x.2
 |_=>[]
def reach(H:Hp):Nat->List Nat->List Nat->List Nat
 |0,_,d=>d
 |_+1,[],d=>d
 |n+1,id::h,d=>
  bif cH id d then reach H n h d else
  match bF H id with
  |none=>reach H n h d
  |some e=>reach H n (e.ids++h) (d++[id])
def vF:Nat:=1000
def kH:List Nat->Bool
 |[]=>true
 |i::r=> !cH i r&&kH r
def gE:List (Nat×Nat)->Nat->Option Nat
 |[],_=>none
 |(i,k)::r,id=>bif Nat.beq i id then some k else gE r id
def iU(H:Hp)(f:Nat->Option Nat):List (Nat×Nat)->Hp
 |[]=>[]
 |(id,k)::r=>match bF H id with
  |some e=>(k,some (e.ren f))::iU H f r
  |none=>iU H f r
def iV(H:Hp):List Nat->Bool
 |[]=>true
 |i::r=>(match bF H i with|some _=>true|none=>false)&&iV H r
def nE:List Nat->List Nat->Bool
 |[],_=>true
 |i::r,l=>cH i l&&nE r l
def eqN:List Nat->List Nat->Bool
 |[],[]=>true
 |i::r,k::l=>Nat.beq i k&&eqN r l
 |_,_=>false
def bC:Nat:=1000000
def enc(f k:Nat):Nat:=bC+(16*k+f%16)
def bA:Nat:=999984
def bZ(f:Nat):Nat:=bA+f%16
def kV:List Nat->List Nat
 |[]=>[]
 |i::r=>bif Nat.ble bA i then kV r else i::kV r
def sJ:List Nat->List Nat
 |[]=>[]
 |i::r=>bif Nat.ble bA i then i::sJ r else sJ r
def zZ:List Nat->List (Nat×Nat)
 |[]=>[]
 |i::r=>(i,i)::zZ r
def iO:List Nat->List Nat
 |[]=>[]
 |i::r=>bif Nat.ble bA i then(i-bA)::iO r else iO r
def cQ:Nat->List Nat->List Nat
 |_,[]=>[]
 |n,i::r=>bif Nat.ble bA i then i::cQ n r else n::cQ (n+1) r
def vG:List (Nat×Nat)->Bool
 |[]=>true
 |(i,k)::r=>(Nat.beq i k||(Nat.blt i bA&&Nat.blt k bA))&&vG r
def nF:Hp->List Nat
 |[]=>[]
 |(k,_)::r=>k::nF r
def tT:List Nat->Bool
 |[]=>true
 |i::r=>Nat.blt i bC&&tT r
def oC:Nat->Nat->List Nat
 |_,0=>[]
 |k,n+1=>k::oC (k+1) n
def OL(n:Nat):List (Nat×Nat)->Bool
 |[]=>true
 |(i,k)::r=>(Nat.beq i k||(Nat.ble n i&&Nat.ble n k))&&OL n r
def rX(H:Hp):Nat->Hp
 |0=>H
 |n+1=>bif bM H n||Nat.ble bA n then rX H n else(n,none)::rX H n
def lH:List Nat->List Nat->List (Nat×Nat)
 |i::r,k::ks=>(i,k)::lH r ks
 |_,_=>[]
def mC:List (Nat×Nat)->List Nat
 |[]=>[]
 |(i,_)::r=>i::mC r
def kI:List (Nat×Nat)->List Nat
 |[]=>[]
 |(_,k)::r=>k::kI r
inductive Tr where
 |lf
 |nd (l:Tr) (v:AV) (r:Tr)
def Tr.get:Tr->Nat->AV
 |.lf,_=>.junk
 |.nd l v r,n=>bif Nat.beq n 0 then v else bif Nat.beq (n%2) 1 then l.get (n/2) else r.get (n/2-1)
def Tr.put:Tr->Nat->AV->Tr
 |.lf,_,_=>.lf
 |.nd l v r,n,a=>bif Nat.beq n 0 then .nd l a r else bif Nat.beq (n%2) 1 then .nd (l.put (n/2) a) v r else .nd l v (r.put (n/2-1) a)
def Tr.full:Nat->Tr
 |0=>.lf
 |d+1=>.nd (Tr.full d) .junk (Tr.full d)
structure St where
 tm:Tr
 nt:Nat
 n0:Nat
 hp:Hp
def AV.lit:Value->AV
 |.int k n=>.p (.int k) n
 |.bool b=>.p .bool b
 |.string s=>.p .str s.data.toList
 |.agg _=>.junk
 |.tuple _=>.junk
 |v=>.p .opq v
def pC:List Value->Bool
 |[]=>true
 |.agg _::_=>false
 |.tuple _::_=>false
 |_::r=>pC r
def St.opnd(st:St):Operand->AV
 |.tmp t=>bq (Nat.blt t 1048576) (st.tm.get t) .junk
 |.const (.agg cs)=>bq (pC cs.toList) (.agg (cs.toList.map AV.lit)) .junk
 |.const v=>.lit v
 |.global g=>st.tm.get (1048576+g)
 |.func f=>.fn f [] []
def St.putO(st:St)(d:Option Nat)(a:AV):St:=
 match d with
 |some d=>{st with tm:=st.tm.put d a}
 |none=>st
def mJ(nt:Nat):Option Nat->Bool
 |some d=>Nat.blt d nt&&Nat.blt d 1048576
 |none=>true
mutual
inductive Kd where
 |p (t:Ty)
 |pt (t:Ty)
 |own (es id i j:Nat)
 |ownx (es id j:Nat)
 |sl (es id:Nat)
 |slf (es id:Nat)
 |mp (id:Nat)
 |any
 |fn (f:FuncId) (a c:KdL)
 |agg (l:KdL)
 |tup (l:KdL)
 |nilp (v:Value)
inductive KdL where
 |nil
 |cons (k:Kd) (r:KdL)
end
inductive BKd where
 |vars (l:KdL)
 |rows (e:TypeId) (t:Ty)
 |map (kt vt:Ty)
 |fam (e:TypeId) (s:Ty)
abbrev HK:=List (Nat×Bool×BKd)
structure Shp where
 ks:KdL
 hs:HK
mutual
def Kd.lv:Kd->List Ty->List Ty
 |.p t,r=>t::r
 |.pt t,r=>.sl t::r
 |.ownx _ _ _,r=>.nat::r
 |.sl _ _,r=>.nat::.nat::r
 |.fn _ a c,r=>KdL.lv a (KdL.lv c r)
 |.agg l,r=>KdL.lv l r
 |.tup l,r=>KdL.lv l r
 |_,r=>r
def KdL.lv:KdL->List Ty->List Ty
 |.nil,r=>r
 |.cons k l,r=>Kd.lv k (KdL.lv l r)
end
def BKd.lv:BKd->List Ty->List Ty
 |.vars l,r=>l.lv r
 |.rows _ t,r=>.sl t::r
 |.map k v,r=>HY k v::r
 |.fam _ s,r=>.sl (.pair .nat (.sl s))::r
def fP:HK->List Ty->List Ty
 |[],r=>r
 |(_,_,k)::l,r=>k.lv (fP l r)
def Shp.tys(s:Shp):List Ty:=s.ks.lv (fP s.hs [])
@[reducible] def Shp.D(s:Shp):Type:=TD s.tys
mutual
def Kd.ids:Kd->List Nat
 |.own _ id _ _=>[id]
 |.ownx _ id _=>[id]
 |.sl _ id=>[id]
 |.slf _ id=>[id]
 |.mp id=>[id]
 |.fn _ a c=>KdL.ids a++KdL.ids c
 |.agg l=>KdL.ids l
 |.tup l=>KdL.ids l
 |_=>[]
def KdL.ids:KdL->List Nat
 |.nil=>[]
 |.cons k l=>Kd.ids k++KdL.ids l
end
def BKd.ids:BKd->List Nat
 |.vars l=>l.ids
 |_=>[]
def wB:HK->List Nat
 |[]=>[]
 |(_,_,k)::r=>k.ids++wB r
def bI:HK->List Nat
 |[]=>[]
 |(id,_,_)::r=>id::bI r
def KdL.length:KdL->Nat
 |.nil=>0
 |.cons _ r=>r.length+1
mutual
def emb:(k:Kd)->(r:List Ty)->HL (k.lv r)->AV×HL r
 |.p t,_,x=>(.p t x.1,x.2)
 |.pt t,_,x=>(.pt t x.1 0 0,x.2)
 |.own es id i j,_,x=>(.own es id i j,x)
 |.ownx es id j,_,x=>(.own es id x.1 j,x.2)
 |.sl es id,_,x=>(.sl es id x.1 x.2.1,x.2.2)
 |.slf es id,_,x=>(.slf es id,x)
 |.mp id,_,x=>(.mp id,x)
 |.any,_,x=>(.junk,x)
 |.fn f a c,r,x=>let y:=embL a (c.lv r) x;let z:=embL c r y.2;(.fn f y.1 z.1,z.2)
 |.agg l,r,x=>let y:=embL l r x;(.agg y.1,y.2)
 |.tup l,r,x=>let y:=embL l r x;(.tup y.1,y.2)
 |.nilp v,_,x=>(.p .opq v,x)
def embL:(k:KdL)->(r:List Ty)->HL (k.lv r)->List AV×HL r
 |.nil,_,x=>([],x)
 |.cons k l,r,x=>let y:=emb k (l.lv r) x;let z:=embL l r y.2;(y.1::z.1,z.2)
end
def mD:(k:BKd)->(r:List Ty)->HL (k.lv r)->Blk×HL r
 |.vars l,r,x=>let y:=embL l r x;(.vars y.1,y.2)
 |.rows e t,_,x=>(.rows e t x.1,x.2)
 |.map k v,_,x=>(.map k v x.1,x.2)
 |.fam e s,_,x=>(.fam e s x.1,x.2)
def kY:(h:HK)->(r:List Ty)->HL (fP h r)->Hp×HL r
 |[],_,x=>([],x)
 |(id,fz,k)::l,r,x=>let y:=mD k (fP l r) x;let z:=kY l r y.2;((id,some ⟨fz,y.1⟩)::z.1,z.2)
def Shp.emb(s:Shp)(t:s.D):List AV×Hp:=
 let y:=embL s.ks (fP s.hs []) (gD s.tys t)
 (y.1,(kY s.hs [] y.2).1)
section
variable {γ : Type}
mutual
def KJ:(k:Kd)->(r:List Ty)->HL (k.lv r)->(AV->HL r->γ)->γ
 |.p t,_,x,K=>K (.p t x.1) x.2
 |.pt t,_,x,K=>K (.pt t x.1 0 0) x.2
 |.own es id i j,_,x,K=>K (.own es id i j) x
 |.ownx es id j,_,x,K=>K (.own es id x.1 j) x.2
 |.sl es id,_,x,K=>K (.sl es id x.1 x.2.1) x.2.2
 |.slf es id,_,x,K=>K (.slf es id) x
 |.mp id,_,x,K=>K (.mp id) x
 |.any,_,x,K=>K .junk x
 |.fn f a c,r,x,K=>embKL a (c.lv r) x λh d=>embKL c r d λB C=>K (.fn f h B) C
 |.agg l,r,x,K=>embKL l r x λv d=>K (.agg v) d
 |.tup l,r,x,K=>embKL l r x λv d=>K (.tup v) d
 |.nilp v,_,x,K=>K (.p .opq v) x
def embKL:(k:KdL)->(r:List Ty)->HL (k.lv r)->(List AV->HL r->γ)->γ
 |.nil,_,x,K=>K [] x
 |.cons k l,r,x,K=>KJ k (l.lv r) x λv d=>embKL l r d λvs h=>K (v::vs) h
end
def SW:(k:BKd)->(r:List Ty)->HL (k.lv r)->(Blk->HL r->γ)->γ
 |.vars l,r,x,K=>embKL l r x λv d=>K (.vars v) d
 |.rows e t,_,x,K=>K (.rows e t x.1) x.2
 |.map k v,_,x,K=>K (.map k v x.1) x.2
 |.fam e s,_,x,K=>K (.fam e s x.1) x.2
def DQ:(h:HK)->(r:List Ty)->HL (fP h r)->(Hp->HL r->γ)->γ
 |[],_,x,K=>K [] x
 |(id,fz,k)::l,r,x,K=>SW k (fP l r) x λb d=>DQ l r d λH j=>K ((id,some ⟨fz,b⟩)::H) j
def Shp.embC(s:Shp)(t:s.D)(K:List AV->Hp->γ):γ:=embKL s.ks (fP s.hs []) (gD s.tys t) λvs d=>DQ s.hs [] d λH _=>K vs H
mutual
theorem vqZ:(k:Kd)->(r:List Ty)->(x:HL (k.lv r))->(K:AV->HL r->γ)->KJ k r x K=K (emb k r x).1 (emb k r x).2
 |.p _,_,_,_|.pt _,_,_,_|.own _ _ _ _,_,_,_|.ownx _ _ _,_,_,_|.sl _ _,_,_,_|.slf _ _,_,_,_|.mp _,_,_,_|.any,_,_,_|.nilp _,_,_,_=>rfl
 |.fn f a c,r,x,K=>by
  simp only[KJ,emb];rw[dfZ a (c.lv r) x,dfZ c r]
 |.agg l,r,x,K=>by
  simp only[KJ,emb];rw[dfZ l r x]
 |.tup l,r,x,K=>by
  simp only[KJ,emb];rw[dfZ l r x]
theorem dfZ:(k:KdL)->(r:List Ty)->(x:HL (k.lv r))->(K:List AV->HL r->γ)->embKL k r x K=K (embL k r x).1 (embL k r x).2
 |.nil,_,_,_=>rfl
 |.cons k l,r,x,K=>by
  simp only[embKL,embL];rw[vqZ k (l.lv r) x,dfZ l r]
end
theorem swZ(k)(r)(x)(K:Blk->HL r->γ):SW k r x K=K (mD k r x).1 (mD k r x).2:=by
 cases k with
 |vars l=>exact dfZ l r x _
 |rows e t=>rfl
 |map k v=>rfl
 |fam e s=>rfl
theorem mGZ:(h:HK)->(r:List Ty)->(x:HL (fP h r))->(K:Hp->HL r->γ)->DQ h r x K=K (kY h r x).1 (kY h r x).2
 |[],_,_,_=>rfl
 |(id,fz,k)::l,r,x,K=>by
  simp[DQ,kY];rw[swZ k (fP l r) x,mGZ l r]
theorem Shp.embC_eq(s:Shp)(t)(K:List AV->Hp->γ):s.embC t K=K (s.emb t).1 (s.emb t).2:=by
 exact(dfZ s.ks (fP s.hs []) (gD s.tys t) λvs d=>DQ s.hs [] d λH _=>K vs H).trans (mGZ s.hs [] _ _)
end
@[reducible] def dW:List Shp->Type
  |[]=>Empty
  |[s]=>s.D
  |s::t::r=>s.D⊕dW (t::r)
def dW.on{d:Type}:(l:List Shp)->dW l->((s:Shp)->s.D->d)->d
 |[],x,_=>Empty.elim x
 |[s],x,K=>K s x
 |s::t::r,x,K=>match x with
  |.inl y=>K s y
  |.inr y=>dW.on (t::r) y K
def AV.own?(es id i j:Nat):AV->Bool
 |.own es' id' i' j'=>Nat.beq es es'&&Nat.beq id id'&&Nat.beq i i'&&Nat.beq j j'
 |_=>false
def AV.ownx?(es id j:Nat):AV->Option Nat
 |.own es' id' i j'=>bif Nat.beq es es'&&Nat.beq id id'&&Nat.beq j j' then some i else none
 |_=>none
def AV.sl?(es id:Nat):AV->Option (Nat×Nat)
 |.sl d h i n=>bif Nat.beq es d&&Nat.beq id h then some (i,n) else none
 |_=>none
def AV.slf?(es id:Nat):AV->Bool
 |.slf d h=>Nat.beq es d&&Nat.beq id h
 |_=>false
def AV.mp?(id:Nat):AV->Bool
 |.mp d=>Nat.beq id d
 |_=>false
def AV.pt?(u:Ty):AV->Option (List u.den)
 |.pt t l 0 0=>if h:t=u then some (h▸l) else none
 |_=>none
def AV.fn?(f:FuncId):AV->Option (List AV×List AV)
 |.fn g a c=>bif Nat.beq f g then some (a,c) else none
 |.p .opq (.func (.func g) a c)=>bif Nat.beq f g&&(Nat.beq a.size 0&&Nat.beq c.size 0) then some ([],[]) else none
 |_=>none
def KK :Value->Value->Bool
 |.pointer none,.pointer none=>true
 |.map none,.map none=>true
 |.slice none 0 0,.slice none 0 0=>true
 |.nilFunc,.nilFunc=>true
 |_,_=>false
def AV.nil?(v:Value):AV->Bool
 |.p .opq x=>KK v x
 |_=>false
section
variable {β : Type}
mutual
def co:(k:Kd)->(r:List Ty)->AV->HL r->(HL (k.lv r)->Option β)->Option β
 |.p t,_,a,x,K=>asA t a λy=>K (y,x)
 |.pt t,_,a,x,K=>(a.pt? t).ob λl=>K (l,x)
 |.own es id i j,_,a,x,K=>bO (a.own? es id i j)<|K x
 |.ownx es id j,_,a,x,K=>(a.ownx? es id j).ob λy=>K (y,x)
 |.sl es id,_,a,x,K=>(a.sl? es id).ob λy=>K (y.1,y.2,x)
 |.slf es id,_,a,x,K=>bO (a.slf? es id)<|K x
 |.mp id,_,a,x,K=>bO (a.mp? id)<|K x
 |.any,_,_,x,K=>K x
 |.fn f h d,r,a,x,K=>(a.fn? f).ob λy=>bO (Nat.beq y.1.length h.length&&Nat.beq y.2.length d.length)<|
  coL d r y.2 x λB=>coL h (d.lv r) y.1 B K
 |.agg l,r,a,x,K=>(eX a).ob λc=>bO (JC a&&Nat.beq c.length l.length)<|coL l r c x K
 |.tup l,r,a,x,K=>a.tup?.ob λc=>bO (Nat.beq c.length l.length)<|coL l r c x K
 |.nilp v,_,a,x,K=>bO (a.nil? v)<|K x
def coL:(k:KdL)->(r:List Ty)->List AV->HL r->(HL (k.lv r)->Option β)->Option β
 |.nil,_,_,x,K=>K x
 |.cons k l,r,c,x,K=>coL l r c.tail x λd=>co k (l.lv r) (c.headD .junk) d K
end
def Blk.vars?(n:Nat):Blk->Option (List AV)
 |.vars c=>bif Nat.beq c.length n then some c else none
 |_=>none
def Blk.rows?(e:TypeId)(u:Ty):Blk->Option (List u.den)
 |.rows e' t l=>bif Nat.beq e e' then(if h:t=u then some (h▸l) else none) else none
 |_=>none
def Blk.map?(k v):Blk->Option (rI k v)
 |.map k' d m=>if h:HY k' d=HY k v then some (Ty.to h m) else none
 |_=>none
def Blk.fam?(e:TypeId)(u:Ty):Blk->Option (List (Nat×List u.den))
 |.fam e' t l=>bif Nat.beq e e' then(if h:t=u then some (h▸l) else none) else none
 |_=>none
def coB:(k:BKd)->(r:List Ty)->Blk->HL r->(HL (k.lv r)->Option β)->Option β
 |.vars l,r,b,x,K=>(b.vars? l.length).ob λc=>coL l r c x K
 |.rows e t,_,b,x,K=>(b.rows? e t).ob λl=>K (l,x)
 |.map k v,_,b,x,K=>(b.map? k v).ob λm=>K (m,x)
 |.fam e s,_,b,x,K=>(b.fam? e s).ob λl=>K (l,x)
def KL(fz:Bool)(H:Hp)(id:Nat):Option Blk:=
 match bF H id with
 |some e=>bif e.fz==fz then some e.b else none
 |none=>none
def coH:(h:HK)->(r:List Ty)->Hp->HL r->(HL (fP h r)->Option β)->Option β
 |[],_,_,x,K=>K x
 |(id,fz,k)::l,r,H,x,K=>(KL fz H id).ob λb=>coH l r H x λd=>coB k (fP l r) b d K
def Shp.ok(s:Shp):Bool:=kH (bI s.hs)&&nE (s.ks.ids++wB s.hs) (bI s.hs)
def Shp.co(s:Shp)(vs:List AV)(H:Hp)(K:s.D->Option β):Option β:=
 bO (s.ok&&Nat.beq vs.length s.ks.length)<|
 coH s.hs [] H () λx=>coL s.ks (fP s.hs []) vs x λy=>K (DO s.tys y)
end
mutual
def Kd.fits:Kd->AV->Bool
 |.p t,a=>match a with
  |.p d x=>decide (d=t)||(DP d x t).isSome||d.isAgg
  |.agg _=>t.isAgg
  |.fn _ [] []=>decide (t= .opq)
  |_=>false
 |.pt _,a=>match a with
  |.pt _ _ _ _=>true
  |_=>false
 |.own es id i j,a=>a.own? es id i j
 |.ownx es id j,a=>(a.ownx? es id j).isSome
 |.sl es id,a=>(a.sl? es id).isSome
 |.slf es id,a=>a.slf? es id
 |.mp id,a=>a.mp? id
 |.any,_=>true
 |.fn f _ _,a=>(a.fn? f).isSome
 |.agg l,a=>match eX a with
  |some c=>Nat.beq c.length l.length&&KdL.fits l c
  |none=>false
 |.tup l,a=>match a with
  |.tup c=>Nat.beq c.length l.length&&KdL.fits l c
  |_=>false
 |.nilp v,a=>a.nil? v
def KdL.fits:KdL->List AV->Bool
 |.nil,_=>true
 |.cons k l,c=>k.fits (c.headD .junk)&&l.fits c.tail
end
def AW:HK->Hp->Bool
 |[],_=>true
 |(id,fz,k)::r,H=>(match bF H id with
  |some e=>e.fz==fz&&(match k,e.b with
   |.vars l,.vars c=>Nat.beq c.length l.length&&l.fits c
   |_,_=>true)
  |none=>false)&&AW r H
def AV.noRef:AV->Bool
 |.p _ _=>true
 |.pt _ _ _ _=>true
 |a=>(AV.ids a).isEmpty
def Tr.keep:Tr->Tr
 |.lf=>.lf
 |.nd l v r=>.nd l.keep (bif v.noRef then v else .junk) r.keep
def Tr.junk(t:Tr):List Nat->Tr
 |[]=>t
 |k::r=>(t.put k .junk).junk r
structure fV where
 live:List Nat
 s:Shp
abbrev fV.D(s:fV):Type:=s.s.D
def Shp.rco{β}(s:Shp)(vs:List AV)(H:Hp)(d:List (Nat×Nat))(K:s.D->Option β):Option β:=
 bO (kH (mC d)&&(kH (kI d)&&(tT (kI d)&&vG d))&&iV H (mC d))<|s.co (AV.renL (gE d) vs) (iU H (gE d) d) K
def dW.rco{β}(vs:List AV)(H:Hp)(d:List (Nat×Nat)):(l:List Shp)->(dW l->Option β)->Option β
 |[],_=>none
 |[s],K=>s.rco vs H d K
 |s::t::r,K=>bq (s.ks.fits (AV.renL (gE d) vs)&&AW s.hs (iU H (gE d) d)) (s.rco vs H d λx=>K (.inl x)) (dW.rco vs H d (t::r) λx=>K (.inr x))
def fV.ps(sh:fV)(H:Hp)(vs:List AV):List (Nat×Nat):=lH (reach H vF (AV.idsL vs) []) (kV (bI sh.s.hs))++zZ (sJ (bI sh.s.hs))
def St.prj{β}(st:St)(sh:fV)(K:sh.D->Option β):Option β:=
 let vs:=sh.live.map st.tm.get
 let d:=sh.ps st.hp vs
 bO (OL st.n0 d&&nE (sJ (nF st.hp)) (sJ (bI sh.s.hs)))<|sh.s.rco vs st.hp d K
def OM:List Nat->List AV->Tr->Tr
 |k::r,a::l,t=>OM r l (t.put k a)
 |_,_,t=>t
def fV.inj(sh:fV)(d:Tr)(nt n0:Nat)(t:sh.D):St:=sh.s.embC t λvs H=>⟨OM sh.live vs d,nt,n0,rX H n0⟩
theorem fV.inj_eq(sh:fV)(base)(nt n0)(t):sh.inj base nt n0 t=⟨OM sh.live (sh.s.emb t).1 base,nt,n0,rX (sh.s.emb t).2 n0⟩:=Shp.embC_eq _ _ _
def bB:Nat:=4611686018427387904
def iter{d h}:Nat->(d->Option (d⊕h))->d->Option h
 |0,_,_=>none
 |n+1,f,s=>(f s).ob λr=>match r with
  |.inl j=>iter n f j
  |.inr o=>some o
@[reducible] def Out(ret:Bool):List (Nat×fV)->Type->Type
  |[],β=>bif ret then β else Empty
  |[(_,s)],β=>bif ret then s.D⊕β else s.D
  |(_,s)::o::r,β=>s.D⊕Out ret (o::r) β
def Out.ret{β}:(l:List (Nat×fV))->β->Out true l β
 |[],b=>b
 |[_],b=>.inr b
 |_::o::r,b=>.inr (Out.ret (o::r) b)
def Out.mk{β d}(st:St):(ret:Bool)->(l:List (Nat×fV))->Nat->(Out ret l β->Option d)->Option d
 |_,[],_,_=>none
 |true,[(j,s)],i,K=>bq (Nat.beq j i) (st.prj s λt=>K (.inl t)) none
 |false,[(j,s)],i,K=>bq (Nat.beq j i) (st.prj s λt=>K t) none
 |ret,(j,s)::o::r,i,K=>bq (Nat.beq j i) (st.prj s λt=>K (.inl t)) (Out.mk st ret (o::r) i λx=>K (.inr x))
def Out.on{β}(d:Tr)(nt n0:Nat):(ret:Bool)->(l:List (Nat×fV))->Out ret l β->(Nat->St->Option β)->(β->Option β)->Option β
 |true,[],x,_,R=>R x
 |false,[],x,_,_=>Empty.elim x
 |true,[(j,s)],x,X,R=>match x with|.inl t=>X j (s.inj d nt n0 t)|.inr b=>R b
 |false,[(j,s)],x,X,_=>X j (s.inj d nt n0 x)
 |ret,(j,s)::o::r,x,X,R=>match x with|.inl t=>X j (s.inj d nt n0 t)|.inr y=>Out.on d nt n0 ret (o::r) y X R
noncomputable section
structure UB where
 ids:List Nat:=[]
 sh:List Nat:=[]
 md:List Nat:=[]
 fn:Nat:=0
structure Ann where
 ids:List Nat:=[]
 sh:List Nat:=[]
 md:List Nat:=[]
 fn:Nat:=0
 more:List UB:=[]
def Ann.atL(H:Hp)(a:Ann):List UB->Ann
 |[]=>a
 |m::r=>bq (iV H m.sh) {ids:=m.ids,sh:=m.sh,md:=m.md,fn:=m.fn} (Ann.atL H a r)
def Ann.at(a:Ann)(H:Hp):Ann:=a.atL H a.more
section
variable (P : Program)
def dB:Nat:=20
def DR(f:TypeId->Option Ty):List TypeId->Option Ty
 |[]=>none
 |[t]=>f t
 |t::r=>(f t).ob λa=>(DR f r).map λb=>.pair a b
def JD:Nat->TypeId->Option Ty
 |0,_=>none
 |n+1,t=>match P.underlying t with
  |some (.int .u8)=>some .byte
  |some (.int k)=>some (.int k)
  |some .bool=>some .bool
  |some .string=>some .str
  |some (.slice e)=>(JD n e).map .sl
  |some (.array k e)=>(JD n e).map (.arr k)
  |some (.struct fs)=>match fs.toList.map (·.type) with
   |[f]=>(JD n f).map .one
   |l=>DR (JD n) l
  |some (.pointer e)=>match JD n e with
   |some u=>some (.ptr u)
   |none=>some .opq
  |some (.map _ _)|some (.func _ _ _)=>some .opq
  |_=>none
def gI(t:TypeId):Bool:=match P.underlying t with|some (.struct _)|some (.array _ _)=>true|_=>false
def fW(t:TypeId):Bool:=match P.underlying t with|some (.struct _)|some (.array _ _)=>false|some _=>true|none=>false
def ty(t:TypeId):Option Ty:=(JD P dB t).ob λu=>
 bq (Nat.beq u.cells (P.cellsOf t)&& !Nat.beq u.cells 0&&(bq u.isAgg (gI P t) (fW P t))) (some u) none
def isB(e:TypeId):Bool:=match P.underlying e with|some (.int .u8)=>true|_=>false
def AX(t:TypeId):Option (List AV):=(P.info? t).ob λi=>i.zero.ob λz=>bq (z.cells.toList.all Value.oneCell') (some (z.cells.toList.map AV.lit)) none
def Ty.plain:Ty->Bool
 |.opq|.nat=>false
 |.one t=>t.plain
 |.pair a b=>a.plain&&b.plain
 |.arr _ t=>t.plain
 |_=>true
def Ty.zeros:Ty->List Value
 |.int k=>[.int k 0]
 |.byte=>[.int .u8 0]
 |.bool=>[.bool false]
 |.str=>[.string ⟨#[]⟩]
 |.sl _=>[.slice none 0 0]
 |.ref _ _=>[.slice none 0 0]
 |.ptr _=>[.pointer none]
 |.one t=>t.zeros
 |.pair a b=>a.zeros++b.zeros
 |.arr n t=>(List.replicate n t.zeros).flatten
 |_=>[]
def wZ:Value->Value->Bool
 |.int k n,.int k' n'=>k==k'&&n==n'
 |.bool a,.bool b=>a==b
 |.string a,.string b=>a.data.size==b.data.size&&a.data.size==0
 |.slice none 0 0,.slice none 0 0=>true
 |.pointer none,.pointer none=>true
 |_,_=>false
def qI:List Value->List Value->Bool
 |[],[]=>true
 |a::l,b::r=>wZ a b&&qI l r
 |_,_=>false
def mR(e:TypeId)(u:Ty):Bool:=
 u.plain&&match P.info? e with
 |some i=>match i.zero with
  |some z=>qI z.cells.toList u.zeros&&(match z with|.agg _=>u.isAgg|_=> !u.isAgg)
  |none=>false
 |none=>false
def rJ(f:TypeId->Ty->Bool):List Field->Nat->Ty->Bool
 |[x],o,u=>x.name != "_" &&Nat.beq x.offset o&&Nat.beq (P.cellsOf x.type) u.cells&&f x.type u
 |x::r,o,.pair a b=>x.name != "_" &&Nat.beq x.offset o&&Nat.beq (P.cellsOf x.type) a.cells&&f x.type a&&rJ f r (o+a.cells) b
 |_,_,_=>false
def oD(t:TypeId)(u:Ty):Bool:= !Nat.beq u.cells 0&&bq u.isAgg (gI P t) (fW P t)
def eqT:Nat->TypeId->Ty->Bool
 |0,_,_=>false
 |n+1,t,u=>match P.underlying t,u with
  |some (.int k),.int k'=>decide (k=k')
  |some (.int k),.byte=>decide (k= .u8)
  |some .bool,.bool=>true
  |some .string,.str=>true
  |some (.struct fs),.one v=> !P.stoodInHeld t&&rJ P (λt u=>oD P t u&&eqT n t u) fs.toList 0 v
  |some (.struct fs),.pair a b=> !P.stoodInHeld t&&rJ P (λt u=>oD P t u&&eqT n t u) fs.toList 0 (.pair a b)
  |some (.array m e),.arr d v=>Nat.beq m d&&Nat.beq (P.cellsOf e) v.cells&&oD P e v&&eqT n e v
  |_,_=>false
def cL:Nat:=140737488355328
def nro(f:Nat):Bool:= !Nat.beq (f%16) 15
def frz(H:Hp)(id:Nat):Hp:=bq (Nat.ble bA id) H (match bF H id with|some e=>bR H id (some ⟨true,e.b⟩)|none=>H)
def DS(H:Hp):AV->Hp
 |.own _ id _ _=>frz H id
 |.sl _ id _ _=>frz H id
 |.slf _ id=>frz H id
 |_=>H
def view(H:Hp):AV->Option AV
 |.p t x=>some (.p t x)
 |.pt t l i j=>some (.pt t l i j)
 |.fn f [] []=>some (.fn f [] [])
 |.slf es id=>match bF H id with
  |some ⟨true,.rows _ t l⟩=>bq (Nat.beq es t.cells) (some (.p (.sl t) l)) none
  |_=>none
 |.sl es id off n=>match bF H id with
  |some ⟨true,.rows _ t l⟩=>bq (Nat.beq es t.cells&&Nat.ble (off+n) l.length) (some (.p (.sl t) ((l.drop off).take n))) none
  |_=>none
 |.own es id i j=>match bF H id with
  |some ⟨true,.rows _ t l⟩=>bq (Nat.beq es t.cells) (some (.pt t l i j)) none
  |_=>none
 |_=>none
def pure1(H:Hp)(a:AV):Option (AV×Hp):=(view (DS H a) a).map λx=>(x,DS H a)
def rY(H:Hp):List AV->Option (List AV×Hp)
 |[]=>some ([],H)
 |a::r=>(pure1 H a).ob λx=>(rY x.2 r).map λy=>(x.1::y.1,y.2)
def oV(H:Hp):AV->Option (AV×Hp)
 |.agg l=>(rY H l).map λx=>(.agg x.1,x.2)
 |a=>pure1 H a
section
variable {β : Type}
def FR{α}(d:List (Nat×List α))(k off n:Nat):Option (List α):=
 match d[k]? with
 |some (st,l)=>bq (Nat.ble 2 st&&Nat.ble (off+n) l.length) (some ((l.drop off).take n)) none
 |none=>none
structure Fm where
 f:Nat
 s:Ty
 ms:List (Nat×List s.den)
def KM(f:Nat)(s:Ty):List Fm->Option (List (Nat×List s.den))
 |[]=>none
 |m::r=>bq (Nat.beq m.f (f%16)) (dq m.s s (λh=>some (h▸m.ms)) none) (KM f s r)
def cJ{α d:Type}(g:α->Option d):List α->Option (List d)
 |[]=>some []
 |x::r=>(g x).bind λy=>(cJ g r).map (y::·)
def bU(d:List Fm):(t:Ty)->t.den->Option t.unref.den
 |.ref f s,x=>match x with
  |.inl l=>some l
  |.inr none=>some ([]:List s.den)
  |.inr (some (k,off,n))=>(KM f s d).ob λh=>FR h k off n
 |.one t,x=>bU d t x
 |.pair a b,x=>(bU d a x.1).bind λy=>(bU d b x.2).map λz=>(y,z)
 |.int _,x=>some x
 |.byte,x=>some x
 |.bool,x=>some x
 |.str,x=>some x
 |.opq,x=>some x
 |.nat,x=>some x
 |.sl _,x=>some x
 |.arr _ _,x=>some x
 |.ptr _,x=>some x
def nG:(t:Ty)->t.den->Option t.unref.den
 |.ref _ s,x=>match x with
  |.inl l=>some l
  |.inr none=>some ([]:List s.den)
  |_=>none
 |.one t,x=>nG t x
 |.pair a b,x=>(nG a x.1).bind λy=>(nG b x.2).map λz=>(y,z)
 |.int _,x=>some x
 |.byte,x=>some x
 |.bool,x=>some x
 |.str,x=>some x
 |.opq,x=>some x
 |.nat,x=>some x
 |.sl _,x=>some x
 |.arr _ _,x=>some x
 |.ptr _,x=>some x
def bV{α:Type}(m:Nat×List α):Nat×List α:=(bq (Nat.beq m.1 0) 0 2,m.2)
def vH:Hp->Hp
 |[]=>[]
 |(i,some ⟨fz,.fam e s d⟩)::r=>(i,some ⟨fz,.fam e s (d.map bV)⟩)::vH r
 |x::r=>x::vH r
def tU(H:Hp):Nat->List Fm
 |0=>[]
 |n+1=>match bF H (bA+n) with
  |some ⟨_,.fam _ s d⟩=>⟨n,s,d⟩::tU H n
  |_=>tU H n
def AA(H:Hp):List Fm:=tU H 16
def sK(d:List Fm)(a:AV)(K:AV->Option β):Option β:=
 match a with
 |.p (.sl t) l=>bq t.noRef (K (.p (.sl t) l)) ((cJ (bU d t) (show List t.den from l)).bind λh=>K (.p (.sl t.unref) h))
 |.p t x=>bq t.noRef (K (.p t x)) ((bU d t x).bind λy=>K (.p t.unref y))
 |.pt t l i j=>bO t.noRef<|K (.pt t l i j)
 |a=>K a
def FS(a:AV)(K:AV->Option β):Option β:=
 match a with
 |.p (.sl t) l=>bq t.noRef (K (.p (.sl t) l)) ((cJ (nG t) (show List t.den from l)).bind λd=>K (.p (.sl t.unref) d))
 |.p t x=>bq t.noRef (K (.p t x)) ((nG t x).bind λy=>K (.p t.unref y))
 |a=>K a
end
def AV.anyRef:AV->Bool
 |.p t _=> !t.noRef
 |.pt t _ _ _=> !t.noRef
 |_=>false
section
variable {β : Type}
def KN(H:Hp)(a:AV)(K:AV->Option β):Option β:=
 match a with
 |.p t x=>K (.p t x)
 |.pt t l i j=>K (.pt t l i j)
 |.fn f [] []=>K (.fn f [] [])
 |.slf es id=>match bF H id with
  |some ⟨true,.rows _ t l⟩=>bq (Nat.beq es t.cells) (K (.p (.sl t) l)) none
  |_=>none
 |.sl es id off n=>match bF H id with
  |some ⟨true,.rows _ t l⟩=>bq (Nat.beq es t.cells&&Nat.ble (off+n) l.length) (K (.p (.sl t) ((l.drop off).take n))) none
  |_=>none
 |.own es id i j=>match bF H id with
  |some ⟨true,.rows _ t l⟩=>bq (Nat.beq es t.cells) (K (.pt t l i j)) none
  |_=>none
 |_=>none
theorem ucZ{α}(c)(a)(K:α->Option β):(bq c (some a) none).ob K=bq c (K a) none:=by cases c<;>rfl
theorem txZ(H)(a)(K:AV->Option β):KN H a K=(view H a).ob K:=by
 unfold KN view;split
 case h_4 es id=>
  rcases bF H id with _|⟨fz,b⟩
  .rfl
  .cases fz<;>cases b<;>first|rfl|simp_all[ucZ]
 case h_5 es id off n=>
  rcases bF H id with _|⟨fz,b⟩
  .rfl
  .cases fz<;>cases b<;>first|rfl|simp_all[ucZ]
 case h_6 es id i j=>
  rcases bF H id with _|⟨fz,b⟩
  .rfl
  .cases fz<;>cases b<;>first|rfl|simp_all[ucZ]
 all_goals rfl
def AY(H:Hp)(a:AV)(K:AV->Hp->Option β):Option β:=KN (DS H a) a λx=>K x (DS H a)
theorem jRZ(H)(a)(K:AV->Hp->Option β):AY H a K=(pure1 H a).ob λx=>K x.1 x.2:=by
 unfold AY pure1;rw[txZ];cases view (DS H a) a<;>rfl
def sL:Hp->List AV->(List AV->Hp->Option β)->Option β
 |H,[],K=>K [] H
 |H,a::r,K=>AY H a λx H'=>sL H' r λl H''=>K (x::l) H''
theorem eBZ:∀(l) (H) (K:List AV->Hp->Option β),sL H l K=(rY H l).ob λx=>K x.1 x.2
 |[],_,_=>rfl
 |a::r,H,K=>by
  unfold sL rY;rw[jRZ];cases pure1 H a with
  |none=>rfl
  |some x=>
   show sL x.2 r _=_;rw[eBZ r];show _=((rY x.2 r).map _).ob _;cases rY x.2 r<;>rfl
def KO(H:Hp)(a:AV)(K:AV->Hp->Option β):Option β:=
 match a with
 |.agg l=>sL H l λl H'=>K (.agg l) H'
 |a=>AY H a K
theorem qoZ(H)(a)(K:AV->Hp->Option β):KO H a K=(oV H a).ob λx=>K x.1 x.2:=by
 cases a
 case agg l=>
  show sL H l _=((rY H l).map _).ob _;rw[eBZ];cases rY H l<;>rfl
 all_goals exact jRZ _ _ _
end
section
variable {β : Type}
def zP:(t:Ty)->t.den->Nat->(u:Ty)->(AV->Option β)->Option β
 |.one t,x,o,u,K=>bq (decide ((Ty.one t).unref=u)&&Nat.beq o 0) (K (.p (.one t) x)) (zP t x o u K)
 |.pair a b,x,o,u,K=>bq (decide ((Ty.pair a b).unref=u)&&Nat.beq o 0) (K (.p (.pair a b) x))
  (bq (Nat.blt o a.cells) (zP a x.1 o u K) (zP b x.2 (o-a.cells) u K))
 |t,x,o,u,K=>bq (decide (t.unref=u)&&Nat.beq o 0) (K (.ofTy t x)) none
def xS:(t:Ty)->t.den->Nat->(u:Ty)->AV->(t.den->Option β)->Option β
 |.one t,x,o,u,v,K=>bq (decide ((Ty.one t).unref=u)&&Nat.beq o 0) (asA (.one t) v K) (xS t x o u v K)
 |.pair a b,x,o,u,v,K=>bq (decide ((Ty.pair a b).unref=u)&&Nat.beq o 0) (asA (.pair a b) v K)
  (bq (Nat.blt o a.cells) (xS a x.1 o u v λz=>K (z,x.2)) (xS b x.2 (o-a.cells) u v λz=>K (x.1,z)))
 |t,_,o,u,v,K=>bq (decide (t.unref=u)&&Nat.beq o 0) (asA t v K) none
def rZ(u:Ty)(t:TypeId)(x:u.den)(j:Nat)(K:AV->Option β):Option β:=
 (ty P t).ob λd=>bq u.noRef (sub u x j d λy=>K (.ofTy d y)) (zP u x j d K)
def pD(t:TypeId)(u:Ty)(l:List u.den)(i j:Nat)(K:AV->Option β):Option β:=
 match ty P t with
 |some (.arr n d)=>bq (decide (d=u)&&Nat.beq i 0&&Nat.beq j 0) (bO (Nat.beq l.length n)<|K (.p (.arr n u) l)) (l[i]?.bind λx=>rZ P u t x j K)
 |_=>l[i]?.bind λx=>rZ P u t x j K
def xT(t:TypeId)(c:List AV)(j:Nat)(K:AV->Option β):Option β:=
 bq (gI P t) (bO (Nat.ble (j+P.cellsOf t) c.length&& !Nat.beq (P.cellsOf t) 0)<|K (.agg ((c.drop j).take (P.cellsOf t)))) (bq (fW P t) (c[j]?.ob K) none)
def sM(t:TypeId)(a:AV)(H:Hp)(K:AV->Option β):Option β:=
 match a with
 |.own es id i j=>match bF H id with
  |some ⟨_,.vars c⟩=>xT P t c (i*es+j) K
  |some ⟨_,.rows _ u l⟩=>bq (Nat.beq es u.cells) (pD P t u l i j K) none
  |_=>none
 |.pt u l i j=>pD P t u l i j K
 |.rp f es k i j=>match bF H (bZ f) with
  |some ⟨_,.fam _ s d⟩=>d[k]?.bind λm=>bO (Nat.blt 0 m.1&&Nat.beq es s.cells)<|pD P t s m.2 i j K
  |_=>none
 |_=>none
def setFrom{α:Type}:List α->Nat->List α->List α
 |c,_,[]=>c
 |c,j,x::r=>setFrom (c.set j x) (j+1) r
def HZ(H:Hp)(id:Nat):Bool:=match bF H id with|some e=> !e.fz|none=>false
def vI(t:TypeId)(e:TypeId)(u:Ty)(l:List u.den)(i j:Nat)(id:Nat)(v:AV)(H:Hp)(K:AV->Hp->Option β):Option β:=
 match ty P t with
 |some (.arr n h)=>bq (decide (h=u)&&Nat.beq i 0&&Nat.beq j 0) (bO (Nat.beq l.length n)<|asA (.arr n u) v λB=>bO (Nat.beq B.length n)<|K .junk (bR H id (some ⟨false,.rows e u B⟩))) (asA (.arr n h) v λy=>l[i]?.bind λx=>upd u x j (.arr n h) y λp=>K .junk (bR H id (some ⟨false,.rows e u (l.set i p)⟩)))
 |some d=>asA d v λy=>l[i]?.bind λx=>upd u x j d y λp=>K .junk (bR H id (some ⟨false,.rows e u (l.set i p)⟩))
 |none=>none
def AZ:Ty->Nat->Ty->Option Ty
 |.one t,o,u=>bq (decide ((Ty.one t).unref=u)&&Nat.beq o 0) (some (.one t)) (AZ t o u)
 |.pair a b,o,u=>bq (decide ((Ty.pair a b).unref=u)&&Nat.beq o 0) (some (.pair a b)) (bq (Nat.blt o a.cells) (AZ a o u) (AZ b (o-a.cells) u))
 |t,o,u=>bq (decide (t.unref=u)&&Nat.beq o 0) (some t) none
def Ty.leaves:Ty->List Ty
 |.one t=>t.leaves
 |.pair a b=>a.leaves++b.leaves
 |t=>[t]
def KP(H:Hp)(t:Ty)(a:AV):Option (AV×Hp):=
 match t,a with
 |.ref f s,.slf es id=>match bF H id,bF H (bZ f) with
  |some ⟨false,.rows e t l⟩,some ⟨false,.fam e' d j⟩=>dq t s (λh=>dq d s (λB=>bq (Nat.beq es s.cells&&Nat.beq e e')
   (some (.p (.ref f s) (.inr (some (j.length,0,l.length))),bR (bR H id none) (bZ f) (some ⟨false,.fam e' d (j++[(1,Ty.toL (h.trans B.symm) l)])⟩))) none) none) none
  |_,_=>none
 |_,a=>some (a,H)
def ON(H:Hp):List Ty->List AV->Option (List AV×Hp)
 |t::d,a::l=>(KP H t a).ob λx=>(ON x.2 d l).map λy=>(x.1::y.1,y.2)
 |_,l=>some (l,H)
def OO(H:Hp)(t:Ty)(a:AV):Option (AV×Hp):=
 match a with
 |.agg l=>(ON H t.leaves l).map λx=>(.agg x.1,x.2)
 |a=>KP H t a
def SX(t e:TypeId)(u:Ty)(l:List u.den)(i j:Nat)(id:Nat)(v:AV)(H:Hp)(K:AV->Hp->Option β):Option β:=
 (ty P t).ob λd=>(AZ u j d).ob λh=>(OO H h v).ob λy=>(oV y.2 y.1).ob λx=>bO (HZ x.2 id)<|
  l[i]?.bind λp=>xS u p j d x.1 λB=>K .junk (bR x.2 id (some ⟨false,.rows e u (l.set i B)⟩))
def SY(t:TypeId)(f k i j es:Nat)(v:AV)(H:Hp)(K:AV->Hp->Option β):Option β:=
 (ty P t).ob λd=>(oV H v).ob λx=>match bF x.2 (bZ f) with
  |some ⟨false,.fam e s h⟩=>bO (nro f)<|h[k]?.bind λm=>bO (Nat.beq m.1 1&&Nat.beq es s.cells&&s.noRef)<|asA d x.1 λy=>m.2[i]?.bind λr=>upd s r j d y λp=>
   K .junk (bR x.2 (bZ f) (some ⟨false,.fam e s (h.set k (1,m.2.set i p))⟩))
  |_=>none
def qJ(t:TypeId)(a v:AV)(H:Hp)(K:AV->Hp->Option β):Option β:=
 match a with
 |.own es id i j=>match bF H id with
  |some ⟨false,.vars c⟩=>(eX v).ob λvs=>
   bO (Nat.beq vs.length (P.cellsOf t)&& !Nat.beq (P.cellsOf t) 0&&Nat.ble (i*es+j+vs.length) c.length)<|K .junk (bR H id (some ⟨false,.vars (setFrom c (i*es+j) vs)⟩))
  |some ⟨false,.rows e u l⟩=>bq (Nat.beq es u.cells) (bq u.noRef ((oV H v).ob λx=>bO (HZ x.2 id)<|vI P t e u l i j id x.1 x.2 K) (SX P t e u l i j id v H K)) none
  |_=>none
 |.rp f es k i j=>SY P t f k i j es v H K
 |_=>none
def gJ(H:Hp)(id:Nat)(b:Blk)(K:Hp->Option β):Option β:=bq (bM H id||Nat.ble bA id) none (K (bR H id (some ⟨false,b⟩)))
def tV(t:TypeId)(id:Nat)(H:Hp)(K:AV->Hp->Option β):Option β:=
 (ty P t).ob λu=>bO (mR P t u)<|gJ H id (.rows t u [u.zero]) λH'=>K (.own u.cells id 0 0) H'
def BA(t:TypeId)(v:AV)(id:Nat)(H:Hp)(K:AV->Hp->Option β):Option β:=
 (ty P t).ob λu=>(oV H v).ob λx=>asA u x.1 λy=>gJ x.2 id (.rows t u [y]) λH'=>K (.own u.cells id 0 0) H'
def qK(t:TypeId)(id:Nat)(H:Hp)(K:AV->Hp->Option β):Option β:=
 match P.underlying t with
 |some (.array n e)=>(ty P e).ob λu=>bO (mR P t (.arr n u))<|
  gJ H id (.rows t u (List.replicate n u.zero)) λH'=>K (.own u.cells id 0 0) H'
 |_=>(AX P t).ob λz=>gJ H id (.vars z) λH'=>K (.own 0 id 0 0) H'
def AB(t:TypeId)(v:AV)(id:Nat)(H:Hp)(K:AV->Hp->Option β):Option β:=
 match P.underlying t with
 |some (.array n e)=>(ty P e).ob λu=>(oV H v).ob λx=>asA (.arr n u) x.1 λl=>bO (Nat.beq l.length n)<|
  gJ x.2 id (.rows t u l) λH'=>K (.own u.cells id 0 0) H'
 |_=>(eX v).ob λc=>gJ H id (.vars c) λH'=>K (.own 0 id 0 0) H'
def nH(s:TypeId)(f:Nat):Option (Nat×TypeId):=
 match P.underlying s with
 |some (.struct fs)=>fs[f]?.ob λx=>bq (Nat.beq (P.cellsOf x.type) 0) none (some (x.offset,x.type))
 |_=>none
def iP(s:TypeId)(a:AV)(f:Nat)(K:AV->Option β):Option β:=
 match nH P s f,a with
 |some (o,_),.own es id i j=>K (.own es id i (j+o))
 |some (o,_),.pt u l i j=>K (.pt u l i (j+o))
 |some (o,_),.rp f es k i j=>K (.rp f es k i (j+o))
 |_,_=>none
def qL(s:TypeId)(a:AV)(f:Nat)(K:AV->Option β):Option β:=
 match nH P s f,a with
 |some (o,t),.agg c=>bq (gI P t) (bO (Nat.ble (o+P.cellsOf t) c.length)<|K (.agg ((c.drop o).take (P.cellsOf t)))) (bq (fW P t) (c[o]?.ob K) none)
 |some (o,t),.p u x=>bq u.isAgg (rZ P u t x o K) none
 |_,_=>none
def xA(H:Hp)(es id:Nat):Option Nat:=
 match bF H id with
 |some ⟨_,.vars c⟩=>bq (Nat.beq es 1) (some c.length) none
 |_=>none
def kZ(H:Hp)(es id:Nat)(K:(u:Ty)->List u.den->Option β):Option β:=
 match bF H id with
 |some ⟨_,.rows _ u l⟩=>bq (Nat.beq es u.cells) (K u l) none
 |_=>none
def wR{α:Type}(x:α⊕Option (Nat×(Nat×Nat))):Option (Nat×(Nat×Nat)):=
 match x with
 |.inr y=>y
 |_=>none
def fQ{s:Ty}(x:List s.den⊕Option (Nat×(Nat×Nat))):Nat:=
 match x with
 |.inl l=>l.length
 |.inr none=>0
 |.inr (some (_,_,n))=>n
def jY(t:TypeId)(a d:AV)(H:Hp)(K:AV->Option β):Option β:=
 d.any?.ob λx=>
 match P.underlying t with
 |some (.array n e)=>bO (!Nat.beq (P.cellsOf e) 0)<|match a with
  |.own es id i j=>bq (Nat.beq es (P.cellsOf e)&&Nat.beq i 0&&Nat.beq j 0) ((bJ x n).bind λq=>K (.own es id q 0)) ((bJ x n).bind λq=>K (.own es id i (j+q*P.cellsOf e)))
  |.pt u l i j=>bq (Nat.beq u.cells (P.cellsOf e)&&Nat.beq i 0&&Nat.beq j 0) ((bJ x n).bind λq=>K (.pt u l q 0)) ((bJ x n).bind λq=>K (.pt u l i (j+q*P.cellsOf e)))
  |_=>none
 |some (.slice e)=>bO (!Nat.beq (P.cellsOf e) 0)<|match a with
  |.slf es id=>bq (Nat.beq es (P.cellsOf e)) (match xA H es id with
   |some n=>(bJ x n).bind λq=>K (.own es id q 0)
   |none=>kZ H es id λ_ l=>(bJ x l.length).bind λq=>K (.own es id q 0)) none
  |.sl es id off n=>bq (Nat.beq es (P.cellsOf e)) ((bJ x n).bind λq=>K (.own es id (off+q) 0)) none
  |.p (.sl u) l=>bq (Nat.beq u.cells (P.cellsOf e)) ((bJ x (List.length (α:=u.den) l)).bind λq=>K (.pt u l q 0)) none
  |.p (.ref f u) r=>bq (Nat.beq u.cells (P.cellsOf e)) ((wR r).bind λk=>(bJ x k.2.2).bind λq=>K (.rp f u.cells k.1 (k.2.1+q) 0)) none
  |_=>none
 |_=>none
def tW(t:TypeId)(a d:AV)(K:AV->Option β):Option β:=
 d.any?.ob λx=>
 match P.underlying t with
 |some .string=>a.str?.ob λl=>(bJ x l.length).bind λq=>l[q]?.bind λc=>K (.i .u8 (c.toNat:Int))
 |some (.array n e)=>(ty P e).ob λu=>asA (.arr n u) a λ(l:List u.den)=>(bJ x n).bind λq=>
  l[q]?.bind λy=>K (.ofTy u y)
 |_=>none
def tX(a:Option AV)(d:Nat)(m:Nat)(K:Nat->Option β):Option β:=
 match a with
 |none=>K d
 |some a=>a.any?.ob λx=>(cO x m).bind K
def FT{α:Type}(l:List α)(lo hi:Option AV)(K:List α->Option β):Option β:=
 match lo,hi with
 |none,none=>K l
 |none,some h=>h.any?.ob λx=>(cO x l.length).bind λh=>K (l.take h)
 |some b,none=>b.any?.ob λx=>(cO x l.length).bind λb=>K (l.drop b)
 |some b,some h=>h.any?.ob λy=>(cO y l.length).bind λh=>b.any?.ob λx=>(cO x h).bind λb=>K ((l.take h).drop b)
def lI{α}(x:List α⊕Option (Nat×Nat×Nat))(b n:Nat):List α⊕Option (Nat×Nat×Nat):=
 match x with
 |.inl l=>.inl ((l.take (b+n)).drop b)
 |.inr none=>.inr none
 |.inr (some (k,off,_))=>bq (Nat.beq n 0) (.inl []) (.inr (some (k,off+b,n)))
def qM(t:TypeId)(a:AV)(lo hi:Option AV)(H:Hp)(K:AV->Option β):Option β:=
 match P.underlying t with
 |some .string=>a.str?.ob λl=>FT l lo hi λd=>K (.s d)
 |some (.slice e)=>match a with
  |.slf es id=>bq (Nat.beq es (P.cellsOf e)&& !Nat.beq es 0) (match lo,hi with
   |none,none=>K (.slf es id)
   |lo,hi=>kZ H es id λ_ l=>tX hi l.length l.length λh=>tX lo 0 h λb=>K (.sl es id b (h-b))) none
  |.sl es id off n=>bq (Nat.beq es (P.cellsOf e)&& !Nat.beq es 0) (tX hi n n λh=>tX lo 0 h λb=>K (.sl es id (off+b) (h-b))) none
  |.p (.sl u) l=>bq (Nat.beq u.cells (P.cellsOf e)&& !Nat.beq u.cells 0) (FT (α:=u.den) l lo hi λd=>K (.p (.sl u) d)) none
  |.p .opq (.slice none 0 0)=>bO (!Nat.beq (P.cellsOf e) 0)<|tX hi 0 0 λh=>tX lo 0 h λ_=>K (.p .opq (.slice none 0 0))
  |.p (.ref f u) x=>bq (Nat.beq u.cells (P.cellsOf e)&& !Nat.beq u.cells 0) (tX hi (fQ (s:=u) x) (fQ (s:=u) x) λh=>tX lo 0 h λb=>K (.p (.ref f u) (lI (α:=u.den) x b (h-b)))) none
  |_=>none
 |some (.array n e)=>match a with
  |.own es id 0 0=>bq (Nat.beq es (P.cellsOf e)&& !Nat.beq es 0) (kZ H es id λ_ l=>bO (Nat.ble n cL&&Nat.beq n l.length)<|match lo,hi with
   |none,none=>K (.slf es id)
   |lo,hi=>tX hi n n λh=>tX lo 0 h λb=>K (.sl es id b (h-b))) none
  |.pt u l 0 0=>bq (Nat.beq u.cells (P.cellsOf e)&& !Nat.beq u.cells 0&&Nat.ble n cL&&Nat.beq n l.length) (FT l lo hi λd=>K (.p (.sl u) d)) none
  |_=>none
 |_=>none
def nI(t:TypeId)(a:AV)(lo:Option AV)(hi d:AV)(K:AV->Option β):Option β:=
 match P.underlying t with
 |some (.slice e)=>match a with
  |.p (.sl u) l=>bq (Nat.beq u.cells (P.cellsOf e)&& !Nat.beq u.cells 0) (d.any?.ob λy=>(cO y (List.length (α:=u.den) l)).bind λm=>hi.any?.ob λx=>(cO x m).bind λh=>match lo with
   |none=>K (.p (.sl u) (List.take (α:=u.den) h l))
   |some lo=>lo.any?.ob λx=>(cO x h).bind λb=>K (.p (.sl u) (List.drop (α:=u.den) b (List.take h l)))) none
  |_=>none
 |_=>none
def pE(H:Hp)(u:Ty)(a:AV)(K:List u.den->Option β):Option β:=
 match a with
 |.p t x=>dq t (.sl u) (λh=>K (Ty.to h x))
  (dq t .str (λh=>dq (.sl .byte) (.sl u) (λh2=>K (Ty.to h2 (Ty.to h x:List UInt8))) none) ((DP t x (.sl u)).ob λl=>K l))
 |.slf es id=>match bF H id with
  |some ⟨_,.rows _ t l⟩=>dq t u (λh=>(bq (Nat.beq es t.cells) (K (Ty.toL h l)) none)) none
  |_=>none
 |.sl es id off n=>match bF H id with
  |some ⟨_,.rows _ t l⟩=>dq t u (λh=>(bq (Nat.beq es t.cells&&Nat.ble (off+n) l.length) (K (((Ty.toL h l).drop off).take n)) none)) none
  |_=>none
 |_=>none
def BB(H:Hp)(a:AV)(K:Nat->Option β):Option β:=
 match a with
 |.sl _ _ _ n=>K n
 |.slf es id=>match xA H es id with
  |some n=>K n
  |none=>kZ H es id λ_ l=>K l.length
 |.p (.sl u) l=>K (List.length (α:=u.den) l)
 |.p .opq (.slice none 0 0)=>K 0
 |.p (.ref _ u) r=>K (fQ (s:=u) r)
 |_=>none
def KQ(H:Hp)(a:AV)(K:Nat->Option β):Option β:=
 match a with
 |.p .opq (.map none)=>K 0
 |.mp id=>match bF H id with
  |some ⟨_,.map _ _ m⟩=>K m.1.length
  |_=>none
 |_=>none
def JE(t:TypeId)(H:Hp)(a:AV)(K:Nat->Option β):Option β:=
 match P.underlying t with
 |some .string=>a.str?.ob λl=>K l.length
 |some (.slice _)=>BB H a K
 |some (.map _ _)=>KQ H a K
 |some (.array n _)=>K n
 |_=>none
def lJ(e:TypeId)(n:Nat):Bool:=Nat.ble (n*P.bytesOf e) cL&&Nat.ble n cL
def BC(e:TypeId)(n:Nat):Bool:=match P.info? e with|some i=>(match i.zero with|some z=>Nat.beq z.cells.size n|none=>false)|none=>false
def lK(t:TypeId)(s x:AV)(id:Nat)(H:Hp)(K:AV->Hp->Option β):Option β:=
 match P.underlying t with
 |some (.slice e)=>(ty P e).ob λu=>
  pE H u x λm=>
   match s with
   |.p .opq (.slice none 0 0)=>bO (BC P e u.cells&&lJ P e m.length)<|gJ H id (.rows e u m) λH'=>K (.slf u.cells id) H'
   |.slf es d=>match bF H d with
    |some ⟨false,.rows e' t l⟩=>dq t u (λh=>bO (BC P e u.cells&&Nat.beq e e'&&Nat.beq es u.cells&&lJ P e (l.length+m.length))<|
     gJ (bR H d none) id (.rows e u (Ty.toL h l++m)) λH'=>K (.slf es id) H')
     (dq u t.unref (λh=>bO (BC P e u.cells&&Nat.beq e e'&&Nat.beq es u.cells&&lJ P e (l.length+m.length))<|
     gJ (bR H d none) id (.rows e t (l++(Ty.toL h m).map (dE t))) λH'=>K (.slf es id) H') none)
    |_=>none
   |.sl es d 0 n=>match bF H d with
    |some ⟨false,.rows e' t l⟩=>dq t u (λh=>bO (BC P e u.cells&&Nat.beq e e'&&Nat.beq es u.cells&&Nat.ble n l.length&&lJ P e (n+m.length))<|
     gJ (bR H d none) id (.rows e u ((Ty.toL h l).take n++m)) λH'=>K (.slf es id) H') none
    |_=>none
   |_=>none
 |_=>none
def lF(t:TypeId)(s x:AV)(id:Nat)(H:Hp)(K:AV->Hp->Option β):Option β:=
 match P.underlying t with
 |some (.slice e)=>(ty P e).ob λu=>bO (mR P e u)<|
  x.any?.ob λn=>(cO n cL).bind λm=>
   match s with
   |.p .opq (.slice none 0 0)=>bO (lJ P e m)<|gJ H id (.rows e u (List.replicate m u.zero)) λH'=>K (.slf u.cells id) H'
   |.slf es d=>match bF H d with
    |some ⟨false,.rows e' j l⟩=>dq j u (λh=>bO (Nat.beq e e'&&Nat.beq es u.cells&&lJ P e (l.length+m))<|gJ (bR H d none) id (.rows e u (Ty.toL h l++List.replicate m u.zero)) λH'=>K (.slf es id) H') none
    |_=>none
   |_=>none
 |_=>none
def bY{α:Type}(l:List α)(d:Nat)(m:List α):List α:=l.take d++m++l.drop (d+m.length)
def sO{α}(d:List (Nat×List α))(x:List α⊕Option (Nat×Nat×Nat))(m:List α):Option (List (Nat×List α)×Nat):=
 match x with
 |.inl l=>bO (Nat.beq l.length 0) (some (d,0))
 |.inr none=>some (d,0)
 |.inr (some (k,off,n))=>d[k]?.bind λp=>bO (Nat.beq p.1 1&&Nat.ble (off+n) p.2.length) (some (d.set k (1,bY p.2 off (m.take n)),min m.length n))
def vJ(t:TypeId)(d x:AV)(H:Hp)(K:AV->Hp->Option β):Option β:=
 match P.underlying t with
 |some (.slice e)=>(ty P e).ob λu=>
  pE H u x λm=>
   match d with
   |.slf es id=>match bF H id with
    |some ⟨false,.rows e' t l⟩=>dq t u (λh=>bO (Nat.beq es u.cells)<|
     K (.i .i64 ((min m.length l.length:Nat):Int)) (bR H id (some ⟨false,.rows e' u (bY (Ty.toL h l) 0 (m.take l.length))⟩))) none
    |_=>none
   |.sl es id off n=>match bF H id with
    |some ⟨false,.rows e' t l⟩=>dq t u (λh=>bO (Nat.beq es u.cells&&Nat.ble (off+n) l.length)<|
     K (.i .i64 ((min m.length n:Nat):Int)) (bR H id (some ⟨false,.rows e' u (bY (Ty.toL h l) off (m.take n))⟩))) none
    |_=>none
   |.p (.ref f s) x=>bO (nro f)<|match bF H (bZ f) with
    |some ⟨false,.fam e' j B⟩=>dq j s (λh=>dq u j (λh2=>(sO B (h▸(show List s.den⊕Option (Nat×Nat×Nat) from x)) (Ty.toL h2 m)).bind λy=>
     K (.i .i64 (y.2:Int)) (bR H (bZ f) (some ⟨false,.fam e' j y.1⟩))) none) none
    |_=>none
   |_=>none
 |_=>none
def qN(t:TypeId)(d:AV)(H:Hp)(K:AV->Hp->Option β):Option β:=
 match P.underlying t with
 |some (.slice e)=>(ty P e).ob λu=>bO (mR P e u)<|
  match d with
  |.p .opq (.slice none 0 0)=>K (.tup []) H
  |.slf es id=>match bF H id with
   |some ⟨false,.rows e' t l⟩=>dq t u (λh=>bO (Nat.beq es u.cells)<|K (.tup []) (bR H id (some ⟨false,.rows e' u (bY (Ty.toL h l) 0 (List.replicate l.length u.zero))⟩))) none
   |_=>none
  |.sl es id off n=>match bF H id with
   |some ⟨false,.rows e' t l⟩=>dq t u (λh=>bO (Nat.beq es u.cells&&Nat.ble (off+n) l.length)<|K (.tup []) (bR H id (some ⟨false,.rows e' u (bY (Ty.toL h l) off (List.replicate n u.zero))⟩))) none
   |_=>none
  |_=>none
 |_=>none
def jO(d h:TypeId)(a:AV)(H:Hp)(K:AV->Option β):Option β:=
 match P.underlying d,P.underlying h with
 |some (.int ks),some (.int k)=>(a.int? ks).ob λn=>K (.i k (k.wrap n))
 |some .string,some .string=>a.str?.ob λl=>K (.s l)
 |some (.slice e),some .string=>bq (isB P e) (pE H .byte a λl=>K (.s l)) none
 |some (.slice _),some (.slice e)=>none
 |_,_=>none
def jP(d h:TypeId)(a:AV)(id:Nat)(H:Hp)(K:AV->Hp->Option β):Option β:=
 match P.underlying d,P.underlying h with
 |some .string,some (.slice e)=>bq (isB P e) (a.str?.ob λl=>bO (Nat.ble l.length cL)<|gJ H id (.rows e .byte l) λH'=>K (.slf 1 id) H') none
 |some (.slice _),some (.slice e)=>match a with
  |.slf es j=>match bF H j with
   |some ⟨false,.rows _ .byte l⟩=>bq (Nat.beq d h&&isB P e&&Nat.beq es 1) (bO (Nat.blt 0 (List.length (α:=UInt8) l))<|K (.slf es j) H) none
   |_=>none
  |_=>none
 |_,_=>none
def vK(t:TypeId)(l c:AV)(id:Nat)(H:Hp)(K:AV->Hp->Option β):Option β:=
 match P.underlying t with
 |some (.slice e)=>l.any?.ob λn=>c.any?.ob λm=>(cO m cL).bind λd=>(cO n d).bind λn'=>
  (ty P e).ob λu=>bO (mR P e u&&Nat.ble (d*P.bytesOf e) cL)<|
   gJ H id (.rows e u (List.replicate n' u.zero)) λH'=>K (.slf u.cells id) H'
 |_=>none
def BD(t:TypeId):Bool:=match P.underlying t with|some (.func _ _ _)=>true|_=>false
def KS:List Nat->Ty->Ty
 |[f],.sl s=>.ref f s
 |_,v=>v
def lG(t:TypeId)(r:Option AV)(h:List Nat)(id:Nat)(H:Hp)(K:AV->Hp->Option β):Option β:=
 match P.underlying t with
 |some (.map j d)=>(ty P j).ob λk=>bO (match r with|none=>true|some a=>a.any?.isSome)<|
  bq (BD P d) (gJ H id (.fmap k []) λH'=>K (.mp id) H') ((ty P d).ob λv=>gJ H id (.map k (KS h v) ([],0)) λH'=>K (.mp id) H')
 |_=>none
def IA(c:Bool)(v:AV)(d:Bool):AV:=bq c (.tup [v,.b d]) v
def tY(d:TypeId)(k:Ty):Bool:=decide (ty P d=some k)&&eqT P dB d k&&k.keyed
def xU(t:TypeId)(k v:Ty):Bool:=
 match P.underlying t with
 |some (.map h d)=>tY P h k&&decide (ty P d=some v.unref)&&mR P d v
 |_=>false
def BE(t:TypeId)(k:Ty):Bool:=
 match P.underlying t with
 |some (.map h d)=>tY P h k&&BD P d&&(match P.info? d with|some i=>(match i.zero with|some .nilFunc=>true|_=>false)|none=>false)
 |_=>false
def vL{k:Ty}:List (k.den×AV)->k.den->(Option AV->Option β)->Option β
 |[],_,K=>K none
 |(a,b)::r,x,K=>bq (k.eqb x a) (K (some b)) (vL r x K)
def xB(c:Bool)(v:Ty)(r:Option v.den)(K:AV->Option β):Option β:=K (IA c (.ofTy v (r.getD v.zero)) r.isSome)
def nJ(t:TypeId)(m d:AV)(c:Bool)(H:Hp)(K:AV->Option β):Option β:=
 match m with
 |.mp id=>match bF H id with
  |some ⟨_,.map k v M⟩=>bO (xU P t k v)<|asA k d λkey=>xB c v (kX M key) K
  |some ⟨_,.fmap k l⟩=>bO (BE P t k)<|asA k d λkey=>vL l key λr=>match r with
   |some y=>K (IA c y true)
   |none=>K (IA c (.p .opq .nilFunc) false)
  |_=>none
 |.p .opq (.map none)=>match P.underlying t with
  |some (.map h j)=>(ty P h).ob λk=>(ty P j).ob λv=>bO (xU P t k v)<|asA k d λ_=>xB c v none K
  |_=>none
 |_=>none
def IB{k:Ty}:List (k.den×AV)->k.den->Bool
 |[],_=>true
 |(a,_)::r,x=> !k.eqb x a&&IB r x
def KT(H:Hp)(id:Nat)(x:AV):Option (AV×Hp):=
 match bF H id with
 |some ⟨_,.map _ v _⟩=>bq v.noRef (oV H x) ((OO H v x).ob λy=>oV y.2 y.1)
 |_=>oV H x
def nK(t:TypeId)(m key x:AV)(H:Hp)(K:AV->Hp->Option β):Option β:=
 match m with
 |.mp id=>match bF H id with
  |some ⟨false,.fmap k l⟩=>bO (BE P t k)<|asA k key λa=>bO (IB l a)<|(eX x).ob λc=>bO (Nat.beq c.length 1)<|
   K .junk (bR H id (some ⟨false,.fmap k (l++[(a,x)])⟩))
  |_=>(KT H id x).ob λy=>match bF y.2 id with
   |some ⟨false,.map k v M⟩=>bO (xU P t k v)<|asA k key λa=>asA v y.1 λb=>K .junk (bR y.2 id (some ⟨false,.map k v (mQ M a b)⟩))
   |_=>none
 |_=>none
def tZ:(Nat->Option (Nat×Nat))->List AV->List (Nat×AV)->Option (List AV)
 |_,d,[]=>some d
 |j,d,(i,v)::h=>(j i).ob λx=>(eX v).ob λc=>
    bq (Nat.beq c.length x.2&&Nat.ble (x.1+c.length) d.length) (tZ j (setFrom d x.1 c) h) none
def uA(t:TypeId)(d:List (Nat×AV))(K:AV->Option β):Option β:=
 (AX P t).ob λz=>
 match P.underlying t with
 |some (.struct fs)=>(fs.toList.mapM λf=>(P.info? f.type).map λi=>(f.offset,i.size)).ob λh=>(tZ (h.toArray[·]?) z d).ob λc=>K (.agg c)
 |some (.array _ e)=>(P.info? e).ob λj=>(tZ (λi=>some (i*j.size,j.size)) z d).ob λc=>K (.agg c)
 |_=>none
def AD(H:Hp)(d:Option Nat)(u:Ty):Ty:=
 match d with
 |some b=>match bF H b with
  |some ⟨_,.rows _ t _⟩=>if t.unref=u then t else u
  |_=>u
 |none=>u
def gP(t:TypeId)(d:Nat)(h:List (Nat×AV))(vs:Bool)(j:Option Nat)(id:Nat)(H:Hp)(K:AV->Hp->Option β):Option β:=
 match P.underlying t with
 |some (.slice e)=>(AX P e).ob λz=>(ty P e).ob λu=>
  bO (Nat.beq z.length u.cells&&Nat.ble (d*z.length) 16777216)<|
  (tZ (λi=>some (i*P.cellsOf e,P.cellsOf e)) (List.replicate d z).flatten h).ob λc=>
  bq vs (bO (Nat.beq u.cells 1)<|gJ H id (.vars c) λH'=>K (.slf 1 id) H')<|
  sL H c λcs H1=>FQ (asm (AD H j u)) u.cells d cs λl=>gJ H1 id (.rows e (AD H j u) l) λH'=>K (.slf u.cells id) H'
 |_=>none
def xV(d:BinOp)(k:IntKind)(a b:Int):Int:=
 match d with
 |.and=>k.wrap ((BitVec.ofInt k.bits a&&&BitVec.ofInt k.bits b).toNat:Int)
 |.or=>k.wrap ((BitVec.ofInt k.bits a|||BitVec.ofInt k.bits b).toNat:Int)
 |.xor=>k.wrap ((BitVec.ofInt k.bits a^^^BitVec.ofInt k.bits b).toNat:Int)
 |_=>k.wrap ((BitVec.ofInt k.bits a&&& ~~~BitVec.ofInt k.bits b).toNat:Int)
def KU(d:BinOp)(k k':IntKind):Bool:=match d with|.shl|.shr=>true|_=>k==k'
def AE(d:BinOp)(k:IntKind)(a b:Int)(K:AV->Option β):Option β:=
 match d with
 |.add=>K (.i k (k.wrap (a+b)))
 |.sub=>K (.i k (k.wrap (a-b)))
 |.mul=>K (.i k (k.wrap (a*b)))
 |.quo=>bO (!decide (b=0))<|K (.i k (k.wrap (a.tdiv b)))
 |.rem=>bO (!decide (b=0))<|K (.i k (a.tmod b))
 |.and|.or|.xor|.andNot=>K (.i k (xV d k a b))
 |.shl=>bO (decide (0<=b))<|K (.i k (k.wrap (a*2^(min b.toNat k.bits))))
 |.shr=>bO (decide (0<=b))<|K (.i k (a.fdiv (2^(min b.toNat k.bits))))
 |.eql=>K (.b (a==b))
 |.neq=>K (.b (!(a==b)))
 |.lss=>K (.b (decide (a<b)))
 |.leq=>K (.b (decide (a<=b)))
 |.gtr=>K (.b (decide (a>b)))
 |.geq=>K (.b (decide (a>=b)))
def AF(d:BinOp)(a b:List UInt8)(K:AV->Option β):Option β:=
 match d with
 |.add=>bO (Nat.ble (a.length+b.length) cL)<|K (.s (a++b))
 |.eql=>K (.b (a==b))
 |.neq=>K (.b (!(a==b)))
 |.lss=>K (.b (Op.bytesLess a b))
 |.leq=>K (.b (Op.bytesLess a b||a==b))
 |.gtr=>K (.b (!(Op.bytesLess a b||a==b)))
 |.geq=>K (.b (!Op.bytesLess a b))
 |_=>none
def rK(n:Nat)(K:Bool->Option β):Option β:=
 @ite _ (n=0->K true=K false) (Classical.propDecidable _) (K false) none
def TN(n:Nat)(K:Int->Option β):Option β:=
 @dite _ (∃r,∀c,n<=c->c<=9223372036854775807->K (c:Int)=some r) (Classical.propDecidable _) (λh=>some h.choose) (λ_=>none)
def JF{α:Type}:List α->Bool
 |[]=>true
 |_::_=>false
def FU(a b:AV):Option Bool:=
 match a,b with
 |.p .opq (.pointer none),.p .opq (.pointer none)=>some true
 |.own _ _ _ _,.p .opq (.pointer none)=>some false
 |.p .opq (.pointer none),.own _ _ _ _=>some false
 |.pt _ _ _ _,.p .opq (.pointer none)=>some false
 |.p .opq (.pointer none),.pt _ _ _ _=>some false
 |.p (.ptr _) l,.p .opq (.pointer none)=>some (JF l)
 |_,_=>none
def FV(a b:AV):Option Bool:=
 match a,b with
 |.mp _,.p .opq (.map none)=>some false
 |.p .opq (.map none),.mp _=>some false
 |.p .opq (.map none),.p .opq (.map none)=>some true
 |_,_=>none
def FW(a b:AV):Option Bool:=
 match a,b with
 |.p .opq .nilFunc,.p .opq .nilFunc=>some true
 |.fn _ _ _,.p .opq .nilFunc=>some false
 |.p .opq .nilFunc,.fn _ _ _=>some false
 |_,_=>none
def FX(t:TypeId)(a b:AV)(H:Hp)(K:Bool->Option β):Option β:=
 match P.underlying t with
 |some (.pointer _)=>(FU a b).ob K
 |some (.map _ _)=>(FV a b).ob K
 |some (.func _ _ _)=>(FW a b).ob K
 |some (.slice _)=>match a,b with
  |.p .opq (.slice none 0 0),.p .opq (.slice none 0 0)=>K true
  |a,.p .opq (.slice none 0 0)=>BB H a λn=>rK n K
  |.p .opq (.slice none 0 0),b=>BB H b λn=>rK n K
  |_,_=>none
 |_=>(ty P t).ob λu=>bO (eqT P dB t u&& !P.eqGuardType P.depth t)<|asA u a λx=>asA u b λy=>K (u.eqb x y)
def AG(d:BinOp)(t u:TypeId)(a b:AV)(H:Hp)(K:AV->Option β):Option β:=
 match P.underlying t with
 |some (.int k)=>match P.underlying u with
  |some (.int k')=>(a.int? k).ob λx=>(b.int? k').ob λy=>
   bO (KU d k k')<|AE d k x y K
  |_=>none
 |some .string=>a.str?.ob λx=>b.str?.ob λy=>AF d x y K
 |_=>match d with
  |.eql=>FX P t a b H λr=>K (.b r)
  |.neq=>FX P t a b H λr=>K (.b (!r))
  |_=>none
def JG(d:UnOp)(t:TypeId)(a:AV)(K:AV->Option β):Option β:=
 match d,P.underlying t with
 |.not,some .bool=>a.bool?.ob λx=>K (.b (!x))
 |.neg,some (.int k)=>(a.int? k).ob λx=>K (.i k (k.wrap (0-x)))
 |.xor,some (.int k)=>(a.int? k).ob λx=>K (.i k (xV .xor k (if k.signed then-1 else k.max) x))
 |_,_=>none
def OP:List Int->Int->Int
 |[],m=>m
 |y::r,m=>OP r (if y<m then y else m)
def OQ:List Int->Int->Int
 |[],m=>m
 |y::r,m=>OQ r (if y>m then y else m)
def DT(k:IntKind):List AV->Option (List Int)
 |[]=>some []
 |a::r=>(a.int? k).ob λn=>(DT k r).map (n::·)
def xW(t:TypeId)(c a b:AV)(K:AV->Option β):Option β:=
 c.bool?.ob λq=>match P.underlying t with
  |some .bool=>match a.bool?,b.bool? with
   |some x,some y=>K (.b (bq q x y))
   |some x,none=>bO q<|K (.b x)
   |none,some y=>bO (!q)<|K (.b y)
   |none,none=>none
  |_=>bq q (K a) (K b)
end
end
end
noncomputable section
inductive Gh where
 |freeze (slot:Nat)
 |ownNil (slot:Nat) (e:TypeId) (id:Nat)
 |ownCell (blk off:Nat) (e:TypeId) (id:Nat)
 |renum (old new:Nat)
 |pure (slot:Nat)
 |frzB (blk:Nat)
 |pureCell (blk off:Nat)
 |newFam (f:Nat) (e:TypeId) (s:Ty)
 |toRef (blk:Nat) (t:Ty)
 |mem (slot f:Nat)
 |opn (slot m:Nat)
inductive Cn where
 |slot (k:Nat) (kd:Kd)
 |cell (b j:Nat) (kd:Kd)
 |key (id:Nat)
inductive AC where
 |skip
 |ret
 |exit (id:Nat)
 |seq (a b:AC)
 |cond (c:Operand) (a b:AC)
 |block (id:Nat) (a:AC)
 |loop (sh:fV) (ret:Bool) (outs:List (Nat×fV)) (a:AC)
 |region (id:Nat) (ops:List (Oper×Ann)) (draw:Bool)
 |join (sh:fV) (ret:Bool) (outs:List (Nat×fV)) (a:AC)
 |pre (g:Gh) (a:AC)
 |sel (q:Cn) (a b:AC)
 |post (g:Gh) (a:AC)
 |round (a r:AC)
 |bad (c:Code)
inductive Ov where
 |leaf
 |one (a:Ov)
 |two (a b:Ov)
 |loop (sh:fV) (ret:Bool) (outs:List (Nat×fV)) (a:Ov)
 |reg (l:List (Nat×Ann))
 |join (sh:fV) (ret:Bool) (outs:List (Nat×fV)) (a:Ov)
 |pre (g:Gh) (a:Ov)
 |sel (q:Cn) (a b:Ov)
 |post (g:Gh) (a:Ov)
 |round (a r:Ov)
def SZ:List (Nat×Ann)->Nat->Ann
 |[],_=>{}
 |(i,a)::r,k=>bq (Nat.beq i k) a (SZ r k)
def xX(l:List (Nat×Ann)):Nat->List Oper->List (Oper×Ann)
 |_,[]=>[]
 |k,o::r=>(o,SZ l k)::xX l (k+1) r
def plain:Code->AC
 |.ret=>.ret
 |.exit i=>.exit i
 |.seq a b=>.seq (plain a) (plain b)
 |.cond c a b=>.cond c (plain a) (plain b)
 |.block i a=>.block i (plain a)
 |.region i h d=>.region i (xX [] 0 h.toList) d
 |.skip=>.skip
 |c=>.bad c
def build:Ov->Code->AC
 |.one x,.block i a=>.block i (build x a)
 |.two x y,.seq a b=>.seq (build x a) (build y b)
 |.two x y,.cond c a b=>.cond c (build x a) (build y b)
 |.loop sh rt h x,.loop a=>.loop sh rt h (build x a)
 |.reg l,.region i j d=>.region i (xX l 0 j.toList) d
 |.join sh rt h x,c=>.join sh rt h (build x c)
 |.pre g x,c=>.pre g (build x c)
 |.sel q x y,c=>.sel q (build x c) (build y c)
 |.post g x,c=>.post g (build x c)
 |.round x y,.loop a=>.round (build x a) (build y (.loop a))
 |_,c=>plain c
def AC.wr:AC->List Nat
 |.seq a b=>a.wr++b.wr
 |.cond _ a b=>a.wr++b.wr
 |.block _ a=>a.wr
 |.loop _ _ _ a=>a.wr
 |.region _ d _=>d.filterMap (·.1.dst)
 |.join _ _ _ a=>a.wr
 |.pre (.ownNil k _ _) a=>k::a.wr
 |.pre (.pure k) a=>k::a.wr
 |.pre (.mem k _) a=>k::a.wr
 |.pre (.opn k _) a=>k::a.wr
 |.pre _ a=>a.wr
 |.sel _ a b=>a.wr++b.wr
 |.post (.ownNil k _ _) a=>k::a.wr
 |.post (.pure k) a=>k::a.wr
 |.post (.mem k _) a=>k::a.wr
 |.post (.opn k _) a=>k::a.wr
 |.post _ a=>a.wr
 |.round a r=>a.wr++r.wr
 |_=>[]
def KV(d:List (Nat×Nat))(i k:Nat):Bool:=match gE d i with
 |some j=>Nat.beq j k
 |none=>false
def AC.rd:AC->Bool
 |.round _ _|.bad _=>true
 |_=>false
structure FnT where
 f:FuncId
 i:Shp
 os:List Shp
 spec:i.D->Option (dW os)
abbrev Tbl:=List FnT
section
variable (P : Program) (T : Tbl)
section
variable {β : Type}
def qO(d:List Fm):List AV->(List AV->Option β)->Option β
 |[],K=>K []
 |a::r,K=>sK d a λx=>qO d r λl=>K (x::l)
def AH:List AV->(List AV->Option β)->Option β
 |[],K=>K []
 |a::r,K=>FS a λx=>AH r λl=>K (x::l)
def xY(a:AV)(K:AV->Option β):Option β:=
 match a with
 |.agg l=>AH l λd=>K (.agg d)
 |a=>FS a K
def BF:List AV->Bool
 |[]=>false
 |a::r=>a.anyRef||BF r
def oE(H:Hp)(a:AV)(K:AV->Hp->Option β):Option β:=
 match a with
 |.agg l=>bq (BF l) (qO (AA (vH H)) l λd=>K (.agg d) (vH H)) (K (.agg l) H)
 |a=>bq a.anyRef (sK (AA (vH H)) a λx=>K x (vH H)) (K a H)
def xZ(H:Hp)(a:AV)(K:AV->Hp->Option β):Option β:=KO H a λx H'=>oE H' x K
def wC(H:Hp)(a:AV):Option (AV×Hp):=(oV H a).ob λx=>oE x.2 x.1 λy H'=>some (y,H')
def pF{α}(d:List (Nat×List α))(x:List α⊕Option (Nat×(Nat×Nat))):Option (List α×List (Nat×List α)):=
 match x with
 |.inl _=>none
 |.inr none=>some ([],d)
 |.inr (some (k,off,n))=>d[k]?.bind λm=>bO (Nat.beq m.1 1&&Nat.beq off 0&&Nat.ble n m.2.length) (some (m.2.take n,d.set k (0,m.2)))
def UC{α}(d:List (Nat×List α))(x:List α⊕Option (Nat×(Nat×Nat))):Option (List α×List (Nat×List α)):=
 match x with
 |.inr (some (k,off,n))=>d[k]?.bind λm=>bO (Nat.beq m.1 1&&Nat.beq off 0&&Nat.ble n m.2.length) (some (m.2.take n,d.map λm=>(0,m.2)))
 |_=>none
def wD{α}(f:Nat)(d:List (Nat×List α))(x:List α⊕Option (Nat×(Nat×Nat))):Option (List α×List (Nat×List α)):=bq (nro f) (pF d x) (UC d x)
def FY(H:Hp)(m:Nat)(a:AV):Option (AV×Hp):=
 match m with
 |0=>some (a,H)
 |1=>wC H a
 |2=>(wC H a).map λx=>(x.1,H)
 |3=>xY a λx=>some (x,H)
 |m=>match a with
  |.p (.ref f s) x=>match bF H (bZ f) with
   |some ⟨false,.fam e j B⟩=>dq j s (λh=>bO (Nat.beq e ((m-10)%5000)&& !bM H (m+100000)&&Nat.blt (m+100000) bA)<|(wD f B (h▸(show List s.den⊕Option (Nat×(Nat×Nat)) from x))).bind λy=>
    some (.slf j.cells (m+100000),bR (bR H (bZ f) (some ⟨false,.fam e j y.2⟩)) (m+100000) (some ⟨false,.rows e j y.1⟩))) none
   |_=>none
  |.p .opq (.slice none 0 0)=>(ty P ((m-10)%5000)).ob λu=>bq (bM H (m+100000)||Nat.ble bA (m+100000)) none (some (.slf u.cells (m+100000),bR H (m+100000) (some ⟨false,.rows ((m-10)%5000) u []⟩)))
  |.sl es d 0 n=>match bF H d with
   |some ⟨false,.rows e t l⟩=>bq (Nat.beq es t.cells&& !bM H (m+100000)&&Nat.blt (m+100000) bA&&Nat.ble n l.length) (some (.slf es (m+100000),bR (bR H d none) (m+100000) (some ⟨false,.rows e t (l.take n)⟩))) none
   |_=>some (.sl es d 0 n,H)
  |a=>some (a,H)
def AI:Hp->List Nat->List AV->Option (List AV×Hp)
 |H,_,[]=>some ([],H)
 |H,d,a::r=>(FY P H (d.headD 0) a).ob λx=>(AI x.2 d.tail r).map λy=>(x.1::y.1,y.2)
def IC(H:Hp)(m:Nat)(a:AV)(K:AV->Hp->Option β):Option β:=
 match m with
 |0=>K a H
 |1=>xZ H a K
 |2=>xZ H a λx _=>K x H
 |3=>xY a λx=>K x H
 |m=>match a with
  |.p (.ref f s) x=>match bF H (bZ f) with
   |some ⟨false,.fam e j B⟩=>dq j s (λh=>bO (Nat.beq e ((m-10)%5000)&& !bM H (m+100000)&&Nat.blt (m+100000) bA)<|(wD f B (h▸(show List s.den⊕Option (Nat×(Nat×Nat)) from x))).bind λy=>
    K (.slf j.cells (m+100000)) (bR (bR H (bZ f) (some ⟨false,.fam e j y.2⟩)) (m+100000) (some ⟨false,.rows e j y.1⟩))) none
   |_=>none
  |.p .opq (.slice none 0 0)=>(ty P ((m-10)%5000)).ob λu=>bq (bM H (m+100000)||Nat.ble bA (m+100000)) none (K (.slf u.cells (m+100000)) (bR H (m+100000) (some ⟨false,.rows ((m-10)%5000) u []⟩)))
  |.sl es d 0 n=>match bF H d with
   |some ⟨false,.rows e t l⟩=>bq (Nat.beq es t.cells&& !bM H (m+100000)&&Nat.blt (m+100000) bA&&Nat.ble n l.length) (K (.slf es (m+100000)) (bR (bR H d none) (m+100000) (some ⟨false,.rows e t (l.take n)⟩))) none
   |_=>K (.sl es d 0 n) H
  |a=>K a H
theorem v4Z{α d}(c)(a)(b)(K:α->d->Option β):bq c (K a b) none=(bq c (some (a,b)) none).ob λx=>K x.1 x.2:=by cases c<;>rfl
theorem vNZ{α d}(c)(a)(b)(K:α->d->Option β):bq c none (K a b)=(bq c none (some (a,b))).ob λx=>K x.1 x.2:=by cases c<;>rfl
theorem lRZ{α d:Type}(x:Option α)(f)(K:d->Option β):(x.bind f).ob K=x.bind λy=>(f y).ob K:=by cases x<;>rfl
theorem wvZ{α d}(x:Option α)(f)(K:d->Option β):(x.ob f).ob K=x.ob λy=>(f y).ob K:=by cases x<;>rfl
theorem qfZ{d}(c)(x y:Option d)(K:d->Option β):(bq c x y).ob K=bq c (x.ob K) (y.ob K):=by cases c<;>rfl
theorem q9Z{d}(c)(x)(K:d->Option β):(bO c x).ob K=bO c (x.ob K):=by cases c<;>rfl
theorem vEZ{d}{t u}(f)(K:d->Option β):(dq t u f none).ob K=dq t u (λh=>(f h).ob K) none:=by
 unfold dq;split<;>rfl
theorem keZ{d}(fms)(a)(f)(K:d->Option β):(sK fms a f).ob K=sK fms a λx=>(f x).ob K:=by
 unfold sK
 grind[qfZ,lRZ,q9Z]
theorem h8Z{d}(fms)(K:d->Option β):∀(l) (f),(qO fms l f).ob K=qO fms l λx=>(f x).ob K
 |[],_=>rfl
 |a::r,f=>by
  unfold qO;rw[keZ];congr 1;funext x;exact h8Z fms K r _
theorem qbZ{d}(a)(f)(K:d->Option β):(FS a f).ob K=FS a λx=>(f x).ob K:=by
 unfold FS
 grind[qfZ,lRZ]
theorem mUZ{d}(K:d->Option β):∀(l) (f),(AH l f).ob K=AH l λx=>(f x).ob K
 |[],_=>rfl
 |a::r,f=>by
  unfold AH;rw[qbZ];congr 1;funext x;exact mUZ K r _
theorem t5Z{d}(a)(f)(K:d->Option β):(xY a f).ob K=xY a λx=>(f x).ob K:=by
 unfold xY
 grind[mUZ,qbZ]
theorem nWZ{d}(H)(a)(f)(K:d->Option β):(oE H a f).ob K=oE H a λx H'=>(f x H').ob K:=by
 unfold oE
 grind[qfZ,h8Z,keZ]
theorem gaZ(H)(a)(K:AV->Hp->Option β):xZ H a K=(wC H a).ob λx=>K x.1 x.2:=by
 unfold xZ wC;rw[qoZ,wvZ];congr 1;funext x;rw[nWZ]
 rfl
theorem nkZ(H)(m)(a)(K:AV->Hp->Option β):IC P H m a K=(FY P H m a).ob λx=>K x.1 x.2:=by
 unfold IC FY;split
 .rfl
 .grind[gaZ]
 .rw[gaZ];cases wC H a<;>rfl
 .rw[t5Z];rfl
 .split
  .rename_i f s x;rcases bF H (bZ f) with _|⟨fz,b⟩
   .rfl
   .cases fz
    .cases b
     case fam e s' ms=>
      simp;rw[vEZ];congr 1;funext h;rw[q9Z,lRZ]
      rfl
     all_goals rfl
    .rfl
  .generalize ty P _=q;cases q with
   |none=>rfl
   |some u=>exact vNZ _ _ _ _
  .rename_i es d n;rcases bF H d with _|⟨fz,b⟩
   .rfl
   .cases fz<;>cases b<;>first|rfl|exact v4Z _ _ _ _
  .rfl
def vM:Hp->List Nat->List AV->(List AV->Hp->Option β)->Option β
 |H,_,[],K=>K [] H
 |H,d,a::r,K=>IC P H (d.headD 0) a λx H'=>vM H' d.tail r λl H''=>K (x::l) H''
theorem dwZ:∀(l) (d) (H) (K:List AV->Hp->Option β),vM P H d l K=(AI P H d l).ob λx=>K x.1 x.2
 |[],_,_,_=>rfl
 |a::r,d,H,K=>by
  unfold vM AI;rw[nkZ];cases FY P H (d.headD 0) a with
  |none=>rfl
  |some x=>
   show vM P x.2 d.tail r _=_;rw[dwZ r];show _=((AI P x.2 d.tail r).map _).ob _;cases AI P x.2 d.tail r<;>rfl
def gK(H:Hp):Hp->Hp
 |[]=>H
 |(i,e)::r=>bR (gK H r) i e
def gH:Hp->List Nat->Hp
 |H,[]=>H
 |H,i::r=>gH (bR H i none) r
def uB(H:Hp):List Nat->Bool
 |[]=>true
 |i::r=> !bM H i&&uB H r
def nL:List AV->AV
 |[a]=>a
 |l=>.tup l
def Ty.scal:Ty->Bool
 |.int _|.byte|.bool|.str|.nat=>true
 |.one t=>t.scal
 |.pair a b=>a.scal&&b.scal
 |.arr _ t=>t.scal
 |_=>false
def cZ(fs:List Nat):List Ty->Bool
 |[]=>true
 |t::r=>t.famIn fs&&cZ fs r
def iF:List Ty->Bool
 |[]=>true
 |t::r=>t.scal&&iF r
def vN(e:FnT)(j:List AV)(d:Ann)(H:Hp)(K:AV->Hp->Option β):Option β:=
 vM P H d.md j λB p=>
 bO (uB p d.ids&&kH d.ids&&eqN (bI e.i.hs) (cQ 0 d.sh)&&(!cH 2 d.md||(e.os.all (λo=>iF o.tys)&&Nat.beq d.sh.length 0&&Nat.beq d.ids.length 0))&&(cZ (iO (bI e.i.hs)) e.i.tys&&(e.os.all λo=>cZ (iO (bI o.hs)) o.tys))&&(tT d.ids&&Nat.ble (d.sh.length+d.ids.length) bA))<|
 e.i.rco B p (lH d.sh (cQ 0 d.sh)) λt=>
 (e.spec t).bind λr=>dW.on e.os r λo C=>
  let all:=d.sh++d.ids
  let h:=lH (cQ 0 all) all
  o.embC C λvs H2=>
  bO (kH all&&kH (nF H2)&&nE (nF H2) (mC h))<|
  K (AV.ren (gE h) (nL vs)) (gK (gH p d.sh) (iU H2 (gE h) h))
def AV.fnv? :AV->Option (FuncId×List AV×List AV)
 |.fn f a c=>some (f,a,c)
 |.p .opq (.func (.func f) a c)=>bq (Nat.beq a.size 0&&Nat.beq c.size 0) (some (f,[],[])) none
 |_=>none
def ID(f:FuncId):Tbl->Option FnT
 |[]=>none
 |e::r=>bq (Nat.beq e.f f) (some e) (ID f r)
def KW(T:Tbl)(n:Nat)(f:FuncId):Option FnT:=
 match T[n]? with
 |some e=>bq (Nat.beq e.f f) (some e) (ID f T)
 |none=>none
def isR(o:Oper):Bool:=
 match o.op with
 |.move _|.assign _|.pick _ _ _|.build _ _|.load _ _|.nilCheck _|.binOp _ _ _ _ _|.unOp _ _ _|.makeFunc _ _ _|.slice _ _ _ _ _
 |.fieldAddr _ _ _|.field _ _ _|.indexAddr _ _ _|.index _ _ _|.extract _ _|.lookup _ _ _ _=>true
 |.convert _ d _=>match P.underlying d with
  |some (.slice _)=>false
  |_=>true
 |.call c=>match c.callee with
  |.builtin .len|.builtin .min|.builtin .max|.builtin .cap=>true
  |_=>false
 |_=>false
def evR(o:Oper)(r:Operand->AV)(H:Hp)(K:AV->Option β):Option β:=
 match o.op with
 |.move x|.assign x=>K (r x)
 |.pick c a b=>xW P o.type (r c) (r a) (r b) K
 |.build t C=>uA P t (C.toList.map λx=>(x.1,r x.2)) K
 |.load t a=>sM P t (r a) H K
 |.nilCheck x=>match r x with
  |.own es id i j=>K (.own es id i j)
  |.pt u l i j=>K (.pt u l i j)
  |.fn f a c=>K (.fn f a c)
  |.rp f es k i j=>K (.rp f es k i j)
  |.p (.ptr t) l=>bO (!JF (show List t.den from l)) (K (.pt t l 0 0))
  |_=>none
 |.binOp B t x y u=>AG P B t u (r x) (r y) H K
 |.lookup t x h c=>nJ P t (r x) (r h) c H K
 |.unOp B t x=>JG P B t (r x) K
 |.convert s d x=>jO P s d (r x) H K
 |.makeFunc (.func f) a c=>K (.fn f (a.toList.map r) (c.toList.map r))
 |.slice t x lo hi none=>qM P t (r x) (lo.map r) (hi.map r) H K
 |.slice t x lo (some hi) (some D)=>nI P t (r x) (lo.map r) (r hi) (r D) K
 |.fieldAddr s x f=>iP P s (r x) f K
 |.field s x f=>qL P s (r x) f K
 |.indexAddr t x h=>jY P t (r x) (r h) H K
 |.index t x h=>tW P t (r x) (r h) K
 |.extract x i=>(r x).tup?.ob λl=>l[i]?.ob K
 |.call c=>
  match c.callee with
  |.builtin .len=>match c.args.toList,c.argTypes.toList with
   |[a],[t]=>JE P t H (r a) λn=>K (.i .i64 (n:Int))
   |_,_=>none
  |.builtin .cap=>match c.args.toList,c.argTypes.toList with
   |[a],[t]=>match P.underlying t with
    |some (.slice _)=>match r a with
     |.p .opq (.slice none 0 0)=>K (.i .i64 0)
     |a=>BB H a λn=>TN n λm=>K (.i .i64 m)
    |_=>none
   |_,_=>none
  |.builtin .min=>match P.underlying o.type with
   |some (.int k)=>(DT k (c.args.toList.map r)).ob λl=>match l with
    |x::l=>K (.i k (OP l x))
    |[]=>none
   |_=>none
  |.builtin .max=>match P.underlying o.type with
   |some (.int k)=>(DT k (c.args.toList.map r)).ob λl=>match l with
    |x::l=>K (.i k (OQ l x))
    |[]=>none
   |_=>none
  |_=>none
 |_=>none
def evW(o:Oper)(h:Ann)(r:Operand->AV)(H:Hp)(K:AV->Hp->Option β):Option β:=
 match o.op with
 |.alloc t=>bq (JF h.md) (qK P t (h.ids.headD 0) H K) (tV P t (h.ids.headD 0) H K)
 |.box t x=>bq (JF h.md) (AB P t (r x) (h.ids.headD 0) H K) (BA P t (r x) (h.ids.headD 0) H K)
 |.buildSlice t n j=>gP P t n (j.toList.map λx=>(x.1,r x.2)) (Nat.beq (h.md.headD 0) 1) h.sh.head? (h.ids.headD 0) H K
 |.store t a x=>qJ P t (r a) (r x) H K
 |.convert s d x=>match P.underlying d with
  |some .string=>jO P s d (r x) H λv=>K v H
  |_=>jP P s d (r x) (h.ids.headD 0) H K
 |.makeSlice t l c=>vK P t (r l) (r c) (h.ids.headD 0) H K
 |.makeMap t q=>lG P t (q.map r) h.md (h.ids.headD 0) H K
 |.mapUpdate t m k x|.insert t m k x=>nK P t (r m) (r k) (r x) H K
 |.call c=>
  match c.callee with
  |.builtin .append=>match c.args.toList,c.argTypes.toList with
   |[s,x],[t,u]=>match P.underlying u with
    |some (.int _)=>lF P t (r s) (r x) (h.ids.headD 0) H K
    |some (.slice _)=>lK P t (r s) (r x) (h.ids.headD 0) H K
    |some .string=>lK P t (r s) (r x) (h.ids.headD 0) H K
    |_=>none
   |_,_=>none
  |.builtin .copy=>match c.args.toList,c.argTypes.toList with
   |[d,x],t::_=>vJ P t (r d) (r x) H K
   |_,_=>none
  |.builtin .clear=>match c.args.toList,c.argTypes.toList with
   |[d],[t]=>qN P t (r d) H K
   |_,_=>none
  |.value f=>(r f).fnv?.ob λx=>match KW T h.fn x.1 with
   |some e=>vN P e (x.2.1++c.args.toList.map r++x.2.2) h H K
   |none=>none
  |_=>none
 |_=>none
def ev1(o:Oper)(d:Ann)(st:St)(K:St->Option β):Option β:=
 bq (isR P o) (evR P o st.opnd st.hp λv=>K (st.putO o.dst v)) (evW P T o d st.opnd st.hp λv H=>K {st.putO o.dst v with hp:=H})
def St.skip(st:St)(o:Oper):St:=st.putO o.dst (.tup [])
def evG(all:List Oper)(o:Oper)(st:St)(go skip:St->Option β):Option β:=
 bq (mJ st.nt o.dst) (match o.guard with
  |none=>go st
  |some (j,want)=>((all[j]?).ob (·.dst)).ob fun d=>bO (Nat.blt d 1048576)<|
   match st.tm.get d with
   |.tup []=>skip (st.skip o)
   |a=>a.bool?.ob fun t=>
    bq t ((bq want (go {st with tm:=st.tm.put d (.b true)}) (skip (St.skip {st with tm:=st.tm.put d (.b true)} o)))) ((bq want (skip (St.skip {st with tm:=st.tm.put d (.b false)} o)) (go {st with tm:=st.tm.put d (.b false)})))) none
def yA:List (Oper×Ann)->List Oper->St->(St->Option β)->Option β
 |[],_,st,K=>K st
 |(o,j)::d,all,st,K=>evG all o st (λst=>ev1 P T o (j.at st.hp) st λh=>yA d all h K) (λst=>yA d all st K)
def FZ:List Nat->List Nat
 |[]=>[]
 |i::r=>bq (cH i r) (FZ r) (i::FZ r)
def Ty.fams:Ty->List Nat
 |.ref f t=>bZ f::t.fams
 |.sl t=>t.fams
 |.one t=>t.fams
 |.pair a b=>a.fams++b.fams
 |.arr _ t=>t.fams
 |_=>[]
def KX:AV->List Nat
 |.p t _=>t.fams
 |_=>[]
def IE:List AV->List Nat
 |[]=>[]
 |a::l=>KX a++IE l
def UD:AV->List Nat
 |.agg l=>IE l
 |a=>KX a
def KY:List AV->List Nat
 |[]=>[]
 |a::l=>UD a++KY l
def OR(o:Oper)(r:Operand->AV):List Nat:=
 match o.op with
 |.move _|.fieldAddr _ _ _|.field _ _ _|.extract _ _=>[]
 |.store _ a x=>match r a with
  |.own 0 id _ _=>[id]
  |y=>AV.idsL [y,r x]
 |.call _=>AV.idsL (o.op.operands.toList.map r)++KY (o.op.operands.toList.map r)
 |_=>AV.idsL (o.op.operands.toList.map r)
def sP(o:Oper)(d:Ann)(r:Operand->AV):List Nat:=FZ (d.sh++d.ids++OR o r)
def zQ(H:Hp)(i:Nat):Bool:=Nat.blt i bA&&(match bF H i with|some ⟨true,_⟩=>true|_=>false)
def yB(H:Hp):List Nat->List Nat
 |[]=>[]
 |i::r=>bq (zQ H i) (i::yB H r) (yB H r)
def wF(H:Hp):List Nat->List Nat
 |[]=>[]
 |i::r=>bq (zQ H i) (wF H r) (i::wF H r)
def sQ(H:Hp):List Nat->Hp
 |[]=>[]
 |i::r=>bq (bM H i) ((i,bF H i)::sQ H r) (sQ H r)
def JH:List Nat->List Nat->Bool
 |[],_=>true
 |m::r,l=>(Nat.blt m 4||cH (m+100000) l)&&JH r l
def sR(o:Oper):Bool:=
 match o.op with
 |.alloc _|.box _ _|.buildSlice _ _ _|.makeSlice _ _ _|.makeMap _ _=>true
 |.convert s _ _=>match P.underlying s with|some .string=>true|_=>false
 |.call c=>match c.callee with|.builtin .append=>true|_=>false
 |_=>false
def BG(t:TypeId):Bool:=match P.underlying t with|some (.slice _)=>false|_=>true
def OS(o:Oper):Bool:=
 match o.op with
 |.binOp _ t _ _ _=>BG P t
 |.call c=>match c.callee with
  |.builtin .cap=>false
  |_=>true
 |_=>true
def UE(o:Oper)(d:Ann)(st:St)(K:St->Option β):Option β:=
 bq (isR P o) (bO (OS P o)<|evR P o st.opnd (sQ st.hp (sP o d st.opnd)) λv=>K (st.putO o.dst v))
  (bO ((!sR P o|| !Nat.beq d.ids.length 0)&&JH d.md (sP o d st.opnd))<|evW P T o d st.opnd (sQ st.hp (sP o d st.opnd)) λv H=>
   bO (nE (nF H) (sP o d st.opnd)&&tT (sP o d st.opnd))<|K {st.putO o.dst v with hp:=gK (gK (gH st.hp (sP o d st.opnd)) H) (sQ st.hp (yB st.hp (sP o d st.opnd)))})
structure Fp where
 i:Nat
 fp:List Nat
 wr:List Nat
def uC:List Nat->List Nat->Bool
 |[],_=>false
 |i::r,l=>cH i l||uC r l
def IF(a b:Fp):Bool:=uC a.wr b.fp||uC b.wr a.fp
def DU(d:List (Nat×List Nat)):List Edge->List Nat
 |[]=>[]
 |e::r=>bq (Region.binds .any e) (e.on::((d.lookup e.on).getD []++DU d r)) (DU d r)
def BH:Nat->List Oper->List (Nat×List Nat)->List (Nat×List Nat)
 |_,[],d=>d
 |i,o::r,d=>BH (i+1) r ((i,FZ (DU d o.after.toList))::d)
def BI(cl:List (Nat×List Nat))(a b:Fp):Bool:= !IF a b||cH a.i ((cl.lookup b.i).getD [])
def qP(cl:List (Nat×List Nat)):List Fp->Bool
 |[]=>true
 |b::r=>(r.all λa=>BI cl a b)&&qP cl r
structure Nm where
 i:Nat
 cl:List Nat
 rd:List Nat
 wr:Option Nat
def pG:List Operand->List Nat
 |[]=>[]
 |.tmp t::r=>t::pG r
 |.global g::r=>(1048576+g)::pG r
 |_::r=>pG r
def uD(all:List Oper)(o:Oper):List Nat:=
 match o.guard with
 |some (g,_)=>(match all[g]? with|some x=>(match x.dst with|some d=>[d]|none=>[])|none=>[])
 |none=>[]
def nms(cl:List (Nat×List Nat))(all:List Oper):Nat->List Oper->List Nm
 |_,[]=>[]
 |i,o::r=>⟨i,(cl.lookup i).getD [],uD all o++pG o.op.operands.toList,o.dst⟩::nms cl all (i+1) r
def fJ(l:List Nat):Option Nat->Bool
 |none=>false
 |some d=>cH d l
def KZ:Option Nat->Option Nat->Bool
 |some a,some b=>Nat.beq a b
 |_,_=>false
def vO(a b:Nm):Bool:= !fJ b.rd a.wr&& !fJ a.rd b.wr&& !KZ a.wr b.wr
def IG(a:Nm):List Nm->Bool
 |[]=>true
 |b::r=>(cH a.i b.cl||vO a b)&&IG a r
def AJ:List Nm->Bool
 |[]=>true
 |a::r=>IG a r&&AJ r
def xC(i:Nat):List Edge->Bool
 |[]=>true
 |e::r=>(!Region.binds .any e||Nat.blt e.on i)&&xC i r
def qQ:Nat->List Oper->Bool
 |_,[]=>true
 |i,o::r=>xC i o.after.toList&&(match o.op with|.select _ _=>false|_=>true)&&qQ (i+1) r
def pH:List (Nat×Oper×Ann)->List Oper->St->List Fp->(St->List Fp->Option β)->Option β
 |[],_,st,fs,K=>K st fs
 |(i,o,h)::d,all,st,fs,K=>
  evG all o st (λst=>UE P T o (h.at st.hp) st λj=>pH d all j (⟨i,sP o (h.at st.hp) st.opnd,bq (isR P o) [] (wF st.hp (sP o (h.at st.hp) st.opnd))⟩::fs) K) (λst=>pH d all st fs K)
def pJ{α:Type}:Nat->List α->List (Nat×α)
 |_,[]=>[]
 |k,a::r=>(k,a)::pJ (k+1) r
def Cn.holds(st:St):Cn->Bool
 |.slot k d=>d.fits (st.tm.get k)
 |.cell b j d=>match bF st.hp b with
  |some ⟨_,.vars c⟩=>d.fits (c.getD j .junk)
  |_=>false
 |.key id=>match bF st.hp id with
  |some _=>true
  |none=>false
def oF(d h:Nat)(id:Nat):Option Nat:=bq (Nat.beq id d) (some h) (some id)
def Tr.ren(f:Nat->Option Nat):Tr->Tr
 |.lf=>.lf
 |.nd l v r=>.nd (l.ren f) (AV.ren f v) (r.ren f)
def pK(f:Nat->Option Nat):Hp->Hp
 |[]=>[]
 |(i,some e)::r=>(i,some (e.ren f))::pK f r
 |(i,none)::r=>(i,none)::pK f r
def AK(g:Gh)(st:St):Option St:=
 match g with
 |.renum old new=>match bF st.hp old with
  |some e=>bq (bM st.hp new||Nat.ble bA new||Nat.ble bA old) none (some {st with tm:=st.tm.ren (oF old new),hp:=bR (bR (pK (oF old new) st.hp) old none) new (some (e.ren (oF old new)))})
  |none=>none
 |.pure k=>(wC st.hp (st.tm.get k)).map fun x=>{st with tm:=st.tm.put k x.1,hp:=x.2}
 |.freeze k=>some {st with hp:=DS st.hp (st.tm.get k)}
 |.frzB id=>some {st with hp:=frz st.hp id}
 |.pureCell b o=>match bF st.hp b with
  |some ⟨false,.vars c⟩=>match c[o]? with
   |some a=>match wC st.hp a with
    |some (x,H')=>match bF H' b with
     |some ⟨false,.vars _⟩=>some {st with hp:=bR H' b (some ⟨false,.vars (c.set o x)⟩)}
     |_=>none
    |none=>some st
   |none=>some st
  |_=>some st
 |.ownNil k e id=>match st.tm.get k with
  |.p .opq (.slice none 0 0)=>(ty P e).ob fun u=>bq (bM st.hp id||Nat.ble bA id) none (some {st with tm:=st.tm.put k (.slf u.cells id),hp:=bR st.hp id (some ⟨false,.rows e u []⟩)})
  |_=>some st
 |.ownCell b o e id=>match bF st.hp b with
  |some ⟨false,.vars c⟩=>match c[o]? with
   |some (.p .opq (.slice none 0 0))=>(ty P e).ob fun u=>bq (bM st.hp id||Nat.ble bA id) none (some {st with hp:=bR (bR st.hp b (some ⟨false,.vars (c.set o (.slf u.cells id))⟩)) id (some ⟨false,.rows e u []⟩)})
   |_=>some st
  |_=>some st
 |.newFam f e s=>bq (bM st.hp (bZ f)|| !s.noRef||Nat.beq s.cells 0) none (some {st with hp:=bR st.hp (bZ f) (some ⟨false,.fam e s []⟩)})
 |.mem k f=>match bF st.hp (bZ f) with
  |some ⟨false,.fam _ s _⟩=>(KP st.hp (.ref f s) (st.tm.get k)).map fun x=>{st with tm:=st.tm.put k x.1,hp:=x.2}
  |_=>none
 |.opn k m=>bq (Nat.blt m 10) none ((FY P st.hp m (st.tm.get k)).map fun x=>{st with tm:=st.tm.put k x.1,hp:=x.2})
 |.toRef id t=>match bF st.hp id with
  |some ⟨false,.rows e u l⟩=>dq u t.unref (fun h=>some {st with hp:=bR st.hp id (some ⟨false,.rows e t ((Ty.toL h l).map (dE t))⟩)}) none
  |_=>none
def yC{β}(g:Gh)(st:St)(K:St->Option β):Option β:=
 match g with
 |.pureCell b o=>match bF st.hp b with
  |some ⟨false,.vars c⟩=>match c[o]? with
   |some a=>xZ st.hp a fun x H'=>match bF H' b with
    |some ⟨false,.vars _⟩=>K {st with hp:=bR H' b (some ⟨false,.vars (c.set o x)⟩)}
    |_=>none
   |none=>K st
  |_=>K st
 |.opn k m=>bq (Nat.blt m 10) none (IC P st.hp m (st.tm.get k) fun x H'=>K {st with tm:=st.tm.put k x,hp:=H'})
 |g=>(AK P g st).ob K
end
def Out.retO{β d:Type}:(ret:Bool)->(l:List (Nat×fV))->β->(Out ret l β->Option d)->Option d
 |true,l,b,K=>K (Out.ret l b)
 |false,_,_,_=>none
variable (fu : Nat)
def evS:{β:Type}->AC->St->(St->Option β)->(Nat->St->Option β)->(St->Option β)->Option β
 |_,.skip,st,K,_,_=>K st
 |_,.ret,st,_,_,R=>R st
 |_,.exit i,st,_,X,_=>X i st
 |_,.seq a b,st,K,X,R=>evS a st (λp=>evS b p K X R) X R
 |_,.cond c a b,st,K,X,R=>(st.opnd c).bool?.ob λt=>bq t (evS a st K X R) (evS b st K X R)
 |_,.block i a,st,K,X,R=>evS a st K (λj p=>bq (Nat.beq j i) (K p) (X j p)) R
 |β,.loop sh rt h a,st,K,X,R=>
  st.prj sh λE=>
  (iter fu (λt=>evS (β:=sh.D⊕Out rt h β) a (sh.inj ((st.tm.keep).junk a.wr) st.nt st.n0 t) (λd=>d.prj sh λG=>some (.inl G))
   (λi d=>Out.mk d rt h i λo=>some (.inr o))
   (λd=>(R d).ob λb=>Out.retO rt h b λo=>some (.inr o))) E).bind λo=>
  Out.on ((st.tm.keep).junk a.wr) st.nt st.n0 rt h o X some
 |_,.region _ B C,st,K,_,_=>bq C (bO (qQ 0 (B.map (·.1))&&AJ (nms (BH 0 (B.map (·.1)) []) (B.map (·.1)) 0 (B.map (·.1))))<|pH P T (pJ 0 B) (B.map (·.1)) st [] λp fs=>bO (qP (BH 0 (B.map (·.1)) []) fs)<|K p) (yA P T B (B.map (·.1)) st K)
 |β,.join sh rt h a,st,K,X,R=>
  (evS (β:=Out rt ((0,sh)::h) β) a st (λd=>Out.mk d rt ((0,sh)::h) 0 some)
   (λi d=>Out.mk d rt ((0,sh)::h) (i+1) some)
   (λd=>(R d).ob λb=>Out.retO rt ((0,sh)::h) b some)).bind λo=>
  Out.on ((st.tm.keep).junk a.wr) st.nt st.n0 rt ((0,sh)::h) o (λi d=>match i with|0=>K d|i+1=>X i d) some
 |_,.pre g a,st,K,X,R=>yC P g st λp=>evS a p K X R
 |_,.sel q a b,st,K,X,R=>bq (Cn.holds st q) (evS a st K X R) (evS b st K X R)
 |_,.post g a,st,K,X,R=>evS a st (λp=>yC P g p K) X R
 |_,.round a r,st,K,X,R=>bO r.rd<|evS a st (λp=>evS r p K X R) X R
 |_,.bad _,_,_,_,_=>none
structure FnA where
 ov:Ov
 i:Shp
 os:List Shp
 md:List Nat
def yD:Tr->Nat->List AV->Tr
 |t,_,[]=>t
 |t,k,a::r=>yD (t.put k a) (k+1) r
def uE{β}:List ResultVar->St->(List AV->Option β)->Option β
 |[],_,K=>K []
 |.tmp t::r,st,K=>uE r st λl=>K (st.opnd (.tmp t)::l)
 |.cell a t::r,st,K=>sM P t (st.opnd (.tmp a)) st.hp λv=>uE r st λl=>K (v::l)
def fin(fn:Func)(j:FnA)(st:St):Option (dW j.os):=
 uE P fn.results.toList st λl=>vM P st.hp j.md l λB p=>
  let n:=(kV (bI j.i.hs)).length
  let ids:=reach p vF (oC 0 n++AV.idsL B) []
  let d:=ids.filter λi=> !Nat.blt i n
  let h:=ids.filter λi=>Nat.blt i n
  dW.rco B p (lH (h++d) (h++oC n d.length)++zZ (sJ (nF p))) j.os some
def depth(n:Nat):Nat:=Nat.log2 n+1
def evF(fn:Func)(d:FnA)(t:d.i.D):Option (dW d.os):=
 d.i.embC t λvs H=>
 bO (eqN (bI d.i.hs) (cQ 0 (bI d.i.hs))&& !cH 2 d.md&&(Nat.ble d.i.hs.length bA&&d.os.all λo=>cZ (iO (bI o.hs)) o.tys&&nE (sJ (bI d.i.hs)) (sJ (bI o.hs))))<|
 bO (Nat.ble vs.length 1048576)<|
 fn.body.ob λc=>evS P T fu (build d.ov c) ⟨yD (Tr.full (depth fn.ntmps)) 0 vs,fn.ntmps,(kV (bI d.i.hs)).length,H⟩ (fin P fn d) (λ_ _=>none) (fin P fn d)
end
end
inductive RB where
 |no
 |virt
 |real (g sz n:Nat)
abbrev Rho:=Nat->RB
structure Z where
 w:World
 M:Nat->Prop
 C:Nat->Prop
 ρ:Rho
 D:Nat->Prop
def fE(ρ d:Rho):Prop:=∀id,bC<=id->ρ id≠.no->d id=ρ id
theorem fE.of{ρ d}(h:∀id,ρ id≠.no->d id=ρ id):fE ρ d:=λid _=>h id
theorem fE.eq{ρ d}(h:d=ρ):fE ρ d:=λ_ _ _=>by rw[h]
def Cl(w:World)(M:Nat->Prop)(ρ:Rho):(t:Ty)->t.den->List Value->Prop
 |.int k,n,vs=>vs=[.int k n]
 |.byte,c,vs=>vs=[.int .u8 (c.toNat:Int)]
 |.bool,b,vs=>vs=[.bool b]
 |.str,l,vs=>vs=[.string ⟨⟨l⟩⟩]
 |.opq,v,vs=>vs=[v]/\v.oneCell'=true
 |.nat,_,_=>False
 |.one t,x,vs=>Cl w M ρ t x vs
 |.pair a b,x,vs=>∃u v,vs=u++v/\Cl w M ρ a x.1 u/\Cl w M ρ b x.2 v
 |.arr n t,l,vs=>List.length (α:=t.den) l=n/\∃css:List (List Value),css.length=n/\vs=css.flatten/\∀(i:Nat) (e) u,(show List t.den from l)[i]? =some e->css[i]? =some u->Cl w M ρ t e u
 |.sl t,l,vs=>∃A c,vs=[.slice A (List.length (α:=t.den) l) c]/\List.length (α:=t.den) l<=c/\c<=maxLen/\(A=none->c=0)/\
  (List.length (α:=t.den) l≠0->∃b off,A=some ⟨b,off,none⟩/\¬M b/\b<w.heap.size/\
   ∀(i) (e),(show List t.den from l)[i]? =some e->∃u,Cl w M ρ t e u/\w.rangeAt b (off+i*t.cells) u)
 |.ptr t,l,vs=>(List.length (α:=t.den) l=0/\vs=[.pointer none])\/
  (List.length (α:=t.den) l≠0/\∃b off,vs=[.pointer (some ⟨b,off,none⟩)]/\¬M b/\b<w.heap.size/\
   ∀(i) (e),(show List t.den from l)[i]? =some e->∃u,Cl w M ρ t e u/\w.rangeAt b (off+i*t.cells) u)
 |.ref f t,x,vs=>match x with
  |.inl l=>∃A c,vs=[.slice A (List.length (α:=t.den) l) c]/\List.length (α:=t.den) l<=c/\c<=maxLen/\(A=none->c=0)/\
   (List.length (α:=t.den) l≠0->∃b off,A=some ⟨b,off,none⟩/\¬M b/\b<w.heap.size/\
    ∀(i) (e),(show List t.den from l)[i]? =some e->∃u,Cl w M ρ t e u/\w.rangeAt b (off+i*t.cells) u)
  |.inr none=>vs=[.slice none 0 0]
  |.inr (some (k,off,n))=>(∃A,ρ (enc f k)= .virt/\n=0/\vs=[.slice A 0 0])\/
   ∃g d m c,ρ (enc f k)= .real g d m/\n<=c/\(off+c)*t.cells<=d/\c<=maxLen/\vs=[.slice (some ⟨g,off*t.cells,none⟩) n c]
def cU(w:World)(M:Nat->Prop)(ρ:Rho)(t:Ty)(x:t.den)(v:Value):Prop:=
 ∃vs,Cl w M ρ t x vs/\v=(bif t.isAgg then .agg vs.toArray else vs.headD undef)
def fX(w:World)(M:Nat->Prop)(ρ:Rho)(b off:Nat)(t:Ty)(l:List t.den):Prop:=
 ∀(i) e,l[i]? =some e->∃u,Cl w M ρ t e u/\w.rangeAt b (off+i*t.cells) u
inductive bE (z:Z):AV->Value->Prop
 |p (t:Ty) (x:t.den) (v:Value) (h:cU z.w z.M z.ρ t x v):bE z (.p t x) v
 |pt (t:Ty) (l:List t.den) (i j b off:Nat) (hM:¬z.M b) (hlt:b<z.w.heap.size) (h:fX z.w z.M z.ρ b off t l):bE z (.pt t l i j) (.pointer (some ⟨b,off+i*t.cells+j,none⟩))
 |own (es id i j g sz n:Nat) (h:z.ρ id= .real g sz n):bE z (.own es id i j) (.pointer (some ⟨g,i*es+j,none⟩))
 |rp (f es k i j g sz n:Nat) (h:z.ρ (enc f k)= .real g sz n):bE z (.rp f es k i j) (.pointer (some ⟨g,i*es+j,none⟩))
 |slV (es id off:Nat) (A:Option Addr) (h:z.ρ id= .virt):bE z (.sl es id off 0) (.slice A 0 0)
 |slE (es id off g sz m o:Nat) (h:z.ρ id= .real g sz m):bE z (.sl es id off 0) (.slice (some ⟨g,o,none⟩) 0 0)
 |sl (es id off n g sz m c:Nat) (h:z.ρ id= .real g sz m) (hn:n<=c) (hs:(off+c)*es<=sz) (hm:c<=maxLen):bE z (.sl es id off n) (.slice (some ⟨g,off*es,none⟩) n c)
 |slfV (es id:Nat) (A:Option Addr) (h:z.ρ id= .virt):bE z (.slf es id) (.slice A 0 0)
 |slf (es id g sz n c:Nat) (h:z.ρ id= .real g sz n) (hn:n<=c) (hs:c*es<=sz) (hm:c<=maxLen):bE z (.slf es id) (.slice (some ⟨g,0,none⟩) n c)
 |mp (id g sz n:Nat) (h:z.ρ id= .real g sz n):bE z (.mp id) (.map (some g))
 |fn (f:FuncId) (a c:List AV) (va vc:Array Value) (ha:va.size=a.length) (hc:vc.size=c.length)
  (h1:∀(i:Nat) (x:AV) (v:Value),a[i]? =some x->va[i]? =some v->bE z x v)
  (h2:∀(i:Nat) (x:AV) (v:Value),c[i]? =some x->vc[i]? =some v->bE z x v):bE z (.fn f a c) (.func (.func f) va vc)
 |agg (l:List AV) (cs:Array Value) (hs:cs.size=l.length) (h1:∀v∈cs,v.oneCell'=true)
  (h:∀(i:Nat) (x:AV) (v:Value),l[i]? =some x->cs[i]? =some v->bE z x v):bE z (.agg l) (.agg cs)
 |tup (l:List AV) (vs:Array Value) (hs:vs.size=l.length)
  (h:∀(i:Nat) (x:AV) (v:Value),l[i]? =some x->vs[i]? =some v->bE z x v):bE z (.tup l) (.tuple vs)
 |junk (v:Value):bE z .junk v
def okF(cs:Array Value)(d:Nat×Nat):Prop:=d.1=d.2\/cs.size<=d.1
def okR(t:Ty)(cs:Array Value)(d:Nat×Nat):Prop:=d.1=d.2\/(t= .byte/\cs.size<=d.1)
theorem okR.f{t}{cs}{d}(h:okR t cs d):okF cs d:=h.imp id λh=>h.2
theorem efZ{t}{cs cs'}{d}(h:okR t cs d)(j:cs'.size=cs.size):okR t cs' d:=by simp_all[okR]
theorem okR0{t}(cs):okR t cs (0,0):=.inl rfl
def gV(z:Z)(g h n:Nat):Blk->Prop
 |.vars c=>∃cs e p,z.w.heap[g]? =some (.cells cs e p)/\okF cs p/\cs.size=h/\(c.length=h/\n=h)/\(∀(i:Nat) a v,c[i]? =some a->cs[i]? =some v->bE z a v)/\∀v∈cs,v.oneCell'=true
 |.rows e t l=>∃cs p,z.w.heap[g]? =some (.cells cs e p)/\okR t cs p/\cs.size=h/\l.length=n/\l.length*t.cells<=h/\0<t.cells/\
  (∀(i:Nat) x,l[i]? =some x->∃u,Cl z.w z.M z.ρ t x u/\∀(j:Nat) v,u[j]? =some v->cs[i*t.cells+j]? =some v)
 |.map k v m=>∃es,z.w.heap[g]? =some (.map es m.2)/\es.size=m.1.length/\(∀(i:Nat) x e,m.1[i]? =some x->es[i]? =some e->cU z.w z.M z.ρ k x.1.1 e.key/\cU z.w z.M z.ρ v x.1.2 e.val/\e.born=x.2)/\
  (∀(i j:Nat) x y,m.1[i]? =some x->m.1[j]? =some y->x.2=y.2->i=j)/\(∀(i:Nat) x,m.1[i]? =some x->x.2<m.2)
 |.fmap k l=>∃es d,z.w.heap[g]? =some (.map es d)/\es.size=l.length/\(∀(i:Nat) x e,l[i]? =some x->es[i]? =some e->cU z.w z.M z.ρ k x.1 e.key/\bE z x.2 e.val)
 |.fam _ _ _=>False
def pL:Blk->Prop
 |.rows _ t l=>l=[]/\0<t.cells
 |_=>False
def fC(z:Z)(id:Nat)(e:Ent):Prop:=
 match z.ρ id with
 |.no=>False
 |.virt=>pL e.b
 |.real g d n=>g<z.w.heap.size/\(e.fz=false->z.C g)/\(e.fz=true->¬z.M g)/\gV z g d n e.b
def rt(id:Nat):Nat:=if bC<=id then bA+(id-bC)%16 else id
def pick(k:Nat)(e:Ent):Option Ent:=
 match e.b with
 |.fam e' s d=>match d[k]? with
  |some (st,l)=>if st=0 then none else some ⟨e.fz||Nat.ble 2 st,.rows e' s l⟩
  |none=>none
 |_=>none
def bP(H:Hp)(id:Nat):Option Ent:=
 if bC<=id then(bF H (rt id)).bind (pick ((id-bC)/16)) else if bA<=id then none else bF H id
def Ent.has(k:Nat)(e:Ent):Bool:=
 match e.b with
 |.fam _ _ d=>decide (k<d.length)
 |_=>true
def dX(H:Hp)(id:Nat):Bool:=
 if bC<=id then(match bF H (rt id) with|some e=>e.has ((id-bC)/16)|none=>bM H (rt id)) else if bA<=id then false else bM H id
def famOk(id:Nat)(e:Ent):Prop:=
 match e.b with
 |.fam _ s _=>bA<=id/\id<bC/\s.noRef=true/\0<s.cells/\e.fz=false
 |_=>id<bA
def Ro(id:Nat):Prop:=bC<=id/\(id-bC)%16=15
theorem Ro.rt{id}(h:Ro id):rt id=bA+15:=by unfold Ab.rt;rw[ZAL h.1,h.2]
theorem bPZ{id}(h:id<bA):¬Ro id:=λd=>by
 have h0:bA<bC:=by decide
 have:=d.1;omega
theorem uaZ{f}:nro f=true↔f%16≠15:=by
 unfold nro;rw[ZAl,<-Bool.not_eq_true,Nat.beq_eq]
theorem r5Z{f k}:Ro (enc f k)↔f%16=15:=by
 simp_all[Ro,enc]
structure bH (z:Z) (H:Hp):Prop where
 ent:∀id e,bP H id=some e->fC z id e
 inj:∀id id' e e' g sz n g' sz' n',id≠id'->bP H id=some e->bP H id'=some e'->e.fz=false->e'.fz=false->z.ρ id= .real g sz n->z.ρ id'= .real g' sz' n'->¬(Ro id/\Ro id')->g≠g'
 fresh:∀id,dX H id=false->z.ρ id= .no\/z.D id
 sub:∀g,z.C g->z.M g
 fam:∀id e,bF H id=some e->famOk id e
 key:∀id,bM H id=true->id<bC
 dyn:∀id,bC<=id->bM H (rt id)=true->¬z.D id
 nos:∀id,bA<=id->id<bC->z.ρ id= .no
theorem mjZ{f k}(h:nro f=true):¬Ro (enc f k):=λd=>uaZ.1 h (r5Z.1 d)
structure Nx (z z':Z):Prop where
 os:z'.w.os=z.w.os
 tape:z'.w.tape=z.w.tape/\z.w.drawn<=z'.w.drawn
 output:z'.w.output=z.w.output
 size:z.w.heap.size<=z'.w.heap.size
 block:∀b,b<z.w.heap.size->¬z.C b->z'.w.heap[b]? =z.w.heap[b]?
 subM:∀g,z'.M g->z.M g\/z.w.heap.size<=g
 subC:∀g,z'.C g->z.C g\/z.w.heap.size<=g
 keepM:∀g,g<z.w.heap.size->z.M g->¬z.C g->z'.M g
 ext:∀id,z.ρ id≠.no->z'.ρ id=z.ρ id
 dom:z'.D=z.D
theorem Nx.refl(z):Nx z z:=⟨rfl,⟨rfl,ZAN _⟩,rfl,ZAN _,λ_ _ _=>rfl,λ_ h=>.inl h,λ_ h=>.inl h,λ_ _ h _=>h,λ_ _=>rfl,rfl⟩
theorem Nx.trans{z z' d}(h:Nx z z')(k:Nx z' d):Nx z d:=by
 have D:=h.size;refine⟨k.os.trans h.os,⟨k.tape.1.trans h.tape.1,ZBC h.tape.2 k.tape.2⟩,k.output.trans h.output,ZBC h.size k.size,λb hb j=> ?_,λg hg=> ?_,λg hg=> ?_,λg hg E j=> ?_,λid p=> ?_,k.dom.trans h.dom⟩
 .have B:¬z'.C b:=λhm=>by
   rcases h.subC b hm with h2|h2<;>grind
  rw[k.block b (by omega) B,h.block b hb j]
 .rcases k.subM g hg with h2|h2
  .exact h.subM g h2
  omega
 .rcases k.subC g hg with h2|h2
  .exact h.subC g h2
  omega
 .refine k.keepM g (by omega) (h.keepM g hg E j) λhm=> ?_;rcases h.subC g hm with h2|h2<;>grind
 .have D:=h.ext id p;rw[<-D];exact k.ext id (by simp_all)
theorem bfZ{css:List (List Value)}{n}(h:∀u∈css,u.length=n):css.flatten.length=css.length*n:=by
 induction css<;>grind
theorem biZ{α β:Type}{l:List α}{c:List β}(h:c.length=l.length){i:Nat}{u}(d:c[i]? =some u):∃e,l[i]? =some e:=
 ⟨_,ZAB (by grind)⟩
theorem Cl.len{w}{M}{ρ}:{t:Ty}->{x:t.den}->{vs:List Value}->Cl w M ρ t x vs->vs.length=t.cells
 |.int _,_,_,h|.byte,_,_,h|.bool,_,_,h|.str,_,_,h=>by subst h;rfl
 |.opq,_,_,h=>by obtain⟨rfl,_⟩:=h;rfl
 |.nat,_,_,h=>h.elim
 |.one t,_,_,h=>Cl.len (t:=t) h
 |.pair a b,_,_,h=>by
  obtain⟨u,v,rfl,d,h2⟩:=h;rw[ZAf,Cl.len d,Cl.len h2];rfl
 |.arr n t,l,_,h=>by
  obtain⟨j,css,d,rfl,h2⟩:=h;rw[bfZ,d]
  .rfl
  .intro u p
   let⟨i,hi⟩:=ZAT p
   let⟨e,he⟩:=biZ (l:=((l))) (by rw[d,<-j]) hi
   exact Cl.len (h2 i e u he hi)
 |.sl t,_,_,h=>by obtain⟨A,c,rfl,_⟩:=h;rfl
 |.ptr t,_,_,h=>by rcases h with⟨_,rfl⟩|⟨_,b,off,rfl,_⟩<;>rfl
 |.ref f t,.inl l,_,h=>by obtain⟨A,c,rfl,_⟩:=h;rfl
 |.ref f t,.inr none,_,h=>by subst h;rfl
 |.ref f t,.inr (some (k,off,n)),_,h=>by rcases h with⟨A,_,_,rfl⟩|⟨g,B,m,c,_,_,_,_,rfl⟩<;>rfl
theorem Cl.one{w}{M}{ρ}:{t:Ty}->{x:t.den}->{vs:List Value}->Cl w M ρ t x vs->∀v∈vs,v.oneCell'=true
 |.int _,_,_,h|.byte,_,_,h|.bool,_,_,h|.str,_,_,h=>by subst h;simp[Value.oneCell']
 |.opq,_,_,h=>by obtain⟨rfl,h⟩:=h<;>grind
 |.nat,_,_,h=>h.elim
 |.one t,_,_,h=>Cl.one (t:=t) h
 |.pair a b,_,_,h=>by
  obtain⟨u,v,rfl,d,h2⟩:=h;intro x hx;rcases ZAh.1 hx with hx|hx
  .exact Cl.one d x hx
  .exact Cl.one h2 x hx
 |.arr n t,l,_,h=>by
  obtain⟨j,css,d,rfl,h2⟩:=h;intro x hx
  let⟨u,p,hx⟩:=ZCj.1 hx
  let⟨i,hi⟩:=ZAT p
  let⟨e,he⟩:=biZ (l:=((l))) (by rw[d,<-j]) hi
  exact Cl.one (h2 i e u he hi) x hx
 |.sl t,_,_,h=>by obtain⟨A,c,rfl,_⟩:=h;simp[Value.oneCell']
 |.ptr t,_,_,h=>by rcases h with⟨_,rfl⟩|⟨_,b,off,rfl,_⟩<;>simp[Value.oneCell']
 |.ref f t,.inl l,_,h=>by obtain⟨A,c,rfl,_⟩:=h;simp[Value.oneCell']
 |.ref f t,.inr none,_,h=>by simp[Cl] at h;subst h;simp[Value.oneCell']
 |.ref f t,.inr (some (k,off,n)),_,h=>by rcases h with⟨A,_,_,rfl⟩|⟨g,B,m,c,_,_,_,_,rfl⟩<;>simp[Value.oneCell']
theorem World.rangeAt.same{w w':World}{b o}{vs}(h:w.rangeAt b o vs)(he:w'.heap[b]? =w.heap[b]?):w'.rangeAt b o vs:=λj v d=>by
 rw[World.cell?_of_block he];exact h j v d
theorem Cl.keep{w w'}{M M'}{ρ E}(D:w.heap.size<=w'.heap.size)(hb:∀b,b<w.heap.size->¬M b->w'.heap[b]? =w.heap[b]?)(p:∀g,M' g->M g\/w.heap.size<=g)(B:fE ρ E):
 {t:Ty}->{x:t.den}->{vs:List Value}->Cl w M ρ t x vs->Cl w' M' E t x vs
 |.int _,_,_,h|.byte,_,_,h|.bool,_,_,h|.str,_,_,h|.opq,_,_,h=>h
 |.nat,_,_,h=>h.elim
 |.one t,_,_,h=>Cl.keep D hb p B (t:=t) h
 |.pair a b,_,_,h=>by
  obtain⟨u,v,rfl,d,h2⟩:=h;exact⟨u,v,rfl,Cl.keep D hb p B d,Cl.keep D hb p B h2⟩
 |.arr n t,l,_,h=>by
  obtain⟨N,css,d,rfl,h2⟩:=h;exact⟨N,css,d,rfl,λi e u he O=>Cl.keep D hb p B (h2 i e u he O)⟩
 |.sl t,l,_,h=>by
  obtain⟨A,c,rfl,d,h2,G,h4⟩:=h;refine⟨A,c,rfl,d,h2,G,λh0=> ?_⟩
  let⟨b,off,h5,C,I,K⟩:=h4 h0
  refine⟨b,off,h5,λhm=> ?_,by omega,λi e he=> ?_⟩
  .rcases p b hm with h|h
   .exact C h
   .omega
  .let⟨u,h9,j⟩:=K i e he
   exact⟨u,Cl.keep D hb p B h9,World.rangeAt.same j (hb b I C)⟩
 |.ptr t,l,_,h=>by
  rcases h with h|⟨d,b,off,rfl,C,I,K⟩
  .exact .inl h
  refine .inr ⟨d,b,off,rfl,λhm=> ?_,by omega,λi e he=> ?_⟩
  .rcases p b hm with h|h
   .exact C h
   .omega
  .let⟨u,h9,j⟩:=K i e he
   exact⟨u,Cl.keep D hb p B h9,World.rangeAt.same j (hb b I C)⟩
 |.ref f t,.inl l,_,h=>by
  obtain⟨A,c,rfl,d,h2,G,h4⟩:=h;refine⟨A,c,rfl,d,h2,G,λh0=> ?_⟩
  let⟨b,off,h5,C,I,K⟩:=h4 h0
  refine⟨b,off,h5,λhm=> ?_,by omega,λi e he=> ?_⟩
  .rcases p b hm with h|h
   .exact C h
   .omega
  .let⟨u,h9,j⟩:=K i e he
   exact⟨u,Cl.keep D hb p B h9,World.rangeAt.same j (hb b I C)⟩
 |.ref f t,.inr none,_,h=>h
 |.ref f t,.inr (some (k,off,n)),_,h=>by
  have L:bC<=enc f k:=ZCT _ _;rcases h with⟨A,d,h2,G⟩|⟨g,R,m,c,d,h2⟩
  .exact .inl ⟨A,by rw[B _ L (by simp_all),d],h2,G⟩
  .exact .inr ⟨g,R,m,c,by rw[B _ L (by simp_all),d],h2⟩
theorem fX.keep{w w'}{M M'}{ρ d}(B:w.heap.size<=w'.heap.size)(hb:∀b,b<w.heap.size->¬M b->w'.heap[b]? =w.heap[b]?)(C:∀g,M' g->M g\/w.heap.size<=g)(D:fE ρ d)
 {b off}{t}{l}(h:fX w M ρ b off t l)(j:b<w.heap.size)(E:¬M b):fX w' M' d b off t l:=λi e he=>by
 let⟨u,h9,p⟩:=h i e he
 exact⟨u,Cl.keep B hb C D h9,World.rangeAt.same p (hb b j E)⟩
theorem cU.keep{w w'}{M M'}{ρ d}(j:w.heap.size<=w'.heap.size)(hb:∀b,b<w.heap.size->¬M b->w'.heap[b]? =w.heap[b]?)(p:∀g,M' g->M g\/w.heap.size<=g)(B:fE ρ d)
 {t}{x}{v}(h:cU w M ρ t x v):cU w' M' d t x v:=by
 let⟨vs,C,h2⟩:=h
 exact⟨vs,Cl.keep j hb p B C,h2⟩
theorem Cl.dyn{w}{M}{ρ d}(j:fE ρ d){t}{x}{vs}(h:Cl w M ρ t x vs):Cl w M d t x vs:=h.keep (ZAN _) (λ_ _ _=>rfl) (λ_ h=>.inl h) j
theorem cU.dyn{w}{M}{ρ d}(j:fE ρ d){t}{x}{v}(h:cU w M ρ t x v):cU w M d t x v:=h.keep (ZAN _) (λ_ _ _=>rfl) (λ_ h=>.inl h) j
def vP(fs:List Nat)(ρ d:Rho):Prop:=∀f k,cH (f%16) fs=true->ρ (enc f k)≠.no->d (enc f k)=ρ (enc f k)
theorem Cl.on{w}{M}{ρ C}{fs}(B:vP fs ρ C):{t:Ty}->{x:t.den}->{vs:List Value}->t.famIn fs=true->Cl w M ρ t x vs->Cl w M C t x vs
 |.int _,_,_,_,h|.byte,_,_,_,h|.bool,_,_,_,h|.str,_,_,_,h|.opq,_,_,_,h=>h
 |.nat,_,_,_,h=>h.elim
 |.one t,_,_,d,h=>Cl.on B (t:=t) d h
 |.pair a b,_,_,d,h=>by
  obtain⟨u,v,rfl,j,h2⟩:=h;simp[Ty.famIn] at d;exact⟨u,v,rfl,Cl.on B d.1 j,Cl.on B d.2 h2⟩
 |.arr n t,l,_,d,h=>by
  obtain⟨K,css,j,rfl,h2⟩:=h;exact⟨K,css,j,rfl,λi e u he L=>Cl.on B d (h2 i e u he L)⟩
 |.sl t,l,_,d,h=>by
  obtain⟨A,c,rfl,j,h2,D,h4⟩:=h;refine⟨A,c,rfl,j,h2,D,λh0=> ?_⟩
  let⟨b,off,h5,E,G,I⟩:=h4 h0
  refine⟨b,off,h5,E,G,λi e he=> ?_⟩
  let⟨u,h9,p⟩:=I i e he
  exact⟨u,Cl.on B d h9,p⟩
 |.ptr t,l,_,d,h=>by
  rcases h with h|⟨j,b,off,rfl,E,G,I⟩
  .exact .inl h
  refine .inr ⟨j,b,off,rfl,E,G,λi e he=> ?_⟩
  let⟨u,h9,p⟩:=I i e he
  exact⟨u,Cl.on B d h9,p⟩
 |.ref f t,.inl l,_,d,h=>by
  simp[Ty.famIn] at d;obtain⟨A,c,rfl,j,h2,D,h4⟩:=h;refine⟨A,c,rfl,j,h2,D,λh0=> ?_⟩
  let⟨b,off,h5,E,G,I⟩:=h4 h0
  refine⟨b,off,h5,E,G,λi e he=> ?_⟩
  let⟨u,h9,p⟩:=I i e he
  exact⟨u,Cl.on B d.2 h9,p⟩
 |.ref f t,.inr none,_,_,h=>h
 |.ref f t,.inr (some (k,off,n)),_,d,h=>by
  simp[Ty.famIn] at d;rcases h with⟨A,j,h2,D⟩|⟨g,N,m,c,j,h2⟩
  .exact .inl ⟨A,by rw[B f k d.1 (by simp_all),j],h2,D⟩
  .exact .inr ⟨g,N,m,c,by rw[B f k d.1 (by simp_all),j],h2⟩
def Agr(ρ d:Rho)(P:List Nat->Bool):Prop:=fE ρ d\/∃fs,vP fs ρ d/\P fs=true
theorem Agr.inl{ρ d}{P}(h:fE ρ d):Agr ρ d P:=Or.inl h
theorem Agr.on{ρ d}{P}{fs}(h:vP fs ρ d)(hp:P fs=true):Agr ρ d P:=Or.inr ⟨fs,h,hp⟩
theorem Agr.mono{ρ d}{P Q}(h:Agr ρ d P)(j:∀fs,P fs=true->Q fs=true):Agr ρ d Q:=by
 rcases h with h|⟨fs,p,h2⟩
 .exact .inl h
 .exact .on p (j fs h2)
theorem Cl.to{w}{M}{ρ d}{t}(j:Agr ρ d λfs=>t.famIn fs){x}{vs}(h:Cl w M ρ t x vs):Cl w M d t x vs:=by
 rcases j with j|⟨fs,p,h2⟩
 .exact h.dyn j
 .exact h.on p h2
theorem cU.to{w}{M}{ρ d}{t}(j:Agr ρ d λfs=>t.famIn fs){x}{v}(h:cU w M ρ t x v):cU w M d t x v:=by
 let⟨vs,p,h2⟩:=h
 exact⟨vs,p.to j,h2⟩
theorem fX.to{w}{M}{ρ d}{t}(j:Agr ρ d λfs=>t.famIn fs){b off}{l}(h:fX w M ρ b off t l):fX w M d b off t l:=λi e he=>by
 let⟨u,p,h2⟩:=h i e he
 exact⟨u,p.to j,h2⟩
mutual
def AV.famInT(fs:List Nat):AV->Bool
 |.p t _=>t.famIn fs
 |.pt t _ _ _=>t.famIn fs
 |.rp f _ _ _ _=>cH (f%16) fs
 |.fn _ a c=>AV.famInTL fs a&&AV.famInTL fs c
 |.agg l=>AV.famInTL fs l
 |.tup l=>AV.famInTL fs l
 |_=>true
def AV.famInTL(fs:List Nat):List AV->Bool
 |[]=>true
 |a::l=>a.famInT fs&&AV.famInTL fs l
end
theorem boZ{fs}:∀{l} {a},AV.famInTL fs l=true->a∈l->a.famInT fs=true
 |[],_,_,h=>by cases h
 |x::l,a,d,h=>by
  simp[AV.famInTL] at d;rcases ZAj.1 h with rfl|h
  .exact d.1
  .exact boZ d.2 h
def Blk.famInT(fs:List Nat):Blk->Bool
 |.vars c=>AV.famInTL fs c
 |.rows _ t _=>t.famIn fs
 |.map k v _=>k.famIn fs&&v.famIn fs
 |.fmap k l=>k.famIn fs&&l.all λx=>x.2.famInT fs
 |.fam _ s _=>s.famIn fs
structure Kp (z z':Z):Prop where
 size:z.w.heap.size<=z'.w.heap.size
 block:∀b,b<z.w.heap.size->¬z.M b->z'.w.heap[b]? =z.w.heap[b]?
 subM:∀g,z'.M g->z.M g\/z.w.heap.size<=g
 ext:∀id,z.ρ id≠.no->z'.ρ id=z.ρ id
theorem Nx.kp{z z'}(h:Nx z z')(d:∀g,z.C g->z.M g):Kp z z':=⟨h.size,λb hb j=>h.block b hb λp=>j (d b p),h.subM,h.ext⟩
theorem Kp.real{z z'}(k:Kp z z'){id g d n}(h:z.ρ id= .real g d n):z'.ρ id= .real g d n:=by rw[k.ext id (by simp_all),h]
theorem Kp.virt{z z'}(k:Kp z z'){id}(h:z.ρ id= .virt):z'.ρ id= .virt:=by rw[k.ext id (by simp_all),h]
theorem Cl.kp{z z'}(k:Kp z z'){t}{x}{vs}(h:Cl z.w z.M z.ρ t x vs):Cl z'.w z'.M z'.ρ t x vs:=h.keep k.size k.block k.subM (.of k.ext)
theorem cU.kp{z z'}(k:Kp z z'){t}{x}{v}(h:cU z.w z.M z.ρ t x v):cU z'.w z'.M z'.ρ t x v:=h.keep k.size k.block k.subM (.of k.ext)
theorem bE.kp{z z'}{a}{v}(k:Kp z z')(h:bE z a v):bE z' a v:=by
 induction h with
 |p t x v h=>exact .p t x v (h.kp k)
 |pt t l i j b off L C h=>
  refine .pt t l i j b off (λhm=> ?_) (Nat.lt_of_lt_of_le C k.size) (h.keep k.size k.block k.subM (.of k.ext) C L);rcases k.subM b hm with h|h<;>grind
 |own es id i j g d n h=>exact .own es id i j g d n (k.real h)
 |rp f es k' i j g d n h=>exact .rp f es k' i j g d n (k.real h)
 |slV es id off A h=>exact .slV es id off A (k.virt h)
 |slE es id off g d m o h=>exact .slE es id off g d m o (k.real h)
 |sl es id off n g d m c h D B hm=>exact .sl es id off n g d m c (k.real h) D B hm
 |slfV es id A h=>exact .slfV es id A (k.virt h)
 |slf es id g d n c h D B hm=>exact .slf es id g d n c (k.real h) D B hm
 |mp id g d n h=>exact .mp id g d n (k.real h)
 |fn f a c N O R T K h2 E G=>exact .fn f a c N O R T E G
 |agg l cs B K h I=>exact .agg l cs B K I
 |tup l vs B h I=>exact .tup l vs B I
 |junk v=>exact .junk v
theorem gV.kp{z z'}(k:Kp z z'){g L n}{b}(h:gV z g L n b)(hg:z'.w.heap[g]? =z.w.heap[g]?):gV z' g L n b:=by
 cases b with
 |vars c=>
  let⟨cs,e,G,j,p,d,E,I,K⟩:=h
  exact⟨cs,e,G,hg.trans j,p,d,E,λi a v x y=>(I i a v x y).kp k,K⟩
 |rows e t l=>
  let⟨cs,G,j,p,d,E,I,K,N⟩:=h
  refine⟨cs,G,hg.trans j,p,d,E,I,K,λi x hx=> ?_⟩
  let⟨u,O,R⟩:=N i x hx
  exact⟨u,O.kp k,R⟩
 |map T U m=>
  let⟨es,j,p,d,E⟩:=h
  exact⟨es,hg.trans j,p,λi x e C D=>⟨(d i x e C D).1.kp k,(d i x e C D).2.1.kp k,(d i x e C D).2.2⟩,E⟩
 |fmap T l=>
  let⟨es,B,j,p,d⟩:=h
  exact⟨es,B,hg.trans j,p,λi x e C D=>⟨(d i x e C D).1.kp k,(d i x e C D).2.kp k⟩⟩
 |fam e s V=>exact h.elim
theorem fC.kp{z z'}(k:Kp z z'){id}{e}(h:fC z id e)
 (hb:∀g j n,z.ρ id= .real g j n->z'.w.heap[g]? =z.w.heap[g]? /\(z.C g->z'.C g)):fC z' id e:=by
 unfold fC at*;cases d:z.ρ id with
 |no=>simp_all
 |virt=>rw[k.virt d];simp_all
 |real g j n=>
  rw[k.real d];rw[d] at h
  let⟨B,h2,E,h4⟩:=h
  let⟨hg,D⟩:=hb g j n d
  refine⟨Nat.lt_of_lt_of_le B k.size,λp=>D (h2 p),λp hm=> ?_,h4.kp k hg⟩;rcases k.subM g hm with h|h<;>grind
theorem afZ(a b:Nat):(Nat.beq a b=true)↔a=b:=⟨ZCC,λh=>by simp_all⟩
theorem ahZ{a b:Nat}(h:a≠b):Nat.beq a b=false:=by
 grind[afZ]
theorem apZ(H)(id)(e)(k):bF (bR H id e) k=if k=id then e else bF H k:=by
 induction H with
 |nil=>by_cases h:k=id
       .subst h;simp[bR,bF]
       simp_all[bR,bF,ahZ,ZBk]
 |cons x H d=>
  let⟨i,y⟩:=x
  by_cases hi:i=id
  .subst hi;simp[bR,bF];by_cases h:k=i
   .subst h;simp
   simp_all[ahZ,ZBk]
  .simp[bR,ahZ hi,bF]
   grind[afZ,ahZ]
theorem atZ(H)(id)(e)(k):bM (bR H id e) k=(decide (k=id)||bM H k):=by
 induction H with
 |nil=>by_cases h:k=id
       .subst h;simp[bR,bM]
       simp_all[bR,bM,ahZ,ZBk]
 |cons x H d=>
  let⟨i,y⟩:=x
  by_cases hi:i=id
  .subst hi;simp[bR,bM]
   simp_all
  .simp[bR,ahZ hi,bM]
   grind
theorem aiZ{H}{id}{e}(h:bF H id=some e):bM H id=true:=by
 induction H with
 |nil=>cases h
 |cons x H d=>
  simp only[bF,bM] at*
  grind
@[simp] theorem bq_true{α}(x y:α):bq true x y=x:=rfl
@[simp] theorem bq_false{α}(x y:α):bq false x y=y:=rfl
theorem aRZ{β}{t u}{K}{E}{r:β}(h:dq t u K E=some r):(∃e,K e=some r)\/E=some r:=by
 unfold dq at h;split at h<;>grind
theorem aeZ{β}{b}{K}{r:β}:bO b K=some r↔b=true/\K=some r:=by cases b<;>simp[bO]
theorem agZ{α β}{x}{f:α->Option β}{r}:x.ob f=some r↔∃a,x=some a/\f a=some r:=by cases x<;>simp[Option.ob]
section
variable {z : Z} {H : Hp}
theorem eQZ:bA+16=bC:=by simp[bA,bC]
theorem beZ{id}(h:id<bC):rt id=id:=ZAJ (ZBR.2 h)
theorem bFZ{id}(h:bC<=id):bA<=rt id/\rt id<bC:=by
 unfold rt;rw[ZAL h];have h2:=eQZ;omega
theorem dXZ(f k):rt (enc f k)=bZ f:=by
 unfold rt;rw[ZAL (show bC<=enc f k from ZCT _ _)];have h:(enc f k-bC)%16=f%16:=by unfold enc;omega
 rw[h]
 rfl
theorem o2Z(f k):(enc f k-bC)/16=k:=by
 grind[enc,bC]
theorem vAZ{id}(h:bC<=id):∃f k,f<16/\id=enc f k:=by
 refine⟨(id-bC)%16,(id-bC)/16,ZCV _ (by omega),?_⟩
 grind[enc]
theorem jiZ{f d k k'}(h:enc f k=enc d k'):f%16=d%16/\k=k':=by
 grind[enc]
theorem cjZ(f k):bC<=enc f k:=ZCT _ _
theorem bTZ(f):bA<=bZ f/\bZ f<bC:=by
 have h2:=eQZ;unfold bZ;omega
theorem arZ{H}{id}(h:id<bA):bP H id=bF H id:=by
 unfold bP;rw[ZAJ (ZBR.2 (Nat.lt_trans h (show bA<bC by decide))),ZAJ (ZBR.2 h)]
theorem aEZ{H}{id}(h:id<bA):dX H id=bM H id:=by
 unfold dX;rw[ZAJ (ZBR.2 (Nat.lt_trans h (show bA<bC by decide))),ZAJ (ZBR.2 h)]
theorem a9Z{H}{id}(h:bC<=id):bP H id=(bF H (rt id)).bind (pick ((id-bC)/16)):=ZAL h
theorem azZ{H}{id}(h:bC<=id):dX H id=(match bF H (rt id) with|some e=>e.has ((id-bC)/16)|none=>bM H (rt id)):=ZAL h
theorem cLZ(H)(f k):bP H (enc f k)=(bF H (bZ f)).bind (pick k):=by simp_all[a9Z,cjZ,dXZ,o2Z]
theorem cuZ{H H'}{id}(h:bF H' (rt id)=bF H (rt id)):bP H' id=bP H id:=by
 by_cases d:bC<=id
 .rw[a9Z d,a9Z d,h]
 simp_all[bP,beZ]
theorem d8Z{H H'}{id}(h:bF H' (rt id)=bF H (rt id))(hk:bM H' (rt id)=bM H (rt id)):dX H' id=dX H id:=by
 by_cases d:bC<=id
 .rw[azZ d,azZ d,h,hk]
 simp_all[dX,beZ]
theorem a8Z{id}(d:id<bA)(H)(e)(k):bP (bR H id e) k=if k=id then e else bP H k:=by
 by_cases h:k=id
 .simp_all[arZ,apZ]
 .rw[ZAJ h];refine cuZ ?_;rw[apZ]
  grind[bFZ,beZ,ZBR]
theorem bwZ{id}(p:id<bA)(H)(e)(k):dX (bR H id e) k=(decide (k=id)||dX H k):=by
 by_cases h:k=id
 .simp_all[aEZ,atZ]
 .have d:rt k≠id:=by
   intro e;by_cases j:bC<=k
   .have:=(bFZ j).1;omega
   .exact h (by rw[<-beZ (ZBR.1 j)];exact e)
  rw[d8Z (H:=H) (by rw[apZ,ZAJ d]) (by rw[atZ];simp[d])]
  grind
theorem bH.low(d:bH z H){id}{e}(h:bF H id=some e)(j:z.ρ id≠.no):id<bA:=by
 have p:=d.key _ (aiZ h);rcases ZB1 id bA with h2|h2
 .omega
 .exact absurd (d.nos id h2 p) j
theorem bH.x(d:bH z H){id}{e}(h:bF H id=some e)(j:z.ρ id≠.no):bP H id=some e:=by
 rw[arZ (d.low h j)];exact h
theorem aSZ{r:RB}{g d n}(h:r= .real g d n):r≠.no:=by simp_all
theorem rZZ{r:RB}(h:r= .virt):r≠.no:=by simp_all
theorem bH.realX(j:bH z H){id}{e}(h:bP H id=some e){g d n}(p:z.ρ id= .real g d n):
 g<z.w.heap.size/\(e.fz=false->z.C g)/\(e.fz=true->¬z.M g)/\gV z g d n e.b:=by
 have:=j.ent _ _ h
 simp_all[fC]
theorem bH.real(j:bH z H){id}{e}(h:bF H id=some e){g p n}(d:z.ρ id= .real g p n):
 g<z.w.heap.size/\(e.fz=false->z.C g)/\(e.fz=true->¬z.M g)/\gV z g p n e.b:=j.realX (j.x h (aSZ d)) d
theorem bH.virt(j:bH z H){id}{e}(h:bF H id=some e)(d:z.ρ id= .virt):pL e.b:=by
 have:=j.ent _ _ (j.x h (rZZ d))
 simp_all[fC]
theorem bH.ne(C:bH z H){id d}{e e'}{g E n D p n'}(hi:id≠d)(h:bP H id=some e)(G:bP H d=some e')(I:e'.fz=false)(B:z.ρ id= .real g E n)(j:z.ρ d= .real D p n')(K:¬(Ro id/\Ro d)):g≠D:=by
 cases he:e.fz
 .exact C.inj id d e e' g E n D p n' hi h G he I B j K
 .rintro rfl;exact(C.realX h B).2.2.1 he (C.sub _ ((C.realX G j).2.1 I))
theorem gV.famOk{g j n id}{b}{fz}(h:gV z g j n b)(d:id<bA):famOk id ⟨fz,b⟩:=by
 cases b with
 |fam e s p=>exact h.elim
 |_=>exact d
theorem pL.famOk{id}{b}{fz}(h:pL b)(d:id<bA):famOk id ⟨fz,b⟩:=by
 cases b with
 |fam e s j=>exact h.elim
 |_=>exact d
theorem famOk.other{id}{e}(h:Ab.famOk id e)(j:id<bA)(id')(d:id'<bA)(fz):Ab.famOk id' ⟨fz,e.b⟩:=by
 let⟨p,b⟩:=e
 cases b with
 |fam e s B=>have:=h.1;omega
 |_=>exact d
theorem bH.side{z':Z}{id}{e}(d:bH z H)(C:id<bA)(G:∀x,e=some x->Ab.famOk id x)(E:z'.D=z.D)(j:∀i,bA<=i->i<bC->z'.ρ i=z.ρ i):
 (∀i x,bF (bR H id e) i=some x->Ab.famOk i x)/\(∀i,bM (bR H id e) i=true->i<bC)/\(∀i,bC<=i->bM (bR H id e) (rt i)=true->¬z'.D i)/\∀i,bA<=i->i<bC->z'.ρ i= .no:=by
 have h0:bA<bC:=by decide
 refine⟨λi x h=> ?_,λi h=> ?_,λi B h=> ?_,λi p h2=>by rw[j i p h2];exact d.nos i p h2⟩
 .rw[apZ] at h;by_cases hi:i=id
  .simp_all
  .rw[ZAJ hi] at h;exact d.fam i x h
 .rw[atZ] at h;simp[ZAq] at h;rcases h with rfl|h
  .omega
  .exact d.key i h
 .rw[atZ] at h;have p:=(bFZ B).1;have:rt i≠id:=by omega
  simp[this,Bool.false_or] at h;rw[E];exact d.dyn i B h
structure Upd (H:Hp) (id:Nat) (b:Blk) (H':Hp):Prop where
 X:∀i,bP H' i=if i=id then some ⟨false,b⟩ else bP H i
 K:∀i,dX H' i=false->dX H i=false
 fam:∀i x,bF H' i=some x->(bF H i=some x\/Ab.famOk i x)
 key:∀i,bM H' i=true->bM H i=true
theorem Upd.stat{id}{j b}(d:id<bA)(hg:bF H id=some ⟨false,j⟩)(p:Ab.famOk id ⟨false,b⟩):Upd H id b (bR H id (some ⟨false,b⟩)):=by
 refine⟨λi=>a8Z d _ _ i,λi hi=> ?_,λi x h=> ?_,λi h=> ?_⟩
 .simp_all[bwZ]
 .rw[apZ] at h
  grind
 .rw[atZ] at h
  grind[aiZ]
theorem iWZ{id}(h:bC<=id){f}(d:rt id=bZ f):∃k,id=enc f k:=by
 obtain⟨j,k,p,rfl⟩:=vAZ h;rw[dXZ] at d;have:=by
  unfold bZ at d;omega
 exact⟨k,by simp_all[enc]⟩
theorem bMZ(H)(f)(e)(i):(∀k,bP (bR H (bZ f) e) (enc f k)=e.bind (pick k))/\((∀k,i≠enc f k)->bP (bR H (bZ f) e) i=bP H i):=by
 refine⟨λk=> ?_,λh=> ?_⟩
 .rw[cLZ,apZ,ZAL rfl]
 .by_cases d:bC<=i
  .refine cuZ ?_;rw[apZ]
   grind[iWZ]
  .unfold bP;rw[ZAJ d];split
   .rfl
   .rw[apZ]
    grind[bTZ]
theorem ciZ(H)(f)(e)(i):(∀k,dX (bR H (bZ f) (some e)) (enc f k)=e.has k)/\((∀k,i≠enc f k)->dX (bR H (bZ f) (some e)) i=dX H i):=by
 refine⟨λk=> ?_,λh=> ?_⟩
 .rw[azZ (cjZ f k),dXZ,o2Z,apZ,ZAL rfl]
 .by_cases j:bC<=i
  .have d:rt i≠bZ f:=λp=>by
    grind[iWZ]
   exact d8Z (by rw[apZ,ZAJ d]) (by simp_all[atZ])
  .unfold dX
   grind[bTZ,atZ]
theorem hbZ{f k}{fz}{e}{s}{d}{m}(hg:bF H (bZ f)=some ⟨fz,.fam e s d⟩)(hm:d[k]? =some m)(h0:m.1≠0):
 bP H (enc f k)=some ⟨fz||Nat.ble 2 m.1,.rows e s m.2⟩:=by
 simp_all[cLZ,pick]
theorem Upd.mem{f k}{e}{s}{d}{m}(hg:bF H (bZ f)=some ⟨false,.fam e s d⟩)(B:Ab.famOk (bZ f) ⟨false,.fam e s d⟩)(hm:d[k]? =some m)(l'):
 Upd H (enc f k) (.rows e s l') (bR H (bZ f) (some ⟨false,.fam e s (d.set k (1,l'))⟩)):=by
 have j:=(ZAC.1 hm).1;refine⟨λi=> ?_,λi hi=> ?_,λi x h=> ?_,λi h=> ?_⟩
 .by_cases hi:∃k',i=enc f k'
  .obtain⟨k',rfl⟩:=hi;rw[(bMZ H f _ 0).1 k'];by_cases hk:k'=k
   .subst hk;rw[ZAL rfl];simp[pick];rw[ZAR j]
    rfl
   .rw[ZAJ λh=>hk (jiZ h).2,cLZ,hg];simp[pick];rw[ZAX (ZBk hk)]
  simp_all[bMZ]
 .by_cases p:∃k',i=enc f k'
  .obtain⟨k',rfl⟩:=p;rw[(ciZ H f _ 0).1 k'] at hi;rw[azZ (cjZ f k'),dXZ,o2Z,hg];simpa[Ent.has] using hi
  simp_all[ciZ]
 .rw[apZ] at h;by_cases hi:i=bZ f
  .rw[ZAL hi] at h;cases h;rw[hi];exact .inr B
  simp_all
 .rw[atZ] at h;simp[ZAq] at h
  grind[aiZ]
theorem bH.writeX{id g L n}{b0 b}{w'}{H'}(d:bH z H)(hg:bP H id=some ⟨false,b0⟩)(p:z.ρ id= .real g L n)
 (N:w'.os=z.w.os)(B:w'.tape=z.w.tape/\z.w.drawn<=w'.drawn)(D:w'.output=z.w.output)(E:w'.heap.size=z.w.heap.size)(G:∀b,b≠g->w'.heap[b]? =z.w.heap[b]?)
 (hb:Kp z {z with w:=w'}->gV {z with w:=w'} g L n b)(C:Upd H id b H')(hr:¬Ro id):bH {z with w:=w'} H'/\Nx z {z with w:=w'}:=by
 have U:=(d.realX hg p).2.1 rfl;have V:Nx z {z with w:=w'}:=⟨N,B,D,Nat.le_of_eq E.symm,λb _ hb=>G b (λh=>hb (h▸U)),λ_ h=>.inl h,λ_ h=>.inl h,λ_ _ h _=>h,λ_ _=>rfl,rfl⟩;have hk:=V.kp d.sub;refine⟨⟨λi e hi=> ?_,λi i' e e' a sa na a' aa ab O W h2 m1 m2 h3 h4=> ?_,λi hi=>d.fresh i (C.K i hi),d.sub,λi x h=>(C.fam i x h).elim (d.fam i x) λh=>h,λi h=>d.key i (C.key i h),λi hd h=>d.dyn i hd (C.key _ h),d.nos⟩,V⟩
 .rw[C.X] at hi;by_cases h:i=id
  .subst h;rw[ZAL rfl] at hi;injection hi with hi;subst hi;unfold fC;show match z.ρ i with|.no=>False|.virt=>pL b|.real g L n=>_
   rw[p];exact⟨by show g<w'.heap.size;rw[E];exact(d.realX hg p).1,λ_=>U,(λh=>by cases h),hb hk⟩
  .rw[ZAJ h] at hi;refine(d.ent _ _ hi).kp hk λa sa na ha=>⟨G a (λR=> ?_),λh=>h⟩;subst R;exact d.ne h hi hg rfl ha p (λh=>hr h.2) rfl
 .rw[C.X] at W h2;have q:∀j T,(if j=id then some (⟨false,b⟩:Ent) else bP H j)=some T->T.fz=false->∃I,bP H j=some I/\I.fz=false:=λj T Y hf=>by
   by_cases h:j=id
   .subst h;exact⟨_,hg,rfl⟩
   .rw[ZAJ h] at Y;exact⟨_,Y,hf⟩
  obtain⟨e1,q1,f1⟩:=q _ _ W m1;obtain⟨e2,q2,f2⟩:=q _ _ h2 m2;exact d.inj i i' _ _ _ _ _ _ _ _ O q1 q2 f1 f2 h3 h4
theorem bH.write{id g I n}{K b}{w'}(C:bH z H)(hg:bF H id=some ⟨false,K⟩)(j:z.ρ id= .real g I n)
 (D:w'.os=z.w.os)(d:w'.tape=z.w.tape/\z.w.drawn<=w'.drawn)(p:w'.output=z.w.output)(E:w'.heap.size=z.w.heap.size)(G:∀b,b≠g->w'.heap[b]? =z.w.heap[b]?)
 (hb:Kp z {z with w:=w'}->gV {z with w:=w'} g I n b):bH {z with w:=w'} (bR H id (some ⟨false,b⟩))/\Nx z {z with w:=w'}:=by
 have L:=(C.real hg j).2.1 rfl;have B:=C.low hg (aSZ j);have N:Nx z {z with w:=w'}:=⟨D,d,p,Nat.le_of_eq E.symm,λb _ hb=>G b (λh=>hb (h▸L)),λ_ h=>.inl h,λ_ h=>.inl h,λ_ _ h _=>h,λ_ _=>rfl,rfl⟩;exact C.writeX (C.x hg (aSZ j)) j D d p E G hb (.stat B hg ((hb (N.kp C.sub)).famOk B)) (bPZ B)
theorem bH.new{id g T n}{b}{w'}(B:bH z H)(hk:bM H id=false/\id<bA)(hd:¬z.D id)(hg:z.w.heap.size<=g)(X:g<w'.heap.size)
 (Y:w'.os=z.w.os)(G:w'.tape=z.w.tape/\z.w.drawn<=w'.drawn)(O:w'.output=z.w.output)(aa:z.w.heap.size<=w'.heap.size)(E:∀k,k<z.w.heap.size->w'.heap[k]? =z.w.heap[k]?)
 (hb:∀z',z'.w=w'->Kp z z'->gV z' g T n b):
 ∃z',z'.w=w'/\bH z' (bR H id (some ⟨false,b⟩))/\Nx z z'/\z'.ρ id= .real g T n:=by
 obtain⟨hk,p⟩:=hk;have ab:=(B.fresh id (by simp_all[aEZ])).resolve_right hd
 let z':Z:=⟨w',λx=>z.M x\/x=g,λx=>z.C x\/x=g,λi=>if i=id then .real g T n else z.ρ i,z.D⟩
 have L:∀i,i≠id->z'.ρ i=z.ρ i:=λi hi=>ZAJ hi;have U:z'.ρ id= .real g T n:=ZAL rfl;have hn:Nx z z':=⟨Y,G,O,aa,λb hb _=>E b hb,λx hx=>hx.elim .inl λh=>.inr (by omega),λx hx=>hx.elim .inl λh=>.inr (by omega),
  λ_ _ h _=>.inl h,λi hi=>L i (by grind),rfl⟩
 have I:=hn.kp B.sub;have d:∀i e a V W,bP H i=some e->z.ρ i= .real a V W->a<z.w.heap.size:=λi e a V W K h2=>(B.realX K h2).1;have s:=B.side (z':=z') (e:=some ⟨false,b⟩) p (λx hx=>by injection hx with hx;subst hx;exact(hb z' rfl I).famOk p) rfl (λi K _=>L i (by omega));refine⟨z',rfl,⟨λi e hi=> ?_,λi i' e e' a V W a' ac ad R K h2 m1 m2 N h4=> ?_,λi hi=> ?_,λx hx=>hx.elim (λh=>.inl (B.sub x h)) .inr,s.1,s.2.1,s.2.2.1,s.2.2.2⟩,hn,U⟩
 .rw[a8Z p] at hi;by_cases h:i=id
  .subst h;rw[ZAL rfl] at hi;injection hi with hi;subst hi;unfold fC;rw[U];exact⟨X,λ_=>.inr rfl,(λh=>by cases h),hb z' rfl I⟩
  .rw[ZAJ h] at hi;refine(B.ent _ _ hi).kp I λa V W ha=>⟨E a (d _ _ _ _ _ hi ha),.inl⟩
 .rw[a8Z p] at K h2;by_cases hi:i=id
  .have j:i'≠id:=λh=>R (hi.trans h.symm);rw[ZAJ j] at h2;rw[hi,U] at N;rw[L _ j] at h4;injection N with N;have:=d _ _ _ _ _ h2 h4;intro _;omega
  .rw[ZAJ hi] at K;rw[L _ hi] at N;by_cases j:i'=id
   .rw[j,U] at h4;injection h4 with h4;have:=d _ _ _ _ _ K N;intro _;omega
   .rw[ZAJ j] at h2;rw[L _ j] at h4;exact B.inj i i' _ _ _ _ _ _ _ _ R K h2 m1 m2 N h4
 .rw[bwZ p] at hi;simp at hi;rw[L _ hi.1];exact B.fresh i hi.2
theorem bH.newV{id}{b}(j:bH z H)(hk:bM H id=false/\id<bA)(O:¬z.D id)(hb:pL b):
 ∃z',z'.w=z.w/\bH z' (bR H id (some ⟨false,b⟩))/\Nx z z'/\z'.ρ id= .virt:=by
 let⟨hk,d⟩:=hk
 have R:=(j.fresh id (by simp_all[aEZ])).resolve_right O
 let z':={z with ρ:=λi=>if i=id then .virt else z.ρ i}
 have B:∀i,i≠id->z'.ρ i=z.ρ i:=λi hi=>ZAJ hi;have G:z'.ρ id= .virt:=ZAL rfl;have L:Nx z z':=⟨rfl,⟨rfl,ZAN _⟩,rfl,ZAN _,λ_ _ _=>rfl,λ_ h=>.inl h,λ_ h=>.inl h,λ_ _ h _=>h,λi hi=>B i (by grind),rfl⟩;have I:=L.kp j.sub;have s:=j.side (z':=z') (e:=some ⟨false,b⟩) d (λx hx=>by cases hx;exact hb.famOk d) rfl (λi C _=>B i (by omega));refine⟨z',rfl,⟨λi e hi=> ?_,λi N e e' a T U a' V W K C h2 X Y E h4=> ?_,λi hi=> ?_,j.sub,s.1,s.2.1,s.2.2.1,s.2.2.2⟩,L,G⟩
 .rw[a8Z d] at hi;by_cases h:i=id
  .subst h;rw[ZAL rfl] at hi
   grind[fC]
  .rw[ZAJ h] at hi;exact(j.ent _ _ hi).kp I λa T U ha=>⟨rfl,λh=>h⟩
 .rw[a8Z d] at C h2;by_cases hi:i=id
  .rw[hi,G] at E;cases E
  .by_cases p:N=id
   .rw[p,G] at h4;cases h4
   .rw[ZAJ hi] at C;rw[ZAJ p] at h2;rw[B _ hi] at E;rw[B _ p] at h4;exact j.inj i N _ _ _ _ _ _ _ _ K C h2 X Y E h4
 .rw[bwZ d] at hi;simp at hi;rw[B _ hi.1];exact j.fresh i hi.2
theorem bH.kill{id}(d:bH z H)(hk:bM H id=true):bH z (bR H id none):=by
 have q:∀j C,bP (bR H id none) j=some C->bP H j=some C:=λj C E=>by
  by_cases hi:rt j=id
  .exfalso;by_cases p:bC<=j
   .simp_all[a9Z,apZ,ZAL]
   .rw[beZ (ZBR.1 p)] at hi
    simp_all[bP,ZAJ,apZ,ZAL]
  .rwa [cuZ (H:=H) (by rw[apZ,ZAJ hi])] at E
 have B:∀j,bM (bR H id none) j=bM H j:=λj=>by
  simp_all[atZ]
 refine⟨λi e hi=>d.ent _ _ (q _ _ hi),λi G e e' a T U V I K D L h2 N O R h4=>d.inj i G _ _ _ _ _ _ _ _ D (q _ _ L) (q _ _ h2) N O R h4,λi hi=> ?_,d.sub,λi x h=> ?_,λi h=>d.key i (by simp_all),λi p h=>d.dyn i p (by simp_all),d.nos⟩
 .refine d.fresh i ?_;by_cases h:rt i=id
  .by_cases p:bC<=i
   .rw[azZ p,apZ,ZAL h] at hi;simp only at hi;rw[B,h,hk] at hi;cases hi
   simp_all[beZ,ZBR,dX,ZAJ]
  .rwa [d8Z (by rw[apZ,ZAJ h]) (B _)] at hi
 .rw[apZ] at h;split at h
  .cases h
  .exact d.fam i x h
theorem n3Z(id)(B:bH z H):∃z',z'.w=z.w/\bH z' (frz H id)/\Nx z z'/\z'.ρ=z.ρ:=by
 unfold frz;by_cases L:Nat.ble bA id=true
 .rw[L];exact⟨z,rfl,B,Nx.refl z,rfl⟩
 have d:=ZBR.1 λh=>L (ZAi h);rw[Bool.eq_false_iff.2 L,bq_false];split
 .rename_i e he;have N:bP H id=some e:=by rw[arZ d];exact he
  have qm:∀j I,(if j=id then some (⟨true,e.b⟩:Ent) else bP H j)=some I->I.fz=false->bP H j=some I/\j≠id:=λj I R T=>by
   by_cases h:j=id
   .rw[ZAL h] at R;injection R with R;rw[<-R] at T;cases T
   .rw[ZAJ h] at R;exact⟨R,h⟩
  have K:∀i U (I O) g V n g' ab n',i≠U->bP (bR H id (some ⟨true,e.b⟩)) i=some I->bP (bR H id (some ⟨true,e.b⟩)) U=some O->I.fz=false->O.fz=false->z.ρ i= .real g V n->z.ρ U= .real g' ab n'->¬(Ro i/\Ro U)->g≠g':=λi U I O a sa na a' ad ae ac W h2 m1 m2 h3 h4=>by
   rw[a8Z d] at W h2;exact B.inj i U _ _ _ _ _ _ _ _ ac (qm _ _ W m1).1 (qm _ _ h2 m2).1 m1 m2 h3 h4
  have p:∀i,dX (bR H id (some ⟨true,e.b⟩)) i=false->z.ρ i= .no\/z.D i:=λi hi=>by
   rw[bwZ d] at hi;simp at hi;exact B.fresh i hi.2
  have hs:∀z':Z,z'.D=z.D->z'.ρ=z.ρ->_:=λz' W h2=>B.side (e:=some ⟨true,e.b⟩) d (λx hx=>by cases hx;exact(B.fam id e he).other d id d true) W (λi _ _=>by rw[h2]);by_cases hz:∃g V n,z.ρ id= .real g V n
  .let⟨g,V,n,E⟩:=hz
   by_cases X:e.fz=true
   .have s:=hs z rfl rfl;refine⟨z,rfl,⟨λi I hi=> ?_,K,p,B.sub,s.1,s.2.1,s.2.2.1,s.2.2.2⟩,Nx.refl z,rfl⟩;rw[a8Z d] at hi;by_cases h:i=id
    .subst h;rw[ZAL rfl] at hi;cases hi;have:=B.ent _ _ N;unfold fC at*;rw[X] at this;exact this
    .rw[ZAJ h] at hi;exact B.ent _ _ hi
   .have Y:=by simpa using X
    have hC:=(B.real he E).2.1 Y
    let z':={z with M:=λx=>z.M x/\x≠g,C:=λx=>z.C x/\x≠g}
    have hn:Nx z z':=⟨rfl,⟨rfl,ZAN _⟩,rfl,ZAN _,λ_ _ _=>rfl,λx hx=>.inl hx.1,λx hx=>.inl hx.1,λx _ hM hx=>⟨hM,λh=>hx (h▸hC)⟩,λ_ _=>rfl,rfl⟩;have aa:=hn.kp B.sub;have s:=hs z' rfl rfl;refine⟨z',rfl,⟨λi I hi=> ?_,K,p,λx hx=>⟨B.sub x hx.1,hx.2⟩,s.1,s.2.1,s.2.2.1,s.2.2.2⟩,hn,rfl⟩;rw[a8Z d] at hi;by_cases h:i=id
    .subst h;rw[ZAL rfl] at hi;cases hi
     let⟨W,h2,h3,h4⟩:=B.real he E
     unfold fC;rw[(E)];exact⟨W,(λh=>by cases h),λ_ h=>h.2 rfl,h4.kp aa rfl⟩
    .rw[ZAJ h] at hi;have h0:=B.ent _ _ hi;unfold fC at h0⊢;cases G:z.ρ i with
     |no=>rw[G] at h0;exact h0.elim
     |virt=>rw[G] at h0;exact h0
     |real a sa na=>
      rw[G] at h0
      let⟨b1,b2,b3,b4⟩:=h0
      exact⟨b1,λT=>⟨b2 T,B.ne h hi N Y G E λh=>bPZ d h.2⟩,λT hm=>b3 T hm.1,b4.kp aa rfl⟩
  .have s:=hs z rfl rfl;refine⟨z,rfl,⟨λi I hi=> ?_,K,p,B.sub,s.1,s.2.1,s.2.2.1,s.2.2.2⟩,Nx.refl z,rfl⟩;rw[a8Z d] at hi;by_cases h:i=id
   .subst h;rw[ZAL rfl] at hi;cases hi;have h0:=B.ent _ _ N;unfold fC at*;cases E:z.ρ i with
    |no=>rw[E] at h0;exact h0
    |virt=>rw[E] at h0;exact h0
    |real g V n=>exact absurd ⟨g,V,n,E⟩ hz
   .rw[ZAJ h] at hi;exact B.ent _ _ hi
 grind[Nx.refl]
theorem rIZ(a)(d:bH z H):∃z',z'.w=z.w/\bH z' (DS H a)/\Nx z z'/\z'.ρ=z.ρ:=by
 unfold DS;split
 .exact n3Z _ d
 .exact n3Z _ d
 .exact n3Z _ d
 grind[Nx.refl]
end
section
variable {z : Z}
theorem cU.scal{w}{M}{ρ}{t}{x}{v}(h:cU w M ρ t x v)(ht:t.isAgg=false)(p:t.cells=1):Cl w M ρ t x [v]:=by
 let⟨vs,j,h2⟩:=h
 have d:=j.len
 match vs,d with
 |[u],_=>simp_all
 |[],d=>simp_all
 |_::_::_,d=>simp_all
theorem cU.int{w}{M}{ρ}{k}{n:Int}{v}(h:cU w M ρ (.int k) n v):v= .int k n:=by
 have:=h.scal rfl rfl
 simp_all[Cl,ZBl]
theorem cU.bool{w}{M}{ρ}{b:Bool}{v}(h:cU w M ρ .bool b v):v= .bool b:=by
 have:=h.scal rfl rfl
 simp_all[Cl,ZBl]
theorem cU.str{w}{M}{ρ}{l:List UInt8}{v}(h:cU w M ρ .str l v):v= .string ⟨⟨l⟩⟩:=by
 have:=h.scal rfl rfl
 simp_all[Cl,ZBl]
theorem cU.opq{w}{M}{ρ}{x v:Value}(h:cU w M ρ .opq x v):v=x/\x.oneCell'=true:=by
 have:=h.scal rfl rfl
 simp_all[Cl,ZBl]
theorem cU.sl{w}{M}{ρ}{t}{l:List t.den}{v}(h:cU w M ρ (.sl t) l v):
 ∃A c,v= .slice A l.length c/\l.length<=c/\c<=maxLen/\(A=none->c=0)/\(l.length≠0->∃b off,A=some ⟨b,off,none⟩/\¬M b/\b<w.heap.size/\fX w M ρ b off t l):=by
 have:=h.scal rfl rfl
 let⟨A,c,d,h2⟩:=this
 simp[ZBl] at d;exact⟨A,c,d,h2⟩
theorem cU.mkSc{w}{M}{ρ}{t}{x}{v}(h:Cl w M ρ t x [v])(ht:t.isAgg=false):cU w M ρ t x v:=⟨[v],h,by simp_all⟩
theorem cU.mkI{w}{M}{ρ}(k)(n:Int):cU w M ρ (.int k) n (.int k n):=.mkSc rfl rfl
theorem cU.mkB{w}{M}{ρ}(b:Bool):cU w M ρ .bool b (.bool b):=.mkSc rfl rfl
theorem cU.mkS{w}{M}{ρ}(l:List UInt8):cU w M ρ .str l (.string ⟨⟨l⟩⟩):=.mkSc rfl rfl
theorem bE.mkI(k)(n):bE z (.i k n) (.int k n):=.p _ _ _ (.mkI k n)
theorem bE.mkB(b):bE z (.b b) (.bool b):=.p _ _ _ (.mkB b)
theorem bE.mkS(l):bE z (.s l) (.string ⟨⟨l⟩⟩):=.p _ _ _ (.mkS l)
theorem bE.v{t}{x}{v}(h:bE z (.p t x) v):cU z.w z.M z.ρ t x v:=by cases h<;>grind
theorem nsZ{t u}{x}{y}{v}(h:DP t x u=some y)(hv:cU z.w z.M z.ρ t x v):cU z.w z.M z.ρ u y v:=by
 unfold DP at h;split at h
 .simp at h;subst h;obtain⟨rfl,_⟩:=hv.opq;exact .mkSc ⟨none,0,rfl,ZAN _,by omega,λ_=>rfl,λh=>absurd rfl h⟩ rfl
 .simp at h;subst h;obtain⟨rfl,_⟩:=hv.opq;exact .mkSc rfl rfl
 .simp at h;subst h;obtain⟨rfl,_⟩:=hv.opq;exact .mkSc (.inl ⟨rfl,rfl⟩) rfl
 .split at h
  .rename_i d;subst d;simp at h;subst h;exact .mkSc (hv.scal rfl rfl) rfl
  .cases h
 grind
theorem fNZ{u}{a}{x}{v}(h:a.get? u=some x)(d:bE z a v):cU z.w z.M z.ρ u x v:=by
 unfold AV.get? at h;split at h
 .have hv:=d.v;split at h
  .rename_i ht;subst ht;simp at h;subst h;exact hv
  .exact nsZ h hv
 .unfold SV at h;split at h
  .simp at h;subst h;cases d with|fn _ _ _ j p B h2=>
   obtain rfl:j=#[]:=ZBt (by simpa using B);obtain rfl:p=#[]:=ZBt (by simpa using h2);exact .mkSc ⟨rfl,rfl⟩ rfl
  .cases h
 grind
theorem eqZ{k}{a}{n}{v}(h:a.int? k=some n)(d:bE z a v):v= .int k n:=(fNZ h d).int
theorem bSZ{a}{b}{v}(h:a.bool? =some b)(d:bE z a v):v= .bool b:=(fNZ h d).bool
theorem enZ{a}{l}{v}(h:a.str? =some l)(d:bE z a v):v= .string ⟨⟨l⟩⟩:=(fNZ h d).str
theorem b1Z{a}{n}{v}(h:a.any? =some n)(d:bE z a v):∃k,v= .int k n:=by
 unfold AV.any? at h;split at h
 .unfold TZ at h;split at h
  .rename_i k m;simp at h;subst h;exact⟨k,d.v.int⟩
  .cases h
 grind
theorem tiZ{n}{c}(h:pB n=some c):n=(c.toNat:Int):=by
 grind[pB,UInt8.toNat_ofNat']
theorem iYZ{a}{l}{v}(h:a.tup? =some l)(d:bE z a v):∃vs,v= .tuple vs/\vs.size=l.length/\∀(i:Nat) x u,l[i]? =some x->vs[i]? =some u->bE z x u:=by
 unfold AV.tup? at h;split at h
 .simp at h;subst h;cases d with|tup _ vs j h2=>exact⟨vs,rfl,j,h2⟩
 grind
def bQ(z:Z)(l:List AV)(vs:List Value):Prop:=l.length=vs.length/\∀(i:Nat) a v,l[i]? =some a->vs[i]? =some v->bE z a v
theorem bQ.nil:bQ z [] []:=⟨rfl,λi a v h=>by grind⟩
theorem bQ.cons{a}{v}{l}{vs}(h:bE z a v)(d:bQ z l vs):bQ z (a::l) (v::vs):=by
 refine⟨by simp[d.1],λi x u j h2=> ?_⟩
 match i with
 |0=>simp_all
 |i+1=>exact d.2 i x u (by simp_all) (by simp_all)
theorem bQ.head{a}{v}{l}{vs}(h:bQ z (a::l) (v::vs)):bE z a v:=h.2 0 a v rfl rfl
theorem bQ.tail{a}{v}{l}{vs}(h:bQ z (a::l) (v::vs)):bQ z l vs:=
 ⟨by simpa using h.1,λi x u d h2=>h.2 (i+1) x u (by simp_all) (by simp_all)⟩
theorem bQ.append{l p}{vs d}(h:bQ z l vs)(B:bQ z p d):bQ z (l++p) (vs++d):=by
 refine⟨by simp[h.1,B.1],λi a v j h2=> ?_⟩;by_cases hi:i<l.length
 .rw[ZAS hi] at j;rw[ZAS (by rw[<-h.1];omega)] at h2;exact h.2 i a v j h2
 .rw[ZAU (by omega)] at j;rw[ZAU (by rw[<-h.1];omega),<-h.1] at h2;exact B.2 _ a v j h2
theorem bQ.take{l}{vs}(h:bQ z l vs)(n):bQ z (l.take n) (vs.take n):=by
 refine⟨by simp[h.1],λi a v d h2=> ?_⟩;have hi:i<n:=by
  have:=(ZAC.1 d).1;simp at this;omega
 rw[ZBa hi] at d h2;exact h.2 i a v d h2
theorem bQ.drop{l}{vs}(h:bQ z l vs)(n):bQ z (l.drop n) (vs.drop n):=by
 refine⟨by simp[h.1],λi a v d h2=> ?_⟩;rw[ZAy] at d h2;exact h.2 _ a v d h2
theorem bQ.kp{z'}{l}{vs}(k:Kp z z')(h:bQ z l vs):bQ z' l vs:=⟨h.1,λi a v d h2=>(h.2 i a v d h2).kp k⟩
theorem bQ.get{l}{vs}(h:bQ z l vs){i:Nat}{a}(j:l[i]? =some a):∃v,vs[i]? =some v/\bE z a v:=by
 have d:i<vs.length:=by
  have:=(ZAC.1 j).1;rw[<-h.1];exact this
 exact⟨_,ZAB d,h.2 i a _ j (ZAB d)⟩
theorem bQ.headD{l}{vs}(h:bQ z l vs):bE z (l.headD .junk) (vs.headD undef):=by
 match l,vs,h with
 |[],[],_=>exact .junk _
 |a::l,v::vs,h=>exact h.head
 |[],_::_,h=>have:=h.1;simp_all
 |_::_,[],h=>have:=h.1;simp_all
theorem bE.reps{l}{cs}(h:bE z (.agg l) (.agg cs)):bQ z l cs.toList:=by
 cases h with|agg _ _ d j h=>exact⟨by grind,λi a v h2 p=>h i a v h2 (by simp_all)⟩
theorem ckZ{t}{x}{v}(h:cU z.w z.M z.ρ t x v):bE z (.ofTy t x) v:=by
 unfold AV.ofTy;split
 .have:=h.scal rfl rfl;simp[Cl,ZBl] at this;subst this;exact .mkI _ _
 .exact .p _ _ _ h
theorem eFZ:(t:Ty)->(x:t.den)->(split t x).length<=t.cells
 |.one t,x=>eFZ t x
 |.pair a b,x=>by
  have d:=eFZ a x.1;have h2:=eFZ b x.2;simp[split,Ty.cells];omega
 |.arr _ _,_=>ZBF _
 |.int _,_|.byte,_|.bool,_|.str,_|.opq,_|.nat,_|.ptr _,_|.sl _,_|.ref _ _,_=>ZAN _
theorem eKZ:{t:Ty}->{x:t.den}->{vs:List Value}->Cl z.w z.M z.ρ t x vs->(split t x).length=t.cells->bQ z (split t x) vs
 |.one t,x,vs,h,d=>eKZ (t:=t) h d
 |.pair a b,x,vs,h,d=>by
  obtain⟨u,v,rfl,j,h2⟩:=h;have B:=eFZ a x.1;have C:=eFZ b x.2;simp[split,Ty.cells] at d;exact(eKZ j (by omega)).append (eKZ h2 (by omega))
 |.arr n t,x,vs,h,d=>by
  have:=h.len;rw[<-d] at this
  match vs,this with
  |[],_=>exact .nil
 |.int _,_,vs,h,_|.bool,_,vs,h,_|.str,_,vs,h,_=>by
  have d:=h.len
  match vs,d with
  |[v],_=>exact .cons (.p _ _ _ (.mkSc h rfl)) .nil
 |.opq,_,vs,h,_=>by
  have d:=h.len
  match vs,d with
  |[v],_=>exact .cons (.p _ _ _ (.mkSc h rfl)) .nil
 |.sl _,_,vs,h,_|.ptr _,_,vs,h,_|.ref _ _,_,vs,h,_=>by
  have d:=h.len
  match vs,d with
  |[v],_=>exact .cons (.p _ _ _ (.mkSc h rfl)) .nil
 |.byte,_,vs,h,_=>by
  subst h;exact .cons (.mkI _ _) .nil
 |.nat,_,_,h,_=>h.elim
theorem cNZ{a}{l}{v}(h:eX a=some l)(K:bE z a v):bQ z l v.cells.toList/\(∀u∈v.cells,u.oneCell'=true)/\
 v=(bif JC a then .agg v.cells else v.cells.toList.headD undef):=by
 have one:∀(b) (v),bE z b v->v.oneCell'=true->bQ z [b] v.cells.toList/\(∀u∈v.cells,u.oneCell'=true)/\v=v.cells.toList.headD undef:=λb v hb d=>by
  have I:v.cells=#[v]:=by cases v<;>first|rfl|(simp[Value.oneCell'] at d;done)
  rw[I];exact⟨.cons hb .nil,λu R=>by simp_all,rfl⟩
 cases K with
 |p t x v d=>
  simp[eX] at h;cases L:Nat.beq (split t x).length t.cells<;>rw[L] at h<;>simp at h;subst h;rw[afZ] at L
  let⟨vs,h2,E⟩:=d
  cases B:t.isAgg<;>rw[B] at E<;>simp[ZAM] at E
  .have C:=h2.len;have I:t.cells=1:=by cases t<;>first|rfl|simp_all[Ty.isAgg]
   match vs,C with
   |[u],_=>
    simp at E;subst E
    let⟨T,N,W⟩:=one (.p t x) v (.p _ _ _ (.mkSc h2 B)) (h2.one v (by simp))
    have e:v.cells=#[v]:=by
     have:=h2.one v (by simp);cases v<;>first|rfl|(simp[Value.oneCell'] at this;done)
    refine⟨by grind[eKZ],N,by simp only[JC,B,ZAD];omega⟩
   |[],C=>simp_all
   |_::_::_,C=>simp_all
  .subst E;exact⟨eKZ h2 L,λu R=>h2.one u (by simpa[Value.cells] using R),by simp only[JC,B,ZAM];rfl⟩
 |pt t l i j b off U O d=>simp[eX] at h;subst h;exact one _ _ (.pt _ _ _ _ _ _ U O d) rfl
 |own es id i j g G n d=>simp[eX] at h;subst h;exact one _ _ (.own _ _ _ _ _ _ _ d) rfl
 |rp f es k i j g G n d=>simp[eX] at h;subst h;exact one _ _ (.rp _ _ _ _ _ _ _ _ d) rfl
 |slV es id off A d=>simp[eX] at h;subst h;exact one _ _ (.slV _ _ _ _ d) rfl
 |slE es id off g G m o d=>simp[eX] at h;subst h;exact one _ _ (.slE _ _ _ _ _ _ _ d) rfl
 |sl es id off n g G m c d C D hm=>simp[eX] at h;subst h;exact one _ _ (.sl _ _ _ _ _ _ _ _ d C D hm) rfl
 |slfV es id A d=>simp[eX] at h;subst h;exact one _ _ (.slfV _ _ _ d) rfl
 |slf es id g G n c d C D hm=>simp[eX] at h;subst h;exact one _ _ (.slf _ _ _ _ _ _ d C D hm) rfl
 |mp id g G n d=>simp[eX] at h;subst h;exact one _ _ (.mp _ _ _ _ d) rfl
 |fn f a c X Y K I d h2=>simp[eX] at h;subst h;exact one _ _ (.fn _ _ _ _ _ K I d h2) rfl
 |agg V cs D d h2=>
  simp[eX] at h;subst h;exact⟨⟨by simp[Value.cells,D],λi a v T N=>h2 i a v T (by simpa[Value.cells] using N)⟩,d,rfl⟩
 |tup V vs D h2=>simp[eX] at h
 |junk v=>simp[eX] at h
section
variable {β : Type}
theorem mnZ{t}{c}(f)
 (p:∀{cs} {vs} {K} {r:β},f cs K=some r->bQ z cs vs->cs.length=c->(∀v∈vs,v.oneCell'=true)->∃y,Cl z.w z.M z.ρ t y vs/\K y=some r):
 ∀(n) {cs} {vs} {K} {r},FQ f c n cs K=some r->bQ z cs vs->cs.length=n*c->(∀v∈vs,v.oneCell'=true)->
  ∃(l:List t.den) (css:List (List Value)),l.length=n/\css.length=n/\vs=css.flatten/\(∀(i:Nat) e u,l[i]? =some e->css[i]? =some u->Cl z.w z.M z.ρ t e u)/\K l=some r
 |0,cs,vs,K,r,h,d,B,_=>by
  have:=ZAY (by rw[<-d.1,B,ZBq]);exact⟨[],[],rfl,rfl,by simp_all,λi e u j=>by grind,h⟩
 |n+1,cs,vs,K,r,h,d,B,j=>by
  simp[FQ] at h;have C:(n+1)*c=n*c+c:=ZCD n c
  let⟨y,L,D⟩:=p h (d.take c) (by rw[ZAQ];omega) (λv hv=>j v (ZBx hv))
  let⟨l,css,p1,E,G,N,I⟩:=mnZ f p n D (d.drop c) (by rw[ZAv];omega) (λv hv=>j v (ZCi hv))
  refine⟨y::l,vs.take c::css,by simp[p1],by simp[E],by rw[ZCQ,<-G,ZBD],λi e u O R=> ?_,I⟩
  grind
theorem h9Z:{u:Ty}->{cs:List AV}->{vs:List Value}->{K:u.den->Option β}->{r:β}->asm u cs K=some r->bQ z cs vs->cs.length=u.cells->(∀v∈vs,v.oneCell'=true)->
 ∃y,Cl z.w z.M z.ρ u y vs/\K y=some r
 |.byte,cs,vs,K,r,h,d,j,p=>by
  simp only[asm] at h
  let⟨n,h2,C⟩:=agZ.1 h
  let⟨c,h4,h5⟩:=ZAG.1 C
  have hv:=eqZ h2 d.headD;have B:vs.length=1:=by rw[<-d.1,j];rfl
  match vs,B with
  |[v],_=>
   simp at hv;subst hv;rw[tiZ h4];exact⟨c,rfl,h5⟩
 |.one t,cs,vs,K,r,h,d,j,p=>h9Z (u:=t) h d j p
 |.pair a b,cs,vs,K,r,h,d,j,p=>by
  simp[asm] at h;simp[Ty.cells] at j
  let⟨x,L,N⟩:=h9Z h (d.take a.cells) (by simp_all) (λv hv=>p v (ZBx hv))
  let⟨y,O,R⟩:=h9Z N (d.drop a.cells) (by simp_all) (λv hv=>p v (ZCi hv))
  exact⟨(x,y),⟨_,_,(ZBD _ _).symm,L,O⟩,R⟩
 |.arr n t,cs,vs,K,r,h,d,j,p=>by
  simp[asm] at h
  let⟨l,css,p1,T,U,V,W⟩:=mnZ (asm t) (λh d j p=>h9Z h d j p) n h d j p
  exact⟨l,⟨p1,css,T,U,V⟩,W⟩
 |.int k,cs,vs,K,r,h,d,j,p|.bool,cs,vs,K,r,h,d,j,p|.str,cs,vs,K,r,h,d,j,p|.opq,cs,vs,K,r,h,d,j,p|.nat,cs,vs,K,r,h,d,j,p|.sl _,cs,vs,K,r,h,d,j,p|.ref _ _,cs,vs,K,r,h,d,j,p=>by
  simp only[asm] at h
  let⟨n,h2,C⟩:=agZ.1 h
  have hv:=(fNZ h2 d.headD).scal rfl rfl;have B:vs.length=1:=by rw[<-d.1,j];rfl
  match vs,B with
  |[v],_=>grind
 |.ptr t,cs,vs,K,r,h,d,j,p=>by
  have B:vs.length=1:=by rw[<-d.1,j];rfl
  simp only[asm] at h;have G:=d.headD
  match vs,B with
  |[v],_=>
   split at h
   .rename_i u l i hh;rw[hh] at G;rcases aRZ h with⟨ht,h⟩|h
    .subst ht
     let⟨Y,h2,C⟩:=ZAG.1 h
     unfold UA at h2;split at h2
     .rename_i hi;obtain rfl:=ZAg h2;cases G with
      |pt _ _ _ _ b off X E D=>
       refine⟨_,.inr ⟨?_,b,off+i*u.cells,rfl,X,E,λk e he=> ?_⟩,C⟩
       .show(List.drop i l).length≠0;rw[ZAv];have:i<l.length:=hi;omega
       .let⟨w,h5,I⟩:=D (i+k) e (by rw[<-List.getElem?_drop];exact he)
        exact⟨w,h5,by rw[ZAk,<-Nat.add_assoc] at I;exact I⟩
     .cases h2
    grind
   .let⟨n,h2,C⟩:=agZ.1 h
    have hv:=(fNZ h2 d.headD).scal rfl rfl
    grind
theorem tMZ{u}{a}{K}{r:β}{v}(h:asC u a K=some r)(j:bE z a v):∃y,cU z.w z.M z.ρ u y v/\K y=some r:=by
 let⟨cs,p,h2⟩:=agZ.1 h
 let⟨d,h4⟩:=aeZ.1 h2
 simp[ZBp] at d
 let⟨B,C,G⟩:=cNZ p j
 let⟨y,D,E⟩:=h9Z h4 B d.1 (λv hv=>C v (by simpa using hv))
 refine⟨y,⟨_,D,?_⟩,E⟩;rw[<-d.2];omega
theorem bRZ{u}{a}{K}{r:β}{v}(h:asA u a K=some r)(d:bE z a v):∃y,cU z.w z.M z.ρ u y v/\K y=some r:=by
 unfold asA at h;split at h
 .rename_i t x;rcases aRZ h with⟨ht,h⟩|h
  .subst ht;exact⟨x,d.v,h⟩
  .exact tMZ h d
 grind[tMZ]
theorem sub_self{t}{x}{vs}{o:Nat}{u}{K:u.den->Option β}{r}{w}{M}{ρ}(h)(j:Cl w M ρ t x vs)
 (hk:bq (Nat.beq o 0) (K (Ty.to h x)) none=some r):∃y,Cl w M ρ u y ((vs.drop o).take u.cells)/\o+u.cells<=t.cells/\K y=some r:=by
 subst h;cases d:Nat.beq o 0<;>rw[d] at hk<;>simp only[bq_true,bq_false] at hk
 .grind
 .rw[afZ] at d;subst d;refine⟨x,?_,by omega,hk⟩;rw[ZB2,ZAw (by rw[j.len];exact ZAN _)];omega
theorem kDZ{w}{M}{ρ}:{t:Ty}->{x:t.den}->{o:Nat}->{u:Ty}->{K:u.den->Option β}->{r:β}->{vs:List Value}->sub t x o u K=some r->Cl w M ρ t x vs->
 ∃y,Cl w M ρ u y ((vs.drop o).take u.cells)/\o+u.cells<=t.cells/\K y=some r
 |.one t,x,o,u,K,r,vs,h,d=>by
  rcases aRZ h with⟨ht,h⟩|h
  .exact sub_self ht d h
  .exact kDZ (t:=t) h d
 |.pair a b,x,o,u,K,r,vs,h,d=>by
  rcases aRZ h with⟨ht,h⟩|h
  .exact sub_self ht d h
  .obtain⟨I,L,rfl,j,h2⟩:=d;cases B:Nat.blt o a.cells<;>rw[B] at h<;>simp[bq_false] at h
   .have p:a.cells<=o:=by
     rcases ZB1 o a.cells with C|C
     .rw[show Nat.blt o a.cells=true from ZAi C] at B;cases B
     .exact C
    let⟨y,E,G,D⟩:=kDZ h h2
    refine⟨y,?_,by simp[Ty.cells];omega,D⟩;rw[ZCk,ZBG (by rw[j.len];exact p),ZBb,j.len];omega
   .have p:=ZBQ B
    let⟨y,E,G,D⟩:=kDZ h j
    refine⟨y,?_,by simp[Ty.cells];omega,D⟩;rw[ZBw (by rw[j.len];omega),ZBU (by rw[ZAv,j.len];omega)];omega
 |.int _,x,o,u,K,r,vs,h,d|.byte,x,o,u,K,r,vs,h,d|.bool,x,o,u,K,r,vs,h,d|.str,x,o,u,K,r,vs,h,d|.opq,x,o,u,K,r,vs,h,d|.nat,x,o,u,K,r,vs,h,d|.ptr _,x,o,u,K,r,vs,h,d
 |.sl _,x,o,u,K,r,vs,h,d|.arr _ _,x,o,u,K,r,vs,h,d|.ref _ _,x,o,u,K,r,vs,h,d=>by
  simp[sub] at h;rcases aRZ h with⟨ht,h⟩|h
  .exact sub_self ht d h
  grind
theorem a5Z:(t:Ty)->t.unref.cells=t.cells
 |.one t=>a5Z t
 |.pair a b=>by simp[Ty.unref,Ty.cells,a5Z a,a5Z b]
 |.int _|.byte|.bool|.str|.opq|.nat|.ptr _|.sl _|.arr _ _|.ref _ _=>rfl
theorem glZ(t:Ty):t.unref.isAgg=t.isAgg:=by cases t<;>rfl
theorem gTZ{t}{x}{vs}{o:Nat}{u}{K:AV->Option β}{r}{w}{M}{ρ}{E}(j:Cl w M ρ t x vs)
 (hk:bq (decide (t.unref=u)&&Nat.beq o 0) (K (.ofTy t x)) E=some r):(∃(d:Ty) (y:d.den),d.unref=u/\Cl w M ρ d y ((vs.drop o).take d.cells)/\o+d.cells<=t.cells/\K (.ofTy d y)=some r)\/E=some r:=by
 cases h:(decide (t.unref=u)&&Nat.beq o 0)<;>rw[h] at hk<;>simp[bq_false] at hk
 .simp_all
 .simp[afZ] at h;obtain⟨p,rfl⟩:=h;refine .inl ⟨t,x,p,?_,by omega,hk⟩;rw[ZB2,ZAw (by rw[j.len];exact ZAN _)];omega
theorem gsZ{w}{M}{ρ}:{t:Ty}->{x:t.den}->{o:Nat}->{u:Ty}->{K:AV->Option β}->{r:β}->{vs:List Value}->zP t x o u K=some r->Cl w M ρ t x vs->
 ∃(j:Ty) (y:j.den),j.unref=u/\Cl w M ρ j y ((vs.drop o).take j.cells)/\o+j.cells<=t.cells/\K (.ofTy j y)=some r
 |.one t,x,o,u,K,r,vs,h,d=>by
  simp only[zP] at h;rcases gTZ d h with h|h
  .exact h
  .exact gsZ (t:=t) h d
 |.pair a b,x,o,u,K,r,vs,h,d=>by
  simp only[zP] at h;rcases gTZ (t:=.pair a b) d h with h|h
  .exact h
  .obtain⟨N,O,rfl,p,h2⟩:=d;cases C:Nat.blt o a.cells<;>rw[C] at h<;>simp only[bq_true,bq_false] at h
   .have B:a.cells<=o:=by
     rcases ZB1 o a.cells with D|D
     .rw[show Nat.blt o a.cells=true from ZAi D] at C;cases C
     .exact D
    obtain⟨j,y,E,I,L,G⟩:=gsZ h h2;refine⟨j,y,E,?_,by simp only[Ty.cells];omega,G⟩;rw[ZCk,ZBG (by rw[p.len];exact B),ZBb,p.len];omega
   .have B:o<a.cells:=ZBQ C;obtain⟨j,y,E,I,L,G⟩:=gsZ h p;refine⟨j,y,E,?_,by simp only[Ty.cells];omega,G⟩;rw[ZBw (by rw[p.len];omega),ZBU (by rw[ZAv,p.len];omega)];omega
 |.int _,x,o,u,K,r,vs,h,d|.byte,x,o,u,K,r,vs,h,d|.bool,x,o,u,K,r,vs,h,d|.str,x,o,u,K,r,vs,h,d|.opq,x,o,u,K,r,vs,h,d|.nat,x,o,u,K,r,vs,h,d|.ptr _,x,o,u,K,r,vs,h,d
 |.sl _,x,o,u,K,r,vs,h,d|.arr _ _,x,o,u,K,r,vs,h,d|.ref _ _,x,o,u,K,r,vs,h,d=>by
  simp only[zP] at h;rcases gTZ d h with h|h<;>grind
theorem cU.cells'{w}{M}{ρ}{t}{x}{v}(h:cU w M ρ t x v):Cl w M ρ t x v.cells.toList:=by
 let⟨vs,j,h2⟩:=h
 cases d:t.isAgg<;>rw[d] at h2<;>simp[ZAD] at h2
 .have p:=j.len;have C:t.cells=1:=by cases t<;>first|rfl|simp_all[Ty.isAgg]
  match vs,p with
  |[u],_=>
   subst h2;have B:=j.one v (by simp);have e:v.cells=#[v]:=by cases v<;>first|rfl|(simp[Value.oneCell'] at B)
   simp_all
  |[],p=>simp_all
  |_::_::_,p=>simp_all
 .subst h2;exact j
theorem fYZ{t}{vs:List Value}{o:Nat}{u}{a}{v}{K}{r}{E:Option β}(D:vs.length=t.cells)(p:bE z a v)
 (hk:bq (decide (t.unref=u)&&Nat.beq o 0) (asA t a K) E=some r):(∃h,Cl z.w z.M z.ρ t h (vs.take o++v.cells.toList++vs.drop (o+u.cells))/\o+u.cells<=t.cells/\v.cells.size=u.cells/\(∀c∈v.cells,c.oneCell'=true)/\K h=some r)\/E=some r:=by
 cases d:(decide (t.unref=u)&&Nat.beq o 0)<;>rw[d] at hk<;>simp only[bq_true,bq_false] at hk
 .simp_all
 .simp only[ZAF,ZAq,afZ] at d;obtain⟨rfl,rfl⟩:=d;obtain⟨y,B,h2⟩:=bRZ hk p;have j:=B.cells';refine .inl ⟨y,?_,by rw[a5Z];omega,by rw[a5Z];have:=j.len;simpa using this,λc C=>j.one c (by simpa using C),h2⟩
  simp_all[a5Z,List.take_zero,ZBb,ZBG,ZAs]
theorem jhZ:{t:Ty}->{x:t.den}->{o:Nat}->{u:Ty}->{a:AV}->{v:Value}->{K:t.den->Option β}->{r:β}->{vs:List Value}->xS t x o u a K=some r->Cl z.w z.M z.ρ t x vs->bE z a v->
 ∃N,Cl z.w z.M z.ρ t N (vs.take o++v.cells.toList++vs.drop (o+u.cells))/\o+u.cells<=t.cells/\v.cells.size=u.cells/\(∀c∈v.cells,c.oneCell'=true)/\K N=some r
 |.one t,x,o,u,a,v,K,r,vs,h,j,d=>by
  simp only[xS] at h;rcases fYZ j.len d h with h|h
  .exact h
  .exact jhZ (t:=t) h j d
 |.pair a b,x,o,u,y,v,K,r,vs,h,j,d=>by
  simp only[xS] at h;rcases fYZ j.len d h with h|h
  .exact h
  .obtain⟨O,R,rfl,B,h2⟩:=j;have T:=B.len;have V:=h2.len;cases p:Nat.blt o a.cells<;>rw[p] at h<;>simp only[bq_true,bq_false] at h
   .have C:a.cells<=o:=by
     rcases ZB1 o a.cells with D|D
     .rw[show Nat.blt o a.cells=true from ZAi D] at p;cases p
     .exact D
    obtain⟨z,E,U,G,I,L⟩:=jhZ h h2 d;refine⟨(x.1,z),⟨O,_,?_,B,E⟩,by simp only[Ty.cells];omega,G,I,L⟩;rw[List.take_append,ZAw (by omega),ZCk,ZBG (by omega),ZBb,T]
    grind
   .have C:o<a.cells:=ZBQ p;obtain⟨z,E,U,G,I,L⟩:=jhZ h B d;refine⟨(z,x.2),⟨_,R,?_,E,h2⟩,by simp only[Ty.cells];omega,G,I,L⟩
    grind
 |.int _,x,o,u,a,v,K,r,vs,h,j,d|.byte,x,o,u,a,v,K,r,vs,h,j,d|.bool,x,o,u,a,v,K,r,vs,h,j,d|.str,x,o,u,a,v,K,r,vs,h,j,d|.opq,x,o,u,a,v,K,r,vs,h,j,d
 |.nat,x,o,u,a,v,K,r,vs,h,j,d|.ptr _,x,o,u,a,v,K,r,vs,h,j,d|.sl _,x,o,u,a,v,K,r,vs,h,j,d|.arr _ _,x,o,u,a,v,K,r,vs,h,j,d|.ref _ _,x,o,u,a,v,K,r,vs,h,j,d=>by
  simp only[xS] at h;rcases fYZ j.len d h with h|h<;>grind
theorem eIZ{w}{M}{ρ}:{t:Ty}->{x:t.unref.den}->{vs:List Value}->Cl w M ρ t.unref x vs->Cl w M ρ t (dE t x) vs
 |.one t,x,vs,h=>eIZ (t:=t) h
 |.pair a b,x,vs,h=>by
  obtain⟨u,v,rfl,d,h2⟩:=h;exact⟨u,v,rfl,eIZ d,eIZ h2⟩
 |.ref f t,x,vs,h=>h
 |.int _,x,vs,h|.byte,x,vs,h|.bool,x,vs,h|.str,x,vs,h|.opq,x,vs,h|.nat,x,vs,h|.ptr _,x,vs,h|.sl _,x,vs,h|.arr _ _,x,vs,h=>h
theorem gNZ{w}{M}{ρ}:{t:Ty}->{x:t.den}->{y:t.unref.den}->{vs:List Value}->nG t x=some y->Cl w M ρ t x vs->Cl w M ρ t.unref y vs
 |.one t,x,y,vs,h,d=>gNZ (t:=t) h d
 |.pair a b,x,y,vs,h,d=>by
  obtain⟨u,v,rfl,j,h2⟩:=d
  let⟨p,B,h4⟩:=ZAG.1 h
  obtain⟨q,h5,rfl⟩:=ZAH.1 h4;exact⟨u,v,rfl,gNZ B j,gNZ h5 h2⟩
 |.ref f t,.inl l,y,vs,h,d=>by
  obtain rfl:=ZAg h;exact d
 |.ref f t,.inr none,y,vs,h,d=>by
  obtain rfl:=ZAg h;obtain rfl:vs=[.slice none 0 0]:=d;exact⟨none,0,rfl,ZAN _,by omega,λ_=>rfl,λh=>absurd rfl h⟩
 |.ref f t,.inr (some _),y,vs,h,d=>by grind[nG]
 |.int _,x,y,vs,h,d|.byte,x,y,vs,h,d|.bool,x,y,vs,h,d|.str,x,y,vs,h,d|.opq,x,y,vs,h,d|.nat,x,y,vs,h,d|.ptr _,x,y,vs,h,d|.sl _,x,y,vs,h,d|.arr _ _,x,y,vs,h,d=>by
  obtain rfl:=ZAg h;exact d
theorem jqZ{t}{vs us:List Value}{o:Nat}{u}{y}{K:t.den->Option β}{r}{w}{M}{ρ}(h)(hv:vs.length=t.cells)(p:Cl w M ρ u y us)
 (hk:bq (Nat.beq o 0) (K (Ty.to h y)) none=some r):∃j,Cl w M ρ t j (vs.take o++us++vs.drop (o+u.cells))/\o+u.cells<=t.cells/\K j=some r:=by
 subst h;cases d:Nat.beq o 0<;>rw[d] at hk<;>simp only[bq_true,bq_false] at hk
 .grind
 .rw[afZ] at d;subst d;refine⟨y,?_,by omega,hk⟩
  grind
theorem nbZ{w}{M}{ρ}:{t:Ty}->{x:t.den}->{o:Nat}->{u:Ty}->{y:u.den}->{K:t.den->Option β}->{r:β}->{vs us:List Value}->upd t x o u y K=some r->Cl w M ρ t x vs->Cl w M ρ u y us->
 ∃I,Cl w M ρ t I (vs.take o++us++vs.drop (o+u.cells))/\o+u.cells<=t.cells/\K I=some r
 |.one t,x,o,u,y,K,r,vs,us,h,j,d=>by
  rcases aRZ h with⟨ht,h⟩|h
  .exact jqZ ht j.len d h
  .exact nbZ (t:=t) h j d
 |.pair a b,x,o,u,y,K,r,vs,us,h,j,d=>by
  simp[upd] at h;rcases aRZ h with⟨ht,h⟩|h
  .exact jqZ ht j.len d h
  .obtain⟨L,N,rfl,B,h2⟩:=j;have O:=B.len;have T:=h2.len;have U:=d.len;cases p:Nat.blt o a.cells<;>rw[p] at h<;>simp[bq_false] at h
   .have C:a.cells<=o:=by
     rcases ZB1 o a.cells with D|D
     .rw[show Nat.blt o a.cells=true from ZAi D] at p;cases p
     .exact D
    let⟨z,E,R,G⟩:=nbZ h h2 d
    refine⟨(x.1,z),⟨L,_,?_,B,E⟩,by simp[Ty.cells];omega,G⟩;rw[List.take_append,ZAw (by omega),ZCk,ZBG (by omega),O]
    grind
   .have C:=ZBQ p
    let⟨z,E,R,G⟩:=nbZ h B d
    refine⟨(z,x.2),⟨_,N,?_,E,h2⟩,by simp[Ty.cells];omega,G⟩
    grind
 |.int _,x,o,u,y,K,r,vs,us,h,j,d|.byte,x,o,u,y,K,r,vs,us,h,j,d|.bool,x,o,u,y,K,r,vs,us,h,j,d|.str,x,o,u,y,K,r,vs,us,h,j,d|.opq,x,o,u,y,K,r,vs,us,h,j,d|.nat,x,o,u,y,K,r,vs,us,h,j,d|.ptr _,x,o,u,y,K,r,vs,us,h,j,d
 |.sl _,x,o,u,y,K,r,vs,us,h,j,d|.arr _ _,x,o,u,y,K,r,vs,us,h,j,d|.ref _ _,x,o,u,y,K,r,vs,us,h,j,d=>by
  simp[upd] at h;rcases aRZ h with⟨ht,h⟩|h
  .exact jqZ ht j.len d h
  grind
end
end
section
variable {P : Program}
theorem b7Z{t n:Nat}(h:P.cellsOf t=n)(h0:n≠0):(P.info? t).map (·.size)=some n:=by
 unfold Program.cellsOf at h;cases hi:(P.info? t).map (·.size)<;>grind
theorem cTZ{t}{u}(h:ty P t=some u):u.cells=P.cellsOf t/\0<u.cells/\(u.isAgg=true->gI P t=true)/\(u.isAgg=false->fW P t=true):=by
 let⟨v,p,h2⟩:=agZ.1 h
 cases hb:(Nat.beq v.cells (P.cellsOf t)&& !Nat.beq v.cells 0&&bq v.isAgg (gI P t) (fW P t))<;>rw[hb] at h2
 .cases h2
 .simp[ZAW] at h2;subst h2;simp[afZ] at hb
  let⟨⟨j,B⟩,d⟩:=hb
  refine⟨j,?_,λh=>by rw[h] at d;exact d,λh=>by rw[h] at d;exact d⟩;rcases ZBm v.cells with h|h<;>simp_all
theorem fcZ{t}(h:gI P t=true):∃d,P.underlying t=some d/\d.isRow=true:=by
 unfold gI at h
 grind
theorem hBZ{t}(h:fW P t=true):∃d,P.underlying t=some d/\d.isRow=false:=by
 unfold fW at h
 grind
theorem kgZ{t}(w)(h:fW P t=true):(isAgg t).run P w= .ok false w:=by
 let⟨d,j,p⟩:=hBZ h
 unfold isAgg;rw[Sem.run_bind,run_underlying j w];cases d<;>simp_all
theorem dyZ{w}{b o}{t}{v}(d:fW P t=true)(h:w.cell? ⟨b,o,none⟩=some v):
 (Instr.loadAt t (.pointer (some ⟨b,o,none⟩))).run P w= .ok v w:=by
 simp[Instr.loadAt,Instr.sureAddr,loadVar,kgZ w d,h]
theorem crZ{w}{b o n}{t}(cs)(h:gI P t=true)(C:P.cellsOf t=n)(h0:n≠0)(D:cs.length=n)
 (j:w.rangeAt b o cs):(Instr.loadAt t (.pointer (some ⟨b,o,none⟩))).run P w= .ok (.agg cs.toArray) w:=by
 let⟨d,p,B⟩:=fcZ h
 exact run_loadAt_mid w b o t cs d j p B (by simp_all[b7Z])
theorem ewZ{w:World}{b o}{vs}(h:w.rangeAt b o vs)(k n):w.rangeAt b (o+k) ((vs.drop k).take n):=λj v d=>by
 have p:j<n:=by
  have:=(ZAC.1 d).1;simp at this;omega
 rw[ZBa p,ZAy] at d;rw[ZCE];exact h _ _ d
theorem hlZ{w:World}{b o}{u v}(p:w.rangeAt b o u)(h2:w.rangeAt b (o+u.length) v):w.rangeAt b o (u++v):=λj x d=>by
 by_cases h:j<u.length
 .rw[ZAS h] at d;exact p j x d
 .rw[ZAU (by omega)] at d;have:=h2 _ _ d
  grind
theorem fX.tail{w}{M}{ρ}{b off}{t}{x}{l}(h:fX w M ρ b off t (x::l)):fX w M ρ b (off+t.cells) t l:=λi e he=>by
 let⟨u,d,h2⟩:=h (i+1) e (by simpa using he)<;>grind
theorem fX.cells{w}{M}{ρ}{t}:∀{l} {b off},fX w M ρ b off t l->
 ∃css:List (List Value),css.length=l.length/\(∀(i:Nat) e u,l[i]? =some e->css[i]? =some u->Cl w M ρ t e u)/\w.rangeAt b off css.flatten
 |[],b,off,_=>⟨[],rfl,λi e u h=>by grind,λj v h=>by grind⟩
 |x::l,b,off,h=>by
  obtain⟨u,p,h2⟩:=h 0 x rfl
  let⟨css,B,C,D⟩:=fX.cells h.tail
  refine⟨u::css,by simp[B],λi e v p1 d=> ?_,?_⟩
  .match i with
   |0=>simp at p1 d;subst p1;subst d;exact p
   |i+1=>exact C i e v (by simpa using p1) (by simpa using d)
  .exact hlZ (by simpa using h2) (by rw[p.len];exact D)
theorem fX.sub{w}{M}{ρ}{b off}{t}{l}(h:fX w M ρ b off t l)(k n):fX w M ρ b (off+k*t.cells) t ((l.drop k).take n):=λi e he=>by
 have hi:i<n:=by
  have:=(ZAC.1 he).1;simp at this;omega
 rw[ZBa hi,ZAy] at he
 let⟨u,d,h2⟩:=h _ _ he<;>grind
section
variable {β : Type} {z : Z} {H : Hp}
theorem bzZ{w:World}{g o}{cs}{e}{d}(h:w.heap[g]? =some (.cells cs e d)):w.cell? ⟨g,o,none⟩=cs[o]? :=by
 unfold World.cell?;simp_all
theorem gV.rowAt{g d n}{e}{t}{l}(h:gV z g d n (.rows e t l)):fX z.w z.M z.ρ g 0 t l:=λi x hx=>by
 let⟨cs,D,p,E,G,I,K,L,B⟩:=h
 let⟨u,C,h2⟩:=B i x hx
 refine⟨u,C,λj v N=> ?_⟩;rw[bzZ p]
 simp_all
theorem vcZ{a O}{v}(I:bH z H)(h:view H a=some O)(C:bE z a v):bE z O v:=by
 unfold view at h;split at h
 .simp at h;subst h;exact C
 .simp at h;subst h;exact C
 .simp at h;subst h;exact C
 .rename_i es id;split at h
  .rename_i e t l hg;cases hb:Nat.beq es t.cells<;>rw[hb] at h
   .cases h
   .simp[ZAW] at h;subst h;rw[afZ] at hb;subst hb;cases C with
    |slfV _ _ A d=>
     obtain⟨rfl,_⟩:=I.virt hg d;refine .p _ _ _ (.mkSc ⟨A,0,rfl,ZAN _,by unfold maxLen;omega,λ_=>rfl,λh=>absurd rfl h⟩ rfl)
    |slf _ _ g L n c d K R hm=>
     let⟨D,_,E,h4⟩:=I.real hg d
     have G:=h4.rowAt
     let⟨cs,Y,a1,a2,a3,T,a5,a6,a7⟩:=h4
     have N:=T;rw[<-N] at K⊢;exact .p _ _ _ (.mkSc ⟨_,c,rfl,K,hm,(λh=>by cases h),λ_=>⟨g,0,rfl,E rfl,D,G⟩⟩ rfl)
  .cases h
 .rename_i es id off n;split at h
  .rename_i e t l hg;cases hb:(Nat.beq es t.cells&&Nat.ble (off+n) l.length)<;>rw[hb] at h
   .cases h
   .simp[ZAW] at h;subst h;simp[ZAm] at hb;obtain⟨rfl,hb⟩:=hb;have B:((l.drop off).take n).length=n:=by rw[ZAQ,ZAv];omega
    have mk:∀A c,n<=c->c<=maxLen->(A=none->c=0)->(n≠0->∃b o,A=some ⟨b,o,none⟩/\¬z.M b/\b<z.w.heap.size/\fX z.w z.M z.ρ b o t ((l.drop off).take n))->
     bE z (.p (.sl t) ((l.drop off).take n)) (.slice A n c):=λA c U V W X=>by
     have:cU z.w z.M z.ρ (.sl t) ((l.drop off).take n) (.slice A ((l.drop off).take n).length c):=
      .mkSc ⟨A,c,rfl,by rw[B];exact U,V,W,λh0=>X (by rwa [B] at h0)⟩ rfl
     rw[B] at this;exact .p _ _ _ this
    cases C with
    |slV _ _ _ A d=>exact mk A 0 (ZAN _) (by unfold maxLen;omega) (λ_=>rfl) (λh=>absurd rfl h)
    |slE _ _ _ g L m o d=>exact mk _ 0 (ZAN _) (by unfold maxLen;omega) (λ_=>rfl) (λh=>absurd rfl h)
    |sl _ _ _ _ g L m c d K R hm=>
     let⟨D,_,E,h4⟩:=I.real hg d
     refine mk _ c K hm (λh=>by cases h) λ_=>⟨g,off*t.cells,rfl,E rfl,D,?_⟩;have:=h4.rowAt.sub off n;rwa [ZAz] at this
  .cases h
 .rename_i es id i j;split at h
  .rename_i e t l hg;cases hb:Nat.beq es t.cells<;>rw[hb] at h
   .cases h
   .simp[ZAW] at h;subst h;rw[afZ] at hb;subst hb;cases C with
    |own _ _ _ _ g L n d=>
     let⟨D,_,E,h4⟩:=I.real hg d
     have:=bE.pt t l i j g 0 (E rfl) D h4.rowAt;rwa [ZAz] at this
  .cases h
 grind
theorem mHZ{a d}{H'}{v}(j:bH z H)(h:pure1 H a=some (d,H'))(C:bE z a v):
 ∃z',z'.w=z.w/\bH z' H'/\Nx z z'/\z'.ρ=z.ρ/\bE z' d v:=by
 let⟨x,D,h2⟩:=ZAH.1 h
 obtain⟨rfl,rfl⟩:=h2
 let⟨z',E,p,B,G⟩:=rIZ a j
 exact⟨z',E,p,B,G,vcZ p D (C.kp (B.kp j.sub))⟩
theorem i1Z:∀{l j} {z} {H H'} {vs},bH z H->rY H l=some (j,H')->bQ z l vs->
 ∃z',z'.w=z.w/\bH z' H'/\Nx z z'/\z'.ρ=z.ρ/\bQ z' j vs
 |[],j,z,H,H',vs,p,h,d=>by
  simp[rY] at h
  grind[Nx.refl]
 |a::l,j,z,H,H',vs,p,h,d=>by
  let⟨⟨x,H1⟩,E,h2⟩:=agZ.1 h
  let⟨⟨y,H2⟩,G,h4⟩:=ZAH.1 h2
  obtain⟨rfl,rfl⟩:=h4
  match vs,d with
  |[],d=>have:=d.1;simp at this
  |v::vs,d=>
   let⟨U,I,B,C,K,L⟩:=mHZ p E d.head
   let⟨N,p1,O,D,R,T⟩:=i1Z B G (d.tail.kp (C.kp p.sub))
   exact⟨N,p1.trans I,O,C.trans D,R.trans K,.cons (L.kp (D.kp B.sub)) T⟩
theorem bUZ{a j}{H'}{v}(B:bH z H)(h:oV H a=some (j,H'))(C:bE z a v):
 ∃z',z'.w=z.w/\bH z' H'/\Nx z z'/\z'.ρ=z.ρ/\bE z' j v:=by
 unfold oV at h;split at h
 .let⟨⟨O,H1⟩,D,h2⟩:=ZAH.1 h
  obtain⟨rfl,rfl⟩:=h2;cases C with|agg _ cs E G h4=>
  let⟨z',I,K,L,N,p⟩:=i1Z (vs:=cs.toList) B D ⟨by simp[E],λi a v p1 d=>h4 i a v p1 (by simpa using d)⟩
  refine⟨z',I,K,L,N,.agg _ _ ?_ G λi x v p1 d=>p.2 i x v p1 (by simpa using d)⟩;have:=p.1;simpa using this.symm
 grind[mHZ]
theorem toZ{u}{t}{x}{j}{K}{r:β}{b o}{us}(h:rZ P u t x j K=some r)(N:Cl z.w z.M z.ρ u x us)(O:z.w.rangeAt b o us):
 ∃a v,(Instr.loadAt t (.pointer (some ⟨b,o+j,none⟩))).run P z.w= .ok v z.w/\bE z a v/\K a=some r:=by
 unfold rZ at h
 let⟨p,W,h2⟩:=agZ.1 h
 let⟨R,t2,T,U⟩:=cTZ W
 cases L:u.noRef<;>rw[L] at h2<;>simp[bq_false] at h2
 .let⟨E,y,V,D,X,I⟩:=gsZ h2 N
  have Y:E.cells=p.cells:=by rw[<-V,a5Z]
  have e2:E.isAgg=p.isAgg:=by rw[<-V,glZ]
  have G:=ewZ O j E.cells;have C:=D.len;cases d:E.isAgg
  .have B:E.cells=1:=by cases E<;>first|rfl|simp_all[Ty.isAgg]
   match hvs:(us.drop j).take E.cells,C with
   |[],C=>simp_all
   |_::_::_,C=>simp_all
   |[v],_=>
    rw[hvs] at G D;refine⟨_,v,dyZ (U (by simp_all)) (by have:=G 0 v rfl;simpa using this),ckZ (.mkSc D d),I⟩
  .refine⟨_,_,crZ _ (T (by rw[<-e2];exact d)) (by rw[Y];exact R.symm) (by omega) C G,ckZ ⟨_,D,by rw[d];rfl⟩,I⟩
 let⟨y,D,X,I⟩:=kDZ h2 N
 have G:=ewZ O j p.cells;have C:=D.len;cases d:p.isAgg
 .have B:p.cells=1:=by cases p<;>first|rfl|(simp[Ty.isAgg] at d;done)
  match hvs:(us.drop j).take p.cells,C with
  |[],C=>rw[B] at C;simp at C
  |_::_::_,C=>rw[B] at C;simp at C
  |[v],_=>
   rw[hvs] at G D;refine⟨_,v,dyZ (U d) (by have:=G 0 v rfl;simpa using this),ckZ (.mkSc D d),I⟩
 .refine⟨_,_,crZ _ (T d) R.symm (by omega) C G,ckZ ⟨_,D,by rw[d];rfl⟩,I⟩
theorem gAZ{t}{u}{l}{i j}{K}{r:β}{b off}(h:pD P t u l i j K=some r)(E:fX z.w z.M z.ρ b off u l):
 ∃a v,(Instr.loadAt t (.pointer (some ⟨b,off+i*u.cells+j,none⟩))).run P z.w= .ok v z.w/\bE z a v/\K a=some r:=by
 have key:(l[i]?.bind λx=>rZ P u t x j K)=some r->∃a v,(Instr.loadAt t (.pointer (some ⟨b,off+i*u.cells+j,none⟩))).run P z.w= .ok v z.w/\bE z a v/\K a=some r:=by
  intro h
  let⟨x,d,h2⟩:=ZAG.1 h
  let⟨us,I,h4⟩:=E i x d
  exact toZ h2 I h4
 unfold pD at h;split at h
 .rename_i n B C
  let⟨L,U,N,V⟩:=cTZ C
  cases hb:(decide (B=u)&&Nat.beq i 0&&Nat.beq j 0)<;>rw[hb] at h
  .exact key h
  .let⟨d,h2⟩:=aeZ.1 h
   simp[afZ] at hb d;obtain⟨⟨rfl,rfl⟩,rfl⟩:=hb
   let⟨css,D,G,O⟩:=E.cells
   have R:css.flatten.length=n*B.cells:=by
    rw[bfZ,D,d];intro w T
    let⟨k,hk⟩:=ZAT T
    let⟨e,he⟩:=biZ D hk
    exact(G k e w he hk).len
   refine⟨.p (.arr n B) l,.agg css.flatten.toArray,?_,.p _ _ _ ⟨css.flatten,⟨d,css,by rw[D,d],rfl,G⟩,rfl⟩,h2⟩;have:=crZ css.flatten (N rfl) L.symm (by omega) R O;simpa using this
 simp_all
theorem rMZ{t}{c}{j}{K}{r:β}{g}{vs}(h:xT P t c j K=some r)(p:bQ z c vs)(G:∀v∈vs,v.oneCell'=true)
 (C:z.w.rangeAt g 0 vs):∃a v,(Instr.loadAt t (.pointer (some ⟨g,j,none⟩))).run P z.w= .ok v z.w/\bE z a v/\K a=some r:=by
 unfold xT at h;cases D:gI P t<;>rw[D] at h<;>simp[bq_false] at h
 .cases E:fW P t<;>rw[E] at h<;>simp only[bq_true,bq_false] at h
  .cases h
  .let⟨x,h2,B⟩:=agZ.1 h
   let⟨v,h4,h5⟩:=p.get h2
   exact⟨x,v,dyZ E (by have:=C j v h4;simp_all),h5,B⟩
 .let⟨h2,B⟩:=aeZ.1 h
  simp[ZAm] at h2
  let⟨h2,h4⟩:=h2
  have h0:P.cellsOf t≠0:=λh0=>by simp_all
  have I:=p.1;have d:((vs.drop j).take (P.cellsOf t)).length=P.cellsOf t:=by rw[ZAQ,ZAv];omega
  refine⟨_,_,crZ _ D rfl h0 d (by have:=ewZ C j (P.cellsOf t);simp_all),.agg _ _ ?_ (λv hv=> ?_) (λi x v p1 L=> ?_),B⟩
  .simp_all
  .grind
  .exact((p.drop j).take (P.cellsOf t)).2 i x v p1 (by simp_all)
theorem gV.vars_at{g d n}{c}(h:gV z g d n (.vars c)):∃vs,bQ z c vs/\(∀v∈vs,v.oneCell'=true)/\z.w.rangeAt g 0 vs:=by
 let⟨cs,e,E,p,G,I,⟨K,_⟩,B,C⟩:=h
 refine⟨cs.toList,⟨by simp;omega,λi a v p1 D=>B i a v p1 (by simpa using D)⟩,λv hv=>C v (by simpa using hv),λj v L=> ?_⟩;rw[bzZ p]
 simp_all
theorem k9Z{t}{a}{K}{r:β}{pv}(h:sM P t a H K=some r)(B:bH z H)(p:bE z a pv):
 ∃x v,(Instr.loadAt t pv).run P z.w= .ok v z.w/\bE z x v/\K x=some r:=by
 unfold sM at h;split at h
 .rename_i es id i j;split at h
  .rename_i c hg;cases p with
   |own _ _ _ _ g D n d=>
    let⟨vs,E,G,I⟩:=(B.real hg d).2.2.2.vars_at
    exact rMZ h E G I
  .rename_i e u l hg;cases hi:Nat.beq es u.cells<;>rw[hi] at h<;>simp only[bq_true,bq_false] at h
   .cases h
   .rw[afZ] at hi;subst hi;cases p with
    |own _ _ _ _ g D n d=>
     have:=gAZ h (B.real hg d).2.2.2.rowAt;simpa using this
  .cases h
 .cases p with|pt _ _ _ _ b off R L N=>exact gAZ h N
 .split at h
  .rename_i fz e s T hg
   let⟨m,O,h2⟩:=ZAG.1 h
   let⟨C,h4⟩:=aeZ.1 h2
   simp[afZ] at C;obtain⟨C,rfl⟩:=C;cases p with
   |rp _ _ _ _ _ g D n d=>
    have:=gAZ h4 (B.realX (hbZ hg O (by omega)) d).2.2.2.rowAt;simpa using this
  .cases h
 grind
def eJ:Array Value->Nat->List Value->Array Value
 |c,_,[]=>c
 |c,o,v::r=>eJ (c.setIfInBounds o v) (o+1) r
theorem amZ(vs):∀(c) (o),(eJ c o vs).size=c.size:=by
 induction vs<;>grind[eJ]
theorem avZ(vs):∀(c) (o k),o+vs.length<=c.size->(eJ c o vs)[k]? =if o<=k/\k<o+vs.length then vs[k-o]? else c[k]? :=by
 induction vs with
 |nil=>simp_all[eJ,ZAJ]
 |cons v vs d=>
  intro c o k hk;rw[eJ]
  grind
theorem gzZ(w:World)(g o)(v)(cs)(e)(fr)(h:w.heap[g]? =some (.cells cs e fr)):(w.setCell ⟨g,o,none⟩ v).heap[g]? =some (.cells (cs.setIfInBounds o v) e fr):=by
 unfold World.setCell
 grind
theorem anZ(vs):∀(w:World) (g o) (cs) (e) (d),w.heap[g]? =some (.cells cs e d)->(w.setCells g o vs).heap[g]? =some (.cells (eJ cs o vs) e d):=by
 induction vs with
 |nil=>intro w g o cs e d h;exact h
 |cons v vs j=>intro w g o cs e d h;exact j _ _ _ _ _ _ (gzZ w g o v cs e d h)
theorem aoZ(vs):∀(w:World) (g o b),b≠g->(w.setCells g o vs).heap[b]? =w.heap[b]? :=by
 induction vs with
 |nil=>intro w g o b _;rfl
 |cons v vs d=>intro w g o b h;exact(d _ g (o+1) b h).trans (RowKit.Below.heap_setCell w ⟨g,o,none⟩ v b h)
theorem asZ(vs):∀(w:World) (g o),(w.setCells g o vs).heap.size=w.heap.size/\(w.setCells g o vs).os=w.os/\((w.setCells g o vs).tape=w.tape/\w.drawn<=(w.setCells g o vs).drawn)/\(w.setCells g o vs).output=w.output:=by
 induction vs with
 |nil=>intro w g o;exact⟨rfl,rfl,⟨rfl,ZAN _⟩,rfl⟩
 |cons v vs d=>
  intro w g o
  let⟨h,h2,j,h4⟩:=d (w.setCell ⟨g,o,none⟩ v) g (o+1)
  exact⟨h.trans (by simp_all),h2,j,h4⟩
theorem cVZ{α}(vs):∀(c:List α) (j),(setFrom c j vs).length=c.length:=by
 induction vs<;>grind[setFrom]
theorem dbZ{α}(vs):∀(c:List α) (j k),j+vs.length<=c.length->(setFrom c j vs)[k]? =if j<=k/\k<j+vs.length then vs[k-j]? else c[k]? :=by
 induction vs with
 |nil=>simp_all[setFrom,ZAJ]
 |cons v vs d=>
  intro c j k hk;rw[setFrom]
  grind
theorem eOZ{w}{g o}{t}{v}{n}(ht:w.there g o v.cells.size)(p:P.cellsOf t=n)(h0:n≠0)(D:v.cells.size=n)(B:∀u∈v.cells,u.oneCell'=true):
 (Instr.storeAt t (.pointer (some ⟨g,o,none⟩)) v).run P w= .ok () (w.setCells g o v.cells.toList):=by
 have hi:=b7Z p h0;have:=run_storeCells_cells (P:=P) g o v.cells.toList 0 w (λj C=>by simpa using(ht j (by omega)).1) (λj C=>by simpa using(ht j (by omega)).2)
  (λu E=>B u (by simp_all))
 cases h:P.info? t with
 |none=>simp_all
 |some i=>
  have d:v.cells.size=i.size:=by simp[h] at hi;omega
  simp[Instr.storeAt,Instr.sureAddr,storeVar,sizeOf,typeInfo,h,d,this]
theorem cUZ{w:World}{g o n}{cs}{e}{p}(h:w.heap[g]? =some (.cells cs e p))(d:okF cs p)(B:o+n<=cs.size):w.there g o n:=λj C=>by
 constructor
 .rw[bzZ h];grind
 .unfold World.frozen?;rcases d with d|d<;>grind
theorem mPZ{i j n es:Nat}(hi:i<n)(d:j<es):i*es+j<n*es:=by
 have:(i+1)*es<=n*es:=ZAe _ hi
 grind
def Ok(P:Program)(s:Sem Value)(z:Z)(K:AV->Hp->Option β)(r:β):Prop:=
 ∃x v H' z',s.run P z.w= .ok v z'.w/\bH z' H'/\bE z' x v/\Nx z z'/\K x H'=some r
def OkP(P:Program)(s:Sem Value)(z:Z)(K:AV->Option β)(r:β):Prop:=
 ∃x v,s.run P z.w= .ok v z.w/\bE z x v/\K x=some r
theorem pLZ{id g E n o}{t}{v}{G b}{cs}{e}{j}{H'}(I:bH z H)(hg:bP H id=some ⟨false,G⟩)(p:z.ρ id= .real g E n)
 (d:z.w.heap[g]? =some (.cells cs e j))(K:okF cs j)(B:P.cellsOf t≠0)(C:v.cells.size=P.cellsOf t)(h:o+v.cells.size<=cs.size)(L:∀u∈v.cells,u.oneCell'=true)
 (hb:∀z',Kp z z'->z'.w.heap[g]? =some (.cells (eJ cs o v.cells.toList) e j)->gV z' g E n b)(N:Upd H id b H')(D:¬Ro id):
 ∃z',(Instr.storeAt t (.pointer (some ⟨g,o,none⟩)) v).run P z.w= .ok () z'.w/\bH z' H'/\Nx z z'/\z'.ρ=z.ρ:=by
 let⟨O,R,T,U⟩:=asZ v.cells.toList z.w g o
 let⟨p1,V⟩:=I.writeX hg p R T U O (λb hb=>aoZ _ _ _ _ _ hb) (λk=>hb _ k (anZ _ _ _ _ _ _ _ d)) N D
 exact⟨_,eOZ (cUZ d K h) rfl B C L,p1,V,rfl⟩
theorem mJZ{id g D n o}{t}{v}{E b}{cs}{e}{j}(G:bH z H)(hg:bF H id=some ⟨false,E⟩)(p:z.ρ id= .real g D n)
 (d:z.w.heap[g]? =some (.cells cs e j))(I:okF cs j)(B:P.cellsOf t≠0)(C:v.cells.size=P.cellsOf t)(h:o+v.cells.size<=cs.size)(K:∀u∈v.cells,u.oneCell'=true)
 (hb:∀z',Kp z z'->z'.w.heap[g]? =some (.cells (eJ cs o v.cells.toList) e j)->gV z' g D n b):
 ∃z',(Instr.storeAt t (.pointer (some ⟨g,o,none⟩)) v).run P z.w= .ok () z'.w/\bH z' (bR H id (some ⟨false,b⟩))/\Nx z z':=by
 let⟨L,N,O,R⟩:=asZ v.cells.toList z.w g o
 let⟨p1,T⟩:=G.write hg p N O R L (λb hb=>aoZ _ _ _ _ _ hb) (λk=>hb _ k (anZ _ _ _ _ _ _ _ d))
 exact⟨_,eOZ (cUZ d I h) rfl B C K,p1,T⟩
theorem usZ{cs cs'}{d}(h:okF cs d)(j:cs'.size=cs.size):okF cs' d:=by simp_all[okF]
theorem cU.cells{w}{M}{ρ}{t}{x}{v}(h:cU w M ρ t x v):Cl w M ρ t x v.cells.toList/\∀u∈v.cells,u.oneCell'=true:=
 ⟨h.cells',λu d=>h.cells'.one u (by simp_all)⟩
theorem fRZ{id g D n i j}{t}{e}{u}{l:List u.den}{x C}{v}{X}{us}{H'}{cs}{E}
 (Y:bH z H)(hg:bP H id=some ⟨false,X⟩)(G:z.ρ id= .real g D n)(a1:z.w.heap[g]? =some (.cells cs e E))(T:okR u cs E)(a3:cs.size=D)(a4:l.length=n)(a5:l.length*u.cells<=D)(a6:0<u.cells)
 (a7:∀(i) x,l[i]? =some x->∃us,Cl z.w z.M z.ρ u x us/\∀(j) v,us[j]? =some v->cs[i*u.cells+j]? =some v)(I:v.cells.size=P.cellsOf t)(K:P.cellsOf t≠0)(hx:l[i]? =some x)(c4:∀u∈v.cells,u.oneCell'=true)
 (c1:Cl z.w z.M z.ρ u x us)(c2:∀(j) v,us[j]? =some v->cs[i*u.cells+j]? =some v)(q1:Cl z.w z.M z.ρ u C (us.take j++v.cells.toList++us.drop (j+v.cells.size)))(q2:j+v.cells.size<=u.cells)(hu:Upd H id (.rows e u (l.set i C)) H')(L:¬Ro id):
 ∃z',(Instr.storeAt t (.pointer (some ⟨g,i*u.cells+j,none⟩)) v).run P z.w= .ok () z'.w/\bH z' H'/\Nx z z'/\z'.ρ=z.ρ:=by
 have hi:i<l.length:=(ZAC.1 hx).1;have N:(i+1)*u.cells<=l.length*u.cells:=ZAe _ hi;rw[ZCD] at N;have aa:=c1.len;refine pLZ (P:=P) (t:=t) (o:=i*u.cells+j) (v:=v) (b:=.rows e u (l.set i C)) Y hg G a1 T.f K I (by omega) c4 (λz' k hw=>by
  refine⟨_,E,hw,efZ T (amZ _ _ _),by simp_all[amZ],by simp_all,by simp_all,a6,λh U d=> ?_⟩;by_cases p:i=h
  .subst p;rw[ZAR hi] at d;obtain rfl:C=U:=ZAg d;refine⟨_,q1.kp k,λm w hm=> ?_⟩;rw[avZ _ _ _ _ (by grind)];have V:(us.take j++v.cells.toList++us.drop (j+v.cells.size)).length=u.cells:=by
    simp[ZAQ,ZAv];omega
   have B:m<u.cells:=by
    have:=(ZAC.1 hm).1;omega
   simp only[ZA5];by_cases h1:j<=m/\m<j+v.cells.size
   .grind
   .rw[ZAJ (by omega)];by_cases h2:m<j
    .rw[ZAx,ZAS (by simp;omega),ZBa h2] at hm;exact c2 m w hm
    grind
  .rw[ZAX p] at d;obtain⟨O,W,d2⟩:=a7 h U d;refine⟨O,W.kp k,λm w hm=> ?_⟩;have B:m<u.cells:=by
    have:=(ZAC.1 hm).1;rw[W.len] at this;exact this
   rw[avZ _ _ _ _ (by grind),ZAJ,d2 m w hm];simp only[ZA5];rcases ZB1 i h with R|hge
   .have:(i+1)*u.cells<=h*u.cells:=ZAe _ R
    grind
   .have:(h+1)*u.cells<=i*u.cells:=ZAe _ (by omega);rw[ZCD] at this;omega) hu L
theorem haZ{id g G n i j}{t}{e}{u d}{l}{x}{y}{v}{T}{K:AV->Hp->Option β}{r}{mk:List u.den->Hp}
 (U:bH z H)(hg:bP H id=some ⟨false,T⟩)(p:z.ρ id= .real g G n)(hb:gV z g G n (.rows e u l))(B:ty P t=some d)(hx:l[i]? =some x)(V:cU z.w z.M z.ρ d y v)
 (h:upd u x j d y (λI=>K .junk (mk (l.set i I)))=some r)(W:∀L,Upd H id (.rows e u L) (mk L))(C:¬Ro id):
 ∃H' z',(Instr.storeAt t (.pointer (some ⟨g,i*u.cells+j,none⟩)) v).run P z.w= .ok () z'.w/\bH z' H'/\Nx z z'/\K .junk H'=some r:=by
 let⟨t1,t2,t3,t4⟩:=cTZ B
 let⟨N,X⟩:=V.cells
 have D:=N.len;have E:=by simpa using D
 let⟨cs,fr,Y,a2,a3,a4,a5,a6,O⟩:=hb
 let⟨us,R,c2⟩:=O i x hx
 obtain⟨I,q1,q2,q3⟩:=nbZ h R N;obtain⟨z',s1,s2,s3,_⟩:=fRZ (P:=P) (t:=t) U hg p Y a2 a3 a4 a5 a6 O (by omega) (by omega) hx X R c2 (by rw[E];exact q1) (by omega) (W _) C;exact⟨_,z',s1,s2,s3,q3⟩
theorem jYZ{id g D n i j}{t}{e}{u d}{l}{x}{a}{v}{N}{K:AV->Hp->Option β}{r}{mk:List u.den->Hp}
 (O:bH z H)(hg:bP H id=some ⟨false,N⟩)(p:z.ρ id= .real g D n)(hb:gV z g D n (.rows e u l))(B:ty P t=some d)(hx:l[i]? =some x)(R:bE z a v)
 (h:xS u x j d a (λE=>K .junk (mk (l.set i E)))=some r)(T:∀G,Upd H id (.rows e u G) (mk G))(C:¬Ro id):
 ∃H' z',(Instr.storeAt t (.pointer (some ⟨g,i*u.cells+j,none⟩)) v).run P z.w= .ok () z'.w/\bH z' H'/\Nx z z'/\K .junk H'=some r:=by
 let⟨t1,t2,t3,t4⟩:=cTZ B
 let⟨cs,fr,U,V,W,X,Y,a6,I⟩:=hb
 let⟨us,L,c2⟩:=I i x hx
 let⟨E,q1,q2,q3,c4,q4⟩:=jhZ h L R
 obtain⟨z',s1,s2,s3,_⟩:=fRZ (P:=P) (t:=t) O hg p U V W X Y a6 I (by omega) (by omega) hx c4 L c2 (by rw[q3];exact q1) (by omega) (T _) C;exact⟨_,z',s1,s2,s3,q4⟩
theorem bH.newM{f}{e}{s}{p}{l}{r}(B:bH z H)(hg:bF H (bZ f)=some ⟨false,.fam e s p⟩)
 (hr:(r= .virt/\l=[])\/∃g U n,r= .real g U n/\g<z.w.heap.size/\z.C g/\gV z g U n (.rows e s l)/\∀i V aa n',bP H i=some V->V.fz=false->z.ρ i= .real g aa n'->Ro i/\f%16=15):
 ∃z',z'.w=z.w/\bH z' (bR H (bZ f) (some ⟨false,.fam e s (p++[(1,l)])⟩))/\Nx z z'/\z'.ρ (enc f p.length)=r:=by
 have K:=B.fam _ _ hg;have bM:=aiZ hg;have ac:z.ρ (enc f p.length)= .no:=by
  refine(B.fresh _ ?_).resolve_right (B.dyn _ (cjZ _ _) (by simp_all[dXZ]));rw[azZ (cjZ _ _),dXZ,o2Z,hg];simp[Ent.has]
 let z':={z with ρ:=λi=>if i=enc f p.length then r else z.ρ i}
 have D:∀i,i≠enc f p.length->z'.ρ i=z.ρ i:=λi hi=>ZAJ hi;have e2:z'.ρ (enc f p.length)=r:=ZAL rfl;have hn:Nx z z':=⟨rfl,⟨rfl,ZAN _⟩,rfl,ZAN _,λ_ _ _=>rfl,λ_ h=>.inl h,λ_ h=>.inl h,λ_ _ h _=>h,λi hi=>D i (by grind),rfl⟩;have L:=hn.kp B.sub;have hX:∀i,bP (bR H (bZ f) (some ⟨false,.fam e s (p++[(1,l)])⟩)) i=if i=enc f p.length then some ⟨false,.rows e s l⟩ else bP H i:=λi=>by
  by_cases hi:∃k',i=enc f k'
  .obtain⟨k',rfl⟩:=hi;rw[(bMZ H f _ 0).1 k'];by_cases hk:k'=p.length
   .subst hk;rw[ZAL rfl];simp[pick]
    rfl
   .rw[ZAJ λh=>hk (jiZ h).2,cLZ,hg];simp only[ZAA,pick];rcases ZB1 k' p.length with ab|hge
    .rw[ZAS ab]
    .rw[ZAU hge,ZAd (by simp;omega),ZAd hge]
  simp_all[bMZ,ZAJ]
 refine⟨z',rfl,⟨λi V hi=> ?_,λi i' V ad a W X Y E G N I h2 m1 m2 O h4=> ?_,λi hi=> ?_,B.sub,λi x h=> ?_,λi h=> ?_,λi hd h=> ?_,λi I h2=> ?_⟩,hn,e2⟩
 .rw[hX] at hi;by_cases h:i=enc f p.length
  .subst h;rw[ZAL rfl] at hi;cases hi;unfold fC;rw[e2];have hc:=K.2.2.2.1;rcases hr with⟨rfl,rfl⟩|⟨g,U,n,rfl,q1,q2,q3,_⟩
   .exact⟨rfl,hc⟩
   .exact⟨q1,λ_=>q2,(λh=>by cases h),q3.kp L rfl⟩
  .rw[ZAJ h] at hi;exact(B.ent _ _ hi).kp L λa W X ha=>⟨rfl,λh=>h⟩
 .rw[hX] at I h2;have key:∀j R a W X Y E G,bP H R=some a->a.fz=false->z.ρ R= .real Y E G->z'.ρ (enc f p.length)= .real j W X->¬(Ro R/\Ro (enc f p.length))->j≠Y:=by
   rintro j R a W X Y E G p1 p2 p3 p4 T rfl;rw[e2] at p4;rcases hr with⟨rfl,_⟩|⟨g,U,n,rfl,_,_,_,q⟩
   .cases p4
   .cases p4;exact T ((q R a _ _ p1 p2 p3).imp id r5Z.2)
  by_cases hi:i=enc f p.length
  .have d:i'≠enc f p.length:=λh=>N (hi.trans h.symm);rw[ZAJ d] at h2;rw[D _ d] at h4;rw[hi] at O;exact λT=>key _ _ _ _ _ _ _ _ h2 m2 h4 O λh=>T (by rw[hi];exact h.symm)
  .rw[ZAJ hi] at I;rw[D _ hi] at O;by_cases d:i'=enc f p.length
   .rw[d] at h4;exact λT=>(key _ _ _ _ _ _ _ _ I m1 O h4 λh=>T (by rw[d];exact h)).symm
   .rw[ZAJ d] at h2;rw[D _ d] at h4;exact B.inj i i' _ _ _ _ _ _ _ _ N I h2 m1 m2 O h4
 .by_cases d:∃k',i=enc f k'
  .obtain⟨k',rfl⟩:=d;rw[(ciZ H f _ 0).1 k'] at hi;simp[Ent.has] at hi;rw[D _ λh=>by have:=(jiZ h).2;omega];refine B.fresh _ ?_;rw[azZ (cjZ f k'),dXZ,o2Z,hg];simp[Ent.has];omega
  .rw[(ciZ H f _ i).2 λk' h=>d ⟨k',h⟩] at hi;rw[D _ λh=>d ⟨_,h⟩];exact B.fresh i hi
 .rw[apZ] at h;by_cases hi:i=bZ f
  .rw[ZAL hi] at h;cases h;rw[hi];exact K
  .rw[ZAJ hi] at h;exact B.fam i x h
 .rw[atZ] at h;simp only[ZA2,ZAq] at h;rcases h with rfl|h
  .exact(bTZ f).2
  .exact B.key i h
 .rw[atZ] at h;simp only[ZA2,ZAq] at h;refine B.dyn i hd ?_;rcases h with h|h
  .rw[h];exact bM
  .exact h
 .rw[D i λh=>by have:=cjZ f p.length;omega];exact B.nos i I h2
theorem m6Z{t}{a U}{H'}{v}(C:bH z H)(h:KP H t a=some (U,H'))(V:bE z a v):
 ∃z',z'.w=z.w/\bH z' H'/\Nx z z'/\bE z' U v:=by
 unfold KP at h;split at h
 .rename_i f s es id;split at h
  .rename_i e t l e' D Y hg K;rcases aRZ h with⟨ht,hh⟩|hh
   .clear h;subst ht;rcases aRZ hh with⟨E,h⟩|h
    .subst E;cases hb:(Nat.beq es D.cells&&Nat.beq e e')<;>rw[hb] at h<;>simp only[bq_true,bq_false] at h
     .cases h
     simp[afZ] at hb;obtain⟨rfl,rfl⟩:=hb;obtain⟨rfl,rfl⟩:=Prod.mk.inj (ZAg h);have j:=C.kill (aiZ hg);have B:=by
      refine C.low hg ?_;cases V with
      |slfV _ _ A d=>exact rZZ d
      |slf _ _ g G n c d W E hm=>exact aSZ d
     have hg2:bF (bR H id none) (bZ f)=some ⟨false,.fam e D Y⟩:=by
      rw[apZ,ZAJ]
      .exact K
      .have:=(bTZ f).1;omega
     cases V with
     |slfV _ _ A d=>
      obtain⟨rfl,_⟩:=C.virt hg d;obtain⟨z',p1,L,N,O⟩:=j.newM hg2 (.inl ⟨rfl,rfl⟩);exact⟨z',p1,L,N,.p _ _ _ (.mkSc (.inl ⟨A,O,rfl,rfl⟩) rfl)⟩
     |slf _ _ g G n c d W E hm=>
      let⟨b1,b2,b3,X⟩:=C.real hg d
      obtain⟨z',p1,L,N,O⟩:=j.newM hg2 (.inr ⟨g,G,n,rfl,b1,b2 rfl,X,λi ee aa n' I q2 q3=>by
       rw[a8Z B] at I;split at I
       .cases I
       .rename_i R;exact absurd rfl (C.inj i id _ _ _ _ _ _ _ _ R I (C.x hg (aSZ d)) q2 rfl q3 d λh=>bPZ B h.2)⟩)
      have T:l.length=n:=by let⟨cs,fr,a1,a2,a3,a4,_⟩:=X;exact a4
      refine⟨z',p1,L,N,.p _ _ _ (.mkSc (.inr ⟨g,G,n,c,O,?_⟩) rfl)⟩;show l.length<=c/\(0+c)*D.cells<=G/\c<=maxLen/\[Value.slice (some ⟨g,0,none⟩) n c]=[.slice (some ⟨g,0*D.cells,none⟩) l.length c];rw[T,ZBq,ZAz];exact⟨W,E,hm,rfl⟩
    .cases h
   .cases hh
  .cases h
 grind[ZAW,ZA1,Nx.refl]
theorem qwZ:∀{B} {l j} {z} {H H'} {vs},bH z H->ON H B l=some (j,H')->bQ z l vs->
 ∃z',z'.w=z.w/\bH z' H'/\Nx z z'/\bQ z' j vs
 |[],l,j,z,H,H',vs,p,h,d=>by
  have h:some (l,H)=some (j,H'):=by cases l<;>exact h
  grind[ZAW,ZA1,Nx.refl]
 |t::B,[],j,z,H,H',vs,p,h,d=>by
  simp[ON,ZA1] at h
  grind[Nx.refl]
 |t::B,a::l,j,z,H,H',vs,p,h,d=>by
  let⟨⟨x,H1⟩,G,h2⟩:=agZ.1 h
  let⟨⟨y,H2⟩,I,h4⟩:=ZAH.1 h2
  obtain⟨rfl,rfl⟩:=h4
  match vs,d with
  |[],d=>have:=d.1;simp at this
  |v::vs,d=>
   let⟨T,K,C,D,L⟩:=m6Z p G d.head
   let⟨N,p1,O,E,R⟩:=qwZ C I (d.tail.kp (D.kp p.sub))
   exact⟨N,p1.trans K,O,D.trans E,.cons (L.kp (E.kp C.sub)) R⟩
theorem rTZ{t}{a j}{H'}{v}(B:bH z H)(h:OO H t a=some (j,H'))(C:bE z a v):
 ∃z',z'.w=z.w/\bH z' H'/\Nx z z'/\bE z' j v:=by
 unfold OO at h;split at h
 .let⟨⟨N,H1⟩,D,h2⟩:=ZAH.1 h
  obtain⟨rfl,rfl⟩:=h2;cases C with|agg _ cs E G h4=>
  let⟨z',I,K,L,p⟩:=qwZ (vs:=cs.toList) B D ⟨by simp[E],λi a v p1 d=>h4 i a v p1 (by simpa using d)⟩
  refine⟨z',I,K,L,.agg _ _ ?_ G λi x v p1 d=>p.2 i x v p1 (by simpa using d)⟩;have:=p.1;simpa using this.symm
 grind[m6Z]
theorem pzZ{id g sz n i j}{t}{e}{u}{l}{a}{v}{b0}{K}{r:β}
 (h:vI P t e u l i j id a H K=some r)(T:bH z H)(hg:bF H id=some ⟨false,b0⟩)(C:z.ρ id= .real g sz n)(hb:gV z g sz n (.rows e u l))(ha:bE z a v):
 ∃H' z',(Instr.storeAt t (.pointer (some ⟨g,i*u.cells+j,none⟩)) v).run P z.w= .ok () z'.w/\bH z' H'/\Nx z z'/\K .junk H'=some r:=by
 have key:∀d,ty P t=some d->(asA d a λy=>l[i]?.bind λx=>upd u x j d y λx'=>K .junk (bR H id (some ⟨false,.rows e u (l.set i x')⟩)))=some r->
  ∃H' z',(Instr.storeAt t (.pointer (some ⟨g,i*u.cells+j,none⟩)) v).run P z.w= .ok () z'.w/\bH z' H'/\Nx z z'/\K .junk H'=some r:=by
  intro d p h
  let⟨y,G,h2⟩:=bRZ h ha
  let⟨x,W,h4⟩:=ZAG.1 h2
  have I:=T.low hg (aSZ C);exact haZ T (T.x hg (aSZ C)) C hb p W G h4 (λX=>.stat I hg I) (bPZ I)
 unfold vI at h;split at h
 .rename_i m N p;cases U:(decide (N=u)&&Nat.beq i 0&&Nat.beq j 0)<;>rw[U] at h<;>simp[bq_true,bq_false] at h
  .exact key _ p h
  .simp only[ZAF,ZAq,afZ] at U;obtain⟨⟨rfl,rfl⟩,rfl⟩:=U
   let⟨G,h2⟩:=aeZ.1 h
   let⟨X,W,h4⟩:=bRZ h2 ha
   let⟨h5,h6⟩:=aeZ.1 h4
   rw[afZ] at G h5
   let⟨t1,t2,t3,t4⟩:=cTZ p
   let⟨cs,fr,a1,a2,a3,a4,a5,a6,a7⟩:=hb
   let⟨c3,c4⟩:=W.cells
   have Y:=c3.len;have D:=by simpa[Ty.cells] using Y
   let⟨_,css,d1,d2,d3⟩:=c3
   let⟨z',s1,s2,s3⟩:=mJZ (P:=P) (t:=t) (o:=0*N.cells+0) (b:=.rows e N X) T hg C a1 a2.f (by omega) (by rw[D];exact t1) (by rw[D,<-G];omega) c4 (λz' k hw=>by
    refine⟨_,fr,hw,efZ a2 (amZ _ _ _),by rw[amZ];exact a3,by rw[h5,<-G];exact a4,by rw[h5,<-G];exact a5,a6,λV y' O=> ?_⟩;have E:V<css.length:=by
     have:=(ZAC.1 O).1;omega
    refine⟨css[V],(d3 V y' _ O (ZAB E)).kp k,λq w L=> ?_⟩;have B:∀u∈css,u.length=N.cells:=λu hu=>by
     let⟨k,hk⟩:=ZAT hu
     let⟨e,he⟩:=biZ (l:=X) (by rw[d1,h5]) hk
     exact(d3 k e u he hk).len
    have R:=by
     have:=(ZAC.1 L).1;rwa [B _ (ZBN E)] at this
    have aa:=mPZ E R;have ab:∀(css:List (List Value)) (k) (hk),(∀u∈css,u.length=N.cells)->∀q w,css[k][q]? =some w->css.flatten[k*N.cells+q]? =some w:=by
     intro css;induction css with
     |nil=>intro k hk;simp at hk
     |cons c css ih=>
      intro k hk hl q w L
      match k with
      |0=>
       simp at L;rw[ZCQ,ZBq,ZAz,ZAS (ZAC.1 L).1];exact L
      |k+1=>
       have U:=hl c (by simp);rw[ZCQ,ZAU (by rw[ZCD];omega)];have:=ih k (by simpa using hk) (λu hu=>hl u (by simp[hu])) q w (by simpa using L);rw[<-this];congr 1;rw[ZCD];omega
    have h7:=ab css V E B q w L;rw[avZ _ _ _ _ (by simp;rw[D,<-G];omega),ZAL (by simp;rw[D];rw[d1] at aa;omega)];rw[<-h7,<-d2];congr 1;omega)
   exact⟨_,z',s1,s2,s3,h6⟩
 .rename_i d ac p;exact key _ p h
 grind
theorem nIZ{t}{a x}{K}{r:β}{pv v}(h:qJ P t a x H K=some r)(E:bH z H)(ha:bE z a pv)(hx:bE z x v):
 ∃H' z',(Instr.storeAt t pv v).run P z.w= .ok () z'.w/\bH z' H'/\Nx z z'/\K .junk H'=some r:=by
 unfold qJ at h;split at h
 .rename_i es id i j;cases ha with
  |own _ _ _ _ g sz n d=>
   split at h
   .rename_i c hg
    let⟨vs,h1,h2⟩:=agZ.1 h
    let⟨I,h4⟩:=aeZ.1 h2
    simp only[ZAF,ZAl,ZAm,afZ] at I
    let⟨⟨h5,h6⟩,h7⟩:=I
    obtain⟨o,ho⟩:∃o,i*es+j=o:=⟨_,rfl⟩;rw[ho] at h4 h7⊢
    let⟨p1,D,_⟩:=cNZ h1 hx
    let⟨_,_,_,cs,e,fr,q1,q2,q3,⟨q4,qn⟩,q5,q6⟩:=E.real hg d
    have ad:P.cellsOf t≠0:=λh0=>by rw[h0] at h6;simp at h6
    have ae:=by have:=p1.1;simpa using this.symm
    obtain⟨z',O,R,T⟩:=mJZ (o:=o) (b:=.vars (setFrom c o vs)) E hg d q1 q2 ad (by omega) (by omega) D (λz' k hw=>by
     refine⟨_,e,fr,hw,usZ q2 (amZ _ _ _),by rw[amZ];exact q3,⟨by rw[cVZ];exact q4,qn⟩,λm a u hk L=> ?_,λu L=> ?_⟩
     .rw[dbZ _ _ _ _ h7] at hk;rw[avZ _ _ _ _ (by simp;omega)] at L;simp only[ZA5,ae] at L;by_cases ab:o<=m/\m<o+vs.length
      .rw[ZAL ab] at hk L;exact(p1.2 _ _ _ hk L).kp k
      .rw[ZAJ ab] at hk L;exact(q5 _ _ _ hk L).kp k
     .obtain⟨m,hm,rfl⟩:=Array.mem_iff_getElem.1 L;have p:=ZBE hm;generalize (eJ cs o v.cells.toList)[m]=u at p;rw[avZ _ _ _ _ (by simp;omega)] at p;split at p
      .exact D u (by have:=ZAI p;simpa using this)
      .exact q6 u (Array.mem_of_getElem? p))
    exact⟨_,z',O,R,T,h4⟩
   .rename_i e u l hg;cases B:Nat.beq es u.cells<;>rw[B] at h<;>simp only[bq_true,bq_false] at h
    .cases h
    rw[afZ] at B;subst B;cases U:u.noRef<;>rw[U] at h<;>simp only[bq_true,bq_false] at h
    .unfold SX at h
     let⟨ac,g1,h⟩:=agZ.1 h
     let⟨u',g2,h⟩:=agZ.1 h
     let⟨⟨a1,H1⟩,g3,h⟩:=agZ.1 h
     let⟨⟨a2,H2⟩,V,h⟩:=agZ.1 h
     let⟨W,h⟩:=aeZ.1 h
     let⟨x0,g6,h⟩:=ZAG.1 h
     let⟨z1,p1,D,p3,p4⟩:=rTZ E g3 hx
     let⟨z2,r1,r2,r3,r4,r5⟩:=bUZ D V p4
     obtain⟨G,hg1⟩:∃G,bF H2 id=some ⟨false,G⟩:=by
      simp only[HZ] at W;split at W
      .rename_i e' X
       let⟨fz,G⟩:=e'
       simp only[ZAl] at W;subst W;exact⟨G,X⟩
      .cases W
     have hn:=p3.trans r3;have C:z2.ρ id= .real g sz n:=by rw[hn.ext id (aSZ d)];exact d
     have hb:=(E.real hg d).2.2.2.kp (hn.kp E.sub) (by rw[r1,p1]);have Y:=r2.low hg1 (aSZ C)
     let⟨H',z',O,R,T,s4⟩:=jYZ r2 (r2.x hg1 (aSZ C)) C hb g1 g6 r5 h (λl'=>.stat Y hg1 Y) (bPZ Y)
     exact⟨H',z',by rw[<-p1,<-r1];exact O,R,hn.trans T,s4⟩
    let⟨⟨a',H1⟩,h1,h2⟩:=agZ.1 h
    let⟨I,h4⟩:=aeZ.1 h2
    let⟨z1,p1,D,p3,p4,p5⟩:=bUZ E h1 hx
    have hg1:∃G,bF H1 id=some ⟨false,G⟩:=by
     simp only[HZ] at I;split at I
     .rename_i e' X
      let⟨fz,G⟩:=e'
      simp only[ZAl] at I;subst I;exact⟨G,X⟩
     .cases I
    let⟨G,hg1⟩:=hg1
    have hb:=(E.real hg d).2.2.2.kp (p3.kp E.sub) (by rw[p1])
    let⟨H',z',O,R,T,s4⟩:=pzZ h4 D hg1 (by rw[p4];exact d) hb p5
    exact⟨H',z',by rw[<-p1];exact O,R,p3.trans T,s4⟩
   .cases h
 .rename_i f es k i j;unfold SY at h
  let⟨ac,g1,h⟩:=agZ.1 h
  let⟨⟨a1,H1⟩,g2,h⟩:=agZ.1 h
  obtain⟨z1,p1,D,p3,p4,p5⟩:=bUZ E g2 hx;split at h
  .rename_i e s ms hg;obtain⟨U,h⟩:=aeZ.1 h;obtain⟨m,g3,h⟩:=ZAG.1 h;obtain⟨V,h'⟩:=aeZ.1 h;clear h;simp only[ZAF,afZ] at V;obtain⟨⟨V,B⟩,W⟩:=V;subst B;clear W;have h:=h';obtain⟨y,g6,h⟩:=bRZ h p5;obtain⟨r0,g7,h⟩:=ZAG.1 h;cases ha with
   |rp _ _ _ _ _ g sz n d=>
    have N:z1.ρ (enc f k)= .real g sz n:=by rw[p4];exact d
    have aa:=hbZ hg g3 (by rw[V];omega);have af:((⟨false||Nat.ble 2 m.1,.rows e s m.2⟩:Ent))=⟨false,.rows e s m.2⟩:=by rw[V];rfl
    rw[af] at aa;obtain⟨H',z',O,R,T,s4⟩:=haZ D aa N (D.realX aa N).2.2.2 g1 g7 g6 h (λl'=>.mem hg (D.fam _ _ hg) g3 l') (mjZ U);exact⟨H',z',by rw[<-p1];exact O,R,p3.trans T,s4⟩
  .cases h
 grind
end
end
section
variable {P : Program} {β : Type} {z : Z} {H : Hp}
theorem OkP.mk'{s}{K}{r:β}{x}{v}(d:s.run P z.w= .ok v z.w)(h2:bE z x v)(h:K x=some r):OkP P s z K r:=⟨x,v,d,h2,h⟩
theorem a6Z{t n:Nat}(w)(h:P.cellsOf t=n)(h0:n≠0):(sizeOf t).run P w= .ok n w:=by
 have hi:=b7Z h h0;cases d:P.info? t with
 |none=>simp_all
 |some i=>simp[d] at hi;simp[sizeOf,typeInfo,d,hi]
theorem ehZ{s}{f o}{t}(h:nH P s f=some (o,t)):∃fs x,P.underlying s=some (.struct fs)/\fs[f]? =some x/\P.cellsOf x.type≠0/\x.offset=o/\x.type=t:=by
 unfold nH at h;split at h
 .rename_i fs d
  let⟨x,j,h2⟩:=agZ.1 h
  cases hb:Nat.beq (P.cellsOf x.type) 0<;>rw[hb] at h2<;>simp only[bq_true,bq_false] at h2
  .simp[ZA1] at h2;exact⟨fs,x,d,j,λh=>(by rw[h] at hb;cases hb),h2.1,h2.2⟩
  .cases h2
 grind
theorem euZ{s}{f o b p}{t}(h:nH P s f=some (o,t))(w):(Instr.fieldAt s (.pointer (some ⟨b,p,none⟩)) f).run P w= .ok (.pointer (some ⟨b,p+o,none⟩)) w:=by
 let⟨fs,x,j,h2,d,h4,h5⟩:=ehZ h
 have B:=a6Z w rfl d;simp[Instr.fieldAt,run_underlying j,h2,Instr.sureAddr,fieldPlace,B,d,h4,Addr.add_mid]
theorem huZ{s}{a}{f}{K}{r:β}{v}(h:iP P s a f K=some r)(B:bE z a v):OkP P (Instr.fieldAt s v f) z K r:=by
 unfold iP at h;split at h
 .rename_i o t es id i j p;cases B with
  |own _ _ _ _ g D n d=>exact .mk' (by rw[euZ p];rw[ZCE]) (.own _ _ _ _ _ _ _ d) h
 .rename_i o t u l i j p;cases B with
  |pt _ _ _ _ b off E C G=>exact .mk' (by rw[euZ p,ZCE (off+i*u.cells)]) (.pt _ _ _ _ _ _ E C G) h
 .rename_i o t I es k i j p;cases B with
  |rp _ _ _ _ _ g D n d=>exact .mk' (by rw[euZ p];rw[ZCE]) (.rp _ _ _ _ _ _ _ _ d) h
 grind
theorem btZ{t}{cs}{o n}(w)(h:gI P t=true)(j:P.cellsOf t=n)(h0:n≠0):(part t cs o).run P w= .ok (.agg (cs.extract o (o+n))) w:=by
 let⟨d,p,D⟩:=fcZ h
 have B:=a6Z w j h0;have C:(isAgg t).run P w= .ok true w:=by
  unfold isAgg;rw[Sem.run_bind,run_underlying p w];cases d<;>simp_all
 simp[part,C,B]
theorem bhZ{t}{cs}{o}{v}(w)(h:fW P t=true)(hv:cs[o]? =some v):(part t cs o).run P w= .ok v w:=by
 simp[part,kgZ w h,hv]
theorem u4Z{u}{t}{x}{cs}{o}{K}{r:β}(h:rZ P u t x o K=some r)(V:Cl z.w z.M z.ρ u x cs.toList):OkP P (part t cs o) z K r:=by
 unfold rZ at h
 let⟨B,I,h2⟩:=agZ.1 h
 let⟨L,W,N,O⟩:=cTZ I
 obtain⟨d,y,R,T,C,D⟩:∃(d:Ty) (y:d.den),d.cells=B.cells/\d.isAgg=B.isAgg/\Cl z.w z.M z.ρ d y ((cs.toList.drop o).take d.cells)/\K (.ofTy d y)=some r:=by
  cases E:u.noRef<;>rw[E] at h2<;>simp only[bq_true,bq_false] at h2
  .let⟨d,y,U,C,X,D⟩:=gsZ h2 V
   exact⟨d,y,by rw[<-U,a5Z],by rw[<-U,glZ],C,D⟩
  grind[kDZ]
 rw[<-R] at L W;rw[<-T] at N O;clear h2 I R T;have G:=C.len;cases j:d.isAgg
 .have p:d.cells=1:=by cases d<;>first|rfl|simp_all[Ty.isAgg]
  match hvs:(cs.toList.drop o).take d.cells,G with
  |[],G=>simp_all
  |_::_::_,G=>simp_all
  |[v],_=>
   rw[hvs] at C;have hv:=by
    have:((cs.toList.drop o).take d.cells)[0]? =some v:=by rw[hvs];rfl
    rw[p] at this;simpa using this
   exact .mk' (bhZ z.w (O j) hv) (ckZ (.mkSc C j)) D
 .refine .mk' (btZ z.w (N j) L.symm (by omega)) (ckZ ⟨_,C,?_⟩) D;rw[j];simp only[ZAM];congr 1
  grind
theorem oXZ{s}{a}{f}{K}{r:β}{v}(h:qL P s a f K=some r)(I:bE z a v):OkP P (Instr.field s v f) z K r:=by
 have p:∀{o t} {cs},nH P s f=some (o,t)->(Instr.field s (.agg cs) f).run P z.w=(part t cs o).run P z.w:=λ{o t cs} B=>by
  let⟨fs,x,L,h2,N,h4,h5⟩:=ehZ B
  simp[Instr.field,run_underlying L,h2,asAgg,h4,h5]
 unfold qL at h;split at h
 .rename_i o t c B
  let⟨fs,x,L,h2,N,h4,h5⟩:=ehZ B
  cases I with|agg _ cs T U V=>
  have O:bQ z c cs.toList:=⟨by simp[T],λi a v p1 j=>V i a v p1 (by simpa using j)⟩;cases d:gI P t<;>rw[d] at h<;>simp[bq_false] at h
  .cases C:fW P t<;>rw[C] at h<;>simp only[bq_true,bq_false] at h
   .cases h
   .let⟨a',p1,j⟩:=agZ.1 h
    let⟨v,W,X⟩:=O.get p1
    exact .mk' (by rw[p B];exact bhZ z.w C (by simpa using W)) X j
  .let⟨p1,j⟩:=aeZ.1 h
   rw[ZAm] at p1;have h0:P.cellsOf t≠0:=by rw[<-h5];exact N
   have R:=(O.drop o).take (P.cellsOf t);refine .mk' (by rw[p B];exact btZ z.w d rfl h0) (.agg _ _ ?_ (λv hv=> ?_) (λi x v E G=>R.2 i x v E ?_)) j
   .have:=R.1;rw[this];rw[<-Array.length_toList];simp
   .have D:=ZBH.2 hv;rw[ZCO] at D;exact U v (ZBH.1 (ZCi (ZBx (by simpa[List.extract] using D))))
   .have:(cs.extract o (o+P.cellsOf t)).toList[i]? =some v:=by rw[ZA7];exact G
    rw[ZCO,ZCJ,ZA6] at this;exact this
 .rename_i o t u x B;cases d:u.isAgg<;>rw[d] at h<;>simp only[bq_true,bq_false] at h
  .cases h
  .let⟨vs,p1,j⟩:=I.v
   rw[d] at j;simp at j;subst j;obtain⟨y,v,E,G,Y⟩:=u4Z h (by simpa using p1);exact .mk' (by rw[p B];exact E) G Y
 grind
theorem bYZ{i}{n q}(h:bJ i n=some q):0<=i/\i<n/\i.toNat=q:=by
 simp_all[bJ]
theorem czZ{i}{n q}(h:cO i n=some q):0<=i/\i<=n/\i.toNat=q:=by
 simp_all[cO]
theorem dSZ{es id}{K}{r:β}(h:kZ H es id K=some r):∃fz e u l,bF H id=some ⟨fz,.rows e u l⟩/\es=u.cells/\K u l=some r:=by
 grind[kZ,Nat.beq,bq_true,bq_false,afZ]
theorem hKZ{es id n}{v}(h:xA H es id=some n)(p:bH z H)(B:bE z (.slf es id) v):
 es=1/\∃g j c,z.ρ id= .real g j n/\v= .slice (some ⟨g,0,none⟩) n c/\n<=c/\c<=maxLen:=by
 unfold xA at h;split at h
 .rename_i fz c hg;cases hb:Nat.beq es 1<;>rw[hb] at h<;>simp only[bq_true,bq_false] at h
  .cases h
  .rw[afZ] at hb;simp at h;subst h;cases B with
   |slfV _ _ A d=>exact absurd (p.virt hg d) (λh=>h)
   |slf _ _ g j n k d C E hm=>
    let⟨_,_,_,cs,e,G,I,K,L,⟨N,O⟩,_⟩:=p.real hg d
    have D:n=c.length:=by omega
    subst D;exact⟨hb,g,j,k,d,rfl,C,hm⟩
 grind
theorem jmZ{es id}{v}{fz}{e}{u}{l}(p:bH z H)(hg:bF H id=some ⟨fz,.rows e u l⟩)(B:bE z (.slf es id) v):
 ∃A c,v= .slice A l.length c/\l.length<=c/\(l.length≠0->∃g j n,z.ρ id= .real g j n/\A=some ⟨g,0,none⟩/\c*es<=j/\c<=maxLen)/\
  (z.ρ id= .virt\/∃g j n,z.ρ id= .real g j n/\A=some ⟨g,0,none⟩/\c*es<=j/\c<=maxLen)/\c<=maxLen:=by
 cases B with
 |slfV _ _ A d=>
  obtain⟨rfl,_⟩:=p.virt hg d;exact⟨A,0,rfl,ZAN _,λh=>absurd rfl h,.inl d,by omega⟩
 |slf _ _ g j n c d C E hm=>
  let⟨_,_,_,cs,G,I,K,L,D,N,O,R⟩:=p.real hg d
  rw[<-D] at C⊢
  grind
theorem aVZ{t e}{b o n c q m:Nat}{k}{x:Int}(w)(h:P.underlying t=some (.slice e))(h0:0<=x)(j:x<n)(h2:x.toNat=q)(hm:P.cellsOf e=m)(d:m≠0):
 (Instr.indexAt t (.slice (some ⟨b,o,none⟩) n c) (.int k x)).run P w= .ok (.pointer (some ⟨b,o+q*m,none⟩)) w:=by
 have p:=a6Z w hm d;simp[Instr.indexAt,asIntOf,run_underlying h,h0,j,p,h2,Addr.add_mid]
theorem byZ{t e}{b o n q m}{k}{x:Int}(w)(h:P.underlying t=some (.array n e))(h0:0<=x)(j:x<n)(h2:x.toNat=q)(hm:P.cellsOf e=m)(d:m≠0):
 (Instr.indexAt t (.pointer (some ⟨b,o,none⟩)) (.int k x)).run P w= .ok (.pointer (some ⟨b,o+q*m,none⟩)) w:=by
 have p:=a6Z w hm d;simp[Instr.indexAt,asIntOf,run_underlying h,h0,j,p,h2,Addr.add_mid,Instr.sureAddr]
end
end Go.Ab
