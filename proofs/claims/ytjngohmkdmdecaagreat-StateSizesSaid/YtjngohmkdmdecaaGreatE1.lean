/- An evaluator of the model's code over plain values, and its soundness; of no program. -/
import Derived.Calls
import Derived.Laws.Sem
import Derived.Deep.MidRow
import Derived.Below
import Derived.Laws.StructEq
import Derived.Laws.Cover3
import Derived.ChangeKeysEq
import Derived.Laws.BytesString
set_option linter.all false
namespace Go.Ab
theorem ZAA:type_of% @Option.bind_some:=@Option.bind_some
theorem ZAB:type_of% @List.getElem?_eq_some_iff:=@List.getElem?_eq_some_iff
theorem ZAC:type_of% @List.getElem?_eq_getElem:=@List.getElem?_eq_getElem
theorem ZAD:type_of% @cond_false:=@cond_false
theorem ZAE:type_of% @Bool.and_eq_true:=@Bool.and_eq_true
theorem ZAG:type_of% @Option.bind_eq_some_iff:=@Option.bind_eq_some_iff
theorem ZAH:type_of% @Option.map_eq_some_iff:=@Option.map_eq_some_iff
theorem ZAI:type_of% @List.mem_of_getElem?:=@List.mem_of_getElem?
theorem ZAK:type_of% @if_neg:=@if_neg
theorem ZAL:type_of% @cond_true:=@cond_true
theorem ZAM:type_of% @if_pos:=@if_pos
theorem ZAN:type_of% @Nat.le_refl:=@Nat.le_refl
theorem ZAQ:type_of% @List.getElem?_set_self:=@List.getElem?_set_self
theorem ZAR:type_of% @List.getElem?_of_mem:=@List.getElem?_of_mem
theorem ZAS:type_of% @List.length_take:=@List.length_take
theorem ZAT:type_of% @List.getElem?_append_left:=@List.getElem?_append_left
theorem ZAU:type_of% @List.getElem?_append_right:=@List.getElem?_append_right
theorem ZAV:type_of% @Option.some.injEq:=@Option.some.injEq
theorem ZAX:type_of% @List.getElem?_set_ne:=@List.getElem?_set_ne
theorem ZAY:type_of% @List.eq_nil_of_length_eq_zero:=@List.eq_nil_of_length_eq_zero
theorem ZAd:type_of% @Nat.mul_le_mul_right:=@Nat.mul_le_mul_right
theorem ZAe:type_of% @List.length_append:=@List.length_append
theorem ZAf:type_of% @Option.some.inj:=@Option.some.inj
theorem ZAg:type_of% @List.getElem?_eq_none:=@List.getElem?_eq_none
theorem ZAh:type_of% @List.mem_append:=@List.mem_append
theorem ZAi:type_of% @Nat.ble_eq_true_of_le:=@Nat.ble_eq_true_of_le
theorem ZAj:type_of% @List.mem_cons:=@List.mem_cons
theorem ZAk:type_of% @Bool.not_eq_true':=@Bool.not_eq_true'
theorem ZAm:type_of% @Nat.ble_eq:=@Nat.ble_eq
theorem ZAn:type_of% @Nat.add_mul:=@Nat.add_mul
theorem ZAp:type_of% @decide_eq_true_eq:=@decide_eq_true_eq
theorem ZAr:type_of% @List.append_nil:=@List.append_nil
theorem ZAu:type_of% @List.length_drop:=@List.length_drop
theorem ZAv:type_of% @List.take_of_length_le:=@List.take_of_length_le
theorem ZAw:type_of% @List.append_assoc:=@List.append_assoc
theorem ZAy:type_of% @List.getElem?_drop:=@List.getElem?_drop
theorem ZA0:type_of% @Prod.mk.injEq:=@Prod.mk.injEq
theorem ZA1:type_of% @Nat.zero_add:=@Nat.zero_add
theorem ZA3:type_of% @Bool.or_eq_true:=@Bool.or_eq_true
theorem ZA5:type_of% @Nat.add_sub_cancel_left:=@Nat.add_sub_cancel_left
theorem ZA6:type_of% @Array.getElem?_toList:=@Array.getElem?_toList
theorem ZBB:type_of% @List.take_append_drop:=@List.take_append_drop
theorem ZBC:type_of% @Array.getElem?_eq_getElem:=@Array.getElem?_eq_getElem
theorem ZBD:type_of% @Array.length_toList:=@Array.length_toList
theorem ZBE:type_of% @List.drop_of_length_le:=@List.drop_of_length_le
theorem ZBF:type_of% @Nat.le_trans:=@Nat.le_trans
theorem ZBG:type_of% @Nat.zero_le:=@Nat.zero_le
theorem ZBJ:type_of% @Array.mem_toList_iff:=@Array.mem_toList_iff
theorem ZBK:type_of% @List.getElem_mem:=@List.getElem_mem
theorem ZBM:type_of% @Nat.le_of_ble_eq_true:=@Nat.le_of_ble_eq_true
theorem ZBN:type_of% @Nat.not_le:=@Nat.not_le
theorem ZBQ:type_of% @List.take_append_of_le_length:=@List.take_append_of_le_length
theorem ZBe:type_of% @List.nil_append:=@List.nil_append
theorem ZBh:type_of% @List.getElem?_take_of_lt:=@List.getElem?_take_of_lt
theorem ZBj:type_of% @Ne.symm:=@Ne.symm
theorem ZBk:type_of% @and_true:=@and_true
theorem ZBn:type_of% @Nat.zero_mul:=@Nat.zero_mul
theorem ZBp:type_of% @beq_iff_eq:=@beq_iff_eq
theorem ZBr:type_of% @Array.eq_empty_of_size_eq_zero:=@Array.eq_empty_of_size_eq_zero
theorem ZBs:type_of% @Nat.eq_zero_or_pos:=@Nat.eq_zero_or_pos
theorem ZBv:type_of% @List.drop_append_of_le_length:=@List.drop_append_of_le_length
theorem ZBy:type_of% @Nat.lt_or_ge:=@Nat.lt_or_ge
theorem ZB3:type_of% @Nat.eq_of_beq_eq_true:=@Nat.eq_of_beq_eq_true
theorem ZB4:type_of% @Nat.succ_mul:=@Nat.succ_mul
theorem ZB5:type_of% @Nat.add_assoc:=@Nat.add_assoc
theorem ZCA:type_of% @List.drop_zero:=@List.drop_zero
theorem ZCB:type_of% @List.extract_eq_take_drop:=@List.extract_eq_take_drop
theorem ZCG:type_of% @List.mem_of_mem_take:=@List.mem_of_mem_take
theorem ZCH:type_of% @Array.toList_extract:=@Array.toList_extract
theorem ZCK:type_of% @List.flatten_cons:=@List.flatten_cons
theorem ZCc:type_of% @Nat.mod_lt:=@Nat.mod_lt
theorem ZCf:type_of% @List.mem_of_mem_drop:=@List.mem_of_mem_drop
theorem ZCg:type_of% @Nat.le_add_right:=@Nat.le_add_right
theorem ZCh:type_of% @List.drop_append:=@List.drop_append
def hg1:Unit:=()
def hg2:Unit:=hg1
def hg3:Unit:=hg2
def hg4:Unit:=hg3
def hg5:Unit:=hg4
def _root_.Option.ob{α β:Type}(x:Option α)(f:α->Option β):Option β:=(λ(_:Unit)=>match x with|some a=>f a|none=>none) hg5
def bq{α:Type}(b:Bool)(x y:α):α:=(λ(_:Unit)=>match b with|true=>x|false=>y) hg5
inductive Ty where
 |int (k:IntKind)|byte|bool|str|opq|nat
 |sl (t:Ty)|one (t:Ty)|pair (a b:Ty)|arr (n:Nat) (t:Ty)
 |ref (f:Nat) (t:Ty)
 |ptr (t:Ty)
 deriving DecidableEq
@[reducible] def Ty.den:Ty->Type
  |.int _=>Int
  |.byte=>UInt8
  |.bool=>Bool
  |.str=>List UInt8
  |.opq=>Value
  |.nat=>Nat
  |.sl t=>List t.den
  |.one t=>t.den
  |.pair a b=>a.den×b.den
  |.arr _ t=>List t.den
  |.ref _ t=>List t.den⊕Option (Nat×(Nat×Nat))
  |.ptr t=>List t.den
def Ty.cells:Ty->Nat
 |.one t=>t.cells
 |.pair a b=>a.cells+b.cells
 |.arr n t=>n*t.cells
 |_=>1
def Ty.unref:Ty->Ty
 |.ref _ t=>.sl t
 |.one t=>.one t.unref
 |.pair a b=>.pair a.unref b.unref
 |.int k=>.int k
 |.byte=>.byte
 |.bool=>.bool
 |.str=>.str
 |.opq=>.opq
 |.nat=>.nat
 |.sl t=>.sl t
 |.arr n t=>.arr n t
 |.ptr t=>.ptr t
def dE:(t:Ty)->t.unref.den->t.den
 |.ref _ _,l=>.inl l
 |.one t,x=>dE t x
 |.pair a b,x=>(dE a x.1,dE b x.2)
 |.int _,x=>x
 |.byte,x=>x
 |.bool,x=>x
 |.str,x=>x
 |.opq,x=>x
 |.nat,x=>x
 |.sl _,x=>x
 |.arr _ _,x=>x
 |.ptr _,x=>x
def cH(n:Nat):List Nat->Bool
 |[]=>false
 |i::r=>bif Nat.beq i n then true else cH n r
def Ty.famIn(fs:List Nat):Ty->Bool
 |.ref f t=>cH (f%16) fs&&t.famIn fs
 |.sl t=>t.famIn fs
 |.one t=>t.famIn fs
 |.pair a b=>a.famIn fs&&b.famIn fs
 |.arr _ t=>t.famIn fs
 |.ptr t=>t.famIn fs
 |_=>true
def Ty.isAgg:Ty->Bool
 |.one _|.pair _ _|.arr _ _=>true
 |_=>false
def Ty.noRef:Ty->Bool
 |.ref _ _=>false
 |.sl t=>t.noRef
 |.one t=>t.noRef
 |.pair a b=>a.noRef&&b.noRef
 |.arr _ t=>t.noRef
 |.ptr t=>t.noRef
 |_=>true
def Ty.zero:(t:Ty)->t.den
 |.int _=>(0:Int)
 |.byte=>(0:UInt8)
 |.bool=>false
 |.str=>([]:List UInt8)
 |.opq=>.nilFunc
 |.nat=>(0:Nat)
 |.sl t=>([]:List t.den)
 |.one t=>t.zero
 |.pair a b=>(a.zero,b.zero)
 |.arr n t=>List.replicate n t.zero
 |.ref _ _=>.inr none
 |.ptr t=>([]:List t.den)
def kU{α:Type}(f:α->α->Bool):List α->List α->Bool
 |[],[]=>true
 |a::l,b::r=>f a b&&kU f l r
 |_,_=>false
def Ty.eqb:(t:Ty)->t.den->t.den->Bool
 |.int _,(a:Int),(b:Int)=>a==b
 |.byte,(a:UInt8),(b:UInt8)=>a==b
 |.bool,(a:Bool),(b:Bool)=>a==b
 |.str,(a:List UInt8),(b:List UInt8)=>a==b
 |.one t,a,b=>t.eqb a b
 |.pair s t,a,b=>s.eqb a.1 b.1&&t.eqb a.2 b.2
 |.arr _ t,a,b=>kU t.eqb a b
 |_,_,_=>false
def Ty.keyed:Ty->Bool
 |.int _|.byte|.bool|.str=>true
 |.one t=>t.keyed
 |.pair s t=>s.keyed&&t.keyed
 |.arr _ t=>t.keyed
 |_=>false
def Ty.to{t u:Ty}(h:t=u)(x:t.den):u.den:=h▸x
def Ty.toL{t u:Ty}(h:t=u)(l:List t.den):List u.den:=h▸l
abbrev rF(k v:Ty):Type:=List ((k.den×v.den)×Nat)×Nat
abbrev HH(k v:Ty):Ty:=.pair (.sl (.pair (.pair k v) .nat)) .nat
section
variable {k v : Ty}
def eI:List ((k.den×v.den)×Nat)->k.den->Option (v.den×Nat)
 |[],_=>none
 |((a,b),n)::r,x=>bif k.eqb x a then some (b,n) else eI r x
def lG(m:rF k v)(x:k.den):Option v.den:=(eI m.1 x).map (·.1)
def wD:List ((k.den×v.den)×Nat)->k.den->v.den->List ((k.den×v.den)×Nat)
 |[],_,_=>[]
 |((a,b),n)::r,x,y=>bif k.eqb x a then((x,y),n)::r else((a,b),n)::wD r x y
def mN(m:rF k v)(x:k.den)(y:v.den):rF k v:=
 match eI m.1 x with
 |some _=>(wD m.1 x y,m.2)
 |none=>(m.1++[((x,y),m.2)],m.2+1)
def xJ:List ((k.den×v.den)×Nat)->k.den->List ((k.den×v.den)×Nat)
 |[],_=>[]
 |((a,b),n)::r,x=>bif k.eqb x a then r else((a,b),n)::xJ r x
def VA(m:rF k v)(x:k.den):rF k v:=(xJ m.1 x,m.2)
def UT(m:rF k v)(x:k.den):Nat:=
 match eI m.1 x with
 |some e=>e.2
 |none=>m.2
def VB(m:rF k v)(x:k.den):rF k v:=
 match eI m.1 x with
 |some e=>(wD m.1 x e.1,m.2)
 |none=>(m.1++[((x,v.zero),m.2)],m.2+1)
def DD:List ((k.den×v.den)×Nat)->Int->v.den->Option (List ((k.den×v.den)×Nat))
 |[],_,_=>none
 |((a,b),n)::r,i,y=>bif (n:Int)==i then some (((a,y),n)::r) else(DD r i y).map (((a,b),n)::·)
def UJ(m:rF k v)(i:Int)(y:v.den):Option (rF k v):=(DD m.1 i y).map λl=>(l,m.2)
end
def dq{β:Type}(t u:Ty)(K:t=u->Option β)(E:Option β):Option β:=(fun(_:Unit)=>match(inferInstance:Decidable (t=u)) with|.isTrue h=>K h|.isFalse _=>E) hg5
def HL:List Ty->Type
 |[]=>Unit
 |t::r=>t.den×HL r
@[reducible] def TD:List Ty->Type
  |[]=>Unit
  |[t]=>t.den
  |t::u::r=>t.den×TD (u::r)
def DE:(R:List Ty)->HL R->TD R
 |[],_=>()
 |[_],x=>x.1
 |_::u::r,x=>(x.1,DE (u::r) x.2)
def gA:(R:List Ty)->TD R->HL R
 |[],_=>()
 |[_],x=>(x,())
 |_::u::r,x=>(x.1,gA (u::r) x.2)
inductive AV where
 |p (t:Ty) (x:t.den)
 |pt (t:Ty) (l:List t.den) (i j:Nat)
 |own (es id i j:Nat)
 |rp (f es k i j:Nat)
 |sl (es id off n:Nat)
 |slf (es id:Nat)
 |mp (id:Nat)
 |fn (f:FuncId) (first caps:List AV)
 |agg (l:List AV)
 |tup (l:List AV)
 |junk
instance:Inhabited AV:=⟨.junk⟩
inductive Blk where
 |vars (c:List AV)
 |rows (e:TypeId) (t:Ty) (l:List t.den)
 |map (kt vt:Ty) (m:rF kt vt)
 |fmap (kt:Ty) (l:List (kt.den×AV))
 |fam (e:TypeId) (s:Ty) (ms:List (Nat×List s.den))
structure Ent where
 fz:Bool
 b:Blk
abbrev Hp:=List (Nat×Option Ent)
abbrev AV.i(k:IntKind)(n:Int):AV:=.p (.int k) n
abbrev AV.b(t:Bool):AV:=.p .bool t
abbrev AV.s(l:List UInt8):AV:=.p .str l
def AV.ofTy:(t:Ty)->t.den->AV
 |.byte,c=>.p (.int .u8) (c.toNat:Int)
 |t,x=>.p t x
def DF:(t:Ty)->t.den->(u:Ty)->Option u.den
 |.opq,.slice none 0 0,.sl s=>some ([]:List s.den)
 |.opq,.slice none 0 0,.ref _ _=>some (.inr none)
 |.opq,.pointer none,.ptr s=>some ([]:List s.den)
 |.sl s,l,.ref _ R=>if h:s=R then some (.inl (Ty.toL h l)) else none
 |_,_,_=>none
def SG(f:FuncId):(u:Ty)->Option u.den
 |.opq=>some (.func (.func f) #[] #[])
 |_=>none
def AV.get?(u:Ty):AV->Option u.den
 |.p t x=>if h:t=u then some (h▸x) else DF t x u
 |.fn f [] []=>SG f u
 |_=>none
def AV.int?(k:IntKind)(a:AV):Option Int:=a.get? (.int k)
def AV.bool?(a:AV):Option Bool:=a.get? .bool
def AV.str?(a:AV):Option (List UInt8):=a.get? .str
def TJ:(t:Ty)->t.den->Option Int
 |.int _,n=>some n
 |_,_=>none
def AV.any? :AV->Option Int
 |.p t x=>TJ t x
 |_=>none
def AV.tup? :AV->Option (List AV)
 |.tup l=>some l
 |_=>none
def pA(n:Int):Option UInt8:=if 0<=n/\n<256 then some (UInt8.ofNat n.toNat) else none
def bH(i:Int)(n:Nat):Option Nat:=if 0<=i/\i<n then some i.toNat else none
def cT(i:Int)(n:Nat):Option Nat:=if 0<=i/\i<=n then some i.toNat else none
def TK{α:Type}(l:List α)(i:Nat):Option (List α):=if i<l.length then some (l.drop i) else none
def bO{β:Type}(b:Bool)(K:Option β):Option β:=(λ(_:Unit)=>match b with|true=>K|false=>none) hg3
def bG:Hp->Nat->Option Ent
 |[],_=>none
 |(i,e)::r,id=>bif Nat.beq i id then e else bG r id
def bM:Hp->Nat->Bool
 |[],_=>false
 |(i,_)::r,id=>bif Nat.beq i id then true else bM r id
def bS:Hp->Nat->Option Ent->Hp
 |[],id,e=>[(id,e)]
 |(i,x)::r,id,e=>bif Nat.beq i id then(i,e)::r else(i,x)::bS r id e
section
variable {β : Type}
def split:(t:Ty)->t.den->List AV
 |.one t,x=>split t x
 |.pair a b,x=>split a x.1++split b x.2
 |.arr _ _,_=>[]
 |t,x=>[.ofTy t x]
def IP:AV->Bool
 |.p t _=>t.isAgg
 |.agg _=>true
 |_=>false
def eS:AV->Option (List AV)
 |.p t x=>bif Nat.beq (split t x).length t.cells then some (split t x) else none
 |.agg l=>some l
 |.tup _=>none
 |.junk=>none
 |a=>some [a]
def FG{R:Type}(f:List AV->(R->Option β)->Option β)(c:Nat):Nat->List AV->(List R->Option β)->Option β
 |0,_,K=>K []
 |n+1,cs,K=>f (cs.take c) λx=>FG f c n (cs.drop c) λl=>K (x::l)
def asm:(t:Ty)->List AV->(t.den->Option β)->Option β
 |.byte,cs,K=>((cs.headD .junk).int? .u8).ob λn=>(pA n).bind K
 |.one t,cs,K=>asm t cs K
 |.pair a b,cs,K=>asm a (cs.take a.cells) λx=>asm b (cs.drop a.cells) λy=>K (x,y)
 |.arr n t,cs,K=>FG (asm t) t.cells n cs K
 |.ptr t,cs,K=>match cs.headD .junk with
  |.pt u l i 0=>dq u t (λh=>(TK (Ty.toL h l) i).bind K) none
  |a=>(a.get? (.ptr t)).ob K
 |u,cs,K=>((cs.headD .junk).get? u).ob K
def asC(u:Ty)(a:AV)(K:u.den->Option β):Option β:=
 (eS a).ob λcs=>bO (Nat.beq cs.length u.cells&&(IP a==u.isAgg))<|asm u cs K
def asA(u:Ty)(a:AV)(K:u.den->Option β):Option β:=
 match a with
 |.p t x=>dq t u (λh=>K (Ty.to h x)) (asC u (.p t x) K)
 |a=>asC u a K
def sub:(t:Ty)->t.den->Nat->(u:Ty)->(u.den->Option β)->Option β
 |.one t,x,o,u,K=>dq (.one t) u (λh=>bq (Nat.beq o 0) (K (Ty.to h x)) none) (sub t x o u K)
 |.pair a b,x,o,u,K=>dq (.pair a b) u (λh=>bq (Nat.beq o 0) (K (Ty.to h x)) none)
  (bq (Nat.blt o a.cells) (sub a x.1 o u K) (sub b x.2 (o-a.cells) u K))
 |t,x,o,u,K=>dq t u (λh=>bq (Nat.beq o 0) (K (Ty.to h x)) none) none
def upd:(t:Ty)->t.den->Nat->(u:Ty)->u.den->(t.den->Option β)->Option β
 |.one t,x,o,u,y,K=>dq u (.one t) (λh=>bq (Nat.beq o 0) (K (Ty.to h y)) none) (upd t x o u y K)
 |.pair a b,x,o,u,y,K=>dq u (.pair a b) (λh=>bq (Nat.beq o 0) (K (Ty.to h y)) none)
  (bq (Nat.blt o a.cells) (upd a x.1 o u y λz=>K (z,x.2)) (upd b x.2 (o-a.cells) u y λz=>K (x.1,z)))
 |t,_,o,u,y,K=>dq u t (λh=>bq (Nat.beq o 0) (K (Ty.to h y)) none) none
end
mutual
def AV.ren(f:Nat->Option Nat):AV->AV
 |.p t x=>.p t x
 |.pt t l i j=>.pt t l i j
 |.own es id i j=>match f id with|some k=>.own es k i j|none=>.junk
 |.rp g es k i j=>.rp g es k i j
 |.sl es id off n=>match f id with|some k=>.sl es k off n|none=>.junk
 |.slf es id=>match f id with|some k=>.slf es k|none=>.junk
 |.mp id=>match f id with|some k=>.mp k|none=>.junk
 |.fn g a c=>.fn g (AV.renL f a) (AV.renL f c)
 |.agg l=>.agg (AV.renL f l)
 |.tup l=>.tup (AV.renL f l)
 |.junk=>.junk
def AV.renL(f:Nat->Option Nat):List AV->List AV
 |[]=>[]
 |a::l=>AV.ren f a::AV.renL f l
end
def Blk.ren(f:Nat->Option Nat):Blk->Blk
 |.vars c=>.vars (AV.renL f c)
 |.rows e t l=>.rows e t l
 |.map k v m=>.map k v m
 |.fmap k l=>.fmap k (l.map λx=>(x.1,AV.ren f x.2))
 |.fam e s R=>.fam e s R
def Ent.ren(f:Nat->Option Nat)(e:Ent):Ent:=⟨e.fz,e.b.ren f⟩
mutual
def AV.ids:AV->List Nat
 |.own _ id _ _=>[id]
 |.sl _ id _ _=>[id]
 |.slf _ id=>[id]
 |.mp id=>[id]
 |.fn _ a c=>AV.idsL a++AV.idsL c
 |.agg l=>AV.idsL l
 |.tup l=>AV.idsL l
 |_=>[]
def AV.idsL:List AV->List Nat
 |[]=>[]
 |a::l=>AV.ids a++AV.idsL l
end
def Ent.ids(e:Ent):List Nat:=
 match e.b with
 |.vars c=>AV.idsL c
 |.fmap _ l=>l.flatMap λx=>AV.ids x.2
 |_=>[]
def reach(H:Hp):Nat->List Nat->List Nat->List Nat
 |0,_,R=>R
 |_+1,[],R=>R
 |n+1,id::aa,R=>
  bif cH id R then reach H n aa R else
  match bG H id with
  |none=>reach H n aa R
  |some e=>reach H n (e.ids++aa) (R++[id])
def uV:Nat:=1000
def kF:List Nat->Bool
 |[]=>true
 |i::r=> !cH i r&&kF r
def gB:List (Nat×Nat)->Nat->Option Nat
 |[],_=>none
 |(i,k)::r,id=>bif Nat.beq i id then some k else gB r id
def iT(H:Hp)(f:Nat->Option Nat):List (Nat×Nat)->Hp
 |[]=>[]
 |(id,k)::r=>match bG H id with
  |some e=>(k,some (e.ren f))::iT H f r
  |none=>iT H f r
def iU(H:Hp):List Nat->Bool
 |[]=>true
 |i::r=>(match bG H i with|some _=>true|none=>false)&&iU H r
def mZ:List Nat->List Nat->Bool
 |[],_=>true
 |i::r,l=>cH i l&&mZ r l
def eqN:List Nat->List Nat->Bool
 |[],[]=>true
 |i::r,k::l=>Nat.beq i k&&eqN r l
 |_,_=>false
def bC:Nat:=1000000
def enc(f k:Nat):Nat:=bC+(16*k+f%16)
def bA:Nat:=999984
def bZ(f:Nat):Nat:=bA+f%16
def kT:List Nat->List Nat
 |[]=>[]
 |i::r=>bif Nat.ble bA i then kT r else i::kT r
def sB:List Nat->List Nat
 |[]=>[]
 |i::r=>bif Nat.ble bA i then i::sB r else sB r
def zQ:List Nat->List (Nat×Nat)
 |[]=>[]
 |i::r=>(i,i)::zQ r
def iM:List Nat->List Nat
 |[]=>[]
 |i::r=>bif Nat.ble bA i then(i-bA)::iM r else iM r
def cQ:Nat->List Nat->List Nat
 |_,[]=>[]
 |n,i::r=>bif Nat.ble bA i then i::cQ n r else n::cQ (n+1) r
def uW:List (Nat×Nat)->Bool
 |[]=>true
 |(i,k)::r=>(Nat.beq i k||(Nat.blt i bA&&Nat.blt k bA))&&uW r
def nA:Hp->List Nat
 |[]=>[]
 |(k,_)::r=>k::nA r
def tJ:List Nat->Bool
 |[]=>true
 |i::r=>Nat.blt i bC&&tJ r
def nX:Nat->Nat->List Nat
 |_,0=>[]
 |k,n+1=>k::nX (k+1) n
def NX(n:Nat):List (Nat×Nat)->Bool
 |[]=>true
 |(i,k)::r=>(Nat.beq i k||(Nat.ble n i&&Nat.ble n k))&&NX n r
def rQ(H:Hp):Nat->Hp
 |0=>H
 |n+1=>bif bM H n||Nat.ble bA n then rQ H n else(n,none)::rQ H n
def lH:List Nat->List Nat->List (Nat×Nat)
 |i::r,k::ks=>(i,k)::lH r ks
 |_,_=>[]
def lZ:List (Nat×Nat)->List Nat
 |[]=>[]
 |(i,_)::r=>i::lZ r
def kG:List (Nat×Nat)->List Nat
 |[]=>[]
 |(_,k)::r=>k::kG r
inductive Tr where
 |lf
 |nd (l:Tr) (v:AV) (r:Tr)
def Tr.get:Tr->Nat->AV
 |.lf,_=>.junk
 |.nd l v r,n=>bif Nat.beq n 0 then v else bif Nat.beq (n%2) 1 then l.get (n/2) else r.get (n/2-1)
def Tr.put:Tr->Nat->AV->Tr
 |.lf,_,_=>.lf
 |.nd l v r,n,a=>bif Nat.beq n 0 then .nd l a r else bif Nat.beq (n%2) 1 then .nd (l.put (n/2) a) v r else .nd l v (r.put (n/2-1) a)
def Tr.full:Nat->Tr
 |0=>.lf
 |d+1=>.nd (Tr.full d) .junk (Tr.full d)
structure St where
 tm:Tr
 nt:Nat
 n0:Nat
 hp:Hp
def AV.lit:Value->AV
 |.int k n=>.p (.int k) n
 |.bool b=>.p .bool b
 |.string s=>.p .str s.data.toList
 |.agg _=>.junk
 |.tuple _=>.junk
 |v=>.p .opq v
def pB:List Value->Bool
 |[]=>true
 |.agg _::_=>false
 |.tuple _::_=>false
 |_::r=>pB r
def St.opnd(st:St):Operand->AV
 |.tmp t=>bq (Nat.blt t 1048576) (st.tm.get t) .junk
 |.const (.agg cs)=>bq (pB cs.toList) (.agg (cs.toList.map AV.lit)) .junk
 |.const v=>.lit v
 |.global g=>st.tm.get (1048576+g)
 |.func f=>.fn f [] []
def St.putO(st:St)(d:Option Nat)(a:AV):St:=
 match d with
 |some d=>{st with tm:=st.tm.put d a}
 |none=>st
def mH(nt:Nat):Option Nat->Bool
 |some d=>Nat.blt d nt&&Nat.blt d 1048576
 |none=>true
mutual
inductive Kd where
 |p (t:Ty)
 |pt (t:Ty)
 |own (es id i j:Nat)
 |ownx (es id j:Nat)
 |sl (es id:Nat)
 |slf (es id:Nat)
 |mp (id:Nat)
 |any
 |fn (f:FuncId) (a c:KdL)
 |agg (l:KdL)
 |tup (l:KdL)
 |nilp (v:Value)
inductive KdL where
 |nil
 |cons (k:Kd) (r:KdL)
end
inductive BKd where
 |vars (l:KdL)
 |rows (e:TypeId) (t:Ty)
 |map (kt vt:Ty)
 |fam (e:TypeId) (s:Ty)
abbrev HK:=List (Nat×Bool×BKd)
structure Shp where
 ks:KdL
 hs:HK
mutual
def Kd.lv:Kd->List Ty->List Ty
 |.p t,r=>t::r
 |.pt t,r=>.sl t::r
 |.ownx _ _ _,r=>.nat::r
 |.sl _ _,r=>.nat::.nat::r
 |.fn _ a c,r=>KdL.lv a (KdL.lv c r)
 |.agg l,r=>KdL.lv l r
 |.tup l,r=>KdL.lv l r
 |_,r=>r
def KdL.lv:KdL->List Ty->List Ty
 |.nil,r=>r
 |.cons k l,r=>Kd.lv k (KdL.lv l r)
end
def BKd.lv:BKd->List Ty->List Ty
 |.vars l,r=>l.lv r
 |.rows _ t,r=>.sl t::r
 |.map k v,r=>HH k v::r
 |.fam _ s,r=>.sl (.pair .nat (.sl s))::r
def fL:HK->List Ty->List Ty
 |[],r=>r
 |(_,_,k)::l,r=>k.lv (fL l r)
def Shp.tys(s:Shp):List Ty:=s.ks.lv (fL s.hs [])
@[reducible] def Shp.D(s:Shp):Type:=TD s.tys
mutual
def Kd.ids:Kd->List Nat
 |.own _ id _ _=>[id]
 |.ownx _ id _=>[id]
 |.sl _ id=>[id]
 |.slf _ id=>[id]
 |.mp id=>[id]
 |.fn _ a c=>KdL.ids a++KdL.ids c
 |.agg l=>KdL.ids l
 |.tup l=>KdL.ids l
 |_=>[]
def KdL.ids:KdL->List Nat
 |.nil=>[]
 |.cons k l=>Kd.ids k++KdL.ids l
end
def BKd.ids:BKd->List Nat
 |.vars l=>l.ids
 |_=>[]
def vR:HK->List Nat
 |[]=>[]
 |(_,_,k)::r=>k.ids++vR r
def bJ:HK->List Nat
 |[]=>[]
 |(id,_,_)::r=>id::bJ r
def KdL.length:KdL->Nat
 |.nil=>0
 |.cons _ r=>r.length+1
mutual
def emb:(k:Kd)->(r:List Ty)->HL (k.lv r)->AV×HL r
 |.p t,_,x=>(.p t x.1,x.2)
 |.pt t,_,x=>(.pt t x.1 0 0,x.2)
 |.own es id i j,_,x=>(.own es id i j,x)
 |.ownx es id j,_,x=>(.own es id x.1 j,x.2)
 |.sl es id,_,x=>(.sl es id x.1 x.2.1,x.2.2)
 |.slf es id,_,x=>(.slf es id,x)
 |.mp id,_,x=>(.mp id,x)
 |.any,_,x=>(.junk,x)
 |.fn f a c,r,x=>let y:=embL a (c.lv r) x;let z:=embL c r y.2;(.fn f y.1 z.1,z.2)
 |.agg l,r,x=>let y:=embL l r x;(.agg y.1,y.2)
 |.tup l,r,x=>let y:=embL l r x;(.tup y.1,y.2)
 |.nilp v,_,x=>(.p .opq v,x)
def embL:(k:KdL)->(r:List Ty)->HL (k.lv r)->List AV×HL r
 |.nil,_,x=>([],x)
 |.cons k l,r,x=>let y:=emb k (l.lv r) x;let z:=embL l r y.2;(y.1::z.1,z.2)
end
def mA:(k:BKd)->(r:List Ty)->HL (k.lv r)->Blk×HL r
 |.vars l,r,x=>let y:=embL l r x;(.vars y.1,y.2)
 |.rows e t,_,x=>(.rows e t x.1,x.2)
 |.map k v,_,x=>(.map k v x.1,x.2)
 |.fam e s,_,x=>(.fam e s x.1,x.2)
def kV:(h:HK)->(r:List Ty)->HL (fL h r)->Hp×HL r
 |[],_,x=>([],x)
 |(id,fz,k)::l,r,x=>let y:=mA k (fL l r) x;let z:=kV l r y.2;((id,some ⟨fz,y.1⟩)::z.1,z.2)
def Shp.emb(s:Shp)(t:s.D):List AV×Hp:=
 let y:=embL s.ks (fL s.hs []) (gA s.tys t)
 (y.1,(kV s.hs [] y.2).1)
section
variable {γ : Type}
mutual
def JV:(k:Kd)->(r:List Ty)->HL (k.lv r)->(AV->HL r->γ)->γ
 |.p t,_,x,K=>K (.p t x.1) x.2
 |.pt t,_,x,K=>K (.pt t x.1 0 0) x.2
 |.own es id i j,_,x,K=>K (.own es id i j) x
 |.ownx es id j,_,x,K=>K (.own es id x.1 j) x.2
 |.sl es id,_,x,K=>K (.sl es id x.1 x.2.1) x.2.2
 |.slf es id,_,x,K=>K (.slf es id) x
 |.mp id,_,x,K=>K (.mp id) x
 |.any,_,x,K=>K .junk x
 |.fn f a c,r,x,K=>embKL a (c.lv r) x λR x1=>embKL c r x1 λvc x2=>K (.fn f R vc) x2
 |.agg l,r,x,K=>embKL l r x λv x1=>K (.agg v) x1
 |.tup l,r,x,K=>embKL l r x λv x1=>K (.tup v) x1
 |.nilp v,_,x,K=>K (.p .opq v) x
def embKL:(k:KdL)->(r:List Ty)->HL (k.lv r)->(List AV->HL r->γ)->γ
 |.nil,_,x,K=>K [] x
 |.cons k l,r,x,K=>JV k (l.lv r) x λv x1=>embKL l r x1 λvs x2=>K (v::vs) x2
end
def SH:(k:BKd)->(r:List Ty)->HL (k.lv r)->(Blk->HL r->γ)->γ
 |.vars l,r,x,K=>embKL l r x λv x1=>K (.vars v) x1
 |.rows e t,_,x,K=>K (.rows e t x.1) x.2
 |.map k v,_,x,K=>K (.map k v x.1) x.2
 |.fam e s,_,x,K=>K (.fam e s x.1) x.2
def DG:(h:HK)->(r:List Ty)->HL (fL h r)->(Hp->HL r->γ)->γ
 |[],_,x,K=>K [] x
 |(id,fz,k)::l,r,x,K=>SH k (fL l r) x λb x1=>DG l r x1 λH x2=>K ((id,some ⟨fz,b⟩)::H) x2
def Shp.embC(s:Shp)(t:s.D)(K:List AV->Hp->γ):γ:=embKL s.ks (fL s.hs []) (gA s.tys t) λvs x1=>DG s.hs [] x1 λH _=>K vs H
mutual
theorem urZ:(k:Kd)->(r:List Ty)->(x:HL (k.lv r))->(K:AV->HL r->γ)->JV k r x K=K (emb k r x).1 (emb k r x).2
 |.p _,_,_,_|.pt _,_,_,_|.own _ _ _ _,_,_,_|.ownx _ _ _,_,_,_|.sl _ _,_,_,_|.slf _ _,_,_,_|.mp _,_,_,_|.any,_,_,_|.nilp _,_,_,_=>rfl
 |.fn f a c,r,x,K=>by
  simp only[JV,emb];rw[diZ a (c.lv r) x,diZ c r]
 |.agg l,r,x,K=>by
  simp only[JV,emb];rw[diZ l r x]
 |.tup l,r,x,K=>by
  simp only[JV,emb];rw[diZ l r x]
theorem diZ:(k:KdL)->(r:List Ty)->(x:HL (k.lv r))->(K:List AV->HL r->γ)->embKL k r x K=K (embL k r x).1 (embL k r x).2
 |.nil,_,_,_=>rfl
 |.cons k l,r,x,K=>by
  simp only[embKL,embL];rw[urZ k (l.lv r) x,diZ l r]
end
theorem sAZ(k)(r)(x)(K:Blk->HL r->γ):SH k r x K=K (mA k r x).1 (mA k r x).2:=by
 cases k with
 |vars l=>exact diZ l r x _
 |rows e t=>rfl
 |map k v=>rfl
 |fam e s=>rfl
theorem nrZ:(h:HK)->(r:List Ty)->(x:HL (fL h r))->(K:Hp->HL r->γ)->DG h r x K=K (kV h r x).1 (kV h r x).2
 |[],_,_,_=>rfl
 |(id,fz,k)::l,r,x,K=>by
  simp[DG,kV];rw[sAZ k (fL l r) x,nrZ l r]
theorem Shp.embC_eq(s:Shp)(t)(K:List AV->Hp->γ):s.embC t K=K (s.emb t).1 (s.emb t).2:=by
 exact(diZ s.ks (fL s.hs []) (gA s.tys t) λvs x1=>DG s.hs [] x1 λH _=>K vs H).trans (nrZ s.hs [] _ _)
end
@[reducible] def dS:List Shp->Type
  |[]=>Empty
  |[s]=>s.D
  |s::t::r=>s.D⊕dS (t::r)
def dS.on{R:Type}:(l:List Shp)->dS l->((s:Shp)->s.D->R)->R
 |[],x,_=>Empty.elim x
 |[s],x,K=>K s x
 |s::t::r,x,K=>match x with
  |.inl y=>K s y
  |.inr y=>dS.on (t::r) y K
def AV.own?(es id i j:Nat):AV->Bool
 |.own R aa i' j'=>Nat.beq es R&&Nat.beq id aa&&Nat.beq i i'&&Nat.beq j j'
 |_=>false
def AV.ownx?(es id j:Nat):AV->Option Nat
 |.own R aa i j'=>bif Nat.beq es R&&Nat.beq id aa&&Nat.beq j j' then some i else none
 |_=>none
def AV.sl?(es id:Nat):AV->Option (Nat×Nat)
 |.sl R aa i n=>bif Nat.beq es R&&Nat.beq id aa then some (i,n) else none
 |_=>none
def AV.slf?(es id:Nat):AV->Bool
 |.slf R aa=>Nat.beq es R&&Nat.beq id aa
 |_=>false
def AV.mp?(id:Nat):AV->Bool
 |.mp R=>Nat.beq id R
 |_=>false
def AV.pt?(u:Ty):AV->Option (List u.den)
 |.pt t l 0 0=>if h:t=u then some (h▸l) else none
 |_=>none
def AV.fn?(f:FuncId):AV->Option (List AV×List AV)
 |.fn g a c=>bif Nat.beq f g then some (a,c) else none
 |.p .opq (.func (.func g) a c)=>bif Nat.beq f g&&(Nat.beq a.size 0&&Nat.beq c.size 0) then some ([],[]) else none
 |_=>none
def JW :Value->Value->Bool
 |.pointer none,.pointer none=>true
 |.map none,.map none=>true
 |.slice none 0 0,.slice none 0 0=>true
 |.nilFunc,.nilFunc=>true
 |_,_=>false
def AV.nil?(v:Value):AV->Bool
 |.p .opq x=>JW v x
 |_=>false
section
variable {β : Type}
mutual
def co:(k:Kd)->(r:List Ty)->AV->HL r->(HL (k.lv r)->Option β)->Option β
 |.p t,_,a,x,K=>asA t a λy=>K (y,x)
 |.pt t,_,a,x,K=>(a.pt? t).ob λl=>K (l,x)
 |.own es id i j,_,a,x,K=>bO (a.own? es id i j)<|K x
 |.ownx es id j,_,a,x,K=>(a.ownx? es id j).ob λy=>K (y,x)
 |.sl es id,_,a,x,K=>(a.sl? es id).ob λy=>K (y.1,y.2,x)
 |.slf es id,_,a,x,K=>bO (a.slf? es id)<|K x
 |.mp id,_,a,x,K=>bO (a.mp? id)<|K x
 |.any,_,_,x,K=>K x
 |.fn f ka R,r,a,x,K=>(a.fn? f).ob λy=>bO (Nat.beq y.1.length ka.length&&Nat.beq y.2.length R.length)<|
  coL R r y.2 x λx1=>coL ka (R.lv r) y.1 x1 K
 |.agg l,r,a,x,K=>(eS a).ob λc=>bO (IP a&&Nat.beq c.length l.length)<|coL l r c x K
 |.tup l,r,a,x,K=>a.tup?.ob λc=>bO (Nat.beq c.length l.length)<|coL l r c x K
 |.nilp v,_,a,x,K=>bO (a.nil? v)<|K x
def coL:(k:KdL)->(r:List Ty)->List AV->HL r->(HL (k.lv r)->Option β)->Option β
 |.nil,_,_,x,K=>K x
 |.cons k l,r,c,x,K=>coL l r c.tail x λx1=>co k (l.lv r) (c.headD .junk) x1 K
end
def Blk.vars?(n:Nat):Blk->Option (List AV)
 |.vars c=>bif Nat.beq c.length n then some c else none
 |_=>none
def Blk.rows?(e:TypeId)(u:Ty):Blk->Option (List u.den)
 |.rows e' t l=>bif Nat.beq e e' then(if h:t=u then some (h▸l) else none) else none
 |_=>none
def Blk.map?(k v):Blk->Option (rF k v)
 |.map k' R m=>if h:HH k' R=HH k v then some (Ty.to h m) else none
 |_=>none
def Blk.fam?(e:TypeId)(u:Ty):Blk->Option (List (Nat×List u.den))
 |.fam e' t l=>bif Nat.beq e e' then(if h:t=u then some (h▸l) else none) else none
 |_=>none
def coB:(k:BKd)->(r:List Ty)->Blk->HL r->(HL (k.lv r)->Option β)->Option β
 |.vars l,r,b,x,K=>(b.vars? l.length).ob λc=>coL l r c x K
 |.rows e t,_,b,x,K=>(b.rows? e t).ob λl=>K (l,x)
 |.map k v,_,b,x,K=>(b.map? k v).ob λm=>K (m,x)
 |.fam e s,_,b,x,K=>(b.fam? e s).ob λl=>K (l,x)
def JX(fz:Bool)(H:Hp)(id:Nat):Option Blk:=
 match bG H id with
 |some e=>bif e.fz==fz then some e.b else none
 |none=>none
def coH:(h:HK)->(r:List Ty)->Hp->HL r->(HL (fL h r)->Option β)->Option β
 |[],_,_,x,K=>K x
 |(id,fz,k)::l,r,H,x,K=>(JX fz H id).ob λb=>coH l r H x λx1=>coB k (fL l r) b x1 K
def Shp.ok(s:Shp):Bool:=kF (bJ s.hs)&&mZ (s.ks.ids++vR s.hs) (bJ s.hs)
def Shp.co(s:Shp)(vs:List AV)(H:Hp)(K:s.D->Option β):Option β:=
 bO (s.ok&&Nat.beq vs.length s.ks.length)<|
 coH s.hs [] H () λx=>coL s.ks (fL s.hs []) vs x λy=>K (DE s.tys y)
end
mutual
def Kd.fits:Kd->AV->Bool
 |.p t,a=>match a with
  |.p R x=>decide (R=t)||(DF R x t).isSome||R.isAgg
  |.agg _=>t.isAgg
  |.fn _ [] []=>decide (t= .opq)
  |_=>false
 |.pt _,a=>match a with
  |.pt _ _ _ _=>true
  |_=>false
 |.own es id i j,a=>a.own? es id i j
 |.ownx es id j,a=>(a.ownx? es id j).isSome
 |.sl es id,a=>(a.sl? es id).isSome
 |.slf es id,a=>a.slf? es id
 |.mp id,a=>a.mp? id
 |.any,_=>true
 |.fn f _ _,a=>(a.fn? f).isSome
 |.agg l,a=>match eS a with
  |some c=>Nat.beq c.length l.length&&KdL.fits l c
  |none=>false
 |.tup l,a=>match a with
  |.tup c=>Nat.beq c.length l.length&&KdL.fits l c
  |_=>false
 |.nilp v,a=>a.nil? v
def KdL.fits:KdL->List AV->Bool
 |.nil,_=>true
 |.cons k l,c=>k.fits (c.headD .junk)&&l.fits c.tail
end
def AN:HK->Hp->Bool
 |[],_=>true
 |(id,fz,k)::r,H=>(match bG H id with
  |some e=>e.fz==fz&&(match k,e.b with
   |.vars l,.vars c=>Nat.beq c.length l.length&&l.fits c
   |_,_=>true)
  |none=>false)&&AN r H
def AV.noRef:AV->Bool
 |.p _ _=>true
 |.pt _ _ _ _=>true
 |a=>(AV.ids a).isEmpty
def Tr.keep:Tr->Tr
 |.lf=>.lf
 |.nd l v r=>.nd l.keep (bif v.noRef then v else .junk) r.keep
def Tr.junk(t:Tr):List Nat->Tr
 |[]=>t
 |k::r=>(t.put k .junk).junk r
structure fP where
 live:List Nat
 s:Shp
abbrev fP.D(s:fP):Type:=s.s.D
def Shp.rco{β}(s:Shp)(vs:List AV)(H:Hp)(R:List (Nat×Nat))(K:s.D->Option β):Option β:=
 bO (kF (lZ R)&&(kF (kG R)&&(tJ (kG R)&&uW R))&&iU H (lZ R))<|s.co (AV.renL (gB R) vs) (iT H (gB R) R) K
def dS.rco{β}(vs:List AV)(H:Hp)(R:List (Nat×Nat)):(l:List Shp)->(dS l->Option β)->Option β
 |[],_=>none
 |[s],K=>s.rco vs H R K
 |s::t::r,K=>bq (s.ks.fits (AV.renL (gB R) vs)&&AN s.hs (iT H (gB R) R)) (s.rco vs H R λx=>K (.inl x)) (dS.rco vs H R (t::r) λx=>K (.inr x))
def fP.ps(sh:fP)(H:Hp)(vs:List AV):List (Nat×Nat):=lH (reach H uV (AV.idsL vs) []) (kT (bJ sh.s.hs))++zQ (sB (bJ sh.s.hs))
def St.prj{β}(st:St)(sh:fP)(K:sh.D->Option β):Option β:=
 let vs:=sh.live.map st.tm.get
 let R:=sh.ps st.hp vs
 bO (NX st.n0 R&&mZ (sB (nA st.hp)) (sB (bJ sh.s.hs)))<|sh.s.rco vs st.hp R K
def NY:List Nat->List AV->Tr->Tr
 |k::r,a::l,t=>NY r l (t.put k a)
 |_,_,t=>t
def fP.inj(sh:fP)(R:Tr)(nt n0:Nat)(t:sh.D):St:=sh.s.embC t λvs H=>⟨NY sh.live vs R,nt,n0,rQ H n0⟩
theorem fP.inj_eq(sh:fP)(base)(nt n0)(t):sh.inj base nt n0 t=⟨NY sh.live (sh.s.emb t).1 base,nt,n0,rQ (sh.s.emb t).2 n0⟩:=Shp.embC_eq _ _ _
def bB:Nat:=4611686018427387904
def iter{R ο}:Nat->(R->Option (R⊕ο))->R->Option ο
 |0,_,_=>none
 |n+1,f,s=>(f s).ob λr=>match r with
  |.inl s'=>iter n f s'
  |.inr o=>some o
@[reducible] def Out(ret:Bool):List (Nat×fP)->Type->Type
  |[],β=>bif ret then β else Empty
  |[(_,s)],β=>bif ret then s.D⊕β else s.D
  |(_,s)::o::r,β=>s.D⊕Out ret (o::r) β
def Out.ret{β}:(l:List (Nat×fP))->β->Out true l β
 |[],b=>b
 |[_],b=>.inr b
 |_::o::r,b=>.inr (Out.ret (o::r) b)
def Out.mk{β R}(st:St):(ret:Bool)->(l:List (Nat×fP))->Nat->(Out ret l β->Option R)->Option R
 |_,[],_,_=>none
 |true,[(j,s)],i,K=>bq (Nat.beq j i) (st.prj s λt=>K (.inl t)) none
 |false,[(j,s)],i,K=>bq (Nat.beq j i) (st.prj s λt=>K t) none
 |ret,(j,s)::o::r,i,K=>bq (Nat.beq j i) (st.prj s λt=>K (.inl t)) (Out.mk st ret (o::r) i λx=>K (.inr x))
def Out.on{β}(aa:Tr)(nt n0:Nat):(ret:Bool)->(l:List (Nat×fP))->Out ret l β->(Nat->St->Option β)->(β->Option β)->Option β
 |true,[],x,_,R=>R x
 |false,[],x,_,_=>Empty.elim x
 |true,[(j,s)],x,X,R=>match x with|.inl t=>X j (s.inj aa nt n0 t)|.inr b=>R b
 |false,[(j,s)],x,X,_=>X j (s.inj aa nt n0 x)
 |ret,(j,s)::o::r,x,X,R=>match x with|.inl t=>X j (s.inj aa nt n0 t)|.inr y=>Out.on aa nt n0 ret (o::r) y X R
noncomputable section
structure TL where
 ids:List Nat:=[]
 sh:List Nat:=[]
 md:List Nat:=[]
 fn:Nat:=0
structure Ann where
 ids:List Nat:=[]
 sh:List Nat:=[]
 md:List Nat:=[]
 fn:Nat:=0
 more:List TL:=[]
def Ann.atL(H:Hp)(a:Ann):List TL->Ann
 |[]=>a
 |m::r=>bq (iU H m.sh) {ids:=m.ids,sh:=m.sh,md:=m.md,fn:=m.fn} (Ann.atL H a r)
def Ann.at(a:Ann)(H:Hp):Ann:=a.atL H a.more
section
variable (P : Program)
def dB:Nat:=20
def DH(f:TypeId->Option Ty):List TypeId->Option Ty
 |[]=>none
 |[t]=>f t
 |t::r=>(f t).ob λa=>(DH f r).map λb=>.pair a b
def IQ:Nat->TypeId->Option Ty
 |0,_=>none
 |n+1,t=>match P.underlying t with
  |some (.int .u8)=>some .byte
  |some (.int k)=>some (.int k)
  |some .bool=>some .bool
  |some .string=>some .str
  |some (.slice e)=>(IQ n e).map .sl
  |some (.array k e)=>(IQ n e).map (.arr k)
  |some (.struct fs)=>match fs.toList.map (·.type) with
   |[f]=>(IQ n f).map .one
   |l=>DH (IQ n) l
  |some (.pointer e)=>match IQ n e with
   |some u=>some (.ptr u)
   |none=>some .opq
  |some (.map _ _)|some (.func _ _ _)=>some .opq
  |_=>none
def gF(t:TypeId):Bool:=match P.underlying t with|some (.struct _)|some (.array _ _)=>true|_=>false
def fQ(t:TypeId):Bool:=match P.underlying t with|some (.struct _)|some (.array _ _)=>false|some _=>true|none=>false
def ty(t:TypeId):Option Ty:=(IQ P dB t).ob λu=>
 bq (Nat.beq u.cells (P.cellsOf t)&& !Nat.beq u.cells 0&&(bq u.isAgg (gF P t) (fQ P t))) (some u) none
def isB(e:TypeId):Bool:=match P.underlying e with|some (.int .u8)=>true|_=>false
def AO(t:TypeId):Option (List AV):=(P.info? t).ob λi=>i.zero.ob λz=>bq (z.cells.toList.all Value.oneCell') (some (z.cells.toList.map AV.lit)) none
def Ty.plain:Ty->Bool
 |.opq|.nat=>false
 |.one t=>t.plain
 |.pair a b=>a.plain&&b.plain
 |.arr _ t=>t.plain
 |_=>true
def Ty.zeros:Ty->List Value
 |.int k=>[.int k 0]
 |.byte=>[.int .u8 0]
 |.bool=>[.bool false]
 |.str=>[.string ⟨#[]⟩]
 |.sl _=>[.slice none 0 0]
 |.ref _ _=>[.slice none 0 0]
 |.ptr _=>[.pointer none]
 |.one t=>t.zeros
 |.pair a b=>a.zeros++b.zeros
 |.arr n t=>(List.replicate n t.zeros).flatten
 |_=>[]
def wQ:Value->Value->Bool
 |.int k n,.int k' n'=>k==k'&&n==n'
 |.bool a,.bool b=>a==b
 |.string a,.string b=>a.data.size==b.data.size&&a.data.size==0
 |.slice none 0 0,.slice none 0 0=>true
 |.pointer none,.pointer none=>true
 |_,_=>false
def qH:List Value->List Value->Bool
 |[],[]=>true
 |a::l,b::r=>wQ a b&&qH l r
 |_,_=>false
def nY(e:TypeId)(u:Ty):Bool:=
 u.plain&&match P.info? e with
 |some i=>match i.zero with
  |some z=>qH z.cells.toList u.zeros&&(match z with|.agg _=>u.isAgg|_=> !u.isAgg)
  |none=>false
 |none=>false
def rG(f:TypeId->Ty->Bool):List Field->Nat->Ty->Bool
 |[x],o,u=>x.name != "_" &&Nat.beq x.offset o&&Nat.beq (P.cellsOf x.type) u.cells&&f x.type u
 |x::r,o,.pair a b=>x.name != "_" &&Nat.beq x.offset o&&Nat.beq (P.cellsOf x.type) a.cells&&f x.type a&&rG f r (o+a.cells) b
 |_,_,_=>false
def nZ(t:TypeId)(u:Ty):Bool:= !Nat.beq u.cells 0&&bq u.isAgg (gF P t) (fQ P t)
def eqT:Nat->TypeId->Ty->Bool
 |0,_,_=>false
 |n+1,t,u=>match P.underlying t,u with
  |some (.int k),.int k'=>decide (k=k')
  |some (.int k),.byte=>decide (k= .u8)
  |some .bool,.bool=>true
  |some .string,.str=>true
  |some (.struct fs),.one v=> !P.stoodInHeld t&&rG P (λt u=>nZ P t u&&eqT n t u) fs.toList 0 v
  |some (.struct fs),.pair a b=> !P.stoodInHeld t&&rG P (λt u=>nZ P t u&&eqT n t u) fs.toList 0 (.pair a b)
  |some (.array m e),.arr R v=>Nat.beq m R&&Nat.beq (P.cellsOf e) v.cells&&nZ P e v&&eqT n e v
  |_,_=>false
def cM:Nat:=140737488355328
def nro(f:Nat):Bool:= !Nat.beq (f%16) 15
def frz(H:Hp)(id:Nat):Hp:=bq (Nat.ble bA id) H (match bG H id with|some e=>bS H id (some ⟨true,e.b⟩)|none=>H)
def DI(H:Hp):AV->Hp
 |.own _ id _ _=>frz H id
 |.sl _ id _ _=>frz H id
 |.slf _ id=>frz H id
 |_=>H
def view(H:Hp):AV->Option AV
 |.p t x=>some (.p t x)
 |.pt t l i j=>some (.pt t l i j)
 |.fn f [] []=>some (.fn f [] [])
 |.slf es id=>match bG H id with
  |some ⟨true,.rows _ t l⟩=>bq (Nat.beq es t.cells) (some (.p (.sl t) l)) none
  |_=>none
 |.sl es id off n=>match bG H id with
  |some ⟨true,.rows _ t l⟩=>bq (Nat.beq es t.cells&&Nat.ble (off+n) l.length) (some (.p (.sl t) ((l.drop off).take n))) none
  |_=>none
 |.own es id i j=>match bG H id with
  |some ⟨true,.rows _ t l⟩=>bq (Nat.beq es t.cells) (some (.pt t l i j)) none
  |_=>none
 |_=>none
def pure1(H:Hp)(a:AV):Option (AV×Hp):=(view (DI H a) a).map λx=>(x,DI H a)
def rR(H:Hp):List AV->Option (List AV×Hp)
 |[]=>some ([],H)
 |a::r=>(pure1 H a).ob λx=>(rR x.2 r).map λy=>(x.1::y.1,y.2)
def oU(H:Hp):AV->Option (AV×Hp)
 |.agg l=>(rR H l).map λx=>(.agg x.1,x.2)
 |a=>pure1 H a
section
variable {β : Type}
def FH{α}(R:List (Nat×List α))(k off n:Nat):Option (List α):=
 match R[k]? with
 |some (st,l)=>bq (Nat.ble 2 st&&Nat.ble (off+n) l.length) (some ((l.drop off).take n)) none
 |none=>none
structure Fm where
 f:Nat
 s:Ty
 ms:List (Nat×List s.den)
def JY(f:Nat)(s:Ty):List Fm->Option (List (Nat×List s.den))
 |[]=>none
 |m::r=>bq (Nat.beq m.f (f%16)) (dq m.s s (λh=>some (h▸m.ms)) none) (JY f s r)
def cJ{α R:Type}(g:α->Option R):List α->Option (List R)
 |[]=>some []
 |x::r=>(g x).bind λy=>(cJ g r).map (y::·)
def bT(R:List Fm):(t:Ty)->t.den->Option t.unref.den
 |.ref f s,x=>match x with
  |.inl l=>some l
  |.inr none=>some ([]:List s.den)
  |.inr (some (k,off,n))=>(JY f s R).ob λms=>FH ms k off n
 |.one t,x=>bT R t x
 |.pair a b,x=>(bT R a x.1).bind λy=>(bT R b x.2).map λz=>(y,z)
 |.int _,x=>some x
 |.byte,x=>some x
 |.bool,x=>some x
 |.str,x=>some x
 |.opq,x=>some x
 |.nat,x=>some x
 |.sl _,x=>some x
 |.arr _ _,x=>some x
 |.ptr _,x=>some x
def nB:(t:Ty)->t.den->Option t.unref.den
 |.ref _ s,x=>match x with
  |.inl l=>some l
  |.inr none=>some ([]:List s.den)
  |_=>none
 |.one t,x=>nB t x
 |.pair a b,x=>(nB a x.1).bind λy=>(nB b x.2).map λz=>(y,z)
 |.int _,x=>some x
 |.byte,x=>some x
 |.bool,x=>some x
 |.str,x=>some x
 |.opq,x=>some x
 |.nat,x=>some x
 |.sl _,x=>some x
 |.arr _ _,x=>some x
 |.ptr _,x=>some x
def bX{α:Type}(m:Nat×List α):Nat×List α:=(bq (Nat.beq m.1 0) 0 2,m.2)
def uX:Hp->Hp
 |[]=>[]
 |(i,some ⟨fz,.fam e s R⟩)::r=>(i,some ⟨fz,.fam e s (R.map bX)⟩)::uX r
 |x::r=>x::uX r
def tK(H:Hp):Nat->List Fm
 |0=>[]
 |n+1=>match bG H (bA+n) with
  |some ⟨_,.fam _ s R⟩=>⟨n,s,R⟩::tK H n
  |_=>tK H n
def zS(H:Hp):List Fm:=tK H 16
def sC(R:List Fm)(a:AV)(K:AV->Option β):Option β:=
 match a with
 |.p (.sl t) l=>bq t.noRef (K (.p (.sl t) l)) ((cJ (bT R t) (show List t.den from l)).bind λl'=>K (.p (.sl t.unref) l'))
 |.p t x=>bq t.noRef (K (.p t x)) ((bT R t x).bind λy=>K (.p t.unref y))
 |.pt t l i j=>bO t.noRef<|K (.pt t l i j)
 |a=>K a
def FI(a:AV)(K:AV->Option β):Option β:=
 match a with
 |.p (.sl t) l=>bq t.noRef (K (.p (.sl t) l)) ((cJ (nB t) (show List t.den from l)).bind λR=>K (.p (.sl t.unref) R))
 |.p t x=>bq t.noRef (K (.p t x)) ((nB t x).bind λy=>K (.p t.unref y))
 |a=>K a
end
def AV.anyRef:AV->Bool
 |.p t _=> !t.noRef
 |.pt t _ _ _=> !t.noRef
 |_=>false
section
variable {β : Type}
def JZ(H:Hp)(a:AV)(K:AV->Option β):Option β:=
 match a with
 |.p t x=>K (.p t x)
 |.pt t l i j=>K (.pt t l i j)
 |.fn f [] []=>K (.fn f [] [])
 |.slf es id=>match bG H id with
  |some ⟨true,.rows _ t l⟩=>bq (Nat.beq es t.cells) (K (.p (.sl t) l)) none
  |_=>none
 |.sl es id off n=>match bG H id with
  |some ⟨true,.rows _ t l⟩=>bq (Nat.beq es t.cells&&Nat.ble (off+n) l.length) (K (.p (.sl t) ((l.drop off).take n))) none
  |_=>none
 |.own es id i j=>match bG H id with
  |some ⟨true,.rows _ t l⟩=>bq (Nat.beq es t.cells) (K (.pt t l i j)) none
  |_=>none
 |_=>none
theorem tKZ{α}(c)(a)(K:α->Option β):(bq c (some a) none).ob K=bq c (K a) none:=by cases c<;>rfl
theorem s0Z(H)(a)(K:AV->Option β):JZ H a K=(view H a).ob K:=by
 unfold JZ view;split
 case h_4 es id=>
  rcases bG H id with _|⟨fz,b⟩
  .rfl
  .cases fz<;>cases b<;>first|rfl|simp_all[tKZ]
 case h_5 es id off n=>
  rcases bG H id with _|⟨fz,b⟩
  .rfl
  .cases fz<;>cases b<;>first|rfl|simp_all[tKZ]
 case h_6 es id i j=>
  rcases bG H id with _|⟨fz,b⟩
  .rfl
  .cases fz<;>cases b<;>first|rfl|simp_all[tKZ]
 all_goals rfl
def AP(H:Hp)(a:AV)(K:AV->Hp->Option β):Option β:=JZ (DI H a) a λx=>K x (DI H a)
theorem j2Z(H)(a)(K:AV->Hp->Option β):AP H a K=(pure1 H a).ob λx=>K x.1 x.2:=by
 unfold AP pure1;rw[s0Z];cases view (DI H a) a<;>rfl
def sD:Hp->List AV->(List AV->Hp->Option β)->Option β
 |H,[],K=>K [] H
 |H,a::r,K=>AP H a λx H'=>sD H' r λl H''=>K (x::l) H''
theorem e7Z:∀(l) (H) (K:List AV->Hp->Option β),sD H l K=(rR H l).ob λx=>K x.1 x.2
 |[],_,_=>rfl
 |a::r,H,K=>by
  unfold sD rR;rw[j2Z];cases pure1 H a with
  |none=>rfl
  |some x=>
   show sD x.2 r _=_;rw[e7Z r];show _=((rR x.2 r).map _).ob _;cases rR x.2 r<;>rfl
def KA(H:Hp)(a:AV)(K:AV->Hp->Option β):Option β:=
 match a with
 |.agg l=>sD H l λl H'=>K (.agg l) H'
 |a=>AP H a K
theorem r1Z(H)(a)(K:AV->Hp->Option β):KA H a K=(oU H a).ob λx=>K x.1 x.2:=by
 cases a
 case agg l=>
  show sD H l _=((rR H l).map _).ob _;rw[e7Z];cases rR H l<;>rfl
 all_goals exact j2Z _ _ _
end
section
variable {β : Type}
def zI:(t:Ty)->t.den->Nat->(u:Ty)->(AV->Option β)->Option β
 |.one t,x,o,u,K=>bq (decide ((Ty.one t).unref=u)&&Nat.beq o 0) (K (.p (.one t) x)) (zI t x o u K)
 |.pair a b,x,o,u,K=>bq (decide ((Ty.pair a b).unref=u)&&Nat.beq o 0) (K (.p (.pair a b) x))
  (bq (Nat.blt o a.cells) (zI a x.1 o u K) (zI b x.2 (o-a.cells) u K))
 |t,x,o,u,K=>bq (decide (t.unref=u)&&Nat.beq o 0) (K (.ofTy t x)) none
def xK:(t:Ty)->t.den->Nat->(u:Ty)->AV->(t.den->Option β)->Option β
 |.one t,x,o,u,v,K=>bq (decide ((Ty.one t).unref=u)&&Nat.beq o 0) (asA (.one t) v K) (xK t x o u v K)
 |.pair a b,x,o,u,v,K=>bq (decide ((Ty.pair a b).unref=u)&&Nat.beq o 0) (asA (.pair a b) v K)
  (bq (Nat.blt o a.cells) (xK a x.1 o u v λz=>K (z,x.2)) (xK b x.2 (o-a.cells) u v λz=>K (x.1,z)))
 |t,_,o,u,v,K=>bq (decide (t.unref=u)&&Nat.beq o 0) (asA t v K) none
def rS(u:Ty)(t:TypeId)(x:u.den)(j:Nat)(K:AV->Option β):Option β:=
 (ty P t).ob λR=>bq u.noRef (sub u x j R λy=>K (.ofTy R y)) (zI u x j R K)
def pC(t:TypeId)(u:Ty)(l:List u.den)(i j:Nat)(K:AV->Option β):Option β:=
 match ty P t with
 |some (.arr n R)=>bq (decide (R=u)&&Nat.beq i 0&&Nat.beq j 0) (bO (Nat.beq l.length n)<|K (.p (.arr n u) l)) (l[i]?.bind λx=>rS P u t x j K)
 |_=>l[i]?.bind λx=>rS P u t x j K
def xL(t:TypeId)(c:List AV)(j:Nat)(K:AV->Option β):Option β:=
 bq (gF P t) (bO (Nat.ble (j+P.cellsOf t) c.length&& !Nat.beq (P.cellsOf t) 0)<|K (.agg ((c.drop j).take (P.cellsOf t)))) (bq (fQ P t) (c[j]?.ob K) none)
def sE(t:TypeId)(a:AV)(H:Hp)(K:AV->Option β):Option β:=
 match a with
 |.own es id i j=>match bG H id with
  |some ⟨_,.vars c⟩=>xL P t c (i*es+j) K
  |some ⟨_,.rows _ u l⟩=>bq (Nat.beq es u.cells) (pC P t u l i j K) none
  |_=>none
 |.pt u l i j=>pC P t u l i j K
 |.rp f es k i j=>match bG H (bZ f) with
  |some ⟨_,.fam _ s R⟩=>R[k]?.bind λm=>bO (Nat.blt 0 m.1&&Nat.beq es s.cells)<|pC P t s m.2 i j K
  |_=>none
 |_=>none
def setFrom{α:Type}:List α->Nat->List α->List α
 |c,_,[]=>c
 |c,j,x::r=>setFrom (c.set j x) (j+1) r
def HI(H:Hp)(id:Nat):Bool:=match bG H id with|some e=> !e.fz|none=>false
def uY(t:TypeId)(e:TypeId)(u:Ty)(l:List u.den)(i j:Nat)(id:Nat)(v:AV)(H:Hp)(K:AV->Hp->Option β):Option β:=
 match ty P t with
 |some (.arr n u')=>bq (decide (u'=u)&&Nat.beq i 0&&Nat.beq j 0) (bO (Nat.beq l.length n)<|asA (.arr n u) v λl'=>bO (Nat.beq l'.length n)<|K .junk (bS H id (some ⟨false,.rows e u l'⟩))) (asA (.arr n u') v λy=>l[i]?.bind λx=>upd u x j (.arr n u') y λx'=>K .junk (bS H id (some ⟨false,.rows e u (l.set i x')⟩)))
 |some R=>asA R v λy=>l[i]?.bind λx=>upd u x j R y λx'=>K .junk (bS H id (some ⟨false,.rows e u (l.set i x')⟩))
 |none=>none
def AQ:Ty->Nat->Ty->Option Ty
 |.one t,o,u=>bq (decide ((Ty.one t).unref=u)&&Nat.beq o 0) (some (.one t)) (AQ t o u)
 |.pair a b,o,u=>bq (decide ((Ty.pair a b).unref=u)&&Nat.beq o 0) (some (.pair a b)) (bq (Nat.blt o a.cells) (AQ a o u) (AQ b (o-a.cells) u))
 |t,o,u=>bq (decide (t.unref=u)&&Nat.beq o 0) (some t) none
def Ty.leaves:Ty->List Ty
 |.one t=>t.leaves
 |.pair a b=>a.leaves++b.leaves
 |t=>[t]
def KB(H:Hp)(t:Ty)(a:AV):Option (AV×Hp):=
 match t,a with
 |.ref f s,.slf es id=>match bG H id,bG H (bZ f) with
  |some ⟨false,.rows e t l⟩,some ⟨false,.fam e' R ms⟩=>dq t s (λh=>dq R s (λh'=>bq (Nat.beq es s.cells&&Nat.beq e e')
   (some (.p (.ref f s) (.inr (some (ms.length,0,l.length))),bS (bS H id none) (bZ f) (some ⟨false,.fam e' R (ms++[(1,Ty.toL (h.trans h'.symm) l)])⟩))) none) none) none
  |_,_=>none
 |_,a=>some (a,H)
def NZ(H:Hp):List Ty->List AV->Option (List AV×Hp)
 |t::R,a::l=>(KB H t a).ob λx=>(NZ x.2 R l).map λy=>(x.1::y.1,y.2)
 |_,l=>some (l,H)
def OA(H:Hp)(t:Ty)(a:AV):Option (AV×Hp):=
 match a with
 |.agg l=>(NZ H t.leaves l).map λx=>(.agg x.1,x.2)
 |a=>KB H t a
def SI(t e:TypeId)(u:Ty)(l:List u.den)(i j:Nat)(id:Nat)(v:AV)(H:Hp)(K:AV->Hp->Option β):Option β:=
 (ty P t).ob λR=>(AQ u j R).ob λu'=>(OA H u' v).ob λy=>(oU y.2 y.1).ob λx=>bO (HI x.2 id)<|
  l[i]?.bind λx0=>xK u x0 j R x.1 λx'=>K .junk (bS x.2 id (some ⟨false,.rows e u (l.set i x')⟩))
def SJ(t:TypeId)(f k i j es:Nat)(v:AV)(H:Hp)(K:AV->Hp->Option β):Option β:=
 (ty P t).ob λR=>(oU H v).ob λx=>match bG x.2 (bZ f) with
  |some ⟨false,.fam e s ms⟩=>bO (nro f)<|ms[k]?.bind λm=>bO (Nat.beq m.1 1&&Nat.beq es s.cells&&s.noRef)<|asA R x.1 λy=>m.2[i]?.bind λr=>upd s r j R y λr'=>
   K .junk (bS x.2 (bZ f) (some ⟨false,.fam e s (ms.set k (1,m.2.set i r'))⟩))
  |_=>none
def qI(t:TypeId)(a v:AV)(H:Hp)(K:AV->Hp->Option β):Option β:=
 match a with
 |.own es id i j=>match bG H id with
  |some ⟨false,.vars c⟩=>(eS v).ob λvs=>
   bO (Nat.beq vs.length (P.cellsOf t)&& !Nat.beq (P.cellsOf t) 0&&Nat.ble (i*es+j+vs.length) c.length)<|K .junk (bS H id (some ⟨false,.vars (setFrom c (i*es+j) vs)⟩))
  |some ⟨false,.rows e u l⟩=>bq (Nat.beq es u.cells) (bq u.noRef ((oU H v).ob λx=>bO (HI x.2 id)<|uY P t e u l i j id x.1 x.2 K) (SI P t e u l i j id v H K)) none
  |_=>none
 |.rp f es k i j=>SJ P t f k i j es v H K
 |_=>none
def gW(H:Hp)(id:Nat)(b:Blk)(K:Hp->Option β):Option β:=bq (bM H id||Nat.ble bA id) none (K (bS H id (some ⟨false,b⟩)))
def tL(t:TypeId)(id:Nat)(H:Hp)(K:AV->Hp->Option β):Option β:=
 (ty P t).ob λu=>bO (nY P t u)<|gW H id (.rows t u [u.zero]) λH'=>K (.own u.cells id 0 0) H'
def AR(t:TypeId)(v:AV)(id:Nat)(H:Hp)(K:AV->Hp->Option β):Option β:=
 (ty P t).ob λu=>(oU H v).ob λx=>asA u x.1 λy=>gW x.2 id (.rows t u [y]) λH'=>K (.own u.cells id 0 0) H'
def qJ(t:TypeId)(id:Nat)(H:Hp)(K:AV->Hp->Option β):Option β:=
 match P.underlying t with
 |some (.array n e)=>(ty P e).ob λu=>bO (nY P t (.arr n u))<|
  gW H id (.rows t u (List.replicate n u.zero)) λH'=>K (.own u.cells id 0 0) H'
 |_=>(AO P t).ob λz=>gW H id (.vars z) λH'=>K (.own 0 id 0 0) H'
def zT(t:TypeId)(v:AV)(id:Nat)(H:Hp)(K:AV->Hp->Option β):Option β:=
 match P.underlying t with
 |some (.array n e)=>(ty P e).ob λu=>(oU H v).ob λx=>asA (.arr n u) x.1 λl=>bO (Nat.beq l.length n)<|
  gW x.2 id (.rows t u l) λH'=>K (.own u.cells id 0 0) H'
 |_=>(eS v).ob λc=>gW H id (.vars c) λH'=>K (.own 0 id 0 0) H'
def nC(s:TypeId)(f:Nat):Option (Nat×TypeId):=
 match P.underlying s with
 |some (.struct fs)=>fs[f]?.ob λx=>bq (Nat.beq (P.cellsOf x.type) 0) none (some (x.offset,x.type))
 |_=>none
def iN(s:TypeId)(a:AV)(f:Nat)(K:AV->Option β):Option β:=
 match nC P s f,a with
 |some (o,_),.own es id i j=>K (.own es id i (j+o))
 |some (o,_),.pt u l i j=>K (.pt u l i (j+o))
 |some (o,_),.rp f es k i j=>K (.rp f es k i (j+o))
 |_,_=>none
def qK(s:TypeId)(a:AV)(f:Nat)(K:AV->Option β):Option β:=
 match nC P s f,a with
 |some (o,t),.agg c=>bq (gF P t) (bO (Nat.ble (o+P.cellsOf t) c.length)<|K (.agg ((c.drop o).take (P.cellsOf t)))) (bq (fQ P t) (c[o]?.ob K) none)
 |some (o,t),.p u x=>bq u.isAgg (rS P u t x o K) none
 |_,_=>none
def wR(H:Hp)(es id:Nat):Option Nat:=
 match bG H id with
 |some ⟨_,.vars c⟩=>bq (Nat.beq es 1) (some c.length) none
 |_=>none
def kW(H:Hp)(es id:Nat)(K:(u:Ty)->List u.den->Option β):Option β:=
 match bG H id with
 |some ⟨_,.rows _ u l⟩=>bq (Nat.beq es u.cells) (K u l) none
 |_=>none
def wF{α:Type}(x:α⊕Option (Nat×(Nat×Nat))):Option (Nat×(Nat×Nat)):=
 match x with
 |.inr y=>y
 |_=>none
def fM{s:Ty}(x:List s.den⊕Option (Nat×(Nat×Nat))):Nat:=
 match x with
 |.inl l=>l.length
 |.inr none=>0
 |.inr (some (_,_,n))=>n
def jX(t:TypeId)(a R:AV)(H:Hp)(K:AV->Option β):Option β:=
 R.any?.ob λx=>
 match P.underlying t with
 |some (.array n e)=>bO (!Nat.beq (P.cellsOf e) 0)<|match a with
  |.own es id i j=>bq (Nat.beq es (P.cellsOf e)&&Nat.beq i 0&&Nat.beq j 0) ((bH x n).bind λq=>K (.own es id q 0)) ((bH x n).bind λq=>K (.own es id i (j+q*P.cellsOf e)))
  |.pt u l i j=>bq (Nat.beq u.cells (P.cellsOf e)&&Nat.beq i 0&&Nat.beq j 0) ((bH x n).bind λq=>K (.pt u l q 0)) ((bH x n).bind λq=>K (.pt u l i (j+q*P.cellsOf e)))
  |_=>none
 |some (.slice e)=>bO (!Nat.beq (P.cellsOf e) 0)<|match a with
  |.slf es id=>bq (Nat.beq es (P.cellsOf e)) (match wR H es id with
   |some n=>(bH x n).bind λq=>K (.own es id q 0)
   |none=>kW H es id λ_ l=>(bH x l.length).bind λq=>K (.own es id q 0)) none
  |.sl es id off n=>bq (Nat.beq es (P.cellsOf e)) ((bH x n).bind λq=>K (.own es id (off+q) 0)) none
  |.p (.sl u) l=>bq (Nat.beq u.cells (P.cellsOf e)) ((bH x (List.length (α:=u.den) l)).bind λq=>K (.pt u l q 0)) none
  |.p (.ref f u) r=>bq (Nat.beq u.cells (P.cellsOf e)) ((wF r).bind λk=>(bH x k.2.2).bind λq=>K (.rp f u.cells k.1 (k.2.1+q) 0)) none
  |_=>none
 |_=>none
def tM(t:TypeId)(a R:AV)(K:AV->Option β):Option β:=
 R.any?.ob λx=>
 match P.underlying t with
 |some .string=>a.str?.ob λl=>(bH x l.length).bind λq=>l[q]?.bind λc=>K (.i .u8 (c.toNat:Int))
 |some (.array n e)=>(ty P e).ob λu=>asA (.arr n u) a λ(l:List u.den)=>(bH x n).bind λq=>
  l[q]?.bind λy=>K (.ofTy u y)
 |_=>none
def tN(a:Option AV)(d:Nat)(m:Nat)(K:Nat->Option β):Option β:=
 match a with
 |none=>K d
 |some a=>a.any?.ob λx=>(cT x m).bind K
def FJ{α:Type}(l:List α)(lo hi:Option AV)(K:List α->Option β):Option β:=
 match lo,hi with
 |none,none=>K l
 |none,some h=>h.any?.ob λx=>(cT x l.length).bind λh=>K (l.take h)
 |some b,none=>b.any?.ob λx=>(cT x l.length).bind λb=>K (l.drop b)
 |some b,some h=>h.any?.ob λy=>(cT y l.length).bind λh=>b.any?.ob λx=>(cT x h).bind λb=>K ((l.take h).drop b)
def lI{α}(x:List α⊕Option (Nat×Nat×Nat))(b n:Nat):List α⊕Option (Nat×Nat×Nat):=
 match x with
 |.inl l=>.inl ((l.take (b+n)).drop b)
 |.inr none=>.inr none
 |.inr (some (k,off,_))=>bq (Nat.beq n 0) (.inl []) (.inr (some (k,off+b,n)))
def qL(t:TypeId)(a:AV)(lo hi:Option AV)(H:Hp)(K:AV->Option β):Option β:=
 match P.underlying t with
 |some .string=>a.str?.ob λl=>FJ l lo hi λR=>K (.s R)
 |some (.slice e)=>match a with
  |.slf es id=>bq (Nat.beq es (P.cellsOf e)&& !Nat.beq es 0) (match lo,hi with
   |none,none=>K (.slf es id)
   |lo,hi=>kW H es id λ_ l=>tN hi l.length l.length λh=>tN lo 0 h λb=>K (.sl es id b (h-b))) none
  |.sl es id off n=>bq (Nat.beq es (P.cellsOf e)&& !Nat.beq es 0) (tN hi n n λh=>tN lo 0 h λb=>K (.sl es id (off+b) (h-b))) none
  |.p (.sl u) l=>bq (Nat.beq u.cells (P.cellsOf e)&& !Nat.beq u.cells 0) (FJ (α:=u.den) l lo hi λR=>K (.p (.sl u) R)) none
  |.p .opq (.slice none 0 0)=>bO (!Nat.beq (P.cellsOf e) 0)<|tN hi 0 0 λh=>tN lo 0 h λ_=>K (.p .opq (.slice none 0 0))
  |.p (.ref f u) x=>bq (Nat.beq u.cells (P.cellsOf e)&& !Nat.beq u.cells 0) (tN hi (fM (s:=u) x) (fM (s:=u) x) λh=>tN lo 0 h λb=>K (.p (.ref f u) (lI (α:=u.den) x b (h-b)))) none
  |_=>none
 |some (.array n e)=>match a with
  |.own es id 0 0=>bq (Nat.beq es (P.cellsOf e)&& !Nat.beq es 0) (kW H es id λ_ l=>bO (Nat.ble n cM&&Nat.beq n l.length)<|match lo,hi with
   |none,none=>K (.slf es id)
   |lo,hi=>tN hi n n λh=>tN lo 0 h λb=>K (.sl es id b (h-b))) none
  |.pt u l 0 0=>bq (Nat.beq u.cells (P.cellsOf e)&& !Nat.beq u.cells 0&&Nat.ble n cM&&Nat.beq n l.length) (FJ l lo hi λR=>K (.p (.sl u) R)) none
  |_=>none
 |_=>none
def nE(t:TypeId)(a:AV)(lo:Option AV)(hi R:AV)(K:AV->Option β):Option β:=
 match P.underlying t with
 |some (.slice e)=>match a with
  |.p (.sl u) l=>bq (Nat.beq u.cells (P.cellsOf e)&& !Nat.beq u.cells 0) (R.any?.ob λy=>(cT y (List.length (α:=u.den) l)).bind λm=>hi.any?.ob λx=>(cT x m).bind λh=>match lo with
   |none=>K (.p (.sl u) (List.take (α:=u.den) h l))
   |some lo=>lo.any?.ob λx=>(cT x h).bind λb=>K (.p (.sl u) (List.drop (α:=u.den) b (List.take h l)))) none
  |_=>none
 |_=>none
def pD(H:Hp)(u:Ty)(a:AV)(K:List u.den->Option β):Option β:=
 match a with
 |.p t x=>dq t (.sl u) (λh=>K (Ty.to h x))
  (dq t .str (λh=>dq (.sl .byte) (.sl u) (λh2=>K (Ty.to h2 (Ty.to h x:List UInt8))) none) ((DF t x (.sl u)).ob λl=>K l))
 |.slf es id=>match bG H id with
  |some ⟨_,.rows _ t l⟩=>dq t u (λh=>(bq (Nat.beq es t.cells) (K (Ty.toL h l)) none)) none
  |_=>none
 |.sl es id off n=>match bG H id with
  |some ⟨_,.rows _ t l⟩=>dq t u (λh=>(bq (Nat.beq es t.cells&&Nat.ble (off+n) l.length) (K (((Ty.toL h l).drop off).take n)) none)) none
  |_=>none
 |_=>none
def AS(H:Hp)(a:AV)(K:Nat->Option β):Option β:=
 match a with
 |.sl _ _ _ n=>K n
 |.slf es id=>match wR H es id with
  |some n=>K n
  |none=>kW H es id λ_ l=>K l.length
 |.p (.sl u) l=>K (List.length (α:=u.den) l)
 |.p .opq (.slice none 0 0)=>K 0
 |.p (.ref _ u) r=>K (fM (s:=u) r)
 |_=>none
def KC(H:Hp)(a:AV)(K:Nat->Option β):Option β:=
 match a with
 |.p .opq (.map none)=>K 0
 |.mp id=>match bG H id with
  |some ⟨_,.map _ _ m⟩=>K m.1.length
  |_=>none
 |_=>none
def IR(t:TypeId)(H:Hp)(a:AV)(K:Nat->Option β):Option β:=
 match P.underlying t with
 |some .string=>a.str?.ob λl=>K l.length
 |some (.slice _)=>AS H a K
 |some (.map _ _)=>KC H a K
 |some (.array n _)=>K n
 |_=>none
def oA(e:TypeId)(n:Nat):Bool:=Nat.ble (n*P.bytesOf e) cM&&Nat.ble n cM
def AT(e:TypeId)(n:Nat):Bool:=match P.info? e with|some i=>(match i.zero with|some z=>Nat.beq z.cells.size n|none=>false)|none=>false
def lJ(t:TypeId)(s x:AV)(id:Nat)(H:Hp)(K:AV->Hp->Option β):Option β:=
 match P.underlying t with
 |some (.slice e)=>(ty P e).ob λu=>
  pD H u x λm=>
   match s with
   |.p .opq (.slice none 0 0)=>bO (AT P e u.cells&&oA P e m.length)<|gW H id (.rows e u m) λH'=>K (.slf u.cells id) H'
   |.slf es R=>match bG H R with
    |some ⟨false,.rows e' t l⟩=>dq t u (λh=>bO (AT P e u.cells&&Nat.beq e e'&&Nat.beq es u.cells&&oA P e (l.length+m.length))<|
     gW (bS H R none) id (.rows e u (Ty.toL h l++m)) λH'=>K (.slf es id) H')
     (dq u t.unref (λh=>bO (AT P e u.cells&&Nat.beq e e'&&Nat.beq es u.cells&&oA P e (l.length+m.length))<|
     gW (bS H R none) id (.rows e t (l++(Ty.toL h m).map (dE t))) λH'=>K (.slf es id) H') none)
    |_=>none
   |.sl es R 0 n=>match bG H R with
    |some ⟨false,.rows e' t l⟩=>dq t u (λh=>bO (AT P e u.cells&&Nat.beq e e'&&Nat.beq es u.cells&&Nat.ble n l.length&&oA P e (n+m.length))<|
     gW (bS H R none) id (.rows e u ((Ty.toL h l).take n++m)) λH'=>K (.slf es id) H') none
    |_=>none
   |_=>none
 |_=>none
def bY{α:Type}(l:List α)(R:Nat)(m:List α):List α:=l.take R++m++l.drop (R+m.length)
def sF{α}(R:List (Nat×List α))(x:List α⊕Option (Nat×Nat×Nat))(m:List α):Option (List (Nat×List α)×Nat):=
 match x with
 |.inl l=>bO (Nat.beq l.length 0) (some (R,0))
 |.inr none=>some (R,0)
 |.inr (some (k,off,n))=>R[k]?.bind λp=>bO (Nat.beq p.1 1&&Nat.ble (off+n) p.2.length) (some (R.set k (1,bY p.2 off (m.take n)),min m.length n))
def uZ(t:TypeId)(d x:AV)(H:Hp)(K:AV->Hp->Option β):Option β:=
 match P.underlying t with
 |some (.slice e)=>(ty P e).ob λu=>
  pD H u x λm=>
   match d with
   |.slf es id=>match bG H id with
    |some ⟨false,.rows e' t l⟩=>dq t u (λh=>bO (Nat.beq es u.cells)<|
     K (.i .i64 ((min m.length l.length:Nat):Int)) (bS H id (some ⟨false,.rows e' u (bY (Ty.toL h l) 0 (m.take l.length))⟩))) none
    |_=>none
   |.sl es id off n=>match bG H id with
    |some ⟨false,.rows e' t l⟩=>dq t u (λh=>bO (Nat.beq es u.cells&&Nat.ble (off+n) l.length)<|
     K (.i .i64 ((min m.length n:Nat):Int)) (bS H id (some ⟨false,.rows e' u (bY (Ty.toL h l) off (m.take n))⟩))) none
    |_=>none
   |.p (.ref f s) x=>bO (nro f)<|match bG H (bZ f) with
    |some ⟨false,.fam e' R ms⟩=>dq R s (λh=>dq u R (λh2=>(sF ms (h▸(show List s.den⊕Option (Nat×Nat×Nat) from x)) (Ty.toL h2 m)).bind λy=>
     K (.i .i64 (y.2:Int)) (bS H (bZ f) (some ⟨false,.fam e' R y.1⟩))) none) none
    |_=>none
   |_=>none
 |_=>none
def qM(t:TypeId)(d:AV)(H:Hp)(K:AV->Hp->Option β):Option β:=
 match P.underlying t with
 |some (.slice e)=>(ty P e).ob λu=>bO (nY P e u)<|
  match d with
  |.p .opq (.slice none 0 0)=>K (.tup []) H
  |.slf es id=>match bG H id with
   |some ⟨false,.rows e' t l⟩=>dq t u (λh=>bO (Nat.beq es u.cells)<|K (.tup []) (bS H id (some ⟨false,.rows e' u (bY (Ty.toL h l) 0 (List.replicate l.length u.zero))⟩))) none
   |_=>none
  |.sl es id off n=>match bG H id with
   |some ⟨false,.rows e' t l⟩=>dq t u (λh=>bO (Nat.beq es u.cells&&Nat.ble (off+n) l.length)<|K (.tup []) (bS H id (some ⟨false,.rows e' u (bY (Ty.toL h l) off (List.replicate n u.zero))⟩))) none
   |_=>none
  |_=>none
 |_=>none
def jM(R aa:TypeId)(a:AV)(H:Hp)(K:AV->Option β):Option β:=
 match P.underlying R,P.underlying aa with
 |some (.int ks),some (.int k)=>(a.int? ks).ob λn=>K (.i k (k.wrap n))
 |some .string,some .string=>a.str?.ob λl=>K (.s l)
 |some (.slice e),some .string=>bq (isB P e) (pD H .byte a λl=>K (.s l)) none
 |some (.slice _),some (.slice e)=>none
 |_,_=>none
def jN(R aa:TypeId)(a:AV)(id:Nat)(H:Hp)(K:AV->Hp->Option β):Option β:=
 match P.underlying R,P.underlying aa with
 |some .string,some (.slice e)=>bq (isB P e) (a.str?.ob λl=>bO (Nat.ble l.length cM)<|gW H id (.rows e .byte l) λH'=>K (.slf 1 id) H') none
 |some (.slice _),some (.slice e)=>match a with
  |.slf es ab=>match bG H ab with
   |some ⟨false,.rows _ .byte l⟩=>bq (Nat.beq R aa&&isB P e&&Nat.beq es 1) (bO (Nat.blt 0 (List.length (α:=UInt8) l))<|K (.slf es ab) H) none
   |_=>none
  |_=>none
 |_,_=>none
def vA(t:TypeId)(l c:AV)(id:Nat)(H:Hp)(K:AV->Hp->Option β):Option β:=
 match P.underlying t with
 |some (.slice e)=>l.any?.ob λn=>c.any?.ob λm=>(cT m cM).bind λR=>(cT n R).bind λn'=>
  (ty P e).ob λu=>bO (nY P e u&&Nat.ble (R*P.bytesOf e) cM)<|
   gW H id (.rows e u (List.replicate n' u.zero)) λH'=>K (.slf u.cells id) H'
 |_=>none
def AU(t:TypeId):Bool:=match P.underlying t with|some (.func _ _ _)=>true|_=>false
def KD:List Nat->Ty->Ty
 |[f],.sl s=>.ref f s
 |_,v=>v
def lE(t:TypeId)(r:Option AV)(md:List Nat)(id:Nat)(H:Hp)(K:AV->Hp->Option β):Option β:=
 match P.underlying t with
 |some (.map kt R)=>(ty P kt).ob λk=>bO (match r with|none=>true|some a=>a.any?.isSome)<|
  bq (AU P R) (gW H id (.fmap k []) λH'=>K (.mp id) H') ((ty P R).ob λv=>gW H id (.map k (KD md v) ([],0)) λH'=>K (.mp id) H')
 |_=>none
def HJ(c:Bool)(v:AV)(R:Bool):AV:=bq c (.tup [v,.b R]) v
def tO(R:TypeId)(k:Ty):Bool:=decide (ty P R=some k)&&eqT P dB R k&&k.keyed
def xM(t:TypeId)(k v:Ty):Bool:=
 match P.underlying t with
 |some (.map kt R)=>tO P kt k&&decide (ty P R=some v.unref)&&nY P R v
 |_=>false
def AW(t:TypeId)(k:Ty):Bool:=
 match P.underlying t with
 |some (.map kt R)=>tO P kt k&&AU P R&&(match P.info? R with|some i=>(match i.zero with|some .nilFunc=>true|_=>false)|none=>false)
 |_=>false
def vB{k:Ty}:List (k.den×AV)->k.den->(Option AV->Option β)->Option β
 |[],_,K=>K none
 |(a,b)::r,x,K=>bq (k.eqb x a) (K (some b)) (vB r x K)
def wT(c:Bool)(v:Ty)(r:Option v.den)(K:AV->Option β):Option β:=K (HJ c (.ofTy v (r.getD v.zero)) r.isSome)
def nF(t:TypeId)(m R:AV)(c:Bool)(H:Hp)(K:AV->Option β):Option β:=
 match m with
 |.mp id=>match bG H id with
  |some ⟨_,.map k v M⟩=>bO (xM P t k v)<|asA k R λkey=>wT c v (lG M key) K
  |some ⟨_,.fmap k l⟩=>bO (AW P t k)<|asA k R λkey=>vB l key λr=>match r with
   |some y=>K (HJ c y true)
   |none=>K (HJ c (.p .opq .nilFunc) false)
  |_=>none
 |.p .opq (.map none)=>match P.underlying t with
  |some (.map kt et)=>(ty P kt).ob λk=>(ty P et).ob λv=>bO (xM P t k v)<|asA k R λ_=>wT c v none K
  |_=>none
 |_=>none
def HM{k:Ty}:List (k.den×AV)->k.den->Bool
 |[],_=>true
 |(a,_)::r,x=> !k.eqb x a&&HM r x
def KE(H:Hp)(id:Nat)(x:AV):Option (AV×Hp):=
 match bG H id with
 |some ⟨_,.map _ v _⟩=>bq v.noRef (oU H x) ((OA H v x).ob λy=>oU y.2 y.1)
 |_=>oU H x
def nG(t:TypeId)(m key x:AV)(H:Hp)(K:AV->Hp->Option β):Option β:=
 match m with
 |.mp id=>match bG H id with
  |some ⟨false,.fmap k l⟩=>bO (AW P t k)<|asA k key λa=>bO (HM l a)<|(eS x).ob λc=>bO (Nat.beq c.length 1)<|
   K .junk (bS H id (some ⟨false,.fmap k (l++[(a,x)])⟩))
  |_=>(KE H id x).ob λy=>match bG y.2 id with
   |some ⟨false,.map k v M⟩=>bO (xM P t k v)<|asA k key λa=>asA v y.1 λb=>K .junk (bS y.2 id (some ⟨false,.map k v (mN M a b)⟩))
   |_=>none
 |_=>none
def tP:(Nat->Option (Nat×Nat))->List AV->List (Nat×AV)->Option (List AV)
 |_,R,[]=>some R
 |pl,R,(i,v)::aa=>(pl i).ob λx=>(eS v).ob λc=>
    bq (Nat.beq c.length x.2&&Nat.ble (x.1+c.length) R.length) (tP pl (setFrom R x.1 c) aa) none
def tQ(t:TypeId)(R:List (Nat×AV))(K:AV->Option β):Option β:=
 (AO P t).ob λz=>
 match P.underlying t with
 |some (.struct fs)=>(fs.toList.mapM λf=>(P.info? f.type).map λi=>(f.offset,i.size)).ob λaa=>(tP (aa.toArray[·]?) z R).ob λc=>K (.agg c)
 |some (.array _ e)=>(P.info? e).ob λie=>(tP (λi=>some (i*ie.size,ie.size)) z R).ob λc=>K (.agg c)
 |_=>none
def zU(H:Hp)(R:Option Nat)(u:Ty):Ty:=
 match R with
 |some b=>match bG H b with
  |some ⟨_,.rows _ t _⟩=>if t.unref=u then t else u
  |_=>u
 |none=>u
def gL(t:TypeId)(R:Nat)(aa:List (Nat×AV))(vs:Bool)(rb:Option Nat)(id:Nat)(H:Hp)(K:AV->Hp->Option β):Option β:=
 match P.underlying t with
 |some (.slice e)=>(AO P e).ob λz=>(ty P e).ob λu=>
  bO (Nat.beq z.length u.cells&&Nat.ble (R*z.length) 16777216)<|
  (tP (λi=>some (i*P.cellsOf e,P.cellsOf e)) (List.replicate R z).flatten aa).ob λc=>
  bq vs (bO (Nat.beq u.cells 1)<|gW H id (.vars c) λH'=>K (.slf 1 id) H')<|
  sD H c λcs H1=>FG (asm (zU H rb u)) u.cells R cs λl=>gW H1 id (.rows e (zU H rb u) l) λH'=>K (.slf u.cells id) H'
 |_=>none
def xN(R:BinOp)(k:IntKind)(a b:Int):Int:=
 match R with
 |.and=>k.wrap ((BitVec.ofInt k.bits a&&&BitVec.ofInt k.bits b).toNat:Int)
 |.or=>k.wrap ((BitVec.ofInt k.bits a|||BitVec.ofInt k.bits b).toNat:Int)
 |.xor=>k.wrap ((BitVec.ofInt k.bits a^^^BitVec.ofInt k.bits b).toNat:Int)
 |_=>k.wrap ((BitVec.ofInt k.bits a&&& ~~~BitVec.ofInt k.bits b).toNat:Int)
def KF(R:BinOp)(k k':IntKind):Bool:=match R with|.shl|.shr=>true|_=>k==k'
def zV(R:BinOp)(k:IntKind)(a b:Int)(K:AV->Option β):Option β:=
 match R with
 |.add=>K (.i k (k.wrap (a+b)))
 |.sub=>K (.i k (k.wrap (a-b)))
 |.mul=>K (.i k (k.wrap (a*b)))
 |.quo=>bO (!decide (b=0))<|K (.i k (k.wrap (a.tdiv b)))
 |.rem=>bO (!decide (b=0))<|K (.i k (a.tmod b))
 |.and|.or|.xor|.andNot=>K (.i k (xN R k a b))
 |.shl=>bO (decide (0<=b))<|K (.i k (k.wrap (a*2^(min b.toNat k.bits))))
 |.shr=>bO (decide (0<=b))<|K (.i k (a.fdiv (2^(min b.toNat k.bits))))
 |.eql=>K (.b (a==b))
 |.neq=>K (.b (!(a==b)))
 |.lss=>K (.b (decide (a<b)))
 |.leq=>K (.b (decide (a<=b)))
 |.gtr=>K (.b (decide (a>b)))
 |.geq=>K (.b (decide (a>=b)))
def zW(R:BinOp)(a b:List UInt8)(K:AV->Option β):Option β:=
 match R with
 |.add=>bO (Nat.ble (a.length+b.length) cM)<|K (.s (a++b))
 |.eql=>K (.b (a==b))
 |.neq=>K (.b (!(a==b)))
 |.lss=>K (.b (Op.bytesLess a b))
 |.leq=>K (.b (Op.bytesLess a b||a==b))
 |.gtr=>K (.b (!(Op.bytesLess a b||a==b)))
 |.geq=>K (.b (!Op.bytesLess a b))
 |_=>none
def rH(n:Nat)(K:Bool->Option β):Option β:=
 @ite _ (n=0->K true=K false) (Classical.propDecidable _) (K false) none
def SW(n:Nat)(K:Int->Option β):Option β:=
 @dite _ (∃r,∀c,n<=c->c<=9223372036854775807->K (c:Int)=some r) (Classical.propDecidable _) (λh=>some h.choose) (λ_=>none)
def IS{α:Type}:List α->Bool
 |[]=>true
 |_::_=>false
def FK(a b:AV):Option Bool:=
 match a,b with
 |.p .opq (.pointer none),.p .opq (.pointer none)=>some true
 |.own _ _ _ _,.p .opq (.pointer none)=>some false
 |.p .opq (.pointer none),.own _ _ _ _=>some false
 |.pt _ _ _ _,.p .opq (.pointer none)=>some false
 |.p .opq (.pointer none),.pt _ _ _ _=>some false
 |.p (.ptr _) l,.p .opq (.pointer none)=>some (IS l)
 |_,_=>none
def FL(a b:AV):Option Bool:=
 match a,b with
 |.mp _,.p .opq (.map none)=>some false
 |.p .opq (.map none),.mp _=>some false
 |.p .opq (.map none),.p .opq (.map none)=>some true
 |_,_=>none
def FM(a b:AV):Option Bool:=
 match a,b with
 |.p .opq .nilFunc,.p .opq .nilFunc=>some true
 |.fn _ _ _,.p .opq .nilFunc=>some false
 |.p .opq .nilFunc,.fn _ _ _=>some false
 |_,_=>none
def FN(t:TypeId)(a b:AV)(H:Hp)(K:Bool->Option β):Option β:=
 match P.underlying t with
 |some (.pointer _)=>(FK a b).ob K
 |some (.map _ _)=>(FL a b).ob K
 |some (.func _ _ _)=>(FM a b).ob K
 |some (.slice _)=>match a,b with
  |.p .opq (.slice none 0 0),.p .opq (.slice none 0 0)=>K true
  |a,.p .opq (.slice none 0 0)=>AS H a λn=>rH n K
  |.p .opq (.slice none 0 0),b=>AS H b λn=>rH n K
  |_,_=>none
 |_=>(ty P t).ob λu=>bO (eqT P dB t u&& !P.eqGuardType P.depth t)<|asA u a λx=>asA u b λy=>K (u.eqb x y)
def zX(R:BinOp)(t u:TypeId)(a b:AV)(H:Hp)(K:AV->Option β):Option β:=
 match P.underlying t with
 |some (.int k)=>match P.underlying u with
  |some (.int k')=>(a.int? k).ob λx=>(b.int? k').ob λy=>
   bO (KF R k k')<|zV R k x y K
  |_=>none
 |some .string=>a.str?.ob λx=>b.str?.ob λy=>zW R x y K
 |_=>match R with
  |.eql=>FN P t a b H λr=>K (.b r)
  |.neq=>FN P t a b H λr=>K (.b (!r))
  |_=>none
def IT(R:UnOp)(t:TypeId)(a:AV)(K:AV->Option β):Option β:=
 match R,P.underlying t with
 |.not,some .bool=>a.bool?.ob λx=>K (.b (!x))
 |.neg,some (.int k)=>(a.int? k).ob λx=>K (.i k (k.wrap (0-x)))
 |.xor,some (.int k)=>(a.int? k).ob λx=>K (.i k (xN .xor k (if k.signed then-1 else k.max) x))
 |_,_=>none
def OB:List Int->Int->Int
 |[],m=>m
 |y::r,m=>OB r (if y<m then y else m)
def OC:List Int->Int->Int
 |[],m=>m
 |y::r,m=>OC r (if y>m then y else m)
def DJ(k:IntKind):List AV->Option (List Int)
 |[]=>some []
 |a::r=>(a.int? k).ob λn=>(DJ k r).map (n::·)
def xO(t:TypeId)(c a b:AV)(K:AV->Option β):Option β:=
 c.bool?.ob λq=>match P.underlying t with
  |some .bool=>match a.bool?,b.bool? with
   |some x,some y=>K (.b (bq q x y))
   |some x,none=>bO q<|K (.b x)
   |none,some y=>bO (!q)<|K (.b y)
   |none,none=>none
  |_=>bq q (K a) (K b)
end
end
end
noncomputable section
inductive Gh where
 |freeze (slot:Nat)
 |ownNil (slot:Nat) (e:TypeId) (id:Nat)
 |ownCell (blk off:Nat) (e:TypeId) (id:Nat)
 |renum (old new:Nat)
 |pure (slot:Nat)
 |frzB (blk:Nat)
 |pureCell (blk off:Nat)
 |newFam (f:Nat) (e:TypeId) (s:Ty)
 |toRef (blk:Nat) (t:Ty)
 |mem (slot f:Nat)
 |opn (slot m:Nat)
inductive Cn where
 |slot (k:Nat) (kd:Kd)
 |cell (b j:Nat) (kd:Kd)
 |key (id:Nat)
inductive AC where
 |skip
 |ret
 |exit (id:Nat)
 |seq (a b:AC)
 |cond (c:Operand) (a b:AC)
 |block (id:Nat) (a:AC)
 |loop (sh:fP) (ret:Bool) (outs:List (Nat×fP)) (a:AC)
 |region (id:Nat) (ops:List (Oper×Ann)) (draw:Bool)
 |join (sh:fP) (ret:Bool) (outs:List (Nat×fP)) (a:AC)
 |pre (g:Gh) (a:AC)
 |sel (q:Cn) (a b:AC)
 |post (g:Gh) (a:AC)
 |round (a r:AC)
 |bad (c:Code)
inductive Ov where
 |leaf
 |one (a:Ov)
 |two (a b:Ov)
 |loop (sh:fP) (ret:Bool) (outs:List (Nat×fP)) (a:Ov)
 |reg (l:List (Nat×Ann))
 |join (sh:fP) (ret:Bool) (outs:List (Nat×fP)) (a:Ov)
 |pre (g:Gh) (a:Ov)
 |sel (q:Cn) (a b:Ov)
 |post (g:Gh) (a:Ov)
 |round (a r:Ov)
def SK:List (Nat×Ann)->Nat->Ann
 |[],_=>{}
 |(i,a)::r,k=>bq (Nat.beq i k) a (SK r k)
def xP(l:List (Nat×Ann)):Nat->List Oper->List (Oper×Ann)
 |_,[]=>[]
 |k,o::r=>(o,SK l k)::xP l (k+1) r
def plain:Code->AC
 |.ret=>.ret
 |.exit i=>.exit i
 |.seq a b=>.seq (plain a) (plain b)
 |.cond c a b=>.cond c (plain a) (plain b)
 |.block i a=>.block i (plain a)
 |.region i R d=>.region i (xP [] 0 R.toList) d
 |.skip=>.skip
 |c=>.bad c
def build:Ov->Code->AC
 |.one x,.block i a=>.block i (build x a)
 |.two x y,.seq a b=>.seq (build x a) (build y b)
 |.two x y,.cond c a b=>.cond c (build x a) (build y b)
 |.loop sh rt R x,.loop a=>.loop sh rt R (build x a)
 |.reg l,.region i aa d=>.region i (xP l 0 aa.toList) d
 |.join sh rt R x,c=>.join sh rt R (build x c)
 |.pre g x,c=>.pre g (build x c)
 |.sel q x y,c=>.sel q (build x c) (build y c)
 |.post g x,c=>.post g (build x c)
 |.round x y,.loop a=>.round (build x a) (build y (.loop a))
 |_,c=>plain c
def AC.wr:AC->List Nat
 |.seq a b=>a.wr++b.wr
 |.cond _ a b=>a.wr++b.wr
 |.block _ a=>a.wr
 |.loop _ _ _ a=>a.wr
 |.region _ R _=>R.filterMap (·.1.dst)
 |.join _ _ _ a=>a.wr
 |.pre (.ownNil k _ _) a=>k::a.wr
 |.pre (.pure k) a=>k::a.wr
 |.pre (.mem k _) a=>k::a.wr
 |.pre (.opn k _) a=>k::a.wr
 |.pre _ a=>a.wr
 |.sel _ a b=>a.wr++b.wr
 |.post (.ownNil k _ _) a=>k::a.wr
 |.post (.pure k) a=>k::a.wr
 |.post (.mem k _) a=>k::a.wr
 |.post (.opn k _) a=>k::a.wr
 |.post _ a=>a.wr
 |.round a r=>a.wr++r.wr
 |_=>[]
def KG(R:List (Nat×Nat))(i k:Nat):Bool:=match gB R i with
 |some j=>Nat.beq j k
 |none=>false
def AC.rd:AC->Bool
 |.round _ _|.bad _=>true
 |_=>false
structure FnT where
 f:FuncId
 i:Shp
 os:List Shp
 spec:i.D->Option (dS os)
abbrev Tbl:=List FnT
section
variable (P : Program) (T : Tbl)
section
variable {β : Type}
def qN(R:List Fm):List AV->(List AV->Option β)->Option β
 |[],K=>K []
 |a::r,K=>sC R a λx=>qN R r λl=>K (x::l)
def zY:List AV->(List AV->Option β)->Option β
 |[],K=>K []
 |a::r,K=>FI a λx=>zY r λl=>K (x::l)
def xQ(a:AV)(K:AV->Option β):Option β:=
 match a with
 |.agg l=>zY l λR=>K (.agg R)
 |a=>FI a K
def AX:List AV->Bool
 |[]=>false
 |a::r=>a.anyRef||AX r
def oB(H:Hp)(a:AV)(K:AV->Hp->Option β):Option β:=
 match a with
 |.agg l=>bq (AX l) (qN (zS (uX H)) l λR=>K (.agg R) (uX H)) (K (.agg l) H)
 |a=>bq a.anyRef (sC (zS (uX H)) a λx=>K x (uX H)) (K a H)
def xR(H:Hp)(a:AV)(K:AV->Hp->Option β):Option β:=KA H a λx H'=>oB H' x K
def vS(H:Hp)(a:AV):Option (AV×Hp):=(oU H a).ob λx=>oB x.2 x.1 λy H'=>some (y,H')
def pE{α}(R:List (Nat×List α))(x:List α⊕Option (Nat×(Nat×Nat))):Option (List α×List (Nat×List α)):=
 match x with
 |.inl _=>none
 |.inr none=>some ([],R)
 |.inr (some (k,off,n))=>R[k]?.bind λm=>bO (Nat.beq m.1 1&&Nat.beq off 0&&Nat.ble n m.2.length) (some (m.2.take n,R.set k (0,m.2)))
def TM{α}(R:List (Nat×List α))(x:List α⊕Option (Nat×(Nat×Nat))):Option (List α×List (Nat×List α)):=
 match x with
 |.inr (some (k,off,n))=>R[k]?.bind λm=>bO (Nat.beq m.1 1&&Nat.beq off 0&&Nat.ble n m.2.length) (some (m.2.take n,R.map λm=>(0,m.2)))
 |_=>none
def vT{α}(f:Nat)(R:List (Nat×List α))(x:List α⊕Option (Nat×(Nat×Nat))):Option (List α×List (Nat×List α)):=bq (nro f) (pE R x) (TM R x)
def FO(H:Hp)(m:Nat)(a:AV):Option (AV×Hp):=
 match m with
 |0=>some (a,H)
 |1=>vS H a
 |2=>(vS H a).map λx=>(x.1,H)
 |3=>xQ a λx=>some (x,H)
 |m=>match a with
  |.p (.ref f s) x=>match bG H (bZ f) with
   |some ⟨false,.fam e s' ms⟩=>dq s' s (λh=>bO (Nat.beq e ((m-10)%5000)&& !bM H (m+100000)&&Nat.blt (m+100000) bA)<|(vT f ms (h▸(show List s.den⊕Option (Nat×(Nat×Nat)) from x))).bind λy=>
    some (.slf s'.cells (m+100000),bS (bS H (bZ f) (some ⟨false,.fam e s' y.2⟩)) (m+100000) (some ⟨false,.rows e s' y.1⟩))) none
   |_=>none
  |.p .opq (.slice none 0 0)=>(ty P ((m-10)%5000)).ob λu=>bq (bM H (m+100000)||Nat.ble bA (m+100000)) none (some (.slf u.cells (m+100000),bS H (m+100000) (some ⟨false,.rows ((m-10)%5000) u []⟩)))
  |.sl es R 0 n=>match bG H R with
   |some ⟨false,.rows e t l⟩=>bq (Nat.beq es t.cells&& !bM H (m+100000)&&Nat.blt (m+100000) bA&&Nat.ble n l.length) (some (.slf es (m+100000),bS (bS H R none) (m+100000) (some ⟨false,.rows e t (l.take n)⟩))) none
   |_=>some (.sl es R 0 n,H)
  |a=>some (a,H)
def zZ:Hp->List Nat->List AV->Option (List AV×Hp)
 |H,_,[]=>some ([],H)
 |H,R,a::r=>(FO P H (R.headD 0) a).ob λx=>(zZ x.2 R.tail r).map λy=>(x.1::y.1,y.2)
def HO(H:Hp)(m:Nat)(a:AV)(K:AV->Hp->Option β):Option β:=
 match m with
 |0=>K a H
 |1=>xR H a K
 |2=>xR H a λx _=>K x H
 |3=>xQ a λx=>K x H
 |m=>match a with
  |.p (.ref f s) x=>match bG H (bZ f) with
   |some ⟨false,.fam e s' ms⟩=>dq s' s (λh=>bO (Nat.beq e ((m-10)%5000)&& !bM H (m+100000)&&Nat.blt (m+100000) bA)<|(vT f ms (h▸(show List s.den⊕Option (Nat×(Nat×Nat)) from x))).bind λy=>
    K (.slf s'.cells (m+100000)) (bS (bS H (bZ f) (some ⟨false,.fam e s' y.2⟩)) (m+100000) (some ⟨false,.rows e s' y.1⟩))) none
   |_=>none
  |.p .opq (.slice none 0 0)=>(ty P ((m-10)%5000)).ob λu=>bq (bM H (m+100000)||Nat.ble bA (m+100000)) none (K (.slf u.cells (m+100000)) (bS H (m+100000) (some ⟨false,.rows ((m-10)%5000) u []⟩)))
  |.sl es R 0 n=>match bG H R with
   |some ⟨false,.rows e t l⟩=>bq (Nat.beq es t.cells&& !bM H (m+100000)&&Nat.blt (m+100000) bA&&Nat.ble n l.length) (K (.slf es (m+100000)) (bS (bS H R none) (m+100000) (some ⟨false,.rows e t (l.take n)⟩))) none
   |_=>K (.sl es R 0 n) H
  |a=>K a H
theorem voZ{α R}(c)(a)(b)(K:α->R->Option β):bq c (K a b) none=(bq c (some (a,b)) none).ob λx=>K x.1 x.2:=by cases c<;>rfl
theorem vCZ{α R}(c)(a)(b)(K:α->R->Option β):bq c none (K a b)=(bq c none (some (a,b))).ob λx=>K x.1 x.2:=by cases c<;>rfl
theorem l0Z{α R:Type}(x:Option α)(f)(K:R->Option β):(x.bind f).ob K=x.bind λy=>(f y).ob K:=by cases x<;>rfl
theorem weZ{α R}(x:Option α)(f)(K:R->Option β):(x.ob f).ob K=x.ob λy=>(f y).ob K:=by cases x<;>rfl
theorem qUZ{R}(c)(x y:Option R)(K:R->Option β):(bq c x y).ob K=bq c (x.ob K) (y.ob K):=by cases c<;>rfl
theorem qgZ{R}(c)(x)(K:R->Option β):(bO c x).ob K=bO c (x.ob K):=by cases c<;>rfl
theorem vrZ{R}{t u}(f)(K:R->Option β):(dq t u f none).ob K=dq t u (λh=>(f h).ob K) none:=by
 unfold dq;split<;>rfl
theorem k5Z{R}(fms)(a)(f)(K:R->Option β):(sC fms a f).ob K=sC fms a λx=>(f x).ob K:=by
 unfold sC
 grind[qUZ,l0Z,qgZ]
theorem h5Z{R}(fms)(K:R->Option β):∀(l) (f),(qN fms l f).ob K=qN fms l λx=>(f x).ob K
 |[],_=>rfl
 |a::r,f=>by
  unfold qN;rw[k5Z];congr 1;funext x;exact h5Z fms K r _
theorem qDZ{R}(a)(f)(K:R->Option β):(FI a f).ob K=FI a λx=>(f x).ob K:=by
 unfold FI
 grind[qUZ,l0Z]
theorem naZ{R}(K:R->Option β):∀(l) (f),(zY l f).ob K=zY l λx=>(f x).ob K
 |[],_=>rfl
 |a::r,f=>by
  unfold zY;rw[qDZ];congr 1;funext x;exact naZ K r _
theorem sxZ{R}(a)(f)(K:R->Option β):(xQ a f).ob K=xQ a λx=>(f x).ob K:=by
 unfold xQ
 grind[naZ,qDZ]
theorem nKZ{R}(H)(a)(f)(K:R->Option β):(oB H a f).ob K=oB H a λx H'=>(f x H').ob K:=by
 unfold oB
 grind[qUZ,h5Z,k5Z]
theorem gfZ(H)(a)(K:AV->Hp->Option β):xR H a K=(vS H a).ob λx=>K x.1 x.2:=by
 unfold xR vS;rw[r1Z,weZ];congr 1;funext x;rw[nKZ]
 rfl
theorem mMZ(H)(m)(a)(K:AV->Hp->Option β):HO P H m a K=(FO P H m a).ob λx=>K x.1 x.2:=by
 unfold HO FO;split
 .rfl
 .grind[gfZ]
 .rw[gfZ];cases vS H a<;>rfl
 .rw[sxZ];rfl
 .split
  .rename_i f s x;rcases bG H (bZ f) with _|⟨fz,b⟩
   .rfl
   .cases fz
    .cases b
     case fam e s' ms=>
      simp;rw[vrZ];congr 1;funext h;rw[qgZ,l0Z]
      rfl
     all_goals rfl
    .rfl
  .generalize ty P _=q;cases q with
   |none=>rfl
   |some u=>exact vCZ _ _ _ _
  .rename_i es R n;rcases bG H R with _|⟨fz,b⟩
   .rfl
   .cases fz<;>cases b<;>first|rfl|exact voZ _ _ _ _
  .rfl
def vC:Hp->List Nat->List AV->(List AV->Hp->Option β)->Option β
 |H,_,[],K=>K [] H
 |H,R,a::r,K=>HO P H (R.headD 0) a λx H'=>vC H' R.tail r λl H''=>K (x::l) H''
theorem d4Z:∀(l) (R) (H) (K:List AV->Hp->Option β),vC P H R l K=(zZ P H R l).ob λx=>K x.1 x.2
 |[],_,_,_=>rfl
 |a::r,R,H,K=>by
  unfold vC zZ;rw[mMZ];cases FO P H (R.headD 0) a with
  |none=>rfl
  |some x=>
   show vC P x.2 R.tail r _=_;rw[d4Z r];show _=((zZ P x.2 R.tail r).map _).ob _;cases zZ P x.2 R.tail r<;>rfl
def gG(H:Hp):Hp->Hp
 |[]=>H
 |(i,e)::r=>bS (gG H r) i e
def gE:Hp->List Nat->Hp
 |H,[]=>H
 |H,i::r=>gE (bS H i none) r
def tR(H:Hp):List Nat->Bool
 |[]=>true
 |i::r=> !bM H i&&tR H r
def nH:List AV->AV
 |[a]=>a
 |l=>.tup l
def Ty.scal:Ty->Bool
 |.int _|.byte|.bool|.str|.nat=>true
 |.one t=>t.scal
 |.pair a b=>a.scal&&b.scal
 |.arr _ t=>t.scal
 |_=>false
def cZ(fs:List Nat):List Ty->Bool
 |[]=>true
 |t::r=>t.famIn fs&&cZ fs r
def iF:List Ty->Bool
 |[]=>true
 |t::r=>t.scal&&iF r
def vD(e:FnT)(ab:List AV)(R:Ann)(H:Hp)(K:AV->Hp->Option β):Option β:=
 vC P H R.md ab λx1 xH=>
 bO (tR xH R.ids&&kF R.ids&&eqN (bJ e.i.hs) (cQ 0 R.sh)&&(!cH 2 R.md||(e.os.all (λo=>iF o.tys)&&Nat.beq R.sh.length 0&&Nat.beq R.ids.length 0))&&(cZ (iM (bJ e.i.hs)) e.i.tys&&(e.os.all λo=>cZ (iM (bJ o.hs)) o.tys))&&(tJ R.ids&&Nat.ble (R.sh.length+R.ids.length) bA))<|
 e.i.rco x1 xH (lH R.sh (cQ 0 R.sh)) λt=>
 (e.spec t).bind λr=>dS.on e.os r λo x2=>
  let all:=R.sh++R.ids
  let aa:=lH (cQ 0 all) all
  o.embC x2 λvs H2=>
  bO (kF all&&kF (nA H2)&&mZ (nA H2) (lZ aa))<|
  K (AV.ren (gB aa) (nH vs)) (gG (gE xH R.sh) (iT H2 (gB aa) aa))
def AV.fnv? :AV->Option (FuncId×List AV×List AV)
 |.fn f a c=>some (f,a,c)
 |.p .opq (.func (.func f) a c)=>bq (Nat.beq a.size 0&&Nat.beq c.size 0) (some (f,[],[])) none
 |_=>none
def HP(f:FuncId):Tbl->Option FnT
 |[]=>none
 |e::r=>bq (Nat.beq e.f f) (some e) (HP f r)
def KH(T:Tbl)(n:Nat)(f:FuncId):Option FnT:=
 match T[n]? with
 |some e=>bq (Nat.beq e.f f) (some e) (HP f T)
 |none=>none
def isR(o:Oper):Bool:=
 match o.op with
 |.move _|.assign _|.pick _ _ _|.build _ _|.load _ _|.nilCheck _|.binOp _ _ _ _ _|.unOp _ _ _|.makeFunc _ _ _|.slice _ _ _ _ _
 |.fieldAddr _ _ _|.field _ _ _|.indexAddr _ _ _|.index _ _ _|.extract _ _|.lookup _ _ _ _=>true
 |.convert _ d _=>match P.underlying d with
  |some (.slice _)=>false
  |_=>true
 |.call c=>match c.callee with
  |.builtin .len|.builtin .min|.builtin .max|.builtin .cap=>true
  |_=>false
 |_=>false
def evR(o:Oper)(r:Operand->AV)(H:Hp)(K:AV->Option β):Option β:=
 match o.op with
 |.move x|.assign x=>K (r x)
 |.pick c a b=>xO P o.type (r c) (r a) (r b) K
 |.build t ps=>tQ P t (ps.toList.map λx=>(x.1,r x.2)) K
 |.load t a=>sE P t (r a) H K
 |.nilCheck x=>match r x with
  |.own es id i j=>K (.own es id i j)
  |.pt u l i j=>K (.pt u l i j)
  |.fn f a c=>K (.fn f a c)
  |.rp f es k i j=>K (.rp f es k i j)
  |.p (.ptr t) l=>bO (!IS (show List t.den from l)) (K (.pt t l 0 0))
  |_=>none
 |.binOp op t x y u=>zX P op t u (r x) (r y) H K
 |.lookup t x R c=>nF P t (r x) (r R) c H K
 |.unOp op t x=>IT P op t (r x) K
 |.convert s d x=>jM P s d (r x) H K
 |.makeFunc (.func f) a c=>K (.fn f (a.toList.map r) (c.toList.map r))
 |.slice t x lo hi none=>qL P t (r x) (lo.map r) (hi.map r) H K
 |.slice t x lo (some hi) (some mx)=>nE P t (r x) (lo.map r) (r hi) (r mx) K
 |.fieldAddr s x f=>iN P s (r x) f K
 |.field s x f=>qK P s (r x) f K
 |.indexAddr t x R=>jX P t (r x) (r R) H K
 |.index t x R=>tM P t (r x) (r R) K
 |.extract x i=>(r x).tup?.ob λl=>l[i]?.ob K
 |.call c=>
  match c.callee with
  |.builtin .len=>match c.args.toList,c.argTypes.toList with
   |[a],[t]=>IR P t H (r a) λn=>K (.i .i64 (n:Int))
   |_,_=>none
  |.builtin .cap=>match c.args.toList,c.argTypes.toList with
   |[a],[t]=>match P.underlying t with
    |some (.slice _)=>match r a with
     |.p .opq (.slice none 0 0)=>K (.i .i64 0)
     |a=>AS H a λn=>SW n λm=>K (.i .i64 m)
    |_=>none
   |_,_=>none
  |.builtin .min=>match P.underlying o.type with
   |some (.int k)=>(DJ k (c.args.toList.map r)).ob λl=>match l with
    |x::l=>K (.i k (OB l x))
    |[]=>none
   |_=>none
  |.builtin .max=>match P.underlying o.type with
   |some (.int k)=>(DJ k (c.args.toList.map r)).ob λl=>match l with
    |x::l=>K (.i k (OC l x))
    |[]=>none
   |_=>none
  |_=>none
 |_=>none
def evW(o:Oper)(R:Ann)(r:Operand->AV)(H:Hp)(K:AV->Hp->Option β):Option β:=
 match o.op with
 |.alloc t=>bq (IS R.md) (qJ P t (R.ids.headD 0) H K) (tL P t (R.ids.headD 0) H K)
 |.box t x=>bq (IS R.md) (zT P t (r x) (R.ids.headD 0) H K) (AR P t (r x) (R.ids.headD 0) H K)
 |.buildSlice t n ps=>gL P t n (ps.toList.map λx=>(x.1,r x.2)) (Nat.beq (R.md.headD 0) 1) R.sh.head? (R.ids.headD 0) H K
 |.store t a x=>qI P t (r a) (r x) H K
 |.convert s d x=>match P.underlying d with
  |some .string=>jM P s d (r x) H λv=>K v H
  |_=>jN P s d (r x) (R.ids.headD 0) H K
 |.makeSlice t l c=>vA P t (r l) (r c) (R.ids.headD 0) H K
 |.makeMap t q=>lE P t (q.map r) R.md (R.ids.headD 0) H K
 |.mapUpdate t m k x|.insert t m k x=>nG P t (r m) (r k) (r x) H K
 |.call c=>
  match c.callee with
  |.builtin .append=>match c.args.toList,c.argTypes.toList with
   |[s,x],[t,u]=>match P.underlying u with
    |some (.slice _)=>lJ P t (r s) (r x) (R.ids.headD 0) H K
    |some .string=>lJ P t (r s) (r x) (R.ids.headD 0) H K
    |_=>none
   |_,_=>none
  |.builtin .copy=>match c.args.toList,c.argTypes.toList with
   |[d,x],t::_=>uZ P t (r d) (r x) H K
   |_,_=>none
  |.builtin .clear=>match c.args.toList,c.argTypes.toList with
   |[d],[t]=>qM P t (r d) H K
   |_,_=>none
  |.value f=>(r f).fnv?.ob λx=>match KH T R.fn x.1 with
   |some e=>vD P e (x.2.1++c.args.toList.map r++x.2.2) R H K
   |none=>none
  |_=>none
 |_=>none
def ev1(o:Oper)(R:Ann)(st:St)(K:St->Option β):Option β:=
 bq (isR P o) (evR P o st.opnd st.hp λv=>K (st.putO o.dst v)) (evW P T o R st.opnd st.hp λv H=>K {st.putO o.dst v with hp:=H})
def St.skip(st:St)(o:Oper):St:=st.putO o.dst (.tup [])
def evG(all:List Oper)(o:Oper)(st:St)(go skip:St->Option β):Option β:=
 bq (mH st.nt o.dst) (match o.guard with
  |none=>go st
  |some (j,R)=>((all[j]?).ob (·.dst)).ob λd=>bO (Nat.blt d 1048576)<|
   match st.tm.get d with
   |.tup []=>skip (st.skip o)
   |a=>a.bool?.ob λt=>
    bq t ((bq R (go {st with tm:=st.tm.put d (.b true)}) (skip (St.skip {st with tm:=st.tm.put d (.b true)} o)))) ((bq R (skip (St.skip {st with tm:=st.tm.put d (.b false)} o)) (go {st with tm:=st.tm.put d (.b false)})))) none
def xS:List (Oper×Ann)->List Oper->St->(St->Option β)->Option β
 |[],_,st,K=>K st
 |(o,an)::R,all,st,K=>evG all o st (λst=>ev1 P T o (an.at st.hp) st λaa=>xS R all aa K) (λst=>xS R all st K)
def FP:List Nat->List Nat
 |[]=>[]
 |i::r=>bq (cH i r) (FP r) (i::FP r)
def Ty.fams:Ty->List Nat
 |.ref f t=>bZ f::t.fams
 |.sl t=>t.fams
 |.one t=>t.fams
 |.pair a b=>a.fams++b.fams
 |.arr _ t=>t.fams
 |_=>[]
def KI:AV->List Nat
 |.p t _=>t.fams
 |_=>[]
def HQ:List AV->List Nat
 |[]=>[]
 |a::l=>KI a++HQ l
def TN:AV->List Nat
 |.agg l=>HQ l
 |a=>KI a
def KJ:List AV->List Nat
 |[]=>[]
 |a::l=>TN a++KJ l
def OD(o:Oper)(r:Operand->AV):List Nat:=
 match o.op with
 |.move _|.fieldAddr _ _ _|.field _ _ _|.extract _ _=>[]
 |.store _ a x=>match r a with
  |.own 0 id _ _=>[id]
  |y=>AV.idsL [y,r x]
 |.call _=>AV.idsL (o.op.operands.toList.map r)++KJ (o.op.operands.toList.map r)
 |_=>AV.idsL (o.op.operands.toList.map r)
def sG(o:Oper)(R:Ann)(r:Operand->AV):List Nat:=FP (R.sh++R.ids++OD o r)
def zJ(H:Hp)(i:Nat):Bool:=Nat.blt i bA&&(match bG H i with|some ⟨true,_⟩=>true|_=>false)
def xT(H:Hp):List Nat->List Nat
 |[]=>[]
 |i::r=>bq (zJ H i) (i::xT H r) (xT H r)
def vU(H:Hp):List Nat->List Nat
 |[]=>[]
 |i::r=>bq (zJ H i) (vU H r) (i::vU H r)
def sH(H:Hp):List Nat->Hp
 |[]=>[]
 |i::r=>bq (bM H i) ((i,bG H i)::sH H r) (sH H r)
def IU:List Nat->List Nat->Bool
 |[],_=>true
 |m::r,l=>(Nat.blt m 4||cH (m+100000) l)&&IU r l
def tS(o:Oper):Bool:=
 match o.op with
 |.alloc _|.box _ _|.buildSlice _ _ _|.makeSlice _ _ _|.makeMap _ _=>true
 |.convert s _ _=>match P.underlying s with|some .string=>true|_=>false
 |.call c=>match c.callee with|.builtin .append=>true|_=>false
 |_=>false
def AY(t:TypeId):Bool:=match P.underlying t with|some (.slice _)=>false|_=>true
def OE(o:Oper):Bool:=
 match o.op with
 |.binOp _ t _ _ _=>AY P t
 |.call c=>match c.callee with
  |.builtin .cap=>false
  |_=>true
 |_=>true
def TO(o:Oper)(R:Ann)(st:St)(K:St->Option β):Option β:=
 bq (isR P o) (bO (OE P o)<|evR P o st.opnd (sH st.hp (sG o R st.opnd)) λv=>K (st.putO o.dst v))
  (bO ((!tS P o|| !Nat.beq R.ids.length 0)&&IU R.md (sG o R st.opnd))<|evW P T o R st.opnd (sH st.hp (sG o R st.opnd)) λv H=>
   bO (mZ (nA H) (sG o R st.opnd)&&tJ (sG o R st.opnd))<|K {st.putO o.dst v with hp:=gG (gG (gE st.hp (sG o R st.opnd)) H) (sH st.hp (xT st.hp (sG o R st.opnd)))})
structure Fp where
 i:Nat
 fp:List Nat
 wr:List Nat
def tT:List Nat->List Nat->Bool
 |[],_=>false
 |i::r,l=>cH i l||tT r l
def HR(a b:Fp):Bool:=tT a.wr b.fp||tT b.wr a.fp
def DK(done:List (Nat×List Nat)):List Edge->List Nat
 |[]=>[]
 |e::r=>bq (Region.binds .any e) (e.on::((done.lookup e.on).getD []++DK done r)) (DK done r)
def AZ:Nat->List Oper->List (Nat×List Nat)->List (Nat×List Nat)
 |_,[],done=>done
 |i,o::r,done=>AZ (i+1) r ((i,FP (DK done o.after.toList))::done)
def BA(cl:List (Nat×List Nat))(a b:Fp):Bool:= !HR a b||cH a.i ((cl.lookup b.i).getD [])
def qO(cl:List (Nat×List Nat)):List Fp->Bool
 |[]=>true
 |b::r=>(r.all λa=>BA cl a b)&&qO cl r
structure Nm where
 i:Nat
 cl:List Nat
 rd:List Nat
 wr:Option Nat
def pF:List Operand->List Nat
 |[]=>[]
 |.tmp t::r=>t::pF r
 |.global g::r=>(1048576+g)::pF r
 |_::r=>pF r
def tU(all:List Oper)(o:Oper):List Nat:=
 match o.guard with
 |some (g,_)=>(match all[g]? with|some x=>(match x.dst with|some d=>[d]|none=>[])|none=>[])
 |none=>[]
def nms(cl:List (Nat×List Nat))(all:List Oper):Nat->List Oper->List Nm
 |_,[]=>[]
 |i,o::r=>⟨i,(cl.lookup i).getD [],tU all o++pF o.op.operands.toList,o.dst⟩::nms cl all (i+1) r
def fC(l:List Nat):Option Nat->Bool
 |none=>false
 |some d=>cH d l
def KK:Option Nat->Option Nat->Bool
 |some a,some b=>Nat.beq a b
 |_,_=>false
def vE(a b:Nm):Bool:= !fC b.rd a.wr&& !fC a.rd b.wr&& !KK a.wr b.wr
def HS(a:Nm):List Nm->Bool
 |[]=>true
 |b::r=>(cH a.i b.cl||vE a b)&&HS a r
def AA:List Nm->Bool
 |[]=>true
 |a::r=>HS a r&&AA r
def wU(i:Nat):List Edge->Bool
 |[]=>true
 |e::r=>(!Region.binds .any e||Nat.blt e.on i)&&wU i r
def qP:Nat->List Oper->Bool
 |_,[]=>true
 |i,o::r=>wU i o.after.toList&&(match o.op with|.select _ _=>false|_=>true)&&qP (i+1) r
def pG:List (Nat×Oper×Ann)->List Oper->St->List Fp->(St->List Fp->Option β)->Option β
 |[],_,st,fs,K=>K st fs
 |(i,o,an)::R,all,st,fs,K=>
  evG all o st (λst=>TO P T o (an.at st.hp) st λaa=>pG R all aa (⟨i,sG o (an.at st.hp) st.opnd,bq (isR P o) [] (vU st.hp (sG o (an.at st.hp) st.opnd))⟩::fs) K) (λst=>pG R all st fs K)
def pH{α:Type}:Nat->List α->List (Nat×α)
 |_,[]=>[]
 |k,a::r=>(k,a)::pH (k+1) r
def Cn.holds(st:St):Cn->Bool
 |.slot k R=>R.fits (st.tm.get k)
 |.cell b j R=>match bG st.hp b with
  |some ⟨_,.vars c⟩=>R.fits (c.getD j .junk)
  |_=>false
 |.key id=>match bG st.hp id with
  |some _=>true
  |none=>false
def oC(R aa:Nat)(id:Nat):Option Nat:=bq (Nat.beq id R) (some aa) (some id)
def Tr.ren(f:Nat->Option Nat):Tr->Tr
 |.lf=>.lf
 |.nd l v r=>.nd (l.ren f) (AV.ren f v) (r.ren f)
def pJ(f:Nat->Option Nat):Hp->Hp
 |[]=>[]
 |(i,some e)::r=>(i,some (e.ren f))::pJ f r
 |(i,none)::r=>(i,none)::pJ f r
def AB(g:Gh)(st:St):Option St:=
 match g with
 |.renum R aa=>match bG st.hp R with
  |some e=>bq (bM st.hp aa||Nat.ble bA aa||Nat.ble bA R) none (some {st with tm:=st.tm.ren (oC R aa),hp:=bS (bS (pJ (oC R aa) st.hp) R none) aa (some (e.ren (oC R aa)))})
  |none=>none
 |.pure k=>(vS st.hp (st.tm.get k)).map λx=>{st with tm:=st.tm.put k x.1,hp:=x.2}
 |.freeze k=>some {st with hp:=DI st.hp (st.tm.get k)}
 |.frzB id=>some {st with hp:=frz st.hp id}
 |.pureCell b o=>match bG st.hp b with
  |some ⟨false,.vars c⟩=>match c[o]? with
   |some a=>match vS st.hp a with
    |some (x,H')=>match bG H' b with
     |some ⟨false,.vars _⟩=>some {st with hp:=bS H' b (some ⟨false,.vars (c.set o x)⟩)}
     |_=>none
    |none=>some st
   |none=>some st
  |_=>some st
 |.ownNil k e id=>match st.tm.get k with
  |.p .opq (.slice none 0 0)=>(ty P e).ob λu=>bq (bM st.hp id||Nat.ble bA id) none (some {st with tm:=st.tm.put k (.slf u.cells id),hp:=bS st.hp id (some ⟨false,.rows e u []⟩)})
  |_=>some st
 |.ownCell b o e id=>match bG st.hp b with
  |some ⟨false,.vars c⟩=>match c[o]? with
   |some (.p .opq (.slice none 0 0))=>(ty P e).ob λu=>bq (bM st.hp id||Nat.ble bA id) none (some {st with hp:=bS (bS st.hp b (some ⟨false,.vars (c.set o (.slf u.cells id))⟩)) id (some ⟨false,.rows e u []⟩)})
   |_=>some st
  |_=>some st
 |.newFam f e s=>bq (bM st.hp (bZ f)|| !s.noRef||Nat.beq s.cells 0) none (some {st with hp:=bS st.hp (bZ f) (some ⟨false,.fam e s []⟩)})
 |.mem k f=>match bG st.hp (bZ f) with
  |some ⟨false,.fam _ s _⟩=>(KB st.hp (.ref f s) (st.tm.get k)).map λx=>{st with tm:=st.tm.put k x.1,hp:=x.2}
  |_=>none
 |.opn k m=>bq (Nat.blt m 10) none ((FO P st.hp m (st.tm.get k)).map λx=>{st with tm:=st.tm.put k x.1,hp:=x.2})
 |.toRef id t=>match bG st.hp id with
  |some ⟨false,.rows e u l⟩=>dq u t.unref (λh=>some {st with hp:=bS st.hp id (some ⟨false,.rows e t ((Ty.toL h l).map (dE t))⟩)}) none
  |_=>none
def xU{β}(g:Gh)(st:St)(K:St->Option β):Option β:=
 match g with
 |.pureCell b o=>match bG st.hp b with
  |some ⟨false,.vars c⟩=>match c[o]? with
   |some a=>xR st.hp a fun x H'=>match bG H' b with
    |some ⟨false,.vars _⟩=>K {st with hp:=bS H' b (some ⟨false,.vars (c.set o x)⟩)}
    |_=>none
   |none=>K st
  |_=>K st
 |.opn k m=>bq (Nat.blt m 10) none (HO P st.hp m (st.tm.get k) fun x H'=>K {st with tm:=st.tm.put k x,hp:=H'})
 |g=>(AB P g st).ob K
end
def Out.retO{β R:Type}:(ret:Bool)->(l:List (Nat×fP))->β->(Out ret l β->Option R)->Option R
 |true,l,b,K=>K (Out.ret l b)
 |false,_,_,_=>none
variable (fu : Nat)
def evS:{β:Type}->AC->St->(St->Option β)->(Nat->St->Option β)->(St->Option β)->Option β
 |_,.skip,st,K,_,_=>K st
 |_,.ret,st,_,_,R=>R st
 |_,.exit i,st,_,X,_=>X i st
 |_,.seq a b,st,K,X,R=>evS a st (λac=>evS b ac K X R) X R
 |_,.cond c a b,st,K,X,R=>(st.opnd c).bool?.ob λt=>bq t (evS a st K X R) (evS b st K X R)
 |_,.block i a,st,K,X,R=>evS a st K (λj ac=>bq (Nat.beq j i) (K ac) (X j ac)) R
 |β,.loop sh rt ab a,st,K,X,R=>
  st.prj sh λt0=>
  (iter fu (λt=>evS (β:=sh.D⊕Out rt ab β) a (sh.inj ((st.tm.keep).junk a.wr) st.nt st.n0 t) (λaa=>aa.prj sh λt'=>some (.inl t'))
   (λi aa=>Out.mk aa rt ab i λo=>some (.inr o))
   (λaa=>(R aa).ob λb=>Out.retO rt ab b λo=>some (.inr o))) t0).bind λo=>
  Out.on ((st.tm.keep).junk a.wr) st.nt st.n0 rt ab o X some
 |_,.region _ ad ae,st,K,_,_=>bq ae (bO (qP 0 (ad.map (·.1))&&AA (nms (AZ 0 (ad.map (·.1)) []) (ad.map (·.1)) 0 (ad.map (·.1))))<|pG P T (pH 0 ad) (ad.map (·.1)) st [] λac fs=>bO (qO (AZ 0 (ad.map (·.1)) []) fs)<|K ac) (xS P T ad (ad.map (·.1)) st K)
 |β,.join sh rt ab a,st,K,X,R=>
  (evS (β:=Out rt ((0,sh)::ab) β) a st (λaa=>Out.mk aa rt ((0,sh)::ab) 0 some)
   (λi aa=>Out.mk aa rt ((0,sh)::ab) (i+1) some)
   (λaa=>(R aa).ob λb=>Out.retO rt ((0,sh)::ab) b some)).bind λo=>
  Out.on ((st.tm.keep).junk a.wr) st.nt st.n0 rt ((0,sh)::ab) o (λi aa=>match i with|0=>K aa|i+1=>X i aa) some
 |_,.pre g a,st,K,X,R=>xU P g st λac=>evS a ac K X R
 |_,.sel q a b,st,K,X,R=>bq (Cn.holds st q) (evS a st K X R) (evS b st K X R)
 |_,.post g a,st,K,X,R=>evS a st (λac=>xU P g ac K) X R
 |_,.round a r,st,K,X,R=>bO r.rd<|evS a st (λac=>evS r ac K X R) X R
 |_,.bad _,_,_,_,_=>none
structure FnA where
 ov:Ov
 i:Shp
 os:List Shp
 md:List Nat
def xV:Tr->Nat->List AV->Tr
 |t,_,[]=>t
 |t,k,a::r=>xV (t.put k a) (k+1) r
def tV{β}:List ResultVar->St->(List AV->Option β)->Option β
 |[],_,K=>K []
 |.tmp t::r,st,K=>tV r st λl=>K (st.opnd (.tmp t)::l)
 |.cell a t::r,st,K=>sE P t (st.opnd (.tmp a)) st.hp λv=>tV r st λl=>K (v::l)
def fin(fn:Func)(fa:FnA)(st:St):Option (dS fa.os):=
 tV P fn.results.toList st λl=>vC P st.hp fa.md l λx1 xH=>
  let n:=(kT (bJ fa.i.hs)).length
  let ids:=reach xH uV (nX 0 n++AV.idsL x1) []
  let R:=ids.filter λi=> !Nat.blt i n
  let aa:=ids.filter λi=>Nat.blt i n
  dS.rco x1 xH (lH (aa++R) (aa++nX n R.length)++zQ (sB (nA xH))) fa.os some
def depth(n:Nat):Nat:=Nat.log2 n+1
def evF(fn:Func)(R:FnA)(t:R.i.D):Option (dS R.os):=
 R.i.embC t λvs H=>
 bO (eqN (bJ R.i.hs) (cQ 0 (bJ R.i.hs))&& !cH 2 R.md&&(Nat.ble R.i.hs.length bA&&R.os.all λo=>cZ (iM (bJ o.hs)) o.tys&&mZ (sB (bJ R.i.hs)) (sB (bJ o.hs))))<|
 bO (Nat.ble vs.length 1048576)<|
 fn.body.ob λc=>evS P T fu (build R.ov c) ⟨xV (Tr.full (depth fn.ntmps)) 0 vs,fn.ntmps,(kT (bJ R.i.hs)).length,H⟩ (fin P fn R) (λ_ _=>none) (fin P fn R)
end
end
inductive RB where
 |no
 |virt
 |real (g sz n:Nat)
abbrev Rho:=Nat->RB
structure Z where
 w:World
 M:Nat->Prop
 C:Nat->Prop
 ρ:Rho
 D:Nat->Prop
def eY(ρ R:Rho):Prop:=∀id,bC<=id->ρ id≠.no->R id=ρ id
theorem eY.of{ρ R}(h:∀id,ρ id≠.no->R id=ρ id):eY ρ R:=λid _=>h id
theorem eY.eq{ρ R}(h:R=ρ):eY ρ R:=λ_ _ _=>by rw[h]
def Cl(w:World)(M:Nat->Prop)(ρ:Rho):(t:Ty)->t.den->List Value->Prop
 |.int k,n,vs=>vs=[.int k n]
 |.byte,c,vs=>vs=[.int .u8 (c.toNat:Int)]
 |.bool,b,vs=>vs=[.bool b]
 |.str,l,vs=>vs=[.string ⟨⟨l⟩⟩]
 |.opq,v,vs=>vs=[v]/\v.oneCell'=true
 |.nat,_,_=>False
 |.one t,x,vs=>Cl w M ρ t x vs
 |.pair a b,x,vs=>∃u v,vs=u++v/\Cl w M ρ a x.1 u/\Cl w M ρ b x.2 v
 |.arr n t,l,vs=>List.length (α:=t.den) l=n/\∃css:List (List Value),css.length=n/\vs=css.flatten/\∀(i:Nat) (e) u,(show List t.den from l)[i]? =some e->css[i]? =some u->Cl w M ρ t e u
 |.sl t,l,vs=>∃A c,vs=[.slice A (List.length (α:=t.den) l) c]/\List.length (α:=t.den) l<=c/\c<=maxLen/\(A=none->c=0)/\
  (List.length (α:=t.den) l≠0->∃b off,A=some ⟨b,off,none⟩/\¬M b/\b<w.heap.size/\
   ∀(i) (e),(show List t.den from l)[i]? =some e->∃u,Cl w M ρ t e u/\w.rangeAt b (off+i*t.cells) u)
 |.ptr t,l,vs=>(List.length (α:=t.den) l=0/\vs=[.pointer none])\/
  (List.length (α:=t.den) l≠0/\∃b off,vs=[.pointer (some ⟨b,off,none⟩)]/\¬M b/\b<w.heap.size/\
   ∀(i) (e),(show List t.den from l)[i]? =some e->∃u,Cl w M ρ t e u/\w.rangeAt b (off+i*t.cells) u)
 |.ref f t,x,vs=>match x with
  |.inl l=>∃A c,vs=[.slice A (List.length (α:=t.den) l) c]/\List.length (α:=t.den) l<=c/\c<=maxLen/\(A=none->c=0)/\
   (List.length (α:=t.den) l≠0->∃b off,A=some ⟨b,off,none⟩/\¬M b/\b<w.heap.size/\
    ∀(i) (e),(show List t.den from l)[i]? =some e->∃u,Cl w M ρ t e u/\w.rangeAt b (off+i*t.cells) u)
  |.inr none=>vs=[.slice none 0 0]
  |.inr (some (k,off,n))=>(∃A,ρ (enc f k)= .virt/\n=0/\vs=[.slice A 0 0])\/
   ∃g R m c,ρ (enc f k)= .real g R m/\n<=c/\(off+c)*t.cells<=R/\c<=maxLen/\vs=[.slice (some ⟨g,off*t.cells,none⟩) n c]
def cU(w:World)(M:Nat->Prop)(ρ:Rho)(t:Ty)(x:t.den)(v:Value):Prop:=
 ∃vs,Cl w M ρ t x vs/\v=(bif t.isAgg then .agg vs.toArray else vs.headD undef)
def fT(w:World)(M:Nat->Prop)(ρ:Rho)(b off:Nat)(t:Ty)(l:List t.den):Prop:=
 ∀(i) e,l[i]? =some e->∃u,Cl w M ρ t e u/\w.rangeAt b (off+i*t.cells) u
inductive bE (z:Z):AV->Value->Prop
 |p (t:Ty) (x:t.den) (v:Value) (h:cU z.w z.M z.ρ t x v):bE z (.p t x) v
 |pt (t:Ty) (l:List t.den) (i j b off:Nat) (hM:¬z.M b) (hlt:b<z.w.heap.size) (h:fT z.w z.M z.ρ b off t l):bE z (.pt t l i j) (.pointer (some ⟨b,off+i*t.cells+j,none⟩))
 |own (es id i j g sz n:Nat) (h:z.ρ id= .real g sz n):bE z (.own es id i j) (.pointer (some ⟨g,i*es+j,none⟩))
 |rp (f es k i j g sz n:Nat) (h:z.ρ (enc f k)= .real g sz n):bE z (.rp f es k i j) (.pointer (some ⟨g,i*es+j,none⟩))
 |slV (es id off:Nat) (A:Option Addr) (h:z.ρ id= .virt):bE z (.sl es id off 0) (.slice A 0 0)
 |slE (es id off g sz m o:Nat) (h:z.ρ id= .real g sz m):bE z (.sl es id off 0) (.slice (some ⟨g,o,none⟩) 0 0)
 |sl (es id off n g sz m c:Nat) (h:z.ρ id= .real g sz m) (hn:n<=c) (hs:(off+c)*es<=sz) (hm:c<=maxLen):bE z (.sl es id off n) (.slice (some ⟨g,off*es,none⟩) n c)
 |slfV (es id:Nat) (A:Option Addr) (h:z.ρ id= .virt):bE z (.slf es id) (.slice A 0 0)
 |slf (es id g sz n c:Nat) (h:z.ρ id= .real g sz n) (hn:n<=c) (hs:c*es<=sz) (hm:c<=maxLen):bE z (.slf es id) (.slice (some ⟨g,0,none⟩) n c)
 |mp (id g sz n:Nat) (h:z.ρ id= .real g sz n):bE z (.mp id) (.map (some g))
 |fn (f:FuncId) (a c:List AV) (va vc:Array Value) (ha:va.size=a.length) (hc:vc.size=c.length)
  (h1:∀(i:Nat) (x:AV) (v:Value),a[i]? =some x->va[i]? =some v->bE z x v)
  (h2:∀(i:Nat) (x:AV) (v:Value),c[i]? =some x->vc[i]? =some v->bE z x v):bE z (.fn f a c) (.func (.func f) va vc)
 |agg (l:List AV) (cs:Array Value) (hs:cs.size=l.length) (h1:∀v∈cs,v.oneCell'=true)
  (h:∀(i:Nat) (x:AV) (v:Value),l[i]? =some x->cs[i]? =some v->bE z x v):bE z (.agg l) (.agg cs)
 |tup (l:List AV) (vs:Array Value) (hs:vs.size=l.length)
  (h:∀(i:Nat) (x:AV) (v:Value),l[i]? =some x->vs[i]? =some v->bE z x v):bE z (.tup l) (.tuple vs)
 |junk (v:Value):bE z .junk v
def okF(cs:Array Value)(R:Nat×Nat):Prop:=R.1=R.2\/cs.size<=R.1
def okR(t:Ty)(cs:Array Value)(R:Nat×Nat):Prop:=R.1=R.2\/(t= .byte/\cs.size<=R.1)
theorem okR.f{t}{cs}{R}(h:okR t cs R):okF cs R:=h.imp id λh=>h.2
theorem ewZ{t}{cs cs'}{R}(h:okR t cs R)(hs:cs'.size=cs.size):okR t cs' R:=by simp_all[okR]
theorem okR0{t}(cs):okR t cs (0,0):=.inl rfl
def gR(z:Z)(g sz n:Nat):Blk->Prop
 |.vars c=>∃cs e fr,z.w.heap[g]? =some (.cells cs e fr)/\okF cs fr/\cs.size=sz/\(c.length=sz/\n=sz)/\(∀(i:Nat) a v,c[i]? =some a->cs[i]? =some v->bE z a v)/\∀v∈cs,v.oneCell'=true
 |.rows e t l=>∃cs fr,z.w.heap[g]? =some (.cells cs e fr)/\okR t cs fr/\cs.size=sz/\l.length=n/\l.length*t.cells<=sz/\0<t.cells/\
  (∀(i:Nat) x,l[i]? =some x->∃u,Cl z.w z.M z.ρ t x u/\∀(j:Nat) v,u[j]? =some v->cs[i*t.cells+j]? =some v)
 |.map k v m=>∃es,z.w.heap[g]? =some (.map es m.2)/\es.size=m.1.length/\(∀(i:Nat) x e,m.1[i]? =some x->es[i]? =some e->cU z.w z.M z.ρ k x.1.1 e.key/\cU z.w z.M z.ρ v x.1.2 e.val/\e.born=x.2)/\
  (∀(i j:Nat) x y,m.1[i]? =some x->m.1[j]? =some y->x.2=y.2->i=j)/\(∀(i:Nat) x,m.1[i]? =some x->x.2<m.2)
 |.fmap k l=>∃es R,z.w.heap[g]? =some (.map es R)/\es.size=l.length/\(∀(i:Nat) x e,l[i]? =some x->es[i]? =some e->cU z.w z.M z.ρ k x.1 e.key/\bE z x.2 e.val)
 |.fam _ _ _=>False
def pK:Blk->Prop
 |.rows _ t l=>l=[]/\0<t.cells
 |_=>False
def eW(z:Z)(id:Nat)(e:Ent):Prop:=
 match z.ρ id with
 |.no=>False
 |.virt=>pK e.b
 |.real g R n=>g<z.w.heap.size/\(e.fz=false->z.C g)/\(e.fz=true->¬z.M g)/\gR z g R n e.b
def rt(id:Nat):Nat:=if bC<=id then bA+(id-bC)%16 else id
def pick(k:Nat)(e:Ent):Option Ent:=
 match e.b with
 |.fam e' s R=>match R[k]? with
  |some (st,l)=>if st=0 then none else some ⟨e.fz||Nat.ble 2 st,.rows e' s l⟩
  |none=>none
 |_=>none
def bP(H:Hp)(id:Nat):Option Ent:=
 if bC<=id then(bG H (rt id)).bind (pick ((id-bC)/16)) else if bA<=id then none else bG H id
def Ent.has(k:Nat)(e:Ent):Bool:=
 match e.b with
 |.fam _ _ R=>decide (k<R.length)
 |_=>true
def dU(H:Hp)(id:Nat):Bool:=
 if bC<=id then(match bG H (rt id) with|some e=>e.has ((id-bC)/16)|none=>bM H (rt id)) else if bA<=id then false else bM H id
def famOk(id:Nat)(e:Ent):Prop:=
 match e.b with
 |.fam _ s _=>bA<=id/\id<bC/\s.noRef=true/\0<s.cells/\e.fz=false
 |_=>id<bA
def Ro(id:Nat):Prop:=bC<=id/\(id-bC)%16=15
theorem Ro.rt{id}(h:Ro id):rt id=bA+15:=by unfold Ab.rt;rw[ZAM h.1,h.2]
theorem bUZ{id}(h:id<bA):¬Ro id:=λR=>by
 have h0:bA<bC:=by decide
 have:=R.1;omega
theorem tZZ{f}:nro f=true↔f%16≠15:=by
 unfold nro;rw[ZAk,<-Bool.not_eq_true,Nat.beq_eq]
theorem q2Z{f k}:Ro (enc f k)↔f%16=15:=by
 simp_all[Ro,enc]
structure bI (z:Z) (H:Hp):Prop where
 ent:∀id e,bP H id=some e->eW z id e
 inj:∀id id' e e' g sz n g' sz' n',id≠id'->bP H id=some e->bP H id'=some e'->e.fz=false->e'.fz=false->z.ρ id= .real g sz n->z.ρ id'= .real g' sz' n'->¬(Ro id/\Ro id')->g≠g'
 fresh:∀id,dU H id=false->z.ρ id= .no\/z.D id
 sub:∀g,z.C g->z.M g
 fam:∀id e,bG H id=some e->famOk id e
 key:∀id,bM H id=true->id<bC
 dyn:∀id,bC<=id->bM H (rt id)=true->¬z.D id
 nos:∀id,bA<=id->id<bC->z.ρ id= .no
theorem kUZ{f k}(h:nro f=true):¬Ro (enc f k):=λR=>tZZ.1 h (q2Z.1 R)
structure Nx (z z':Z):Prop where
 os:z'.w.os=z.w.os
 tape:z'.w.tape=z.w.tape/\z.w.drawn<=z'.w.drawn
 output:z'.w.output=z.w.output
 size:z.w.heap.size<=z'.w.heap.size
 block:∀b,b<z.w.heap.size->¬z.C b->z'.w.heap[b]? =z.w.heap[b]?
 subM:∀g,z'.M g->z.M g\/z.w.heap.size<=g
 subC:∀g,z'.C g->z.C g\/z.w.heap.size<=g
 keepM:∀g,g<z.w.heap.size->z.M g->¬z.C g->z'.M g
 ext:∀id,z.ρ id≠.no->z'.ρ id=z.ρ id
 dom:z'.D=z.D
theorem Nx.refl(z):Nx z z:=⟨rfl,⟨rfl,ZAN _⟩,rfl,ZAN _,λ_ _ _=>rfl,λ_ h=>.inl h,λ_ h=>.inl h,λ_ _ h _=>h,λ_ _=>rfl,rfl⟩
theorem Nx.trans{z z' R}(h:Nx z z')(k:Nx z' R):Nx z R:=by
 have h1:=h.size;refine⟨k.os.trans h.os,⟨k.tape.1.trans h.tape.1,ZBF h.tape.2 k.tape.2⟩,k.output.trans h.output,ZBF h.size k.size,λb hb hC=> ?_,λg hg=> ?_,λg hg=> ?_,λg hg hM hC=> ?_,λid aa=> ?_,k.dom.trans h.dom⟩
 .have ab:¬z'.C b:=λhm=>by
   rcases h.subC b hm with h2|h2<;>grind
  rw[k.block b (by omega) ab,h.block b hb hC]
 .rcases k.subM g hg with h2|h2
  .exact h.subM g h2
  omega
 .rcases k.subC g hg with h2|h2
  .exact h.subC g h2
  omega
 .refine k.keepM g (by omega) (h.keepM g hg hM hC) λhm=> ?_;rcases h.subC g hm with h2|h2<;>grind
 .have h1:=h.ext id aa;rw[<-h1];exact k.ext id (by simp_all)
theorem bcZ{css:List (List Value)}{n}(h:∀u∈css,u.length=n):css.flatten.length=css.length*n:=by
 induction css<;>grind
theorem bfZ{α β:Type}{l:List α}{c:List β}(h:c.length=l.length){i:Nat}{u}(R:c[i]? =some u):∃e,l[i]? =some e:=
 ⟨_,ZAC (by grind)⟩
theorem Cl.len{w}{M}{ρ}:{t:Ty}->{x:t.den}->{vs:List Value}->Cl w M ρ t x vs->vs.length=t.cells
 |.int _,_,_,h|.byte,_,_,h|.bool,_,_,h|.str,_,_,h=>by subst h;rfl
 |.opq,_,_,h=>by obtain⟨rfl,_⟩:=h;rfl
 |.nat,_,_,h=>h.elim
 |.one t,_,_,h=>Cl.len (t:=t) h
 |.pair a b,_,_,h=>by
  obtain⟨u,v,rfl,h1,h2⟩:=h;rw[ZAe,Cl.len h1,Cl.len h2];rfl
 |.arr n t,l,_,h=>by
  obtain⟨R,css,h1,rfl,h2⟩:=h;rw[bcZ,h1]
  .rfl
  .intro u hu
   let⟨i,hi⟩:=ZAR hu
   let⟨e,he⟩:=bfZ (l:=((l))) (by rw[h1,<-R]) hi
   exact Cl.len (h2 i e u he hi)
 |.sl t,_,_,h=>by obtain⟨A,c,rfl,_⟩:=h;rfl
 |.ptr t,_,_,h=>by rcases h with⟨_,rfl⟩|⟨_,b,off,rfl,_⟩<;>rfl
 |.ref f t,.inl l,_,h=>by obtain⟨A,c,rfl,_⟩:=h;rfl
 |.ref f t,.inr none,_,h=>by subst h;rfl
 |.ref f t,.inr (some (k,off,n)),_,h=>by rcases h with⟨A,_,_,rfl⟩|⟨g,sz,m,c,_,_,_,_,rfl⟩<;>rfl
theorem Cl.one{w}{M}{ρ}:{t:Ty}->{x:t.den}->{vs:List Value}->Cl w M ρ t x vs->∀v∈vs,v.oneCell'=true
 |.int _,_,_,h|.byte,_,_,h|.bool,_,_,h|.str,_,_,h=>by subst h;simp[Value.oneCell']
 |.opq,_,_,h=>by obtain⟨rfl,h⟩:=h<;>grind
 |.nat,_,_,h=>h.elim
 |.one t,_,_,h=>Cl.one (t:=t) h
 |.pair a b,_,_,h=>by
  obtain⟨u,v,rfl,h1,h2⟩:=h;intro x hx;rcases ZAh.1 hx with hx|hx
  .exact Cl.one h1 x hx
  .exact Cl.one h2 x hx
 |.arr n t,l,_,h=>by
  obtain⟨R,css,h1,rfl,h2⟩:=h;intro x hx
  let⟨u,hu,hx⟩:=List.mem_flatten.1 hx
  let⟨i,hi⟩:=ZAR hu
  let⟨e,he⟩:=bfZ (l:=((l))) (by rw[h1,<-R]) hi
  exact Cl.one (h2 i e u he hi) x hx
 |.sl t,_,_,h=>by obtain⟨A,c,rfl,_⟩:=h;simp[Value.oneCell']
 |.ptr t,_,_,h=>by rcases h with⟨_,rfl⟩|⟨_,b,off,rfl,_⟩<;>simp[Value.oneCell']
 |.ref f t,.inl l,_,h=>by obtain⟨A,c,rfl,_⟩:=h;simp[Value.oneCell']
 |.ref f t,.inr none,_,h=>by simp[Cl] at h;subst h;simp[Value.oneCell']
 |.ref f t,.inr (some (k,off,n)),_,h=>by rcases h with⟨A,_,_,rfl⟩|⟨g,sz,m,c,_,_,_,_,rfl⟩<;>simp[Value.oneCell']
theorem World.rangeAt.same{w w':World}{b o}{vs}(h:w.rangeAt b o vs)(he:w'.heap[b]? =w.heap[b]?):w'.rangeAt b o vs:=λj v R=>by
 rw[World.cell?_of_block he];exact h j v R
theorem Cl.keep{w w'}{M M'}{ρ aa}(hs:w.heap.size<=w'.heap.size)(hb:∀b,b<w.heap.size->¬M b->w'.heap[b]? =w.heap[b]?)(hM:∀g,M' g->M g\/w.heap.size<=g)(hr:eY ρ aa):
 {t:Ty}->{x:t.den}->{vs:List Value}->Cl w M ρ t x vs->Cl w' M' aa t x vs
 |.int _,_,_,h|.byte,_,_,h|.bool,_,_,h|.str,_,_,h|.opq,_,_,h=>h
 |.nat,_,_,h=>h.elim
 |.one t,_,_,h=>Cl.keep hs hb hM hr (t:=t) h
 |.pair a b,_,_,h=>by
  obtain⟨u,v,rfl,h1,h2⟩:=h;exact⟨u,v,rfl,Cl.keep hs hb hM hr h1,Cl.keep hs hb hM hr h2⟩
 |.arr n t,l,_,h=>by
  obtain⟨hn,css,h1,rfl,h2⟩:=h;exact⟨hn,css,h1,rfl,λi e u he hu=>Cl.keep hs hb hM hr (h2 i e u he hu)⟩
 |.sl t,l,_,h=>by
  obtain⟨A,c,rfl,h1,h2,h3,h4⟩:=h;refine⟨A,c,rfl,h1,h2,h3,λh0=> ?_⟩
  let⟨b,off,h5,h6,h7,h8⟩:=h4 h0
  refine⟨b,off,h5,λhm=> ?_,by omega,λi e he=> ?_⟩
  .rcases hM b hm with h|h
   .exact h6 h
   .omega
  .let⟨u,h9,R⟩:=h8 i e he
   exact⟨u,Cl.keep hs hb hM hr h9,World.rangeAt.same R (hb b h7 h6)⟩
 |.ptr t,l,_,h=>by
  rcases h with h|⟨h1,b,off,rfl,h6,h7,h8⟩
  .exact .inl h
  refine .inr ⟨h1,b,off,rfl,λhm=> ?_,by omega,λi e he=> ?_⟩
  .rcases hM b hm with h|h
   .exact h6 h
   .omega
  .let⟨u,h9,R⟩:=h8 i e he
   exact⟨u,Cl.keep hs hb hM hr h9,World.rangeAt.same R (hb b h7 h6)⟩
 |.ref f t,.inl l,_,h=>by
  obtain⟨A,c,rfl,h1,h2,h3,h4⟩:=h;refine⟨A,c,rfl,h1,h2,h3,λh0=> ?_⟩
  let⟨b,off,h5,h6,h7,h8⟩:=h4 h0
  refine⟨b,off,h5,λhm=> ?_,by omega,λi e he=> ?_⟩
  .rcases hM b hm with h|h
   .exact h6 h
   .omega
  .let⟨u,h9,R⟩:=h8 i e he
   exact⟨u,Cl.keep hs hb hM hr h9,World.rangeAt.same R (hb b h7 h6)⟩
 |.ref f t,.inr none,_,h=>h
 |.ref f t,.inr (some (k,off,n)),_,h=>by
  have hd:bC<=enc f k:=ZCg _ _;rcases h with⟨A,h1,h2,h3⟩|⟨g,sz,m,c,h1,h2⟩
  .exact .inl ⟨A,by rw[hr _ hd (by simp_all),h1],h2,h3⟩
  .exact .inr ⟨g,sz,m,c,by rw[hr _ hd (by simp_all),h1],h2⟩
theorem fT.keep{w w'}{M M'}{ρ R}(hs:w.heap.size<=w'.heap.size)(hb:∀b,b<w.heap.size->¬M b->w'.heap[b]? =w.heap[b]?)(hM:∀g,M' g->M g\/w.heap.size<=g)(hr:eY ρ R)
 {b off}{t}{l}(h:fT w M ρ b off t l)(aa:b<w.heap.size)(hn:¬M b):fT w' M' R b off t l:=λi e he=>by
 let⟨u,h9,ab⟩:=h i e he
 exact⟨u,Cl.keep hs hb hM hr h9,World.rangeAt.same ab (hb b aa hn)⟩
theorem cU.keep{w w'}{M M'}{ρ R}(hs:w.heap.size<=w'.heap.size)(hb:∀b,b<w.heap.size->¬M b->w'.heap[b]? =w.heap[b]?)(hM:∀g,M' g->M g\/w.heap.size<=g)(hr:eY ρ R)
 {t}{x}{v}(h:cU w M ρ t x v):cU w' M' R t x v:=by
 let⟨vs,h1,h2⟩:=h
 exact⟨vs,Cl.keep hs hb hM hr h1,h2⟩
theorem Cl.dyn{w}{M}{ρ R}(hr:eY ρ R){t}{x}{vs}(h:Cl w M ρ t x vs):Cl w M R t x vs:=h.keep (ZAN _) (λ_ _ _=>rfl) (λ_ h=>.inl h) hr
theorem cU.dyn{w}{M}{ρ R}(hr:eY ρ R){t}{x}{v}(h:cU w M ρ t x v):cU w M R t x v:=h.keep (ZAN _) (λ_ _ _=>rfl) (λ_ h=>.inl h) hr
def vF(fs:List Nat)(ρ R:Rho):Prop:=∀f k,cH (f%16) fs=true->ρ (enc f k)≠.no->R (enc f k)=ρ (enc f k)
theorem Cl.on{w}{M}{ρ ab}{fs}(hs:vF fs ρ ab):{t:Ty}->{x:t.den}->{vs:List Value}->t.famIn fs=true->Cl w M ρ t x vs->Cl w M ab t x vs
 |.int _,_,_,_,h|.byte,_,_,_,h|.bool,_,_,_,h|.str,_,_,_,h|.opq,_,_,_,h=>h
 |.nat,_,_,_,h=>h.elim
 |.one t,_,_,R,h=>Cl.on hs (t:=t) R h
 |.pair a b,_,_,R,h=>by
  obtain⟨u,v,rfl,h1,h2⟩:=h;simp[Ty.famIn] at R;exact⟨u,v,rfl,Cl.on hs R.1 h1,Cl.on hs R.2 h2⟩
 |.arr n t,l,_,R,h=>by
  obtain⟨hl,css,h1,rfl,h2⟩:=h;exact⟨hl,css,h1,rfl,λi e u he hu=>Cl.on hs R (h2 i e u he hu)⟩
 |.sl t,l,_,R,h=>by
  obtain⟨A,c,rfl,h1,h2,h3,h4⟩:=h;refine⟨A,c,rfl,h1,h2,h3,λh0=> ?_⟩
  let⟨b,off,h5,h6,h7,h8⟩:=h4 h0
  refine⟨b,off,h5,h6,h7,λi e he=> ?_⟩
  let⟨u,h9,aa⟩:=h8 i e he
  exact⟨u,Cl.on hs R h9,aa⟩
 |.ptr t,l,_,R,h=>by
  rcases h with h|⟨h1,b,off,rfl,h6,h7,h8⟩
  .exact .inl h
  refine .inr ⟨h1,b,off,rfl,h6,h7,λi e he=> ?_⟩
  let⟨u,h9,aa⟩:=h8 i e he
  exact⟨u,Cl.on hs R h9,aa⟩
 |.ref f t,.inl l,_,R,h=>by
  simp[Ty.famIn] at R;obtain⟨A,c,rfl,h1,h2,h3,h4⟩:=h;refine⟨A,c,rfl,h1,h2,h3,λh0=> ?_⟩
  let⟨b,off,h5,h6,h7,h8⟩:=h4 h0
  refine⟨b,off,h5,h6,h7,λi e he=> ?_⟩
  let⟨u,h9,aa⟩:=h8 i e he
  exact⟨u,Cl.on hs R.2 h9,aa⟩
 |.ref f t,.inr none,_,_,h=>h
 |.ref f t,.inr (some (k,off,n)),_,R,h=>by
  simp[Ty.famIn] at R;rcases h with⟨A,h1,h2,h3⟩|⟨g,sz,m,c,h1,h2⟩
  .exact .inl ⟨A,by rw[hs f k R.1 (by simp_all),h1],h2,h3⟩
  .exact .inr ⟨g,sz,m,c,by rw[hs f k R.1 (by simp_all),h1],h2⟩
def Agr(ρ R:Rho)(P:List Nat->Bool):Prop:=eY ρ R\/∃fs,vF fs ρ R/\P fs=true
theorem Agr.inl{ρ R}{P}(h:eY ρ R):Agr ρ R P:=Or.inl h
theorem Agr.on{ρ R}{P}{fs}(h:vF fs ρ R)(hp:P fs=true):Agr ρ R P:=Or.inr ⟨fs,h,hp⟩
theorem Agr.mono{ρ R}{P Q}(h:Agr ρ R P)(hq:∀fs,P fs=true->Q fs=true):Agr ρ R Q:=by
 rcases h with h|⟨fs,h1,h2⟩
 .exact .inl h
 .exact .on h1 (hq fs h2)
theorem Cl.to{w}{M}{ρ R}{t}(hd:Agr ρ R λfs=>t.famIn fs){x}{vs}(h:Cl w M ρ t x vs):Cl w M R t x vs:=by
 rcases hd with hd|⟨fs,h1,h2⟩
 .exact h.dyn hd
 .exact h.on h1 h2
theorem cU.to{w}{M}{ρ R}{t}(hd:Agr ρ R λfs=>t.famIn fs){x}{v}(h:cU w M ρ t x v):cU w M R t x v:=by
 let⟨vs,h1,h2⟩:=h
 exact⟨vs,h1.to hd,h2⟩
theorem fT.to{w}{M}{ρ R}{t}(hd:Agr ρ R λfs=>t.famIn fs){b off}{l}(h:fT w M ρ b off t l):fT w M R b off t l:=λi e he=>by
 let⟨u,h1,h2⟩:=h i e he
 exact⟨u,h1.to hd,h2⟩
mutual
def AV.famInT(fs:List Nat):AV->Bool
 |.p t _=>t.famIn fs
 |.pt t _ _ _=>t.famIn fs
 |.rp f _ _ _ _=>cH (f%16) fs
 |.fn _ a c=>AV.famInTL fs a&&AV.famInTL fs c
 |.agg l=>AV.famInTL fs l
 |.tup l=>AV.famInTL fs l
 |_=>true
def AV.famInTL(fs:List Nat):List AV->Bool
 |[]=>true
 |a::l=>a.famInT fs&&AV.famInTL fs l
end
theorem bqZ{fs}:∀{l} {a},AV.famInTL fs l=true->a∈l->a.famInT fs=true
 |[],_,_,h=>by cases h
 |x::l,a,hl,h=>by
  simp[AV.famInTL] at hl;rcases ZAj.1 h with rfl|h
  .exact hl.1
  .exact bqZ hl.2 h
def Blk.famInT(fs:List Nat):Blk->Bool
 |.vars c=>AV.famInTL fs c
 |.rows _ t _=>t.famIn fs
 |.map k v _=>k.famIn fs&&v.famIn fs
 |.fmap k l=>k.famIn fs&&l.all λx=>x.2.famInT fs
 |.fam _ s _=>s.famIn fs
structure Kp (z z':Z):Prop where
 size:z.w.heap.size<=z'.w.heap.size
 block:∀b,b<z.w.heap.size->¬z.M b->z'.w.heap[b]? =z.w.heap[b]?
 subM:∀g,z'.M g->z.M g\/z.w.heap.size<=g
 ext:∀id,z.ρ id≠.no->z'.ρ id=z.ρ id
theorem Nx.kp{z z'}(h:Nx z z')(R:∀g,z.C g->z.M g):Kp z z':=⟨h.size,λb hb hM=>h.block b hb λhC=>hM (R b hC),h.subM,h.ext⟩
theorem Kp.real{z z'}(k:Kp z z'){id g R n}(h:z.ρ id= .real g R n):z'.ρ id= .real g R n:=by rw[k.ext id (by simp_all),h]
theorem Kp.virt{z z'}(k:Kp z z'){id}(h:z.ρ id= .virt):z'.ρ id= .virt:=by rw[k.ext id (by simp_all),h]
theorem Cl.kp{z z'}(k:Kp z z'){t}{x}{vs}(h:Cl z.w z.M z.ρ t x vs):Cl z'.w z'.M z'.ρ t x vs:=h.keep k.size k.block k.subM (.of k.ext)
theorem cU.kp{z z'}(k:Kp z z'){t}{x}{v}(h:cU z.w z.M z.ρ t x v):cU z'.w z'.M z'.ρ t x v:=h.keep k.size k.block k.subM (.of k.ext)
theorem bE.kp{z z'}{a}{v}(k:Kp z z')(h:bE z a v):bE z' a v:=by
 induction h with
 |p t x v h=>exact .p t x v (h.kp k)
 |pt t l i j b off hM aa h=>
  refine .pt t l i j b off (λhm=> ?_) (Nat.lt_of_lt_of_le aa k.size) (h.keep k.size k.block k.subM (.of k.ext) aa hM);rcases k.subM b hm with h|h<;>grind
 |own es id i j g R n h=>exact .own es id i j g R n (k.real h)
 |rp f es k' i j g R n h=>exact .rp f es k' i j g R n (k.real h)
 |slV es id off A h=>exact .slV es id off A (k.virt h)
 |slE es id off g R m o h=>exact .slE es id off g R m o (k.real h)
 |sl es id off n g R m c h hn hs hm=>exact .sl es id off n g R m c (k.real h) hn hs hm
 |slfV es id A h=>exact .slfV es id A (k.virt h)
 |slf es id g R n c h hn hs hm=>exact .slf es id g R n c (k.real h) hn hs hm
 |mp id g R n h=>exact .mp id g R n (k.real h)
 |fn f a c va vc ha hc h1 h2 ab ac=>exact .fn f a c va vc ha hc ab ac
 |agg l cs hs h1 h ih=>exact .agg l cs hs h1 ih
 |tup l vs hs h ih=>exact .tup l vs hs ih
 |junk v=>exact .junk v
theorem gR.kp{z z'}(k:Kp z z'){g sz n}{b}(h:gR z g sz n b)(hg:z'.w.heap[g]? =z.w.heap[g]?):gR z' g sz n b:=by
 cases b with
 |vars c=>
  let⟨cs,e,fr,a1,a2,R,a4,a5,a6⟩:=h
  exact⟨cs,e,fr,hg.trans a1,a2,R,a4,λi a v x y=>(a5 i a v x y).kp k,a6⟩
 |rows e t l=>
  let⟨cs,fr,a1,a2,R,a4,a5,a6,a7⟩:=h
  refine⟨cs,fr,hg.trans a1,a2,R,a4,a5,a6,λi x hx=> ?_⟩
  let⟨u,b1,b2⟩:=a7 i x hx
  exact⟨u,b1.kp k,b2⟩
 |map kt vt m=>
  let⟨es,a1,a2,R,a4⟩:=h
  exact⟨es,hg.trans a1,a2,λi x e q1 q2=>⟨(R i x e q1 q2).1.kp k,(R i x e q1 q2).2.1.kp k,(R i x e q1 q2).2.2⟩,a4⟩
 |fmap kt l=>
  let⟨es,aa,a1,a2,R⟩:=h
  exact⟨es,aa,hg.trans a1,a2,λi x e q1 q2=>⟨(R i x e q1 q2).1.kp k,(R i x e q1 q2).2.kp k⟩⟩
 |fam e s ms=>exact h.elim
theorem eW.kp{z z'}(k:Kp z z'){id}{e}(h:eW z id e)
 (hb:∀g sz n,z.ρ id= .real g sz n->z'.w.heap[g]? =z.w.heap[g]? /\(z.C g->z'.C g)):eW z' id e:=by
 unfold eW at*;cases R:z.ρ id with
 |no=>simp_all
 |virt=>rw[k.virt R];simp_all
 |real g sz n=>
  rw[k.real R];rw[R] at h
  let⟨h1,h2,h3,h4⟩:=h
  let⟨hg,hC⟩:=hb g sz n R
  refine⟨Nat.lt_of_lt_of_le h1 k.size,λhf=>hC (h2 hf),λhf hm=> ?_,h4.kp k hg⟩;rcases k.subM g hm with h|h<;>grind
theorem afZ(a b:Nat):(Nat.beq a b=true)↔a=b:=⟨ZB3,λh=>by simp_all⟩
theorem ahZ{a b:Nat}(h:a≠b):Nat.beq a b=false:=by
 grind[afZ]
theorem apZ(H)(id)(e)(k):bG (bS H id e) k=if k=id then e else bG H k:=by
 induction H with
 |nil=>by_cases h:k=id
       .subst h;simp[bS,bG]
       simp_all[bS,bG,ahZ,ZBj]
 |cons x H ih=>
  let⟨i,y⟩:=x
  by_cases hi:i=id
  .subst hi;simp[bS,bG];by_cases h:k=i
   .subst h;simp
   simp_all[ahZ,ZBj]
  .simp[bS,ahZ hi,bG]
   grind[afZ,ahZ]
theorem atZ(H)(id)(e)(k):bM (bS H id e) k=(decide (k=id)||bM H k):=by
 induction H with
 |nil=>by_cases h:k=id
       .subst h;simp[bS,bM]
       simp_all[bS,bM,ahZ,ZBj]
 |cons x H ih=>
  let⟨i,y⟩:=x
  by_cases hi:i=id
  .subst hi;simp[bS,bM]
   simp_all
  .simp[bS,ahZ hi,bM]
   grind
theorem aiZ{H}{id}{e}(h:bG H id=some e):bM H id=true:=by
 induction H with
 |nil=>cases h
 |cons x H ih=>
  simp only[bG,bM] at*
  grind
@[simp] theorem bq_true{α}(x y:α):bq true x y=x:=rfl
@[simp] theorem bq_false{α}(x y:α):bq false x y=y:=rfl
theorem aUZ{β}{t u}{K}{E}{r:β}(h:dq t u K E=some r):(∃e,K e=some r)\/E=some r:=by
 unfold dq at h;split at h<;>grind
theorem aeZ{β}{b}{K}{r:β}:bO b K=some r↔b=true/\K=some r:=by cases b<;>simp[bO]
theorem agZ{α β}{x}{f:α->Option β}{r}:x.ob f=some r↔∃a,x=some a/\f a=some r:=by cases x<;>simp[Option.ob]
section
variable {z : Z} {H : Hp}
theorem eIZ:bA+16=bC:=by simp[bA,bC]
theorem bbZ{id}(h:id<bC):rt id=id:=ZAK (ZBN.2 h)
theorem bNZ{id}(h:bC<=id):bA<=rt id/\rt id<bC:=by
 unfold rt;rw[ZAM h];have h2:=eIZ;omega
theorem ecZ(f k):rt (enc f k)=bZ f:=by
 unfold rt;rw[ZAM (show bC<=enc f k from ZCg _ _)];have h:(enc f k-bC)%16=f%16:=by unfold enc;omega
 rw[h]
 rfl
theorem paZ(f k):(enc f k-bC)/16=k:=by
 grind[enc,bC]
theorem vOZ{id}(h:bC<=id):∃f k,f<16/\id=enc f k:=by
 refine⟨(id-bC)%16,(id-bC)/16,ZCc _ (by omega),?_⟩
 grind[enc]
theorem ivZ{f R k k'}(h:enc f k=enc R k'):f%16=R%16/\k=k':=by
 grind[enc]
theorem ciZ(f k):bC<=enc f k:=ZCg _ _
theorem caZ(f):bA<=bZ f/\bZ f<bC:=by
 have h2:=eIZ;unfold bZ;omega
theorem aqZ{H}{id}(h:id<bA):bP H id=bG H id:=by
 unfold bP;rw[ZAK (ZBN.2 (Nat.lt_trans h (show bA<bC by decide))),ZAK (ZBN.2 h)]
theorem aCZ{H}{id}(h:id<bA):dU H id=bM H id:=by
 unfold dU;rw[ZAK (ZBN.2 (Nat.lt_trans h (show bA<bC by decide))),ZAK (ZBN.2 h)]
theorem a8Z{H}{id}(h:bC<=id):bP H id=(bG H (rt id)).bind (pick ((id-bC)/16)):=ZAM h
theorem ayZ{H}{id}(h:bC<=id):dU H id=(match bG H (rt id) with|some e=>e.has ((id-bC)/16)|none=>bM H (rt id)):=ZAM h
theorem cIZ(H)(f k):bP H (enc f k)=(bG H (bZ f)).bind (pick k):=by simp_all[a8Z,ciZ,ecZ,paZ]
theorem c0Z{H H'}{id}(h:bG H' (rt id)=bG H (rt id)):bP H' id=bP H id:=by
 by_cases hd:bC<=id
 .rw[a8Z hd,a8Z hd,h]
 simp_all[bP,bbZ]
theorem dFZ{H H'}{id}(h:bG H' (rt id)=bG H (rt id))(hk:bM H' (rt id)=bM H (rt id)):dU H' id=dU H id:=by
 by_cases hd:bC<=id
 .rw[ayZ hd,ayZ hd,h,hk]
 simp_all[dU,bbZ]
theorem a7Z{id}(R:id<bA)(H)(e)(k):bP (bS H id e) k=if k=id then e else bP H k:=by
 by_cases h:k=id
 .simp_all[aqZ,apZ]
 .rw[ZAK h];refine c0Z ?_;rw[apZ]
  grind[bNZ,bbZ,ZBN]
theorem buZ{id}(aa:id<bA)(H)(e)(k):dU (bS H id e) k=(decide (k=id)||dU H k):=by
 by_cases h:k=id
 .simp_all[aCZ,atZ]
 .have R:rt k≠id:=by
   intro e;by_cases hd:bC<=k
   .have:=(bNZ hd).1;omega
   .exact h (by rw[<-bbZ (ZBN.1 hd)];exact e)
  rw[dFZ (H:=H) (by rw[apZ,ZAK R]) (by rw[atZ];simp[R])]
  grind
theorem bI.low(R:bI z H){id}{e}(h:bG H id=some e)(hn:z.ρ id≠.no):id<bA:=by
 have h1:=R.key _ (aiZ h);rcases ZBy id bA with h2|h2
 .omega
 .exact absurd (R.nos id h2 h1) hn
theorem bI.x(R:bI z H){id}{e}(h:bG H id=some e)(hn:z.ρ id≠.no):bP H id=some e:=by
 rw[aqZ (R.low h hn)];exact h
theorem aTZ{r:RB}{g R n}(h:r= .real g R n):r≠.no:=by simp_all
theorem q9Z{r:RB}(h:r= .virt):r≠.no:=by simp_all
theorem bI.realX(hH:bI z H){id}{e}(h:bP H id=some e){g R n}(aa:z.ρ id= .real g R n):
 g<z.w.heap.size/\(e.fz=false->z.C g)/\(e.fz=true->¬z.M g)/\gR z g R n e.b:=by
 have:=hH.ent _ _ h
 simp_all[eW]
theorem bI.real(hH:bI z H){id}{e}(h:bG H id=some e){g sz n}(R:z.ρ id= .real g sz n):
 g<z.w.heap.size/\(e.fz=false->z.C g)/\(e.fz=true->¬z.M g)/\gR z g sz n e.b:=hH.realX (hH.x h (aTZ R)) R
theorem bI.virt(hH:bI z H){id}{e}(h:bG H id=some e)(R:z.ρ id= .virt):pK e.b:=by
 have:=hH.ent _ _ (hH.x h (q9Z R))
 simp_all[eW]
theorem bI.ne(hH:bI z H){id R}{e e'}{g sz n g' ab n'}(hi:id≠R)(h:bP H id=some e)(h':bP H R=some e')(hf:e'.fz=false)(ac:z.ρ id= .real g sz n)(aa:z.ρ R= .real g' ab n')(hr:¬(Ro id/\Ro R)):g≠g':=by
 cases he:e.fz
 .exact hH.inj id R e e' g sz n g' ab n' hi h h' he hf ac aa hr
 .rintro rfl;exact(hH.realX h ac).2.2.1 he (hH.sub _ ((hH.realX h' aa).2.1 hf))
theorem gR.famOk{g sz n id}{b}{fz}(h:gR z g sz n b)(R:id<bA):famOk id ⟨fz,b⟩:=by
 cases b with
 |fam e s ms=>exact h.elim
 |_=>exact R
theorem pK.famOk{id}{b}{fz}(h:pK b)(R:id<bA):famOk id ⟨fz,b⟩:=by
 cases b with
 |fam e s ms=>exact h.elim
 |_=>exact R
theorem famOk.other{id}{e}(h:Ab.famOk id e)(aa:id<bA)(id')(R:id'<bA)(fz):Ab.famOk id' ⟨fz,e.b⟩:=by
 let⟨ab,b⟩:=e
 cases b with
 |fam e s ms=>have:=h.1;omega
 |_=>exact R
theorem bI.side{z':Z}{id}{e}(R:bI z H)(ab:id<bA)(hf:∀x,e=some x->Ab.famOk id x)(hD:z'.D=z.D)(aa:∀i,bA<=i->i<bC->z'.ρ i=z.ρ i):
 (∀i x,bG (bS H id e) i=some x->Ab.famOk i x)/\(∀i,bM (bS H id e) i=true->i<bC)/\(∀i,bC<=i->bM (bS H id e) (rt i)=true->¬z'.D i)/\∀i,bA<=i->i<bC->z'.ρ i= .no:=by
 have h0:bA<bC:=by decide
 refine⟨λi x h=> ?_,λi h=> ?_,λi hd h=> ?_,λi h1 h2=>by rw[aa i h1 h2];exact R.nos i h1 h2⟩
 .rw[apZ] at h;by_cases hi:i=id
  .simp_all
  .rw[ZAK hi] at h;exact R.fam i x h
 .rw[atZ] at h;simp[ZAp] at h;rcases h with rfl|h
  .omega
  .exact R.key i h
 .rw[atZ] at h;have h1:=(bNZ hd).1;have:rt i≠id:=by omega
  simp[this,Bool.false_or] at h;rw[hD];exact R.dyn i hd h
structure Upd (H:Hp) (id:Nat) (b:Blk) (H':Hp):Prop where
 X:∀i,bP H' i=if i=id then some ⟨false,b⟩ else bP H i
 K:∀i,dU H' i=false->dU H i=false
 fam:∀i x,bG H' i=some x->(bG H i=some x\/Ab.famOk i x)
 key:∀i,bM H' i=true->bM H i=true
theorem Upd.stat{id}{b0 b}(R:id<bA)(hg:bG H id=some ⟨false,b0⟩)(hf:Ab.famOk id ⟨false,b⟩):Upd H id b (bS H id (some ⟨false,b⟩)):=by
 refine⟨λi=>a7Z R _ _ i,λi hi=> ?_,λi x h=> ?_,λi h=> ?_⟩
 .simp_all[buZ]
 .rw[apZ] at h
  grind
 .rw[atZ] at h
  grind[aiZ]
theorem iQZ{id}(h:bC<=id){f}(R:rt id=bZ f):∃k,id=enc f k:=by
 obtain⟨f',k,hf,rfl⟩:=vOZ h;rw[ecZ] at R;have:=by
  unfold bZ at R;omega
 exact⟨k,by simp_all[enc]⟩
theorem bLZ(H)(f)(e)(i):(∀k,bP (bS H (bZ f) e) (enc f k)=e.bind (pick k))/\((∀k,i≠enc f k)->bP (bS H (bZ f) e) i=bP H i):=by
 refine⟨λk=> ?_,λh=> ?_⟩
 .rw[cIZ,apZ,ZAM rfl]
 .by_cases hd:bC<=i
  .refine c0Z ?_;rw[apZ]
   grind[iQZ]
  .unfold bP;rw[ZAK hd];split
   .rfl
   .rw[apZ]
    grind[caZ]
theorem crZ(H)(f)(e)(i):(∀k,dU (bS H (bZ f) (some e)) (enc f k)=e.has k)/\((∀k,i≠enc f k)->dU (bS H (bZ f) (some e)) i=dU H i):=by
 refine⟨λk=> ?_,λh=> ?_⟩
 .rw[ayZ (ciZ f k),ecZ,paZ,apZ,ZAM rfl]
 .by_cases hd:bC<=i
  .have R:rt i≠bZ f:=λhr=>by
    grind[iQZ]
   exact dFZ (by rw[apZ,ZAK R]) (by simp_all[atZ])
  .unfold dU
   grind[caZ,atZ]
theorem g7Z{f k}{fz}{e}{s}{R}{m}(hg:bG H (bZ f)=some ⟨fz,.fam e s R⟩)(hm:R[k]? =some m)(h0:m.1≠0):
 bP H (enc f k)=some ⟨fz||Nat.ble 2 m.1,.rows e s m.2⟩:=by
 simp_all[cIZ,pick]
theorem Upd.mem{f k}{e}{s}{R}{m}(hg:bG H (bZ f)=some ⟨false,.fam e s R⟩)(hf:Ab.famOk (bZ f) ⟨false,.fam e s R⟩)(hm:R[k]? =some m)(l'):
 Upd H (enc f k) (.rows e s l') (bS H (bZ f) (some ⟨false,.fam e s (R.set k (1,l'))⟩)):=by
 have aa:=(ZAB.1 hm).1;refine⟨λi=> ?_,λi hi=> ?_,λi x h=> ?_,λi h=> ?_⟩
 .by_cases hi:∃k',i=enc f k'
  .obtain⟨k',rfl⟩:=hi;rw[(bLZ H f _ 0).1 k'];by_cases hk:k'=k
   .subst hk;rw[ZAM rfl];simp[pick];rw[ZAQ aa]
    rfl
   .rw[ZAK λh=>hk (ivZ h).2,cIZ,hg];simp[pick];rw[ZAX (ZBj hk)]
  simp_all[bLZ]
 .by_cases ab:∃k',i=enc f k'
  .obtain⟨k',rfl⟩:=ab;rw[(crZ H f _ 0).1 k'] at hi;rw[ayZ (ciZ f k'),ecZ,paZ,hg];simpa[Ent.has] using hi
  simp_all[crZ]
 .rw[apZ] at h;by_cases hi:i=bZ f
  .rw[ZAM hi] at h;cases h;rw[hi];exact .inr hf
  simp_all
 .rw[atZ] at h;simp[ZAp] at h
  grind[aiZ]
theorem bI.writeX{id g sz n}{b0 b}{w'}{H'}(R:bI z H)(hg:bP H id=some ⟨false,b0⟩)(aa:z.ρ id= .real g sz n)
 (ag:w'.os=z.w.os)(ab:w'.tape=z.w.tape/\z.w.drawn<=w'.drawn)(ac:w'.output=z.w.output)(ad:w'.heap.size=z.w.heap.size)(ae:∀b,b≠g->w'.heap[b]? =z.w.heap[b]?)
 (hb:Kp z {z with w:=w'}->gR {z with w:=w'} g sz n b)(hu:Upd H id b H')(hr:¬Ro id):bI {z with w:=w'} H'/\Nx z {z with w:=w'}:=by
 have hC:=(R.realX hg aa).2.1 rfl;have hn:Nx z {z with w:=w'}:=⟨ag,ab,ac,Nat.le_of_eq ad.symm,λb _ hb=>ae b (λh=>hb (h▸hC)),λ_ h=>.inl h,λ_ h=>.inl h,λ_ _ h _=>h,λ_ _=>rfl,rfl⟩;have hk:=hn.kp R.sub;refine⟨⟨λi e hi=> ?_,λi i' e e' a sa na a' aj ak ah h1 h2 m1 m2 h3 h4=> ?_,λi hi=>R.fresh i (hu.K i hi),R.sub,λi x h=>(hu.fam i x h).elim (R.fam i x) λh=>h,λi h=>R.key i (hu.key i h),λi hd h=>R.dyn i hd (hu.key _ h),R.nos⟩,hn⟩
 .rw[hu.X] at hi;by_cases h:i=id
  .subst h;rw[ZAM rfl] at hi;injection hi with hi;subst hi;unfold eW;show match z.ρ i with|.no=>False|.virt=>pK b|.real g sz n=>_
   rw[aa];exact⟨by show g<w'.heap.size;rw[ad];exact(R.realX hg aa).1,λ_=>hC,(λh=>by cases h),hb hk⟩
  .rw[ZAK h] at hi;refine(R.ent _ _ hi).kp hk λa sa na ha=>⟨ae a (λai=> ?_),λh=>h⟩;subst ai;exact R.ne h hi hg rfl ha aa (λh=>hr h.2) rfl
 .rw[hu.X] at h1 h2;have q:∀j ee,(if j=id then some (⟨false,b⟩:Ent) else bP H j)=some ee->ee.fz=false->∃af,bP H j=some af/\af.fz=false:=λj ee hj hf=>by
   by_cases h:j=id
   .subst h;exact⟨_,hg,rfl⟩
   .rw[ZAK h] at hj;exact⟨_,hj,hf⟩
  obtain⟨e1,q1,f1⟩:=q _ _ h1 m1;obtain⟨e2,q2,f2⟩:=q _ _ h2 m2;exact R.inj i i' _ _ _ _ _ _ _ _ ah q1 q2 f1 f2 h3 h4
theorem bI.write{id g sz n}{b0 b}{w'}(hH:bI z H)(hg:bG H id=some ⟨false,b0⟩)(aa:z.ρ id= .real g sz n)
 (ad:w'.os=z.w.os)(R:w'.tape=z.w.tape/\z.w.drawn<=w'.drawn)(ab:w'.output=z.w.output)(ae:w'.heap.size=z.w.heap.size)(af:∀b,b≠g->w'.heap[b]? =z.w.heap[b]?)
 (hb:Kp z {z with w:=w'}->gR {z with w:=w'} g sz n b):bI {z with w:=w'} (bS H id (some ⟨false,b⟩))/\Nx z {z with w:=w'}:=by
 have hC:=(hH.real hg aa).2.1 rfl;have ac:=hH.low hg (aTZ aa);have hn:Nx z {z with w:=w'}:=⟨ad,R,ab,Nat.le_of_eq ae.symm,λb _ hb=>af b (λh=>hb (h▸hC)),λ_ h=>.inl h,λ_ h=>.inl h,λ_ _ h _=>h,λ_ _=>rfl,rfl⟩;exact hH.writeX (hH.x hg (aTZ aa)) aa ad R ab ae af hb (.stat ac hg ((hb (hn.kp hH.sub)).famOk ac)) (bUZ ac)
theorem bI.new{id g sz n}{b}{w'}(hH:bI z H)(hk:bM H id=false/\id<bA)(hd:¬z.D id)(hg:z.w.heap.size<=g)(ah:g<w'.heap.size)
 (ai:w'.os=z.w.os)(ad:w'.tape=z.w.tape/\z.w.drawn<=w'.drawn)(af:w'.output=z.w.output)(aj:z.w.heap.size<=w'.heap.size)(ac:∀k,k<z.w.heap.size->w'.heap[k]? =z.w.heap[k]?)
 (hb:∀z',z'.w=w'->Kp z z'->gR z' g sz n b):
 ∃z',z'.w=w'/\bI z' (bS H id (some ⟨false,b⟩))/\Nx z z'/\z'.ρ id= .real g sz n:=by
 obtain⟨hk,ab⟩:=hk;have ak:=(hH.fresh id (by simp_all[aCZ])).resolve_right hd
 let z':Z:=⟨w',λx=>z.M x\/x=g,λx=>z.C x\/x=g,λi=>if i=id then .real g sz n else z.ρ i,z.D⟩
 have e1:∀i,i≠id->z'.ρ i=z.ρ i:=λi hi=>ZAK hi;have e2:z'.ρ id= .real g sz n:=ZAM rfl;have hn:Nx z z':=⟨ai,ad,af,aj,λb hb _=>ac b hb,λx hx=>hx.elim .inl λh=>.inr (by omega),λx hx=>hx.elim .inl λh=>.inr (by omega),
  λ_ _ h _=>.inl h,λi hi=>e1 i (by grind),rfl⟩
 have ae:=hn.kp hH.sub;have R:∀i e a sa na,bP H i=some e->z.ρ i= .real a sa na->a<z.w.heap.size:=λi e a sa na h1 h2=>(hH.realX h1 h2).1;have s:=hH.side (z':=z') (e:=some ⟨false,b⟩) ab (λx hx=>by injection hx with hx;subst hx;exact(hb z' rfl ae).famOk ab) rfl (λi h1 _=>e1 i (by omega));refine⟨z',rfl,⟨λi e hi=> ?_,λi i' e e' a sa na a' al am ag h1 h2 m1 m2 h3 h4=> ?_,λi hi=> ?_,λx hx=>hx.elim (λh=>.inl (hH.sub x h)) .inr,s.1,s.2.1,s.2.2.1,s.2.2.2⟩,hn,e2⟩
 .rw[a7Z ab] at hi;by_cases h:i=id
  .subst h;rw[ZAM rfl] at hi;injection hi with hi;subst hi;unfold eW;rw[e2];exact⟨ah,λ_=>.inr rfl,(λh=>by cases h),hb z' rfl ae⟩
  .rw[ZAK h] at hi;refine(hH.ent _ _ hi).kp ae λa sa na ha=>⟨ac a (R _ _ _ _ _ hi ha),.inl⟩
 .rw[a7Z ab] at h1 h2;by_cases hi:i=id
  .have aa:i'≠id:=λh=>ag (hi.trans h.symm);rw[ZAK aa] at h2;rw[hi,e2] at h3;rw[e1 _ aa] at h4;injection h3 with h3;have:=R _ _ _ _ _ h2 h4;intro _;omega
  .rw[ZAK hi] at h1;rw[e1 _ hi] at h3;by_cases aa:i'=id
   .rw[aa,e2] at h4;injection h4 with h4;have:=R _ _ _ _ _ h1 h3;intro _;omega
   .rw[ZAK aa] at h2;rw[e1 _ aa] at h4;exact hH.inj i i' _ _ _ _ _ _ _ _ ag h1 h2 m1 m2 h3 h4
 .rw[buZ ab] at hi;simp at hi;rw[e1 _ hi.1];exact hH.fresh i hi.2
theorem bI.newV{id}{b}(hH:bI z H)(hk:bM H id=false/\id<bA)(hd:¬z.D id)(hb:pK b):
 ∃z',z'.w=z.w/\bI z' (bS H id (some ⟨false,b⟩))/\Nx z z'/\z'.ρ id= .virt:=by
 let⟨hk,R⟩:=hk
 have ad:=(hH.fresh id (by simp_all[aCZ])).resolve_right hd
 let z':={z with ρ:=λi=>if i=id then .virt else z.ρ i}
 have e1:∀i,i≠id->z'.ρ i=z.ρ i:=λi hi=>ZAK hi;have e2:z'.ρ id= .virt:=ZAM rfl;have hn:Nx z z':=⟨rfl,⟨rfl,ZAN _⟩,rfl,ZAN _,λ_ _ _=>rfl,λ_ h=>.inl h,λ_ h=>.inl h,λ_ _ h _=>h,λi hi=>e1 i (by grind),rfl⟩;have ab:=hn.kp hH.sub;have s:=hH.side (z':=z') (e:=some ⟨false,b⟩) R (λx hx=>by cases hx;exact hb.famOk R) rfl (λi h1 _=>e1 i (by omega));refine⟨z',rfl,⟨λi e hi=> ?_,λi i' e e' a sa na a' ae af ac h1 h2 m1 m2 h3 h4=> ?_,λi hi=> ?_,hH.sub,s.1,s.2.1,s.2.2.1,s.2.2.2⟩,hn,e2⟩
 .rw[a7Z R] at hi;by_cases h:i=id
  .subst h;rw[ZAM rfl] at hi
   grind[eW]
  .rw[ZAK h] at hi;exact(hH.ent _ _ hi).kp ab λa sa na ha=>⟨rfl,λh=>h⟩
 .rw[a7Z R] at h1 h2;by_cases hi:i=id
  .rw[hi,e2] at h3;cases h3
  .by_cases aa:i'=id
   .rw[aa,e2] at h4;cases h4
   .rw[ZAK hi] at h1;rw[ZAK aa] at h2;rw[e1 _ hi] at h3;rw[e1 _ aa] at h4;exact hH.inj i i' _ _ _ _ _ _ _ _ ac h1 h2 m1 m2 h3 h4
 .rw[buZ R] at hi;simp at hi;rw[e1 _ hi.1];exact hH.fresh i hi.2
theorem bI.kill{id}(R:bI z H)(hk:bM H id=true):bI z (bS H id none):=by
 have q:∀j ee,bP (bS H id none) j=some ee->bP H j=some ee:=λj ee hj=>by
  by_cases hi:rt j=id
  .exfalso;by_cases hd:bC<=j
   .simp_all[a8Z,apZ,ZAM]
   .rw[bbZ (ZBN.1 hd)] at hi
    simp_all[bP,ZAK,apZ,ZAM]
  .rwa [c0Z (H:=H) (by rw[apZ,ZAK hi])] at hj
 have aa:∀j,bM (bS H id none) j=bM H j:=λj=>by
  simp_all[atZ]
 refine⟨λi e hi=>R.ent _ _ (q _ _ hi),λi i' e e' a sa na a' ac ad ab h1 h2 m1 m2 h3 h4=>R.inj i i' _ _ _ _ _ _ _ _ ab (q _ _ h1) (q _ _ h2) m1 m2 h3 h4,λi hi=> ?_,R.sub,λi x h=> ?_,λi h=>R.key i (by simp_all),λi hd h=>R.dyn i hd (by simp_all),R.nos⟩
 .refine R.fresh i ?_;by_cases h:rt i=id
  .by_cases hd:bC<=i
   .rw[ayZ hd,apZ,ZAM h] at hi;simp only at hi;rw[aa,h,hk] at hi;cases hi
   simp_all[bbZ,ZBN,dU,ZAK]
  .rwa [dFZ (by rw[apZ,ZAK h]) (aa _)] at hi
 .rw[apZ] at h;split at h
  .cases h
  .exact R.fam i x h
theorem niZ(id)(hH:bI z H):∃z',z'.w=z.w/\bI z' (frz H id)/\Nx z z'/\z'.ρ=z.ρ:=by
 unfold frz;by_cases ae:Nat.ble bA id=true
 .rw[ae];exact⟨z,rfl,hH,Nx.refl z,rfl⟩
 have R:=ZBN.1 λh=>ae (ZAi h);rw[Bool.eq_false_iff.2 ae,bq_false];split
 .rename_i e he;have af:bP H id=some e:=by rw[aqZ R];exact he
  have qm:∀j ee,(if j=id then some (⟨true,e.b⟩:Ent) else bP H j)=some ee->ee.fz=false->bP H j=some ee/\j≠id:=λj ee hj hf=>by
   by_cases h:j=id
   .rw[ZAM h] at hj;injection hj with hj;rw[<-hj] at hf;cases hf
   .rw[ZAK h] at hj;exact⟨hj,h⟩
  have ad:∀i i' (ee ag) g sz n g' ak n',i≠i'->bP (bS H id (some ⟨true,e.b⟩)) i=some ee->bP (bS H id (some ⟨true,e.b⟩)) i'=some ag->ee.fz=false->ag.fz=false->z.ρ i= .real g sz n->z.ρ i'= .real g' ak n'->¬(Ro i/\Ro i')->g≠g':=λi i' ee ag a sa na a' am an al h1 h2 m1 m2 h3 h4=>by
   rw[a7Z R] at h1 h2;exact hH.inj i i' _ _ _ _ _ _ _ _ al (qm _ _ h1 m1).1 (qm _ _ h2 m2).1 m1 m2 h3 h4
  have aa:∀i,dU (bS H id (some ⟨true,e.b⟩)) i=false->z.ρ i= .no\/z.D i:=λi hi=>by
   rw[buZ R] at hi;simp at hi;exact hH.fresh i hi.2
  have hs:∀z':Z,z'.D=z.D->z'.ρ=z.ρ->_:=λz' h1 h2=>hH.side (e:=some ⟨true,e.b⟩) R (λx hx=>by cases hx;exact(hH.fam id e he).other R id R true) h1 (λi _ _=>by rw[h2]);by_cases hz:∃g sz n,z.ρ id= .real g sz n
  .let⟨g,sz,n,ab⟩:=hz
   by_cases ah:e.fz=true
   .have s:=hs z rfl rfl;refine⟨z,rfl,⟨λi ee hi=> ?_,ad,aa,hH.sub,s.1,s.2.1,s.2.2.1,s.2.2.2⟩,Nx.refl z,rfl⟩;rw[a7Z R] at hi;by_cases h:i=id
    .subst h;rw[ZAM rfl] at hi;cases hi;have:=hH.ent _ _ af;unfold eW at*;rw[ah] at this;exact this
    .rw[ZAK h] at hi;exact hH.ent _ _ hi
   .have ai:=by simpa using ah
    have hC:=(hH.real he ab).2.1 ai
    let z':={z with M:=λx=>z.M x/\x≠g,C:=λx=>z.C x/\x≠g}
    have hn:Nx z z':=⟨rfl,⟨rfl,ZAN _⟩,rfl,ZAN _,λ_ _ _=>rfl,λx hx=>.inl hx.1,λx hx=>.inl hx.1,λx _ hM hx=>⟨hM,λh=>hx (h▸hC)⟩,λ_ _=>rfl,rfl⟩;have aj:=hn.kp hH.sub;have s:=hs z' rfl rfl;refine⟨z',rfl,⟨λi ee hi=> ?_,ad,aa,λx hx=>⟨hH.sub x hx.1,hx.2⟩,s.1,s.2.1,s.2.2.1,s.2.2.2⟩,hn,rfl⟩;rw[a7Z R] at hi;by_cases h:i=id
    .subst h;rw[ZAM rfl] at hi;cases hi
     let⟨h1,h2,h3,h4⟩:=hH.real he ab
     unfold eW;rw[(ab)];exact⟨h1,(λh=>by cases h),λ_ h=>h.2 rfl,h4.kp aj rfl⟩
    .rw[ZAK h] at hi;have h0:=hH.ent _ _ hi;unfold eW at h0⊢;cases ac:z.ρ i with
     |no=>rw[ac] at h0;exact h0.elim
     |virt=>rw[ac] at h0;exact h0
     |real a sa na=>
      rw[ac] at h0
      let⟨b1,b2,b3,b4⟩:=h0
      exact⟨b1,λhf=>⟨b2 hf,hH.ne h hi af ai ac ab λh=>bUZ R h.2⟩,λhf hm=>b3 hf hm.1,b4.kp aj rfl⟩
  .have s:=hs z rfl rfl;refine⟨z,rfl,⟨λi ee hi=> ?_,ad,aa,hH.sub,s.1,s.2.1,s.2.2.1,s.2.2.2⟩,Nx.refl z,rfl⟩;rw[a7Z R] at hi;by_cases h:i=id
   .subst h;rw[ZAM rfl] at hi;cases hi;have h0:=hH.ent _ _ af;unfold eW at*;cases ab:z.ρ i with
    |no=>rw[ab] at h0;exact h0
    |virt=>rw[ab] at h0;exact h0
    |real g sz n=>exact absurd ⟨g,sz,n,ab⟩ hz
   .rw[ZAK h] at hi;exact hH.ent _ _ hi
 grind[Nx.refl]
theorem pwZ(a)(R:bI z H):∃z',z'.w=z.w/\bI z' (DI H a)/\Nx z z'/\z'.ρ=z.ρ:=by
 unfold DI;split
 .exact niZ _ R
 .exact niZ _ R
 .exact niZ _ R
 grind[Nx.refl]
end
section
variable {z : Z}
theorem cU.scal{w}{M}{ρ}{t}{x}{v}(h:cU w M ρ t x v)(ht:t.isAgg=false)(hc:t.cells=1):Cl w M ρ t x [v]:=by
 let⟨vs,h1,h2⟩:=h
 have hl:=h1.len
 match vs,hl with
 |[u],_=>simp_all
 |[],hl=>simp_all
 |_::_::_,hl=>simp_all
theorem cU.int{w}{M}{ρ}{k}{n:Int}{v}(h:cU w M ρ (.int k) n v):v= .int k n:=by
 have:=h.scal rfl rfl
 simp_all[Cl,ZBk]
theorem cU.bool{w}{M}{ρ}{b:Bool}{v}(h:cU w M ρ .bool b v):v= .bool b:=by
 have:=h.scal rfl rfl
 simp_all[Cl,ZBk]
theorem cU.str{w}{M}{ρ}{l:List UInt8}{v}(h:cU w M ρ .str l v):v= .string ⟨⟨l⟩⟩:=by
 have:=h.scal rfl rfl
 simp_all[Cl,ZBk]
theorem cU.opq{w}{M}{ρ}{x v:Value}(h:cU w M ρ .opq x v):v=x/\x.oneCell'=true:=by
 have:=h.scal rfl rfl
 simp_all[Cl,ZBk]
theorem cU.sl{w}{M}{ρ}{t}{l:List t.den}{v}(h:cU w M ρ (.sl t) l v):
 ∃A c,v= .slice A l.length c/\l.length<=c/\c<=maxLen/\(A=none->c=0)/\(l.length≠0->∃b off,A=some ⟨b,off,none⟩/\¬M b/\b<w.heap.size/\fT w M ρ b off t l):=by
 have:=h.scal rfl rfl
 let⟨A,c,h1,h2⟩:=this
 simp[ZBk] at h1;exact⟨A,c,h1,h2⟩
theorem cU.mkSc{w}{M}{ρ}{t}{x}{v}(h:Cl w M ρ t x [v])(ht:t.isAgg=false):cU w M ρ t x v:=⟨[v],h,by simp_all⟩
theorem cU.mkI{w}{M}{ρ}(k)(n:Int):cU w M ρ (.int k) n (.int k n):=.mkSc rfl rfl
theorem cU.mkB{w}{M}{ρ}(b:Bool):cU w M ρ .bool b (.bool b):=.mkSc rfl rfl
theorem cU.mkS{w}{M}{ρ}(l:List UInt8):cU w M ρ .str l (.string ⟨⟨l⟩⟩):=.mkSc rfl rfl
theorem bE.mkI(k)(n):bE z (.i k n) (.int k n):=.p _ _ _ (.mkI k n)
theorem bE.mkB(b):bE z (.b b) (.bool b):=.p _ _ _ (.mkB b)
theorem bE.mkS(l):bE z (.s l) (.string ⟨⟨l⟩⟩):=.p _ _ _ (.mkS l)
theorem bE.v{t}{x}{v}(h:bE z (.p t x) v):cU z.w z.M z.ρ t x v:=by cases h<;>grind
theorem m5Z{t u}{x}{y}{v}(h:DF t x u=some y)(hv:cU z.w z.M z.ρ t x v):cU z.w z.M z.ρ u y v:=by
 unfold DF at h;split at h
 .simp at h;subst h;obtain⟨rfl,_⟩:=hv.opq;exact .mkSc ⟨none,0,rfl,ZAN _,by omega,λ_=>rfl,λh=>absurd rfl h⟩ rfl
 .simp at h;subst h;obtain⟨rfl,_⟩:=hv.opq;exact .mkSc rfl rfl
 .simp at h;subst h;obtain⟨rfl,_⟩:=hv.opq;exact .mkSc (.inl ⟨rfl,rfl⟩) rfl
 .split at h
  .rename_i R;subst R;simp at h;subst h;exact .mkSc (hv.scal rfl rfl) rfl
  .cases h
 grind
theorem g9Z{u}{a}{x}{v}(h:a.get? u=some x)(R:bE z a v):cU z.w z.M z.ρ u x v:=by
 unfold AV.get? at h;split at h
 .have hv:=R.v;split at h
  .rename_i ht;subst ht;simp at h;subst h;exact hv
  .exact m5Z h hv
 .unfold SG at h;split at h
  .simp at h;subst h;cases R with|fn _ _ _ va vc h1 h2=>
   obtain rfl:va=#[]:=ZBr (by simpa using h1);obtain rfl:vc=#[]:=ZBr (by simpa using h2);exact .mkSc ⟨rfl,rfl⟩ rfl
  .cases h
 grind
theorem efZ{k}{a}{n}{v}(h:a.int? k=some n)(R:bE z a v):v= .int k n:=(g9Z h R).int
theorem bZZ{a}{b}{v}(h:a.bool? =some b)(R:bE z a v):v= .bool b:=(g9Z h R).bool
theorem erZ{a}{l}{v}(h:a.str? =some l)(R:bE z a v):v= .string ⟨⟨l⟩⟩:=(g9Z h R).str
theorem b8Z{a}{n}{v}(h:a.any? =some n)(R:bE z a v):∃k,v= .int k n:=by
 unfold AV.any? at h;split at h
 .unfold TJ at h;split at h
  .rename_i k m;simp at h;subst h;exact⟨k,R.v.int⟩
  .cases h
 grind
theorem rXZ{n}{c}(h:pA n=some c):n=(c.toNat:Int):=by
 grind[pA,UInt8.toNat_ofNat']
theorem iJZ{a}{l}{v}(h:a.tup? =some l)(R:bE z a v):∃vs,v= .tuple vs/\vs.size=l.length/\∀(i:Nat) x u,l[i]? =some x->vs[i]? =some u->bE z x u:=by
 unfold AV.tup? at h;split at h
 .simp at h;subst h;cases R with|tup _ vs h1 h2=>exact⟨vs,rfl,h1,h2⟩
 grind
def bQ(z:Z)(l:List AV)(vs:List Value):Prop:=l.length=vs.length/\∀(i:Nat) a v,l[i]? =some a->vs[i]? =some v->bE z a v
theorem bQ.nil:bQ z [] []:=⟨rfl,λi a v h=>by grind⟩
theorem bQ.cons{a}{v}{l}{vs}(h:bE z a v)(R:bQ z l vs):bQ z (a::l) (v::vs):=by
 refine⟨by simp[R.1],λi x u h1 h2=> ?_⟩
 match i with
 |0=>simp_all
 |i+1=>exact R.2 i x u (by simp_all) (by simp_all)
theorem bQ.head{a}{v}{l}{vs}(h:bQ z (a::l) (v::vs)):bE z a v:=h.2 0 a v rfl rfl
theorem bQ.tail{a}{v}{l}{vs}(h:bQ z (a::l) (v::vs)):bQ z l vs:=
 ⟨by simpa using h.1,λi x u h1 h2=>h.2 (i+1) x u (by simp_all) (by simp_all)⟩
theorem bQ.append{l l'}{vs R}(h:bQ z l vs)(h':bQ z l' R):bQ z (l++l') (vs++R):=by
 refine⟨by simp[h.1,h'.1],λi a v h1 h2=> ?_⟩;by_cases hi:i<l.length
 .rw[ZAT hi] at h1;rw[ZAT (by rw[<-h.1];omega)] at h2;exact h.2 i a v h1 h2
 .rw[ZAU (by omega)] at h1;rw[ZAU (by rw[<-h.1];omega),<-h.1] at h2;exact h'.2 _ a v h1 h2
theorem bQ.take{l}{vs}(h:bQ z l vs)(n):bQ z (l.take n) (vs.take n):=by
 refine⟨by simp[h.1],λi a v h1 h2=> ?_⟩;have hi:i<n:=by
  have:=(ZAB.1 h1).1;simp at this;omega
 rw[ZBh hi] at h1 h2;exact h.2 i a v h1 h2
theorem bQ.drop{l}{vs}(h:bQ z l vs)(n):bQ z (l.drop n) (vs.drop n):=by
 refine⟨by simp[h.1],λi a v h1 h2=> ?_⟩;rw[ZAy] at h1 h2;exact h.2 _ a v h1 h2
theorem bQ.kp{z'}{l}{vs}(k:Kp z z')(h:bQ z l vs):bQ z' l vs:=⟨h.1,λi a v h1 h2=>(h.2 i a v h1 h2).kp k⟩
theorem bQ.get{l}{vs}(h:bQ z l vs){i:Nat}{a}(ha:l[i]? =some a):∃v,vs[i]? =some v/\bE z a v:=by
 have R:i<vs.length:=by
  have:=(ZAB.1 ha).1;rw[<-h.1];exact this
 exact⟨_,ZAC R,h.2 i a _ ha (ZAC R)⟩
theorem bQ.headD{l}{vs}(h:bQ z l vs):bE z (l.headD .junk) (vs.headD undef):=by
 match l,vs,h with
 |[],[],_=>exact .junk _
 |a::l,v::vs,h=>exact h.head
 |[],_::_,h=>have:=h.1;simp_all
 |_::_,[],h=>have:=h.1;simp_all
theorem bE.reps{l}{cs}(h:bE z (.agg l) (.agg cs)):bQ z l cs.toList:=by
 cases h with|agg _ _ R h1 h=>exact⟨by grind,λi a v h2 h3=>h i a v h2 (by simp_all)⟩
theorem cpZ{t}{x}{v}(h:cU z.w z.M z.ρ t x v):bE z (.ofTy t x) v:=by
 unfold AV.ofTy;split
 .have:=h.scal rfl rfl;simp[Cl,ZBk] at this;subst this;exact .mkI _ _
 .exact .p _ _ _ h
theorem eDZ:(t:Ty)->(x:t.den)->(split t x).length<=t.cells
 |.one t,x=>eDZ t x
 |.pair a b,x=>by
  have h1:=eDZ a x.1;have h2:=eDZ b x.2;simp[split,Ty.cells];omega
 |.arr _ _,_=>ZBG _
 |.int _,_|.byte,_|.bool,_|.str,_|.opq,_|.nat,_|.ptr _,_|.sl _,_|.ref _ _,_=>ZAN _
theorem eMZ:{t:Ty}->{x:t.den}->{vs:List Value}->Cl z.w z.M z.ρ t x vs->(split t x).length=t.cells->bQ z (split t x) vs
 |.one t,x,vs,h,hl=>eMZ (t:=t) h hl
 |.pair a b,x,vs,h,hl=>by
  obtain⟨u,v,rfl,h1,h2⟩:=h;have R:=eDZ a x.1;have q2:=eDZ b x.2;simp[split,Ty.cells] at hl;exact(eMZ h1 (by omega)).append (eMZ h2 (by omega))
 |.arr n t,x,vs,h,hl=>by
  have:=h.len;rw[<-hl] at this
  match vs,this with
  |[],_=>exact .nil
 |.int _,_,vs,h,_|.bool,_,vs,h,_|.str,_,vs,h,_=>by
  have hl:=h.len
  match vs,hl with
  |[v],_=>exact .cons (.p _ _ _ (.mkSc h rfl)) .nil
 |.opq,_,vs,h,_=>by
  have hl:=h.len
  match vs,hl with
  |[v],_=>exact .cons (.p _ _ _ (.mkSc h rfl)) .nil
 |.sl _,_,vs,h,_|.ptr _,_,vs,h,_|.ref _ _,_,vs,h,_=>by
  have hl:=h.len
  match vs,hl with
  |[v],_=>exact .cons (.p _ _ _ (.mkSc h rfl)) .nil
 |.byte,_,vs,h,_=>by
  subst h;exact .cons (.mkI _ _) .nil
 |.nat,_,_,h,_=>h.elim
theorem cOZ{a}{l}{v}(h:eS a=some l)(ha:bE z a v):bQ z l v.cells.toList/\(∀u∈v.cells,u.oneCell'=true)/\
 v=(bif IP a then .agg v.cells else v.cells.toList.headD undef):=by
 have one:∀(b) (v),bE z b v->v.oneCell'=true->bQ z [b] v.cells.toList/\(∀u∈v.cells,u.oneCell'=true)/\v=v.cells.toList.headD undef:=λb v hb h1=>by
  have hc:v.cells=#[v]:=by cases v<;>first|rfl|(simp[Value.oneCell'] at h1;done)
  rw[hc];exact⟨.cons hb .nil,λu hu=>by simp_all,rfl⟩
 cases ha with
 |p t x v h1=>
  simp[eS] at h;cases hl:Nat.beq (split t x).length t.cells<;>rw[hl] at h<;>simp at h;subst h;rw[afZ] at hl
  let⟨vs,h2,h3⟩:=h1
  cases R:t.isAgg<;>rw[R] at h3<;>simp[ZAL] at h3
  .have hn:=h2.len;have hc:t.cells=1:=by cases t<;>first|rfl|simp_all[Ty.isAgg]
   match vs,hn with
   |[u],_=>
    simp at h3;subst h3
    let⟨q1,q2,q3⟩:=one (.p t x) v (.p _ _ _ (.mkSc h2 R)) (h2.one v (by simp))
    have e:v.cells=#[v]:=by
     have:=h2.one v (by simp);cases v<;>first|rfl|(simp[Value.oneCell'] at this;done)
    refine⟨by grind[eMZ],q2,by simp only[IP,R,ZAD];omega⟩
   |[],hn=>simp_all
   |_::_::_,hn=>simp_all
  .subst h3;exact⟨eMZ h2 hl,λu hu=>h2.one u (by simpa[Value.cells] using hu),by simp only[IP,R,ZAL];rfl⟩
 |pt t l i j b off hM aa h1=>simp[eS] at h;subst h;exact one _ _ (.pt _ _ _ _ _ _ hM aa h1) rfl
 |own es id i j g sz n h1=>simp[eS] at h;subst h;exact one _ _ (.own _ _ _ _ _ _ _ h1) rfl
 |rp f es k i j g sz n h1=>simp[eS] at h;subst h;exact one _ _ (.rp _ _ _ _ _ _ _ _ h1) rfl
 |slV es id off A h1=>simp[eS] at h;subst h;exact one _ _ (.slV _ _ _ _ h1) rfl
 |slE es id off g sz m o h1=>simp[eS] at h;subst h;exact one _ _ (.slE _ _ _ _ _ _ _ h1) rfl
 |sl es id off n g sz m c h1 hn hs hm=>simp[eS] at h;subst h;exact one _ _ (.sl _ _ _ _ _ _ _ _ h1 hn hs hm) rfl
 |slfV es id A h1=>simp[eS] at h;subst h;exact one _ _ (.slfV _ _ _ h1) rfl
 |slf es id g sz n c h1 hn hs hm=>simp[eS] at h;subst h;exact one _ _ (.slf _ _ _ _ _ _ h1 hn hs hm) rfl
 |mp id g sz n h1=>simp[eS] at h;subst h;exact one _ _ (.mp _ _ _ _ h1) rfl
 |fn f a c va vc ha hc h1 h2=>simp[eS] at h;subst h;exact one _ _ (.fn _ _ _ _ _ ha hc h1 h2) rfl
 |agg l' cs hs h1 h2=>
  simp[eS] at h;subst h;exact⟨⟨by simp[Value.cells,hs],λi a v q1 q2=>h2 i a v q1 (by simpa[Value.cells] using q2)⟩,h1,rfl⟩
 |tup l' vs hs h2=>simp[eS] at h
 |junk v=>simp[eS] at h
section
variable {β : Type}
theorem lXZ{t}{c}(f)
 (hf:∀{cs} {vs} {K} {r:β},f cs K=some r->bQ z cs vs->cs.length=c->(∀v∈vs,v.oneCell'=true)->∃y,Cl z.w z.M z.ρ t y vs/\K y=some r):
 ∀(n) {cs} {vs} {K} {r},FG f c n cs K=some r->bQ z cs vs->cs.length=n*c->(∀v∈vs,v.oneCell'=true)->
  ∃(l:List t.den) (css:List (List Value)),l.length=n/\css.length=n/\vs=css.flatten/\(∀(i:Nat) e u,l[i]? =some e->css[i]? =some u->Cl z.w z.M z.ρ t e u)/\K l=some r
 |0,cs,vs,K,r,h,R,hl,_=>by
  have:=ZAY (by rw[<-R.1,hl,ZBn]);exact⟨[],[],rfl,rfl,by simp_all,λi e u h1=>by grind,h⟩
 |n+1,cs,vs,K,r,h,R,hl,h1=>by
  simp[FG] at h;have aa:(n+1)*c=n*c+c:=ZB4 n c
  let⟨y,q1,q2⟩:=hf h (R.take c) (by rw[ZAS];omega) (λv hv=>h1 v (ZCG hv))
  let⟨l,css,p1,p2,p3,p4,p5⟩:=lXZ f hf n q2 (R.drop c) (by rw[ZAu];omega) (λv hv=>h1 v (ZCf hv))
  refine⟨y::l,vs.take c::css,by simp[p1],by simp[p2],by rw[ZCK,<-p3,ZBB],λi e u q3 q4=> ?_,p5⟩
  grind
theorem hNZ:{u:Ty}->{cs:List AV}->{vs:List Value}->{K:u.den->Option β}->{r:β}->asm u cs K=some r->bQ z cs vs->cs.length=u.cells->(∀v∈vs,v.oneCell'=true)->
 ∃y,Cl z.w z.M z.ρ u y vs/\K y=some r
 |.byte,cs,vs,K,r,h,R,hl,h1=>by
  simp only[asm] at h
  let⟨n,h2,h3⟩:=agZ.1 h
  let⟨c,h4,h5⟩:=ZAG.1 h3
  have hv:=efZ h2 R.headD;have aa:vs.length=1:=by rw[<-R.1,hl];rfl
  match vs,aa with
  |[v],_=>
   simp at hv;subst hv;rw[rXZ h4];exact⟨c,rfl,h5⟩
 |.one t,cs,vs,K,r,h,R,hl,h1=>hNZ (u:=t) h R hl h1
 |.pair a b,cs,vs,K,r,h,R,hl,h1=>by
  simp[asm] at h;simp[Ty.cells] at hl
  let⟨x,q1,q2⟩:=hNZ h (R.take a.cells) (by simp_all) (λv hv=>h1 v (ZCG hv))
  let⟨y,q3,q4⟩:=hNZ q2 (R.drop a.cells) (by simp_all) (λv hv=>h1 v (ZCf hv))
  exact⟨(x,y),⟨_,_,(ZBB _ _).symm,q1,q3⟩,q4⟩
 |.arr n t,cs,vs,K,r,h,R,hl,h1=>by
  simp[asm] at h
  let⟨l,css,p1,p2,p3,p4,p5⟩:=lXZ (asm t) (λh R hl h1=>hNZ h R hl h1) n h R hl h1
  exact⟨l,⟨p1,css,p2,p3,p4⟩,p5⟩
 |.int k,cs,vs,K,r,h,R,hl,h1|.bool,cs,vs,K,r,h,R,hl,h1|.str,cs,vs,K,r,h,R,hl,h1|.opq,cs,vs,K,r,h,R,hl,h1|.nat,cs,vs,K,r,h,R,hl,h1|.sl _,cs,vs,K,r,h,R,hl,h1|.ref _ _,cs,vs,K,r,h,R,hl,h1=>by
  simp only[asm] at h
  let⟨n,h2,h3⟩:=agZ.1 h
  have hv:=(g9Z h2 R.headD).scal rfl rfl;have aa:vs.length=1:=by rw[<-R.1,hl];rfl
  match vs,aa with
  |[v],_=>grind
 |.ptr t,cs,vs,K,r,h,R,hl,h1=>by
  have aa:vs.length=1:=by rw[<-R.1,hl];rfl
  simp only[asm] at h;have hd:=R.headD
  match vs,aa with
  |[v],_=>
   split at h
   .rename_i u l i hh;rw[hh] at hd;rcases aUZ h with⟨ht,h⟩|h
    .subst ht
     let⟨l',h2,h3⟩:=ZAG.1 h
     unfold TK at h2;split at h2
     .rename_i hi;obtain rfl:=ZAf h2;cases hd with
      |pt _ _ _ _ b off hM ac ab=>
       refine⟨_,.inr ⟨?_,b,off+i*u.cells,rfl,hM,ac,λk e he=> ?_⟩,h3⟩
       .show(List.drop i l).length≠0;rw[ZAu];have:i<l.length:=hi;omega
       .let⟨w,h5,h6⟩:=ab (i+k) e (by rw[<-List.getElem?_drop];exact he)
        exact⟨w,h5,by rw[ZAn,<-Nat.add_assoc] at h6;exact h6⟩
     .cases h2
    grind
   .let⟨n,h2,h3⟩:=agZ.1 h
    have hv:=(g9Z h2 R.headD).scal rfl rfl
    grind
theorem t9Z{u}{a}{K}{r:β}{v}(h:asC u a K=some r)(ha:bE z a v):∃y,cU z.w z.M z.ρ u y v/\K y=some r:=by
 let⟨cs,h1,h2⟩:=agZ.1 h
 let⟨R,h4⟩:=aeZ.1 h2
 simp[ZBp] at R
 let⟨q1,q2,q3⟩:=cOZ h1 ha
 let⟨y,q4,q5⟩:=hNZ h4 q1 R.1 (λv hv=>q2 v (by simpa using hv))
 refine⟨y,⟨_,q4,?_⟩,q5⟩;rw[<-R.2];omega
theorem bVZ{u}{a}{K}{r:β}{v}(h:asA u a K=some r)(R:bE z a v):∃y,cU z.w z.M z.ρ u y v/\K y=some r:=by
 unfold asA at h;split at h
 .rename_i t x;rcases aUZ h with⟨ht,h⟩|h
  .subst ht;exact⟨x,R.v,h⟩
  .exact t9Z h R
 grind[t9Z]
theorem sub_self{t}{x}{vs}{o:Nat}{u}{K:u.den->Option β}{r}{w}{M}{ρ}(h)(hc:Cl w M ρ t x vs)
 (hk:bq (Nat.beq o 0) (K (Ty.to h x)) none=some r):∃y,Cl w M ρ u y ((vs.drop o).take u.cells)/\o+u.cells<=t.cells/\K y=some r:=by
 subst h;cases R:Nat.beq o 0<;>rw[R] at hk<;>simp only[bq_true,bq_false] at hk
 .grind
 .rw[afZ] at R;subst R;refine⟨x,?_,by omega,hk⟩;rw[ZCA,ZAv (by rw[hc.len];exact ZAN _)];omega
theorem kPZ{w}{M}{ρ}:{t:Ty}->{x:t.den}->{o:Nat}->{u:Ty}->{K:u.den->Option β}->{r:β}->{vs:List Value}->sub t x o u K=some r->Cl w M ρ t x vs->
 ∃y,Cl w M ρ u y ((vs.drop o).take u.cells)/\o+u.cells<=t.cells/\K y=some r
 |.one t,x,o,u,K,r,vs,h,hc=>by
  rcases aUZ h with⟨ht,h⟩|h
  .exact sub_self ht hc h
  .exact kPZ (t:=t) h hc
 |.pair a b,x,o,u,K,r,vs,h,hc=>by
  rcases aUZ h with⟨ht,h⟩|h
  .exact sub_self ht hc h
  .obtain⟨v1,v2,rfl,h1,h2⟩:=hc;cases ho:Nat.blt o a.cells<;>rw[ho] at h<;>simp[bq_false] at h
   .have R:a.cells<=o:=by
     rcases ZBy o a.cells with h'|h'
     .rw[show Nat.blt o a.cells=true from ZAi h'] at ho;cases ho
     .exact h'
    let⟨y,q1,q2,q3⟩:=kPZ h h2
    refine⟨y,?_,by simp[Ty.cells];omega,q3⟩;rw[ZCh,ZBE (by rw[h1.len];exact R),ZBe,h1.len];omega
   .have R:=ZBM ho
    let⟨y,q1,q2,q3⟩:=kPZ h h1
    refine⟨y,?_,by simp[Ty.cells];omega,q3⟩;rw[ZBv (by rw[h1.len];omega),ZBQ (by rw[ZAu,h1.len];omega)];omega
 |.int _,x,o,u,K,r,vs,h,hc|.byte,x,o,u,K,r,vs,h,hc|.bool,x,o,u,K,r,vs,h,hc|.str,x,o,u,K,r,vs,h,hc|.opq,x,o,u,K,r,vs,h,hc|.nat,x,o,u,K,r,vs,h,hc|.ptr _,x,o,u,K,r,vs,h,hc
 |.sl _,x,o,u,K,r,vs,h,hc|.arr _ _,x,o,u,K,r,vs,h,hc|.ref _ _,x,o,u,K,r,vs,h,hc=>by
  simp[sub] at h;rcases aUZ h with⟨ht,h⟩|h
  .exact sub_self ht hc h
  grind
theorem a5Z:(t:Ty)->t.unref.cells=t.cells
 |.one t=>a5Z t
 |.pair a b=>by simp[Ty.unref,Ty.cells,a5Z a,a5Z b]
 |.int _|.byte|.bool|.str|.opq|.nat|.ptr _|.sl _|.arr _ _|.ref _ _=>rfl
theorem fSZ(t:Ty):t.unref.isAgg=t.isAgg:=by cases t<;>rfl
theorem gdZ{t}{x}{vs}{o:Nat}{u}{K:AV->Option β}{r}{w}{M}{ρ}{E}(hc:Cl w M ρ t x vs)
 (hk:bq (decide (t.unref=u)&&Nat.beq o 0) (K (.ofTy t x)) E=some r):(∃(R:Ty) (y:R.den),R.unref=u/\Cl w M ρ R y ((vs.drop o).take R.cells)/\o+R.cells<=t.cells/\K (.ofTy R y)=some r)\/E=some r:=by
 cases ho:(decide (t.unref=u)&&Nat.beq o 0)<;>rw[ho] at hk<;>simp[bq_false] at hk
 .simp_all
 .simp[afZ] at ho;obtain⟨h1,rfl⟩:=ho;refine .inl ⟨t,x,h1,?_,by omega,hk⟩;rw[ZCA,ZAv (by rw[hc.len];exact ZAN _)];omega
theorem gnZ{w}{M}{ρ}:{t:Ty}->{x:t.den}->{o:Nat}->{u:Ty}->{K:AV->Option β}->{r:β}->{vs:List Value}->zI t x o u K=some r->Cl w M ρ t x vs->
 ∃(R:Ty) (y:R.den),R.unref=u/\Cl w M ρ R y ((vs.drop o).take R.cells)/\o+R.cells<=t.cells/\K (.ofTy R y)=some r
 |.one t,x,o,u,K,r,vs,h,hc=>by
  simp only[zI] at h;rcases gdZ hc h with h|h
  .exact h
  .exact gnZ (t:=t) h hc
 |.pair a b,x,o,u,K,r,vs,h,hc=>by
  simp only[zI] at h;rcases gdZ (t:=.pair a b) hc h with h|h
  .exact h
  .obtain⟨v1,v2,rfl,h1,h2⟩:=hc;cases ho:Nat.blt o a.cells<;>rw[ho] at h<;>simp only[bq_true,bq_false] at h
   .have aa:a.cells<=o:=by
     rcases ZBy o a.cells with h'|h'
     .rw[show Nat.blt o a.cells=true from ZAi h'] at ho;cases ho
     .exact h'
    obtain⟨R,y,q0,q1,q2,q3⟩:=gnZ h h2;refine⟨R,y,q0,?_,by simp only[Ty.cells];omega,q3⟩;rw[ZCh,ZBE (by rw[h1.len];exact aa),ZBe,h1.len];omega
   .have aa:o<a.cells:=ZBM ho;obtain⟨R,y,q0,q1,q2,q3⟩:=gnZ h h1;refine⟨R,y,q0,?_,by simp only[Ty.cells];omega,q3⟩;rw[ZBv (by rw[h1.len];omega),ZBQ (by rw[ZAu,h1.len];omega)];omega
 |.int _,x,o,u,K,r,vs,h,hc|.byte,x,o,u,K,r,vs,h,hc|.bool,x,o,u,K,r,vs,h,hc|.str,x,o,u,K,r,vs,h,hc|.opq,x,o,u,K,r,vs,h,hc|.nat,x,o,u,K,r,vs,h,hc|.ptr _,x,o,u,K,r,vs,h,hc
 |.sl _,x,o,u,K,r,vs,h,hc|.arr _ _,x,o,u,K,r,vs,h,hc|.ref _ _,x,o,u,K,r,vs,h,hc=>by
  simp only[zI] at h;rcases gdZ hc h with h|h<;>grind
theorem cU.cells'{w}{M}{ρ}{t}{x}{v}(h:cU w M ρ t x v):Cl w M ρ t x v.cells.toList:=by
 let⟨vs,h1,h2⟩:=h
 cases R:t.isAgg<;>rw[R] at h2<;>simp[ZAD] at h2
 .have hl:=h1.len;have hc:t.cells=1:=by cases t<;>first|rfl|simp_all[Ty.isAgg]
  match vs,hl with
  |[u],_=>
   subst h2;have h3:=h1.one v (by simp);have e:v.cells=#[v]:=by cases v<;>first|rfl|(simp[Value.oneCell'] at h3)
   simp_all
  |[],hl=>simp_all
  |_::_::_,hl=>simp_all
 .subst h2;exact h1
theorem fTZ{t}{vs:List Value}{o:Nat}{u}{a}{v}{K}{r}{E:Option β}(hl:vs.length=t.cells)(ha:bE z a v)
 (hk:bq (decide (t.unref=u)&&Nat.beq o 0) (asA t a K) E=some r):(∃x',Cl z.w z.M z.ρ t x' (vs.take o++v.cells.toList++vs.drop (o+u.cells))/\o+u.cells<=t.cells/\v.cells.size=u.cells/\(∀c∈v.cells,c.oneCell'=true)/\K x'=some r)\/E=some r:=by
 cases R:(decide (t.unref=u)&&Nat.beq o 0)<;>rw[R] at hk<;>simp only[bq_true,bq_false] at hk
 .simp_all
 .simp only[ZAE,ZAp,afZ] at R;obtain⟨rfl,rfl⟩:=R;obtain⟨y,h1,h2⟩:=bVZ hk ha;have h3:=h1.cells';refine .inl ⟨y,?_,by rw[a5Z];omega,by rw[a5Z];have:=h3.len;simpa using this,λc hc=>h3.one c (by simpa using hc),h2⟩
  simp_all[a5Z,List.take_zero,ZBe,ZBE,ZAr]
theorem ixZ:{t:Ty}->{x:t.den}->{o:Nat}->{u:Ty}->{a:AV}->{v:Value}->{K:t.den->Option β}->{r:β}->{vs:List Value}->xK t x o u a K=some r->Cl z.w z.M z.ρ t x vs->bE z a v->
 ∃x',Cl z.w z.M z.ρ t x' (vs.take o++v.cells.toList++vs.drop (o+u.cells))/\o+u.cells<=t.cells/\v.cells.size=u.cells/\(∀c∈v.cells,c.oneCell'=true)/\K x'=some r
 |.one t,x,o,u,a,v,K,r,vs,h,hc,R=>by
  simp only[xK] at h;rcases fTZ hc.len R h with h|h
  .exact h
  .exact ixZ (t:=t) h hc R
 |.pair a b,x,o,u,y,v,K,r,vs,h,hc,R=>by
  simp only[xK] at h;rcases fTZ hc.len R h with h|h
  .exact h
  .obtain⟨v1,v2,rfl,h1,h2⟩:=hc;have l1:=h1.len;have l2:=h2.len;cases ho:Nat.blt o a.cells<;>rw[ho] at h<;>simp only[bq_true,bq_false] at h
   .have aa:a.cells<=o:=by
     rcases ZBy o a.cells with h'|h'
     .rw[show Nat.blt o a.cells=true from ZAi h'] at ho;cases ho
     .exact h'
    obtain⟨z,q1,q2,q3,q4,q5⟩:=ixZ h h2 R;refine⟨(x.1,z),⟨v1,_,?_,h1,q1⟩,by simp only[Ty.cells];omega,q3,q4,q5⟩;rw[List.take_append,ZAv (by omega),ZCh,ZBE (by omega),ZBe,l1]
    grind
   .have aa:o<a.cells:=ZBM ho;obtain⟨z,q1,q2,q3,q4,q5⟩:=ixZ h h1 R;refine⟨(z,x.2),⟨_,v2,?_,q1,h2⟩,by simp only[Ty.cells];omega,q3,q4,q5⟩
    grind
 |.int _,x,o,u,a,v,K,r,vs,h,hc,R|.byte,x,o,u,a,v,K,r,vs,h,hc,R|.bool,x,o,u,a,v,K,r,vs,h,hc,R|.str,x,o,u,a,v,K,r,vs,h,hc,R|.opq,x,o,u,a,v,K,r,vs,h,hc,R
 |.nat,x,o,u,a,v,K,r,vs,h,hc,R|.ptr _,x,o,u,a,v,K,r,vs,h,hc,R|.sl _,x,o,u,a,v,K,r,vs,h,hc,R|.arr _ _,x,o,u,a,v,K,r,vs,h,hc,R|.ref _ _,x,o,u,a,v,K,r,vs,h,hc,R=>by
  simp only[xK] at h;rcases fTZ hc.len R h with h|h<;>grind
theorem eSZ{w}{M}{ρ}:{t:Ty}->{x:t.unref.den}->{vs:List Value}->Cl w M ρ t.unref x vs->Cl w M ρ t (dE t x) vs
 |.one t,x,vs,h=>eSZ (t:=t) h
 |.pair a b,x,vs,h=>by
  obtain⟨u,v,rfl,h1,h2⟩:=h;exact⟨u,v,rfl,eSZ h1,eSZ h2⟩
 |.ref f t,x,vs,h=>h
 |.int _,x,vs,h|.byte,x,vs,h|.bool,x,vs,h|.str,x,vs,h|.opq,x,vs,h|.nat,x,vs,h|.ptr _,x,vs,h|.sl _,x,vs,h|.arr _ _,x,vs,h=>h
theorem gDZ{w}{M}{ρ}:{t:Ty}->{x:t.den}->{y:t.unref.den}->{vs:List Value}->nB t x=some y->Cl w M ρ t x vs->Cl w M ρ t.unref y vs
 |.one t,x,y,vs,h,hc=>gDZ (t:=t) h hc
 |.pair a b,x,y,vs,h,hc=>by
  obtain⟨u,v,rfl,h1,h2⟩:=hc
  let⟨p,R,h4⟩:=ZAG.1 h
  obtain⟨q,h5,rfl⟩:=ZAH.1 h4;exact⟨u,v,rfl,gDZ R h1,gDZ h5 h2⟩
 |.ref f t,.inl l,y,vs,h,hc=>by
  obtain rfl:=ZAf h;exact hc
 |.ref f t,.inr none,y,vs,h,hc=>by
  obtain rfl:=ZAf h;obtain rfl:vs=[.slice none 0 0]:=hc;exact⟨none,0,rfl,ZAN _,by omega,λ_=>rfl,λh=>absurd rfl h⟩
 |.ref f t,.inr (some _),y,vs,h,hc=>by grind[nB]
 |.int _,x,y,vs,h,hc|.byte,x,y,vs,h,hc|.bool,x,y,vs,h,hc|.str,x,y,vs,h,hc|.opq,x,y,vs,h,hc|.nat,x,y,vs,h,hc|.ptr _,x,y,vs,h,hc|.sl _,x,y,vs,h,hc|.arr _ _,x,y,vs,h,hc=>by
  obtain rfl:=ZAf h;exact hc
theorem jzZ{t}{vs us:List Value}{o:Nat}{u}{y}{K:t.den->Option β}{r}{w}{M}{ρ}(h)(hv:vs.length=t.cells)(hc:Cl w M ρ u y us)
 (hk:bq (Nat.beq o 0) (K (Ty.to h y)) none=some r):∃x',Cl w M ρ t x' (vs.take o++us++vs.drop (o+u.cells))/\o+u.cells<=t.cells/\K x'=some r:=by
 subst h;cases R:Nat.beq o 0<;>rw[R] at hk<;>simp only[bq_true,bq_false] at hk
 .grind
 .rw[afZ] at R;subst R;refine⟨y,?_,by omega,hk⟩
  grind
theorem npZ{w}{M}{ρ}:{t:Ty}->{x:t.den}->{o:Nat}->{u:Ty}->{y:u.den}->{K:t.den->Option β}->{r:β}->{vs us:List Value}->upd t x o u y K=some r->Cl w M ρ t x vs->Cl w M ρ u y us->
 ∃x',Cl w M ρ t x' (vs.take o++us++vs.drop (o+u.cells))/\o+u.cells<=t.cells/\K x'=some r
 |.one t,x,o,u,y,K,r,vs,us,h,hc,R=>by
  rcases aUZ h with⟨ht,h⟩|h
  .exact jzZ ht hc.len R h
  .exact npZ (t:=t) h hc R
 |.pair a b,x,o,u,y,K,r,vs,us,h,hc,R=>by
  simp[upd] at h;rcases aUZ h with⟨ht,h⟩|h
  .exact jzZ ht hc.len R h
  .obtain⟨v1,v2,rfl,h1,h2⟩:=hc;have l1:=h1.len;have l2:=h2.len;have lu:=R.len;cases ho:Nat.blt o a.cells<;>rw[ho] at h<;>simp[bq_false] at h
   .have aa:a.cells<=o:=by
     rcases ZBy o a.cells with h'|h'
     .rw[show Nat.blt o a.cells=true from ZAi h'] at ho;cases ho
     .exact h'
    let⟨z,q1,q2,q3⟩:=npZ h h2 R
    refine⟨(x.1,z),⟨v1,_,?_,h1,q1⟩,by simp[Ty.cells];omega,q3⟩;rw[List.take_append,ZAv (by omega),ZCh,ZBE (by omega),l1]
    grind
   .have aa:=ZBM ho
    let⟨z,q1,q2,q3⟩:=npZ h h1 R
    refine⟨(z,x.2),⟨_,v2,?_,q1,h2⟩,by simp[Ty.cells];omega,q3⟩
    grind
 |.int _,x,o,u,y,K,r,vs,us,h,hc,R|.byte,x,o,u,y,K,r,vs,us,h,hc,R|.bool,x,o,u,y,K,r,vs,us,h,hc,R|.str,x,o,u,y,K,r,vs,us,h,hc,R|.opq,x,o,u,y,K,r,vs,us,h,hc,R|.nat,x,o,u,y,K,r,vs,us,h,hc,R|.ptr _,x,o,u,y,K,r,vs,us,h,hc,R
 |.sl _,x,o,u,y,K,r,vs,us,h,hc,R|.arr _ _,x,o,u,y,K,r,vs,us,h,hc,R|.ref _ _,x,o,u,y,K,r,vs,us,h,hc,R=>by
  simp[upd] at h;rcases aUZ h with⟨ht,h⟩|h
  .exact jzZ ht hc.len R h
  grind
end
end
section
variable {P : Program}
theorem b3Z{t n:Nat}(h:P.cellsOf t=n)(h0:n≠0):(P.info? t).map (·.size)=some n:=by
 unfold Program.cellsOf at h;cases hi:(P.info? t).map (·.size)<;>grind
theorem dnZ{t}{u}(h:ty P t=some u):u.cells=P.cellsOf t/\0<u.cells/\(u.isAgg=true->gF P t=true)/\(u.isAgg=false->fQ P t=true):=by
 let⟨v,h1,h2⟩:=agZ.1 h
 cases hb:(Nat.beq v.cells (P.cellsOf t)&& !Nat.beq v.cells 0&&bq v.isAgg (gF P t) (fQ P t))<;>rw[hb] at h2
 .cases h2
 .simp[ZAV] at h2;subst h2;simp[afZ] at hb
  let⟨⟨q1,q2⟩,R⟩:=hb
  refine⟨q1,?_,λh=>by rw[h] at R;exact R,λh=>by rw[h] at R;exact R⟩;rcases ZBs v.cells with h|h<;>simp_all
theorem faZ{t}(h:gF P t=true):∃d,P.underlying t=some d/\d.isRow=true:=by
 unfold gF at h
 grind
theorem hMZ{t}(h:fQ P t=true):∃d,P.underlying t=some d/\d.isRow=false:=by
 unfold fQ at h
 grind
theorem k9Z{t}(w)(h:fQ P t=true):(isAgg t).run P w= .ok false w:=by
 let⟨d,hd,R⟩:=hMZ h
 unfold isAgg;rw[Sem.run_bind,run_underlying hd w];cases d<;>simp_all
theorem drZ{w}{b o}{t}{v}(R:fQ P t=true)(hc:w.cell? ⟨b,o,none⟩=some v):
 (Instr.loadAt t (.pointer (some ⟨b,o,none⟩))).run P w= .ok v w:=by
 simp[Instr.loadAt,Instr.sureAddr,loadVar,k9Z w R,hc]
theorem cuZ{w}{b o n}{t}(cs)(R:gF P t=true)(hn:P.cellsOf t=n)(h0:n≠0)(hl:cs.length=n)
 (hc:w.rangeAt b o cs):(Instr.loadAt t (.pointer (some ⟨b,o,none⟩))).run P w= .ok (.agg cs.toArray) w:=by
 let⟨d,hd,hr⟩:=faZ R
 exact run_loadAt_mid w b o t cs d hc hd hr (by simp_all[b3Z])
theorem egZ{w:World}{b o}{vs}(h:w.rangeAt b o vs)(k n):w.rangeAt b (o+k) ((vs.drop k).take n):=λj v R=>by
 have aa:j<n:=by
  have:=(ZAB.1 R).1;simp at this;omega
 rw[ZBh aa,ZAy] at R;rw[ZB5];exact h _ _ R
theorem haZ{w:World}{b o}{u v}(h1:w.rangeAt b o u)(h2:w.rangeAt b (o+u.length) v):w.rangeAt b o (u++v):=λj x R=>by
 by_cases h:j<u.length
 .rw[ZAT h] at R;exact h1 j x R
 .rw[ZAU (by omega)] at R;have:=h2 _ _ R
  grind
theorem fT.tail{w}{M}{ρ}{b off}{t}{x}{l}(h:fT w M ρ b off t (x::l)):fT w M ρ b (off+t.cells) t l:=λi e he=>by
 let⟨u,h1,h2⟩:=h (i+1) e (by simpa using he)<;>grind
theorem fT.cells{w}{M}{ρ}{t}:∀{l} {b off},fT w M ρ b off t l->
 ∃css:List (List Value),css.length=l.length/\(∀(i:Nat) e u,l[i]? =some e->css[i]? =some u->Cl w M ρ t e u)/\w.rangeAt b off css.flatten
 |[],b,off,_=>⟨[],rfl,λi e u h=>by grind,λj v h=>by grind⟩
 |x::l,b,off,h=>by
  obtain⟨u,h1,h2⟩:=h 0 x rfl
  let⟨css,q1,q2,q3⟩:=fT.cells h.tail
  refine⟨u::css,by simp[q1],λi e v p1 R=> ?_,?_⟩
  .match i with
   |0=>simp at p1 R;subst p1;subst R;exact h1
   |i+1=>exact q2 i e v (by simpa using p1) (by simpa using R)
  .exact haZ (by simpa using h2) (by rw[h1.len];exact q3)
theorem fT.sub{w}{M}{ρ}{b off}{t}{l}(h:fT w M ρ b off t l)(k n):fT w M ρ b (off+k*t.cells) t ((l.drop k).take n):=λi e he=>by
 have hi:i<n:=by
  have:=(ZAB.1 he).1;simp at this;omega
 rw[ZBh hi,ZAy] at he
 let⟨u,h1,h2⟩:=h _ _ he<;>grind
section
variable {β : Type} {z : Z} {H : Hp}
theorem byZ{w:World}{g o}{cs}{e}{R}(h:w.heap[g]? =some (.cells cs e R)):w.cell? ⟨g,o,none⟩=cs[o]? :=by
 unfold World.cell?;simp_all
theorem gR.rowAt{g R n}{e}{t}{l}(h:gR z g R n (.rows e t l)):fT z.w z.M z.ρ g 0 t l:=λi x hx=>by
 let⟨cs,fr,a1,a2,a3,a4,a5,a6,a7⟩:=h
 let⟨u,h1,h2⟩:=a7 i x hx
 refine⟨u,h1,λj v hj=> ?_⟩;rw[byZ a1]
 simp_all
theorem uLZ{a a'}{v}(hH:bI z H)(h:view H a=some a')(ha:bE z a v):bE z a' v:=by
 unfold view at h;split at h
 .simp at h;subst h;exact ha
 .simp at h;subst h;exact ha
 .simp at h;subst h;exact ha
 .rename_i es id;split at h
  .rename_i e t l hg;cases hb:Nat.beq es t.cells<;>rw[hb] at h
   .cases h
   .simp[ZAV] at h;subst h;rw[afZ] at hb;subst hb;cases ha with
    |slfV _ _ A R=>
     obtain⟨rfl,_⟩:=hH.virt hg R;refine .p _ _ _ (.mkSc ⟨A,0,rfl,ZAN _,by unfold maxLen;omega,λ_=>rfl,λh=>absurd rfl h⟩ rfl)
    |slf _ _ g sz n c R hn hs hm=>
     let⟨h1,_,h3,h4⟩:=hH.real hg R
     have ab:=h4.rowAt
     let⟨cs,fr,a1,a2,a3,a4,a5,a6,a7⟩:=h4
     have ac:=a4;rw[<-ac] at hn⊢;exact .p _ _ _ (.mkSc ⟨_,c,rfl,hn,hm,(λh=>by cases h),λ_=>⟨g,0,rfl,h3 rfl,h1,ab⟩⟩ rfl)
  .cases h
 .rename_i es id off n;split at h
  .rename_i e t l hg;cases hb:(Nat.beq es t.cells&&Nat.ble (off+n) l.length)<;>rw[hb] at h
   .cases h
   .simp[ZAV] at h;subst h;simp[ZAm] at hb;obtain⟨rfl,hb⟩:=hb;have aa:((l.drop off).take n).length=n:=by rw[ZAS,ZAu];omega
    have mk:∀A c,n<=c->c<=maxLen->(A=none->c=0)->(n≠0->∃b o,A=some ⟨b,o,none⟩/\¬z.M b/\b<z.w.heap.size/\fT z.w z.M z.ρ b o t ((l.drop off).take n))->
     bE z (.p (.sl t) ((l.drop off).take n)) (.slice A n c):=λA c q1 q2 q3 q4=>by
     have:cU z.w z.M z.ρ (.sl t) ((l.drop off).take n) (.slice A ((l.drop off).take n).length c):=
      .mkSc ⟨A,c,rfl,by rw[aa];exact q1,q2,q3,λh0=>q4 (by rwa [aa] at h0)⟩ rfl
     rw[aa] at this;exact .p _ _ _ this
    cases ha with
    |slV _ _ _ A R=>exact mk A 0 (ZAN _) (by unfold maxLen;omega) (λ_=>rfl) (λh=>absurd rfl h)
    |slE _ _ _ g sz m o R=>exact mk _ 0 (ZAN _) (by unfold maxLen;omega) (λ_=>rfl) (λh=>absurd rfl h)
    |sl _ _ _ _ g sz m c R hn hs hm=>
     let⟨h1,_,h3,h4⟩:=hH.real hg R
     refine mk _ c hn hm (λh=>by cases h) λ_=>⟨g,off*t.cells,rfl,h3 rfl,h1,?_⟩;have:=h4.rowAt.sub off n;rwa [ZA1] at this
  .cases h
 .rename_i es id i j;split at h
  .rename_i e t l hg;cases hb:Nat.beq es t.cells<;>rw[hb] at h
   .cases h
   .simp[ZAV] at h;subst h;rw[afZ] at hb;subst hb;cases ha with
    |own _ _ _ _ g sz n R=>
     let⟨h1,_,h3,h4⟩:=hH.real hg R
     have:=bE.pt t l i j g 0 (h3 rfl) h1 h4.rowAt;rwa [ZA1] at this
  .cases h
 grind
theorem m2Z{a R}{H'}{v}(hH:bI z H)(h:pure1 H a=some (R,H'))(ha:bE z a v):
 ∃z',z'.w=z.w/\bI z' H'/\Nx z z'/\z'.ρ=z.ρ/\bE z' R v:=by
 let⟨x,h1,h2⟩:=ZAH.1 h
 obtain⟨rfl,rfl⟩:=h2
 let⟨z',q1,q2,q3,q4⟩:=pwZ a hH
 exact⟨z',q1,q2,q3,q4,uLZ q2 h1 (ha.kp (q3.kp hH.sub))⟩
theorem jwZ:∀{l l'} {z} {H H'} {vs},bI z H->rR H l=some (l',H')->bQ z l vs->
 ∃z',z'.w=z.w/\bI z' H'/\Nx z z'/\z'.ρ=z.ρ/\bQ z' l' vs
 |[],l',z,H,H',vs,hH,h,R=>by
  simp[rR] at h
  grind[Nx.refl]
 |a::l,l',z,H,H',vs,hH,h,R=>by
  let⟨⟨x,H1⟩,h1,h2⟩:=agZ.1 h
  let⟨⟨y,H2⟩,h3,h4⟩:=ZAH.1 h2
  obtain⟨rfl,rfl⟩:=h4
  match vs,R with
  |[],R=>have:=R.1;simp at this
  |v::vs,R=>
   let⟨z1,q1,q2,q3,q4,q5⟩:=m2Z hH h1 R.head
   let⟨z2,p1,p2,p3,p4,p5⟩:=jwZ q2 h3 (R.tail.kp (q3.kp hH.sub))
   exact⟨z2,p1.trans q1,p2,q3.trans p3,p4.trans q4,.cons (q5.kp (p3.kp q2.sub)) p5⟩
theorem bWZ{a a'}{H'}{v}(hH:bI z H)(h:oU H a=some (a',H'))(ha:bE z a v):
 ∃z',z'.w=z.w/\bI z' H'/\Nx z z'/\z'.ρ=z.ρ/\bE z' a' v:=by
 unfold oU at h;split at h
 .let⟨⟨l',H1⟩,h1,h2⟩:=ZAH.1 h
  obtain⟨rfl,rfl⟩:=h2;cases ha with|agg _ cs hs h3 h4=>
  let⟨z',q1,q2,q3,q4,q5⟩:=jwZ (vs:=cs.toList) hH h1 ⟨by simp[hs],λi a v p1 R=>h4 i a v p1 (by simpa using R)⟩
  refine⟨z',q1,q2,q3,q4,.agg _ _ ?_ h3 λi x v p1 R=>q5.2 i x v p1 (by simpa using R)⟩;have:=q5.1;simpa using this.symm
 grind[m2Z]
theorem s4Z{u}{t}{x}{j}{K}{r:β}{b o}{us}(h:rS P u t x j K=some r)(hc:Cl z.w z.M z.ρ u x us)(ho:z.w.rangeAt b o us):
 ∃a v,(Instr.loadAt t (.pointer (some ⟨b,o+j,none⟩))).run P z.w= .ok v z.w/\bE z a v/\K a=some r:=by
 unfold rS at h
 let⟨aa,h1,h2⟩:=agZ.1 h
 let⟨t1,t2,t3,t4⟩:=dnZ h1
 cases ac:u.noRef<;>rw[ac] at h2<;>simp[bq_false] at h2
 .let⟨t',y,q0,q1,q2,q3⟩:=gnZ h2 hc
  have e1:t'.cells=aa.cells:=by rw[<-q0,a5Z]
  have e2:t'.isAgg=aa.isAgg:=by rw[<-q0,fSZ]
  have hr:=egZ ho j t'.cells;have hl:=q1.len;cases R:t'.isAgg
  .have ab:t'.cells=1:=by cases t'<;>first|rfl|simp_all[Ty.isAgg]
   match hvs:(us.drop j).take t'.cells,hl with
   |[],hl=>simp_all
   |_::_::_,hl=>simp_all
   |[v],_=>
    rw[hvs] at hr q1;refine⟨_,v,drZ (t4 (by simp_all)) (by have:=hr 0 v rfl;simpa using this),cpZ (.mkSc q1 R),q3⟩
  .refine⟨_,_,cuZ _ (t3 (by rw[<-e2];exact R)) (by rw[e1];exact t1.symm) (by omega) hl hr,cpZ ⟨_,q1,by rw[R];rfl⟩,q3⟩
 let⟨y,q1,q2,q3⟩:=kPZ h2 hc
 have hr:=egZ ho j aa.cells;have hl:=q1.len;cases R:aa.isAgg
 .have ab:aa.cells=1:=by cases aa<;>first|rfl|(simp[Ty.isAgg] at R;done)
  match hvs:(us.drop j).take aa.cells,hl with
  |[],hl=>rw[ab] at hl;simp at hl
  |_::_::_,hl=>rw[ab] at hl;simp at hl
  |[v],_=>
   rw[hvs] at hr q1;refine⟨_,v,drZ (t4 R) (by have:=hr 0 v rfl;simpa using this),cpZ (.mkSc q1 R),q3⟩
 .refine⟨_,_,cuZ _ (t3 R) t1.symm (by omega) hl hr,cpZ ⟨_,q1,by rw[R];rfl⟩,q3⟩
theorem gwZ{t}{u}{l}{i j}{K}{r:β}{b off}(h:pC P t u l i j K=some r)(hr:fT z.w z.M z.ρ b off u l):
 ∃a v,(Instr.loadAt t (.pointer (some ⟨b,off+i*u.cells+j,none⟩))).run P z.w= .ok v z.w/\bE z a v/\K a=some r:=by
 have key:(l[i]?.bind λx=>rS P u t x j K)=some r->∃a v,(Instr.loadAt t (.pointer (some ⟨b,off+i*u.cells+j,none⟩))).run P z.w= .ok v z.w/\bE z a v/\K a=some r:=by
  intro h
  let⟨x,h1,h2⟩:=ZAG.1 h
  let⟨us,h3,h4⟩:=hr i x h1
  exact s4Z h2 h3 h4
 unfold pC at h;split at h
 .rename_i n R aa
  let⟨t1,t2,t3,t4⟩:=dnZ aa
  cases hb:(decide (R=u)&&Nat.beq i 0&&Nat.beq j 0)<;>rw[hb] at h
  .exact key h
  .let⟨h1,h2⟩:=aeZ.1 h
   simp[afZ] at hb h1;obtain⟨⟨rfl,rfl⟩,rfl⟩:=hb
   let⟨css,q1,q2,q3⟩:=hr.cells
   have hl:css.flatten.length=n*R.cells:=by
    rw[bcZ,q1,h1];intro w hw
    let⟨k,hk⟩:=ZAR hw
    let⟨e,he⟩:=bfZ q1 hk
    exact(q2 k e w he hk).len
   refine⟨.p (.arr n R) l,.agg css.flatten.toArray,?_,.p _ _ _ ⟨css.flatten,⟨h1,css,by rw[q1,h1],rfl,q2⟩,rfl⟩,h2⟩;have:=cuZ css.flatten (t3 rfl) t1.symm (by omega) hl q3;simpa using this
 simp_all
theorem qsZ{t}{c}{j}{K}{r:β}{g}{vs}(h:xL P t c j K=some r)(hc:bQ z c vs)(h1:∀v∈vs,v.oneCell'=true)
 (ho:z.w.rangeAt g 0 vs):∃a v,(Instr.loadAt t (.pointer (some ⟨g,j,none⟩))).run P z.w= .ok v z.w/\bE z a v/\K a=some r:=by
 unfold xL at h;cases ha:gF P t<;>rw[ha] at h<;>simp[bq_false] at h
 .cases hs:fQ P t<;>rw[hs] at h<;>simp only[bq_true,bq_false] at h
  .cases h
  .let⟨x,h2,h3⟩:=agZ.1 h
   let⟨v,h4,h5⟩:=hc.get h2
   exact⟨x,v,drZ hs (by have:=ho j v h4;simp_all),h5,h3⟩
 .let⟨h2,h3⟩:=aeZ.1 h
  simp[ZAm] at h2
  let⟨h2,h4⟩:=h2
  have h0:P.cellsOf t≠0:=λh0=>by simp_all
  have hl:=hc.1;have R:((vs.drop j).take (P.cellsOf t)).length=P.cellsOf t:=by rw[ZAS,ZAu];omega
  refine⟨_,_,cuZ _ ha rfl h0 R (by have:=egZ ho j (P.cellsOf t);simp_all),.agg _ _ ?_ (λv hv=> ?_) (λi x v p1 p2=> ?_),h3⟩
  .simp_all
  .grind
  .exact((hc.drop j).take (P.cellsOf t)).2 i x v p1 (by simp_all)
theorem gR.vars_at{g R n}{c}(h:gR z g R n (.vars c)):∃vs,bQ z c vs/\(∀v∈vs,v.oneCell'=true)/\z.w.rangeAt g 0 vs:=by
 let⟨cs,e,fr,a1,a2,a3,⟨a4,_⟩,a5,a6⟩:=h
 refine⟨cs.toList,⟨by simp;omega,λi a v p1 p2=>a5 i a v p1 (by simpa using p2)⟩,λv hv=>a6 v (by simpa using hv),λj v hj=> ?_⟩;rw[byZ a1]
 simp_all
theorem ktZ{t}{a}{K}{r:β}{pv}(h:sE P t a H K=some r)(hH:bI z H)(ha:bE z a pv):
 ∃x v,(Instr.loadAt t pv).run P z.w= .ok v z.w/\bE z x v/\K x=some r:=by
 unfold sE at h;split at h
 .rename_i es id i j;split at h
  .rename_i c hg;cases ha with
   |own _ _ _ _ g sz n R=>
    let⟨vs,q1,q2,q3⟩:=(hH.real hg R).2.2.2.vars_at
    exact qsZ h q1 q2 q3
  .rename_i e u l hg;cases hi:Nat.beq es u.cells<;>rw[hi] at h<;>simp only[bq_true,bq_false] at h
   .cases h
   .rw[afZ] at hi;subst hi;cases ha with
    |own _ _ _ _ g sz n R=>
     have:=gwZ h (hH.real hg R).2.2.2.rowAt;simpa using this
  .cases h
 .cases ha with|pt _ _ _ _ b off hM aa hr=>exact gwZ h hr
 .split at h
  .rename_i fz e s ms hg
   let⟨m,h1,h2⟩:=ZAG.1 h
   let⟨h3,h4⟩:=aeZ.1 h2
   simp[afZ] at h3;obtain⟨h3,rfl⟩:=h3;cases ha with
   |rp _ _ _ _ _ g sz n R=>
    have:=gwZ h4 (hH.realX (g7Z hg h1 (by omega)) R).2.2.2.rowAt;simpa using this
  .cases h
 grind
def eG:Array Value->Nat->List Value->Array Value
 |c,_,[]=>c
 |c,o,v::r=>eG (c.setIfInBounds o v) (o+1) r
theorem alZ(vs):∀(c) (o),(eG c o vs).size=c.size:=by
 induction vs<;>grind[eG]
theorem awZ(vs):∀(c) (o k),o+vs.length<=c.size->(eG c o vs)[k]? =if o<=k/\k<o+vs.length then vs[k-o]? else c[k]? :=by
 induction vs with
 |nil=>simp_all[eG,ZAK]
 |cons v vs ih=>
  intro c o k hk;rw[eG]
  grind
theorem gRZ(w:World)(g o)(v)(cs)(e)(fr)(h:w.heap[g]? =some (.cells cs e fr)):(w.setCell ⟨g,o,none⟩ v).heap[g]? =some (.cells (cs.setIfInBounds o v) e fr):=by
 unfold World.setCell
 grind
theorem amZ(vs):∀(w:World) (g o) (cs) (e) (R),w.heap[g]? =some (.cells cs e R)->(w.setCells g o vs).heap[g]? =some (.cells (eG cs o vs) e R):=by
 induction vs with
 |nil=>intro w g o cs e R h;exact h
 |cons v vs ih=>intro w g o cs e R h;exact ih _ _ _ _ _ _ (gRZ w g o v cs e R h)
theorem anZ(vs):∀(w:World) (g o b),b≠g->(w.setCells g o vs).heap[b]? =w.heap[b]? :=by
 induction vs with
 |nil=>intro w g o b _;rfl
 |cons v vs ih=>intro w g o b h;exact(ih _ g (o+1) b h).trans (RowKit.Below.heap_setCell w ⟨g,o,none⟩ v b h)
theorem asZ(vs):∀(w:World) (g o),(w.setCells g o vs).heap.size=w.heap.size/\(w.setCells g o vs).os=w.os/\((w.setCells g o vs).tape=w.tape/\w.drawn<=(w.setCells g o vs).drawn)/\(w.setCells g o vs).output=w.output:=by
 induction vs with
 |nil=>intro w g o;exact⟨rfl,rfl,⟨rfl,ZAN _⟩,rfl⟩
 |cons v vs ih=>
  intro w g o
  let⟨h1,h2,R,h4⟩:=ih (w.setCell ⟨g,o,none⟩ v) g (o+1)
  exact⟨h1.trans (by simp_all),h2,R,h4⟩
theorem dkZ{α}(vs):∀(c:List α) (j),(setFrom c j vs).length=c.length:=by
 induction vs<;>grind[setFrom]
theorem djZ{α}(vs):∀(c:List α) (j k),j+vs.length<=c.length->(setFrom c j vs)[k]? =if j<=k/\k<j+vs.length then vs[k-j]? else c[k]? :=by
 induction vs with
 |nil=>simp_all[setFrom,ZAK]
 |cons v vs ih=>
  intro c j k hk;rw[setFrom]
  grind
theorem e9Z{w}{g o}{t}{v}{n}(ht:w.there g o v.cells.size)(hn:P.cellsOf t=n)(h0:n≠0)(hs:v.cells.size=n)(h1:∀u∈v.cells,u.oneCell'=true):
 (Instr.storeAt t (.pointer (some ⟨g,o,none⟩)) v).run P w= .ok () (w.setCells g o v.cells.toList):=by
 have hi:=b3Z hn h0;have:=run_storeCells_cells (P:=P) g o v.cells.toList 0 w (λj hj=>by simpa using(ht j (by omega)).1) (λj hj=>by simpa using(ht j (by omega)).2)
  (λu hu=>h1 u (by simp_all))
 cases hq:P.info? t with
 |none=>simp_all
 |some i=>
  have R:v.cells.size=i.size:=by simp[hq] at hi;omega
  simp[Instr.storeAt,Instr.sureAddr,storeVar,sizeOf,typeInfo,hq,R,this]
theorem dhZ{w:World}{g o n}{cs}{e}{R}(h:w.heap[g]? =some (.cells cs e R))(hf:okF cs R)(hn:o+n<=cs.size):w.there g o n:=λj hj=>by
 constructor
 .rw[byZ h];grind
 .unfold World.frozen?;rcases hf with hf|hf<;>grind
theorem m4Z{i j n es:Nat}(hi:i<n)(R:j<es):i*es+j<n*es:=by
 have:(i+1)*es<=n*es:=ZAd _ hi
 grind
def Ok(P:Program)(s:Sem Value)(z:Z)(K:AV->Hp->Option β)(r:β):Prop:=
 ∃x v H' z',s.run P z.w= .ok v z'.w/\bI z' H'/\bE z' x v/\Nx z z'/\K x H'=some r
def OkP(P:Program)(s:Sem Value)(z:Z)(K:AV->Option β)(r:β):Prop:=
 ∃x v,s.run P z.w= .ok v z.w/\bE z x v/\K x=some r
theorem qnZ{id g sz n o}{t}{v}{b0 b}{cs}{e}{fr}{H'}(hH:bI z H)(hg:bP H id=some ⟨false,b0⟩)(ab:z.ρ id= .real g sz n)
 (R:z.w.heap[g]? =some (.cells cs e fr))(hf:okF cs fr)(ac:P.cellsOf t≠0)(ad:v.cells.size=P.cellsOf t)(aa:o+v.cells.size<=cs.size)(h1:∀u∈v.cells,u.oneCell'=true)
 (hb:∀z',Kp z z'->z'.w.heap[g]? =some (.cells (eG cs o v.cells.toList) e fr)->gR z' g sz n b)(hu:Upd H id b H')(ae:¬Ro id):
 ∃z',(Instr.storeAt t (.pointer (some ⟨g,o,none⟩)) v).run P z.w= .ok () z'.w/\bI z' H'/\Nx z z'/\z'.ρ=z.ρ:=by
 let⟨q1,q2,q3,q4⟩:=asZ v.cells.toList z.w g o
 let⟨p1,p2⟩:=hH.writeX hg ab q2 q3 q4 q1 (λb hb=>anZ _ _ _ _ _ hb) (λk=>hb _ k (amZ _ _ _ _ _ _ _ R)) hu ae
 exact⟨_,e9Z (dhZ R hf aa) rfl ac ad h1,p1,p2,rfl⟩
theorem mRZ{id g sz n o}{t}{v}{b0 b}{cs}{e}{fr}(hH:bI z H)(hg:bG H id=some ⟨false,b0⟩)(ab:z.ρ id= .real g sz n)
 (R:z.w.heap[g]? =some (.cells cs e fr))(hf:okF cs fr)(ac:P.cellsOf t≠0)(ad:v.cells.size=P.cellsOf t)(aa:o+v.cells.size<=cs.size)(h1:∀u∈v.cells,u.oneCell'=true)
 (hb:∀z',Kp z z'->z'.w.heap[g]? =some (.cells (eG cs o v.cells.toList) e fr)->gR z' g sz n b):
 ∃z',(Instr.storeAt t (.pointer (some ⟨g,o,none⟩)) v).run P z.w= .ok () z'.w/\bI z' (bS H id (some ⟨false,b⟩))/\Nx z z':=by
 let⟨q1,q2,q3,q4⟩:=asZ v.cells.toList z.w g o
 let⟨p1,p2⟩:=hH.write hg ab q2 q3 q4 q1 (λb hb=>anZ _ _ _ _ _ hb) (λk=>hb _ k (amZ _ _ _ _ _ _ _ R))
 exact⟨_,e9Z (dhZ R hf aa) rfl ac ad h1,p1,p2⟩
theorem tYZ{cs cs'}{R}(h:okF cs R)(hs:cs'.size=cs.size):okF cs' R:=by simp_all[okF]
theorem cU.cells{w}{M}{ρ}{t}{x}{v}(h:cU w M ρ t x v):Cl w M ρ t x v.cells.toList/\∀u∈v.cells,u.oneCell'=true:=
 ⟨h.cells',λu R=>h.cells'.one u (by simp_all)⟩
theorem fUZ{id g sz n i j}{t}{e}{u}{l:List u.den}{x x'}{v}{b0}{us}{H'}{cs}{fr}
 (hH:bI z H)(hg:bP H id=some ⟨false,b0⟩)(ac:z.ρ id= .real g sz n)(a1:z.w.heap[g]? =some (.cells cs e fr))(a2:okR u cs fr)(a3:cs.size=sz)(a4:l.length=n)(a5:l.length*u.cells<=sz)(a6:0<u.cells)
 (a7:∀(i) x,l[i]? =some x->∃us,Cl z.w z.M z.ρ u x us/\∀(j) v,us[j]? =some v->cs[i*u.cells+j]? =some v)(ad:v.cells.size=P.cellsOf t)(ae:P.cellsOf t≠0)(hx:l[i]? =some x)(c4:∀u∈v.cells,u.oneCell'=true)
 (c1:Cl z.w z.M z.ρ u x us)(c2:∀(j) v,us[j]? =some v->cs[i*u.cells+j]? =some v)(q1:Cl z.w z.M z.ρ u x' (us.take j++v.cells.toList++us.drop (j+v.cells.size)))(q2:j+v.cells.size<=u.cells)(hu:Upd H id (.rows e u (l.set i x')) H')(af:¬Ro id):
 ∃z',(Instr.storeAt t (.pointer (some ⟨g,i*u.cells+j,none⟩)) v).run P z.w= .ok () z'.w/\bI z' H'/\Nx z z'/\z'.ρ=z.ρ:=by
 have hi:i<l.length:=(ZAB.1 hx).1;have ag:(i+1)*u.cells<=l.length*u.cells:=ZAd _ hi;rw[ZB4] at ag;have ak:=c1.len;refine qnZ (P:=P) (t:=t) (o:=i*u.cells+j) (v:=v) (b:=.rows e u (l.set i x')) hH hg ac a1 a2.f ae ad (by omega) c4 (λz' k hw=>by
  refine⟨_,fr,hw,ewZ a2 (alZ _ _ _),by simp_all[alZ],by simp_all,by simp_all,a6,λi' y' R=> ?_⟩;by_cases aa:i=i'
  .subst aa;rw[ZAQ hi] at R;obtain rfl:x'=y':=ZAf R;refine⟨_,q1.kp k,λm w hm=> ?_⟩;rw[awZ _ _ _ _ (by grind)];have aj:(us.take j++v.cells.toList++us.drop (j+v.cells.size)).length=u.cells:=by
    simp[ZAS,ZAu];omega
   have ab:m<u.cells:=by
    have:=(ZAB.1 hm).1;omega
   simp only[ZBD];by_cases h1:j<=m/\m<j+v.cells.size
   .grind
   .rw[ZAK (by omega)];by_cases h2:m<j
    .rw[ZAw,ZAT (by simp;omega),ZBh h2] at hm;exact c2 m w hm
    grind
  .rw[ZAX aa] at R;obtain⟨ah,d1,d2⟩:=a7 i' y' R;refine⟨ah,d1.kp k,λm w hm=> ?_⟩;have ab:m<u.cells:=by
    have:=(ZAB.1 hm).1;rw[d1.len] at this;exact this
   rw[awZ _ _ _ _ (by grind),ZAK,d2 m w hm];simp only[ZBD];rcases ZBy i i' with ai|hge
   .have:(i+1)*u.cells<=i'*u.cells:=ZAd _ ai
    grind
   .have:(i'+1)*u.cells<=i*u.cells:=ZAd _ (by omega);rw[ZB4] at this;omega) hu af
theorem gVZ{id g sz n i j}{t}{e}{u R}{l}{x}{y}{v}{b0}{K:AV->Hp->Option β}{r}{mk:List u.den->Hp}
 (hH:bI z H)(hg:bP H id=some ⟨false,b0⟩)(aa:z.ρ id= .real g sz n)(hb:gR z g sz n (.rows e u l))(ab:ty P t=some R)(hx:l[i]? =some x)(hy:cU z.w z.M z.ρ R y v)
 (h:upd u x j R y (λx'=>K .junk (mk (l.set i x')))=some r)(hu:∀l',Upd H id (.rows e u l') (mk l'))(ac:¬Ro id):
 ∃H' z',(Instr.storeAt t (.pointer (some ⟨g,i*u.cells+j,none⟩)) v).run P z.w= .ok () z'.w/\bI z' H'/\Nx z z'/\K .junk H'=some r:=by
 let⟨t1,t2,t3,t4⟩:=dnZ ab
 let⟨c3,c4⟩:=hy.cells
 have ad:=c3.len;have ae:=by simpa using ad
 let⟨cs,fr,a1,a2,a3,a4,a5,a6,a7⟩:=hb
 let⟨us,c1,c2⟩:=a7 i x hx
 obtain⟨x',q1,q2,q3⟩:=npZ h c1 c3;obtain⟨z',s1,s2,s3,_⟩:=fUZ (P:=P) (t:=t) hH hg aa a1 a2 a3 a4 a5 a6 a7 (by omega) (by omega) hx c4 c1 c2 (by rw[ae];exact q1) (by omega) (hu _) ac;exact⟨_,z',s1,s2,s3,q3⟩
theorem kKZ{id g sz n i j}{t}{e}{u R}{l}{x}{a}{v}{b0}{K:AV->Hp->Option β}{r}{mk:List u.den->Hp}
 (hH:bI z H)(hg:bP H id=some ⟨false,b0⟩)(aa:z.ρ id= .real g sz n)(hb:gR z g sz n (.rows e u l))(ab:ty P t=some R)(hx:l[i]? =some x)(ha:bE z a v)
 (h:xK u x j R a (λx'=>K .junk (mk (l.set i x')))=some r)(hu:∀l',Upd H id (.rows e u l') (mk l'))(ac:¬Ro id):
 ∃H' z',(Instr.storeAt t (.pointer (some ⟨g,i*u.cells+j,none⟩)) v).run P z.w= .ok () z'.w/\bI z' H'/\Nx z z'/\K .junk H'=some r:=by
 let⟨t1,t2,t3,t4⟩:=dnZ ab
 let⟨cs,fr,a1,a2,a3,a4,a5,a6,a7⟩:=hb
 let⟨us,c1,c2⟩:=a7 i x hx
 let⟨x',q1,q2,q3,c4,q4⟩:=ixZ h c1 ha
 obtain⟨z',s1,s2,s3,_⟩:=fUZ (P:=P) (t:=t) hH hg aa a1 a2 a3 a4 a5 a6 a7 (by omega) (by omega) hx c4 c1 c2 (by rw[q3];exact q1) (by omega) (hu _) ac;exact⟨_,z',s1,s2,s3,q4⟩
theorem bI.newM{f}{e}{s}{ms}{l}{r}(hH:bI z H)(hg:bG H (bZ f)=some ⟨false,.fam e s ms⟩)
 (hr:(r= .virt/\l=[])\/∃g sz n,r= .real g sz n/\g<z.w.heap.size/\z.C g/\gR z g sz n (.rows e s l)/\∀i ee af n',bP H i=some ee->ee.fz=false->z.ρ i= .real g af n'->Ro i/\f%16=15):
 ∃z',z'.w=z.w/\bI z' (bS H (bZ f) (some ⟨false,.fam e s (ms++[(1,l)])⟩))/\Nx z z'/\z'.ρ (enc f ms.length)=r:=by
 have ac:=hH.fam _ _ hg;have bM:=aiZ hg;have ah:z.ρ (enc f ms.length)= .no:=by
  refine(hH.fresh _ ?_).resolve_right (hH.dyn _ (ciZ _ _) (by simp_all[ecZ]));rw[ayZ (ciZ _ _),ecZ,paZ,hg];simp[Ent.has]
 let z':={z with ρ:=λi=>if i=enc f ms.length then r else z.ρ i}
 have e1:∀i,i≠enc f ms.length->z'.ρ i=z.ρ i:=λi hi=>ZAK hi;have e2:z'.ρ (enc f ms.length)=r:=ZAM rfl;have hn:Nx z z':=⟨rfl,⟨rfl,ZAN _⟩,rfl,ZAN _,λ_ _ _=>rfl,λ_ h=>.inl h,λ_ h=>.inl h,λ_ _ h _=>h,λi hi=>e1 i (by grind),rfl⟩;have ad:=hn.kp hH.sub;have hX:∀i,bP (bS H (bZ f) (some ⟨false,.fam e s (ms++[(1,l)])⟩)) i=if i=enc f ms.length then some ⟨false,.rows e s l⟩ else bP H i:=λi=>by
  by_cases hi:∃k',i=enc f k'
  .obtain⟨k',rfl⟩:=hi;rw[(bLZ H f _ 0).1 k'];by_cases hk:k'=ms.length
   .subst hk;rw[ZAM rfl];simp[pick]
    rfl
   .rw[ZAK λh=>hk (ivZ h).2,cIZ,hg];simp only[ZAA,pick];rcases ZBy k' ms.length with ag|hge
    .rw[ZAT ag]
    .rw[ZAU hge,ZAg (by simp;omega),ZAg hge]
  simp_all[bLZ,ZAK]
 refine⟨z',rfl,⟨λi ee hi=> ?_,λi i' ee ai a sa na a' aa ab ae h1 h2 m1 m2 h3 h4=> ?_,λi hi=> ?_,hH.sub,λi x h=> ?_,λi h=> ?_,λi hd h=> ?_,λi h1 h2=> ?_⟩,hn,e2⟩
 .rw[hX] at hi;by_cases h:i=enc f ms.length
  .subst h;rw[ZAM rfl] at hi;cases hi;unfold eW;rw[e2];have hc:=ac.2.2.2.1;rcases hr with⟨rfl,rfl⟩|⟨g,sz,n,rfl,q1,q2,q3,_⟩
   .exact⟨rfl,hc⟩
   .exact⟨q1,λ_=>q2,(λh=>by cases h),q3.kp ad rfl⟩
  .rw[ZAK h] at hi;exact(hH.ent _ _ hi).kp ad λa sa na ha=>⟨rfl,λh=>h⟩
 .rw[hX] at h1 h2;have key:∀j jj a sa na a' aa ab,bP H jj=some a->a.fz=false->z.ρ jj= .real a' aa ab->z'.ρ (enc f ms.length)= .real j sa na->¬(Ro jj/\Ro (enc f ms.length))->j≠a':=by
   rintro j jj a sa na a' aa ab p1 p2 p3 p4 p5 rfl;rw[e2] at p4;rcases hr with⟨rfl,_⟩|⟨g,sz,n,rfl,_,_,_,q⟩
   .cases p4
   .cases p4;exact p5 ((q jj a _ _ p1 p2 p3).imp id q2Z.2)
  by_cases hi:i=enc f ms.length
  .have R:i'≠enc f ms.length:=λh=>ae (hi.trans h.symm);rw[ZAK R] at h2;rw[e1 _ R] at h4;rw[hi] at h3;exact λp5=>key _ _ _ _ _ _ _ _ h2 m2 h4 h3 λh=>p5 (by rw[hi];exact h.symm)
  .rw[ZAK hi] at h1;rw[e1 _ hi] at h3;by_cases R:i'=enc f ms.length
   .rw[R] at h4;exact λp5=>(key _ _ _ _ _ _ _ _ h1 m1 h3 h4 λh=>p5 (by rw[R];exact h)).symm
   .rw[ZAK R] at h2;rw[e1 _ R] at h4;exact hH.inj i i' _ _ _ _ _ _ _ _ ae h1 h2 m1 m2 h3 h4
 .by_cases R:∃k',i=enc f k'
  .obtain⟨k',rfl⟩:=R;rw[(crZ H f _ 0).1 k'] at hi;simp[Ent.has] at hi;rw[e1 _ λh=>by have:=(ivZ h).2;omega];refine hH.fresh _ ?_;rw[ayZ (ciZ f k'),ecZ,paZ,hg];simp[Ent.has];omega
  .rw[(crZ H f _ i).2 λk' h=>R ⟨k',h⟩] at hi;rw[e1 _ λh=>R ⟨_,h⟩];exact hH.fresh i hi
 .rw[apZ] at h;by_cases hi:i=bZ f
  .rw[ZAM hi] at h;cases h;rw[hi];exact ac
  .rw[ZAK hi] at h;exact hH.fam i x h
 .rw[atZ] at h;simp only[ZA3,ZAp] at h;rcases h with rfl|h
  .exact(caZ f).2
  .exact hH.key i h
 .rw[atZ] at h;simp only[ZA3,ZAp] at h;refine hH.dyn i hd ?_;rcases h with h|h
  .rw[h];exact bM
  .exact h
 .rw[e1 i λh=>by have:=ciZ f ms.length;omega];exact hH.nos i h1 h2
theorem l8Z{t}{a a'}{H'}{v}(hH:bI z H)(h:KB H t a=some (a',H'))(ha:bE z a v):
 ∃z',z'.w=z.w/\bI z' H'/\Nx z z'/\bE z' a' v:=by
 unfold KB at h;split at h
 .rename_i f s es id;split at h
  .rename_i e t l e' s' ms hg ac;rcases aUZ h with⟨ht,hh⟩|hh
   .clear h;subst ht;rcases aUZ hh with⟨hs,h⟩|h
    .subst hs;cases hb:(Nat.beq es s'.cells&&Nat.beq e e')<;>rw[hb] at h<;>simp only[bq_true,bq_false] at h
     .cases h
     simp[afZ] at hb;obtain⟨rfl,rfl⟩:=hb;obtain⟨rfl,rfl⟩:=Prod.mk.inj (ZAf h);have aa:=hH.kill (aiZ hg);have ab:=by
      refine hH.low hg ?_;cases ha with
      |slfV _ _ A R=>exact q9Z R
      |slf _ _ g sz n c R hn hs hm=>exact aTZ R
     have hg2:bG (bS H id none) (bZ f)=some ⟨false,.fam e s' ms⟩:=by
      rw[apZ,ZAK]
      .exact ac
      .have:=(caZ f).1;omega
     cases ha with
     |slfV _ _ A R=>
      obtain⟨rfl,_⟩:=hH.virt hg R;obtain⟨z',p1,p2,p3,p4⟩:=aa.newM hg2 (.inl ⟨rfl,rfl⟩);exact⟨z',p1,p2,p3,.p _ _ _ (.mkSc (.inl ⟨A,p4,rfl,rfl⟩) rfl)⟩
     |slf _ _ g sz n c R hn hs hm=>
      let⟨b1,b2,b3,b4⟩:=hH.real hg R
      obtain⟨z',p1,p2,p3,p4⟩:=aa.newM hg2 (.inr ⟨g,sz,n,rfl,b1,b2 rfl,b4,λi ee af n' q1 q2 q3=>by
       rw[a7Z ab] at q1;split at q1
       .cases q1
       .rename_i ad;exact absurd rfl (hH.inj i id _ _ _ _ _ _ _ _ ad q1 (hH.x hg (aTZ R)) q2 rfl q3 R λh=>bUZ ab h.2)⟩)
      have ae:l.length=n:=by let⟨cs,fr,a1,a2,a3,a4,_⟩:=b4;exact a4
      refine⟨z',p1,p2,p3,.p _ _ _ (.mkSc (.inr ⟨g,sz,n,c,p4,?_⟩) rfl)⟩;show l.length<=c/\(0+c)*s'.cells<=sz/\c<=maxLen/\[Value.slice (some ⟨g,0,none⟩) n c]=[.slice (some ⟨g,0*s'.cells,none⟩) l.length c];rw[ae,ZBn,ZA1];exact⟨hn,hs,hm,rfl⟩
    .cases h
   .cases hh
  .cases h
 grind[ZAV,ZA0,Nx.refl]
theorem rqZ:∀{ts} {l l'} {z} {H H'} {vs},bI z H->NZ H ts l=some (l',H')->bQ z l vs->
 ∃z',z'.w=z.w/\bI z' H'/\Nx z z'/\bQ z' l' vs
 |[],l,l',z,H,H',vs,hH,h,R=>by
  have h:some (l,H)=some (l',H'):=by cases l<;>exact h
  grind[ZAV,ZA0,Nx.refl]
 |t::ts,[],l',z,H,H',vs,hH,h,R=>by
  simp[NZ,ZA0] at h
  grind[Nx.refl]
 |t::ts,a::l,l',z,H,H',vs,hH,h,R=>by
  let⟨⟨x,H1⟩,h1,h2⟩:=agZ.1 h
  let⟨⟨y,H2⟩,h3,h4⟩:=ZAH.1 h2
  obtain⟨rfl,rfl⟩:=h4
  match vs,R with
  |[],R=>have:=R.1;simp at this
  |v::vs,R=>
   let⟨z1,q1,q2,q3,q4⟩:=l8Z hH h1 R.head
   let⟨z2,p1,p2,p3,p4⟩:=rqZ q2 h3 (R.tail.kp (q3.kp hH.sub))
   exact⟨z2,p1.trans q1,p2,q3.trans p3,.cons (q4.kp (p3.kp q2.sub)) p4⟩
theorem rdZ{t}{a a'}{H'}{v}(hH:bI z H)(h:OA H t a=some (a',H'))(ha:bE z a v):
 ∃z',z'.w=z.w/\bI z' H'/\Nx z z'/\bE z' a' v:=by
 unfold OA at h;split at h
 .let⟨⟨l',H1⟩,h1,h2⟩:=ZAH.1 h
  obtain⟨rfl,rfl⟩:=h2;cases ha with|agg _ cs hs h3 h4=>
  let⟨z',q1,q2,q3,q5⟩:=rqZ (vs:=cs.toList) hH h1 ⟨by simp[hs],λi a v p1 R=>h4 i a v p1 (by simpa using R)⟩
  refine⟨z',q1,q2,q3,.agg _ _ ?_ h3 λi x v p1 R=>q5.2 i x v p1 (by simpa using R)⟩;have:=q5.1;simpa using this.symm
 grind[l8Z]
theorem qiZ{id g sz n i j}{t}{e}{u}{l}{a}{v}{b0}{K}{r:β}
 (h:uY P t e u l i j id a H K=some r)(hH:bI z H)(hg:bG H id=some ⟨false,b0⟩)(ac:z.ρ id= .real g sz n)(hb:gR z g sz n (.rows e u l))(ha:bE z a v):
 ∃H' z',(Instr.storeAt t (.pointer (some ⟨g,i*u.cells+j,none⟩)) v).run P z.w= .ok () z'.w/\bI z' H'/\Nx z z'/\K .junk H'=some r:=by
 have key:∀R,ty P t=some R->(asA R a λy=>l[i]?.bind λx=>upd u x j R y λx'=>K .junk (bS H id (some ⟨false,.rows e u (l.set i x')⟩)))=some r->
  ∃H' z',(Instr.storeAt t (.pointer (some ⟨g,i*u.cells+j,none⟩)) v).run P z.w= .ok () z'.w/\bI z' H'/\Nx z z'/\K .junk H'=some r:=by
  intro R aa h
  let⟨y,h1,h2⟩:=bVZ h ha
  let⟨x,h3,h4⟩:=ZAG.1 h2
  have af:=hH.low hg (aTZ ac);exact gVZ hH (hH.x hg (aTZ ac)) ac hb aa h3 h1 h4 (λl'=>.stat af hg af) (bUZ af)
 unfold uY at h;split at h
 .rename_i m u' aa;cases hc:(decide (u'=u)&&Nat.beq i 0&&Nat.beq j 0)<;>rw[hc] at h<;>simp[bq_true,bq_false] at h
  .exact key _ aa h
  .simp only[ZAE,ZAp,afZ] at hc;obtain⟨⟨rfl,rfl⟩,rfl⟩:=hc
   let⟨h1,h2⟩:=aeZ.1 h
   let⟨l',h3,h4⟩:=bVZ h2 ha
   let⟨h5,h6⟩:=aeZ.1 h4
   rw[afZ] at h1 h5
   let⟨t1,t2,t3,t4⟩:=dnZ aa
   let⟨cs,fr,a1,a2,a3,a4,a5,a6,a7⟩:=hb
   let⟨c3,c4⟩:=h3.cells
   have ai:=c3.len;have ad:=by simpa[Ty.cells] using ai
   let⟨_,css,d1,d2,d3⟩:=c3
   let⟨z',s1,s2,s3⟩:=mRZ (P:=P) (t:=t) (o:=0*u'.cells+0) (b:=.rows e u' l') hH hg ac a1 a2.f (by omega) (by rw[ad];exact t1) (by rw[ad,<-h1];omega) c4 (λz' k hw=>by
    refine⟨_,fr,hw,ewZ a2 (alZ _ _ _),by rw[alZ];exact a3,by rw[h5,<-h1];exact a4,by rw[h5,<-h1];exact a5,a6,λi' y' ag=> ?_⟩;have ae:i'<css.length:=by
     have:=(ZAB.1 ag).1;omega
    refine⟨css[i'],(d3 i' y' _ ag (ZAC ae)).kp k,λq w hq=> ?_⟩;have ab:∀u∈css,u.length=u'.cells:=λu hu=>by
     let⟨k,hk⟩:=ZAR hu
     let⟨e,he⟩:=bfZ (l:=l') (by rw[d1,h5]) hk
     exact(d3 k e u he hk).len
    have ah:=by
     have:=(ZAB.1 hq).1;rwa [ab _ (ZBK ae)] at this
    have aj:=m4Z ae ah;have ak:∀(css:List (List Value)) (k) (hk),(∀u∈css,u.length=u'.cells)->∀q w,css[k][q]? =some w->css.flatten[k*u'.cells+q]? =some w:=by
     intro css;induction css with
     |nil=>intro k hk;simp at hk
     |cons c css ih=>
      intro k hk hl q w hq
      match k with
      |0=>
       simp at hq;rw[ZCK,ZBn,ZA1,ZAT (ZAB.1 hq).1];exact hq
      |k+1=>
       have hc:=hl c (by simp);rw[ZCK,ZAU (by rw[ZB4];omega)];have:=ih k (by simpa using hk) (λu hu=>hl u (by simp[hu])) q w (by simpa using hq);rw[<-this];congr 1;rw[ZB4];omega
    have h7:=ak css i' ae ab q w hq;rw[awZ _ _ _ _ (by simp;rw[ad,<-h1];omega),ZAM (by simp;rw[ad];rw[d1] at aj;omega)];rw[<-h7,<-d2];congr 1;omega)
   exact⟨_,z',s1,s2,s3,h6⟩
 .rename_i R al aa;exact key _ aa h
 grind
theorem oaZ{t}{a x}{K}{r:β}{pv v}(h:qI P t a x H K=some r)(hH:bI z H)(ha:bE z a pv)(hx:bE z x v):
 ∃H' z',(Instr.storeAt t pv v).run P z.w= .ok () z'.w/\bI z' H'/\Nx z z'/\K .junk H'=some r:=by
 unfold qI at h;split at h
 .rename_i es id i j;cases ha with
  |own _ _ _ _ g sz n R=>
   split at h
   .rename_i c hg
    let⟨vs,h1,h2⟩:=agZ.1 h
    let⟨h3,h4⟩:=aeZ.1 h2
    simp only[ZAE,ZAk,ZAm,afZ] at h3
    let⟨⟨h5,h6⟩,h7⟩:=h3
    obtain⟨o,ho⟩:∃o,i*es+j=o:=⟨_,rfl⟩;rw[ho] at h4 h7⊢
    let⟨p1,p2,_⟩:=cOZ h1 hx
    let⟨_,_,_,cs,e,fr,q1,q2,q3,⟨q4,qn⟩,q5,q6⟩:=hH.real hg R
    have ak:P.cellsOf t≠0:=λh0=>by rw[h0] at h6;simp at h6
    have al:=by have:=p1.1;simpa using this.symm
    obtain⟨z',s1,s2,s3⟩:=mRZ (o:=o) (b:=.vars (setFrom c o vs)) hH hg R q1 q2 ak (by omega) (by omega) p2 (λz' k hw=>by
     refine⟨_,e,fr,hw,tYZ q2 (alZ _ _ _),by rw[alZ];exact q3,⟨by rw[dkZ];exact q4,qn⟩,λm a u hk hu=> ?_,λu hu=> ?_⟩
     .rw[djZ _ _ _ _ h7] at hk;rw[awZ _ _ _ _ (by simp;omega)] at hu;simp only[ZBD,al] at hu;by_cases ai:o<=m/\m<o+vs.length
      .rw[ZAM ai] at hk hu;exact(p1.2 _ _ _ hk hu).kp k
      .rw[ZAK ai] at hk hu;exact(q5 _ _ _ hk hu).kp k
     .obtain⟨m,hm,rfl⟩:=Array.mem_iff_getElem.1 hu;have aa:=ZBC hm;generalize (eG cs o v.cells.toList)[m]=u at aa;rw[awZ _ _ _ _ (by simp;omega)] at aa;split at aa
      .exact p2 u (by have:=ZAI aa;simpa using this)
      .exact q6 u (Array.mem_of_getElem? aa))
    exact⟨_,z',s1,s2,s3,h4⟩
   .rename_i e u l hg;cases ab:Nat.beq es u.cells<;>rw[ab] at h<;>simp only[bq_true,bq_false] at h
    .cases h
    rw[afZ] at ab;subst ab;cases ae:u.noRef<;>rw[ae] at h<;>simp only[bq_true,bq_false] at h
    .unfold SI at h
     let⟨aj,g1,h⟩:=agZ.1 h
     let⟨u',g2,h⟩:=agZ.1 h
     let⟨⟨a1,H1⟩,g3,h⟩:=agZ.1 h
     let⟨⟨a2,H2⟩,g4,h⟩:=agZ.1 h
     let⟨g5,h⟩:=aeZ.1 h
     let⟨x0,g6,h⟩:=ZAG.1 h
     let⟨z1,p1,p2,p3,p4⟩:=rdZ hH g3 hx
     let⟨z2,r1,r2,r3,r4,r5⟩:=bWZ p2 g4 p4
     obtain⟨b1,hg1⟩:∃b1,bG H2 id=some ⟨false,b1⟩:=by
      simp only[HI] at g5;split at g5
      .rename_i e' af
       let⟨fz,b1⟩:=e'
       simp only[ZAk] at g5;subst g5;exact⟨b1,af⟩
      .cases g5
     have hn:=p3.trans r3;have ac:z2.ρ id= .real g sz n:=by rw[hn.ext id (aTZ R)];exact R
     have hb:=(hH.real hg R).2.2.2.kp (hn.kp hH.sub) (by rw[r1,p1]);have ag:=r2.low hg1 (aTZ ac)
     let⟨H',z',s1,s2,s3,s4⟩:=kKZ r2 (r2.x hg1 (aTZ ac)) ac hb g1 g6 r5 h (λl'=>.stat ag hg1 ag) (bUZ ag)
     exact⟨H',z',by rw[<-p1,<-r1];exact s1,s2,hn.trans s3,s4⟩
    let⟨⟨a',H1⟩,h1,h2⟩:=agZ.1 h
    let⟨h3,h4⟩:=aeZ.1 h2
    let⟨z1,p1,p2,p3,p4,p5⟩:=bWZ hH h1 hx
    have hg1:∃b1,bG H1 id=some ⟨false,b1⟩:=by
     simp only[HI] at h3;split at h3
     .rename_i e' af
      let⟨fz,b1⟩:=e'
      simp only[ZAk] at h3;subst h3;exact⟨b1,af⟩
     .cases h3
    let⟨b1,hg1⟩:=hg1
    have hb:=(hH.real hg R).2.2.2.kp (p3.kp hH.sub) (by rw[p1])
    let⟨H',z',s1,s2,s3,s4⟩:=qiZ h4 p2 hg1 (by rw[p4];exact R) hb p5
    exact⟨H',z',by rw[<-p1];exact s1,s2,p3.trans s3,s4⟩
   .cases h
 .rename_i f es k i j;unfold SJ at h
  let⟨aj,g1,h⟩:=agZ.1 h
  let⟨⟨a1,H1⟩,g2,h⟩:=agZ.1 h
  obtain⟨z1,p1,p2,p3,p4,p5⟩:=bWZ hH g2 hx;split at h
  .rename_i e s ms hg;obtain⟨ae,h⟩:=aeZ.1 h;obtain⟨m,g3,h⟩:=ZAG.1 h;obtain⟨g4,h'⟩:=aeZ.1 h;clear h;simp only[ZAE,afZ] at g4;obtain⟨⟨g4,ab⟩,g5⟩:=g4;subst ab;clear g5;have h:=h';obtain⟨y,g6,h⟩:=bVZ h p5;obtain⟨r0,g7,h⟩:=ZAG.1 h;cases ha with
   |rp _ _ _ _ _ g sz n R=>
    have ad:z1.ρ (enc f k)= .real g sz n:=by rw[p4];exact R
    have ah:=g7Z hg g3 (by rw[g4];omega);have am:((⟨false||Nat.ble 2 m.1,.rows e s m.2⟩:Ent))=⟨false,.rows e s m.2⟩:=by rw[g4];rfl
    rw[am] at ah;obtain⟨H',z',s1,s2,s3,s4⟩:=gVZ p2 ah ad (p2.realX ah ad).2.2.2 g1 g7 g6 h (λl'=>.mem hg (p2.fam _ _ hg) g3 l') (kUZ ae);exact⟨H',z',by rw[<-p1];exact s1,s2,p3.trans s3,s4⟩
  .cases h
 grind
end
end
section
variable {P : Program} {β : Type} {z : Z} {H : Hp}
theorem OkP.mk'{s}{K}{r:β}{x}{v}(h1:s.run P z.w= .ok v z.w)(h2:bE z x v)(R:K x=some r):OkP P s z K r:=⟨x,v,h1,h2,R⟩
theorem a6Z{t n:Nat}(w)(h:P.cellsOf t=n)(h0:n≠0):(sizeOf t).run P w= .ok n w:=by
 have hi:=b3Z h h0;cases hq:P.info? t with
 |none=>simp_all
 |some i=>simp[hq] at hi;simp[sizeOf,typeInfo,hq,hi]
theorem enZ{s}{f o}{t}(h:nC P s f=some (o,t)):∃fs x,P.underlying s=some (.struct fs)/\fs[f]? =some x/\P.cellsOf x.type≠0/\x.offset=o/\x.type=t:=by
 unfold nC at h;split at h
 .rename_i fs R
  let⟨x,h1,h2⟩:=agZ.1 h
  cases hb:Nat.beq (P.cellsOf x.type) 0<;>rw[hb] at h2<;>simp only[bq_true,bq_false] at h2
  .simp[ZA0] at h2;exact⟨fs,x,R,h1,λh=>(by rw[h] at hb;cases hb),h2.1,h2.2⟩
  .cases h2
 grind
theorem etZ{s}{f o b p}{t}(h:nC P s f=some (o,t))(w):(Instr.fieldAt s (.pointer (some ⟨b,p,none⟩)) f).run P w= .ok (.pointer (some ⟨b,p+o,none⟩)) w:=by
 let⟨fs,x,h1,h2,R,h4,h5⟩:=enZ h
 have hs:=a6Z w rfl R;simp[Instr.fieldAt,run_underlying h1,h2,Instr.sureAddr,fieldPlace,hs,R,h4,Addr.add_mid]
theorem huZ{s}{a}{f}{K}{r:β}{v}(h:iN P s a f K=some r)(ha:bE z a v):OkP P (Instr.fieldAt s v f) z K r:=by
 unfold iN at h;split at h
 .rename_i o t es id i j ho;cases ha with
  |own _ _ _ _ g sz n R=>exact .mk' (by rw[etZ ho];rw[ZB5]) (.own _ _ _ _ _ _ _ R) h
 .rename_i o t u l i j ho;cases ha with
  |pt _ _ _ _ b off hM aa hr=>exact .mk' (by rw[etZ ho,ZB5 (off+i*u.cells)]) (.pt _ _ _ _ _ _ hM aa hr) h
 .rename_i o t f' es k i j ho;cases ha with
  |rp _ _ _ _ _ g sz n R=>exact .mk' (by rw[etZ ho];rw[ZB5]) (.rp _ _ _ _ _ _ _ _ R) h
 grind
theorem btZ{t}{cs}{o n}(w)(h:gF P t=true)(R:P.cellsOf t=n)(h0:n≠0):(part t cs o).run P w= .ok (.agg (cs.extract o (o+n))) w:=by
 let⟨d,hd,hr⟩:=faZ h
 have hs:=a6Z w R h0;have ha:(isAgg t).run P w= .ok true w:=by
  unfold isAgg;rw[Sem.run_bind,run_underlying hd w];cases d<;>simp_all
 simp[part,ha,hs]
theorem bgZ{t}{cs}{o}{v}(w)(h:fQ P t=true)(hv:cs[o]? =some v):(part t cs o).run P w= .ok v w:=by
 simp[part,k9Z w h,hv]
theorem uuZ{u}{t}{x}{cs}{o}{K}{r:β}(h:rS P u t x o K=some r)(hc:Cl z.w z.M z.ρ u x cs.toList):OkP P (part t cs o) z K r:=by
 unfold rS at h
 let⟨ac,h1,h2⟩:=agZ.1 h
 let⟨t1,t2,t3,t4⟩:=dnZ h1
 obtain⟨R,y,e1,e2,q1,q3⟩:∃(R:Ty) (y:R.den),R.cells=ac.cells/\R.isAgg=ac.isAgg/\Cl z.w z.M z.ρ R y ((cs.toList.drop o).take R.cells)/\K (.ofTy R y)=some r:=by
  cases ad:u.noRef<;>rw[ad] at h2<;>simp only[bq_true,bq_false] at h2
  .let⟨R,y,q0,q1,q2,q3⟩:=gnZ h2 hc
   exact⟨R,y,by rw[<-q0,a5Z],by rw[<-q0,fSZ],q1,q3⟩
  grind[kPZ]
 rw[<-e1] at t1 t2;rw[<-e2] at t3 t4;clear h2 h1 e1 e2;have hl:=q1.len;cases aa:R.isAgg
 .have ab:R.cells=1:=by cases R<;>first|rfl|simp_all[Ty.isAgg]
  match hvs:(cs.toList.drop o).take R.cells,hl with
  |[],hl=>simp_all
  |_::_::_,hl=>simp_all
  |[v],_=>
   rw[hvs] at q1;have hv:=by
    have:((cs.toList.drop o).take R.cells)[0]? =some v:=by rw[hvs];rfl
    rw[ab] at this;simpa using this
   exact .mk' (bgZ z.w (t4 aa) hv) (cpZ (.mkSc q1 aa)) q3
 .refine .mk' (btZ z.w (t3 aa) t1.symm (by omega)) (cpZ ⟨_,q1,?_⟩) q3;rw[aa];simp only[ZAL];congr 1
  grind
theorem oyZ{s}{a}{f}{K}{r:β}{v}(h:qK P s a f K=some r)(ha:bE z a v):OkP P (Instr.field s v f) z K r:=by
 have aa:∀{o t} {cs},nC P s f=some (o,t)->(Instr.field s (.agg cs) f).run P z.w=(part t cs o).run P z.w:=λ{o t cs} ho=>by
  let⟨fs,x,h1,h2,h3,h4,h5⟩:=enZ ho
  simp[Instr.field,run_underlying h1,h2,asAgg,h4,h5]
 unfold qK at h;split at h
 .rename_i o t c ho
  let⟨fs,x,h1,h2,h3,h4,h5⟩:=enZ ho
  cases ha with|agg _ cs hs q1 q2=>
  have hc:bQ z c cs.toList:=⟨by simp[hs],λi a v p1 p2=>q2 i a v p1 (by simpa using p2)⟩;cases R:gF P t<;>rw[R] at h<;>simp[bq_false] at h
  .cases ab:fQ P t<;>rw[ab] at h<;>simp only[bq_true,bq_false] at h
   .cases h
   .let⟨a',p1,p2⟩:=agZ.1 h
    let⟨v,p3,p4⟩:=hc.get p1
    exact .mk' (by rw[aa ho];exact bgZ z.w ab (by simpa using p3)) p4 p2
  .let⟨p1,p2⟩:=aeZ.1 h
   rw[ZAm] at p1;have h0:P.cellsOf t≠0:=by rw[<-h5];exact h3
   have hd:=(hc.drop o).take (P.cellsOf t);refine .mk' (by rw[aa ho];exact btZ z.w R rfl h0) (.agg _ _ ?_ (λv hv=> ?_) (λi x v e1 e2=>hd.2 i x v e1 ?_)) p2
   .have:=hd.1;rw[this];rw[<-Array.length_toList];simp
   .have ac:=ZBJ.2 hv;rw[ZCH] at ac;exact q1 v (ZBJ.1 (ZCf (ZCG (by simpa[List.extract] using ac))))
   .have:(cs.extract o (o+P.cellsOf t)).toList[i]? =some v:=by rw[ZA6];exact e2
    rw[ZCH,ZCB,ZA5] at this;exact this
 .rename_i o t u x ho;cases R:u.isAgg<;>rw[R] at h<;>simp only[bq_true,bq_false] at h
  .cases h
  .let⟨vs,p1,p2⟩:=ha.v
   rw[R] at p2;simp at p2;subst p2;obtain⟨y,v,e1,e2,e3⟩:=uuZ h (by simpa using p1);exact .mk' (by rw[aa ho];exact e1) e2 e3
 grind
theorem cjZ{i}{n q}(h:bH i n=some q):0<=i/\i<n/\i.toNat=q:=by
 simp_all[bH]
theorem c1Z{i}{n q}(h:cT i n=some q):0<=i/\i<=n/\i.toNat=q:=by
 simp_all[cT]
theorem dDZ{es id}{K}{r:β}(h:kW H es id K=some r):∃fz e u l,bG H id=some ⟨fz,.rows e u l⟩/\es=u.cells/\K u l=some r:=by
 grind[kW,Nat.beq,bq_true,bq_false,afZ]
theorem iaZ{es id n}{v}(h:wR H es id=some n)(hH:bI z H)(ha:bE z (.slf es id) v):
 es=1/\∃g sz c,z.ρ id= .real g sz n/\v= .slice (some ⟨g,0,none⟩) n c/\n<=c/\c<=maxLen:=by
 unfold wR at h;split at h
 .rename_i fz c hg;cases hb:Nat.beq es 1<;>rw[hb] at h<;>simp only[bq_true,bq_false] at h
  .cases h
  .rw[afZ] at hb;simp at h;subst h;cases ha with
   |slfV _ _ A R=>exact absurd (hH.virt hg R) (λh=>h)
   |slf _ _ g sz n k R hn hs hm=>
    let⟨_,_,_,cs,e,fr,a1,a2,a3,⟨a4,a5⟩,_⟩:=hH.real hg R
    have e1:n=c.length:=by omega
    subst e1;exact⟨hb,g,sz,k,R,rfl,hn,hm⟩
 grind
theorem iuZ{es id}{v}{fz}{e}{u}{l}(hH:bI z H)(hg:bG H id=some ⟨fz,.rows e u l⟩)(ha:bE z (.slf es id) v):
 ∃A c,v= .slice A l.length c/\l.length<=c/\(l.length≠0->∃g sz n,z.ρ id= .real g sz n/\A=some ⟨g,0,none⟩/\c*es<=sz/\c<=maxLen)/\
  (z.ρ id= .virt\/∃g sz n,z.ρ id= .real g sz n/\A=some ⟨g,0,none⟩/\c*es<=sz/\c<=maxLen)/\c<=maxLen:=by
 cases ha with
 |slfV _ _ A R=>
  obtain⟨rfl,_⟩:=hH.virt hg R;exact⟨A,0,rfl,ZAN _,λh=>absurd rfl h,.inl R,by omega⟩
 |slf _ _ g sz n c R hn hs hm=>
  let⟨_,_,_,cs,fr,a1,a2,a3,a4,a5,a6,a7⟩:=hH.real hg R
  rw[<-a4] at hn⊢
  grind
theorem aSZ{t e}{b o n c q m:Nat}{k}{x:Int}(w)(h:P.underlying t=some (.slice e))(h0:0<=x)(h1:x<n)(h2:x.toNat=q)(hm:P.cellsOf e=m)(R:m≠0):
 (Instr.indexAt t (.slice (some ⟨b,o,none⟩) n c) (.int k x)).run P w= .ok (.pointer (some ⟨b,o+q*m,none⟩)) w:=by
 have hs:=a6Z w hm R;simp[Instr.indexAt,asIntOf,run_underlying h,h0,h1,hs,h2,Addr.add_mid]
theorem bxZ{t e}{b o n q m}{k}{x:Int}(w)(h:P.underlying t=some (.array n e))(h0:0<=x)(h1:x<n)(h2:x.toNat=q)(hm:P.cellsOf e=m)(R:m≠0):
 (Instr.indexAt t (.pointer (some ⟨b,o,none⟩)) (.int k x)).run P w= .ok (.pointer (some ⟨b,o+q*m,none⟩)) w:=by
 have hs:=a6Z w hm R;simp[Instr.indexAt,asIntOf,run_underlying h,h0,h1,hs,h2,Addr.add_mid,Instr.sureAddr]
end
end Go.Ab
