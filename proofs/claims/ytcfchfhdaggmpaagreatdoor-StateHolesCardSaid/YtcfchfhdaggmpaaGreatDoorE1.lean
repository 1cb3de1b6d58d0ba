/- An evaluator of the model's code over plain values, and its soundness; of no program. -/
import Derived.Calls
import Derived.Laws.Sem
import Derived.Deep.MidRow
import Derived.Below
set_option linter.all false
namespace Go.Ab
theorem ZAA.{u,v}:type_of% @Option.bind_some.{u,v}:=@Option.bind_some.{u,v}
theorem ZAB:type_of% @Bool.and_eq_true:=@Bool.and_eq_true
theorem ZAC.{u}:type_of% @List.getElem?_eq_some_iff.{u}:=@List.getElem?_eq_some_iff.{u}
theorem ZAD.{u}:type_of% @List.getElem?_eq_getElem.{u}:=@List.getElem?_eq_getElem.{u}
theorem ZAE.{u}:type_of% @cond_false.{u}:=@cond_false.{u}
theorem ZAF.{u,v}:type_of% @Option.bind_eq_some_iff.{u,v}:=@Option.bind_eq_some_iff.{u,v}
theorem ZAH.{u,v}:type_of% @Option.map_eq_some_iff.{u,v}:=@Option.map_eq_some_iff.{u,v}
theorem ZAI.{u}:type_of% @Option.some.injEq.{u}:=@Option.some.injEq.{u}
theorem ZAK.{u}:type_of% @cond_true.{u}:=@cond_true.{u}
theorem ZAL.{u}:type_of% @List.getElem?_append_left.{u}:=@List.getElem?_append_left.{u}
theorem ZAM:type_of% @Nat.le_refl:=@Nat.le_refl
theorem ZAN.{u}:type_of% @List.mem_of_getElem?.{u}:=@List.mem_of_getElem?.{u}
theorem ZAO.{u}:type_of% @List.getElem?_append_right.{u}:=@List.getElem?_append_right.{u}
theorem ZAQ.{u}:type_of% @if_neg.{u}:=@if_neg.{u}
theorem ZAR.{u}:type_of% @List.eq_nil_of_length_eq_zero.{u}:=@List.eq_nil_of_length_eq_zero.{u}
theorem ZAS.{u}:type_of% @List.length_take.{u}:=@List.length_take.{u}
theorem ZAT.{u}:type_of% @if_pos.{u}:=@if_pos.{u}
theorem ZAU.{u}:type_of% @List.getElem?_set_self.{u}:=@List.getElem?_set_self.{u}
theorem ZAY.{u}:type_of% @List.length_append.{u}:=@List.length_append.{u}
theorem ZAa.{u}:type_of% @List.mem_cons.{u}:=@List.mem_cons.{u}
theorem ZAc:type_of% @Bool.not_eq_true':=@Bool.not_eq_true'
theorem ZAd:type_of% @decide_eq_true_eq:=@decide_eq_true_eq
theorem ZAe.{u}:type_of% @List.getElem?_of_mem.{u}:=@List.getElem?_of_mem.{u}
theorem ZAf:type_of% @Nat.mul_le_mul_right:=@Nat.mul_le_mul_right
theorem ZAg.{u}:type_of% @List.getElem?_set_ne.{u}:=@List.getElem?_set_ne.{u}
theorem ZAh.{u}:type_of% @List.mem_append.{u}:=@List.mem_append.{u}
theorem ZAi:type_of% @Nat.ble_eq_true_of_le:=@Nat.ble_eq_true_of_le
theorem ZAj:type_of% @Nat.zero_add:=@Nat.zero_add
theorem ZAk.{u}:type_of% @Option.some.inj.{u}:=@Option.some.inj.{u}
theorem ZAm:type_of% @Nat.ble_eq:=@Nat.ble_eq
theorem ZAo:type_of% @Nat.add_mul:=@Nat.add_mul
theorem ZAp:type_of% @Bool.or_eq_true:=@Bool.or_eq_true
theorem ZAq.{u}:type_of% @List.cons.injEq.{u}:=@List.cons.injEq.{u}
theorem ZAr.{u}:type_of% @List.append_assoc.{u}:=@List.append_assoc.{u}
theorem ZAs.{u,v}:type_of% @Prod.mk.injEq.{u,v}:=@Prod.mk.injEq.{u,v}
theorem ZAt.{u}:type_of% @List.getElem?_eq_none.{u}:=@List.getElem?_eq_none.{u}
theorem ZAu.{u}:type_of% @List.take_of_length_le.{u}:=@List.take_of_length_le.{u}
theorem ZAv.{u}:type_of% @List.length_drop.{u}:=@List.length_drop.{u}
theorem ZAw.{u}:type_of% @List.getElem?_drop.{u}:=@List.getElem?_drop.{u}
theorem ZA1.{u}:type_of% @List.append_nil.{u}:=@List.append_nil.{u}
theorem ZA2.{u}:type_of% @List.length_set.{u}:=@List.length_set.{u}
theorem ZA3.{u}:type_of% @Array.length_toList.{u}:=@Array.length_toList.{u}
theorem ZA6:type_of% @decide_eq_false_iff_not:=@decide_eq_false_iff_not
theorem ZA7.{u}:type_of% @Array.getElem?_eq_getElem.{u}:=@Array.getElem?_eq_getElem.{u}
theorem ZA9.{u}:type_of% @List.drop_of_length_le.{u}:=@List.drop_of_length_le.{u}
theorem ZBA.{u}:type_of% @List.nil_append.{u}:=@List.nil_append.{u}
theorem ZBC:type_of% @Nat.le_of_ble_eq_true:=@Nat.le_of_ble_eq_true
theorem ZBG.{u}:type_of% @List.take_append_of_le_length.{u}:=@List.take_append_of_le_length.{u}
theorem ZBI:type_of% @Nat.le_trans:=@Nat.le_trans
theorem ZBK:type_of% @Nat.not_le:=@Nat.not_le
theorem ZBM.{u}:type_of% @List.flatten_cons.{u}:=@List.flatten_cons.{u}
theorem ZBN.{u}:type_of% @List.getElem?_take_of_lt.{u}:=@List.getElem?_take_of_lt.{u}
theorem ZBS:type_of% @Nat.zero_le:=@Nat.zero_le
theorem ZBT.{u}:type_of% @List.drop_append_of_le_length.{u}:=@List.drop_append_of_le_length.{u}
theorem ZBW:type_of% @Nat.blt_eq:=@Nat.blt_eq
theorem ZBY:type_of% @Nat.succ_mul:=@Nat.succ_mul
theorem ZBa:type_of% @Nat.zero_mul:=@Nat.zero_mul
theorem ZBd.{u}:type_of% @Ne.symm.{u}:=@Ne.symm.{u}
theorem ZBf.{u}:type_of% @beq_iff_eq.{u}:=@beq_iff_eq.{u}
theorem ZBi:type_of% @and_true:=@and_true
theorem ZBj:type_of% @Nat.eq_zero_or_pos:=@Nat.eq_zero_or_pos
theorem ZBm.{u}:type_of% @List.length_cons.{u}:=@List.length_cons.{u}
theorem ZBn:type_of% @Nat.le_add_right:=@Nat.le_add_right
theorem ZBo.{u}:type_of% @List.getElem_mem.{u}:=@List.getElem_mem.{u}
theorem ZBq:type_of% @Nat.add_assoc:=@Nat.add_assoc
theorem ZBr.{u}:type_of% @List.drop_zero.{u}:=@List.drop_zero.{u}
theorem ZBt.{u}:type_of% @Array.eq_empty_of_size_eq_zero.{u}:=@Array.eq_empty_of_size_eq_zero.{u}
theorem ZBu.{u}:type_of% @List.take_append_drop.{u}:=@List.take_append_drop.{u}
theorem ZBv.{u}:type_of% @Array.getElem?_modify.{u}:=@Array.getElem?_modify.{u}
theorem ZBw:type_of% @Bool.and_eq_false_iff:=@Bool.and_eq_false_iff
theorem ZB0.{u}:type_of% @List.getElem?_cons_succ.{u}:=@List.getElem?_cons_succ.{u}
theorem ZB2:type_of% @Nat.lt_or_ge:=@Nat.lt_or_ge
theorem ZB3:type_of% @Nat.add_zero:=@Nat.add_zero
theorem ZB5:type_of% @Nat.eq_of_beq_eq_true:=@Nat.eq_of_beq_eq_true
theorem ZCA.{u}:type_of% @List.mem_of_mem_take.{u}:=@List.mem_of_mem_take.{u}
theorem ZCF:type_of% @Nat.mod_lt:=@Nat.mod_lt
end Go.Ab
namespace Go.Ab
def hg1:Unit:=()
def hg2:Unit:=hg1
def hg3:Unit:=hg2
def hg4:Unit:=hg3
def hg5:Unit:=hg4
def _root_.Option.ob{α β:Type}(x:Option α)(f:α->Option β):Option β:=(fun(_:Unit)=>match x with|some a=>f a|none=>none) hg5
def bq{α:Type}(b:Bool)(x y:α):α:=(fun(_:Unit)=>match b with|true=>x|false=>y) hg5
inductive Ty where
 |int (k:IntKind)|byte|bool|str|opq|nat
 |sl (t:Ty)|one (t:Ty)|pair (a b:Ty)|arr (n:Nat) (t:Ty)
 |ref (f:Nat) (t:Ty)
 |ptr (t:Ty)
 deriving DecidableEq
@[reducible] def Ty.den:Ty->Type
  |.int _=>Int
  |.byte=>UInt8
  |.bool=>Bool
  |.str=>List UInt8
  |.opq=>Value
  |.nat=>Nat
  |.sl t=>List t.den
  |.one t=>t.den
  |.pair a b=>a.den×b.den
  |.arr _ t=>List t.den
  |.ref _ t=>List t.den⊕Option (Nat×(Nat×Nat))
  |.ptr t=>List t.den
def Ty.cells:Ty->Nat
 |.one t=>t.cells
 |.pair a b=>a.cells+b.cells
 |.arr n t=>n*t.cells
 |_=>1
def Ty.unref:Ty->Ty
 |.ref _ t=>.sl t
 |.one t=>.one t.unref
 |.pair a b=>.pair a.unref b.unref
 |.int k=>.int k
 |.byte=>.byte
 |.bool=>.bool
 |.str=>.str
 |.opq=>.opq
 |.nat=>.nat
 |.sl t=>.sl t
 |.arr n t=>.arr n t
 |.ptr t=>.ptr t
def liftT:(t:Ty)->t.unref.den->t.den
 |.ref _ _,l=>.inl l
 |.one t,x=>liftT t x
 |.pair a b,x=>(liftT a x.1,liftT b x.2)
 |.int _,x=>x
 |.byte,x=>x
 |.bool,x=>x
 |.str,x=>x
 |.opq,x=>x
 |.nat,x=>x
 |.sl _,x=>x
 |.arr _ _,x=>x
 |.ptr _,x=>x
def memN(n:Nat):List Nat->Bool
 |[]=>false
 |i::r=>bif Nat.beq i n then true else memN n r
def Ty.famIn(fs:List Nat):Ty->Bool
 |.ref f t=>memN (f%16) fs&&t.famIn fs
 |.sl t=>t.famIn fs
 |.one t=>t.famIn fs
 |.pair a b=>a.famIn fs&&b.famIn fs
 |.arr _ t=>t.famIn fs
 |.ptr t=>t.famIn fs
 |_=>true
def Ty.isAgg:Ty->Bool
 |.one _|.pair _ _|.arr _ _=>true
 |_=>false
def Ty.noRef:Ty->Bool
 |.ref _ _=>false
 |.sl t=>t.noRef
 |.one t=>t.noRef
 |.pair a b=>a.noRef&&b.noRef
 |.arr _ t=>t.noRef
 |.ptr t=>t.noRef
 |_=>true
def Ty.zero:(t:Ty)->t.den
 |.int _=>(0:Int)
 |.byte=>(0:UInt8)
 |.bool=>false
 |.str=>([]:List UInt8)
 |.opq=>.nilFunc
 |.nat=>(0:Nat)
 |.sl t=>([]:List t.den)
 |.one t=>t.zero
 |.pair a b=>(a.zero,b.zero)
 |.arr n t=>List.replicate n t.zero
 |.ref _ _=>.inr none
 |.ptr t=>([]:List t.den)
def listEqb{α:Type}(f:α->α->Bool):List α->List α->Bool
 |[],[]=>true
 |a::l,b::r=>f a b&&listEqb f l r
 |_,_=>false
def Ty.eqb:(t:Ty)->t.den->t.den->Bool
 |.int _,(a:Int),(b:Int)=>a==b
 |.byte,(a:UInt8),(b:UInt8)=>a==b
 |.bool,(a:Bool),(b:Bool)=>a==b
 |.str,(a:List UInt8),(b:List UInt8)=>a==b
 |.one t,a,b=>t.eqb a b
 |.pair s t,a,b=>s.eqb a.1 b.1&&t.eqb a.2 b.2
 |.arr _ t,a,b=>listEqb t.eqb a b
 |_,_,_=>false
def Ty.keyed:Ty->Bool
 |.int _|.byte|.bool|.str=>true
 |.one t=>t.keyed
 |.pair s t=>s.keyed&&t.keyed
 |.arr _ t=>t.keyed
 |_=>false
def Ty.to{t u:Ty}(h:t=u)(x:t.den):u.den:=h▸x
def Ty.toL{t u:Ty}(h:t=u)(l:List t.den):List u.den:=h▸l
abbrev GMap(k v:Ty):Type:=List ((k.den×v.den)×Nat)×Nat
abbrev mapTy(k v:Ty):Ty:=.pair (.sl (.pair (.pair k v) .nat)) .nat
section
variable {k v : Ty}
def mfind:List ((k.den×v.den)×Nat)->k.den->Option (v.den×Nat)
 |[],_=>none
 |((a,b),n)::r,x=>bif k.eqb x a then some (b,n) else mfind r x
def mget(m:GMap k v)(x:k.den):Option v.den:=(mfind m.1 x).map (·.1)
def mset:List ((k.den×v.den)×Nat)->k.den->v.den->List ((k.den×v.den)×Nat)
 |[],_,_=>[]
 |((a,b),n)::r,x,y=>bif k.eqb x a then((x,y),n)::r else((a,b),n)::mset r x y
def mput(m:GMap k v)(x:k.den)(y:v.den):GMap k v:=
 match mfind m.1 x with
 |some _=>(mset m.1 x y,m.2)
 |none=>(m.1++[((x,y),m.2)],m.2+1)
def mdelL:List ((k.den×v.den)×Nat)->k.den->List ((k.den×v.den)×Nat)
 |[],_=>[]
 |((a,b),n)::r,x=>bif k.eqb x a then r else((a,b),n)::mdelL r x
def mdel(m:GMap k v)(x:k.den):GMap k v:=(mdelL m.1 x,m.2)
def mborn(m:GMap k v)(x:k.den):Nat:=
 match mfind m.1 x with
 |some e=>e.2
 |none=>m.2
def ment(m:GMap k v)(x:k.den):GMap k v:=
 match mfind m.1 x with
 |some e=>(mset m.1 x e.1,m.2)
 |none=>(m.1++[((x,v.zero),m.2)],m.2+1)
def msetN:List ((k.den×v.den)×Nat)->Int->v.den->Option (List ((k.den×v.den)×Nat))
 |[],_,_=>none
 |((a,b),n)::r,i,y=>bif (n:Int)==i then some (((a,y),n)::r) else(msetN r i y).map (((a,b),n)::·)
def mstore(m:GMap k v)(i:Int)(y:v.den):Option (GMap k v):=(msetN m.1 i y).map fun l=>(l,m.2)
end
def dq{β:Type}(t u:Ty)(K:t=u->Option β)(E:Option β):Option β:=(fun(_:Unit)=>match(inferInstance:Decidable (t=u)) with|.isTrue h=>K h|.isFalse _=>E) hg5
def HL:List Ty->Type
 |[]=>Unit
 |t::r=>t.den×HL r
@[reducible] def TD:List Ty->Type
  |[]=>Unit
  |[t]=>t.den
  |t::u::r=>t.den×TD (u::r)
def tidy:(ts:List Ty)->HL ts->TD ts
 |[],_=>()
 |[_],x=>x.1
 |_::u::r,x=>(x.1,tidy (u::r) x.2)
def untidy:(ts:List Ty)->TD ts->HL ts
 |[],_=>()
 |[_],x=>(x,())
 |_::u::r,x=>(x.1,untidy (u::r) x.2)
inductive AV where
 |p (t:Ty) (x:t.den)
 |pt (t:Ty) (l:List t.den) (i j:Nat)
 |own (es id i j:Nat)
 |rp (f es k i j:Nat)
 |sl (es id off n:Nat)
 |slf (es id:Nat)
 |mp (id:Nat)
 |fn (f:FuncId) (first caps:List AV)
 |agg (l:List AV)
 |tup (l:List AV)
 |junk
instance:Inhabited AV:=⟨.junk⟩
inductive Blk where
 |vars (c:List AV)
 |rows (e:TypeId) (t:Ty) (l:List t.den)
 |map (kt vt:Ty) (m:GMap kt vt)
 |fmap (kt:Ty) (l:List (kt.den×AV))
 |fam (e:TypeId) (s:Ty) (ms:List (Nat×List s.den))
structure Ent where
 fz:Bool
 b:Blk
abbrev Hp:=List (Nat×Option Ent)
abbrev AV.i(k:IntKind)(n:Int):AV:=.p (.int k) n
abbrev AV.b(t:Bool):AV:=.p .bool t
abbrev AV.s(l:List UInt8):AV:=.p .str l
def AV.ofTy:(t:Ty)->t.den->AV
 |.byte,c=>.p (.int .u8) (c.toNat:Int)
 |t,x=>.p t x
def nilSl:(t:Ty)->t.den->(u:Ty)->Option u.den
 |.opq,.slice none 0 0,.sl s=>some ([]:List s.den)
 |.opq,.slice none 0 0,.ref _ _=>some (.inr none)
 |.opq,.pointer none,.ptr s=>some ([]:List s.den)
 |.sl s,l,.ref _ s'=>if h:s=s' then some (.inl (Ty.toL h l)) else none
 |_,_,_=>none
def fnOpq(f:FuncId):(u:Ty)->Option u.den
 |.opq=>some (.func (.func f) #[] #[])
 |_=>none
def AV.get?(u:Ty):AV->Option u.den
 |.p t x=>if h:t=u then some (h▸x) else nilSl t x u
 |.fn f [] []=>fnOpq f u
 |_=>none
def AV.int?(k:IntKind)(a:AV):Option Int:=a.get? (.int k)
def AV.bool?(a:AV):Option Bool:=a.get? .bool
def AV.str?(a:AV):Option (List UInt8):=a.get? .str
def anyI:(t:Ty)->t.den->Option Int
 |.int _,n=>some n
 |_,_=>none
def AV.any? :AV->Option Int
 |.p t x=>anyI t x
 |_=>none
def AV.tup? :AV->Option (List AV)
 |.tup l=>some l
 |_=>none
def byte?(n:Int):Option UInt8:=if 0<=n/\n<256 then some (UInt8.ofNat n.toNat) else none
def idx?(i:Int)(n:Nat):Option Nat:=if 0<=i/\i<n then some i.toNat else none
def upto?(i:Int)(n:Nat):Option Nat:=if 0<=i/\i<=n then some i.toNat else none
def ptr?{α:Type}(l:List α)(i:Nat):Option (List α):=if i<l.length then some (l.drop i) else none
def need{β:Type}(b:Bool)(K:Option β):Option β:=(fun(_:Unit)=>match b with|true=>K|false=>none) hg3
def hget:Hp->Nat->Option Ent
 |[],_=>none
 |(i,e)::r,id=>bif Nat.beq i id then e else hget r id
def hkey:Hp->Nat->Bool
 |[],_=>false
 |(i,_)::r,id=>bif Nat.beq i id then true else hkey r id
def hset:Hp->Nat->Option Ent->Hp
 |[],id,e=>[(id,e)]
 |(i,x)::r,id,e=>bif Nat.beq i id then(i,e)::r else(i,x)::hset r id e
section
variable {β : Type}
def split:(t:Ty)->t.den->List AV
 |.one t,x=>split t x
 |.pair a b,x=>split a x.1++split b x.2
 |.arr _ _,_=>[]
 |t,x=>[.ofTy t x]
def aggA:AV->Bool
 |.p t _=>t.isAgg
 |.agg _=>true
 |_=>false
def cellsA:AV->Option (List AV)
 |.p t x=>bif Nat.beq (split t x).length t.cells then some (split t x) else none
 |.agg l=>some l
 |.tup _=>none
 |.junk=>none
 |a=>some [a]
def asmN{δ:Type}(f:List AV->(δ->Option β)->Option β)(c:Nat):Nat->List AV->(List δ->Option β)->Option β
 |0,_,K=>K []
 |n+1,cs,K=>f (cs.take c) fun x=>asmN f c n (cs.drop c) fun l=>K (x::l)
def asm:(t:Ty)->List AV->(t.den->Option β)->Option β
 |.byte,cs,K=>((cs.headD .junk).int? .u8).ob fun n=>(byte? n).bind K
 |.one t,cs,K=>asm t cs K
 |.pair a b,cs,K=>asm a (cs.take a.cells) fun x=>asm b (cs.drop a.cells) fun y=>K (x,y)
 |.arr n t,cs,K=>asmN (asm t) t.cells n cs K
 |.ptr t,cs,K=>match cs.headD .junk with
  |.pt u l i 0=>dq u t (fun h=>(ptr? (Ty.toL h l) i).bind K) none
  |a=>(a.get? (.ptr t)).ob K
 |u,cs,K=>((cs.headD .junk).get? u).ob K
def asC(u:Ty)(a:AV)(K:u.den->Option β):Option β:=
 (cellsA a).ob fun cs=>need (Nat.beq cs.length u.cells&&(aggA a==u.isAgg))<|asm u cs K
def asA(u:Ty)(a:AV)(K:u.den->Option β):Option β:=
 match a with
 |.p t x=>dq t u (fun h=>K (Ty.to h x)) (asC u (.p t x) K)
 |a=>asC u a K
def sub:(t:Ty)->t.den->Nat->(u:Ty)->(u.den->Option β)->Option β
 |.one t,x,o,u,K=>dq (.one t) u (fun h=>bq (Nat.beq o 0) (K (Ty.to h x)) none) (sub t x o u K)
 |.pair a b,x,o,u,K=>dq (.pair a b) u (fun h=>bq (Nat.beq o 0) (K (Ty.to h x)) none)
  (bq (Nat.blt o a.cells) (sub a x.1 o u K) (sub b x.2 (o-a.cells) u K))
 |t,x,o,u,K=>dq t u (fun h=>bq (Nat.beq o 0) (K (Ty.to h x)) none) none
def upd:(t:Ty)->t.den->Nat->(u:Ty)->u.den->(t.den->Option β)->Option β
 |.one t,x,o,u,y,K=>dq u (.one t) (fun h=>bq (Nat.beq o 0) (K (Ty.to h y)) none) (upd t x o u y K)
 |.pair a b,x,o,u,y,K=>dq u (.pair a b) (fun h=>bq (Nat.beq o 0) (K (Ty.to h y)) none)
  (bq (Nat.blt o a.cells) (upd a x.1 o u y fun z=>K (z,x.2)) (upd b x.2 (o-a.cells) u y fun z=>K (x.1,z)))
 |t,_,o,u,y,K=>dq u t (fun h=>bq (Nat.beq o 0) (K (Ty.to h y)) none) none
end
mutual
def AV.ren(f:Nat->Option Nat):AV->AV
 |.p t x=>.p t x
 |.pt t l i j=>.pt t l i j
 |.own es id i j=>match f id with|some k=>.own es k i j|none=>.junk
 |.rp g es k i j=>.rp g es k i j
 |.sl es id off n=>match f id with|some k=>.sl es k off n|none=>.junk
 |.slf es id=>match f id with|some k=>.slf es k|none=>.junk
 |.mp id=>match f id with|some k=>.mp k|none=>.junk
 |.fn g a c=>.fn g (AV.renL f a) (AV.renL f c)
 |.agg l=>.agg (AV.renL f l)
 |.tup l=>.tup (AV.renL f l)
 |.junk=>.junk
def AV.renL(f:Nat->Option Nat):List AV->List AV
 |[]=>[]
 |a::l=>AV.ren f a::AV.renL f l
end
def Blk.ren(f:Nat->Option Nat):Blk->Blk
 |.vars c=>.vars (AV.renL f c)
 |.rows e t l=>.rows e t l
 |.map k v m=>.map k v m
 |.fmap k l=>.fmap k (l.map fun x=>(x.1,AV.ren f x.2))
 |.fam e s ms=>.fam e s ms
def Ent.ren(f:Nat->Option Nat)(e:Ent):Ent:=⟨e.fz,e.b.ren f⟩
mutual
def AV.ids:AV->List Nat
 |.own _ id _ _=>[id]
 |.sl _ id _ _=>[id]
 |.slf _ id=>[id]
 |.mp id=>[id]
 |.fn _ a c=>AV.idsL a++AV.idsL c
 |.agg l=>AV.idsL l
 |.tup l=>AV.idsL l
 |_=>[]
def AV.idsL:List AV->List Nat
 |[]=>[]
 |a::l=>AV.ids a++AV.idsL l
end
def Ent.ids(e:Ent):List Nat:=
 match e.b with
 |.vars c=>AV.idsL c
 |.fmap _ l=>l.flatMap fun x=>AV.ids x.2
 |_=>[]
def reach(H:Hp):Nat->List Nat->List Nat->List Nat
 |0,_,acc=>acc
 |_+1,[],acc=>acc
 |n+1,id::todo,acc=>
  bif memN id acc then reach H n todo acc else
  match hget H id with
  |none=>reach H n todo acc
  |some e=>reach H n (e.ids++todo) (acc++[id])
def reachFuel:Nat:=1000
def nodupN:List Nat->Bool
 |[]=>true
 |i::r=> !memN i r&&nodupN r
def noOf:List (Nat×Nat)->Nat->Option Nat
 |[],_=>none
 |(i,k)::r,id=>bif Nat.beq i id then some k else noOf r id
def renH(H:Hp)(f:Nat->Option Nat):List (Nat×Nat)->Hp
 |[]=>[]
 |(id,k)::r=>match hget H id with
  |some e=>(k,some (e.ren f))::renH H f r
  |none=>renH H f r
def liveAll(H:Hp):List Nat->Bool
 |[]=>true
 |i::r=>(match hget H i with|some _=>true|none=>false)&&liveAll H r
def allIn:List Nat->List Nat->Bool
 |[],_=>true
 |i::r,l=>memN i l&&allIn r l
def eqN:List Nat->List Nat->Bool
 |[],[]=>true
 |i::r,k::l=>Nat.beq i k&&eqN r l
 |_,_=>false
def dynBase:Nat:=1000000
def enc(f k:Nat):Nat:=dynBase+(16*k+f%16)
def famBase:Nat:=999984
def famId(f:Nat):Nat:=famBase+f%16
def statK:List Nat->List Nat
 |[]=>[]
 |i::r=>bif Nat.ble famBase i then statK r else i::statK r
def famK:List Nat->List Nat
 |[]=>[]
 |i::r=>bif Nat.ble famBase i then i::famK r else famK r
def diagN:List Nat->List (Nat×Nat)
 |[]=>[]
 |i::r=>(i,i)::diagN r
def famNs:List Nat->List Nat
 |[]=>[]
 |i::r=>bif Nat.ble famBase i then(i-famBase)::famNs r else famNs r
def shKeys:Nat->List Nat->List Nat
 |_,[]=>[]
 |n,i::r=>bif Nat.ble famBase i then i::shKeys n r else n::shKeys (n+1) r
def famFix:List (Nat×Nat)->Bool
 |[]=>true
 |(i,k)::r=>(Nat.beq i k||(Nat.blt i famBase&&Nat.blt k famBase))&&famFix r
def hkeys:Hp->List Nat
 |[]=>[]
 |(k,_)::r=>k::hkeys r
def statN:List Nat->Bool
 |[]=>true
 |i::r=>Nat.blt i dynBase&&statN r
def rangeN:Nat->Nat->List Nat
 |_,0=>[]
 |k,n+1=>k::rangeN (k+1) n
def fixN(n:Nat):List (Nat×Nat)->Bool
 |[]=>true
 |(i,k)::r=>(Nat.beq i k||(Nat.ble n i&&Nat.ble n k))&&fixN n r
def fillN(H:Hp):Nat->Hp
 |0=>H
 |n+1=>bif hkey H n||Nat.ble famBase n then fillN H n else(n,none)::fillN H n
def zipN:List Nat->List Nat->List (Nat×Nat)
 |i::r,k::ks=>(i,k)::zipN r ks
 |_,_=>[]
def fstN:List (Nat×Nat)->List Nat
 |[]=>[]
 |(i,_)::r=>i::fstN r
def sndN:List (Nat×Nat)->List Nat
 |[]=>[]
 |(_,k)::r=>k::sndN r
inductive Tr where
 |lf
 |nd (l:Tr) (v:AV) (r:Tr)
def Tr.get:Tr->Nat->AV
 |.lf,_=>.junk
 |.nd l v r,n=>bif Nat.beq n 0 then v else bif Nat.beq (n%2) 1 then l.get (n/2) else r.get (n/2-1)
def Tr.put:Tr->Nat->AV->Tr
 |.lf,_,_=>.lf
 |.nd l v r,n,a=>bif Nat.beq n 0 then .nd l a r else bif Nat.beq (n%2) 1 then .nd (l.put (n/2) a) v r else .nd l v (r.put (n/2-1) a)
def Tr.full:Nat->Tr
 |0=>.lf
 |d+1=>.nd (Tr.full d) .junk (Tr.full d)
structure St where
 tm:Tr
 nt:Nat
 n0:Nat
 hp:Hp
def AV.lit:Value->AV
 |.int k n=>.p (.int k) n
 |.bool b=>.p .bool b
 |.string s=>.p .str s.data.toList
 |.agg _=>.junk
 |.tuple _=>.junk
 |v=>.p .opq v
def oneCells:List Value->Bool
 |[]=>true
 |.agg _::_=>false
 |.tuple _::_=>false
 |_::r=>oneCells r
def St.opnd(st:St):Operand->AV
 |.tmp t=>bq (Nat.blt t 1048576) (st.tm.get t) .junk
 |.const (.agg cs)=>bq (oneCells cs.toList) (.agg (cs.toList.map AV.lit)) .junk
 |.const v=>.lit v
 |.global g=>st.tm.get (1048576+g)
 |.func f=>.fn f [] []
def St.putO(st:St)(d:Option Nat)(a:AV):St:=
 match d with
 |some d=>{st with tm:=st.tm.put d a}
 |none=>st
def dstOk(nt:Nat):Option Nat->Bool
 |some d=>Nat.blt d nt&&Nat.blt d 1048576
 |none=>true
mutual
inductive Kd where
 |p (t:Ty)
 |pt (t:Ty)
 |own (es id i j:Nat)
 |ownx (es id j:Nat)
 |sl (es id:Nat)
 |slf (es id:Nat)
 |mp (id:Nat)
 |any
 |fn (f:FuncId) (a c:KdL)
 |agg (l:KdL)
 |tup (l:KdL)
 |nilp (v:Value)
inductive KdL where
 |nil
 |cons (k:Kd) (r:KdL)
end
inductive BKd where
 |vars (l:KdL)
 |rows (e:TypeId) (t:Ty)
 |map (kt vt:Ty)
 |fam (e:TypeId) (s:Ty)
abbrev HK:=List (Nat×Bool×BKd)
structure Shp where
 ks:KdL
 hs:HK
mutual
def Kd.lv:Kd->List Ty->List Ty
 |.p t,r=>t::r
 |.pt t,r=>.sl t::r
 |.ownx _ _ _,r=>.nat::r
 |.sl _ _,r=>.nat::.nat::r
 |.fn _ a c,r=>KdL.lv a (KdL.lv c r)
 |.agg l,r=>KdL.lv l r
 |.tup l,r=>KdL.lv l r
 |_,r=>r
def KdL.lv:KdL->List Ty->List Ty
 |.nil,r=>r
 |.cons k l,r=>Kd.lv k (KdL.lv l r)
end
def BKd.lv:BKd->List Ty->List Ty
 |.vars l,r=>l.lv r
 |.rows _ t,r=>.sl t::r
 |.map k v,r=>mapTy k v::r
 |.fam _ s,r=>.sl (.pair .nat (.sl s))::r
def hkLv:HK->List Ty->List Ty
 |[],r=>r
 |(_,_,k)::l,r=>k.lv (hkLv l r)
def Shp.tys(s:Shp):List Ty:=s.ks.lv (hkLv s.hs [])
@[reducible] def Shp.D(s:Shp):Type:=TD s.tys
mutual
def Kd.ids:Kd->List Nat
 |.own _ id _ _=>[id]
 |.ownx _ id _=>[id]
 |.sl _ id=>[id]
 |.slf _ id=>[id]
 |.mp id=>[id]
 |.fn _ a c=>KdL.ids a++KdL.ids c
 |.agg l=>KdL.ids l
 |.tup l=>KdL.ids l
 |_=>[]
def KdL.ids:KdL->List Nat
 |.nil=>[]
 |.cons k l=>Kd.ids k++KdL.ids l
end
def BKd.ids:BKd->List Nat
 |.vars l=>l.ids
 |_=>[]
def hkIds:HK->List Nat
 |[]=>[]
 |(_,_,k)::r=>k.ids++hkIds r
def hkKeys:HK->List Nat
 |[]=>[]
 |(id,_,_)::r=>id::hkKeys r
def KdL.length:KdL->Nat
 |.nil=>0
 |.cons _ r=>r.length+1
mutual
def emb:(k:Kd)->(r:List Ty)->HL (k.lv r)->AV×HL r
 |.p t,_,x=>(.p t x.1,x.2)
 |.pt t,_,x=>(.pt t x.1 0 0,x.2)
 |.own es id i j,_,x=>(.own es id i j,x)
 |.ownx es id j,_,x=>(.own es id x.1 j,x.2)
 |.sl es id,_,x=>(.sl es id x.1 x.2.1,x.2.2)
 |.slf es id,_,x=>(.slf es id,x)
 |.mp id,_,x=>(.mp id,x)
 |.any,_,x=>(.junk,x)
 |.fn f a c,r,x=>let y:=embL a (c.lv r) x;let z:=embL c r y.2;(.fn f y.1 z.1,z.2)
 |.agg l,r,x=>let y:=embL l r x;(.agg y.1,y.2)
 |.tup l,r,x=>let y:=embL l r x;(.tup y.1,y.2)
 |.nilp v,_,x=>(.p .opq v,x)
def embL:(k:KdL)->(r:List Ty)->HL (k.lv r)->List AV×HL r
 |.nil,_,x=>([],x)
 |.cons k l,r,x=>let y:=emb k (l.lv r) x;let z:=embL l r y.2;(y.1::z.1,z.2)
end
def embB:(k:BKd)->(r:List Ty)->HL (k.lv r)->Blk×HL r
 |.vars l,r,x=>let y:=embL l r x;(.vars y.1,y.2)
 |.rows e t,_,x=>(.rows e t x.1,x.2)
 |.map k v,_,x=>(.map k v x.1,x.2)
 |.fam e s,_,x=>(.fam e s x.1,x.2)
def embH:(h:HK)->(r:List Ty)->HL (hkLv h r)->Hp×HL r
 |[],_,x=>([],x)
 |(id,fz,k)::l,r,x=>let y:=embB k (hkLv l r) x;let z:=embH l r y.2;((id,some ⟨fz,y.1⟩)::z.1,z.2)
def Shp.emb(s:Shp)(t:s.D):List AV×Hp:=
 let y:=embL s.ks (hkLv s.hs []) (untidy s.tys t)
 (y.1,(embH s.hs [] y.2).1)
section
variable {γ : Type}
mutual
def embK:(k:Kd)->(r:List Ty)->HL (k.lv r)->(AV->HL r->γ)->γ
 |.p t,_,x,K=>K (.p t x.1) x.2
 |.pt t,_,x,K=>K (.pt t x.1 0 0) x.2
 |.own es id i j,_,x,K=>K (.own es id i j) x
 |.ownx es id j,_,x,K=>K (.own es id x.1 j) x.2
 |.sl es id,_,x,K=>K (.sl es id x.1 x.2.1) x.2.2
 |.slf es id,_,x,K=>K (.slf es id) x
 |.mp id,_,x,K=>K (.mp id) x
 |.any,_,x,K=>K .junk x
 |.fn f a c,r,x,K=>embKL a (c.lv r) x fun va x1=>embKL c r x1 fun vc x2=>K (.fn f va vc) x2
 |.agg l,r,x,K=>embKL l r x fun v x1=>K (.agg v) x1
 |.tup l,r,x,K=>embKL l r x fun v x1=>K (.tup v) x1
 |.nilp v,_,x,K=>K (.p .opq v) x
def embKL:(k:KdL)->(r:List Ty)->HL (k.lv r)->(List AV->HL r->γ)->γ
 |.nil,_,x,K=>K [] x
 |.cons k l,r,x,K=>embK k (l.lv r) x fun v x1=>embKL l r x1 fun vs x2=>K (v::vs) x2
end
def embKB:(k:BKd)->(r:List Ty)->HL (k.lv r)->(Blk->HL r->γ)->γ
 |.vars l,r,x,K=>embKL l r x fun v x1=>K (.vars v) x1
 |.rows e t,_,x,K=>K (.rows e t x.1) x.2
 |.map k v,_,x,K=>K (.map k v x.1) x.2
 |.fam e s,_,x,K=>K (.fam e s x.1) x.2
def embKH:(h:HK)->(r:List Ty)->HL (hkLv h r)->(Hp->HL r->γ)->γ
 |[],_,x,K=>K [] x
 |(id,fz,k)::l,r,x,K=>embKB k (hkLv l r) x fun b x1=>embKH l r x1 fun H x2=>K ((id,some ⟨fz,b⟩)::H) x2
def Shp.embC(s:Shp)(t:s.D)(K:List AV->Hp->γ):γ:=embKL s.ks (hkLv s.hs []) (untidy s.tys t) fun vs x1=>embKH s.hs [] x1 fun H _=>K vs H
mutual
theorem qGZ:(k:Kd)->(r:List Ty)->(x:HL (k.lv r))->(K:AV->HL r->γ)->embK k r x K=K (emb k r x).1 (emb k r x).2
 |.p _,_,_,_|.pt _,_,_,_|.own _ _ _ _,_,_,_|.ownx _ _ _,_,_,_|.sl _ _,_,_,_|.slf _ _,_,_,_|.mp _,_,_,_|.any,_,_,_|.nilp _,_,_,_=>rfl
 |.fn f a c,r,x,K=>by
  simp only[embK,emb];rw[ctZ a (c.lv r) x,ctZ c r]
 |.agg l,r,x,K=>by
  simp only[embK,emb];rw[ctZ l r x]
 |.tup l,r,x,K=>by
  simp only[embK,emb];rw[ctZ l r x]
theorem ctZ:(k:KdL)->(r:List Ty)->(x:HL (k.lv r))->(K:List AV->HL r->γ)->embKL k r x K=K (embL k r x).1 (embL k r x).2
 |.nil,_,_,_=>rfl
 |.cons k l,r,x,K=>by
  simp only[embKL,embL];rw[qGZ k (l.lv r) x,ctZ l r]
end
theorem oYZ(k:BKd)(r:List Ty)(x:HL (k.lv r))(K:Blk->HL r->γ):embKB k r x K=K (embB k r x).1 (embB k r x).2:=by
 cases k with
 |vars l=>exact ctZ l r x _
 |rows e t=>rfl
 |map k v=>rfl
 |fam e s=>rfl
theorem k2Z:(h:HK)->(r:List Ty)->(x:HL (hkLv h r))->(K:Hp->HL r->γ)->embKH h r x K=K (embH h r x).1 (embH h r x).2
 |[],_,_,_=>rfl
 |(id,fz,k)::l,r,x,K=>by
  simp only[embKH,embH];rw[oYZ k (hkLv l r) x,k2Z l r]
theorem Shp.embC_eq(s:Shp)(t:s.D)(K:List AV->Hp->γ):s.embC t K=K (s.emb t).1 (s.emb t).2:=by
 exact(ctZ s.ks (hkLv s.hs []) (untidy s.tys t) fun vs x1=>embKH s.hs [] x1 fun H _=>K vs H).trans (k2Z s.hs [] _ _)
end
@[reducible] def OutS:List Shp->Type
  |[]=>Empty
  |[s]=>s.D
  |s::t::r=>s.D⊕OutS (t::r)
def OutS.on{γ:Type}:(l:List Shp)->OutS l->((s:Shp)->s.D->γ)->γ
 |[],x,_=>Empty.elim x
 |[s],x,K=>K s x
 |s::t::r,x,K=>match x with
  |.inl y=>K s y
  |.inr y=>OutS.on (t::r) y K
def AV.own?(es id i j:Nat):AV->Bool
 |.own es' id' i' j'=>Nat.beq es es'&&Nat.beq id id'&&Nat.beq i i'&&Nat.beq j j'
 |_=>false
def AV.ownx?(es id j:Nat):AV->Option Nat
 |.own es' id' i j'=>bif Nat.beq es es'&&Nat.beq id id'&&Nat.beq j j' then some i else none
 |_=>none
def AV.sl?(es id:Nat):AV->Option (Nat×Nat)
 |.sl es' id' i n=>bif Nat.beq es es'&&Nat.beq id id' then some (i,n) else none
 |_=>none
def AV.slf?(es id:Nat):AV->Bool
 |.slf es' id'=>Nat.beq es es'&&Nat.beq id id'
 |_=>false
def AV.mp?(id:Nat):AV->Bool
 |.mp id'=>Nat.beq id id'
 |_=>false
def AV.pt?(u:Ty):AV->Option (List u.den)
 |.pt t l 0 0=>if h:t=u then some (h▸l) else none
 |_=>none
def AV.fn?(f:FuncId):AV->Option (List AV×List AV)
 |.fn g a c=>bif Nat.beq f g then some (a,c) else none
 |.p .opq (.func (.func g) a c)=>bif Nat.beq f g&&(Nat.beq a.size 0&&Nat.beq c.size 0) then some ([],[]) else none
 |_=>none
def nilV? :Value->Value->Bool
 |.pointer none,.pointer none=>true
 |.map none,.map none=>true
 |.slice none 0 0,.slice none 0 0=>true
 |.nilFunc,.nilFunc=>true
 |_,_=>false
def AV.nil?(v:Value):AV->Bool
 |.p .opq x=>nilV? v x
 |_=>false
section
variable {β : Type}
mutual
def co:(k:Kd)->(r:List Ty)->AV->HL r->(HL (k.lv r)->Option β)->Option β
 |.p t,_,a,x,K=>asA t a fun y=>K (y,x)
 |.pt t,_,a,x,K=>(a.pt? t).ob fun l=>K (l,x)
 |.own es id i j,_,a,x,K=>need (a.own? es id i j)<|K x
 |.ownx es id j,_,a,x,K=>(a.ownx? es id j).ob fun y=>K (y,x)
 |.sl es id,_,a,x,K=>(a.sl? es id).ob fun y=>K (y.1,y.2,x)
 |.slf es id,_,a,x,K=>need (a.slf? es id)<|K x
 |.mp id,_,a,x,K=>need (a.mp? id)<|K x
 |.any,_,_,x,K=>K x
 |.fn f ka kc,r,a,x,K=>(a.fn? f).ob fun y=>need (Nat.beq y.1.length ka.length&&Nat.beq y.2.length kc.length)<|
  coL kc r y.2 x fun x1=>coL ka (kc.lv r) y.1 x1 K
 |.agg l,r,a,x,K=>(cellsA a).ob fun c=>need (aggA a&&Nat.beq c.length l.length)<|coL l r c x K
 |.tup l,r,a,x,K=>a.tup?.ob fun c=>need (Nat.beq c.length l.length)<|coL l r c x K
 |.nilp v,_,a,x,K=>need (a.nil? v)<|K x
def coL:(k:KdL)->(r:List Ty)->List AV->HL r->(HL (k.lv r)->Option β)->Option β
 |.nil,_,_,x,K=>K x
 |.cons k l,r,c,x,K=>coL l r c.tail x fun x1=>co k (l.lv r) (c.headD .junk) x1 K
end
def Blk.vars?(n:Nat):Blk->Option (List AV)
 |.vars c=>bif Nat.beq c.length n then some c else none
 |_=>none
def Blk.rows?(e:TypeId)(u:Ty):Blk->Option (List u.den)
 |.rows e' t l=>bif Nat.beq e e' then(if h:t=u then some (h▸l) else none) else none
 |_=>none
def Blk.map?(k v:Ty):Blk->Option (GMap k v)
 |.map k' v' m=>if h:mapTy k' v'=mapTy k v then some (Ty.to h m) else none
 |_=>none
def Blk.fam?(e:TypeId)(u:Ty):Blk->Option (List (Nat×List u.den))
 |.fam e' t l=>bif Nat.beq e e' then(if h:t=u then some (h▸l) else none) else none
 |_=>none
def coB:(k:BKd)->(r:List Ty)->Blk->HL r->(HL (k.lv r)->Option β)->Option β
 |.vars l,r,b,x,K=>(b.vars? l.length).ob fun c=>coL l r c x K
 |.rows e t,_,b,x,K=>(b.rows? e t).ob fun l=>K (l,x)
 |.map k v,_,b,x,K=>(b.map? k v).ob fun m=>K (m,x)
 |.fam e s,_,b,x,K=>(b.fam? e s).ob fun l=>K (l,x)
def hblk?(fz:Bool)(H:Hp)(id:Nat):Option Blk:=
 match hget H id with
 |some e=>bif e.fz==fz then some e.b else none
 |none=>none
def coH:(h:HK)->(r:List Ty)->Hp->HL r->(HL (hkLv h r)->Option β)->Option β
 |[],_,_,x,K=>K x
 |(id,fz,k)::l,r,H,x,K=>(hblk? fz H id).ob fun b=>coH l r H x fun x1=>coB k (hkLv l r) b x1 K
def Shp.ok(s:Shp):Bool:=nodupN (hkKeys s.hs)&&allIn (s.ks.ids++hkIds s.hs) (hkKeys s.hs)
def Shp.co(s:Shp)(vs:List AV)(H:Hp)(K:s.D->Option β):Option β:=
 need (s.ok&&Nat.beq vs.length s.ks.length)<|
 coH s.hs [] H () fun x=>coL s.ks (hkLv s.hs []) vs x fun y=>K (tidy s.tys y)
end
mutual
def Kd.fits:Kd->AV->Bool
 |.p t,a=>match a with
  |.p t' x=>decide (t'=t)||(nilSl t' x t).isSome||t'.isAgg
  |.agg _=>t.isAgg
  |.fn _ [] []=>decide (t= .opq)
  |_=>false
 |.pt _,a=>match a with
  |.pt _ _ _ _=>true
  |_=>false
 |.own es id i j,a=>a.own? es id i j
 |.ownx es id j,a=>(a.ownx? es id j).isSome
 |.sl es id,a=>(a.sl? es id).isSome
 |.slf es id,a=>a.slf? es id
 |.mp id,a=>a.mp? id
 |.any,_=>true
 |.fn f _ _,a=>(a.fn? f).isSome
 |.agg l,a=>match cellsA a with
  |some c=>Nat.beq c.length l.length&&KdL.fits l c
  |none=>false
 |.tup l,a=>match a with
  |.tup c=>Nat.beq c.length l.length&&KdL.fits l c
  |_=>false
 |.nilp v,a=>a.nil? v
def KdL.fits:KdL->List AV->Bool
 |.nil,_=>true
 |.cons k l,c=>k.fits (c.headD .junk)&&l.fits c.tail
end
def hkFits:HK->Hp->Bool
 |[],_=>true
 |(id,fz,k)::r,H=>(match hget H id with
  |some e=>e.fz==fz&&(match k,e.b with
   |.vars l,.vars c=>Nat.beq c.length l.length&&l.fits c
   |_,_=>true)
  |none=>false)&&hkFits r H
def AV.noRef:AV->Bool
 |.p _ _=>true
 |.pt _ _ _ _=>true
 |a=>(AV.ids a).isEmpty
def Tr.keep:Tr->Tr
 |.lf=>.lf
 |.nd l v r=>.nd l.keep (bif v.noRef then v else .junk) r.keep
def Tr.junk(t:Tr):List Nat->Tr
 |[]=>t
 |k::r=>(t.put k .junk).junk r
structure LShp where
 live:List Nat
 s:Shp
abbrev LShp.D(s:LShp):Type:=s.s.D
def Shp.rco{β:Type}(s:Shp)(vs:List AV)(H:Hp)(pairs:List (Nat×Nat))(K:s.D->Option β):Option β:=
 need (nodupN (fstN pairs)&&(nodupN (sndN pairs)&&(statN (sndN pairs)&&famFix pairs))&&liveAll H (fstN pairs))<|s.co (AV.renL (noOf pairs) vs) (renH H (noOf pairs) pairs) K
def OutS.rco{β:Type}(vs:List AV)(H:Hp)(pairs:List (Nat×Nat)):(l:List Shp)->(OutS l->Option β)->Option β
 |[],_=>none
 |[s],K=>s.rco vs H pairs K
 |s::t::r,K=>bq (s.ks.fits (AV.renL (noOf pairs) vs)&&hkFits s.hs (renH H (noOf pairs) pairs)) (s.rco vs H pairs fun x=>K (.inl x)) (OutS.rco vs H pairs (t::r) fun x=>K (.inr x))
def LShp.ps(sh:LShp)(H:Hp)(vs:List AV):List (Nat×Nat):=zipN (reach H reachFuel (AV.idsL vs) []) (statK (hkKeys sh.s.hs))++diagN (famK (hkKeys sh.s.hs))
def St.prj{β:Type}(st:St)(sh:LShp)(K:sh.D->Option β):Option β:=
 let vs:=sh.live.map st.tm.get
 let ps:=sh.ps st.hp vs
 need (fixN st.n0 ps&&allIn (famK (hkeys st.hp)) (famK (hkKeys sh.s.hs)))<|sh.s.rco vs st.hp ps K
def unTm:List Nat->List AV->Tr->Tr
 |k::r,a::l,t=>unTm r l (t.put k a)
 |_,_,t=>t
def LShp.inj(sh:LShp)(base:Tr)(nt n0:Nat)(t:sh.D):St:=sh.s.embC t fun vs H=>⟨unTm sh.live vs base,nt,n0,fillN H n0⟩
theorem LShp.inj_eq(sh:LShp)(base:Tr)(nt n0:Nat)(t:sh.D):sh.inj base nt n0 t=⟨unTm sh.live (sh.s.emb t).1 base,nt,n0,fillN (sh.s.emb t).2 n0⟩:=Shp.embC_eq _ _ _
def fuel:Nat:=4611686018427387904
def iter{τ ο:Type}:Nat->(τ->Option (τ⊕ο))->τ->Option ο
 |0,_,_=>none
 |n+1,f,s=>(f s).ob fun r=>match r with
  |.inl s'=>iter n f s'
  |.inr o=>some o
@[reducible] def Out(ret:Bool):List (Nat×LShp)->Type->Type
  |[],β=>bif ret then β else Empty
  |[(_,s)],β=>bif ret then s.D⊕β else s.D
  |(_,s)::o::r,β=>s.D⊕Out ret (o::r) β
def Out.ret{β:Type}:(l:List (Nat×LShp))->β->Out true l β
 |[],b=>b
 |[_],b=>.inr b
 |_::o::r,b=>.inr (Out.ret (o::r) b)
def Out.mk{β γ:Type}(st:St):(ret:Bool)->(l:List (Nat×LShp))->Nat->(Out ret l β->Option γ)->Option γ
 |_,[],_,_=>none
 |true,[(j,s)],i,K=>bq (Nat.beq j i) (st.prj s fun t=>K (.inl t)) none
 |false,[(j,s)],i,K=>bq (Nat.beq j i) (st.prj s fun t=>K t) none
 |ret,(j,s)::o::r,i,K=>bq (Nat.beq j i) (st.prj s fun t=>K (.inl t)) (Out.mk st ret (o::r) i fun x=>K (.inr x))
def Out.on{β:Type}(base:Tr)(nt n0:Nat):(ret:Bool)->(l:List (Nat×LShp))->Out ret l β->(Nat->St->Option β)->(β->Option β)->Option β
 |true,[],x,_,R=>R x
 |false,[],x,_,_=>Empty.elim x
 |true,[(j,s)],x,X,R=>match x with|.inl t=>X j (s.inj base nt n0 t)|.inr b=>R b
 |false,[(j,s)],x,X,_=>X j (s.inj base nt n0 x)
 |ret,(j,s)::o::r,x,X,R=>match x with|.inl t=>X j (s.inj base nt n0 t)|.inr y=>Out.on base nt n0 ret (o::r) y X R
end Go.Ab
namespace Go.Ab
noncomputable section
structure Ann0 where
 ids:List Nat:=[]
 sh:List Nat:=[]
 md:List Nat:=[]
 fn:Nat:=0
structure Ann where
 ids:List Nat:=[]
 sh:List Nat:=[]
 md:List Nat:=[]
 fn:Nat:=0
 more:List Ann0:=[]
def Ann.atL(H:Hp)(a:Ann):List Ann0->Ann
 |[]=>a
 |m::r=>bq (liveAll H m.sh) {ids:=m.ids,sh:=m.sh,md:=m.md,fn:=m.fn} (Ann.atL H a r)
def Ann.at(a:Ann)(H:Hp):Ann:=a.atL H a.more
section
variable (P : Program)
def typesFuel:Nat:=20
def tyFields(f:TypeId->Option Ty):List TypeId->Option Ty
 |[]=>none
 |[t]=>f t
 |t::r=>(f t).ob fun a=>(tyFields f r).map fun b=>.pair a b
def tyOf:Nat->TypeId->Option Ty
 |0,_=>none
 |n+1,t=>match P.underlying t with
  |some (.int .u8)=>some .byte
  |some (.int k)=>some (.int k)
  |some .bool=>some .bool
  |some .string=>some .str
  |some (.slice e)=>(tyOf n e).map .sl
  |some (.array k e)=>(tyOf n e).map (.arr k)
  |some (.struct fs)=>match fs.toList.map (·.type) with
   |[f]=>(tyOf n f).map .one
   |l=>tyFields (tyOf n) l
  |some (.pointer e)=>match tyOf n e with
   |some u=>some (.ptr u)
   |none=>some .opq
  |some (.map _ _)|some (.func _ _ _)=>some .opq
  |_=>none
def isAggT(t:TypeId):Bool:=match P.underlying t with|some (.struct _)|some (.array _ _)=>true|_=>false
def isScal(t:TypeId):Bool:=match P.underlying t with|some (.struct _)|some (.array _ _)=>false|some _=>true|none=>false
def ty(t:TypeId):Option Ty:=(tyOf P typesFuel t).ob fun u=>
 bq (Nat.beq u.cells (P.cellsOf t)&& !Nat.beq u.cells 0&&(bq u.isAgg (isAggT P t) (isScal P t))) (some u) none
def isB(e:TypeId):Bool:=match P.underlying e with|some (.int .u8)=>true|_=>false
def zeroOf(t:TypeId):Option (List AV):=(P.info? t).ob fun i=>i.zero.ob fun z=>bq (z.cells.toList.all Value.oneCell') (some (z.cells.toList.map AV.lit)) none
def Ty.plain:Ty->Bool
 |.opq|.nat=>false
 |.one t=>t.plain
 |.pair a b=>a.plain&&b.plain
 |.arr _ t=>t.plain
 |_=>true
def Ty.zeros:Ty->List Value
 |.int k=>[.int k 0]
 |.byte=>[.int .u8 0]
 |.bool=>[.bool false]
 |.str=>[.string ⟨#[]⟩]
 |.sl _=>[.slice none 0 0]
 |.ref _ _=>[.slice none 0 0]
 |.ptr _=>[.pointer none]
 |.one t=>t.zeros
 |.pair a b=>a.zeros++b.zeros
 |.arr n t=>(List.replicate n t.zeros).flatten
 |_=>[]
def zcellOk:Value->Value->Bool
 |.int k n,.int k' n'=>k==k'&&n==n'
 |.bool a,.bool b=>a==b
 |.string a,.string b=>a.data.size==b.data.size&&a.data.size==0
 |.slice none 0 0,.slice none 0 0=>true
 |.pointer none,.pointer none=>true
 |_,_=>false
def zlistOk:List Value->List Value->Bool
 |[],[]=>true
 |a::l,b::r=>zcellOk a b&&zlistOk l r
 |_,_=>false
def zeroOk(e:TypeId)(u:Ty):Bool:=
 u.plain&&match P.info? e with
 |some i=>match i.zero with
  |some z=>zlistOk z.cells.toList u.zeros&&(match z with|.agg _=>u.isAgg|_=> !u.isAgg)
  |none=>false
 |none=>false
def eqFs(f:TypeId->Ty->Bool):List Field->Nat->Ty->Bool
 |[x],o,u=>x.name != "_" &&Nat.beq x.offset o&&Nat.beq (P.cellsOf x.type) u.cells&&f x.type u
 |x::r,o,.pair a b=>x.name != "_" &&Nat.beq x.offset o&&Nat.beq (P.cellsOf x.type) a.cells&&f x.type a&&eqFs f r (o+a.cells) b
 |_,_,_=>false
def formOk(t:TypeId)(u:Ty):Bool:= !Nat.beq u.cells 0&&bq u.isAgg (isAggT P t) (isScal P t)
def eqT:Nat->TypeId->Ty->Bool
 |0,_,_=>false
 |n+1,t,u=>match P.underlying t,u with
  |some (.int k),.int k'=>decide (k=k')
  |some (.int k),.byte=>decide (k= .u8)
  |some .bool,.bool=>true
  |some .string,.str=>true
  |some (.struct fs),.one v=> !P.stoodInHeld t&&eqFs P (fun t u=>formOk P t u&&eqT n t u) fs.toList 0 v
  |some (.struct fs),.pair a b=> !P.stoodInHeld t&&eqFs P (fun t u=>formOk P t u&&eqT n t u) fs.toList 0 (.pair a b)
  |some (.array m e),.arr m' v=>Nat.beq m m'&&Nat.beq (P.cellsOf e) v.cells&&formOk P e v&&eqT n e v
  |_,_=>false
def room:Nat:=140737488355328
def nro(f:Nat):Bool:= !Nat.beq (f%16) 15
def frz(H:Hp)(id:Nat):Hp:=bq (Nat.ble famBase id) H (match hget H id with|some e=>hset H id (some ⟨true,e.b⟩)|none=>H)
def frzA(H:Hp):AV->Hp
 |.own _ id _ _=>frz H id
 |.sl _ id _ _=>frz H id
 |.slf _ id=>frz H id
 |_=>H
def view(H:Hp):AV->Option AV
 |.p t x=>some (.p t x)
 |.pt t l i j=>some (.pt t l i j)
 |.fn f [] []=>some (.fn f [] [])
 |.slf es id=>match hget H id with
  |some ⟨true,.rows _ t l⟩=>bq (Nat.beq es t.cells) (some (.p (.sl t) l)) none
  |_=>none
 |.sl es id off n=>match hget H id with
  |some ⟨true,.rows _ t l⟩=>bq (Nat.beq es t.cells&&Nat.ble (off+n) l.length) (some (.p (.sl t) ((l.drop off).take n))) none
  |_=>none
 |.own es id i j=>match hget H id with
  |some ⟨true,.rows _ t l⟩=>bq (Nat.beq es t.cells) (some (.pt t l i j)) none
  |_=>none
 |_=>none
def pure1(H:Hp)(a:AV):Option (AV×Hp):=(view (frzA H a) a).map fun x=>(x,frzA H a)
def pureL(H:Hp):List AV->Option (List AV×Hp)
 |[]=>some ([],H)
 |a::r=>(pure1 H a).ob fun x=>(pureL x.2 r).map fun y=>(x.1::y.1,y.2)
def pureA(H:Hp):AV->Option (AV×Hp)
 |.agg l=>(pureL H l).map fun x=>(.agg x.1,x.2)
 |a=>pure1 H a
section
variable {β : Type}
def memb{α:Type}(ms:List (Nat×List α))(k off n:Nat):Option (List α):=
 match ms[k]? with
 |some (st,l)=>bq (Nat.ble 2 st&&Nat.ble (off+n) l.length) (some ((l.drop off).take n)) none
 |none=>none
structure Fm where
 f:Nat
 s:Ty
 ms:List (Nat×List s.den)
def fmAt(f:Nat)(s:Ty):List Fm->Option (List (Nat×List s.den))
 |[]=>none
 |m::r=>bq (Nat.beq m.f (f%16)) (dq m.s s (fun h=>some (h▸m.ms)) none) (fmAt f s r)
def unrefL{α γ:Type}(g:α->Option γ):List α->Option (List γ)
 |[]=>some []
 |x::r=>(g x).bind fun y=>(unrefL g r).map (y::·)
def unrefD(fms:List Fm):(t:Ty)->t.den->Option t.unref.den
 |.ref f s,x=>match x with
  |.inl l=>some l
  |.inr none=>some ([]:List s.den)
  |.inr (some (k,off,n))=>(fmAt f s fms).ob fun ms=>memb ms k off n
 |.one t,x=>unrefD fms t x
 |.pair a b,x=>(unrefD fms a x.1).bind fun y=>(unrefD fms b x.2).map fun z=>(y,z)
 |.int _,x=>some x
 |.byte,x=>some x
 |.bool,x=>some x
 |.str,x=>some x
 |.opq,x=>some x
 |.nat,x=>some x
 |.sl _,x=>some x
 |.arr _ _,x=>some x
 |.ptr _,x=>some x
def lowD:(t:Ty)->t.den->Option t.unref.den
 |.ref _ s,x=>match x with
  |.inl l=>some l
  |.inr none=>some ([]:List s.den)
  |_=>none
 |.one t,x=>lowD t x
 |.pair a b,x=>(lowD a x.1).bind fun y=>(lowD b x.2).map fun z=>(y,z)
 |.int _,x=>some x
 |.byte,x=>some x
 |.bool,x=>some x
 |.str,x=>some x
 |.opq,x=>some x
 |.nat,x=>some x
 |.sl _,x=>some x
 |.arr _ _,x=>some x
 |.ptr _,x=>some x
def frz1{α:Type}(m:Nat×List α):Nat×List α:=(bq (Nat.beq m.1 0) 0 2,m.2)
def frzF:Hp->Hp
 |[]=>[]
 |(i,some ⟨fz,.fam e s ms⟩)::r=>(i,some ⟨fz,.fam e s (ms.map frz1)⟩)::frzF r
 |x::r=>x::frzF r
def fmsFrom(H:Hp):Nat->List Fm
 |0=>[]
 |n+1=>match hget H (famBase+n) with
  |some ⟨_,.fam _ s ms⟩=>⟨n,s,ms⟩::fmsFrom H n
  |_=>fmsFrom H n
def fmsOf(H:Hp):List Fm:=fmsFrom H 16
def unref1(fms:List Fm)(a:AV)(K:AV->Option β):Option β:=
 match a with
 |.p (.sl t) l=>bq t.noRef (K (.p (.sl t) l)) ((unrefL (unrefD fms t) (show List t.den from l)).bind fun l'=>K (.p (.sl t.unref) l'))
 |.p t x=>bq t.noRef (K (.p t x)) ((unrefD fms t x).bind fun y=>K (.p t.unref y))
 |.pt t l i j=>need t.noRef<|K (.pt t l i j)
 |a=>K a
def low1(a:AV)(K:AV->Option β):Option β:=
 match a with
 |.p (.sl t) l=>bq t.noRef (K (.p (.sl t) l)) ((unrefL (lowD t) (show List t.den from l)).bind fun l'=>K (.p (.sl t.unref) l'))
 |.p t x=>bq t.noRef (K (.p t x)) ((lowD t x).bind fun y=>K (.p t.unref y))
 |a=>K a
end
def AV.anyRef:AV->Bool
 |.p t _=> !t.noRef
 |.pt t _ _ _=> !t.noRef
 |_=>false
section
variable {β : Type}
def viewK(H:Hp)(a:AV)(K:AV->Option β):Option β:=
 match a with
 |.p t x=>K (.p t x)
 |.pt t l i j=>K (.pt t l i j)
 |.fn f [] []=>K (.fn f [] [])
 |.slf es id=>match hget H id with
  |some ⟨true,.rows _ t l⟩=>bq (Nat.beq es t.cells) (K (.p (.sl t) l)) none
  |_=>none
 |.sl es id off n=>match hget H id with
  |some ⟨true,.rows _ t l⟩=>bq (Nat.beq es t.cells&&Nat.ble (off+n) l.length) (K (.p (.sl t) ((l.drop off).take n))) none
  |_=>none
 |.own es id i j=>match hget H id with
  |some ⟨true,.rows _ t l⟩=>bq (Nat.beq es t.cells) (K (.pt t l i j)) none
  |_=>none
 |_=>none
theorem qFZ{α:Type}(c:Bool)(a:α)(K:α->Option β):(bq c (some a) none).ob K=bq c (K a) none:=by cases c<;>rfl
theorem oFZ(H:Hp)(a:AV)(K:AV->Option β):viewK H a K=(view H a).ob K:=by
 unfold viewK view;split
 case h_4 es id=>
  rcases hget H id with _|⟨fz,b⟩
  ·rfl
  ·cases fz<;>cases b<;>first|rfl|exact(qFZ _ _ _).symm
 case h_5 es id off n=>
  rcases hget H id with _|⟨fz,b⟩
  ·rfl
  ·cases fz<;>cases b<;>first|rfl|exact(qFZ _ _ _).symm
 case h_6 es id i j=>
  rcases hget H id with _|⟨fz,b⟩
  ·rfl
  ·cases fz<;>cases b<;>first|rfl|exact(qFZ _ _ _).symm
 all_goals rfl
def pure1K(H:Hp)(a:AV)(K:AV->Hp->Option β):Option β:=viewK (frzA H a) a fun x=>K x (frzA H a)
theorem i7Z(H:Hp)(a:AV)(K:AV->Hp->Option β):pure1K H a K=(pure1 H a).ob fun x=>K x.1 x.2:=by
 unfold pure1K pure1;rw[oFZ];cases view (frzA H a) a<;>rfl
def pureLK:Hp->List AV->(List AV->Hp->Option β)->Option β
 |H,[],K=>K [] H
 |H,a::r,K=>pure1K H a fun x H'=>pureLK H' r fun l H''=>K (x::l) H''
theorem dqZ:∀(l:List AV) (H:Hp) (K:List AV->Hp->Option β),pureLK H l K=(pureL H l).ob fun x=>K x.1 x.2
 |[],_,_=>rfl
 |a::r,H,K=>by
  unfold pureLK pureL;rw[i7Z];cases pure1 H a with
  |none=>rfl
  |some x=>
   show pureLK x.2 r _=_;rw[dqZ r];show _=((pureL x.2 r).map _).ob _;cases pureL x.2 r<;>rfl
def pureAK(H:Hp)(a:AV)(K:AV->Hp->Option β):Option β:=
 match a with
 |.agg l=>pureLK H l fun l H'=>K (.agg l) H'
 |a=>pure1K H a K
theorem mGZ(H:Hp)(a:AV)(K:AV->Hp->Option β):pureAK H a K=(pureA H a).ob fun x=>K x.1 x.2:=by
 cases a
 case agg l=>
  show pureLK H l _=((pureL H l).map _).ob _;rw[dqZ];cases pureL H l<;>rfl
 all_goals exact i7Z _ _ _
end
section
variable {β : Type}
def subR:(t:Ty)->t.den->Nat->(u:Ty)->(AV->Option β)->Option β
 |.one t,x,o,u,K=>bq (decide ((Ty.one t).unref=u)&&Nat.beq o 0) (K (.p (.one t) x)) (subR t x o u K)
 |.pair a b,x,o,u,K=>bq (decide ((Ty.pair a b).unref=u)&&Nat.beq o 0) (K (.p (.pair a b) x))
  (bq (Nat.blt o a.cells) (subR a x.1 o u K) (subR b x.2 (o-a.cells) u K))
 |t,x,o,u,K=>bq (decide (t.unref=u)&&Nat.beq o 0) (K (.ofTy t x)) none
def updR:(t:Ty)->t.den->Nat->(u:Ty)->AV->(t.den->Option β)->Option β
 |.one t,x,o,u,v,K=>bq (decide ((Ty.one t).unref=u)&&Nat.beq o 0) (asA (.one t) v K) (updR t x o u v K)
 |.pair a b,x,o,u,v,K=>bq (decide ((Ty.pair a b).unref=u)&&Nat.beq o 0) (asA (.pair a b) v K)
  (bq (Nat.blt o a.cells) (updR a x.1 o u v fun z=>K (z,x.2)) (updR b x.2 (o-a.cells) u v fun z=>K (x.1,z)))
 |t,_,o,u,v,K=>bq (decide (t.unref=u)&&Nat.beq o 0) (asA t v K) none
def rdRow(u:Ty)(t:TypeId)(x:u.den)(j:Nat)(K:AV->Option β):Option β:=
 (ty P t).ob fun want=>bq u.noRef (sub u x j want fun y=>K (.ofTy want y)) (subR u x j want K)
def rdRows(t:TypeId)(u:Ty)(l:List u.den)(i j:Nat)(K:AV->Option β):Option β:=
 match ty P t with
 |some (.arr n u')=>bq (decide (u'=u)&&Nat.beq i 0&&Nat.beq j 0) (need (Nat.beq l.length n)<|K (.p (.arr n u) l)) (l[i]?.bind fun x=>rdRow P u t x j K)
 |_=>l[i]?.bind fun x=>rdRow P u t x j K
def rdVars(t:TypeId)(c:List AV)(j:Nat)(K:AV->Option β):Option β:=
 bq (isAggT P t) (need (Nat.ble (j+P.cellsOf t) c.length&& !Nat.beq (P.cellsOf t) 0)<|K (.agg ((c.drop j).take (P.cellsOf t)))) (bq (isScal P t) (c[j]?.ob K) none)
def evLoad(t:TypeId)(a:AV)(H:Hp)(K:AV->Option β):Option β:=
 match a with
 |.own es id i j=>match hget H id with
  |some ⟨_,.vars c⟩=>rdVars P t c (i*es+j) K
  |some ⟨_,.rows _ u l⟩=>bq (Nat.beq es u.cells) (rdRows P t u l i j K) none
  |_=>none
 |.pt u l i j=>rdRows P t u l i j K
 |.rp f es k i j=>match hget H (famId f) with
  |some ⟨_,.fam _ s ms⟩=>ms[k]?.bind fun m=>need (Nat.blt 0 m.1&&Nat.beq es s.cells)<|rdRows P t s m.2 i j K
  |_=>none
 |_=>none
def setFrom{α:Type}:List α->Nat->List α->List α
 |c,_,[]=>c
 |c,j,x::r=>setFrom (c.set j x) (j+1) r
def isMut(H:Hp)(id:Nat):Bool:=match hget H id with|some e=> !e.fz|none=>false
def wrRows(t:TypeId)(e:TypeId)(u:Ty)(l:List u.den)(i j:Nat)(id:Nat)(v:AV)(H:Hp)(K:AV->Hp->Option β):Option β:=
 match ty P t with
 |some (.arr n u')=>bq (decide (u'=u)&&Nat.beq i 0&&Nat.beq j 0) (need (Nat.beq l.length n)<|asA (.arr n u) v fun l'=>need (Nat.beq l'.length n)<|K .junk (hset H id (some ⟨false,.rows e u l'⟩))) (asA (.arr n u') v fun y=>l[i]?.bind fun x=>upd u x j (.arr n u') y fun x'=>K .junk (hset H id (some ⟨false,.rows e u (l.set i x')⟩)))
 |some want=>asA want v fun y=>l[i]?.bind fun x=>upd u x j want y fun x'=>K .junk (hset H id (some ⟨false,.rows e u (l.set i x')⟩))
 |none=>none
def partTy:Ty->Nat->Ty->Option Ty
 |.one t,o,u=>bq (decide ((Ty.one t).unref=u)&&Nat.beq o 0) (some (.one t)) (partTy t o u)
 |.pair a b,o,u=>bq (decide ((Ty.pair a b).unref=u)&&Nat.beq o 0) (some (.pair a b)) (bq (Nat.blt o a.cells) (partTy a o u) (partTy b (o-a.cells) u))
 |t,o,u=>bq (decide (t.unref=u)&&Nat.beq o 0) (some t) none
def Ty.leaves:Ty->List Ty
 |.one t=>t.leaves
 |.pair a b=>a.leaves++b.leaves
 |t=>[t]
def abs1(H:Hp)(t:Ty)(a:AV):Option (AV×Hp):=
 match t,a with
 |.ref f s,.slf es id=>match hget H id,hget H (famId f) with
  |some ⟨false,.rows e t l⟩,some ⟨false,.fam e' s' ms⟩=>dq t s (fun h=>dq s' s (fun h'=>bq (Nat.beq es s.cells&&Nat.beq e e')
   (some (.p (.ref f s) (.inr (some (ms.length,0,l.length))),hset (hset H id none) (famId f) (some ⟨false,.fam e' s' (ms++[(1,Ty.toL (h.trans h'.symm) l)])⟩))) none) none) none
  |_,_=>none
 |_,a=>some (a,H)
def absL(H:Hp):List Ty->List AV->Option (List AV×Hp)
 |t::ts,a::l=>(abs1 H t a).ob fun x=>(absL x.2 ts l).map fun y=>(x.1::y.1,y.2)
 |_,l=>some (l,H)
def absA(H:Hp)(t:Ty)(a:AV):Option (AV×Hp):=
 match a with
 |.agg l=>(absL H t.leaves l).map fun x=>(.agg x.1,x.2)
 |a=>abs1 H t a
def wrRef(t e:TypeId)(u:Ty)(l:List u.den)(i j:Nat)(id:Nat)(v:AV)(H:Hp)(K:AV->Hp->Option β):Option β:=
 (ty P t).ob fun want=>(partTy u j want).ob fun u'=>(absA H u' v).ob fun y=>(pureA y.2 y.1).ob fun x=>need (isMut x.2 id)<|
  l[i]?.bind fun x0=>updR u x0 j want x.1 fun x'=>K .junk (hset x.2 id (some ⟨false,.rows e u (l.set i x')⟩))
def wrMem(t:TypeId)(f k i j es:Nat)(v:AV)(H:Hp)(K:AV->Hp->Option β):Option β:=
 (ty P t).ob fun want=>(pureA H v).ob fun x=>match hget x.2 (famId f) with
  |some ⟨false,.fam e s ms⟩=>need (nro f)<|ms[k]?.bind fun m=>need (Nat.beq m.1 1&&Nat.beq es s.cells&&s.noRef)<|asA want x.1 fun y=>m.2[i]?.bind fun r=>upd s r j want y fun r'=>
   K .junk (hset x.2 (famId f) (some ⟨false,.fam e s (ms.set k (1,m.2.set i r'))⟩))
  |_=>none
def evStore(t:TypeId)(a v:AV)(H:Hp)(K:AV->Hp->Option β):Option β:=
 match a with
 |.own es id i j=>match hget H id with
  |some ⟨false,.vars c⟩=>(cellsA v).ob fun vs=>
   need (Nat.beq vs.length (P.cellsOf t)&& !Nat.beq (P.cellsOf t) 0&&Nat.ble (i*es+j+vs.length) c.length)<|K .junk (hset H id (some ⟨false,.vars (setFrom c (i*es+j) vs)⟩))
  |some ⟨false,.rows e u l⟩=>bq (Nat.beq es u.cells) (bq u.noRef ((pureA H v).ob fun x=>need (isMut x.2 id)<|wrRows P t e u l i j id x.1 x.2 K) (wrRef P t e u l i j id v H K)) none
  |_=>none
 |.rp f es k i j=>wrMem P t f k i j es v H K
 |_=>none
def newAt(H:Hp)(id:Nat)(b:Blk)(K:Hp->Option β):Option β:=bq (hkey H id||Nat.ble famBase id) none (K (hset H id (some ⟨false,b⟩)))
def evAlloc1(t:TypeId)(id:Nat)(H:Hp)(K:AV->Hp->Option β):Option β:=
 (ty P t).ob fun u=>need (zeroOk P t u)<|newAt H id (.rows t u [u.zero]) fun H'=>K (.own u.cells id 0 0) H'
def evBox1(t:TypeId)(v:AV)(id:Nat)(H:Hp)(K:AV->Hp->Option β):Option β:=
 (ty P t).ob fun u=>(pureA H v).ob fun x=>asA u x.1 fun y=>newAt x.2 id (.rows t u [y]) fun H'=>K (.own u.cells id 0 0) H'
def evAlloc(t:TypeId)(id:Nat)(H:Hp)(K:AV->Hp->Option β):Option β:=
 match P.underlying t with
 |some (.array n e)=>(ty P e).ob fun u=>need (zeroOk P t (.arr n u))<|
  newAt H id (.rows t u (List.replicate n u.zero)) fun H'=>K (.own u.cells id 0 0) H'
 |_=>(zeroOf P t).ob fun z=>newAt H id (.vars z) fun H'=>K (.own 0 id 0 0) H'
def evBox(t:TypeId)(v:AV)(id:Nat)(H:Hp)(K:AV->Hp->Option β):Option β:=
 match P.underlying t with
 |some (.array n e)=>(ty P e).ob fun u=>(pureA H v).ob fun x=>asA (.arr n u) x.1 fun l=>need (Nat.beq l.length n)<|
  newAt x.2 id (.rows t u l) fun H'=>K (.own u.cells id 0 0) H'
 |_=>(cellsA v).ob fun c=>newAt H id (.vars c) fun H'=>K (.own 0 id 0 0) H'
def fieldOff(s:TypeId)(f:Nat):Option (Nat×TypeId):=
 match P.underlying s with
 |some (.struct fs)=>fs[f]?.ob fun x=>bq (Nat.beq (P.cellsOf x.type) 0) none (some (x.offset,x.type))
 |_=>none
def evFieldAddr(s:TypeId)(a:AV)(f:Nat)(K:AV->Option β):Option β:=
 match fieldOff P s f,a with
 |some (o,_),.own es id i j=>K (.own es id i (j+o))
 |some (o,_),.pt u l i j=>K (.pt u l i (j+o))
 |some (o,_),.rp f es k i j=>K (.rp f es k i (j+o))
 |_,_=>none
def evField(s:TypeId)(a:AV)(f:Nat)(K:AV->Option β):Option β:=
 match fieldOff P s f,a with
 |some (o,t),.agg c=>bq (isAggT P t) (need (Nat.ble (o+P.cellsOf t) c.length)<|K (.agg ((c.drop o).take (P.cellsOf t)))) (bq (isScal P t) (c[o]?.ob K) none)
 |some (o,t),.p u x=>bq u.isAgg (rdRow P u t x o K) none
 |_,_=>none
def varsLen(H:Hp)(es id:Nat):Option Nat:=
 match hget H id with
 |some ⟨_,.vars c⟩=>bq (Nat.beq es 1) (some c.length) none
 |_=>none
def ownRows(H:Hp)(es id:Nat)(K:(u:Ty)->List u.den->Option β):Option β:=
 match hget H id with
 |some ⟨_,.rows _ u l⟩=>bq (Nat.beq es u.cells) (K u l) none
 |_=>none
def refO{α:Type}(x:α⊕Option (Nat×(Nat×Nat))):Option (Nat×(Nat×Nat)):=
 match x with
 |.inr y=>y
 |_=>none
def refLen{s:Ty}(x:List s.den⊕Option (Nat×(Nat×Nat))):Nat:=
 match x with
 |.inl l=>l.length
 |.inr none=>0
 |.inr (some (_,_,n))=>n
def evIndexAddr(t:TypeId)(a ix:AV)(H:Hp)(K:AV->Option β):Option β:=
 ix.any?.ob fun x=>
 match P.underlying t with
 |some (.array n e)=>need (!Nat.beq (P.cellsOf e) 0)<|match a with
  |.own es id i j=>bq (Nat.beq es (P.cellsOf e)&&Nat.beq i 0&&Nat.beq j 0) ((idx? x n).bind fun q=>K (.own es id q 0)) ((idx? x n).bind fun q=>K (.own es id i (j+q*P.cellsOf e)))
  |.pt u l i j=>bq (Nat.beq u.cells (P.cellsOf e)&&Nat.beq i 0&&Nat.beq j 0) ((idx? x n).bind fun q=>K (.pt u l q 0)) ((idx? x n).bind fun q=>K (.pt u l i (j+q*P.cellsOf e)))
  |_=>none
 |some (.slice e)=>need (!Nat.beq (P.cellsOf e) 0)<|match a with
  |.slf es id=>bq (Nat.beq es (P.cellsOf e)) (match varsLen H es id with
   |some n=>(idx? x n).bind fun q=>K (.own es id q 0)
   |none=>ownRows H es id fun _ l=>(idx? x l.length).bind fun q=>K (.own es id q 0)) none
  |.sl es id off n=>bq (Nat.beq es (P.cellsOf e)) ((idx? x n).bind fun q=>K (.own es id (off+q) 0)) none
  |.p (.sl u) l=>bq (Nat.beq u.cells (P.cellsOf e)) ((idx? x (List.length (α:=u.den) l)).bind fun q=>K (.pt u l q 0)) none
  |.p (.ref f u) r=>bq (Nat.beq u.cells (P.cellsOf e)) ((refO r).bind fun k=>(idx? x k.2.2).bind fun q=>K (.rp f u.cells k.1 (k.2.1+q) 0)) none
  |_=>none
 |_=>none
def evIndex(t:TypeId)(a ix:AV)(K:AV->Option β):Option β:=
 ix.any?.ob fun x=>
 match P.underlying t with
 |some .string=>a.str?.ob fun l=>(idx? x l.length).bind fun q=>l[q]?.bind fun c=>K (.i .u8 (c.toNat:Int))
 |some (.array n e)=>(ty P e).ob fun u=>asA (.arr n u) a fun(l:List u.den)=>(idx? x n).bind fun q=>
  l[q]?.bind fun y=>K (.ofTy u y)
 |_=>none
def optI(a:Option AV)(d:Nat)(m:Nat)(K:Nat->Option β):Option β:=
 match a with
 |none=>K d
 |some a=>a.any?.ob fun x=>(upto? x m).bind K
def cutL{α:Type}(l:List α)(lo hi:Option AV)(K:List α->Option β):Option β:=
 match lo,hi with
 |none,none=>K l
 |none,some h=>h.any?.ob fun x=>(upto? x l.length).bind fun h=>K (l.take h)
 |some b,none=>b.any?.ob fun x=>(upto? x l.length).bind fun b=>K (l.drop b)
 |some b,some h=>h.any?.ob fun y=>(upto? y l.length).bind fun h=>b.any?.ob fun x=>(upto? x h).bind fun b=>K ((l.take h).drop b)
def refSub{α:Type}(x:List α⊕Option (Nat×Nat×Nat))(b n:Nat):List α⊕Option (Nat×Nat×Nat):=
 match x with
 |.inl l=>.inl ((l.take (b+n)).drop b)
 |.inr none=>.inr none
 |.inr (some (k,off,_))=>bq (Nat.beq n 0) (.inl []) (.inr (some (k,off+b,n)))
def evSlice(t:TypeId)(a:AV)(lo hi:Option AV)(H:Hp)(K:AV->Option β):Option β:=
 match P.underlying t with
 |some .string=>a.str?.ob fun l=>cutL l lo hi fun l'=>K (.s l')
 |some (.slice e)=>match a with
  |.slf es id=>bq (Nat.beq es (P.cellsOf e)&& !Nat.beq es 0) (match lo,hi with
   |none,none=>K (.slf es id)
   |lo,hi=>ownRows H es id fun _ l=>optI hi l.length l.length fun h=>optI lo 0 h fun b=>K (.sl es id b (h-b))) none
  |.sl es id off n=>bq (Nat.beq es (P.cellsOf e)&& !Nat.beq es 0) (optI hi n n fun h=>optI lo 0 h fun b=>K (.sl es id (off+b) (h-b))) none
  |.p (.sl u) l=>bq (Nat.beq u.cells (P.cellsOf e)&& !Nat.beq u.cells 0) (cutL (α:=u.den) l lo hi fun l'=>K (.p (.sl u) l')) none
  |.p .opq (.slice none 0 0)=>need (!Nat.beq (P.cellsOf e) 0)<|optI hi 0 0 fun h=>optI lo 0 h fun _=>K (.p .opq (.slice none 0 0))
  |.p (.ref f u) x=>bq (Nat.beq u.cells (P.cellsOf e)&& !Nat.beq u.cells 0) (optI hi (refLen (s:=u) x) (refLen (s:=u) x) fun h=>optI lo 0 h fun b=>K (.p (.ref f u) (refSub (α:=u.den) x b (h-b)))) none
  |_=>none
 |some (.array n e)=>match a with
  |.own es id 0 0=>bq (Nat.beq es (P.cellsOf e)&& !Nat.beq es 0) (ownRows H es id fun _ l=>need (Nat.ble n room&&Nat.beq n l.length)<|match lo,hi with
   |none,none=>K (.slf es id)
   |lo,hi=>optI hi n n fun h=>optI lo 0 h fun b=>K (.sl es id b (h-b))) none
  |.pt u l 0 0=>bq (Nat.beq u.cells (P.cellsOf e)&& !Nat.beq u.cells 0&&Nat.ble n room&&Nat.beq n l.length) (cutL l lo hi fun l'=>K (.p (.sl u) l')) none
  |_=>none
 |_=>none
def evSlice3(t:TypeId)(a:AV)(lo:Option AV)(hi mx:AV)(K:AV->Option β):Option β:=
 match P.underlying t with
 |some (.slice e)=>match a with
  |.p (.sl u) l=>bq (Nat.beq u.cells (P.cellsOf e)&& !Nat.beq u.cells 0) (mx.any?.ob fun y=>(upto? y (List.length (α:=u.den) l)).bind fun m=>hi.any?.ob fun x=>(upto? x m).bind fun h=>match lo with
   |none=>K (.p (.sl u) (List.take (α:=u.den) h l))
   |some lo=>lo.any?.ob fun x=>(upto? x h).bind fun b=>K (.p (.sl u) (List.drop (α:=u.den) b (List.take h l)))) none
  |_=>none
 |_=>none
def rowsOf(H:Hp)(u:Ty)(a:AV)(K:List u.den->Option β):Option β:=
 match a with
 |.p t x=>dq t (.sl u) (fun h=>K (Ty.to h x))
  (dq t .str (fun h=>dq (.sl .byte) (.sl u) (fun h2=>K (Ty.to h2 (Ty.to h x:List UInt8))) none) ((nilSl t x (.sl u)).ob fun l=>K l))
 |.slf es id=>match hget H id with
  |some ⟨_,.rows _ t l⟩=>dq t u (fun h=>(bq (Nat.beq es t.cells) (K (Ty.toL h l)) none)) none
  |_=>none
 |.sl es id off n=>match hget H id with
  |some ⟨_,.rows _ t l⟩=>dq t u (fun h=>(bq (Nat.beq es t.cells&&Nat.ble (off+n) l.length) (K (((Ty.toL h l).drop off).take n)) none)) none
  |_=>none
 |_=>none
def lenS(H:Hp)(a:AV)(K:Nat->Option β):Option β:=
 match a with
 |.sl _ _ _ n=>K n
 |.slf es id=>match varsLen H es id with
  |some n=>K n
  |none=>ownRows H es id fun _ l=>K l.length
 |.p (.sl u) l=>K (List.length (α:=u.den) l)
 |.p .opq (.slice none 0 0)=>K 0
 |.p (.ref _ u) r=>K (refLen (s:=u) r)
 |_=>none
def lenM(H:Hp)(a:AV)(K:Nat->Option β):Option β:=
 match a with
 |.p .opq (.map none)=>K 0
 |.mp id=>match hget H id with
  |some ⟨_,.map _ _ m⟩=>K m.1.length
  |_=>none
 |_=>none
def lenT(t:TypeId)(H:Hp)(a:AV)(K:Nat->Option β):Option β:=
 match P.underlying t with
 |some .string=>a.str?.ob fun l=>K l.length
 |some (.slice _)=>lenS H a K
 |some (.map _ _)=>lenM H a K
 |some (.array n _)=>K n
 |_=>none
def roomOk(e:TypeId)(n:Nat):Bool:=Nat.ble (n*P.bytesOf e) room&&Nat.ble n room
def zlen(e:TypeId)(n:Nat):Bool:=match P.info? e with|some i=>(match i.zero with|some z=>Nat.beq z.cells.size n|none=>false)|none=>false
def evAppend(t:TypeId)(s x:AV)(id:Nat)(H:Hp)(K:AV->Hp->Option β):Option β:=
 match P.underlying t with
 |some (.slice e)=>(ty P e).ob fun u=>
  rowsOf H u x fun m=>
   match s with
   |.p .opq (.slice none 0 0)=>need (zlen P e u.cells&&roomOk P e m.length)<|newAt H id (.rows e u m) fun H'=>K (.slf u.cells id) H'
   |.slf es old=>match hget H old with
    |some ⟨false,.rows e' t l⟩=>dq t u (fun h=>need (zlen P e u.cells&&Nat.beq e e'&&Nat.beq es u.cells&&roomOk P e (l.length+m.length))<|
     newAt (hset H old none) id (.rows e u (Ty.toL h l++m)) fun H'=>K (.slf es id) H')
     (dq u t.unref (fun h=>need (zlen P e u.cells&&Nat.beq e e'&&Nat.beq es u.cells&&roomOk P e (l.length+m.length))<|
     newAt (hset H old none) id (.rows e t (l++(Ty.toL h m).map (liftT t))) fun H'=>K (.slf es id) H') none)
    |_=>none
   |.sl es old 0 n=>match hget H old with
    |some ⟨false,.rows e' t l⟩=>dq t u (fun h=>need (zlen P e u.cells&&Nat.beq e e'&&Nat.beq es u.cells&&Nat.ble n l.length&&roomOk P e (n+m.length))<|
     newAt (hset H old none) id (.rows e u ((Ty.toL h l).take n++m)) fun H'=>K (.slf es id) H') none
    |_=>none
   |_=>none
 |_=>none
def evAppendZ(t:TypeId)(s x:AV)(id:Nat)(H:Hp)(K:AV->Hp->Option β):Option β:=
 match P.underlying t with
 |some (.slice e)=>(ty P e).ob fun u=>need (zeroOk P e u)<|
  x.any?.ob fun n=>(upto? n room).bind fun m=>
   match s with
   |.p .opq (.slice none 0 0)=>need (roomOk P e m)<|newAt H id (.rows e u (List.replicate m u.zero)) fun H'=>K (.slf u.cells id) H'
   |.slf es old=>match hget H old with
    |some ⟨false,.rows e' t' l⟩=>dq t' u (fun h=>need (Nat.beq e e'&&Nat.beq es u.cells&&roomOk P e (l.length+m))<|newAt (hset H old none) id (.rows e u (Ty.toL h l++List.replicate m u.zero)) fun H'=>K (.slf es id) H') none
    |_=>none
   |_=>none
 |_=>none
def splice{α:Type}(l:List α)(at_:Nat)(m:List α):List α:=l.take at_++m++l.drop (at_+m.length)
def refPut{α:Type}(ms:List (Nat×List α))(x:List α⊕Option (Nat×Nat×Nat))(m:List α):Option (List (Nat×List α)×Nat):=
 match x with
 |.inl l=>need (Nat.beq l.length 0) (some (ms,0))
 |.inr none=>some (ms,0)
 |.inr (some (k,off,n))=>ms[k]?.bind fun p=>need (Nat.beq p.1 1&&Nat.ble (off+n) p.2.length) (some (ms.set k (1,splice p.2 off (m.take n)),min m.length n))
def evCopy(t:TypeId)(d x:AV)(H:Hp)(K:AV->Hp->Option β):Option β:=
 match P.underlying t with
 |some (.slice e)=>(ty P e).ob fun u=>
  rowsOf H u x fun m=>
   match d with
   |.slf es id=>match hget H id with
    |some ⟨false,.rows e' t l⟩=>dq t u (fun h=>need (Nat.beq es u.cells)<|
     K (.i .i64 ((min m.length l.length:Nat):Int)) (hset H id (some ⟨false,.rows e' u (splice (Ty.toL h l) 0 (m.take l.length))⟩))) none
    |_=>none
   |.sl es id off n=>match hget H id with
    |some ⟨false,.rows e' t l⟩=>dq t u (fun h=>need (Nat.beq es u.cells&&Nat.ble (off+n) l.length)<|
     K (.i .i64 ((min m.length n:Nat):Int)) (hset H id (some ⟨false,.rows e' u (splice (Ty.toL h l) off (m.take n))⟩))) none
    |_=>none
   |.p (.ref f s) x=>need (nro f)<|match hget H (famId f) with
    |some ⟨false,.fam e' s' ms⟩=>dq s' s (fun h=>dq u s' (fun h2=>(refPut ms (h▸(show List s.den⊕Option (Nat×Nat×Nat) from x)) (Ty.toL h2 m)).bind fun y=>
     K (.i .i64 (y.2:Int)) (hset H (famId f) (some ⟨false,.fam e' s' y.1⟩))) none) none
    |_=>none
   |_=>none
 |_=>none
def evClear(t:TypeId)(d:AV)(H:Hp)(K:AV->Hp->Option β):Option β:=
 match P.underlying t with
 |some (.slice e)=>(ty P e).ob fun u=>need (zeroOk P e u)<|
  match d with
  |.p .opq (.slice none 0 0)=>K (.tup []) H
  |.slf es id=>match hget H id with
   |some ⟨false,.rows e' t l⟩=>dq t u (fun h=>need (Nat.beq es u.cells)<|K (.tup []) (hset H id (some ⟨false,.rows e' u (splice (Ty.toL h l) 0 (List.replicate l.length u.zero))⟩))) none
   |_=>none
  |.sl es id off n=>match hget H id with
   |some ⟨false,.rows e' t l⟩=>dq t u (fun h=>need (Nat.beq es u.cells&&Nat.ble (off+n) l.length)<|K (.tup []) (hset H id (some ⟨false,.rows e' u (splice (Ty.toL h l) off (List.replicate n u.zero))⟩))) none
   |_=>none
  |_=>none
 |_=>none
def evConvert(src dst:TypeId)(a:AV)(H:Hp)(K:AV->Option β):Option β:=
 match P.underlying src,P.underlying dst with
 |some (.int ks),some (.int k)=>(a.int? ks).ob fun n=>K (.i k (k.wrap n))
 |some .string,some .string=>a.str?.ob fun l=>K (.s l)
 |some (.slice e),some .string=>bq (isB P e) (rowsOf H .byte a fun l=>K (.s l)) none
 |some (.slice _),some (.slice e)=>none
 |_,_=>none
def evConvertW(src dst:TypeId)(a:AV)(id:Nat)(H:Hp)(K:AV->Hp->Option β):Option β:=
 match P.underlying src,P.underlying dst with
 |some .string,some (.slice e)=>bq (isB P e) (a.str?.ob fun l=>need (Nat.ble l.length room)<|newAt H id (.rows e .byte l) fun H'=>K (.slf 1 id) H') none
 |some (.slice _),some (.slice e)=>match a with
  |.slf es old=>match hget H old with
   |some ⟨false,.rows _ .byte l⟩=>bq (Nat.beq src dst&&isB P e&&Nat.beq es 1) (need (Nat.blt 0 (List.length (α:=UInt8) l))<|K (.slf es old) H) none
   |_=>none
  |_=>none
 |_,_=>none
def evMake(t:TypeId)(l c:AV)(id:Nat)(H:Hp)(K:AV->Hp->Option β):Option β:=
 match P.underlying t with
 |some (.slice e)=>l.any?.ob fun n=>c.any?.ob fun m=>(upto? m room).bind fun m'=>(upto? n m').bind fun n'=>
  (ty P e).ob fun u=>need (zeroOk P e u&&Nat.ble (m'*P.bytesOf e) room)<|
   newAt H id (.rows e u (List.replicate n' u.zero)) fun H'=>K (.slf u.cells id) H'
 |_=>none
def isFuncT(t:TypeId):Bool:=match P.underlying t with|some (.func _ _ _)=>true|_=>false
def mapVal:List Nat->Ty->Ty
 |[f],.sl s=>.ref f s
 |_,v=>v
def evMakeMap(t:TypeId)(r:Option AV)(md:List Nat)(id:Nat)(H:Hp)(K:AV->Hp->Option β):Option β:=
 match P.underlying t with
 |some (.map kt et)=>(ty P kt).ob fun k=>need (match r with|none=>true|some a=>a.any?.isSome)<|
  bq (isFuncT P et) (newAt H id (.fmap k []) fun H'=>K (.mp id) H') ((ty P et).ob fun v=>newAt H id (.map k (mapVal md v) ([],0)) fun H'=>K (.mp id) H')
 |_=>none
def tupIf(c:Bool)(v:AV)(ok:Bool):AV:=bq c (.tup [v,.b ok]) v
def keyOk(kt:TypeId)(k:Ty):Bool:=decide (ty P kt=some k)&&eqT P typesFuel kt k&&k.keyed
def mapOk(t:TypeId)(k v:Ty):Bool:=
 match P.underlying t with
 |some (.map kt et)=>keyOk P kt k&&decide (ty P et=some v.unref)&&zeroOk P et v
 |_=>false
def fmapOk(t:TypeId)(k:Ty):Bool:=
 match P.underlying t with
 |some (.map kt et)=>keyOk P kt k&&isFuncT P et&&(match P.info? et with|some i=>(match i.zero with|some .nilFunc=>true|_=>false)|none=>false)
 |_=>false
def fchain{k:Ty}:List (k.den×AV)->k.den->(Option AV->Option β)->Option β
 |[],_,K=>K none
 |(a,b)::r,x,K=>bq (k.eqb x a) (K (some b)) (fchain r x K)
def lookRes(c:Bool)(v:Ty)(r:Option v.den)(K:AV->Option β):Option β:=K (tupIf c (.ofTy v (r.getD v.zero)) r.isSome)
def evLookup(t:TypeId)(m ix:AV)(c:Bool)(H:Hp)(K:AV->Option β):Option β:=
 match m with
 |.mp id=>match hget H id with
  |some ⟨_,.map k v M⟩=>need (mapOk P t k v)<|asA k ix fun key=>lookRes c v (mget M key) K
  |some ⟨_,.fmap k l⟩=>need (fmapOk P t k)<|asA k ix fun key=>fchain l key fun r=>match r with
   |some y=>K (tupIf c y true)
   |none=>K (tupIf c (.p .opq .nilFunc) false)
  |_=>none
 |.p .opq (.map none)=>match P.underlying t with
  |some (.map kt et)=>(ty P kt).ob fun k=>(ty P et).ob fun v=>need (mapOk P t k v)<|asA k ix fun _=>lookRes c v none K
  |_=>none
 |_=>none
def noKey{k:Ty}:List (k.den×AV)->k.den->Bool
 |[],_=>true
 |(a,_)::r,x=> !k.eqb x a&&noKey r x
def mapIn(H:Hp)(id:Nat)(x:AV):Option (AV×Hp):=
 match hget H id with
 |some ⟨_,.map _ v _⟩=>bq v.noRef (pureA H x) ((absA H v x).ob fun y=>pureA y.2 y.1)
 |_=>pureA H x
def evMapUpd(t:TypeId)(m key x:AV)(H:Hp)(K:AV->Hp->Option β):Option β:=
 match m with
 |.mp id=>match hget H id with
  |some ⟨false,.fmap k l⟩=>need (fmapOk P t k)<|asA k key fun a=>need (noKey l a)<|(cellsA x).ob fun c=>need (Nat.beq c.length 1)<|
   K .junk (hset H id (some ⟨false,.fmap k (l++[(a,x)])⟩))
  |_=>(mapIn H id x).ob fun y=>match hget y.2 id with
   |some ⟨false,.map k v M⟩=>need (mapOk P t k v)<|asA k key fun a=>asA v y.1 fun b=>K .junk (hset y.2 id (some ⟨false,.map k v (mput M a b)⟩))
   |_=>none
 |_=>none
def fillA:(Nat->Option (Nat×Nat))->List AV->List (Nat×AV)->Option (List AV)
 |_,cells,[]=>some cells
 |pl,cells,(i,v)::rest=>(pl i).ob fun x=>(cellsA v).ob fun c=>
    bq (Nat.beq c.length x.2&&Nat.ble (x.1+c.length) cells.length) (fillA pl (setFrom cells x.1 c) rest) none
def evBuild(t:TypeId)(parts:List (Nat×AV))(K:AV->Option β):Option β:=
 (zeroOf P t).ob fun z=>
 match P.underlying t with
 |some (.struct fs)=>(fs.toList.mapM fun f=>(P.info? f.type).map fun i=>(f.offset,i.size)).ob fun places=>(fillA (places.toArray[·]?) z parts).ob fun c=>K (.agg c)
 |some (.array _ e)=>(P.info? e).ob fun ie=>(fillA (fun i=>some (i*ie.size,ie.size)) z parts).ob fun c=>K (.agg c)
 |_=>none
def rowTy(H:Hp)(rb:Option Nat)(u:Ty):Ty:=
 match rb with
 |some b=>match hget H b with
  |some ⟨_,.rows _ t _⟩=>if t.unref=u then t else u
  |_=>u
 |none=>u
def evBuildSlice(t:TypeId)(len:Nat)(parts:List (Nat×AV))(vs:Bool)(rb:Option Nat)(id:Nat)(H:Hp)(K:AV->Hp->Option β):Option β:=
 match P.underlying t with
 |some (.slice e)=>(zeroOf P e).ob fun z=>(ty P e).ob fun u=>
  need (Nat.beq z.length u.cells&&Nat.ble (len*z.length) 16777216)<|
  (fillA (fun i=>some (i*P.cellsOf e,P.cellsOf e)) (List.replicate len z).flatten parts).ob fun c=>
  bq vs (need (Nat.beq u.cells 1)<|newAt H id (.vars c) fun H'=>K (.slf 1 id) H')<|
  pureLK H c fun cs H1=>asmN (asm (rowTy H rb u)) u.cells len cs fun l=>newAt H1 id (.rows e (rowTy H rb u) l) fun H'=>K (.slf u.cells id) H'
 |_=>none
def bitsI(op:BinOp)(k:IntKind)(a b:Int):Int:=
 match op with
 |.and=>k.wrap ((BitVec.ofInt k.bits a&&&BitVec.ofInt k.bits b).toNat:Int)
 |.or=>k.wrap ((BitVec.ofInt k.bits a|||BitVec.ofInt k.bits b).toNat:Int)
 |.xor=>k.wrap ((BitVec.ofInt k.bits a^^^BitVec.ofInt k.bits b).toNat:Int)
 |_=>k.wrap ((BitVec.ofInt k.bits a&&& ~~~BitVec.ofInt k.bits b).toNat:Int)
def sameK(op:BinOp)(k k':IntKind):Bool:=match op with|.shl|.shr=>true|_=>k==k'
def evInt(op:BinOp)(k:IntKind)(a b:Int)(K:AV->Option β):Option β:=
 match op with
 |.add=>K (.i k (k.wrap (a+b)))
 |.sub=>K (.i k (k.wrap (a-b)))
 |.mul=>K (.i k (k.wrap (a*b)))
 |.quo=>need (!decide (b=0))<|K (.i k (k.wrap (a.tdiv b)))
 |.rem=>need (!decide (b=0))<|K (.i k (a.tmod b))
 |.and|.or|.xor|.andNot=>K (.i k (bitsI op k a b))
 |.shl=>need (decide (0<=b))<|K (.i k (k.wrap (a*2^(min b.toNat k.bits))))
 |.shr=>need (decide (0<=b))<|K (.i k (a.fdiv (2^(min b.toNat k.bits))))
 |.eql=>K (.b (a==b))
 |.neq=>K (.b (!(a==b)))
 |.lss=>K (.b (decide (a<b)))
 |.leq=>K (.b (decide (a<=b)))
 |.gtr=>K (.b (decide (a>b)))
 |.geq=>K (.b (decide (a>=b)))
def evStr(op:BinOp)(a b:List UInt8)(K:AV->Option β):Option β:=
 match op with
 |.add=>need (Nat.ble (a.length+b.length) room)<|K (.s (a++b))
 |.eql=>K (.b (a==b))
 |.neq=>K (.b (!(a==b)))
 |.lss=>K (.b (Op.bytesLess a b))
 |.leq=>K (.b (Op.bytesLess a b||a==b))
 |.gtr=>K (.b (!(Op.bytesLess a b||a==b)))
 |.geq=>K (.b (!Op.bytesLess a b))
 |_=>none
def nilQ(n:Nat)(K:Bool->Option β):Option β:=
 @ite _ (n=0->K true=K false) (Classical.propDecidable _) (K false) none
def capQ(n:Nat)(K:Int->Option β):Option β:=
 @dite _ (∃r,∀c:Nat,n<=c->c<=9223372036854775807->K (c:Int)=some r) (Classical.propDecidable _) (fun h=>some h.choose) (fun _=>none)
def nilL{α:Type}:List α->Bool
 |[]=>true
 |_::_=>false
def eqNilP(a b:AV):Option Bool:=
 match a,b with
 |.p .opq (.pointer none),.p .opq (.pointer none)=>some true
 |.own _ _ _ _,.p .opq (.pointer none)=>some false
 |.p .opq (.pointer none),.own _ _ _ _=>some false
 |.pt _ _ _ _,.p .opq (.pointer none)=>some false
 |.p .opq (.pointer none),.pt _ _ _ _=>some false
 |.p (.ptr _) l,.p .opq (.pointer none)=>some (nilL l)
 |_,_=>none
def eqNilM(a b:AV):Option Bool:=
 match a,b with
 |.mp _,.p .opq (.map none)=>some false
 |.p .opq (.map none),.mp _=>some false
 |.p .opq (.map none),.p .opq (.map none)=>some true
 |_,_=>none
def eqNilF(a b:AV):Option Bool:=
 match a,b with
 |.p .opq .nilFunc,.p .opq .nilFunc=>some true
 |.fn _ _ _,.p .opq .nilFunc=>some false
 |.p .opq .nilFunc,.fn _ _ _=>some false
 |_,_=>none
def evEq(t:TypeId)(a b:AV)(H:Hp)(K:Bool->Option β):Option β:=
 match P.underlying t with
 |some (.pointer _)=>(eqNilP a b).ob K
 |some (.map _ _)=>(eqNilM a b).ob K
 |some (.func _ _ _)=>(eqNilF a b).ob K
 |some (.slice _)=>match a,b with
  |.p .opq (.slice none 0 0),.p .opq (.slice none 0 0)=>K true
  |a,.p .opq (.slice none 0 0)=>lenS H a fun n=>nilQ n K
  |.p .opq (.slice none 0 0),b=>lenS H b fun n=>nilQ n K
  |_,_=>none
 |_=>(ty P t).ob fun u=>need (eqT P typesFuel t u&& !P.eqGuardType P.depth t)<|asA u a fun x=>asA u b fun y=>K (u.eqb x y)
def evBin(op:BinOp)(t u:TypeId)(a b:AV)(H:Hp)(K:AV->Option β):Option β:=
 match P.underlying t with
 |some (.int k)=>match P.underlying u with
  |some (.int k')=>(a.int? k).ob fun x=>(b.int? k').ob fun y=>
   need (sameK op k k')<|evInt op k x y K
  |_=>none
 |some .string=>a.str?.ob fun x=>b.str?.ob fun y=>evStr op x y K
 |_=>match op with
  |.eql=>evEq P t a b H fun r=>K (.b r)
  |.neq=>evEq P t a b H fun r=>K (.b (!r))
  |_=>none
def evUn(op:UnOp)(t:TypeId)(a:AV)(K:AV->Option β):Option β:=
 match op,P.underlying t with
 |.not,some .bool=>a.bool?.ob fun x=>K (.b (!x))
 |.neg,some (.int k)=>(a.int? k).ob fun x=>K (.i k (k.wrap (0-x)))
 |.xor,some (.int k)=>(a.int? k).ob fun x=>K (.i k (bitsI .xor k (if k.signed then-1 else k.max) x))
 |_,_=>none
def minI:List Int->Int->Int
 |[],m=>m
 |y::r,m=>minI r (if y<m then y else m)
def maxI:List Int->Int->Int
 |[],m=>m
 |y::r,m=>maxI r (if y>m then y else m)
def ints?(k:IntKind):List AV->Option (List Int)
 |[]=>some []
 |a::r=>(a.int? k).ob fun n=>(ints? k r).map (n::·)
def evPick(t:TypeId)(c a b:AV)(K:AV->Option β):Option β:=
 c.bool?.ob fun q=>match P.underlying t with
  |some .bool=>match a.bool?,b.bool? with
   |some x,some y=>K (.b (bq q x y))
   |some x,none=>need q<|K (.b x)
   |none,some y=>need (!q)<|K (.b y)
   |none,none=>none
  |_=>bq q (K a) (K b)
end
end
end
end Go.Ab
namespace Go.Ab
noncomputable section
inductive Gh where
 |freeze (slot:Nat)
 |ownNil (slot:Nat) (e:TypeId) (id:Nat)
 |ownCell (blk off:Nat) (e:TypeId) (id:Nat)
 |renum (old new:Nat)
 |pure (slot:Nat)
 |frzB (blk:Nat)
 |pureCell (blk off:Nat)
 |newFam (f:Nat) (e:TypeId) (s:Ty)
 |toRef (blk:Nat) (t:Ty)
 |mem (slot f:Nat)
 |opn (slot m:Nat)
inductive Cn where
 |slot (k:Nat) (kd:Kd)
 |cell (b j:Nat) (kd:Kd)
 |key (id:Nat)
inductive AC where
 |skip
 |ret
 |exit (id:Nat)
 |seq (a b:AC)
 |cond (c:Operand) (a b:AC)
 |block (id:Nat) (a:AC)
 |loop (sh:LShp) (ret:Bool) (outs:List (Nat×LShp)) (a:AC)
 |region (id:Nat) (ops:List (Oper×Ann)) (draw:Bool)
 |join (sh:LShp) (ret:Bool) (outs:List (Nat×LShp)) (a:AC)
 |pre (g:Gh) (a:AC)
 |sel (q:Cn) (a b:AC)
 |post (g:Gh) (a:AC)
 |round (a r:AC)
 |bad (c:Code)
inductive Ov where
 |leaf
 |one (a:Ov)
 |two (a b:Ov)
 |loop (sh:LShp) (ret:Bool) (outs:List (Nat×LShp)) (a:Ov)
 |reg (l:List (Nat×Ann))
 |join (sh:LShp) (ret:Bool) (outs:List (Nat×LShp)) (a:Ov)
 |pre (g:Gh) (a:Ov)
 |sel (q:Cn) (a b:Ov)
 |post (g:Gh) (a:Ov)
 |round (a r:Ov)
def annAt:List (Nat×Ann)->Nat->Ann
 |[],_=>{}
 |(i,a)::r,k=>bq (Nat.beq i k) a (annAt r k)
def annOps(l:List (Nat×Ann)):Nat->List Oper->List (Oper×Ann)
 |_,[]=>[]
 |k,o::r=>(o,annAt l k)::annOps l (k+1) r
def plain:Code->AC
 |.ret=>.ret
 |.exit i=>.exit i
 |.seq a b=>.seq (plain a) (plain b)
 |.cond c a b=>.cond c (plain a) (plain b)
 |.block i a=>.block i (plain a)
 |.region i ops d=>.region i (annOps [] 0 ops.toList) d
 |.skip=>.skip
 |c=>.bad c
def build:Ov->Code->AC
 |.one x,.block i a=>.block i (build x a)
 |.two x y,.seq a b=>.seq (build x a) (build y b)
 |.two x y,.cond c a b=>.cond c (build x a) (build y b)
 |.loop sh rt outs x,.loop a=>.loop sh rt outs (build x a)
 |.reg l,.region i ops d=>.region i (annOps l 0 ops.toList) d
 |.join sh rt outs x,c=>.join sh rt outs (build x c)
 |.pre g x,c=>.pre g (build x c)
 |.sel q x y,c=>.sel q (build x c) (build y c)
 |.post g x,c=>.post g (build x c)
 |.round x y,.loop a=>.round (build x a) (build y (.loop a))
 |_,c=>plain c
def AC.wr:AC->List Nat
 |.seq a b=>a.wr++b.wr
 |.cond _ a b=>a.wr++b.wr
 |.block _ a=>a.wr
 |.loop _ _ _ a=>a.wr
 |.region _ ops _=>ops.filterMap (·.1.dst)
 |.join _ _ _ a=>a.wr
 |.pre (.ownNil k _ _) a=>k::a.wr
 |.pre (.pure k) a=>k::a.wr
 |.pre (.mem k _) a=>k::a.wr
 |.pre (.opn k _) a=>k::a.wr
 |.pre _ a=>a.wr
 |.sel _ a b=>a.wr++b.wr
 |.post (.ownNil k _ _) a=>k::a.wr
 |.post (.pure k) a=>k::a.wr
 |.post (.mem k _) a=>k::a.wr
 |.post (.opn k _) a=>k::a.wr
 |.post _ a=>a.wr
 |.round a r=>a.wr++r.wr
 |_=>[]
def pairIs(ps:List (Nat×Nat))(i k:Nat):Bool:=match noOf ps i with
 |some j=>Nat.beq j k
 |none=>false
def AC.rd:AC->Bool
 |.round _ _|.bad _=>true
 |_=>false
structure FnT where
 f:FuncId
 i:Shp
 os:List Shp
 spec:i.D->Option (OutS os)
abbrev Tbl:=List FnT
section
variable (P : Program) (T : Tbl)
section
variable {β : Type}
def unref1L(fms:List Fm):List AV->(List AV->Option β)->Option β
 |[],K=>K []
 |a::r,K=>unref1 fms a fun x=>unref1L fms r fun l=>K (x::l)
def low1L:List AV->(List AV->Option β)->Option β
 |[],K=>K []
 |a::r,K=>low1 a fun x=>low1L r fun l=>K (x::l)
def lowAK(a:AV)(K:AV->Option β):Option β:=
 match a with
 |.agg l=>low1L l fun l'=>K (.agg l')
 |a=>low1 a K
def anyRefL:List AV->Bool
 |[]=>false
 |a::r=>a.anyRef||anyRefL r
def unrefAK(H:Hp)(a:AV)(K:AV->Hp->Option β):Option β:=
 match a with
 |.agg l=>bq (anyRefL l) (unref1L (fmsOf (frzF H)) l fun l'=>K (.agg l') (frzF H)) (K (.agg l) H)
 |a=>bq a.anyRef (unref1 (fmsOf (frzF H)) a fun x=>K x (frzF H)) (K a H)
def pureFK(H:Hp)(a:AV)(K:AV->Hp->Option β):Option β:=pureAK H a fun x H'=>unrefAK H' x K
def pureF(H:Hp)(a:AV):Option (AV×Hp):=(pureA H a).ob fun x=>unrefAK x.2 x.1 fun y H'=>some (y,H')
def openM{α:Type}(ms:List (Nat×List α))(x:List α⊕Option (Nat×(Nat×Nat))):Option (List α×List (Nat×List α)):=
 match x with
 |.inl _=>none
 |.inr none=>some ([],ms)
 |.inr (some (k,off,n))=>ms[k]?.bind fun m=>need (Nat.beq m.1 1&&Nat.beq off 0&&Nat.ble n m.2.length) (some (m.2.take n,ms.set k (0,m.2)))
def openR{α:Type}(ms:List (Nat×List α))(x:List α⊕Option (Nat×(Nat×Nat))):Option (List α×List (Nat×List α)):=
 match x with
 |.inr (some (k,off,n))=>ms[k]?.bind fun m=>need (Nat.beq m.1 1&&Nat.beq off 0&&Nat.ble n m.2.length) (some (m.2.take n,ms.map fun m=>(0,m.2)))
 |_=>none
def openF{α:Type}(f:Nat)(ms:List (Nat×List α))(x:List α⊕Option (Nat×(Nat×Nat))):Option (List α×List (Nat×List α)):=bq (nro f) (openM ms x) (openR ms x)
def argM(H:Hp)(m:Nat)(a:AV):Option (AV×Hp):=
 match m with
 |0=>some (a,H)
 |1=>pureF H a
 |2=>(pureF H a).map fun x=>(x.1,H)
 |3=>lowAK a fun x=>some (x,H)
 |m=>match a with
  |.p (.ref f s) x=>match hget H (famId f) with
   |some ⟨false,.fam e s' ms⟩=>dq s' s (fun h=>need (Nat.beq e ((m-10)%5000)&& !hkey H (m+100000)&&Nat.blt (m+100000) famBase)<|(openF f ms (h▸(show List s.den⊕Option (Nat×(Nat×Nat)) from x))).bind fun y=>
    some (.slf s'.cells (m+100000),hset (hset H (famId f) (some ⟨false,.fam e s' y.2⟩)) (m+100000) (some ⟨false,.rows e s' y.1⟩))) none
   |_=>none
  |.p .opq (.slice none 0 0)=>(ty P ((m-10)%5000)).ob fun u=>bq (hkey H (m+100000)||Nat.ble famBase (m+100000)) none (some (.slf u.cells (m+100000),hset H (m+100000) (some ⟨false,.rows ((m-10)%5000) u []⟩)))
  |.sl es old 0 n=>match hget H old with
   |some ⟨false,.rows e t l⟩=>bq (Nat.beq es t.cells&& !hkey H (m+100000)&&Nat.blt (m+100000) famBase&&Nat.ble n l.length) (some (.slf es (m+100000),hset (hset H old none) (m+100000) (some ⟨false,.rows e t (l.take n)⟩))) none
   |_=>some (.sl es old 0 n,H)
  |a=>some (a,H)
def argsM:Hp->List Nat->List AV->Option (List AV×Hp)
 |H,_,[]=>some ([],H)
 |H,ms,a::r=>(argM P H (ms.headD 0) a).ob fun x=>(argsM x.2 ms.tail r).map fun y=>(x.1::y.1,y.2)
def argMK(H:Hp)(m:Nat)(a:AV)(K:AV->Hp->Option β):Option β:=
 match m with
 |0=>K a H
 |1=>pureFK H a K
 |2=>pureFK H a fun x _=>K x H
 |3=>lowAK a fun x=>K x H
 |m=>match a with
  |.p (.ref f s) x=>match hget H (famId f) with
   |some ⟨false,.fam e s' ms⟩=>dq s' s (fun h=>need (Nat.beq e ((m-10)%5000)&& !hkey H (m+100000)&&Nat.blt (m+100000) famBase)<|(openF f ms (h▸(show List s.den⊕Option (Nat×(Nat×Nat)) from x))).bind fun y=>
    K (.slf s'.cells (m+100000)) (hset (hset H (famId f) (some ⟨false,.fam e s' y.2⟩)) (m+100000) (some ⟨false,.rows e s' y.1⟩))) none
   |_=>none
  |.p .opq (.slice none 0 0)=>(ty P ((m-10)%5000)).ob fun u=>bq (hkey H (m+100000)||Nat.ble famBase (m+100000)) none (K (.slf u.cells (m+100000)) (hset H (m+100000) (some ⟨false,.rows ((m-10)%5000) u []⟩)))
  |.sl es old 0 n=>match hget H old with
   |some ⟨false,.rows e t l⟩=>bq (Nat.beq es t.cells&& !hkey H (m+100000)&&Nat.blt (m+100000) famBase&&Nat.ble n l.length) (K (.slf es (m+100000)) (hset (hset H old none) (m+100000) (some ⟨false,.rows e t (l.take n)⟩))) none
   |_=>K (.sl es old 0 n) H
  |a=>K a H
theorem r0Z{α γ:Type}(c:Bool)(a:α)(b:γ)(K:α->γ->Option β):bq c (K a b) none=(bq c (some (a,b)) none).ob fun x=>K x.1 x.2:=by cases c<;>rfl
theorem rkZ{α γ:Type}(c:Bool)(a:α)(b:γ)(K:α->γ->Option β):bq c none (K a b)=(bq c none (some (a,b))).ob fun x=>K x.1 x.2:=by cases c<;>rfl
theorem j3Z{α γ:Type}(x:Option α)(f:α->Option γ)(K:γ->Option β):(x.bind f).ob K=x.bind fun y=>(f y).ob K:=by cases x<;>rfl
theorem rJZ{α γ:Type}(x:Option α)(f:α->Option γ)(K:γ->Option β):(x.ob f).ob K=x.ob fun y=>(f y).ob K:=by cases x<;>rfl
theorem koZ{γ:Type}(c:Bool)(x y:Option γ)(K:γ->Option β):(bq c x y).ob K=bq c (x.ob K) (y.ob K):=by cases c<;>rfl
theorem mFZ{γ:Type}(c:Bool)(x:Option γ)(K:γ->Option β):(need c x).ob K=need c (x.ob K):=by cases c<;>rfl
theorem r4Z{γ:Type}{t u:Ty}(f:t=u->Option γ)(K:γ->Option β):(dq t u f none).ob K=dq t u (fun h=>(f h).ob K) none:=by
 unfold dq;simp only;split<;>rfl
theorem ikZ{γ:Type}(fms:List Fm)(a:AV)(f:AV->Option γ)(K:γ->Option β):(unref1 fms a f).ob K=unref1 fms a fun x=>(f x).ob K:=by
 unfold unref1;split<;>first|rfl|(rw[koZ,j3Z])|(rw[mFZ])
theorem gAZ{γ:Type}(fms:List Fm)(K:γ->Option β):∀(l:List AV) (f:List AV->Option γ),(unref1L fms l f).ob K=unref1L fms l fun x=>(f x).ob K
 |[],_=>rfl
 |a::r,f=>by
  unfold unref1L;rw[ikZ];congr 1;funext x;exact gAZ fms K r _
theorem ncZ{γ:Type}(a:AV)(f:AV->Option γ)(K:γ->Option β):(low1 a f).ob K=low1 a fun x=>(f x).ob K:=by
 unfold low1;split<;>first|rfl|(rw[koZ,j3Z])
theorem kcZ{γ:Type}(K:γ->Option β):∀(l:List AV) (f:List AV->Option γ),(low1L l f).ob K=low1L l fun x=>(f x).ob K
 |[],_=>rfl
 |a::r,f=>by
  unfold low1L;rw[ncZ];congr 1;funext x;exact kcZ K r _
theorem oWZ{γ:Type}(a:AV)(f:AV->Option γ)(K:γ->Option β):(lowAK a f).ob K=lowAK a fun x=>(f x).ob K:=by
 unfold lowAK;split
 ·exact kcZ _ _ _
 ·exact ncZ _ _ _
theorem kFZ{γ:Type}(H:Hp)(a:AV)(f:AV->Hp->Option γ)(K:γ->Option β):(unrefAK H a f).ob K=unrefAK H a fun x H'=>(f x H').ob K:=by
 unfold unrefAK;split
 ·rw[koZ,gAZ]
 ·rw[koZ,ikZ]
theorem eGZ(H:Hp)(a:AV)(K:AV->Hp->Option β):pureFK H a K=(pureF H a).ob fun x=>K x.1 x.2:=by
 unfold pureFK pureF;rw[mGZ,rJZ];congr 1;funext x;rw[kFZ]
 rfl
theorem kbZ(H:Hp)(m:Nat)(a:AV)(K:AV->Hp->Option β):argMK P H m a K=(argM P H m a).ob fun x=>K x.1 x.2:=by
 unfold argMK argM;split
 ·rfl
 ·exact eGZ _ _ _
 ·rw[eGZ];cases pureF H a<;>rfl
 ·rw[oWZ];rfl
 ·split
  ·rename_i f s x;rcases hget H (famId f) with _|⟨fz,b⟩
   ·rfl
   ·cases fz
    ·cases b
     case fam e s' ms=>
      simp only;rw[r4Z];congr 1;funext h;rw[mFZ,j3Z]
      rfl
     all_goals rfl
    ·rfl
  ·generalize ty P _=q;cases q with
   |none=>rfl
   |some u=>exact rkZ _ _ _ _
  ·rename_i es old n;rcases hget H old with _|⟨fz,b⟩
   ·rfl
   ·cases fz<;>cases b<;>first|rfl|exact r0Z _ _ _ _
  ·rfl
def argsMK:Hp->List Nat->List AV->(List AV->Hp->Option β)->Option β
 |H,_,[],K=>K [] H
 |H,ms,a::r,K=>argMK P H (ms.headD 0) a fun x H'=>argsMK H' ms.tail r fun l H''=>K (x::l) H''
theorem czZ:∀(l:List AV) (ms:List Nat) (H:Hp) (K:List AV->Hp->Option β),argsMK P H ms l K=(argsM P H ms l).ob fun x=>K x.1 x.2
 |[],_,_,_=>rfl
 |a::r,ms,H,K=>by
  unfold argsMK argsM;rw[kbZ];cases argM P H (ms.headD 0) a with
  |none=>rfl
  |some x=>
   show argsMK P x.2 ms.tail r _=_;rw[czZ r];show _=((argsM P x.2 ms.tail r).map _).ob _;cases argsM P x.2 ms.tail r<;>rfl
def setAll(H:Hp):Hp->Hp
 |[]=>H
 |(i,e)::r=>hset (setAll H r) i e
def killAll:Hp->List Nat->Hp
 |H,[]=>H
 |H,i::r=>killAll (hset H i none) r
def freshAll(H:Hp):List Nat->Bool
 |[]=>true
 |i::r=> !hkey H i&&freshAll H r
def tupA:List AV->AV
 |[a]=>a
 |l=>.tup l
def Ty.scal:Ty->Bool
 |.int _|.byte|.bool|.str|.nat=>true
 |.one t=>t.scal
 |.pair a b=>a.scal&&b.scal
 |.arr _ t=>t.scal
 |_=>false
def allFamIn(fs:List Nat):List Ty->Bool
 |[]=>true
 |t::r=>t.famIn fs&&allFamIn fs r
def allScal:List Ty->Bool
 |[]=>true
 |t::r=>t.scal&&allScal r
def evCall(e:FnT)(args:List AV)(an:Ann)(H:Hp)(K:AV->Hp->Option β):Option β:=
 argsMK P H an.md args fun x1 xH=>
 need (freshAll xH an.ids&&nodupN an.ids&&eqN (hkKeys e.i.hs) (shKeys 0 an.sh)&&(!memN 2 an.md||(e.os.all (fun o=>allScal o.tys)&&Nat.beq an.sh.length 0&&Nat.beq an.ids.length 0))&&(allFamIn (famNs (hkKeys e.i.hs)) e.i.tys&&(e.os.all fun o=>allFamIn (famNs (hkKeys o.hs)) o.tys))&&(statN an.ids&&Nat.ble (an.sh.length+an.ids.length) famBase))<|
 e.i.rco x1 xH (zipN an.sh (shKeys 0 an.sh)) fun t=>
 (e.spec t).bind fun r=>OutS.on e.os r fun o x2=>
  let all:=an.sh++an.ids
  let back:=zipN (shKeys 0 all) all
  o.embC x2 fun vs H2=>
  need (nodupN all&&nodupN (hkeys H2)&&allIn (hkeys H2) (fstN back))<|
  K (AV.ren (noOf back) (tupA vs)) (setAll (killAll xH an.sh) (renH H2 (noOf back) back))
def AV.fnv? :AV->Option (FuncId×List AV×List AV)
 |.fn f a c=>some (f,a,c)
 |.p .opq (.func (.func f) a c)=>bq (Nat.beq a.size 0&&Nat.beq c.size 0) (some (f,[],[])) none
 |_=>none
def findF(f:FuncId):Tbl->Option FnT
 |[]=>none
 |e::r=>bq (Nat.beq e.f f) (some e) (findF f r)
def tblAt(T:Tbl)(n:Nat)(f:FuncId):Option FnT:=
 match T[n]? with
 |some e=>bq (Nat.beq e.f f) (some e) (findF f T)
 |none=>none
def isR(o:Oper):Bool:=
 match o.op with
 |.move _|.assign _|.pick _ _ _|.build _ _|.load _ _|.nilCheck _|.binOp _ _ _ _ _|.unOp _ _ _|.makeFunc _ _ _|.slice _ _ _ _ _
 |.fieldAddr _ _ _|.field _ _ _|.indexAddr _ _ _|.index _ _ _|.extract _ _|.lookup _ _ _ _=>true
 |.convert _ d _=>match P.underlying d with
  |some (.slice _)=>false
  |_=>true
 |.call c=>match c.callee with
  |.builtin .len|.builtin .min|.builtin .max|.builtin .cap=>true
  |_=>false
 |_=>false
def evR(o:Oper)(r:Operand->AV)(H:Hp)(K:AV->Option β):Option β:=
 match o.op with
 |.move x|.assign x=>K (r x)
 |.pick c a b=>evPick P o.type (r c) (r a) (r b) K
 |.build t ps=>evBuild P t (ps.toList.map fun x=>(x.1,r x.2)) K
 |.load t a=>evLoad P t (r a) H K
 |.nilCheck x=>match r x with
  |.own es id i j=>K (.own es id i j)
  |.pt u l i j=>K (.pt u l i j)
  |.fn f a c=>K (.fn f a c)
  |.rp f es k i j=>K (.rp f es k i j)
  |.p (.ptr t) l=>need (!nilL (show List t.den from l)) (K (.pt t l 0 0))
  |_=>none
 |.binOp op t x y u=>evBin P op t u (r x) (r y) H K
 |.lookup t x ix c=>evLookup P t (r x) (r ix) c H K
 |.unOp op t x=>evUn P op t (r x) K
 |.convert s d x=>evConvert P s d (r x) H K
 |.makeFunc (.func f) a c=>K (.fn f (a.toList.map r) (c.toList.map r))
 |.slice t x lo hi none=>evSlice P t (r x) (lo.map r) (hi.map r) H K
 |.slice t x lo (some hi) (some mx)=>evSlice3 P t (r x) (lo.map r) (r hi) (r mx) K
 |.fieldAddr s x f=>evFieldAddr P s (r x) f K
 |.field s x f=>evField P s (r x) f K
 |.indexAddr t x ix=>evIndexAddr P t (r x) (r ix) H K
 |.index t x ix=>evIndex P t (r x) (r ix) K
 |.extract x i=>(r x).tup?.ob fun l=>l[i]?.ob K
 |.call c=>
  match c.callee with
  |.builtin .len=>match c.args.toList,c.argTypes.toList with
   |[a],[t]=>lenT P t H (r a) fun n=>K (.i .i64 (n:Int))
   |_,_=>none
  |.builtin .cap=>match c.args.toList,c.argTypes.toList with
   |[a],[t]=>match P.underlying t with
    |some (.slice _)=>match r a with
     |.p .opq (.slice none 0 0)=>K (.i .i64 0)
     |a=>lenS H a fun n=>capQ n fun m=>K (.i .i64 m)
    |_=>none
   |_,_=>none
  |.builtin .min=>match P.underlying o.type with
   |some (.int k)=>(ints? k (c.args.toList.map r)).ob fun l=>match l with
    |x::l=>K (.i k (minI l x))
    |[]=>none
   |_=>none
  |.builtin .max=>match P.underlying o.type with
   |some (.int k)=>(ints? k (c.args.toList.map r)).ob fun l=>match l with
    |x::l=>K (.i k (maxI l x))
    |[]=>none
   |_=>none
  |_=>none
 |_=>none
def evW(o:Oper)(an:Ann)(r:Operand->AV)(H:Hp)(K:AV->Hp->Option β):Option β:=
 match o.op with
 |.alloc t=>bq (nilL an.md) (evAlloc P t (an.ids.headD 0) H K) (evAlloc1 P t (an.ids.headD 0) H K)
 |.box t x=>bq (nilL an.md) (evBox P t (r x) (an.ids.headD 0) H K) (evBox1 P t (r x) (an.ids.headD 0) H K)
 |.buildSlice t n ps=>evBuildSlice P t n (ps.toList.map fun x=>(x.1,r x.2)) (Nat.beq (an.md.headD 0) 1) an.sh.head? (an.ids.headD 0) H K
 |.store t a x=>evStore P t (r a) (r x) H K
 |.convert s d x=>match P.underlying d with
  |some .string=>evConvert P s d (r x) H fun v=>K v H
  |_=>evConvertW P s d (r x) (an.ids.headD 0) H K
 |.makeSlice t l c=>evMake P t (r l) (r c) (an.ids.headD 0) H K
 |.makeMap t q=>evMakeMap P t (q.map r) an.md (an.ids.headD 0) H K
 |.mapUpdate t m k x|.insert t m k x=>evMapUpd P t (r m) (r k) (r x) H K
 |.call c=>
  match c.callee with
  |.builtin .append=>match c.args.toList,c.argTypes.toList with
   |[s,x],[t,u]=>match P.underlying u with
    |some (.int _)=>evAppendZ P t (r s) (r x) (an.ids.headD 0) H K
    |some (.slice _)=>evAppend P t (r s) (r x) (an.ids.headD 0) H K
    |some .string=>evAppend P t (r s) (r x) (an.ids.headD 0) H K
    |_=>none
   |_,_=>none
  |.builtin .copy=>match c.args.toList,c.argTypes.toList with
   |[d,x],t::_=>evCopy P t (r d) (r x) H K
   |_,_=>none
  |.builtin .clear=>match c.args.toList,c.argTypes.toList with
   |[d],[t]=>evClear P t (r d) H K
   |_,_=>none
  |.value f=>(r f).fnv?.ob fun x=>match tblAt T an.fn x.1 with
   |some e=>evCall P e (x.2.1++c.args.toList.map r++x.2.2) an H K
   |none=>none
  |_=>none
 |_=>none
def ev1(o:Oper)(an:Ann)(st:St)(K:St->Option β):Option β:=
 bq (isR P o) (evR P o st.opnd st.hp fun v=>K (st.putO o.dst v)) (evW P T o an st.opnd st.hp fun v H=>K {st.putO o.dst v with hp:=H})
def St.skip(st:St)(o:Oper):St:=st.putO o.dst (.tup [])
def evG(all:List Oper)(o:Oper)(st:St)(go skip:St->Option β):Option β:=
 bq (dstOk st.nt o.dst) (match o.guard with
  |none=>go st
  |some (j,want)=>((all[j]?).ob (·.dst)).ob fun d=>need (Nat.blt d 1048576)<|
   match st.tm.get d with
   |.tup []=>skip (st.skip o)
   |a=>a.bool?.ob fun t=>
    bq t ((bq want (go {st with tm:=st.tm.put d (.b true)}) (skip (St.skip {st with tm:=st.tm.put d (.b true)} o)))) ((bq want (skip (St.skip {st with tm:=st.tm.put d (.b false)} o)) (go {st with tm:=st.tm.put d (.b false)})))) none
def evOps:List (Oper×Ann)->List Oper->St->(St->Option β)->Option β
 |[],_,st,K=>K st
 |(o,an)::rest,all,st,K=>evG all o st (fun st=>ev1 P T o (an.at st.hp) st fun st'=>evOps rest all st' K) (fun st=>evOps rest all st K)
def nubN:List Nat->List Nat
 |[]=>[]
 |i::r=>bq (memN i r) (nubN r) (i::nubN r)
def Ty.fams:Ty->List Nat
 |.ref f t=>famId f::t.fams
 |.sl t=>t.fams
 |.one t=>t.fams
 |.pair a b=>a.fams++b.fams
 |.arr _ t=>t.fams
 |_=>[]
def famOne:AV->List Nat
 |.p t _=>t.fams
 |_=>[]
def famOnes:List AV->List Nat
 |[]=>[]
 |a::l=>famOne a++famOnes l
def famAV:AV->List Nat
 |.agg l=>famOnes l
 |a=>famOne a
def famAVs:List AV->List Nat
 |[]=>[]
 |a::l=>famAV a++famAVs l
def footIds(o:Oper)(r:Operand->AV):List Nat:=
 match o.op with
 |.move _|.fieldAddr _ _ _|.field _ _ _|.extract _ _=>[]
 |.store _ a x=>match r a with
  |.own 0 id _ _=>[id]
  |y=>AV.idsL [y,r x]
 |.call _=>AV.idsL (o.op.operands.toList.map r)++famAVs (o.op.operands.toList.map r)
 |_=>AV.idsL (o.op.operands.toList.map r)
def foot(o:Oper)(an:Ann)(r:Operand->AV):List Nat:=nubN (an.sh++an.ids++footIds o r)
def isFz(H:Hp)(i:Nat):Bool:=Nat.blt i famBase&&(match hget H i with|some ⟨true,_⟩=>true|_=>false)
def fzIds(H:Hp):List Nat->List Nat
 |[]=>[]
 |i::r=>bq (isFz H i) (i::fzIds H r) (fzIds H r)
def wrIds(H:Hp):List Nat->List Nat
 |[]=>[]
 |i::r=>bq (isFz H i) (wrIds H r) (i::wrIds H r)
def hsub(H:Hp):List Nat->Hp
 |[]=>[]
 |i::r=>bq (hkey H i) ((i,hget H i)::hsub H r) (hsub H r)
def mdIn:List Nat->List Nat->Bool
 |[],_=>true
 |m::r,l=>(Nat.blt m 4||memN (m+100000) l)&&mdIn r l
def mkOp(o:Oper):Bool:=
 match o.op with
 |.alloc _|.box _ _|.buildSlice _ _ _|.makeSlice _ _ _|.makeMap _ _=>true
 |.convert s _ _=>match P.underlying s with|some .string=>true|_=>false
 |.call c=>match c.callee with|.builtin .append=>true|_=>false
 |_=>false
def natBin(t:TypeId):Bool:=match P.underlying t with|some (.slice _)=>false|_=>true
def natR(o:Oper):Bool:=
 match o.op with
 |.binOp _ t _ _ _=>natBin P t
 |.call c=>match c.callee with
  |.builtin .cap=>false
  |_=>true
 |_=>true
def ev1D(o:Oper)(an:Ann)(st:St)(K:St->Option β):Option β:=
 bq (isR P o) (need (natR P o)<|evR P o st.opnd (hsub st.hp (foot o an st.opnd)) fun v=>K (st.putO o.dst v))
  (need ((!mkOp P o|| !Nat.beq an.ids.length 0)&&mdIn an.md (foot o an st.opnd))<|evW P T o an st.opnd (hsub st.hp (foot o an st.opnd)) fun v H=>
   need (allIn (hkeys H) (foot o an st.opnd)&&statN (foot o an st.opnd))<|K {st.putO o.dst v with hp:=setAll (setAll (killAll st.hp (foot o an st.opnd)) H) (hsub st.hp (fzIds st.hp (foot o an st.opnd)))})
structure Fp where
 i:Nat
 fp:List Nat
 wr:List Nat
def meetN:List Nat->List Nat->Bool
 |[],_=>false
 |i::r,l=>memN i l||meetN r l
def clash(a b:Fp):Bool:=meetN a.wr b.fp||meetN b.wr a.fp
def closN(done:List (Nat×List Nat)):List Edge->List Nat
 |[]=>[]
 |e::r=>bq (Region.binds .any e) (e.on::((done.lookup e.on).getD []++closN done r)) (closN done r)
def clos:Nat->List Oper->List (Nat×List Nat)->List (Nat×List Nat)
 |_,[],done=>done
 |i,o::r,done=>clos (i+1) r ((i,nubN (closN done o.after.toList))::done)
def pairOk(cl:List (Nat×List Nat))(a b:Fp):Bool:= !clash a b||memN a.i ((cl.lookup b.i).getD [])
def pairsOk(cl:List (Nat×List Nat)):List Fp->Bool
 |[]=>true
 |b::r=>(r.all fun a=>pairOk cl a b)&&pairsOk cl r
structure Nm where
 i:Nat
 cl:List Nat
 rd:List Nat
 wr:Option Nat
def tmpsOf:List Operand->List Nat
 |[]=>[]
 |.tmp t::r=>t::tmpsOf r
 |.global g::r=>(1048576+g)::tmpsOf r
 |_::r=>tmpsOf r
def guardOf(all:List Oper)(o:Oper):List Nat:=
 match o.guard with
 |some (g,_)=>(match all[g]? with|some x=>(match x.dst with|some d=>[d]|none=>[])|none=>[])
 |none=>[]
def nms(cl:List (Nat×List Nat))(all:List Oper):Nat->List Oper->List Nm
 |_,[]=>[]
 |i,o::r=>⟨i,(cl.lookup i).getD [],guardOf all o++tmpsOf o.op.operands.toList,o.dst⟩::nms cl all (i+1) r
def hasN(l:List Nat):Option Nat->Bool
 |none=>false
 |some d=>memN d l
def sameO:Option Nat->Option Nat->Bool
 |some a,some b=>Nat.beq a b
 |_,_=>false
def apartN(a b:Nm):Bool:= !hasN b.rd a.wr&& !hasN a.rd b.wr&& !sameO a.wr b.wr
def nmAll(a:Nm):List Nm->Bool
 |[]=>true
 |b::r=>(memN a.i b.cl||apartN a b)&&nmAll a r
def nmsOk:List Nm->Bool
 |[]=>true
 |a::r=>nmAll a r&&nmsOk r
def edgesLt(i:Nat):List Edge->Bool
 |[]=>true
 |e::r=>(!Region.binds .any e||Nat.blt e.on i)&&edgesLt i r
def edgesOk:Nat->List Oper->Bool
 |_,[]=>true
 |i,o::r=>edgesLt i o.after.toList&&(match o.op with|.select _ _=>false|_=>true)&&edgesOk (i+1) r
def evOpsD:List (Nat×Oper×Ann)->List Oper->St->List Fp->(St->List Fp->Option β)->Option β
 |[],_,st,fs,K=>K st fs
 |(i,o,an)::rest,all,st,fs,K=>
  evG all o st (fun st=>ev1D P T o (an.at st.hp) st fun st'=>evOpsD rest all st' (⟨i,foot o (an.at st.hp) st.opnd,bq (isR P o) [] (wrIds st.hp (foot o (an.at st.hp) st.opnd))⟩::fs) K) (fun st=>evOpsD rest all st fs K)
def numb{α:Type}:Nat->List α->List (Nat×α)
 |_,[]=>[]
 |k,a::r=>(k,a)::numb (k+1) r
def Cn.holds(st:St):Cn->Bool
 |.slot k kd=>kd.fits (st.tm.get k)
 |.cell b j kd=>match hget st.hp b with
  |some ⟨_,.vars c⟩=>kd.fits (c.getD j .junk)
  |_=>false
 |.key id=>match hget st.hp id with
  |some _=>true
  |none=>false
def renF(old new:Nat)(id:Nat):Option Nat:=bq (Nat.beq id old) (some new) (some id)
def Tr.ren(f:Nat->Option Nat):Tr->Tr
 |.lf=>.lf
 |.nd l v r=>.nd (l.ren f) (AV.ren f v) (r.ren f)
def mapHp(f:Nat->Option Nat):Hp->Hp
 |[]=>[]
 |(i,some e)::r=>(i,some (e.ren f))::mapHp f r
 |(i,none)::r=>(i,none)::mapHp f r
def ghost(g:Gh)(st:St):Option St:=
 match g with
 |.renum old new=>match hget st.hp old with
  |some e=>bq (hkey st.hp new||Nat.ble famBase new||Nat.ble famBase old) none (some {st with tm:=st.tm.ren (renF old new),hp:=hset (hset (mapHp (renF old new) st.hp) old none) new (some (e.ren (renF old new)))})
  |none=>none
 |.pure k=>(pureF st.hp (st.tm.get k)).map fun x=>{st with tm:=st.tm.put k x.1,hp:=x.2}
 |.freeze k=>some {st with hp:=frzA st.hp (st.tm.get k)}
 |.frzB id=>some {st with hp:=frz st.hp id}
 |.pureCell b o=>match hget st.hp b with
  |some ⟨false,.vars c⟩=>match c[o]? with
   |some a=>match pureF st.hp a with
    |some (x,H')=>match hget H' b with
     |some ⟨false,.vars _⟩=>some {st with hp:=hset H' b (some ⟨false,.vars (c.set o x)⟩)}
     |_=>none
    |none=>some st
   |none=>some st
  |_=>some st
 |.ownNil k e id=>match st.tm.get k with
  |.p .opq (.slice none 0 0)=>(ty P e).ob fun u=>bq (hkey st.hp id||Nat.ble famBase id) none (some {st with tm:=st.tm.put k (.slf u.cells id),hp:=hset st.hp id (some ⟨false,.rows e u []⟩)})
  |_=>some st
 |.ownCell b o e id=>match hget st.hp b with
  |some ⟨false,.vars c⟩=>match c[o]? with
   |some (.p .opq (.slice none 0 0))=>(ty P e).ob fun u=>bq (hkey st.hp id||Nat.ble famBase id) none (some {st with hp:=hset (hset st.hp b (some ⟨false,.vars (c.set o (.slf u.cells id))⟩)) id (some ⟨false,.rows e u []⟩)})
   |_=>some st
  |_=>some st
 |.newFam f e s=>bq (hkey st.hp (famId f)|| !s.noRef||Nat.beq s.cells 0) none (some {st with hp:=hset st.hp (famId f) (some ⟨false,.fam e s []⟩)})
 |.mem k f=>match hget st.hp (famId f) with
  |some ⟨false,.fam _ s _⟩=>(abs1 st.hp (.ref f s) (st.tm.get k)).map fun x=>{st with tm:=st.tm.put k x.1,hp:=x.2}
  |_=>none
 |.opn k m=>bq (Nat.blt m 10) none ((argM P st.hp m (st.tm.get k)).map fun x=>{st with tm:=st.tm.put k x.1,hp:=x.2})
 |.toRef id t=>match hget st.hp id with
  |some ⟨false,.rows e u l⟩=>dq u t.unref (fun h=>some {st with hp:=hset st.hp id (some ⟨false,.rows e t ((Ty.toL h l).map (liftT t))⟩)}) none
  |_=>none
def ghostK{β:Type}(g:Gh)(st:St)(K:St->Option β):Option β:=
 match g with
 |.pureCell b o=>match hget st.hp b with
  |some ⟨false,.vars c⟩=>match c[o]? with
   |some a=>pureFK st.hp a fun x H'=>match hget H' b with
    |some ⟨false,.vars _⟩=>K {st with hp:=hset H' b (some ⟨false,.vars (c.set o x)⟩)}
    |_=>none
   |none=>K st
  |_=>K st
 |.opn k m=>bq (Nat.blt m 10) none (argMK P st.hp m (st.tm.get k) fun x H'=>K {st with tm:=st.tm.put k x,hp:=H'})
 |g=>(ghost P g st).ob K
end
def Out.retO{β γ:Type}:(ret:Bool)->(l:List (Nat×LShp))->β->(Out ret l β->Option γ)->Option γ
 |true,l,b,K=>K (Out.ret l b)
 |false,_,_,_=>none
variable (fu : Nat)
def evS:{β:Type}->AC->St->(St->Option β)->(Nat->St->Option β)->(St->Option β)->Option β
 |_,.skip,st,K,_,_=>K st
 |_,.ret,st,_,_,R=>R st
 |_,.exit i,st,_,X,_=>X i st
 |_,.seq a b,st,K,X,R=>evS a st (fun st'=>evS b st' K X R) X R
 |_,.cond c a b,st,K,X,R=>(st.opnd c).bool?.ob fun t=>bq t (evS a st K X R) (evS b st K X R)
 |_,.block i a,st,K,X,R=>evS a st K (fun j st'=>bq (Nat.beq j i) (K st') (X j st')) R
 |β,.loop sh rt outs a,st,K,X,R=>
  st.prj sh fun t0=>
  (iter fu (fun t=>evS (β:=sh.D⊕Out rt outs β) a (sh.inj ((st.tm.keep).junk a.wr) st.nt st.n0 t) (fun st''=>st''.prj sh fun t'=>some (.inl t'))
   (fun i st''=>Out.mk st'' rt outs i fun o=>some (.inr o))
   (fun st''=>(R st'').ob fun b=>Out.retO rt outs b fun o=>some (.inr o))) t0).bind fun o=>
  Out.on ((st.tm.keep).junk a.wr) st.nt st.n0 rt outs o X some
 |_,.region _ ops draw,st,K,_,_=>bq draw (need (edgesOk 0 (ops.map (·.1))&&nmsOk (nms (clos 0 (ops.map (·.1)) []) (ops.map (·.1)) 0 (ops.map (·.1))))<|evOpsD P T (numb 0 ops) (ops.map (·.1)) st [] fun st' fs=>need (pairsOk (clos 0 (ops.map (·.1)) []) fs)<|K st') (evOps P T ops (ops.map (·.1)) st K)
 |β,.join sh rt outs a,st,K,X,R=>
  (evS (β:=Out rt ((0,sh)::outs) β) a st (fun st''=>Out.mk st'' rt ((0,sh)::outs) 0 some)
   (fun i st''=>Out.mk st'' rt ((0,sh)::outs) (i+1) some)
   (fun st''=>(R st'').ob fun b=>Out.retO rt ((0,sh)::outs) b some)).bind fun o=>
  Out.on ((st.tm.keep).junk a.wr) st.nt st.n0 rt ((0,sh)::outs) o (fun i st''=>match i with|0=>K st''|i+1=>X i st'') some
 |_,.pre g a,st,K,X,R=>ghostK P g st fun st'=>evS a st' K X R
 |_,.sel q a b,st,K,X,R=>bq (Cn.holds st q) (evS a st K X R) (evS b st K X R)
 |_,.post g a,st,K,X,R=>evS a st (fun st'=>ghostK P g st' K) X R
 |_,.round a r,st,K,X,R=>need r.rd<|evS a st (fun st'=>evS r st' K X R) X R
 |_,.bad _,_,_,_,_=>none
structure FnA where
 ov:Ov
 i:Shp
 os:List Shp
 md:List Nat
def initTm:Tr->Nat->List AV->Tr
 |t,_,[]=>t
 |t,k,a::r=>initTm (t.put k a) (k+1) r
def loadRes{β:Type}:List ResultVar->St->(List AV->Option β)->Option β
 |[],_,K=>K []
 |.tmp t::r,st,K=>loadRes r st fun l=>K (st.opnd (.tmp t)::l)
 |.cell a t::r,st,K=>evLoad P t (st.opnd (.tmp a)) st.hp fun v=>loadRes r st fun l=>K (v::l)
def fin(fn:Func)(fa:FnA)(st:St):Option (OutS fa.os):=
 loadRes P fn.results.toList st fun l=>argsMK P st.hp fa.md l fun x1 xH=>
  let n:=(statK (hkKeys fa.i.hs)).length
  let ids:=reach xH reachFuel (rangeN 0 n++AV.idsL x1) []
  let news:=ids.filter fun i=> !Nat.blt i n
  let olds:=ids.filter fun i=>Nat.blt i n
  OutS.rco x1 xH (zipN (olds++news) (olds++rangeN n news.length)++diagN (famK (hkeys xH))) fa.os some
def depth(n:Nat):Nat:=Nat.log2 n+1
def Tr.lay:Nat->Tr->Nat->AV->Tr
 |0,t,_,_=>t
 |f+1,t,n,a=>match t with
  |.lf=>bq (Nat.beq n 0) (.nd .lf a .lf) (bq (Nat.beq (n%2) 1) (.nd (Tr.lay f .lf (n/2) a) .junk .lf) (.nd .lf .junk (Tr.lay f .lf (n/2-1) a)))
  |.nd l v r=>bq (Nat.beq n 0) (.nd l a r) (bq (Nat.beq (n%2) 1) (.nd (Tr.lay f l (n/2) a) v r) (.nd l v (Tr.lay f r (n/2-1) a)))
def evFG(g:Nat)(fn:Func)(fa:FnA)(t:fa.i.D):Option (OutS fa.os):=
 fa.i.embC t fun vs H=>
 need (eqN (hkKeys fa.i.hs) (shKeys 0 (hkKeys fa.i.hs))&& !memN 2 fa.md&&(Nat.ble fa.i.hs.length famBase&&fa.os.all fun o=>allFamIn (famNs (hkKeys o.hs)) o.tys&&allIn (famK (hkKeys fa.i.hs)) (famK (hkKeys o.hs))))<|
 need (Nat.ble vs.tail.length 1048576)<|
 fn.body.ob fun c=>evS P T fu (build fa.ov c) ⟨Tr.lay 30 (initTm (Tr.full (depth fn.ntmps)) 0 vs.tail) (1048576+g) (vs.headD .junk),fn.ntmps,(statK (hkKeys fa.i.hs)).length,H⟩ (fin P fn fa) (fun _ _=>none) (fin P fn fa)
def evF(fn:Func)(fa:FnA)(t:fa.i.D):Option (OutS fa.os):=
 fa.i.embC t fun vs H=>
 need (eqN (hkKeys fa.i.hs) (shKeys 0 (hkKeys fa.i.hs))&& !memN 2 fa.md&&(Nat.ble fa.i.hs.length famBase&&fa.os.all fun o=>allFamIn (famNs (hkKeys o.hs)) o.tys&&allIn (famK (hkKeys fa.i.hs)) (famK (hkKeys o.hs))))<|
 need (Nat.ble vs.length 1048576)<|
 fn.body.ob fun c=>evS P T fu (build fa.ov c) ⟨initTm (Tr.full (depth fn.ntmps)) 0 vs,fn.ntmps,(statK (hkKeys fa.i.hs)).length,H⟩ (fin P fn fa) (fun _ _=>none) (fin P fn fa)
end
end
end Go.Ab
namespace Go.Ab
inductive RB where
 |no
 |virt
 |real (g sz n:Nat)
abbrev Rho:=Nat->RB
structure Z where
 w:World
 M:Nat->Prop
 C:Nat->Prop
 ρ:Rho
 D:Nat->Prop
def SameDyn(ρ ρ':Rho):Prop:=∀id,dynBase<=id->ρ id≠.no->ρ' id=ρ id
theorem SameDyn.of{ρ ρ':Rho}(h:∀id,ρ id≠.no->ρ' id=ρ id):SameDyn ρ ρ':=fun id _=>h id
theorem SameDyn.eq{ρ ρ':Rho}(h:ρ'=ρ):SameDyn ρ ρ':=fun _ _ _=>by rw[h]
def Cl(w:World)(M:Nat->Prop)(ρ:Rho):(t:Ty)->t.den->List Value->Prop
 |.int k,n,vs=>vs=[.int k n]
 |.byte,c,vs=>vs=[.int .u8 (c.toNat:Int)]
 |.bool,b,vs=>vs=[.bool b]
 |.str,l,vs=>vs=[.string ⟨⟨l⟩⟩]
 |.opq,v,vs=>vs=[v]/\v.oneCell'=true
 |.nat,_,_=>False
 |.one t,x,vs=>Cl w M ρ t x vs
 |.pair a b,x,vs=>∃u v,vs=u++v/\Cl w M ρ a x.1 u/\Cl w M ρ b x.2 v
 |.arr n t,l,vs=>List.length (α:=t.den) l=n/\∃css:List (List Value),css.length=n/\vs=css.flatten/\∀(i:Nat) (e:t.den) u,(show List t.den from l)[i]? =some e->css[i]? =some u->Cl w M ρ t e u
 |.sl t,l,vs=>∃A c,vs=[.slice A (List.length (α:=t.den) l) c]/\List.length (α:=t.den) l<=c/\c<=maxLen/\(A=none->c=0)/\
  (List.length (α:=t.den) l≠0->∃b off,A=some ⟨b,off,none⟩/\¬M b/\b<w.heap.size/\
   ∀(i:Nat) (e:t.den),(show List t.den from l)[i]? =some e->∃u,Cl w M ρ t e u/\w.rangeAt b (off+i*t.cells) u)
 |.ptr t,l,vs=>(List.length (α:=t.den) l=0/\vs=[.pointer none])\/
  (List.length (α:=t.den) l≠0/\∃b off,vs=[.pointer (some ⟨b,off,none⟩)]/\¬M b/\b<w.heap.size/\
   ∀(i:Nat) (e:t.den),(show List t.den from l)[i]? =some e->∃u,Cl w M ρ t e u/\w.rangeAt b (off+i*t.cells) u)
 |.ref f t,x,vs=>match x with
  |.inl l=>∃A c,vs=[.slice A (List.length (α:=t.den) l) c]/\List.length (α:=t.den) l<=c/\c<=maxLen/\(A=none->c=0)/\
   (List.length (α:=t.den) l≠0->∃b off,A=some ⟨b,off,none⟩/\¬M b/\b<w.heap.size/\
    ∀(i:Nat) (e:t.den),(show List t.den from l)[i]? =some e->∃u,Cl w M ρ t e u/\w.rangeAt b (off+i*t.cells) u)
  |.inr none=>vs=[.slice none 0 0]
  |.inr (some (k,off,n))=>(∃A,ρ (enc f k)= .virt/\n=0/\vs=[.slice A 0 0])\/
   ∃g sz m c,ρ (enc f k)= .real g sz m/\n<=c/\(off+c)*t.cells<=sz/\c<=maxLen/\vs=[.slice (some ⟨g,off*t.cells,none⟩) n c]
def VRep(w:World)(M:Nat->Prop)(ρ:Rho)(t:Ty)(x:t.den)(v:Value):Prop:=
 ∃vs,Cl w M ρ t x vs/\v=(bif t.isAgg then .agg vs.toArray else vs.headD undef)
def RowAt(w:World)(M:Nat->Prop)(ρ:Rho)(b off:Nat)(t:Ty)(l:List t.den):Prop:=
 ∀(i:Nat) e,l[i]? =some e->∃u,Cl w M ρ t e u/\w.rangeAt b (off+i*t.cells) u
inductive ARep (z:Z):AV->Value->Prop
 |p (t:Ty) (x:t.den) (v:Value) (h:VRep z.w z.M z.ρ t x v):ARep z (.p t x) v
 |pt (t:Ty) (l:List t.den) (i j b off:Nat) (hM:¬z.M b) (hlt:b<z.w.heap.size) (h:RowAt z.w z.M z.ρ b off t l):ARep z (.pt t l i j) (.pointer (some ⟨b,off+i*t.cells+j,none⟩))
 |own (es id i j g sz n:Nat) (h:z.ρ id= .real g sz n):ARep z (.own es id i j) (.pointer (some ⟨g,i*es+j,none⟩))
 |rp (f es k i j g sz n:Nat) (h:z.ρ (enc f k)= .real g sz n):ARep z (.rp f es k i j) (.pointer (some ⟨g,i*es+j,none⟩))
 |slV (es id off:Nat) (A:Option Addr) (h:z.ρ id= .virt):ARep z (.sl es id off 0) (.slice A 0 0)
 |slE (es id off g sz m o:Nat) (h:z.ρ id= .real g sz m):ARep z (.sl es id off 0) (.slice (some ⟨g,o,none⟩) 0 0)
 |sl (es id off n g sz m c:Nat) (h:z.ρ id= .real g sz m) (hn:n<=c) (hs:(off+c)*es<=sz) (hm:c<=maxLen):ARep z (.sl es id off n) (.slice (some ⟨g,off*es,none⟩) n c)
 |slfV (es id:Nat) (A:Option Addr) (h:z.ρ id= .virt):ARep z (.slf es id) (.slice A 0 0)
 |slf (es id g sz n c:Nat) (h:z.ρ id= .real g sz n) (hn:n<=c) (hs:c*es<=sz) (hm:c<=maxLen):ARep z (.slf es id) (.slice (some ⟨g,0,none⟩) n c)
 |mp (id g sz n:Nat) (h:z.ρ id= .real g sz n):ARep z (.mp id) (.map (some g))
 |fn (f:FuncId) (a c:List AV) (va vc:Array Value) (ha:va.size=a.length) (hc:vc.size=c.length)
  (h1:∀(i:Nat) (x:AV) (v:Value),a[i]? =some x->va[i]? =some v->ARep z x v)
  (h2:∀(i:Nat) (x:AV) (v:Value),c[i]? =some x->vc[i]? =some v->ARep z x v):ARep z (.fn f a c) (.func (.func f) va vc)
 |agg (l:List AV) (cs:Array Value) (hs:cs.size=l.length) (h1:∀v∈cs,v.oneCell'=true)
  (h:∀(i:Nat) (x:AV) (v:Value),l[i]? =some x->cs[i]? =some v->ARep z x v):ARep z (.agg l) (.agg cs)
 |tup (l:List AV) (vs:Array Value) (hs:vs.size=l.length)
  (h:∀(i:Nat) (x:AV) (v:Value),l[i]? =some x->vs[i]? =some v->ARep z x v):ARep z (.tup l) (.tuple vs)
 |junk (v:Value):ARep z .junk v
def okF(cs:Array Value)(fr:Nat×Nat):Prop:=fr.1=fr.2\/cs.size<=fr.1
def okR(t:Ty)(cs:Array Value)(fr:Nat×Nat):Prop:=fr.1=fr.2\/(t= .byte/\cs.size<=fr.1)
theorem okR.f{t:Ty}{cs:Array Value}{fr:Nat×Nat}(h:okR t cs fr):okF cs fr:=h.imp id fun h=>h.2
theorem djZ{t:Ty}{cs cs':Array Value}{fr:Nat×Nat}(h:okR t cs fr)(hs:cs'.size=cs.size):okR t cs' fr:=by unfold okR at*;rw[hs];exact h
theorem okR0{t:Ty}(cs:Array Value):okR t cs (0,0):=.inl rfl
def BRep(z:Z)(g sz n:Nat):Blk->Prop
 |.vars c=>∃cs e fr,z.w.heap[g]? =some (.cells cs e fr)/\okF cs fr/\cs.size=sz/\(c.length=sz/\n=sz)/\(∀(i:Nat) a v,c[i]? =some a->cs[i]? =some v->ARep z a v)/\∀v∈cs,v.oneCell'=true
 |.rows e t l=>∃cs fr,z.w.heap[g]? =some (.cells cs e fr)/\okR t cs fr/\cs.size=sz/\l.length=n/\l.length*t.cells<=sz/\0<t.cells/\
  (∀(i:Nat) x,l[i]? =some x->∃u,Cl z.w z.M z.ρ t x u/\∀(j:Nat) v,u[j]? =some v->cs[i*t.cells+j]? =some v)
 |.map k v m=>∃es,z.w.heap[g]? =some (.map es m.2)/\es.size=m.1.length/\(∀(i:Nat) x e,m.1[i]? =some x->es[i]? =some e->VRep z.w z.M z.ρ k x.1.1 e.key/\VRep z.w z.M z.ρ v x.1.2 e.val/\e.born=x.2)/\
  (∀(i j:Nat) x y,m.1[i]? =some x->m.1[j]? =some y->x.2=y.2->i=j)/\(∀(i:Nat) x,m.1[i]? =some x->x.2<m.2)
 |.fmap k l=>∃es clock,z.w.heap[g]? =some (.map es clock)/\es.size=l.length/\(∀(i:Nat) x e,l[i]? =some x->es[i]? =some e->VRep z.w z.M z.ρ k x.1 e.key/\ARep z x.2 e.val)
 |.fam _ _ _=>False
def BEmpty:Blk->Prop
 |.rows _ t l=>l=[]/\0<t.cells
 |_=>False
def ERep(z:Z)(id:Nat)(e:Ent):Prop:=
 match z.ρ id with
 |.no=>False
 |.virt=>BEmpty e.b
 |.real g sz n=>g<z.w.heap.size/\(e.fz=false->z.C g)/\(e.fz=true->¬z.M g)/\BRep z g sz n e.b
def rt(id:Nat):Nat:=if dynBase<=id then famBase+(id-dynBase)%16 else id
def pick(k:Nat)(e:Ent):Option Ent:=
 match e.b with
 |.fam e' s ms=>match ms[k]? with
  |some (st,l)=>if st=0 then none else some ⟨e.fz||Nat.ble 2 st,.rows e' s l⟩
  |none=>none
 |_=>none
def hgetX(H:Hp)(id:Nat):Option Ent:=
 if dynBase<=id then(hget H (rt id)).bind (pick ((id-dynBase)/16)) else if famBase<=id then none else hget H id
def Ent.has(k:Nat)(e:Ent):Bool:=
 match e.b with
 |.fam _ _ ms=>decide (k<ms.length)
 |_=>true
def hkeyX(H:Hp)(id:Nat):Bool:=
 if dynBase<=id then(match hget H (rt id) with|some e=>e.has ((id-dynBase)/16)|none=>hkey H (rt id)) else if famBase<=id then false else hkey H id
def famOk(id:Nat)(e:Ent):Prop:=
 match e.b with
 |.fam _ s _=>famBase<=id/\id<dynBase/\s.noRef=true/\0<s.cells/\e.fz=false
 |_=>id<famBase
def Ro(id:Nat):Prop:=dynBase<=id/\(id-dynBase)%16=15
theorem Ro.rt{id:Nat}(h:Ro id):rt id=famBase+15:=by unfold Ab.rt;rw[ZAT h.1,h.2]
theorem bwZ{id:Nat}(h:id<famBase):¬Ro id:=fun hr=>by
 have h0:famBase<dynBase:=by decide
 have:=hr.1;omega
theorem pNZ{f:Nat}:nro f=true↔f%16≠15:=by
 unfold nro;rw[ZAc,<-Bool.not_eq_true,Nat.beq_eq]
theorem mxZ{f k:Nat}:Ro (enc f k)↔f%16=15:=by
 unfold Ro enc;omega
structure HRep (z:Z) (H:Hp):Prop where
 ent:∀id e,hgetX H id=some e->ERep z id e
 inj:∀id id' e e' g sz n g' sz' n',id≠id'->hgetX H id=some e->hgetX H id'=some e'->e.fz=false->e'.fz=false->z.ρ id= .real g sz n->z.ρ id'= .real g' sz' n'->¬(Ro id/\Ro id')->g≠g'
 fresh:∀id,hkeyX H id=false->z.ρ id= .no\/z.D id
 sub:∀g,z.C g->z.M g
 fam:∀id e,hget H id=some e->famOk id e
 key:∀id,hkey H id=true->id<dynBase
 dyn:∀id,dynBase<=id->hkey H (rt id)=true->¬z.D id
 nos:∀id,famBase<=id->id<dynBase->z.ρ id= .no
theorem jwZ{f k:Nat}(h:nro f=true):¬Ro (enc f k):=fun hr=>pNZ.1 h (mxZ.1 hr)
structure Nx (z z':Z):Prop where
 os:z'.w.os=z.w.os
 tape:z'.w.tape=z.w.tape/\z.w.drawn<=z'.w.drawn
 output:z'.w.output=z.w.output
 size:z.w.heap.size<=z'.w.heap.size
 block:∀b,b<z.w.heap.size->¬z.C b->z'.w.heap[b]? =z.w.heap[b]?
 subM:∀g,z'.M g->z.M g\/z.w.heap.size<=g
 subC:∀g,z'.C g->z.C g\/z.w.heap.size<=g
 keepM:∀g,g<z.w.heap.size->z.M g->¬z.C g->z'.M g
 ext:∀id,z.ρ id≠.no->z'.ρ id=z.ρ id
 dom:z'.D=z.D
theorem Nx.refl(z:Z):Nx z z:=⟨rfl,⟨rfl,ZAM _⟩,rfl,ZAM _,fun _ _ _=>rfl,fun _ h=>.inl h,fun _ h=>.inl h,fun _ _ h _=>h,fun _ _=>rfl,rfl⟩
theorem Nx.trans{z z' z'':Z}(h:Nx z z')(k:Nx z' z''):Nx z z'':=by
 have h1:=h.size;refine⟨k.os.trans h.os,⟨k.tape.1.trans h.tape.1,ZBI h.tape.2 k.tape.2⟩,k.output.trans h.output,ZBI h.size k.size,fun b hb hC=> ?_,fun g hg=> ?_,fun g hg=> ?_,fun g hg hM hC=> ?_,fun id hid=> ?_,k.dom.trans h.dom⟩
 ·have hC':¬z'.C b:=fun hm=>by
   rcases h.subC b hm with h2|h2
   ·exact hC h2
   ·omega
  rw[k.block b (by omega) hC',h.block b hb hC]
 ·rcases k.subM g hg with h2|h2
  ·exact h.subM g h2
  ·exact .inr (ZBI h.size h2)
 ·rcases k.subC g hg with h2|h2
  ·exact h.subC g h2
  ·exact .inr (ZBI h.size h2)
 ·refine k.keepM g (by omega) (h.keepM g hg hM hC) fun hm=> ?_;rcases h.subC g hm with h2|h2
  ·exact hC h2
  ·omega
 ·have h1:=h.ext id hid;rw[<-h1];exact k.ext id (by rw[h1];exact hid)
theorem aMZ{css:List (List Value)}{n:Nat}(h:∀u∈css,u.length=n):css.flatten.length=css.length*n:=by
 induction css with
 |nil=>simp
 |cons u css ih=>
  simp only[ZBM,ZAY,ZBm,ZBY];rw[ih fun u hu=>h u (by simp[hu]),h u (by simp)];omega
theorem aJZ{α β:Type}{l:List α}{c:List β}(h:c.length=l.length){i:Nat}{u:β}(hu:c[i]? =some u):∃e,l[i]? =some e:=
 ⟨_,ZAD (by have:=(ZAC.1 hu).1;omega)⟩
theorem Cl.len{w:World}{M:Nat->Prop}{ρ:Rho}:{t:Ty}->{x:t.den}->{vs:List Value}->Cl w M ρ t x vs->vs.length=t.cells
 |.int _,_,_,h|.byte,_,_,h|.bool,_,_,h|.str,_,_,h=>by simp only[Cl] at h;subst h;rfl
 |.opq,_,_,h=>by obtain⟨rfl,_⟩:=h;rfl
 |.nat,_,_,h=>h.elim
 |.one t,_,_,h=>Cl.len (t:=t) h
 |.pair a b,_,_,h=>by
  obtain⟨u,v,rfl,h1,h2⟩:=h;rw[ZAY,Cl.len h1,Cl.len h2];rfl
 |.arr n t,l,_,h=>by
  obtain⟨hn,css,h1,rfl,h2⟩:=h;rw[aMZ (n:=t.cells),h1]
  ·rfl
  ·intro u hu;obtain⟨i,hi⟩:=ZAe hu;obtain⟨e,he⟩:=aJZ (l:=(show List t.den from l)) (by rw[h1,<-hn]) hi;exact Cl.len (h2 i e u he hi)
 |.sl t,_,_,h=>by obtain⟨A,c,rfl,_⟩:=h;rfl
 |.ptr t,_,_,h=>by rcases h with⟨_,rfl⟩|⟨_,b,off,rfl,_⟩<;>rfl
 |.ref f t,.inl l,_,h=>by obtain⟨A,c,rfl,_⟩:=h;rfl
 |.ref f t,.inr none,_,h=>by simp only[Cl] at h;subst h;rfl
 |.ref f t,.inr (some (k,off,n)),_,h=>by rcases h with⟨A,_,_,rfl⟩|⟨g,sz,m,c,_,_,_,_,rfl⟩<;>rfl
theorem Cl.one{w:World}{M:Nat->Prop}{ρ:Rho}:{t:Ty}->{x:t.den}->{vs:List Value}->Cl w M ρ t x vs->∀v∈vs,v.oneCell'=true
 |.int _,_,_,h|.byte,_,_,h|.bool,_,_,h|.str,_,_,h=>by simp only[Cl] at h;subst h;simp[Value.oneCell']
 |.opq,_,_,h=>by obtain⟨rfl,h⟩:=h;simpa using h
 |.nat,_,_,h=>h.elim
 |.one t,_,_,h=>Cl.one (t:=t) h
 |.pair a b,_,_,h=>by
  obtain⟨u,v,rfl,h1,h2⟩:=h;intro x hx;rcases ZAh.1 hx with hx|hx
  ·exact Cl.one h1 x hx
  ·exact Cl.one h2 x hx
 |.arr n t,l,_,h=>by
  obtain⟨hn,css,h1,rfl,h2⟩:=h;intro x hx;obtain⟨u,hu,hx⟩:=List.mem_flatten.1 hx;obtain⟨i,hi⟩:=ZAe hu;obtain⟨e,he⟩:=aJZ (l:=(show List t.den from l)) (by rw[h1,<-hn]) hi;exact Cl.one (h2 i e u he hi) x hx
 |.sl t,_,_,h=>by obtain⟨A,c,rfl,_⟩:=h;simp[Value.oneCell']
 |.ptr t,_,_,h=>by rcases h with⟨_,rfl⟩|⟨_,b,off,rfl,_⟩<;>simp[Value.oneCell']
 |.ref f t,.inl l,_,h=>by obtain⟨A,c,rfl,_⟩:=h;simp[Value.oneCell']
 |.ref f t,.inr none,_,h=>by simp only[Cl] at h;subst h;simp[Value.oneCell']
 |.ref f t,.inr (some (k,off,n)),_,h=>by rcases h with⟨A,_,_,rfl⟩|⟨g,sz,m,c,_,_,_,_,rfl⟩<;>simp[Value.oneCell']
theorem World.rangeAt.same{w w':World}{b o:Nat}{vs:List Value}(h:w.rangeAt b o vs)(he:w'.heap[b]? =w.heap[b]?):w'.rangeAt b o vs:=fun j v hj=>by
 rw[World.cell?_of_block (w:=w) he];exact h j v hj
theorem Cl.keep{w w':World}{M M':Nat->Prop}{ρ ρ':Rho}(hs:w.heap.size<=w'.heap.size)(hb:∀b,b<w.heap.size->¬M b->w'.heap[b]? =w.heap[b]?)(hM:∀g,M' g->M g\/w.heap.size<=g)(hr:SameDyn ρ ρ'):
 {t:Ty}->{x:t.den}->{vs:List Value}->Cl w M ρ t x vs->Cl w' M' ρ' t x vs
 |.int _,_,_,h|.byte,_,_,h|.bool,_,_,h|.str,_,_,h|.opq,_,_,h=>h
 |.nat,_,_,h=>h.elim
 |.one t,_,_,h=>Cl.keep hs hb hM hr (t:=t) h
 |.pair a b,_,_,h=>by
  obtain⟨u,v,rfl,h1,h2⟩:=h;exact⟨u,v,rfl,Cl.keep hs hb hM hr h1,Cl.keep hs hb hM hr h2⟩
 |.arr n t,l,_,h=>by
  obtain⟨hn,css,h1,rfl,h2⟩:=h;exact⟨hn,css,h1,rfl,fun i e u he hu=>Cl.keep hs hb hM hr (h2 i e u he hu)⟩
 |.sl t,l,_,h=>by
  obtain⟨A,c,rfl,h1,h2,h3,h4⟩:=h;refine⟨A,c,rfl,h1,h2,h3,fun h0=> ?_⟩;obtain⟨b,off,h5,h6,h7,h8⟩:=h4 h0;refine⟨b,off,h5,fun hm=> ?_,by omega,fun i e he=> ?_⟩
  ·rcases hM b hm with h|h
   ·exact h6 h
   ·omega
  ·obtain⟨u,h9,h10⟩:=h8 i e he;exact⟨u,Cl.keep hs hb hM hr h9,World.rangeAt.same h10 (hb b h7 h6)⟩
 |.ptr t,l,_,h=>by
  rcases h with h|⟨h1,b,off,rfl,h6,h7,h8⟩
  ·exact .inl h
  refine .inr ⟨h1,b,off,rfl,fun hm=> ?_,by omega,fun i e he=> ?_⟩
  ·rcases hM b hm with h|h
   ·exact h6 h
   ·omega
  ·obtain⟨u,h9,h10⟩:=h8 i e he;exact⟨u,Cl.keep hs hb hM hr h9,World.rangeAt.same h10 (hb b h7 h6)⟩
 |.ref f t,.inl l,_,h=>by
  obtain⟨A,c,rfl,h1,h2,h3,h4⟩:=h;refine⟨A,c,rfl,h1,h2,h3,fun h0=> ?_⟩;obtain⟨b,off,h5,h6,h7,h8⟩:=h4 h0;refine⟨b,off,h5,fun hm=> ?_,by omega,fun i e he=> ?_⟩
  ·rcases hM b hm with h|h
   ·exact h6 h
   ·omega
  ·obtain⟨u,h9,h10⟩:=h8 i e he;exact⟨u,Cl.keep hs hb hM hr h9,World.rangeAt.same h10 (hb b h7 h6)⟩
 |.ref f t,.inr none,_,h=>h
 |.ref f t,.inr (some (k,off,n)),_,h=>by
  have hd:dynBase<=enc f k:=ZBn _ _;rcases h with⟨A,h1,h2,h3⟩|⟨g,sz,m,c,h1,h2⟩
  ·exact .inl ⟨A,by rw[hr _ hd (by rw[h1];intro h;cases h),h1],h2,h3⟩
  ·exact .inr ⟨g,sz,m,c,by rw[hr _ hd (by rw[h1];intro h;cases h),h1],h2⟩
theorem RowAt.keep{w w':World}{M M':Nat->Prop}{ρ ρ':Rho}(hs:w.heap.size<=w'.heap.size)(hb:∀b,b<w.heap.size->¬M b->w'.heap[b]? =w.heap[b]?)(hM:∀g,M' g->M g\/w.heap.size<=g)(hr:SameDyn ρ ρ')
 {b off:Nat}{t:Ty}{l:List t.den}(h:RowAt w M ρ b off t l)(hlt:b<w.heap.size)(hn:¬M b):RowAt w' M' ρ' b off t l:=fun i e he=>by
 obtain⟨u,h9,h10⟩:=h i e he;exact⟨u,Cl.keep hs hb hM hr h9,World.rangeAt.same h10 (hb b hlt hn)⟩
theorem VRep.keep{w w':World}{M M':Nat->Prop}{ρ ρ':Rho}(hs:w.heap.size<=w'.heap.size)(hb:∀b,b<w.heap.size->¬M b->w'.heap[b]? =w.heap[b]?)(hM:∀g,M' g->M g\/w.heap.size<=g)(hr:SameDyn ρ ρ')
 {t:Ty}{x:t.den}{v:Value}(h:VRep w M ρ t x v):VRep w' M' ρ' t x v:=by
 obtain⟨vs,h1,h2⟩:=h;exact⟨vs,Cl.keep hs hb hM hr h1,h2⟩
theorem Cl.dyn{w:World}{M:Nat->Prop}{ρ ρ':Rho}(hr:SameDyn ρ ρ'){t:Ty}{x:t.den}{vs:List Value}(h:Cl w M ρ t x vs):Cl w M ρ' t x vs:=h.keep (ZAM _) (fun _ _ _=>rfl) (fun _ h=>.inl h) hr
theorem VRep.dyn{w:World}{M:Nat->Prop}{ρ ρ':Rho}(hr:SameDyn ρ ρ'){t:Ty}{x:t.den}{v:Value}(h:VRep w M ρ t x v):VRep w M ρ' t x v:=h.keep (ZAM _) (fun _ _ _=>rfl) (fun _ h=>.inl h) hr
def SameOn(fs:List Nat)(ρ ρ':Rho):Prop:=∀f k,memN (f%16) fs=true->ρ (enc f k)≠.no->ρ' (enc f k)=ρ (enc f k)
theorem Cl.on{w:World}{M:Nat->Prop}{ρ ρ':Rho}{fs:List Nat}(hs:SameOn fs ρ ρ'):{t:Ty}->{x:t.den}->{vs:List Value}->t.famIn fs=true->Cl w M ρ t x vs->Cl w M ρ' t x vs
 |.int _,_,_,_,h|.byte,_,_,_,h|.bool,_,_,_,h|.str,_,_,_,h|.opq,_,_,_,h=>h
 |.nat,_,_,_,h=>h.elim
 |.one t,_,_,hn,h=>Cl.on hs (t:=t) hn h
 |.pair a b,_,_,hn,h=>by
  obtain⟨u,v,rfl,h1,h2⟩:=h;simp only[Ty.famIn,ZAB] at hn;exact⟨u,v,rfl,Cl.on hs hn.1 h1,Cl.on hs hn.2 h2⟩
 |.arr n t,l,_,hn,h=>by
  obtain⟨hl,css,h1,rfl,h2⟩:=h;exact⟨hl,css,h1,rfl,fun i e u he hu=>Cl.on hs (t:=t) hn (h2 i e u he hu)⟩
 |.sl t,l,_,hn,h=>by
  obtain⟨A,c,rfl,h1,h2,h3,h4⟩:=h;refine⟨A,c,rfl,h1,h2,h3,fun h0=> ?_⟩;obtain⟨b,off,h5,h6,h7,h8⟩:=h4 h0;refine⟨b,off,h5,h6,h7,fun i e he=> ?_⟩;obtain⟨u,h9,h10⟩:=h8 i e he;exact⟨u,Cl.on hs (t:=t) hn h9,h10⟩
 |.ptr t,l,_,hn,h=>by
  rcases h with h|⟨h1,b,off,rfl,h6,h7,h8⟩
  ·exact .inl h
  refine .inr ⟨h1,b,off,rfl,h6,h7,fun i e he=> ?_⟩;obtain⟨u,h9,h10⟩:=h8 i e he;exact⟨u,Cl.on hs (t:=t) hn h9,h10⟩
 |.ref f t,.inl l,_,hn,h=>by
  simp only[Ty.famIn,ZAB] at hn;obtain⟨A,c,rfl,h1,h2,h3,h4⟩:=h;refine⟨A,c,rfl,h1,h2,h3,fun h0=> ?_⟩;obtain⟨b,off,h5,h6,h7,h8⟩:=h4 h0;refine⟨b,off,h5,h6,h7,fun i e he=> ?_⟩;obtain⟨u,h9,h10⟩:=h8 i e he;exact⟨u,Cl.on hs (t:=t) hn.2 h9,h10⟩
 |.ref f t,.inr none,_,_,h=>h
 |.ref f t,.inr (some (k,off,n)),_,hn,h=>by
  simp only[Ty.famIn,ZAB] at hn;rcases h with⟨A,h1,h2,h3⟩|⟨g,sz,m,c,h1,h2⟩
  ·exact .inl ⟨A,by rw[hs f k hn.1 (by rw[h1];intro h;cases h),h1],h2,h3⟩
  ·exact .inr ⟨g,sz,m,c,by rw[hs f k hn.1 (by rw[h1];intro h;cases h),h1],h2⟩
def Agr(ρ ρ':Rho)(P:List Nat->Bool):Prop:=SameDyn ρ ρ'\/∃fs,SameOn fs ρ ρ'/\P fs=true
theorem Agr.inl{ρ ρ':Rho}{P:List Nat->Bool}(h:SameDyn ρ ρ'):Agr ρ ρ' P:=Or.inl h
theorem Agr.on{ρ ρ':Rho}{P:List Nat->Bool}{fs:List Nat}(h:SameOn fs ρ ρ')(hp:P fs=true):Agr ρ ρ' P:=Or.inr ⟨fs,h,hp⟩
theorem Agr.mono{ρ ρ':Rho}{P Q:List Nat->Bool}(h:Agr ρ ρ' P)(hq:∀fs,P fs=true->Q fs=true):Agr ρ ρ' Q:=by
 rcases h with h|⟨fs,h1,h2⟩
 ·exact .inl h
 ·exact .on h1 (hq fs h2)
theorem Cl.to{w:World}{M:Nat->Prop}{ρ ρ':Rho}{t:Ty}(hd:Agr ρ ρ' fun fs=>t.famIn fs){x:t.den}{vs:List Value}(h:Cl w M ρ t x vs):Cl w M ρ' t x vs:=by
 rcases hd with hd|⟨fs,h1,h2⟩
 ·exact h.dyn hd
 ·exact h.on h1 h2
theorem VRep.to{w:World}{M:Nat->Prop}{ρ ρ':Rho}{t:Ty}(hd:Agr ρ ρ' fun fs=>t.famIn fs){x:t.den}{v:Value}(h:VRep w M ρ t x v):VRep w M ρ' t x v:=by
 obtain⟨vs,h1,h2⟩:=h;exact⟨vs,h1.to hd,h2⟩
theorem RowAt.to{w:World}{M:Nat->Prop}{ρ ρ':Rho}{t:Ty}(hd:Agr ρ ρ' fun fs=>t.famIn fs){b off:Nat}{l:List t.den}(h:RowAt w M ρ b off t l):RowAt w M ρ' b off t l:=fun i e he=>by
 obtain⟨u,h1,h2⟩:=h i e he;exact⟨u,h1.to hd,h2⟩
mutual
def AV.famInT(fs:List Nat):AV->Bool
 |.p t _=>t.famIn fs
 |.pt t _ _ _=>t.famIn fs
 |.rp f _ _ _ _=>memN (f%16) fs
 |.fn _ a c=>AV.famInTL fs a&&AV.famInTL fs c
 |.agg l=>AV.famInTL fs l
 |.tup l=>AV.famInTL fs l
 |_=>true
def AV.famInTL(fs:List Nat):List AV->Bool
 |[]=>true
 |a::l=>a.famInT fs&&AV.famInTL fs l
end
theorem aXZ{fs:List Nat}:∀{l:List AV} {a:AV},AV.famInTL fs l=true->a∈l->a.famInT fs=true
 |[],_,_,h=>by cases h
 |x::l,a,hl,h=>by
  simp only[AV.famInTL,ZAB] at hl;rcases ZAa.1 h with rfl|h
  ·exact hl.1
  ·exact aXZ hl.2 h
def Blk.famInT(fs:List Nat):Blk->Bool
 |.vars c=>AV.famInTL fs c
 |.rows _ t _=>t.famIn fs
 |.map k v _=>k.famIn fs&&v.famIn fs
 |.fmap k l=>k.famIn fs&&l.all fun x=>x.2.famInT fs
 |.fam _ s _=>s.famIn fs
structure Kp (z z':Z):Prop where
 size:z.w.heap.size<=z'.w.heap.size
 block:∀b,b<z.w.heap.size->¬z.M b->z'.w.heap[b]? =z.w.heap[b]?
 subM:∀g,z'.M g->z.M g\/z.w.heap.size<=g
 ext:∀id,z.ρ id≠.no->z'.ρ id=z.ρ id
theorem Nx.kp{z z':Z}(h:Nx z z')(hs:∀g,z.C g->z.M g):Kp z z':=⟨h.size,fun b hb hM=>h.block b hb fun hC=>hM (hs b hC),h.subM,h.ext⟩
theorem Kp.real{z z':Z}(k:Kp z z'){id g sz n:Nat}(h:z.ρ id= .real g sz n):z'.ρ id= .real g sz n:=by rw[k.ext id (by rw[h];intro h;cases h),h]
theorem Kp.virt{z z':Z}(k:Kp z z'){id:Nat}(h:z.ρ id= .virt):z'.ρ id= .virt:=by rw[k.ext id (by rw[h];intro h;cases h),h]
theorem Cl.kp{z z':Z}(k:Kp z z'){t:Ty}{x:t.den}{vs:List Value}(h:Cl z.w z.M z.ρ t x vs):Cl z'.w z'.M z'.ρ t x vs:=h.keep k.size k.block k.subM (.of k.ext)
theorem VRep.kp{z z':Z}(k:Kp z z'){t:Ty}{x:t.den}{v:Value}(h:VRep z.w z.M z.ρ t x v):VRep z'.w z'.M z'.ρ t x v:=h.keep k.size k.block k.subM (.of k.ext)
theorem ARep.kp{z z':Z}{a:AV}{v:Value}(k:Kp z z')(h:ARep z a v):ARep z' a v:=by
 induction h with
 |p t x v h=>exact .p t x v (h.kp k)
 |pt t l i j b off hM hlt h=>
  refine .pt t l i j b off (fun hm=> ?_) (Nat.lt_of_lt_of_le hlt k.size) (h.keep k.size k.block k.subM (.of k.ext) hlt hM);rcases k.subM b hm with h|h
  ·exact hM h
  ·omega
 |own es id i j g sz n h=>exact .own es id i j g sz n (k.real h)
 |rp f es k' i j g sz n h=>exact .rp f es k' i j g sz n (k.real h)
 |slV es id off A h=>exact .slV es id off A (k.virt h)
 |slE es id off g sz m o h=>exact .slE es id off g sz m o (k.real h)
 |sl es id off n g sz m c h hn hs hm=>exact .sl es id off n g sz m c (k.real h) hn hs hm
 |slfV es id A h=>exact .slfV es id A (k.virt h)
 |slf es id g sz n c h hn hs hm=>exact .slf es id g sz n c (k.real h) hn hs hm
 |mp id g sz n h=>exact .mp id g sz n (k.real h)
 |fn f a c va vc ha hc h1 h2 ih1 ih2=>exact .fn f a c va vc ha hc ih1 ih2
 |agg l cs hs h1 h ih=>exact .agg l cs hs h1 ih
 |tup l vs hs h ih=>exact .tup l vs hs ih
 |junk v=>exact .junk v
theorem BRep.kp{z z':Z}(k:Kp z z'){g sz n:Nat}{b:Blk}(h:BRep z g sz n b)(hg:z'.w.heap[g]? =z.w.heap[g]?):BRep z' g sz n b:=by
 cases b with
 |vars c=>
  obtain⟨cs,e,fr,a1,a2,a3,a4,a5,a6⟩:=h;exact⟨cs,e,fr,hg.trans a1,a2,a3,a4,fun i a v x y=>(a5 i a v x y).kp k,a6⟩
 |rows e t l=>
  obtain⟨cs,fr,a1,a2,a3,a4,a5,a6,a7⟩:=h;refine⟨cs,fr,hg.trans a1,a2,a3,a4,a5,a6,fun i x hx=> ?_⟩;obtain⟨u,b1,b2⟩:=a7 i x hx;exact⟨u,b1.kp k,b2⟩
 |map kt vt m=>
  obtain⟨es,a1,a2,a3,a4⟩:=h;exact⟨es,hg.trans a1,a2,fun i x e q1 q2=>⟨(a3 i x e q1 q2).1.kp k,(a3 i x e q1 q2).2.1.kp k,(a3 i x e q1 q2).2.2⟩,a4⟩
 |fmap kt l=>
  obtain⟨es,clock,a1,a2,a3⟩:=h;exact⟨es,clock,hg.trans a1,a2,fun i x e q1 q2=>⟨(a3 i x e q1 q2).1.kp k,(a3 i x e q1 q2).2.kp k⟩⟩
 |fam e s ms=>exact h.elim
theorem ERep.kp{z z':Z}(k:Kp z z'){id:Nat}{e:Ent}(h:ERep z id e)
 (hb:∀g sz n,z.ρ id= .real g sz n->z'.w.heap[g]? =z.w.heap[g]? /\(z.C g->z'.C g)):ERep z' id e:=by
 unfold ERep at*;cases hρ:z.ρ id with
 |no=>rw[hρ] at h;exact h.elim
 |virt=>rw[k.virt hρ];rw[hρ] at h;exact h
 |real g sz n=>
  rw[k.real hρ];rw[hρ] at h;obtain⟨h1,h2,h3,h4⟩:=h;obtain⟨hg,hC⟩:=hb g sz n hρ;refine⟨Nat.lt_of_lt_of_le h1 k.size,fun hf=>hC (h2 hf),fun hf hm=> ?_,h4.kp k hg⟩;rcases k.subM g hm with h|h
  ·exact h3 hf h
  ·omega
theorem acZ(a b:Nat):(Nat.beq a b=true)↔a=b:=⟨ZB5,fun h=>by subst h;exact Nat.beq_refl a⟩
theorem afZ{a b:Nat}(h:a≠b):Nat.beq a b=false:=by
 cases hb:Nat.beq a b
 ·rfl
 ·exact absurd ((acZ a b).1 hb) h
theorem aoZ(H:Hp)(id:Nat)(e:Option Ent)(k:Nat):hget (hset H id e) k=if k=id then e else hget H k:=by
 induction H with
 |nil=>by_cases h:k=id
       ·subst h;simp[hset,hget,(acZ k k).2 rfl]
       ·simp[hset,hget,afZ (ZBd h),h]
 |cons x H ih=>
  obtain⟨i,y⟩:=x;by_cases hi:i=id
  ·subst hi;simp only[hset,(acZ i i).2 rfl,ZAK,hget];by_cases h:k=i
   ·subst h;simp[(acZ k k).2 rfl]
   ·simp[afZ (ZBd h),h]
  ·simp only[hset,afZ hi,ZAE,hget,ih];by_cases h:i=k
   ·subst h;simp[(acZ i i).2 rfl,hi]
   ·simp[afZ h]
theorem asZ(H:Hp)(id:Nat)(e:Option Ent)(k:Nat):hkey (hset H id e) k=(decide (k=id)||hkey H k):=by
 induction H with
 |nil=>by_cases h:k=id
       ·subst h;simp[hset,hkey,(acZ k k).2 rfl]
       ·simp[hset,hkey,afZ (ZBd h),h]
 |cons x H ih=>
  obtain⟨i,y⟩:=x;by_cases hi:i=id
  ·subst hi;simp only[hset,(acZ i i).2 rfl,ZAK,hkey];by_cases h:k=i
   ·subst h;simp[(acZ k k).2 rfl]
   ·simp[afZ (ZBd h),h]
  ·simp only[hset,afZ hi,ZAE,hkey,ih];by_cases h:i=k
   ·subst h;simp[(acZ i i).2 rfl]
   ·simp[afZ h]
theorem ahZ{H:Hp}{id:Nat}{e:Ent}(h:hget H id=some e):hkey H id=true:=by
 induction H with
 |nil=>cases h
 |cons x H ih=>
  obtain⟨i,y⟩:=x;simp only[hget,hkey] at*;cases hb:Nat.beq i id
  ·rw[hb] at h;simp only[ZAE] at*;exact ih h
  ·simp
@[simp] theorem bq_true{α:Type}(x y:α):bq true x y=x:=rfl
@[simp] theorem bq_false{α:Type}(x y:α):bq false x y=y:=rfl
theorem aFZ{β:Type}{t u:Ty}{K:t=u->Option β}{E:Option β}{r:β}(h:dq t u K E=some r):(∃e,K e=some r)\/E=some r:=by
 unfold dq at h;simp only at h;split at h
 ·exact .inl ⟨_,h⟩
 ·exact .inr h
theorem aeZ{β:Type}{b:Bool}{K:Option β}{r:β}:need b K=some r↔b=true/\K=some r:=by cases b<;>simp[need]
theorem agZ{α β:Type}{x:Option α}{f:α->Option β}{r:β}:x.ob f=some r↔∃a,x=some a/\f a=some r:=by cases x<;>simp[Option.ob]
section
variable {z : Z} {H : Hp}
theorem cAZ:famBase+16=dynBase:=by simp[famBase,dynBase]
theorem aOZ{id:Nat}(h:id<dynBase):rt id=id:=ZAQ (ZBK.2 h)
theorem buZ{id:Nat}(h:dynBase<=id):famBase<=rt id/\rt id<dynBase:=by
 unfold rt;rw[ZAT h];have h1:=ZCF (id-dynBase) (show 0<16 by omega);have h2:=cAZ;generalize (id-dynBase)%16=m at*;exact⟨ZBn _ _,by omega⟩
theorem cVZ(f k:Nat):rt (enc f k)=famId f:=by
 unfold rt;rw[ZAT (show dynBase<=enc f k from ZBn _ _)];have h:(enc f k-dynBase)%16=f%16:=by unfold enc;generalize dynBase=d;omega
 rw[h]
 rfl
theorem l4Z(f k:Nat):(enc f k-dynBase)/16=k:=by
 unfold enc;generalize dynBase=d;omega
theorem r7Z{id:Nat}(h:dynBase<=id):∃f k,f<16/\id=enc f k:=by
 refine⟨(id-dynBase)%16,(id-dynBase)/16,ZCF _ (by omega),?_⟩;unfold enc;omega
theorem hyZ{f f' k k':Nat}(h:enc f k=enc f' k'):f%16=f'%16/\k=k':=by
 unfold enc at h;omega
theorem bvZ(f k:Nat):dynBase<=enc f k:=ZBn _ _
theorem bzZ(f:Nat):famBase<=famId f/\famId f<dynBase:=by
 have h1:=ZCF f (show 0<16 by omega);have h2:=cAZ;unfold famId;generalize f%16=m at*;exact⟨ZBn _ _,by omega⟩
theorem aqZ{H:Hp}{id:Nat}(h:id<famBase):hgetX H id=hget H id:=by
 unfold hgetX;rw[ZAQ (ZBK.2 (Nat.lt_trans h (show famBase<dynBase by decide))),ZAQ (ZBK.2 h)]
theorem a3Z{H:Hp}{id:Nat}(h:id<famBase):hkeyX H id=hkey H id:=by
 unfold hkeyX;rw[ZAQ (ZBK.2 (Nat.lt_trans h (show famBase<dynBase by decide))),ZAQ (ZBK.2 h)]
theorem a2Z{H:Hp}{id:Nat}(h:dynBase<=id):hgetX H id=(hget H (rt id)).bind (pick ((id-dynBase)/16)):=ZAT h
theorem awZ{H:Hp}{id:Nat}(h:dynBase<=id):hkeyX H id=(match hget H (rt id) with|some e=>e.has ((id-dynBase)/16)|none=>hkey H (rt id)):=ZAT h
theorem cdZ(H:Hp)(f k:Nat):hgetX H (enc f k)=(hget H (famId f)).bind (pick k):=by rw[a2Z (bvZ f k),cVZ,l4Z]
theorem bOZ{H H':Hp}{id:Nat}(h:hget H' (rt id)=hget H (rt id)):hgetX H' id=hgetX H id:=by
 by_cases hd:dynBase<=id
 ·rw[a2Z hd,a2Z hd,h]
 ·unfold hgetX;rw[ZAQ hd,ZAQ hd];rw[aOZ (ZBK.1 hd)] at h;rw[h]
theorem cBZ{H H':Hp}{id:Nat}(h:hget H' (rt id)=hget H (rt id))(hk:hkey H' (rt id)=hkey H (rt id)):hkeyX H' id=hkeyX H id:=by
 by_cases hd:dynBase<=id
 ·rw[awZ hd,awZ hd,h,hk]
 ·unfold hkeyX;rw[ZAQ hd,ZAQ hd];rw[aOZ (ZBK.1 hd)] at hk;rw[hk]
theorem a1Z{id:Nat}(hid:id<famBase)(H:Hp)(e:Option Ent)(k:Nat):hgetX (hset H id e) k=if k=id then e else hgetX H k:=by
 by_cases h:k=id
 ·subst h;rw[aqZ hid,aoZ,ZAT rfl,ZAT rfl]
 ·rw[ZAQ h];refine bOZ ?_;rw[aoZ,ZAQ];intro e;by_cases hd:dynBase<=k
  ·have:=(buZ hd).1;omega
  ·exact h (by rw[<-aOZ (ZBK.1 hd)];exact e)
theorem bbZ{id:Nat}(hid:id<famBase)(H:Hp)(e:Option Ent)(k:Nat):hkeyX (hset H id e) k=(decide (k=id)||hkeyX H k):=by
 by_cases h:k=id
 ·subst h;rw[a3Z hid,a3Z hid,asZ]
 ·have hne:rt k≠id:=by
   intro e;by_cases hd:dynBase<=k
   ·have:=(buZ hd).1;omega
   ·exact h (by rw[<-aOZ (ZBK.1 hd)];exact e)
  rw[cBZ (H:=H) (by rw[aoZ,ZAQ hne]) (by rw[asZ];simp[hne])];simp[h]
theorem HRep.low(hH:HRep z H){id:Nat}{e:Ent}(h:hget H id=some e)(hn:z.ρ id≠.no):id<famBase:=by
 have h1:=hH.key _ (ahZ h);rcases ZB2 id famBase with h2|h2
 ·exact h2
 ·exact absurd (hH.nos id h2 h1) hn
theorem HRep.x(hH:HRep z H){id:Nat}{e:Ent}(h:hget H id=some e)(hn:z.ρ id≠.no):hgetX H id=some e:=by
 rw[aqZ (hH.low h hn)];exact h
theorem aGZ{r:RB}{g sz n:Nat}(h:r= .real g sz n):r≠.no:=by rw[h];intro h;cases h
theorem m2Z{r:RB}(h:r= .virt):r≠.no:=by rw[h];intro h;cases h
theorem HRep.realX(hH:HRep z H){id:Nat}{e:Ent}(h:hgetX H id=some e){g sz n:Nat}(hρ:z.ρ id= .real g sz n):
 g<z.w.heap.size/\(e.fz=false->z.C g)/\(e.fz=true->¬z.M g)/\BRep z g sz n e.b:=by
 have:=hH.ent _ _ h;unfold ERep at this;rw[hρ] at this;exact this
theorem HRep.real(hH:HRep z H){id:Nat}{e:Ent}(h:hget H id=some e){g sz n:Nat}(hρ:z.ρ id= .real g sz n):
 g<z.w.heap.size/\(e.fz=false->z.C g)/\(e.fz=true->¬z.M g)/\BRep z g sz n e.b:=hH.realX (hH.x h (aGZ hρ)) hρ
theorem HRep.virt(hH:HRep z H){id:Nat}{e:Ent}(h:hget H id=some e)(hρ:z.ρ id= .virt):BEmpty e.b:=by
 have:=hH.ent _ _ (hH.x h (m2Z hρ));unfold ERep at this;rw[hρ] at this;exact this
theorem HRep.ne(hH:HRep z H){id id':Nat}{e e':Ent}{g sz n g' sz' n':Nat}(hi:id≠id')(h:hgetX H id=some e)(h':hgetX H id'=some e')(hf:e'.fz=false)(hρ:z.ρ id= .real g sz n)(hρ':z.ρ id'= .real g' sz' n')(hr:¬(Ro id/\Ro id')):g≠g':=by
 cases he:e.fz
 ·exact hH.inj id id' e e' g sz n g' sz' n' hi h h' he hf hρ hρ' hr
 ·rintro rfl;exact(hH.realX h hρ).2.2.1 he (hH.sub _ ((hH.realX h' hρ').2.1 hf))
theorem BRep.famOk{g sz n id:Nat}{b:Blk}{fz:Bool}(h:BRep z g sz n b)(hid:id<famBase):famOk id ⟨fz,b⟩:=by
 cases b with
 |fam e s ms=>exact h.elim
 |_=>exact hid
theorem BEmpty.famOk{id:Nat}{b:Blk}{fz:Bool}(h:BEmpty b)(hid:id<famBase):famOk id ⟨fz,b⟩:=by
 cases b with
 |fam e s ms=>exact h.elim
 |_=>exact hid
theorem famOk.other{id:Nat}{e:Ent}(h:Ab.famOk id e)(hid:id<famBase)(id':Nat)(hid':id'<famBase)(fz:Bool):Ab.famOk id' ⟨fz,e.b⟩:=by
 obtain⟨fz0,b⟩:=e;cases b with
 |fam e s ms=>have:=h.1;omega
 |_=>exact hid'
theorem HRep.side{z':Z}{id:Nat}{e:Option Ent}(hH:HRep z H)(hid:id<famBase)(hf:∀x,e=some x->Ab.famOk id x)(hD:z'.D=z.D)(hρ:∀i,famBase<=i->i<dynBase->z'.ρ i=z.ρ i):
 (∀i x,hget (hset H id e) i=some x->Ab.famOk i x)/\(∀i,hkey (hset H id e) i=true->i<dynBase)/\(∀i,dynBase<=i->hkey (hset H id e) (rt i)=true->¬z'.D i)/\∀i,famBase<=i->i<dynBase->z'.ρ i= .no:=by
 have h0:famBase<dynBase:=by decide
 refine⟨fun i x h=> ?_,fun i h=> ?_,fun i hd h=> ?_,fun i h1 h2=>by rw[hρ i h1 h2];exact hH.nos i h1 h2⟩
 ·rw[aoZ] at h;by_cases hi:i=id
  ·rw[ZAT hi] at h;rw[hi];exact hf x h
  ·rw[ZAQ hi] at h;exact hH.fam i x h
 ·rw[asZ] at h;simp only[ZAp,ZAd] at h;rcases h with rfl|h
  ·omega
  ·exact hH.key i h
 ·rw[asZ] at h;have h1:=(buZ hd).1;have:rt i≠id:=by omega
  simp only[this,decide_false,Bool.false_or] at h;rw[hD];exact hH.dyn i hd h
structure Upd (H:Hp) (id:Nat) (b:Blk) (H':Hp):Prop where
 X:∀i,hgetX H' i=if i=id then some ⟨false,b⟩ else hgetX H i
 K:∀i,hkeyX H' i=false->hkeyX H i=false
 fam:∀i x,hget H' i=some x->(hget H i=some x\/Ab.famOk i x)
 key:∀i,hkey H' i=true->hkey H i=true
theorem Upd.stat{id:Nat}{b0 b:Blk}(hid:id<famBase)(hg:hget H id=some ⟨false,b0⟩)(hf:Ab.famOk id ⟨false,b⟩):Upd H id b (hset H id (some ⟨false,b⟩)):=by
 refine⟨fun i=>a1Z hid _ _ i,fun i hi=> ?_,fun i x h=> ?_,fun i h=> ?_⟩
 ·rw[bbZ hid] at hi;simp at hi;exact hi.2
 ·rw[aoZ] at h;by_cases hi:i=id
  ·rw[ZAT hi] at h;injection h with h;subst h;rw[hi];exact .inr hf
  ·rw[ZAQ hi] at h;exact .inl h
 ·rw[asZ] at h;simp only[ZAp,ZAd] at h;rcases h with rfl|h
  ·exact ahZ hg
  ·exact h
theorem hlZ{id:Nat}(h:dynBase<=id){f:Nat}(hr:rt id=famId f):∃k,id=enc f k:=by
 obtain⟨f',k,hf,rfl⟩:=r7Z h;rw[cVZ] at hr;have:f'%16=f%16:=by
  unfold famId at hr;omega
 exact⟨k,by unfold enc;rw[this]⟩
theorem bpZ(H:Hp)(f:Nat)(e:Option Ent)(i:Nat):(∀k,hgetX (hset H (famId f) e) (enc f k)=e.bind (pick k))/\((∀k,i≠enc f k)->hgetX (hset H (famId f) e) i=hgetX H i):=by
 refine⟨fun k=> ?_,fun h=> ?_⟩
 ·rw[cdZ,aoZ,ZAT rfl]
 ·by_cases hd:dynBase<=i
  ·refine bOZ ?_;rw[aoZ,ZAQ];intro hr;obtain⟨k,hk⟩:=hlZ hd hr;exact h k hk
  ·unfold hgetX;rw[ZAQ hd,ZAQ hd];split
   ·rfl
   ·rename_i hf;rw[aoZ,ZAQ];have:=(bzZ f).1;omega
theorem b5Z(H:Hp)(f:Nat)(e:Ent)(i:Nat):(∀k,hkeyX (hset H (famId f) (some e)) (enc f k)=e.has k)/\((∀k,i≠enc f k)->hkeyX (hset H (famId f) (some e)) i=hkeyX H i):=by
 refine⟨fun k=> ?_,fun h=> ?_⟩
 ·rw[awZ (bvZ f k),cVZ,l4Z,aoZ,ZAT rfl]
 ·by_cases hd:dynBase<=i
  ·have hne:rt i≠famId f:=fun hr=>by
    obtain⟨k,hk⟩:=hlZ hd hr;exact h k hk
   exact cBZ (by rw[aoZ,ZAQ hne]) (by rw[asZ];simp[hne])
  ·unfold hkeyX;rw[ZAQ hd,ZAQ hd];split
   ·rfl
   ·rename_i hf;have:=(bzZ f).1;rw[asZ];have hne:i≠famId f:=by omega
    simp[hne]
theorem fgZ{f k:Nat}{fz:Bool}{e:TypeId}{s:Ty}{ms:List (Nat×List s.den)}{m:Nat×List s.den}(hg:hget H (famId f)=some ⟨fz,.fam e s ms⟩)(hm:ms[k]? =some m)(h0:m.1≠0):
 hgetX H (enc f k)=some ⟨fz||Nat.ble 2 m.1,.rows e s m.2⟩:=by
 rw[cdZ,hg];obtain⟨st,l⟩:=m;simp only[ZAA,pick,hm];rw[ZAQ h0]
theorem Upd.mem{f k:Nat}{e:TypeId}{s:Ty}{ms:List (Nat×List s.den)}{m:Nat×List s.den}(hg:hget H (famId f)=some ⟨false,.fam e s ms⟩)(hf:Ab.famOk (famId f) ⟨false,.fam e s ms⟩)(hm:ms[k]? =some m)(l':List s.den):
 Upd H (enc f k) (.rows e s l') (hset H (famId f) (some ⟨false,.fam e s (ms.set k (1,l'))⟩)):=by
 have hlt:=(ZAC.1 hm).1;refine⟨fun i=> ?_,fun i hi=> ?_,fun i x h=> ?_,fun i h=> ?_⟩
 ·by_cases hi:∃k',i=enc f k'
  ·obtain⟨k',rfl⟩:=hi;rw[(bpZ H f _ 0).1 k'];by_cases hk:k'=k
   ·subst hk;rw[ZAT rfl];simp only[ZAA,pick];rw[ZAU hlt]
    rfl
   ·rw[ZAQ fun h=>hk (hyZ h).2,cdZ,hg];simp only[ZAA,pick];rw[ZAg (ZBd hk)]
  ·rw[(bpZ H f _ i).2 fun k' h=>hi ⟨k',h⟩,ZAQ fun h=>hi ⟨k,h⟩]
 ·by_cases hi':∃k',i=enc f k'
  ·obtain⟨k',rfl⟩:=hi';rw[(b5Z H f _ 0).1 k'] at hi;rw[awZ (bvZ f k'),cVZ,l4Z,hg];simpa[Ent.has] using hi
  ·rwa [(b5Z H f _ i).2 fun k' h=>hi' ⟨k',h⟩] at hi
 ·rw[aoZ] at h;by_cases hi:i=famId f
  ·rw[ZAT hi] at h;injection h with h;subst h;rw[hi];exact .inr hf
  ·rw[ZAQ hi] at h;exact .inl h
 ·rw[asZ] at h;simp only[ZAp,ZAd] at h;rcases h with rfl|h
  ·exact ahZ hg
  ·exact h
theorem HRep.writeX{id g sz n:Nat}{b0 b:Blk}{w':World}{H':Hp}(hH:HRep z H)(hg:hgetX H id=some ⟨false,b0⟩)(hρ:z.ρ id= .real g sz n)
 (hos:w'.os=z.w.os)(htape:w'.tape=z.w.tape/\z.w.drawn<=w'.drawn)(hout:w'.output=z.w.output)(hsz:w'.heap.size=z.w.heap.size)(hne:∀b,b≠g->w'.heap[b]? =z.w.heap[b]?)
 (hb:Kp z {z with w:=w'}->BRep {z with w:=w'} g sz n b)(hu:Upd H id b H')(hr:¬Ro id):HRep {z with w:=w'} H'/\Nx z {z with w:=w'}:=by
 have hC:=(hH.realX hg hρ).2.1 rfl;have hn:Nx z {z with w:=w'}:=⟨hos,htape,hout,Nat.le_of_eq hsz.symm,fun b _ hb=>hne b (fun h=>hb (h▸hC)),fun _ h=>.inl h,fun _ h=>.inl h,fun _ _ h _=>h,fun _ _=>rfl,rfl⟩;have hk:=hn.kp hH.sub;refine⟨⟨fun i e hi=> ?_,fun i i' e e' a sa na a' sa' na' hii h1 h2 m1 m2 h3 h4=> ?_,fun i hi=>hH.fresh i (hu.K i hi),hH.sub,fun i x h=>(hu.fam i x h).elim (hH.fam i x) fun h=>h,fun i h=>hH.key i (hu.key i h),fun i hd h=>hH.dyn i hd (hu.key _ h),hH.nos⟩,hn⟩
 ·rw[hu.X] at hi;by_cases h:i=id
  ·subst h;rw[ZAT rfl] at hi;injection hi with hi;subst hi;unfold ERep;show match z.ρ i with|.no=>False|.virt=>BEmpty b|.real g sz n=>_
   rw[hρ];exact⟨by show g<w'.heap.size;rw[hsz];exact(hH.realX hg hρ).1,fun _=>hC,(fun h=>by cases h),hb hk⟩
  ·rw[ZAQ h] at hi;refine(hH.ent _ _ hi).kp hk fun a sa na ha=>⟨hne a (fun hag=> ?_),fun h=>h⟩;subst hag;exact hH.ne h hi hg rfl ha hρ (fun h=>hr h.2) rfl
 ·rw[hu.X] at h1 h2;have q:∀j ee,(if j=id then some (⟨false,b⟩:Ent) else hgetX H j)=some ee->ee.fz=false->∃ee',hgetX H j=some ee'/\ee'.fz=false:=fun j ee hj hf=>by
   by_cases h:j=id
   ·subst h;exact⟨_,hg,rfl⟩
   ·rw[ZAQ h] at hj;exact⟨_,hj,hf⟩
  obtain⟨e1,q1,f1⟩:=q _ _ h1 m1;obtain⟨e2,q2,f2⟩:=q _ _ h2 m2;exact hH.inj i i' _ _ _ _ _ _ _ _ hii q1 q2 f1 f2 h3 h4
theorem HRep.write{id g sz n:Nat}{b0 b:Blk}{w':World}(hH:HRep z H)(hg:hget H id=some ⟨false,b0⟩)(hρ:z.ρ id= .real g sz n)
 (hos:w'.os=z.w.os)(htape:w'.tape=z.w.tape/\z.w.drawn<=w'.drawn)(hout:w'.output=z.w.output)(hsz:w'.heap.size=z.w.heap.size)(hne:∀b,b≠g->w'.heap[b]? =z.w.heap[b]?)
 (hb:Kp z {z with w:=w'}->BRep {z with w:=w'} g sz n b):HRep {z with w:=w'} (hset H id (some ⟨false,b⟩))/\Nx z {z with w:=w'}:=by
 have hC:=(hH.real hg hρ).2.1 rfl;have hid:=hH.low hg (aGZ hρ);have hn:Nx z {z with w:=w'}:=⟨hos,htape,hout,Nat.le_of_eq hsz.symm,fun b _ hb=>hne b (fun h=>hb (h▸hC)),fun _ h=>.inl h,fun _ h=>.inl h,fun _ _ h _=>h,fun _ _=>rfl,rfl⟩;exact hH.writeX (hH.x hg (aGZ hρ)) hρ hos htape hout hsz hne hb (.stat hid hg ((hb (hn.kp hH.sub)).famOk hid)) (bwZ hid)
theorem HRep.new{id g sz n:Nat}{b:Blk}{w':World}(hH:HRep z H)(hk:hkey H id=false/\id<famBase)(hd:¬z.D id)(hg:z.w.heap.size<=g)(hg':g<w'.heap.size)
 (hos:w'.os=z.w.os)(htape:w'.tape=z.w.tape/\z.w.drawn<=w'.drawn)(hout:w'.output=z.w.output)(hsz:z.w.heap.size<=w'.heap.size)(hold:∀k,k<z.w.heap.size->w'.heap[k]? =z.w.heap[k]?)
 (hb:∀z',z'.w=w'->Kp z z'->BRep z' g sz n b):
 ∃z',z'.w=w'/\HRep z' (hset H id (some ⟨false,b⟩))/\Nx z z'/\z'.ρ id= .real g sz n:=by
 obtain⟨hk,hid⟩:=hk;have hno:=(hH.fresh id (by rw[a3Z hid];exact hk)).resolve_right hd
 let z':Z:=⟨w',fun x=>z.M x\/x=g,fun x=>z.C x\/x=g,fun i=>if i=id then .real g sz n else z.ρ i,z.D⟩
 have e1:∀i,i≠id->z'.ρ i=z.ρ i:=fun i hi=>ZAQ hi;have e2:z'.ρ id= .real g sz n:=ZAT rfl;have hn:Nx z z':=⟨hos,htape,hout,hsz,fun b hb _=>hold b hb,fun x hx=>hx.elim .inl fun h=>.inr (by rw[h];exact hg),fun x hx=>hx.elim .inl fun h=>.inr (by rw[h];exact hg),
  fun _ _ h _=>.inl h,fun i hi=>e1 i (by rintro rfl;exact hi hno),rfl⟩
 have hkp:=hn.kp hH.sub;have hreal:∀i e a sa na,hgetX H i=some e->z.ρ i= .real a sa na->a<z.w.heap.size:=fun i e a sa na h1 h2=>(hH.realX h1 h2).1;have s:=hH.side (z':=z') (e:=some ⟨false,b⟩) hid (fun x hx=>by injection hx with hx;subst hx;exact(hb z' rfl hkp).famOk hid) rfl (fun i h1 _=>e1 i (by omega));refine⟨z',rfl,⟨fun i e hi=> ?_,fun i i' e e' a sa na a' sa' na' hii h1 h2 m1 m2 h3 h4=> ?_,fun i hi=> ?_,fun x hx=>hx.elim (fun h=>.inl (hH.sub x h)) .inr,s.1,s.2.1,s.2.2.1,s.2.2.2⟩,hn,e2⟩
 ·rw[a1Z hid] at hi;by_cases h:i=id
  ·subst h;rw[ZAT rfl] at hi;injection hi with hi;subst hi;unfold ERep;rw[e2];exact⟨hg',fun _=>.inr rfl,(fun h=>by cases h),hb z' rfl hkp⟩
  ·rw[ZAQ h] at hi;refine(hH.ent _ _ hi).kp hkp fun a sa na ha=>⟨hold a (hreal _ _ _ _ _ hi ha),.inl⟩
 ·rw[a1Z hid] at h1 h2;by_cases hi:i=id
  ·have hi':i'≠id:=fun h=>hii (hi.trans h.symm);rw[ZAQ hi'] at h2;rw[hi,e2] at h3;rw[e1 _ hi'] at h4;injection h3 with h3;have:=hreal _ _ _ _ _ h2 h4;intro _;omega
  ·rw[ZAQ hi] at h1;rw[e1 _ hi] at h3;by_cases hi':i'=id
   ·rw[hi',e2] at h4;injection h4 with h4;have:=hreal _ _ _ _ _ h1 h3;intro _;omega
   ·rw[ZAQ hi'] at h2;rw[e1 _ hi'] at h4;exact hH.inj i i' _ _ _ _ _ _ _ _ hii h1 h2 m1 m2 h3 h4
 ·rw[bbZ hid] at hi;simp at hi;rw[e1 _ hi.1];exact hH.fresh i hi.2
theorem HRep.newV{id:Nat}{b:Blk}(hH:HRep z H)(hk:hkey H id=false/\id<famBase)(hd:¬z.D id)(hb:BEmpty b):
 ∃z',z'.w=z.w/\HRep z' (hset H id (some ⟨false,b⟩))/\Nx z z'/\z'.ρ id= .virt:=by
 obtain⟨hk,hid⟩:=hk;have hno:=(hH.fresh id (by rw[a3Z hid];exact hk)).resolve_right hd
 let z':Z:={z with ρ:=fun i=>if i=id then .virt else z.ρ i}
 have e1:∀i,i≠id->z'.ρ i=z.ρ i:=fun i hi=>ZAQ hi;have e2:z'.ρ id= .virt:=ZAT rfl;have hn:Nx z z':=⟨rfl,⟨rfl,ZAM _⟩,rfl,ZAM _,fun _ _ _=>rfl,fun _ h=>.inl h,fun _ h=>.inl h,fun _ _ h _=>h,fun i hi=>e1 i (by rintro rfl;exact hi hno),rfl⟩;have hkp:=hn.kp hH.sub;have s:=hH.side (z':=z') (e:=some ⟨false,b⟩) hid (fun x hx=>by injection hx with hx;subst hx;exact hb.famOk hid) rfl (fun i h1 _=>e1 i (by omega));refine⟨z',rfl,⟨fun i e hi=> ?_,fun i i' e e' a sa na a' sa' na' hii h1 h2 m1 m2 h3 h4=> ?_,fun i hi=> ?_,hH.sub,s.1,s.2.1,s.2.2.1,s.2.2.2⟩,hn,e2⟩
 ·rw[a1Z hid] at hi;by_cases h:i=id
  ·subst h;rw[ZAT rfl] at hi;injection hi with hi;subst hi;unfold ERep;rw[e2];exact hb
  ·rw[ZAQ h] at hi;exact(hH.ent _ _ hi).kp hkp fun a sa na ha=>⟨rfl,fun h=>h⟩
 ·rw[a1Z hid] at h1 h2;by_cases hi:i=id
  ·rw[hi,e2] at h3;cases h3
  ·by_cases hi':i'=id
   ·rw[hi',e2] at h4;cases h4
   ·rw[ZAQ hi] at h1;rw[ZAQ hi'] at h2;rw[e1 _ hi] at h3;rw[e1 _ hi'] at h4;exact hH.inj i i' _ _ _ _ _ _ _ _ hii h1 h2 m1 m2 h3 h4
 ·rw[bbZ hid] at hi;simp at hi;rw[e1 _ hi.1];exact hH.fresh i hi.2
theorem HRep.kill{id:Nat}(hH:HRep z H)(hk:hkey H id=true):HRep z (hset H id none):=by
 have q:∀j ee,hgetX (hset H id none) j=some ee->hgetX H j=some ee:=fun j ee hj=>by
  by_cases hi:rt j=id
  ·exfalso;by_cases hd:dynBase<=j
   ·rw[a2Z hd,aoZ,ZAT hi] at hj;cases hj
   ·rw[aOZ (ZBK.1 hd)] at hi;unfold hgetX at hj;rw[ZAQ hd] at hj;split at hj
    ·cases hj
    ·rw[aoZ,ZAT hi] at hj;cases hj
  ·rwa [bOZ (H:=H) (by rw[aoZ,ZAQ hi])] at hj
 have hkk:∀j,hkey (hset H id none) j=hkey H j:=fun j=>by
  rw[asZ];by_cases h:j=id
  ·subst h;simp[hk]
  ·simp[h]
 refine⟨fun i e hi=>hH.ent _ _ (q _ _ hi),fun i i' e e' a sa na a' sa' na' hii h1 h2 m1 m2 h3 h4=>hH.inj i i' _ _ _ _ _ _ _ _ hii (q _ _ h1) (q _ _ h2) m1 m2 h3 h4,fun i hi=> ?_,hH.sub,fun i x h=> ?_,fun i h=>hH.key i (by rw[<-hkk];exact h),fun i hd h=>hH.dyn i hd (by rw[<-hkk];exact h),hH.nos⟩
 ·refine hH.fresh i ?_;by_cases h:rt i=id
  ·by_cases hd:dynBase<=i
   ·rw[awZ hd,aoZ,ZAT h] at hi;simp only at hi;rw[hkk,h,hk] at hi;cases hi
   ·rw[aOZ (ZBK.1 hd)] at h;unfold hkeyX at hi⊢;rw[ZAQ hd] at hi⊢;split
    ·rfl
    ·rw[hkk] at hi;split at hi
     ·omega
     ·exact hi
  ·rwa [cBZ (H:=H) (by rw[aoZ,ZAQ h]) (hkk _)] at hi
 ·rw[aoZ] at h;split at h
  ·cases h
  ·exact hH.fam i x h
theorem klZ(id:Nat)(hH:HRep z H):∃z',z'.w=z.w/\HRep z' (frz H id)/\Nx z z'/\z'.ρ=z.ρ:=by
 unfold frz;by_cases hid:Nat.ble famBase id=true
 ·rw[hid,bq_true];exact⟨z,rfl,hH,Nx.refl z,rfl⟩
 have hid':id<famBase:=ZBK.1 fun h=>hid (ZAi h);rw[Bool.eq_false_iff.2 hid,bq_false];split
 ·rename_i e he;have heX:hgetX H id=some e:=by rw[aqZ hid'];exact he
  have qm:∀j ee,(if j=id then some (⟨true,e.b⟩:Ent) else hgetX H j)=some ee->ee.fz=false->hgetX H j=some ee/\j≠id:=fun j ee hj hf=>by
   by_cases h:j=id
   ·rw[ZAT h] at hj;injection hj with hj;rw[<-hj] at hf;cases hf
   ·rw[ZAQ h] at hj;exact⟨hj,h⟩
  have hinj:∀i i' (ee ee':Ent) g sz n g' sz' n',i≠i'->hgetX (hset H id (some ⟨true,e.b⟩)) i=some ee->hgetX (hset H id (some ⟨true,e.b⟩)) i'=some ee'->ee.fz=false->ee'.fz=false->z.ρ i= .real g sz n->z.ρ i'= .real g' sz' n'->¬(Ro i/\Ro i')->g≠g':=fun i i' ee ee' a sa na a' sa' na' hii h1 h2 m1 m2 h3 h4=>by
   rw[a1Z hid'] at h1 h2;exact hH.inj i i' _ _ _ _ _ _ _ _ hii (qm _ _ h1 m1).1 (qm _ _ h2 m2).1 m1 m2 h3 h4
  have hfresh:∀i,hkeyX (hset H id (some ⟨true,e.b⟩)) i=false->z.ρ i= .no\/z.D i:=fun i hi=>by
   rw[bbZ hid'] at hi;simp at hi;exact hH.fresh i hi.2
  have hs:∀z':Z,z'.D=z.D->z'.ρ=z.ρ->_:=fun z' h1 h2=>hH.side (z':=z') (e:=some ⟨true,e.b⟩) hid' (fun x hx=>by injection hx with hx;subst hx;exact(hH.fam id e he).other hid' id hid' true) h1 (fun i _ _=>by rw[h2]);by_cases hz:∃g sz n,z.ρ id= .real g sz n
  ·obtain⟨g,sz,n,hρ⟩:=hz;by_cases hfz:e.fz=true
   ·have s:=hs z rfl rfl;refine⟨z,rfl,⟨fun i ee hi=> ?_,hinj,hfresh,hH.sub,s.1,s.2.1,s.2.2.1,s.2.2.2⟩,Nx.refl z,rfl⟩;rw[a1Z hid'] at hi;by_cases h:i=id
    ·subst h;rw[ZAT rfl] at hi;injection hi with hi;subst hi;have:=hH.ent _ _ heX;unfold ERep at*;rw[hfz] at this;exact this
    ·rw[ZAQ h] at hi;exact hH.ent _ _ hi
   ·have hff:e.fz=false:=by simpa using hfz
    have hC:z.C g:=(hH.real he hρ).2.1 hff
    let z':Z:={z with M:=fun x=>z.M x/\x≠g,C:=fun x=>z.C x/\x≠g}
    have hn:Nx z z':=⟨rfl,⟨rfl,ZAM _⟩,rfl,ZAM _,fun _ _ _=>rfl,fun x hx=>.inl hx.1,fun x hx=>.inl hx.1,fun x _ hM hx=>⟨hM,fun h=>hx (h▸hC)⟩,fun _ _=>rfl,rfl⟩;have hkp:=hn.kp hH.sub;have s:=hs z' rfl rfl;refine⟨z',rfl,⟨fun i ee hi=> ?_,hinj,hfresh,fun x hx=>⟨hH.sub x hx.1,hx.2⟩,s.1,s.2.1,s.2.2.1,s.2.2.2⟩,hn,rfl⟩;rw[a1Z hid'] at hi;by_cases h:i=id
    ·subst h;rw[ZAT rfl] at hi;injection hi with hi;subst hi;obtain⟨h1,h2,h3,h4⟩:=hH.real he hρ;unfold ERep;rw[show z'.ρ i= .real g sz n from hρ];exact⟨h1,(fun h=>by cases h),fun _ h=>h.2 rfl,h4.kp hkp rfl⟩
    ·rw[ZAQ h] at hi;have h0:=hH.ent _ _ hi;unfold ERep at h0⊢;cases hρi:z.ρ i with
     |no=>rw[hρi] at h0;exact h0.elim
     |virt=>rw[hρi] at h0;exact h0
     |real a sa na=>
      rw[hρi] at h0;obtain⟨b1,b2,b3,b4⟩:=h0;exact⟨b1,fun hf=>⟨b2 hf,hH.ne h hi heX hff hρi hρ fun h=>bwZ hid' h.2⟩,fun hf hm=>b3 hf hm.1,b4.kp hkp rfl⟩
  ·have s:=hs z rfl rfl;refine⟨z,rfl,⟨fun i ee hi=> ?_,hinj,hfresh,hH.sub,s.1,s.2.1,s.2.2.1,s.2.2.2⟩,Nx.refl z,rfl⟩;rw[a1Z hid'] at hi;by_cases h:i=id
   ·subst h;rw[ZAT rfl] at hi;injection hi with hi;subst hi;have h0:=hH.ent _ _ heX;unfold ERep at*;cases hρ:z.ρ i with
    |no=>rw[hρ] at h0;exact h0
    |virt=>rw[hρ] at h0;exact h0
    |real g sz n=>exact absurd ⟨g,sz,n,hρ⟩ hz
   ·rw[ZAQ h] at hi;exact hH.ent _ _ hi
 ·exact⟨z,rfl,hH,Nx.refl z,rfl⟩
theorem mUZ(a:AV)(hH:HRep z H):∃z',z'.w=z.w/\HRep z' (frzA H a)/\Nx z z'/\z'.ρ=z.ρ:=by
 unfold frzA;split
 ·exact klZ _ hH
 ·exact klZ _ hH
 ·exact klZ _ hH
 ·exact⟨z,rfl,hH,Nx.refl z,rfl⟩
end
end Go.Ab
namespace Go.Ab
section
variable {z : Z}
theorem VRep.scal{w:World}{M:Nat->Prop}{ρ:Rho}{t:Ty}{x:t.den}{v:Value}(h:VRep w M ρ t x v)(ht:t.isAgg=false)(hc:t.cells=1):Cl w M ρ t x [v]:=by
 obtain⟨vs,h1,h2⟩:=h;have hl:=h1.len;rw[ht] at h2;simp only[ZAE] at h2
 match vs,hl with
 |[u],_=>simp at h2;subst h2;exact h1
 |[],hl=>simp at hl;omega
 |_::_::_,hl=>simp at hl;omega
theorem VRep.int{w:World}{M:Nat->Prop}{ρ:Rho}{k:IntKind}{n:Int}{v:Value}(h:VRep w M ρ (.int k) n v):v= .int k n:=by
 have:=h.scal rfl rfl;simp only[Cl,ZAq,ZBi] at this;exact this
theorem VRep.bool{w:World}{M:Nat->Prop}{ρ:Rho}{b:Bool}{v:Value}(h:VRep w M ρ .bool b v):v= .bool b:=by
 have:=h.scal rfl rfl;simp only[Cl,ZAq,ZBi] at this;exact this
theorem VRep.str{w:World}{M:Nat->Prop}{ρ:Rho}{l:List UInt8}{v:Value}(h:VRep w M ρ .str l v):v= .string ⟨⟨l⟩⟩:=by
 have:=h.scal rfl rfl;simp only[Cl,ZAq,ZBi] at this;exact this
theorem VRep.opq{w:World}{M:Nat->Prop}{ρ:Rho}{x v:Value}(h:VRep w M ρ .opq x v):v=x/\x.oneCell'=true:=by
 have:=h.scal rfl rfl;simp only[Cl,ZAq,ZBi] at this;exact this
theorem VRep.sl{w:World}{M:Nat->Prop}{ρ:Rho}{t:Ty}{l:List t.den}{v:Value}(h:VRep w M ρ (.sl t) l v):
 ∃A c,v= .slice A l.length c/\l.length<=c/\c<=maxLen/\(A=none->c=0)/\(l.length≠0->∃b off,A=some ⟨b,off,none⟩/\¬M b/\b<w.heap.size/\RowAt w M ρ b off t l):=by
 have:=h.scal rfl rfl;obtain⟨A,c,h1,h2⟩:=this;simp only[ZAq,ZBi] at h1;exact⟨A,c,h1,h2⟩
theorem VRep.mkSc{w:World}{M:Nat->Prop}{ρ:Rho}{t:Ty}{x:t.den}{v:Value}(h:Cl w M ρ t x [v])(ht:t.isAgg=false):VRep w M ρ t x v:=⟨[v],h,by rw[ht];rfl⟩
theorem VRep.mkI{w:World}{M:Nat->Prop}{ρ:Rho}(k:IntKind)(n:Int):VRep w M ρ (.int k) n (.int k n):=.mkSc rfl rfl
theorem VRep.mkB{w:World}{M:Nat->Prop}{ρ:Rho}(b:Bool):VRep w M ρ .bool b (.bool b):=.mkSc rfl rfl
theorem VRep.mkS{w:World}{M:Nat->Prop}{ρ:Rho}(l:List UInt8):VRep w M ρ .str l (.string ⟨⟨l⟩⟩):=.mkSc rfl rfl
theorem ARep.mkI(k:IntKind)(n:Int):ARep z (.i k n) (.int k n):=.p _ _ _ (.mkI k n)
theorem ARep.mkB(b:Bool):ARep z (.b b) (.bool b):=.p _ _ _ (.mkB b)
theorem ARep.mkS(l:List UInt8):ARep z (.s l) (.string ⟨⟨l⟩⟩):=.p _ _ _ (.mkS l)
theorem ARep.v{t:Ty}{x:t.den}{v:Value}(h:ARep z (.p t x) v):VRep z.w z.M z.ρ t x v:=by cases h with|p _ _ _ h=>exact h
theorem jVZ{t u:Ty}{x:t.den}{y:u.den}{v:Value}(h:nilSl t x u=some y)(hv:VRep z.w z.M z.ρ t x v):VRep z.w z.M z.ρ u y v:=by
 unfold nilSl at h;split at h
 ·simp at h;subst h;obtain⟨rfl,_⟩:=hv.opq;exact .mkSc ⟨none,0,rfl,ZAM _,by unfold maxLen;omega,fun _=>rfl,fun h=>absurd rfl h⟩ rfl
 ·simp at h;subst h;obtain⟨rfl,_⟩:=hv.opq;exact .mkSc rfl rfl
 ·simp at h;subst h;obtain⟨rfl,_⟩:=hv.opq;exact .mkSc (.inl ⟨rfl,rfl⟩) rfl
 ·split at h
  ·rename_i hs;subst hs;simp at h;subst h;exact .mkSc (hv.scal rfl rfl) rfl
  ·cases h
 ·cases h
theorem fsZ{u:Ty}{a:AV}{x:u.den}{v:Value}(h:a.get? u=some x)(ha:ARep z a v):VRep z.w z.M z.ρ u x v:=by
 unfold AV.get? at h;split at h
 ·rename_i t y;have hv:=ha.v;split at h
  ·rename_i ht;subst ht;simp at h;subst h;exact hv
  ·exact jVZ h hv
 ·rename_i f;unfold fnOpq at h;split at h
  ·simp at h;subst h;cases ha with|fn _ _ _ va vc h1 h2=>
   obtain rfl:va=#[]:=ZBt (by simpa using h1);obtain rfl:vc=#[]:=ZBt (by simpa using h2);exact .mkSc ⟨rfl,rfl⟩ rfl
  ·cases h
 ·cases h
theorem ddZ{k:IntKind}{a:AV}{n:Int}{v:Value}(h:a.int? k=some n)(ha:ARep z a v):v= .int k n:=(fsZ (u:=.int k) h ha).int
theorem b2Z{a:AV}{b:Bool}{v:Value}(h:a.bool? =some b)(ha:ARep z a v):v= .bool b:=(fsZ (u:=.bool) h ha).bool
theorem diZ{a:AV}{l:List UInt8}{v:Value}(h:a.str? =some l)(ha:ARep z a v):v= .string ⟨⟨l⟩⟩:=(fsZ (u:=.str) h ha).str
theorem bfZ{a:AV}{n:Int}{v:Value}(h:a.any? =some n)(ha:ARep z a v):∃k,v= .int k n:=by
 unfold AV.any? at h;split at h
 ·rename_i t x;unfold anyI at h;split at h
  ·rename_i k m;simp at h;subst h;exact⟨k,ha.v.int⟩
  ·cases h
 ·cases h
theorem orZ{n:Int}{c:UInt8}(h:byte? n=some c):n=(c.toNat:Int):=by
 unfold byte? at h;split at h
 ·injection h with h;subst h;rename_i hb;simp only[UInt8.toNat_ofNat'];omega
 ·cases h
theorem hEZ{a:AV}{l:List AV}{v:Value}(h:a.tup? =some l)(ha:ARep z a v):∃vs,v= .tuple vs/\vs.size=l.length/\∀(i:Nat) x u,l[i]? =some x->vs[i]? =some u->ARep z x u:=by
 unfold AV.tup? at h;split at h
 ·simp at h;subst h;cases ha with|tup _ vs h1 h2=>exact⟨vs,rfl,h1,h2⟩
 ·cases h
def AReps(z:Z)(l:List AV)(vs:List Value):Prop:=l.length=vs.length/\∀(i:Nat) a v,l[i]? =some a->vs[i]? =some v->ARep z a v
theorem AReps.nil:AReps z [] []:=⟨rfl,fun i a v h=>by simp at h⟩
theorem AReps.cons{a:AV}{v:Value}{l:List AV}{vs:List Value}(h:ARep z a v)(hs:AReps z l vs):AReps z (a::l) (v::vs):=by
 refine⟨by simp[hs.1],fun i x u h1 h2=> ?_⟩
 match i with
 |0=>simp at h1 h2;subst h1;subst h2;exact h
 |i+1=>exact hs.2 i x u (by simpa using h1) (by simpa using h2)
theorem AReps.head{a:AV}{v:Value}{l:List AV}{vs:List Value}(h:AReps z (a::l) (v::vs)):ARep z a v:=h.2 0 a v rfl rfl
theorem AReps.tail{a:AV}{v:Value}{l:List AV}{vs:List Value}(h:AReps z (a::l) (v::vs)):AReps z l vs:=
 ⟨by simpa using h.1,fun i x u h1 h2=>h.2 (i+1) x u (by simpa using h1) (by simpa using h2)⟩
theorem AReps.append{l l':List AV}{vs vs':List Value}(h:AReps z l vs)(h':AReps z l' vs'):AReps z (l++l') (vs++vs'):=by
 refine⟨by simp[h.1,h'.1],fun i a v h1 h2=> ?_⟩;by_cases hi:i<l.length
 ·rw[ZAL hi] at h1;rw[ZAL (by rw[<-h.1];exact hi)] at h2;exact h.2 i a v h1 h2
 ·rw[ZAO (by omega)] at h1;rw[ZAO (by rw[<-h.1];omega),<-h.1] at h2;exact h'.2 _ a v h1 h2
theorem AReps.take{l:List AV}{vs:List Value}(h:AReps z l vs)(n:Nat):AReps z (l.take n) (vs.take n):=by
 refine⟨by simp[h.1],fun i a v h1 h2=> ?_⟩;have hi:i<n:=by
  have:=(ZAC.1 h1).1;simp at this;omega
 rw[ZBN hi] at h1 h2;exact h.2 i a v h1 h2
theorem AReps.drop{l:List AV}{vs:List Value}(h:AReps z l vs)(n:Nat):AReps z (l.drop n) (vs.drop n):=by
 refine⟨by simp[h.1],fun i a v h1 h2=> ?_⟩;rw[ZAw] at h1 h2;exact h.2 _ a v h1 h2
theorem AReps.kp{z':Z}{l:List AV}{vs:List Value}(k:Kp z z')(h:AReps z l vs):AReps z' l vs:=⟨h.1,fun i a v h1 h2=>(h.2 i a v h1 h2).kp k⟩
theorem AReps.get{l:List AV}{vs:List Value}(h:AReps z l vs){i:Nat}{a:AV}(ha:l[i]? =some a):∃v,vs[i]? =some v/\ARep z a v:=by
 have hlt:i<vs.length:=by
  have:=(ZAC.1 ha).1;rw[<-h.1];exact this
 exact⟨_,ZAD hlt,h.2 i a _ ha (ZAD hlt)⟩
theorem AReps.headD{l:List AV}{vs:List Value}(h:AReps z l vs):ARep z (l.headD .junk) (vs.headD undef):=by
 match l,vs,h with
 |[],[],_=>exact .junk _
 |a::l,v::vs,h=>exact h.head
 |[],_::_,h=>have:=h.1;simp at this
 |_::_,[],h=>have:=h.1;simp at this
theorem ARep.reps{l:List AV}{cs:Array Value}(h:ARep z (.agg l) (.agg cs)):AReps z l cs.toList:=by
 cases h with|agg _ _ hs h1 h=>exact⟨by simp[hs],fun i a v h2 h3=>h i a v h2 (by simpa using h3)⟩
theorem b8Z{t:Ty}{x:t.den}{v:Value}(h:VRep z.w z.M z.ρ t x v):ARep z (.ofTy t x) v:=by
 unfold AV.ofTy;split
 ·have:=h.scal rfl rfl;simp only[Cl,ZAq,ZBi] at this;subst this;exact .mkI _ _
 ·exact .p _ _ _ h
theorem d6Z:(t:Ty)->(x:t.den)->(split t x).length<=t.cells
 |.one t,x=>d6Z t x
 |.pair a b,x=>by
  have h1:=d6Z a x.1;have h2:=d6Z b x.2;simp only[split,ZAY,Ty.cells];omega
 |.arr _ _,_=>ZBS _
 |.int _,_|.byte,_|.bool,_|.str,_|.opq,_|.nat,_|.ptr _,_|.sl _,_|.ref _ _,_=>ZAM _
theorem dLZ:{t:Ty}->{x:t.den}->{vs:List Value}->Cl z.w z.M z.ρ t x vs->(split t x).length=t.cells->AReps z (split t x) vs
 |.one t,x,vs,h,hl=>dLZ (t:=t) h hl
 |.pair a b,x,vs,h,hl=>by
  obtain⟨u,v,rfl,h1,h2⟩:=h;have q1:=d6Z a x.1;have q2:=d6Z b x.2;simp only[split,ZAY,Ty.cells] at hl;exact(dLZ h1 (by omega)).append (dLZ h2 (by omega))
 |.arr n t,x,vs,h,hl=>by
  have:=h.len;rw[<-hl] at this
  match vs,this with
  |[],_=>exact .nil
 |.int _,_,vs,h,_|.bool,_,vs,h,_|.str,_,vs,h,_=>by
  have hl:=h.len
  match vs,hl with
  |[v],_=>exact .cons (.p _ _ _ (.mkSc h rfl)) .nil
 |.opq,_,vs,h,_=>by
  have hl:=h.len
  match vs,hl with
  |[v],_=>exact .cons (.p _ _ _ (.mkSc h rfl)) .nil
 |.sl _,_,vs,h,_|.ptr _,_,vs,h,_|.ref _ _,_,vs,h,_=>by
  have hl:=h.len
  match vs,hl with
  |[v],_=>exact .cons (.p _ _ _ (.mkSc h rfl)) .nil
 |.byte,_,vs,h,_=>by
  simp only[Cl] at h;subst h;exact .cons (.mkI _ _) .nil
 |.nat,_,_,h,_=>h.elim
theorem caZ{a:AV}{l:List AV}{v:Value}(h:cellsA a=some l)(ha:ARep z a v):AReps z l v.cells.toList/\(∀u∈v.cells,u.oneCell'=true)/\
 v=(bif aggA a then .agg v.cells else v.cells.toList.headD undef):=by
 have one:∀(b:AV) (v:Value),ARep z b v->v.oneCell'=true->AReps z [b] v.cells.toList/\(∀u∈v.cells,u.oneCell'=true)/\v=v.cells.toList.headD undef:=fun b v hb h1=>by
  have hc:v.cells=#[v]:=by cases v<;>first|rfl|(simp[Value.oneCell'] at h1;done)
  rw[hc];exact⟨.cons hb .nil,fun u hu=>by simp at hu;subst hu;exact h1,rfl⟩
 cases ha with
 |p t x v h1=>
  simp only[cellsA] at h;cases hl:Nat.beq (split t x).length t.cells<;>rw[hl] at h<;>simp at h;subst h;rw[acZ] at hl;obtain⟨vs,h2,h3⟩:=h1;cases hagg:t.isAgg<;>rw[hagg] at h3<;>simp only[ZAE,ZAK] at h3
  ·have hn:=h2.len;have hc:t.cells=1:=by cases t<;>first|rfl|(simp[Ty.isAgg] at hagg;done)
   match vs,hn with
   |[u],_=>
    simp at h3;subst h3;obtain⟨q1,q2,q3⟩:=one (.p t x) v (.p _ _ _ (.mkSc h2 hagg)) (h2.one v (by simp));have e:v.cells=#[v]:=by
     have:=h2.one v (by simp);cases v<;>first|rfl|(simp[Value.oneCell'] at this;done)
    refine⟨by rw[e];exact dLZ h2 hl,q2,by simp only[aggA,hagg,ZAE];exact q3⟩
   |[],hn=>simp at hn;omega
   |_::_::_,hn=>simp at hn;omega
  ·subst h3;exact⟨dLZ h2 hl,fun u hu=>h2.one u (by simpa[Value.cells] using hu),by simp only[aggA,hagg,ZAK];rfl⟩
 |pt t l i j b off hM hlt h1=>simp[cellsA] at h;subst h;exact one _ _ (.pt _ _ _ _ _ _ hM hlt h1) rfl
 |own es id i j g sz n h1=>simp[cellsA] at h;subst h;exact one _ _ (.own _ _ _ _ _ _ _ h1) rfl
 |rp f es k i j g sz n h1=>simp[cellsA] at h;subst h;exact one _ _ (.rp _ _ _ _ _ _ _ _ h1) rfl
 |slV es id off A h1=>simp[cellsA] at h;subst h;exact one _ _ (.slV _ _ _ _ h1) rfl
 |slE es id off g sz m o h1=>simp[cellsA] at h;subst h;exact one _ _ (.slE _ _ _ _ _ _ _ h1) rfl
 |sl es id off n g sz m c h1 hn hs hm=>simp[cellsA] at h;subst h;exact one _ _ (.sl _ _ _ _ _ _ _ _ h1 hn hs hm) rfl
 |slfV es id A h1=>simp[cellsA] at h;subst h;exact one _ _ (.slfV _ _ _ h1) rfl
 |slf es id g sz n c h1 hn hs hm=>simp[cellsA] at h;subst h;exact one _ _ (.slf _ _ _ _ _ _ h1 hn hs hm) rfl
 |mp id g sz n h1=>simp[cellsA] at h;subst h;exact one _ _ (.mp _ _ _ _ h1) rfl
 |fn f a c va vc ha hc h1 h2=>simp[cellsA] at h;subst h;exact one _ _ (.fn _ _ _ _ _ ha hc h1 h2) rfl
 |agg l' cs hs h1 h2=>
  simp[cellsA] at h;subst h;exact⟨⟨by simp[Value.cells,hs],fun i a v q1 q2=>h2 i a v q1 (by simpa[Value.cells] using q2)⟩,h1,rfl⟩
 |tup l' vs hs h2=>simp[cellsA] at h
 |junk v=>simp[cellsA] at h
section
variable {β : Type}
theorem jhZ{t:Ty}{c:Nat}(f:List AV->(t.den->Option β)->Option β)
 (hf:∀{cs:List AV} {vs:List Value} {K:t.den->Option β} {r:β},f cs K=some r->AReps z cs vs->cs.length=c->(∀v∈vs,v.oneCell'=true)->∃y,Cl z.w z.M z.ρ t y vs/\K y=some r):
 ∀(n:Nat) {cs:List AV} {vs:List Value} {K:List t.den->Option β} {r:β},asmN f c n cs K=some r->AReps z cs vs->cs.length=n*c->(∀v∈vs,v.oneCell'=true)->
  ∃(l:List t.den) (css:List (List Value)),l.length=n/\css.length=n/\vs=css.flatten/\(∀(i:Nat) e u,l[i]? =some e->css[i]? =some u->Cl z.w z.M z.ρ t e u)/\K l=some r
 |0,cs,vs,K,r,h,hr,hl,_=>by
  have:vs=[]:=ZAR (by rw[<-hr.1,hl,ZBa]);exact⟨[],[],rfl,rfl,by simp[this],fun i e u h1=>by simp at h1,h⟩
 |n+1,cs,vs,K,r,h,hr,hl,h1=>by
  simp only[asmN] at h;have hlen:(n+1)*c=n*c+c:=ZBY n c;obtain⟨y,q1,q2⟩:=hf h (hr.take c) (by rw[ZAS];omega) (fun v hv=>h1 v (ZCA hv));obtain⟨l,css,p1,p2,p3,p4,p5⟩:=jhZ f hf n q2 (hr.drop c) (by rw[ZAv];omega) (fun v hv=>h1 v (List.mem_of_mem_drop hv));refine⟨y::l,vs.take c::css,by simp[p1],by simp[p2],by rw[ZBM,<-p3,ZBu],fun i e u q3 q4=> ?_,p5⟩
  match i with
  |0=>simp at q3 q4;subst q3;subst q4;exact q1
  |i+1=>exact p4 i e u (by simpa using q3) (by simpa using q4)
theorem gnZ:{u:Ty}->{cs:List AV}->{vs:List Value}->{K:u.den->Option β}->{r:β}->asm u cs K=some r->AReps z cs vs->cs.length=u.cells->(∀v∈vs,v.oneCell'=true)->
 ∃y,Cl z.w z.M z.ρ u y vs/\K y=some r
 |.byte,cs,vs,K,r,h,hr,hl,h1=>by
  simp only[asm] at h;obtain⟨n,h2,h3⟩:=agZ.1 h;obtain⟨c,h4,h5⟩:=ZAF.1 h3;have hv:=ddZ h2 hr.headD;have hlv:vs.length=1:=by rw[<-hr.1,hl];rfl
  match vs,hlv with
  |[v],_=>
   simp at hv;subst hv;rw[orZ h4];exact⟨c,rfl,h5⟩
 |.one t,cs,vs,K,r,h,hr,hl,h1=>gnZ (u:=t) h hr hl h1
 |.pair a b,cs,vs,K,r,h,hr,hl,h1=>by
  simp only[asm] at h;simp only[Ty.cells] at hl;obtain⟨x,q1,q2⟩:=gnZ h (hr.take a.cells) (by rw[ZAS];omega) (fun v hv=>h1 v (ZCA hv));obtain⟨y,q3,q4⟩:=gnZ q2 (hr.drop a.cells) (by rw[ZAv];omega) (fun v hv=>h1 v (List.mem_of_mem_drop hv));exact⟨(x,y),⟨_,_,(ZBu _ _).symm,q1,q3⟩,q4⟩
 |.arr n t,cs,vs,K,r,h,hr,hl,h1=>by
  simp only[asm] at h;obtain⟨l,css,p1,p2,p3,p4,p5⟩:=jhZ (asm t) (fun h hr hl h1=>gnZ h hr hl h1) n h hr hl h1;exact⟨l,⟨p1,css,p2,p3,p4⟩,p5⟩
 |.int k,cs,vs,K,r,h,hr,hl,h1|.bool,cs,vs,K,r,h,hr,hl,h1|.str,cs,vs,K,r,h,hr,hl,h1|.opq,cs,vs,K,r,h,hr,hl,h1|.nat,cs,vs,K,r,h,hr,hl,h1|.sl _,cs,vs,K,r,h,hr,hl,h1|.ref _ _,cs,vs,K,r,h,hr,hl,h1=>by
  simp only[asm] at h;obtain⟨n,h2,h3⟩:=agZ.1 h;have hv:=(fsZ h2 hr.headD).scal rfl rfl;have hlv:vs.length=1:=by rw[<-hr.1,hl];rfl
  match vs,hlv with
  |[v],_=>exact⟨n,hv,h3⟩
 |.ptr t,cs,vs,K,r,h,hr,hl,h1=>by
  have hlv:vs.length=1:=by rw[<-hr.1,hl];rfl
  simp only[asm] at h;have hd:=hr.headD
  match vs,hlv with
  |[v],_=>
   split at h
   ·rename_i u l i hh;rw[hh] at hd;rcases aFZ h with⟨ht,h⟩|h
    ·subst ht;obtain⟨l',h2,h3⟩:=ZAF.1 h;unfold ptr? at h2;split at h2
     ·rename_i hi;obtain rfl:=ZAk h2;cases hd with
      |pt _ _ _ _ b off hM hlt hrow=>
       refine⟨_,.inr ⟨?_,b,off+i*u.cells,rfl,hM,hlt,fun k e he=> ?_⟩,h3⟩
       ·show(List.drop i l).length≠0;rw[ZAv];have:i<l.length:=hi;omega
       ·obtain⟨w,h5,h6⟩:=hrow (i+k) e (by rw[<-List.getElem?_drop];exact he);exact⟨w,h5,by rw[ZAo,<-Nat.add_assoc] at h6;exact h6⟩
     ·cases h2
    ·cases h
   ·obtain⟨n,h2,h3⟩:=agZ.1 h;have hv:=(fsZ h2 hr.headD).scal rfl rfl;exact⟨n,hv,h3⟩
theorem pGZ{u:Ty}{a:AV}{K:u.den->Option β}{r:β}{v:Value}(h:asC u a K=some r)(ha:ARep z a v):∃y,VRep z.w z.M z.ρ u y v/\K y=some r:=by
 unfold asC at h;obtain⟨cs,h1,h2⟩:=agZ.1 h;obtain⟨h3,h4⟩:=aeZ.1 h2;simp only[ZAB,acZ,ZBf] at h3;obtain⟨q1,q2,q3⟩:=caZ h1 ha;obtain⟨y,q4,q5⟩:=gnZ h4 q1 h3.1 (fun v hv=>q2 v (by simpa using hv));refine⟨y,⟨_,q4,?_⟩,q5⟩;rw[<-h3.2];rw[Array.toArray_toList];exact q3
theorem bxZ{u:Ty}{a:AV}{K:u.den->Option β}{r:β}{v:Value}(h:asA u a K=some r)(ha:ARep z a v):∃y,VRep z.w z.M z.ρ u y v/\K y=some r:=by
 unfold asA at h;split at h
 ·rename_i t x;rcases aFZ h with⟨ht,h⟩|h
  ·subst ht;exact⟨x,ha.v,h⟩
  ·exact pGZ h ha
 ·exact pGZ h ha
theorem sub_self{t:Ty}{x:t.den}{vs:List Value}{o:Nat}{u:Ty}{K:u.den->Option β}{r:β}{w:World}{M:Nat->Prop}{ρ:Rho}(h:t=u)(hc:Cl w M ρ t x vs)
 (hk:bq (Nat.beq o 0) (K (Ty.to h x)) none=some r):∃y,Cl w M ρ u y ((vs.drop o).take u.cells)/\o+u.cells<=t.cells/\K y=some r:=by
 subst h;cases ho:Nat.beq o 0<;>rw[ho] at hk<;>simp only[bq_true,bq_false] at hk
 ·cases hk
 ·rw[acZ] at ho;subst ho;refine⟨x,?_,by omega,hk⟩;rw[ZBr,ZAu (by rw[hc.len];exact ZAM _)];exact hc
theorem i4Z{w:World}{M:Nat->Prop}{ρ:Rho}:{t:Ty}->{x:t.den}->{o:Nat}->{u:Ty}->{K:u.den->Option β}->{r:β}->{vs:List Value}->sub t x o u K=some r->Cl w M ρ t x vs->
 ∃y,Cl w M ρ u y ((vs.drop o).take u.cells)/\o+u.cells<=t.cells/\K y=some r
 |.one t,x,o,u,K,r,vs,h,hc=>by
  simp only[sub] at h;rcases aFZ h with⟨ht,h⟩|h
  ·exact sub_self ht hc h
  ·exact i4Z (t:=t) h hc
 |.pair a b,x,o,u,K,r,vs,h,hc=>by
  simp only[sub] at h;rcases aFZ h with⟨ht,h⟩|h
  ·exact sub_self ht hc h
  ·obtain⟨v1,v2,rfl,h1,h2⟩:=hc;cases ho:Nat.blt o a.cells<;>rw[ho] at h<;>simp only[bq_true,bq_false] at h
   ·have ho':a.cells<=o:=by
     rcases ZB2 o a.cells with h'|h'
     ·rw[show Nat.blt o a.cells=true from ZAi h'] at ho;cases ho
     ·exact h'
    obtain⟨y,q1,q2,q3⟩:=i4Z h h2;refine⟨y,?_,by simp only[Ty.cells];omega,q3⟩;rw[List.drop_append,ZA9 (by rw[h1.len];exact ho'),ZBA,h1.len];exact q1
   ·have ho':o<a.cells:=ZBC ho;obtain⟨y,q1,q2,q3⟩:=i4Z h h1;refine⟨y,?_,by simp only[Ty.cells];omega,q3⟩;rw[ZBT (by rw[h1.len];omega),ZBG (by rw[ZAv,h1.len];omega)];exact q1
 |.int _,x,o,u,K,r,vs,h,hc|.byte,x,o,u,K,r,vs,h,hc|.bool,x,o,u,K,r,vs,h,hc|.str,x,o,u,K,r,vs,h,hc|.opq,x,o,u,K,r,vs,h,hc|.nat,x,o,u,K,r,vs,h,hc|.ptr _,x,o,u,K,r,vs,h,hc
 |.sl _,x,o,u,K,r,vs,h,hc|.arr _ _,x,o,u,K,r,vs,h,hc|.ref _ _,x,o,u,K,r,vs,h,hc=>by
  simp only[sub] at h;rcases aFZ h with⟨ht,h⟩|h
  ·exact sub_self ht hc h
  ·cases h
theorem azZ:(t:Ty)->t.unref.cells=t.cells
 |.one t=>azZ t
 |.pair a b=>by simp only[Ty.unref,Ty.cells,azZ a,azZ b]
 |.int _|.byte|.bool|.str|.opq|.nat|.ptr _|.sl _|.arr _ _|.ref _ _=>rfl
theorem fwZ(t:Ty):t.unref.isAgg=t.isAgg:=by cases t<;>rfl
theorem fEZ{t:Ty}{x:t.den}{vs:List Value}{o:Nat}{u:Ty}{K:AV->Option β}{r:β}{w:World}{M:Nat->Prop}{ρ:Rho}{E:Option β}(hc:Cl w M ρ t x vs)
 (hk:bq (decide (t.unref=u)&&Nat.beq o 0) (K (.ofTy t x)) E=some r):(∃(t':Ty) (y:t'.den),t'.unref=u/\Cl w M ρ t' y ((vs.drop o).take t'.cells)/\o+t'.cells<=t.cells/\K (.ofTy t' y)=some r)\/E=some r:=by
 cases ho:(decide (t.unref=u)&&Nat.beq o 0)<;>rw[ho] at hk<;>simp only[bq_true,bq_false] at hk
 ·exact .inr hk
 ·simp only[ZAB,ZAd,acZ] at ho;obtain⟨h1,rfl⟩:=ho;refine .inl ⟨t,x,h1,?_,by omega,hk⟩;rw[ZBr,ZAu (by rw[hc.len];exact ZAM _)];exact hc
theorem eJZ{w:World}{M:Nat->Prop}{ρ:Rho}:{t:Ty}->{x:t.den}->{o:Nat}->{u:Ty}->{K:AV->Option β}->{r:β}->{vs:List Value}->subR t x o u K=some r->Cl w M ρ t x vs->
 ∃(t':Ty) (y:t'.den),t'.unref=u/\Cl w M ρ t' y ((vs.drop o).take t'.cells)/\o+t'.cells<=t.cells/\K (.ofTy t' y)=some r
 |.one t,x,o,u,K,r,vs,h,hc=>by
  simp only[subR] at h;rcases fEZ (t:=.one t) hc h with h|h
  ·exact h
  ·exact eJZ (t:=t) h hc
 |.pair a b,x,o,u,K,r,vs,h,hc=>by
  simp only[subR] at h;rcases fEZ (t:=.pair a b) hc h with h|h
  ·exact h
  ·obtain⟨v1,v2,rfl,h1,h2⟩:=hc;cases ho:Nat.blt o a.cells<;>rw[ho] at h<;>simp only[bq_true,bq_false] at h
   ·have ho':a.cells<=o:=by
     rcases ZB2 o a.cells with h'|h'
     ·rw[show Nat.blt o a.cells=true from ZAi h'] at ho;cases ho
     ·exact h'
    obtain⟨t',y,q0,q1,q2,q3⟩:=eJZ h h2;refine⟨t',y,q0,?_,by simp only[Ty.cells];omega,q3⟩;rw[List.drop_append,ZA9 (by rw[h1.len];exact ho'),ZBA,h1.len];exact q1
   ·have ho':o<a.cells:=ZBC ho;obtain⟨t',y,q0,q1,q2,q3⟩:=eJZ h h1;refine⟨t',y,q0,?_,by simp only[Ty.cells];omega,q3⟩;rw[ZBT (by rw[h1.len];omega),ZBG (by rw[ZAv,h1.len];omega)];exact q1
 |.int _,x,o,u,K,r,vs,h,hc|.byte,x,o,u,K,r,vs,h,hc|.bool,x,o,u,K,r,vs,h,hc|.str,x,o,u,K,r,vs,h,hc|.opq,x,o,u,K,r,vs,h,hc|.nat,x,o,u,K,r,vs,h,hc|.ptr _,x,o,u,K,r,vs,h,hc
 |.sl _,x,o,u,K,r,vs,h,hc|.arr _ _,x,o,u,K,r,vs,h,hc|.ref _ _,x,o,u,K,r,vs,h,hc=>by
  simp only[subR] at h;rcases fEZ hc h with h|h
  ·exact h
  ·cases h
theorem VRep.cells'{w:World}{M:Nat->Prop}{ρ:Rho}{t:Ty}{x:t.den}{v:Value}(h:VRep w M ρ t x v):Cl w M ρ t x v.cells.toList:=by
 obtain⟨vs,h1,h2⟩:=h;cases hagg:t.isAgg<;>rw[hagg] at h2<;>simp only[ZAK,ZAE] at h2
 ·have hl:=h1.len;have hc:t.cells=1:=by cases t<;>first|rfl|(simp[Ty.isAgg] at hagg;done)
  match vs,hl with
  |[u],_=>
   simp at h2;subst h2;have h3:=h1.one v (by simp);have e:v.cells=#[v]:=by cases v<;>first|rfl|(simp[Value.oneCell'] at h3;done)
   rw[e];exact h1
  |[],hl=>simp at hl;omega
  |_::_::_,hl=>simp at hl;omega
 ·subst h2;exact h1
theorem eLZ{t:Ty}{vs:List Value}{o:Nat}{u:Ty}{a:AV}{v:Value}{K:t.den->Option β}{r:β}{E:Option β}(hl:vs.length=t.cells)(ha:ARep z a v)
 (hk:bq (decide (t.unref=u)&&Nat.beq o 0) (asA t a K) E=some r):(∃x',Cl z.w z.M z.ρ t x' (vs.take o++v.cells.toList++vs.drop (o+u.cells))/\o+u.cells<=t.cells/\v.cells.size=u.cells/\(∀c∈v.cells,c.oneCell'=true)/\K x'=some r)\/E=some r:=by
 cases ho:(decide (t.unref=u)&&Nat.beq o 0)<;>rw[ho] at hk<;>simp only[bq_true,bq_false] at hk
 ·exact .inr hk
 ·simp only[ZAB,ZAd,acZ] at ho;obtain⟨rfl,rfl⟩:=ho;obtain⟨y,h1,h2⟩:=bxZ hk ha;have h3:=h1.cells';refine .inl ⟨y,?_,by rw[azZ];omega,by rw[azZ];have:=h3.len;simpa using this,fun c hc=>h3.one c (by simpa using hc),h2⟩;rw[azZ,List.take_zero,ZBA,ZA9 (by omega),ZA1];exact h3
theorem gNZ:{t:Ty}->{x:t.den}->{o:Nat}->{u:Ty}->{a:AV}->{v:Value}->{K:t.den->Option β}->{r:β}->{vs:List Value}->updR t x o u a K=some r->Cl z.w z.M z.ρ t x vs->ARep z a v->
 ∃x',Cl z.w z.M z.ρ t x' (vs.take o++v.cells.toList++vs.drop (o+u.cells))/\o+u.cells<=t.cells/\v.cells.size=u.cells/\(∀c∈v.cells,c.oneCell'=true)/\K x'=some r
 |.one t,x,o,u,a,v,K,r,vs,h,hc,ha=>by
  simp only[updR] at h;rcases eLZ (t:=.one t) hc.len ha h with h|h
  ·exact h
  ·exact gNZ (t:=t) h hc ha
 |.pair a b,x,o,u,y,v,K,r,vs,h,hc,ha=>by
  simp only[updR] at h;rcases eLZ (t:=.pair a b) hc.len ha h with h|h
  ·exact h
  ·obtain⟨v1,v2,rfl,h1,h2⟩:=hc;have l1:=h1.len;have l2:=h2.len;cases ho:Nat.blt o a.cells<;>rw[ho] at h<;>simp only[bq_true,bq_false] at h
   ·have ho':a.cells<=o:=by
     rcases ZB2 o a.cells with h'|h'
     ·rw[show Nat.blt o a.cells=true from ZAi h'] at ho;cases ho
     ·exact h'
    obtain⟨z,q1,q2,q3,q4,q5⟩:=gNZ h h2 ha;refine⟨(x.1,z),⟨v1,_,?_,h1,q1⟩,by simp only[Ty.cells];omega,q3,q4,q5⟩;rw[List.take_append,ZAu (by omega),List.drop_append,ZA9 (by omega),ZBA,l1];simp only[ZAr];congr 4;omega
   ·have ho':o<a.cells:=ZBC ho;obtain⟨z,q1,q2,q3,q4,q5⟩:=gNZ h h1 ha;refine⟨(z,x.2),⟨_,v2,?_,q1,h2⟩,by simp only[Ty.cells];omega,q3,q4,q5⟩;rw[ZBG (by omega),ZBT (by omega)];simp only[ZAr]
 |.int _,x,o,u,a,v,K,r,vs,h,hc,ha|.byte,x,o,u,a,v,K,r,vs,h,hc,ha|.bool,x,o,u,a,v,K,r,vs,h,hc,ha|.str,x,o,u,a,v,K,r,vs,h,hc,ha|.opq,x,o,u,a,v,K,r,vs,h,hc,ha
 |.nat,x,o,u,a,v,K,r,vs,h,hc,ha|.ptr _,x,o,u,a,v,K,r,vs,h,hc,ha|.sl _,x,o,u,a,v,K,r,vs,h,hc,ha|.arr _ _,x,o,u,a,v,K,r,vs,h,hc,ha|.ref _ _,x,o,u,a,v,K,r,vs,h,hc,ha=>by
  simp only[updR] at h;rcases eLZ hc.len ha h with h|h
  ·exact h
  ·cases h
theorem dDZ{w:World}{M:Nat->Prop}{ρ:Rho}:{t:Ty}->{x:t.unref.den}->{vs:List Value}->Cl w M ρ t.unref x vs->Cl w M ρ t (liftT t x) vs
 |.one t,x,vs,h=>dDZ (t:=t) h
 |.pair a b,x,vs,h=>by
  obtain⟨u,v,rfl,h1,h2⟩:=h;exact⟨u,v,rfl,dDZ h1,dDZ h2⟩
 |.ref f t,x,vs,h=>h
 |.int _,x,vs,h|.byte,x,vs,h|.bool,x,vs,h|.str,x,vs,h|.opq,x,vs,h|.nat,x,vs,h|.ptr _,x,vs,h|.sl _,x,vs,h|.arr _ _,x,vs,h=>h
theorem f8Z{w:World}{M:Nat->Prop}{ρ:Rho}:{t:Ty}->{x:t.den}->{y:t.unref.den}->{vs:List Value}->lowD t x=some y->Cl w M ρ t x vs->Cl w M ρ t.unref y vs
 |.one t,x,y,vs,h,hc=>f8Z (t:=t) h hc
 |.pair a b,x,y,vs,h,hc=>by
  obtain⟨u,v,rfl,h1,h2⟩:=hc;simp only[lowD] at h;obtain⟨p,h3,h4⟩:=ZAF.1 h;obtain⟨q,h5,rfl⟩:=ZAH.1 h4;exact⟨u,v,rfl,f8Z h3 h1,f8Z h5 h2⟩
 |.ref f t,.inl l,y,vs,h,hc=>by
  obtain rfl:=ZAk h;exact hc
 |.ref f t,.inr none,y,vs,h,hc=>by
  obtain rfl:=ZAk h;obtain rfl:vs=[.slice none 0 0]:=hc;exact⟨none,0,rfl,ZAM _,by unfold maxLen;omega,fun _=>rfl,fun h=>absurd rfl h⟩
 |.ref f t,.inr (some _),y,vs,h,hc=>by simp[lowD] at h
 |.int _,x,y,vs,h,hc|.byte,x,y,vs,h,hc|.bool,x,y,vs,h,hc|.str,x,y,vs,h,hc|.opq,x,y,vs,h,hc|.nat,x,y,vs,h,hc|.ptr _,x,y,vs,h,hc|.sl _,x,y,vs,h,hc|.arr _ _,x,y,vs,h,hc=>by
  obtain rfl:=ZAk h;exact hc
theorem h1Z{t:Ty}{vs us:List Value}{o:Nat}{u:Ty}{y:u.den}{K:t.den->Option β}{r:β}{w:World}{M:Nat->Prop}{ρ:Rho}(h:u=t)(hv:vs.length=t.cells)(hc:Cl w M ρ u y us)
 (hk:bq (Nat.beq o 0) (K (Ty.to h y)) none=some r):∃x',Cl w M ρ t x' (vs.take o++us++vs.drop (o+u.cells))/\o+u.cells<=t.cells/\K x'=some r:=by
 subst h;cases ho:Nat.beq o 0<;>rw[ho] at hk<;>simp only[bq_true,bq_false] at hk
 ·cases hk
 ·rw[acZ] at ho;subst ho;refine⟨y,?_,by omega,hk⟩;rw[List.take_zero,ZBA,ZA9 (by omega),ZA1];exact hc
theorem knZ{w:World}{M:Nat->Prop}{ρ:Rho}:{t:Ty}->{x:t.den}->{o:Nat}->{u:Ty}->{y:u.den}->{K:t.den->Option β}->{r:β}->{vs us:List Value}->upd t x o u y K=some r->Cl w M ρ t x vs->Cl w M ρ u y us->
 ∃x',Cl w M ρ t x' (vs.take o++us++vs.drop (o+u.cells))/\o+u.cells<=t.cells/\K x'=some r
 |.one t,x,o,u,y,K,r,vs,us,h,hc,hu=>by
  simp only[upd] at h;rcases aFZ h with⟨ht,h⟩|h
  ·exact h1Z ht hc.len hu h
  ·exact knZ (t:=t) h hc hu
 |.pair a b,x,o,u,y,K,r,vs,us,h,hc,hu=>by
  simp only[upd] at h;rcases aFZ h with⟨ht,h⟩|h
  ·exact h1Z ht hc.len hu h
  ·obtain⟨v1,v2,rfl,h1,h2⟩:=hc;have l1:=h1.len;have l2:=h2.len;have lu:=hu.len;cases ho:Nat.blt o a.cells<;>rw[ho] at h<;>simp only[bq_true,bq_false] at h
   ·have ho':a.cells<=o:=by
     rcases ZB2 o a.cells with h'|h'
     ·rw[show Nat.blt o a.cells=true from ZAi h'] at ho;cases ho
     ·exact h'
    obtain⟨z,q1,q2,q3⟩:=knZ h h2 hu;refine⟨(x.1,z),⟨v1,_,?_,h1,q1⟩,by simp only[Ty.cells];omega,q3⟩;rw[List.take_append,ZAu (by omega),List.drop_append,ZA9 (by omega),ZBA,l1];simp only[ZAr];congr 4;omega
   ·have ho':o<a.cells:=ZBC ho;obtain⟨z,q1,q2,q3⟩:=knZ h h1 hu;refine⟨(z,x.2),⟨_,v2,?_,q1,h2⟩,by simp only[Ty.cells];omega,q3⟩;rw[ZBG (by omega),ZBT (by omega)];simp only[ZAr]
 |.int _,x,o,u,y,K,r,vs,us,h,hc,hu|.byte,x,o,u,y,K,r,vs,us,h,hc,hu|.bool,x,o,u,y,K,r,vs,us,h,hc,hu|.str,x,o,u,y,K,r,vs,us,h,hc,hu|.opq,x,o,u,y,K,r,vs,us,h,hc,hu|.nat,x,o,u,y,K,r,vs,us,h,hc,hu|.ptr _,x,o,u,y,K,r,vs,us,h,hc,hu
 |.sl _,x,o,u,y,K,r,vs,us,h,hc,hu|.arr _ _,x,o,u,y,K,r,vs,us,h,hc,hu|.ref _ _,x,o,u,y,K,r,vs,us,h,hc,hu=>by
  simp only[upd] at h;rcases aFZ h with⟨ht,h⟩|h
  ·exact h1Z ht hc.len hu h
  ·cases h
end
end
end Go.Ab
namespace Go.Ab
section
variable {P : Program}
theorem bkZ{t n:Nat}(h:P.cellsOf t=n)(h0:n≠0):(P.info? t).map (·.size)=some n:=by
 unfold Program.cellsOf at h;cases hi:(P.info? t).map (·.size) with
 |none=>rw[hi] at h;simp at h;omega
 |some x=>rw[hi] at h;simp at h;rw[h]
theorem cmZ{t:TypeId}{u:Ty}(h:ty P t=some u):u.cells=P.cellsOf t/\0<u.cells/\(u.isAgg=true->isAggT P t=true)/\(u.isAgg=false->isScal P t=true):=by
 unfold ty at h;obtain⟨v,h1,h2⟩:=agZ.1 h;cases hb:(Nat.beq v.cells (P.cellsOf t)&& !Nat.beq v.cells 0&&bq v.isAgg (isAggT P t) (isScal P t))<;>rw[hb] at h2
 ·cases h2
 ·simp only[bq_true,ZAI] at h2;subst h2;simp only[ZAB,ZAc,acZ] at hb;obtain⟨⟨q1,q2⟩,q3⟩:=hb;refine⟨q1,?_,fun h=>by rw[h] at q3;exact q3,fun h=>by rw[h] at q3;exact q3⟩;rcases ZBj v.cells with h|h
  ·rw[h] at q2;simp at q2
  ·exact h
theorem edZ{t:TypeId}(h:isAggT P t=true):∃d,P.underlying t=some d/\d.isRow=true:=by
 unfold isAggT at h;split at h<;>first|(cases h;done)|exact⟨_,by assumption,rfl⟩
theorem g3Z{t:TypeId}(h:isScal P t=true):∃d,P.underlying t=some d/\d.isRow=false:=by
 unfold isScal at h;split at h<;>first|(cases h;done)|skip
 rename_i d h1 h2 h3;refine⟨d,h3,?_⟩;cases d<;>first|rfl|exact absurd rfl (h1 _)|exact absurd rfl (h2 _ _)
theorem icZ{t:TypeId}(w:World)(h:isScal P t=true):(isAgg t).run P w= .ok false w:=by
 obtain⟨d,hd,hr⟩:=g3Z h;unfold isAgg;rw[Sem.run_bind,run_underlying hd w];cases d<;>simp_all
theorem c1Z{w:World}{b o:Nat}{t:TypeId}{v:Value}(hs:isScal P t=true)(hc:w.cell? ⟨b,o,none⟩=some v):
 (Instr.loadAt t (.pointer (some ⟨b,o,none⟩))).run P w= .ok v w:=by
 simp[Instr.loadAt,Instr.sureAddr,loadVar,Sem.run_bind,icZ w hs,load,Sem.run,hc]
theorem bHZ{w:World}{b o n:Nat}{t:TypeId}(cs:List Value)(hs:isAggT P t=true)(hn:P.cellsOf t=n)(h0:n≠0)(hl:cs.length=n)
 (hc:w.rangeAt b o cs):(Instr.loadAt t (.pointer (some ⟨b,o,none⟩))).run P w= .ok (.agg cs.toArray) w:=by
 obtain⟨d,hd,hr⟩:=edZ hs;exact run_loadAt_mid w b o t cs d hc hd hr (by rw[hl];exact bkZ hn h0)
theorem deZ{w:World}{b o:Nat}{vs:List Value}(h:w.rangeAt b o vs)(k n:Nat):w.rangeAt b (o+k) ((vs.drop k).take n):=fun j v hj=>by
 have hjn:j<n:=by
  have:=(ZAC.1 hj).1;simp at this;omega
 rw[ZBN hjn,ZAw] at hj;rw[ZBq];exact h _ _ hj
theorem fYZ{w:World}{b o:Nat}{u v:List Value}(h1:w.rangeAt b o u)(h2:w.rangeAt b (o+u.length) v):w.rangeAt b o (u++v):=fun j x hj=>by
 by_cases h:j<u.length
 ·rw[ZAL h] at hj;exact h1 j x hj
 ·rw[ZAO (by omega)] at hj;have:=h2 _ _ hj;rwa [show o+u.length+(j-u.length)=o+j from by omega] at this
theorem RowAt.tail{w:World}{M:Nat->Prop}{ρ:Rho}{b off:Nat}{t:Ty}{x:t.den}{l:List t.den}(h:RowAt w M ρ b off t (x::l)):RowAt w M ρ b (off+t.cells) t l:=fun i e he=>by
 obtain⟨u,h1,h2⟩:=h (i+1) e (by simpa using he);refine⟨u,h1,?_⟩;rw[ZBY] at h2;rwa [show off+t.cells+i*t.cells=off+(i*t.cells+t.cells) from by omega]
theorem RowAt.cells{w:World}{M:Nat->Prop}{ρ:Rho}{t:Ty}:∀{l:List t.den} {b off:Nat},RowAt w M ρ b off t l->
 ∃css:List (List Value),css.length=l.length/\(∀(i:Nat) e u,l[i]? =some e->css[i]? =some u->Cl w M ρ t e u)/\w.rangeAt b off css.flatten
 |[],b,off,_=>⟨[],rfl,fun i e u h=>by simp at h,fun j v h=>by simp at h⟩
 |x::l,b,off,h=>by
  obtain⟨u,h1,h2⟩:=h 0 x rfl;obtain⟨css,q1,q2,q3⟩:=RowAt.cells h.tail;refine⟨u::css,by simp[q1],fun i e v p1 p2=> ?_,?_⟩
  ·match i with
   |0=>simp at p1 p2;subst p1;subst p2;exact h1
   |i+1=>exact q2 i e v (by simpa using p1) (by simpa using p2)
  ·rw[ZBM];exact fYZ (by simpa using h2) (by rw[h1.len];exact q3)
theorem RowAt.sub{w:World}{M:Nat->Prop}{ρ:Rho}{b off:Nat}{t:Ty}{l:List t.den}(h:RowAt w M ρ b off t l)(k n:Nat):RowAt w M ρ b (off+k*t.cells) t ((l.drop k).take n):=fun i e he=>by
 have hi:i<n:=by
  have:=(ZAC.1 he).1;simp at this;omega
 rw[ZBN hi,ZAw] at he;obtain⟨u,h1,h2⟩:=h _ _ he;refine⟨u,h1,?_⟩;rw[ZAo] at h2;rwa [ZBq]
section
variable {β : Type} {z : Z} {H : Hp}
theorem bjZ{w:World}{g o:Nat}{cs:Array Value}{e:TypeId}{fr:Nat×Nat}(h:w.heap[g]? =some (.cells cs e fr)):w.cell? ⟨g,o,none⟩=cs[o]? :=by
 unfold World.cell?;rw[h];rfl
theorem BRep.rowAt{g sz n:Nat}{e:TypeId}{t:Ty}{l:List t.den}(h:BRep z g sz n (.rows e t l)):RowAt z.w z.M z.ρ g 0 t l:=fun i x hx=>by
 obtain⟨cs,fr,a1,a2,a3,a4,a5,a6,a7⟩:=h;obtain⟨u,h1,h2⟩:=a7 i x hx;refine⟨u,h1,fun j v hj=> ?_⟩;rw[bjZ a1,ZAj];exact h2 j v hj
theorem pYZ{a a':AV}{v:Value}(hH:HRep z H)(h:view H a=some a')(ha:ARep z a v):ARep z a' v:=by
 unfold view at h;split at h
 ·simp at h;subst h;exact ha
 ·simp at h;subst h;exact ha
 ·simp at h;subst h;exact ha
 ·rename_i es id;split at h
  ·rename_i e t l hg;cases hb:Nat.beq es t.cells<;>rw[hb] at h
   ·cases h
   ·simp only[bq_true,ZAI] at h;subst h;rw[acZ] at hb;subst hb;cases ha with
    |slfV _ _ A hρ=>
     obtain⟨rfl,_⟩:=hH.virt hg hρ;refine .p _ _ _ (.mkSc ⟨A,0,rfl,ZAM _,by unfold maxLen;omega,fun _=>rfl,fun h=>absurd rfl h⟩ rfl)
    |slf _ _ g sz n c hρ hn hs hm=>
     obtain⟨h1,_,h3,h4⟩:=hH.real hg hρ;have hrow:=h4.rowAt;obtain⟨cs,fr,a1,a2,a3,a4,a5,a6,a7⟩:=h4;have a4':l.length=n:=a4;rw[<-a4'] at hn⊢;exact .p _ _ _ (.mkSc ⟨_,c,rfl,hn,hm,(fun h=>by cases h),fun _=>⟨g,0,rfl,h3 rfl,h1,hrow⟩⟩ rfl)
  ·cases h
 ·rename_i es id off n;split at h
  ·rename_i e t l hg;cases hb:(Nat.beq es t.cells&&Nat.ble (off+n) l.length)<;>rw[hb] at h
   ·cases h
   ·simp only[bq_true,ZAI] at h;subst h;simp only[ZAB,acZ,ZAm] at hb;obtain⟨rfl,hb⟩:=hb;have hlen:((l.drop off).take n).length=n:=by rw[ZAS,ZAv];omega
    have mk:∀A c,n<=c->c<=maxLen->(A=none->c=0)->(n≠0->∃b o,A=some ⟨b,o,none⟩/\¬z.M b/\b<z.w.heap.size/\RowAt z.w z.M z.ρ b o t ((l.drop off).take n))->
     ARep z (.p (.sl t) ((l.drop off).take n)) (.slice A n c):=fun A c q1 q2 q3 q4=>by
     have:VRep z.w z.M z.ρ (.sl t) ((l.drop off).take n) (.slice A ((l.drop off).take n).length c):=
      .mkSc ⟨A,c,rfl,by rw[hlen];exact q1,q2,q3,fun h0=>q4 (by rwa [hlen] at h0)⟩ rfl
     rw[hlen] at this;exact .p _ _ _ this
    cases ha with
    |slV _ _ _ A hρ=>exact mk A 0 (ZAM _) (by unfold maxLen;omega) (fun _=>rfl) (fun h=>absurd rfl h)
    |slE _ _ _ g sz m o hρ=>exact mk _ 0 (ZAM _) (by unfold maxLen;omega) (fun _=>rfl) (fun h=>absurd rfl h)
    |sl _ _ _ _ g sz m c hρ hn hs hm=>
     obtain⟨h1,_,h3,h4⟩:=hH.real hg hρ;refine mk _ c hn hm (fun h=>by cases h) fun _=>⟨g,off*t.cells,rfl,h3 rfl,h1,?_⟩;have:=h4.rowAt.sub off n;rwa [ZAj] at this
  ·cases h
 ·rename_i es id i j;split at h
  ·rename_i e t l hg;cases hb:Nat.beq es t.cells<;>rw[hb] at h
   ·cases h
   ·simp only[bq_true,ZAI] at h;subst h;rw[acZ] at hb;subst hb;cases ha with
    |own _ _ _ _ g sz n hρ=>
     obtain⟨h1,_,h3,h4⟩:=hH.real hg hρ;have:=ARep.pt (z:=z) t l i j g 0 (h3 rfl) h1 h4.rowAt;rwa [ZAj] at this
  ·cases h
 ·cases h
theorem jZZ{a a':AV}{H':Hp}{v:Value}(hH:HRep z H)(h:pure1 H a=some (a',H'))(ha:ARep z a v):
 ∃z',z'.w=z.w/\HRep z' H'/\Nx z z'/\z'.ρ=z.ρ/\ARep z' a' v:=by
 unfold pure1 at h;obtain⟨x,h1,h2⟩:=ZAH.1 h;simp only[ZAs] at h2;obtain⟨rfl,rfl⟩:=h2;obtain⟨z',q1,q2,q3,q4⟩:=mUZ a hH;exact⟨z',q1,q2,q3,q4,pYZ q2 h1 (ha.kp (q3.kp hH.sub))⟩
theorem gPZ:∀{l l':List AV} {z:Z} {H H':Hp} {vs:List Value},HRep z H->pureL H l=some (l',H')->AReps z l vs->
 ∃z',z'.w=z.w/\HRep z' H'/\Nx z z'/\z'.ρ=z.ρ/\AReps z' l' vs
 |[],l',z,H,H',vs,hH,h,hr=>by
  simp[pureL] at h;obtain⟨rfl,rfl⟩:=h;exact⟨z,rfl,hH,Nx.refl z,rfl,hr⟩
 |a::l,l',z,H,H',vs,hH,h,hr=>by
  simp only[pureL] at h;obtain⟨⟨x,H1⟩,h1,h2⟩:=agZ.1 h;obtain⟨⟨y,H2⟩,h3,h4⟩:=ZAH.1 h2;simp only[ZAs] at h4;obtain⟨rfl,rfl⟩:=h4
  match vs,hr with
  |[],hr=>have:=hr.1;simp at this
  |v::vs,hr=>
   obtain⟨z1,q1,q2,q3,q4,q5⟩:=jZZ hH h1 hr.head;obtain⟨z2,p1,p2,p3,p4,p5⟩:=gPZ q2 h3 (hr.tail.kp (q3.kp hH.sub));exact⟨z2,p1.trans q1,p2,q3.trans p3,p4.trans q4,.cons (q5.kp (p3.kp q2.sub)) p5⟩
theorem byZ{a a':AV}{H':Hp}{v:Value}(hH:HRep z H)(h:pureA H a=some (a',H'))(ha:ARep z a v):
 ∃z',z'.w=z.w/\HRep z' H'/\Nx z z'/\z'.ρ=z.ρ/\ARep z' a' v:=by
 unfold pureA at h;split at h
 ·rename_i l;obtain⟨⟨l',H1⟩,h1,h2⟩:=ZAH.1 h;simp only[ZAs] at h2;obtain⟨rfl,rfl⟩:=h2;cases ha with|agg _ cs hs h3 h4=>
  obtain⟨z',q1,q2,q3,q4,q5⟩:=gPZ (vs:=cs.toList) hH h1 ⟨by simp[hs],fun i a v p1 p2=>h4 i a v p1 (by simpa using p2)⟩;refine⟨z',q1,q2,q3,q4,.agg _ _ ?_ h3 fun i x v p1 p2=>q5.2 i x v p1 (by simpa using p2)⟩;have:=q5.1;simpa using this.symm
 ·exact jZZ hH h ha
theorem olZ{u:Ty}{t:TypeId}{x:u.den}{j:Nat}{K:AV->Option β}{r:β}{b o:Nat}{us:List Value}(h:rdRow P u t x j K=some r)(hc:Cl z.w z.M z.ρ u x us)(ho:z.w.rangeAt b o us):
 ∃a v,(Instr.loadAt t (.pointer (some ⟨b,o+j,none⟩))).run P z.w= .ok v z.w/\ARep z a v/\K a=some r:=by
 unfold rdRow at h;obtain⟨want,h1,h2⟩:=agZ.1 h;obtain⟨t1,t2,t3,t4⟩:=cmZ h1;cases hnr:u.noRef<;>rw[hnr] at h2<;>simp only[bq_true,bq_false] at h2
 ·obtain⟨t',y,q0,q1,q2,q3⟩:=eJZ h2 hc;have e1:t'.cells=want.cells:=by rw[<-q0,azZ]
  have e2:t'.isAgg=want.isAgg:=by rw[<-q0,fwZ]
  have hr:=deZ ho j t'.cells;have hl:=q1.len;cases hagg:t'.isAgg
  ·have hcells:t'.cells=1:=by cases t'<;>first|rfl|(simp[Ty.isAgg] at hagg;done)
   match hvs:(us.drop j).take t'.cells,hl with
   |[],hl=>rw[hcells] at hl;simp at hl
   |_::_::_,hl=>rw[hcells] at hl;simp at hl
   |[v],_=>
    rw[hvs] at hr q1;refine⟨_,v,c1Z (t4 (by rw[<-e2];exact hagg)) (by have:=hr 0 v rfl;simpa using this),b8Z (.mkSc q1 hagg),q3⟩
  ·refine⟨_,_,bHZ _ (t3 (by rw[<-e2];exact hagg)) (by rw[e1];exact t1.symm) (by omega) hl hr,b8Z ⟨_,q1,by rw[hagg];rfl⟩,q3⟩
 obtain⟨y,q1,q2,q3⟩:=i4Z h2 hc;have hr:=deZ ho j want.cells;have hl:=q1.len;cases hagg:want.isAgg
 ·have hcells:want.cells=1:=by cases want<;>first|rfl|(simp[Ty.isAgg] at hagg;done)
  match hvs:(us.drop j).take want.cells,hl with
  |[],hl=>rw[hcells] at hl;simp at hl
  |_::_::_,hl=>rw[hcells] at hl;simp at hl
  |[v],_=>
   rw[hvs] at hr q1;refine⟨_,v,c1Z (t4 hagg) (by have:=hr 0 v rfl;simpa using this),b8Z (.mkSc q1 hagg),q3⟩
 ·refine⟨_,_,bHZ _ (t3 hagg) t1.symm (by omega) hl hr,b8Z ⟨_,q1,by rw[hagg];rfl⟩,q3⟩
theorem eQZ{t:TypeId}{u:Ty}{l:List u.den}{i j:Nat}{K:AV->Option β}{r:β}{b off:Nat}(h:rdRows P t u l i j K=some r)(hr:RowAt z.w z.M z.ρ b off u l):
 ∃a v,(Instr.loadAt t (.pointer (some ⟨b,off+i*u.cells+j,none⟩))).run P z.w= .ok v z.w/\ARep z a v/\K a=some r:=by
 have key:(l[i]?.bind fun x=>rdRow P u t x j K)=some r->∃a v,(Instr.loadAt t (.pointer (some ⟨b,off+i*u.cells+j,none⟩))).run P z.w= .ok v z.w/\ARep z a v/\K a=some r:=by
  intro h;obtain⟨x,h1,h2⟩:=ZAF.1 h;obtain⟨us,h3,h4⟩:=hr i x h1;exact olZ h2 h3 h4
 unfold rdRows at h;split at h
 ·rename_i n u' hty;obtain⟨t1,t2,t3,t4⟩:=cmZ hty;cases hb:(decide (u'=u)&&Nat.beq i 0&&Nat.beq j 0)<;>rw[hb] at h
  ·exact key h
  ·simp only[bq_true] at h;obtain⟨h1,h2⟩:=aeZ.1 h;simp only[ZAB,ZAd,acZ] at hb h1;obtain⟨⟨rfl,rfl⟩,rfl⟩:=hb;obtain⟨css,q1,q2,q3⟩:=hr.cells;have hl:css.flatten.length=n*u'.cells:=by
    rw[aMZ (n:=u'.cells),q1,h1];intro w hw;obtain⟨k,hk⟩:=ZAe hw;obtain⟨e,he⟩:=aJZ (l:=l) q1 hk;exact(q2 k e w he hk).len
   refine⟨.p (.arr n u') l,.agg css.flatten.toArray,?_,.p _ _ _ ⟨css.flatten,⟨h1,css,by rw[q1,h1],rfl,q2⟩,rfl⟩,h2⟩;have:=bHZ (P:=P) (w:=z.w) (b:=b) (o:=off) css.flatten (t3 rfl) t1.symm (by omega) hl q3;simpa using this
 ·exact key h
theorem nsZ{t:TypeId}{c:List AV}{j:Nat}{K:AV->Option β}{r:β}{g:Nat}{vs:List Value}(h:rdVars P t c j K=some r)(hc:AReps z c vs)(h1:∀v∈vs,v.oneCell'=true)
 (ho:z.w.rangeAt g 0 vs):∃a v,(Instr.loadAt t (.pointer (some ⟨g,j,none⟩))).run P z.w= .ok v z.w/\ARep z a v/\K a=some r:=by
 unfold rdVars at h;cases ha:isAggT P t<;>rw[ha] at h<;>simp only[bq_true,bq_false] at h
 ·cases hs:isScal P t<;>rw[hs] at h<;>simp only[bq_true,bq_false] at h
  ·cases h
  ·obtain⟨x,h2,h3⟩:=agZ.1 h;obtain⟨v,h4,h5⟩:=hc.get h2;exact⟨x,v,c1Z hs (by have:=ho j v h4;simpa using this),h5,h3⟩
 ·obtain⟨h2,h3⟩:=aeZ.1 h;simp only[ZAB,ZAc,ZAm] at h2;obtain⟨h2,h4⟩:=h2;have h0:P.cellsOf t≠0:=fun h0=>by rw[h0] at h4;simp at h4
  have hl:=hc.1;have hlen:((vs.drop j).take (P.cellsOf t)).length=P.cellsOf t:=by rw[ZAS,ZAv];omega
  refine⟨_,_,bHZ _ ha rfl h0 hlen (by have:=deZ ho j (P.cellsOf t);simpa using this),.agg _ _ ?_ (fun v hv=> ?_) (fun i x v p1 p2=> ?_),h3⟩
  ·have:=((hc.drop j).take (P.cellsOf t)).1;simpa using this.symm
  ·exact h1 v (List.mem_of_mem_drop (ZCA (by simpa using hv)))
  ·exact((hc.drop j).take (P.cellsOf t)).2 i x v p1 (by simpa using p2)
theorem BRep.vars_at{g sz n:Nat}{c:List AV}(h:BRep z g sz n (.vars c)):∃vs:List Value,AReps z c vs/\(∀v∈vs,v.oneCell'=true)/\z.w.rangeAt g 0 vs:=by
 obtain⟨cs,e,fr,a1,a2,a3,⟨a4,_⟩,a5,a6⟩:=h;refine⟨cs.toList,⟨by simp;omega,fun i a v p1 p2=>a5 i a v p1 (by simpa using p2)⟩,fun v hv=>a6 v (by simpa using hv),fun j v hj=> ?_⟩;rw[bjZ a1,ZAj];simpa using hj
theorem hSZ{t:TypeId}{a:AV}{K:AV->Option β}{r:β}{pv:Value}(h:evLoad P t a H K=some r)(hH:HRep z H)(ha:ARep z a pv):
 ∃x v,(Instr.loadAt t pv).run P z.w= .ok v z.w/\ARep z x v/\K x=some r:=by
 unfold evLoad at h;split at h
 ·rename_i es id i j;split at h
  ·rename_i c hg;cases ha with
   |own _ _ _ _ g sz n hρ=>
    obtain⟨vs,q1,q2,q3⟩:=(hH.real hg hρ).2.2.2.vars_at;exact nsZ h q1 q2 q3
  ·rename_i e u l hg;cases hi:Nat.beq es u.cells<;>rw[hi] at h<;>simp only[bq_true,bq_false] at h
   ·cases h
   ·rw[acZ] at hi;subst hi;cases ha with
    |own _ _ _ _ g sz n hρ=>
     have:=eQZ h (hH.real hg hρ).2.2.2.rowAt;simpa using this
  ·cases h
 ·rename_i u l i j;cases ha with|pt _ _ _ _ b off hM hlt hr=>exact eQZ h hr
 ·rename_i f es k i j;split at h
  ·rename_i fz e s ms hg;obtain⟨m,h1,h2⟩:=ZAF.1 h;obtain⟨h3,h4⟩:=aeZ.1 h2;simp only[ZAB,ZBW,acZ] at h3;obtain⟨h3,rfl⟩:=h3;cases ha with
   |rp _ _ _ _ _ g sz n hρ=>
    have:=eQZ h4 (hH.realX (fgZ hg h1 (by omega)) hρ).2.2.2.rowAt;simpa using this
  ·cases h
 ·cases h
def setArr:Array Value->Nat->List Value->Array Value
 |c,_,[]=>c
 |c,o,v::r=>setArr (c.setIfInBounds o v) (o+1) r
theorem akZ(vs:List Value):∀(c:Array Value) (o:Nat),(setArr c o vs).size=c.size:=by
 induction vs with
 |nil=>intro c o;rfl
 |cons v vs ih=>intro c o;simp[setArr,ih]
theorem auZ(vs:List Value):∀(c:Array Value) (o k:Nat),o+vs.length<=c.size->(setArr c o vs)[k]? =if o<=k/\k<o+vs.length then vs[k-o]? else c[k]? :=by
 induction vs with
 |nil=>intro c o k _;simp only[setArr,List.length_nil];rw[ZAQ (by omega)]
 |cons v vs ih=>
  intro c o k hk;simp only[ZBm] at hk⊢;rw[setArr,ih _ _ _ (by simp;omega)];by_cases h1:o+1<=k/\k<o+1+vs.length
  ·rw[ZAT h1,ZAT (by omega),show k-o=(k-(o+1))+1 from by omega,ZB0]
  ·rw[ZAQ h1];by_cases h2:k=o
   ·subst h2;rw[ZAT (by omega)];simp[show k<c.size from by omega]
   ·rw[ZAQ (by omega),Array.getElem?_setIfInBounds_ne (by omega)]
theorem eSZ(w:World)(g o:Nat)(v:Value)(cs:Array Value)(e:TypeId)(fr:Nat×Nat)(h:w.heap[g]? =some (.cells cs e fr)):(w.setCell ⟨g,o,none⟩ v).heap[g]? =some (.cells (cs.setIfInBounds o v) e fr):=by
 unfold World.setCell;simp[ZBv,h]
theorem amZ(vs:List Value):∀(w:World) (g o:Nat) (cs:Array Value) (e:TypeId) (fr:Nat×Nat),w.heap[g]? =some (.cells cs e fr)->(w.setCells g o vs).heap[g]? =some (.cells (setArr cs o vs) e fr):=by
 induction vs with
 |nil=>intro w g o cs e fr h;exact h
 |cons v vs ih=>intro w g o cs e fr h;exact ih _ _ _ _ _ _ (eSZ w g o v cs e fr h)
theorem alZ(vs:List Value):∀(w:World) (g o b:Nat),b≠g->(w.setCells g o vs).heap[b]? =w.heap[b]? :=by
 induction vs with
 |nil=>intro w g o b _;rfl
 |cons v vs ih=>intro w g o b h;exact(ih _ g (o+1) b h).trans (RowKit.Below.heap_setCell w ⟨g,o,none⟩ v b h)
theorem arZ(vs:List Value):∀(w:World) (g o:Nat),(w.setCells g o vs).heap.size=w.heap.size/\(w.setCells g o vs).os=w.os/\((w.setCells g o vs).tape=w.tape/\w.drawn<=(w.setCells g o vs).drawn)/\(w.setCells g o vs).output=w.output:=by
 induction vs with
 |nil=>intro w g o;exact⟨rfl,rfl,⟨rfl,ZAM _⟩,rfl⟩
 |cons v vs ih=>
  intro w g o;obtain⟨h1,h2,h3,h4⟩:=ih (w.setCell ⟨g,o,none⟩ v) g (o+1);exact⟨h1.trans (by simp[World.setCell]),h2,h3,h4⟩
theorem crZ{α:Type}(vs:List α):∀(c:List α) (j:Nat),(setFrom c j vs).length=c.length:=by
 induction vs with
 |nil=>intro c j;rfl
 |cons v vs ih=>intro c j;simp[setFrom,ih]
theorem cvZ{α:Type}(vs:List α):∀(c:List α) (j k:Nat),j+vs.length<=c.length->(setFrom c j vs)[k]? =if j<=k/\k<j+vs.length then vs[k-j]? else c[k]? :=by
 induction vs with
 |nil=>intro c j k _;simp only[setFrom,List.length_nil];rw[ZAQ (by omega)]
 |cons v vs ih=>
  intro c j k hk;simp only[ZBm] at hk⊢;rw[setFrom,ih _ _ _ (by simp;omega)];by_cases h1:j+1<=k/\k<j+1+vs.length
  ·rw[ZAT h1,ZAT (by omega),show k-j=(k-(j+1))+1 from by omega,ZB0]
  ·rw[ZAQ h1];by_cases h2:k=j
   ·subst h2;rw[ZAT (by omega),ZAU (by omega)];simp
   ·rw[ZAQ (by omega),ZAg (by omega)]
theorem dQZ{w:World}{g o:Nat}{t:TypeId}{v:Value}{n:Nat}(ht:w.there g o v.cells.size)(hn:P.cellsOf t=n)(h0:n≠0)(hs:v.cells.size=n)(h1:∀u∈v.cells,u.oneCell'=true):
 (Instr.storeAt t (.pointer (some ⟨g,o,none⟩)) v).run P w= .ok () (w.setCells g o v.cells.toList):=by
 have hi:=bkZ hn h0;have:=run_storeCells_cells (P:=P) g o v.cells.toList 0 w (fun j hj=>by simpa using(ht j (by simpa using hj)).1) (fun j hj=>by simpa using(ht j (by simpa using hj)).2)
  (fun u hu=>h1 u (by simpa using hu))
 cases hq:P.info? t with
 |none=>simp[hq] at hi
 |some i=>
  have hs':v.cells.size=i.size:=by simp[hq] at hi;omega
  simp only[ZB3] at this;simp[Instr.storeAt,Instr.sureAddr,storeVar,Sem.run_bind,sizeOf,typeInfo,hq,hs',this]
theorem csZ{w:World}{g o n:Nat}{cs:Array Value}{e:TypeId}{fr:Nat×Nat}(h:w.heap[g]? =some (.cells cs e fr))(hf:okF cs fr)(hn:o+n<=cs.size):w.there g o n:=fun j hj=>by
 constructor
 ·rw[bjZ h];simp[show o+j<cs.size from by omega]
 ·unfold World.frozen?;rw[h];simp only[ZBw,ZA6];rcases hf with hf|hf
  ·omega
  ·omega
theorem kBZ{i j n es:Nat}(hi:i<n)(hj:j<es):i*es+j<n*es:=by
 have:(i+1)*es<=n*es:=ZAf _ hi;rw[ZBY] at this;omega
def Ok(P:Program)(s:Sem Value)(z:Z)(K:AV->Hp->Option β)(r:β):Prop:=
 ∃x v H' z',s.run P z.w= .ok v z'.w/\HRep z' H'/\ARep z' x v/\Nx z z'/\K x H'=some r
def OkP(P:Program)(s:Sem Value)(z:Z)(K:AV->Option β)(r:β):Prop:=
 ∃x v,s.run P z.w= .ok v z.w/\ARep z x v/\K x=some r
theorem nIZ{id g sz n o:Nat}{t:TypeId}{v:Value}{b0 b:Blk}{cs:Array Value}{e:TypeId}{fr:Nat×Nat}{H':Hp}(hH:HRep z H)(hg:hgetX H id=some ⟨false,b0⟩)(hρ:z.ρ id= .real g sz n)
 (hcs:z.w.heap[g]? =some (.cells cs e fr))(hf:okF cs fr)(hc0:P.cellsOf t≠0)(hsz:v.cells.size=P.cellsOf t)(hfit:o+v.cells.size<=cs.size)(h1:∀u∈v.cells,u.oneCell'=true)
 (hb:∀z',Kp z z'->z'.w.heap[g]? =some (.cells (setArr cs o v.cells.toList) e fr)->BRep z' g sz n b)(hu:Upd H id b H')(hro:¬Ro id):
 ∃z',(Instr.storeAt t (.pointer (some ⟨g,o,none⟩)) v).run P z.w= .ok () z'.w/\HRep z' H'/\Nx z z'/\z'.ρ=z.ρ:=by
 obtain⟨q1,q2,q3,q4⟩:=arZ v.cells.toList z.w g o;obtain⟨p1,p2⟩:=hH.writeX (w':=z.w.setCells g o v.cells.toList) (b:=b) hg hρ q2 q3 q4 q1 (fun b hb=>alZ _ _ _ _ _ hb) (fun k=>hb _ k (amZ _ _ _ _ _ _ _ hcs)) hu hro;exact⟨_,dQZ (csZ hcs hf hfit) rfl hc0 hsz h1,p1,p2,rfl⟩
theorem kyZ{id g sz n o:Nat}{t:TypeId}{v:Value}{b0 b:Blk}{cs:Array Value}{e:TypeId}{fr:Nat×Nat}(hH:HRep z H)(hg:hget H id=some ⟨false,b0⟩)(hρ:z.ρ id= .real g sz n)
 (hcs:z.w.heap[g]? =some (.cells cs e fr))(hf:okF cs fr)(hc0:P.cellsOf t≠0)(hsz:v.cells.size=P.cellsOf t)(hfit:o+v.cells.size<=cs.size)(h1:∀u∈v.cells,u.oneCell'=true)
 (hb:∀z',Kp z z'->z'.w.heap[g]? =some (.cells (setArr cs o v.cells.toList) e fr)->BRep z' g sz n b):
 ∃z',(Instr.storeAt t (.pointer (some ⟨g,o,none⟩)) v).run P z.w= .ok () z'.w/\HRep z' (hset H id (some ⟨false,b⟩))/\Nx z z':=by
 obtain⟨q1,q2,q3,q4⟩:=arZ v.cells.toList z.w g o;obtain⟨p1,p2⟩:=hH.write (w':=z.w.setCells g o v.cells.toList) (b:=b) hg hρ q2 q3 q4 q1 (fun b hb=>alZ _ _ _ _ _ hb) (fun k=>hb _ k (amZ _ _ _ _ _ _ _ hcs));exact⟨_,dQZ (csZ hcs hf hfit) rfl hc0 hsz h1,p1,p2⟩
theorem pLZ{cs cs':Array Value}{fr:Nat×Nat}(h:okF cs fr)(hs:cs'.size=cs.size):okF cs' fr:=by unfold okF at*;rw[hs];exact h
theorem VRep.cells{w:World}{M:Nat->Prop}{ρ:Rho}{t:Ty}{x:t.den}{v:Value}(h:VRep w M ρ t x v):Cl w M ρ t x v.cells.toList/\∀u∈v.cells,u.oneCell'=true:=
 ⟨h.cells',fun u hu=>h.cells'.one u (by simpa using hu)⟩
theorem f3Z{id g sz n i j:Nat}{t:TypeId}{e:TypeId}{u:Ty}{l:List u.den}{x x':u.den}{v:Value}{b0:Blk}{us:List Value}{H':Hp}{cs:Array Value}{fr:Nat×Nat}
 (hH:HRep z H)(hg:hgetX H id=some ⟨false,b0⟩)(hρ:z.ρ id= .real g sz n)(a1:z.w.heap[g]? =some (.cells cs e fr))(a2:okR u cs fr)(a3:cs.size=sz)(a4:l.length=n)(a5:l.length*u.cells<=sz)(a6:0<u.cells)
 (a7:∀(i:Nat) x,l[i]? =some x->∃us,Cl z.w z.M z.ρ u x us/\∀(j:Nat) v,us[j]? =some v->cs[i*u.cells+j]? =some v)(hsz:v.cells.size=P.cellsOf t)(hc0:P.cellsOf t≠0)(hx:l[i]? =some x)(c4:∀u∈v.cells,u.oneCell'=true)
 (c1:Cl z.w z.M z.ρ u x us)(c2:∀(j:Nat) v,us[j]? =some v->cs[i*u.cells+j]? =some v)(q1:Cl z.w z.M z.ρ u x' (us.take j++v.cells.toList++us.drop (j+v.cells.size)))(q2:j+v.cells.size<=u.cells)(hu:Upd H id (.rows e u (l.set i x')) H')(hro:¬Ro id):
 ∃z',(Instr.storeAt t (.pointer (some ⟨g,i*u.cells+j,none⟩)) v).run P z.w= .ok () z'.w/\HRep z' H'/\Nx z z'/\z'.ρ=z.ρ:=by
 have hi:i<l.length:=(ZAC.1 hx).1;have hup:(i+1)*u.cells<=l.length*u.cells:=ZAf _ hi;rw[ZBY] at hup;have hul:=c1.len;refine nIZ (P:=P) (t:=t) (o:=i*u.cells+j) (v:=v) (b:=.rows e u (l.set i x')) hH hg hρ a1 a2.f hc0 hsz (by omega) c4 (fun z' k hw=>by
  refine⟨_,fr,hw,djZ a2 (akZ _ _ _),by rw[akZ];exact a3,by rw[ZA2];exact a4,by rw[ZA2];exact a5,a6,fun i' y' hi'=> ?_⟩;by_cases hii:i=i'
  ·subst hii;rw[ZAU hi] at hi';obtain rfl:x'=y':=ZAk hi';refine⟨_,q1.kp k,fun m w hm=> ?_⟩;rw[auZ _ _ _ _ (by simp;omega)];have hlen:(us.take j++v.cells.toList++us.drop (j+v.cells.size)).length=u.cells:=by
    simp[ZAS,ZAv];omega
   have hmlt:m<u.cells:=by
    have:=(ZAC.1 hm).1;omega
   simp only[ZA3];by_cases h1:j<=m/\m<j+v.cells.size
   ·rw[ZAT (by omega),show i*u.cells+m-(i*u.cells+j)=m-j from by omega];rw[ZAr,ZAO (by simp;omega),ZAL (by simp;omega)] at hm;rw[<-hm];congr 1;simp;omega
   ·rw[ZAQ (by omega)];by_cases h2:m<j
    ·rw[ZAr,ZAL (by simp;omega),ZBN h2] at hm;exact c2 m w hm
    ·rw[ZAO (by simp;omega),ZAw] at hm;refine c2 m w ?_;rw[<-hm];congr 1;simp;omega
  ·rw[ZAg hii] at hi';obtain⟨us',d1,d2⟩:=a7 i' y' hi';refine⟨us',d1.kp k,fun m w hm=> ?_⟩;have hmlt:m<u.cells:=by
    have:=(ZAC.1 hm).1;rw[d1.len] at this;exact this
   rw[auZ _ _ _ _ (by simp;omega),ZAQ,d2 m w hm];simp only[ZA3];rcases ZB2 i i' with hlt|hge
   ·have:(i+1)*u.cells<=i'*u.cells:=ZAf _ hlt;rw[ZBY] at this;omega
   ·have:(i'+1)*u.cells<=i*u.cells:=ZAf _ (by omega);rw[ZBY] at this;omega) hu hro
theorem fGZ{id g sz n i j:Nat}{t:TypeId}{e:TypeId}{u want:Ty}{l:List u.den}{x:u.den}{y:want.den}{v:Value}{b0:Blk}{K:AV->Hp->Option β}{r:β}{mk:List u.den->Hp}
 (hH:HRep z H)(hg:hgetX H id=some ⟨false,b0⟩)(hρ:z.ρ id= .real g sz n)(hb:BRep z g sz n (.rows e u l))(hty:ty P t=some want)(hx:l[i]? =some x)(hy:VRep z.w z.M z.ρ want y v)
 (h:upd u x j want y (fun x'=>K .junk (mk (l.set i x')))=some r)(hu:∀l',Upd H id (.rows e u l') (mk l'))(hro:¬Ro id):
 ∃H' z',(Instr.storeAt t (.pointer (some ⟨g,i*u.cells+j,none⟩)) v).run P z.w= .ok () z'.w/\HRep z' H'/\Nx z z'/\K .junk H'=some r:=by
 obtain⟨t1,t2,t3,t4⟩:=cmZ hty;obtain⟨c3,c4⟩:=hy.cells;have hvl:=c3.len;have hvs:v.cells.size=want.cells:=by simpa using hvl
 obtain⟨cs,fr,a1,a2,a3,a4,a5,a6,a7⟩:=hb;obtain⟨us,c1,c2⟩:=a7 i x hx;obtain⟨x',q1,q2,q3⟩:=knZ h c1 c3;obtain⟨z',s1,s2,s3,_⟩:=f3Z (P:=P) (t:=t) (j:=j) (v:=v) (x':=x') hH hg hρ a1 a2 a3 a4 a5 a6 a7 (by omega) (by omega) hx c4 c1 c2 (by rw[hvs];exact q1) (by omega) (hu _) hro;exact⟨_,z',s1,s2,s3,q3⟩
theorem idZ{id g sz n i j:Nat}{t:TypeId}{e:TypeId}{u want:Ty}{l:List u.den}{x:u.den}{a:AV}{v:Value}{b0:Blk}{K:AV->Hp->Option β}{r:β}{mk:List u.den->Hp}
 (hH:HRep z H)(hg:hgetX H id=some ⟨false,b0⟩)(hρ:z.ρ id= .real g sz n)(hb:BRep z g sz n (.rows e u l))(hty:ty P t=some want)(hx:l[i]? =some x)(ha:ARep z a v)
 (h:updR u x j want a (fun x'=>K .junk (mk (l.set i x')))=some r)(hu:∀l',Upd H id (.rows e u l') (mk l'))(hro:¬Ro id):
 ∃H' z',(Instr.storeAt t (.pointer (some ⟨g,i*u.cells+j,none⟩)) v).run P z.w= .ok () z'.w/\HRep z' H'/\Nx z z'/\K .junk H'=some r:=by
 obtain⟨t1,t2,t3,t4⟩:=cmZ hty;obtain⟨cs,fr,a1,a2,a3,a4,a5,a6,a7⟩:=hb;obtain⟨us,c1,c2⟩:=a7 i x hx;obtain⟨x',q1,q2,q3,c4,q4⟩:=gNZ h c1 ha;obtain⟨z',s1,s2,s3,_⟩:=f3Z (P:=P) (t:=t) (j:=j) (v:=v) (x':=x') hH hg hρ a1 a2 a3 a4 a5 a6 a7 (by omega) (by omega) hx c4 c1 c2 (by rw[q3];exact q1) (by omega) (hu _) hro;exact⟨_,z',s1,s2,s3,q4⟩
theorem HRep.newM{f:Nat}{e:TypeId}{s:Ty}{ms:List (Nat×List s.den)}{l:List s.den}{r:RB}(hH:HRep z H)(hg:hget H (famId f)=some ⟨false,.fam e s ms⟩)
 (hr:(r= .virt/\l=[])\/∃g sz n,r= .real g sz n/\g<z.w.heap.size/\z.C g/\BRep z g sz n (.rows e s l)/\∀i ee sz' n',hgetX H i=some ee->ee.fz=false->z.ρ i= .real g sz' n'->Ro i/\f%16=15):
 ∃z',z'.w=z.w/\HRep z' (hset H (famId f) (some ⟨false,.fam e s (ms++[(1,l)])⟩))/\Nx z z'/\z'.ρ (enc f ms.length)=r:=by
 have hfo:=hH.fam _ _ hg;have hkey:=ahZ hg;have hno:z.ρ (enc f ms.length)= .no:=by
  refine(hH.fresh _ ?_).resolve_right (hH.dyn _ (bvZ _ _) (by rw[cVZ];exact hkey));rw[awZ (bvZ _ _),cVZ,l4Z,hg];simp[Ent.has]
 let z':Z:={z with ρ:=fun i=>if i=enc f ms.length then r else z.ρ i}
 have e1:∀i,i≠enc f ms.length->z'.ρ i=z.ρ i:=fun i hi=>ZAQ hi;have e2:z'.ρ (enc f ms.length)=r:=ZAT rfl;have hn:Nx z z':=⟨rfl,⟨rfl,ZAM _⟩,rfl,ZAM _,fun _ _ _=>rfl,fun _ h=>.inl h,fun _ h=>.inl h,fun _ _ h _=>h,fun i hi=>e1 i (by rintro rfl;exact hi hno),rfl⟩;have hkp:=hn.kp hH.sub;have hX:∀i,hgetX (hset H (famId f) (some ⟨false,.fam e s (ms++[(1,l)])⟩)) i=if i=enc f ms.length then some ⟨false,.rows e s l⟩ else hgetX H i:=fun i=>by
  by_cases hi:∃k',i=enc f k'
  ·obtain⟨k',rfl⟩:=hi;rw[(bpZ H f _ 0).1 k'];by_cases hk:k'=ms.length
   ·subst hk;rw[ZAT rfl];simp[pick]
    rfl
   ·rw[ZAQ fun h=>hk (hyZ h).2,cdZ,hg];simp only[ZAA,pick];rcases ZB2 k' ms.length with hlt|hge
    ·rw[ZAL hlt]
    ·rw[ZAO hge,ZAt (by simp;omega),ZAt hge]
  ·rw[(bpZ H f _ i).2 fun k' h=>hi ⟨k',h⟩,ZAQ fun h=>hi ⟨_,h⟩]
 refine⟨z',rfl,⟨fun i ee hi=> ?_,fun i i' ee ee' a sa na a' sa' na' hii h1 h2 m1 m2 h3 h4=> ?_,fun i hi=> ?_,hH.sub,fun i x h=> ?_,fun i h=> ?_,fun i hd h=> ?_,fun i h1 h2=> ?_⟩,hn,e2⟩
 ·rw[hX] at hi;by_cases h:i=enc f ms.length
  ·subst h;rw[ZAT rfl] at hi;injection hi with hi;subst hi;unfold ERep;rw[e2];have hc:0<s.cells:=hfo.2.2.2.1;rcases hr with⟨rfl,rfl⟩|⟨g,sz,n,rfl,q1,q2,q3,_⟩
   ·exact⟨rfl,hc⟩
   ·exact⟨q1,fun _=>q2,(fun h=>by cases h),q3.kp hkp rfl⟩
  ·rw[ZAQ h] at hi;exact(hH.ent _ _ hi).kp hkp fun a sa na ha=>⟨rfl,fun h=>h⟩
 ·rw[hX] at h1 h2;have key:∀j jj a sa na a' sa' na',hgetX H jj=some a->a.fz=false->z.ρ jj= .real a' sa' na'->z'.ρ (enc f ms.length)= .real j sa na->¬(Ro jj/\Ro (enc f ms.length))->j≠a':=by
   rintro j jj a sa na a' sa' na' p1 p2 p3 p4 p5 rfl;rw[e2] at p4;rcases hr with⟨rfl,_⟩|⟨g,sz,n,rfl,_,_,_,q⟩
   ·cases p4
   ·injection p4 with p4;subst p4;exact p5 ((q jj a _ _ p1 p2 p3).imp id mxZ.2)
  by_cases hi:i=enc f ms.length
  ·have hi':i'≠enc f ms.length:=fun h=>hii (hi.trans h.symm);rw[ZAQ hi'] at h2;rw[e1 _ hi'] at h4;rw[hi] at h3;exact fun p5=>key _ _ _ _ _ _ _ _ h2 m2 h4 h3 fun h=>p5 (by rw[hi];exact h.symm)
  ·rw[ZAQ hi] at h1;rw[e1 _ hi] at h3;by_cases hi':i'=enc f ms.length
   ·rw[hi'] at h4;exact fun p5=>(key _ _ _ _ _ _ _ _ h1 m1 h3 h4 fun h=>p5 (by rw[hi'];exact h)).symm
   ·rw[ZAQ hi'] at h2;rw[e1 _ hi'] at h4;exact hH.inj i i' _ _ _ _ _ _ _ _ hii h1 h2 m1 m2 h3 h4
 ·by_cases hi':∃k',i=enc f k'
  ·obtain⟨k',rfl⟩:=hi';rw[(b5Z H f _ 0).1 k'] at hi;simp[Ent.has] at hi;rw[e1 _ fun h=>by have:=(hyZ h).2;omega];refine hH.fresh _ ?_;rw[awZ (bvZ f k'),cVZ,l4Z,hg];simp[Ent.has];omega
  ·rw[(b5Z H f _ i).2 fun k' h=>hi' ⟨k',h⟩] at hi;rw[e1 _ fun h=>hi' ⟨_,h⟩];exact hH.fresh i hi
 ·rw[aoZ] at h;by_cases hi:i=famId f
  ·rw[ZAT hi] at h;injection h with h;subst h;rw[hi];exact hfo
  ·rw[ZAQ hi] at h;exact hH.fam i x h
 ·rw[asZ] at h;simp only[ZAp,ZAd] at h;rcases h with rfl|h
  ·exact(bzZ f).2
  ·exact hH.key i h
 ·rw[asZ] at h;simp only[ZAp,ZAd] at h;refine hH.dyn i hd ?_;rcases h with h|h
  ·rw[h];exact hkey
  ·exact h
 ·rw[e1 i fun h=>by have:=bvZ f ms.length;omega];exact hH.nos i h1 h2
theorem j0Z{t:Ty}{a a':AV}{H':Hp}{v:Value}(hH:HRep z H)(h:abs1 H t a=some (a',H'))(ha:ARep z a v):
 ∃z',z'.w=z.w/\HRep z' H'/\Nx z z'/\ARep z' a' v:=by
 unfold abs1 at h;split at h
 ·rename_i f s es id;split at h
  ·rename_i e t l e' s' ms hg hg';rcases aFZ h with⟨ht,hh⟩|hh
   ·clear h;subst ht;rcases aFZ hh with⟨hs,h⟩|h
    ·clear hh;subst hs;cases hb:(Nat.beq es s'.cells&&Nat.beq e e')<;>rw[hb] at h<;>simp only[bq_true,bq_false] at h
     ·cases h
     simp only[ZAB,acZ] at hb;obtain⟨rfl,rfl⟩:=hb;obtain⟨rfl,rfl⟩:=Prod.mk.inj (ZAk h);have hkill:=hH.kill (ahZ hg);have hlow:id<famBase:=by
      refine hH.low hg ?_;cases ha with
      |slfV _ _ A hρ=>exact m2Z hρ
      |slf _ _ g sz n c hρ hn hs hm=>exact aGZ hρ
     have hg2:hget (hset H id none) (famId f)=some ⟨false,.fam e s' ms⟩:=by
      rw[aoZ,ZAQ]
      ·exact hg'
      ·have:=(bzZ f).1;omega
     cases ha with
     |slfV _ _ A hρ=>
      obtain⟨rfl,_⟩:=hH.virt hg hρ;obtain⟨z',p1,p2,p3,p4⟩:=hkill.newM hg2 (l:=[]) (r:=.virt) (.inl ⟨rfl,rfl⟩);exact⟨z',p1,p2,p3,.p _ _ _ (.mkSc (.inl ⟨A,p4,rfl,rfl⟩) rfl)⟩
     |slf _ _ g sz n c hρ hn hs hm=>
      obtain⟨b1,b2,b3,b4⟩:=hH.real hg hρ;obtain⟨z',p1,p2,p3,p4⟩:=hkill.newM hg2 (l:=l) (r:=.real g sz n) (.inr ⟨g,sz,n,rfl,b1,b2 rfl,b4,fun i ee sz' n' q1 q2 q3=>by
       rw[a1Z hlow] at q1;split at q1
       ·cases q1
       ·rename_i hne;exact absurd rfl (hH.inj i id _ _ _ _ _ _ _ _ hne q1 (hH.x hg (aGZ hρ)) q2 rfl q3 hρ fun h=>bwZ hlow h.2)⟩)
      have hln:l.length=n:=by obtain⟨cs,fr,a1,a2,a3,a4,_⟩:=b4;exact a4
      refine⟨z',p1,p2,p3,.p _ _ _ (.mkSc (.inr ⟨g,sz,n,c,p4,?_⟩) rfl)⟩;show l.length<=c/\(0+c)*s'.cells<=sz/\c<=maxLen/\[Value.slice (some ⟨g,0,none⟩) n c]=[.slice (some ⟨g,0*s'.cells,none⟩) l.length c];rw[hln,ZBa,ZAj];exact⟨hn,hs,hm,rfl⟩
    ·cases h
   ·cases hh
  ·cases h
 ·simp only[ZAI,ZAs] at h;obtain⟨rfl,rfl⟩:=h;exact⟨z,rfl,hH,Nx.refl z,ha⟩
theorem mHZ:∀{ts:List Ty} {l l':List AV} {z:Z} {H H':Hp} {vs:List Value},HRep z H->absL H ts l=some (l',H')->AReps z l vs->
 ∃z',z'.w=z.w/\HRep z' H'/\Nx z z'/\AReps z' l' vs
 |[],l,l',z,H,H',vs,hH,h,hr=>by
  have h:some (l,H)=some (l',H'):=by cases l<;>exact h
  simp only[ZAI,ZAs] at h;obtain⟨rfl,rfl⟩:=h;exact⟨z,rfl,hH,Nx.refl z,hr⟩
 |t::ts,[],l',z,H,H',vs,hH,h,hr=>by
  simp only[absL,ZAI,ZAs] at h;obtain⟨rfl,rfl⟩:=h;exact⟨z,rfl,hH,Nx.refl z,hr⟩
 |t::ts,a::l,l',z,H,H',vs,hH,h,hr=>by
  simp only[absL] at h;obtain⟨⟨x,H1⟩,h1,h2⟩:=agZ.1 h;obtain⟨⟨y,H2⟩,h3,h4⟩:=ZAH.1 h2;simp only[ZAs] at h4;obtain⟨rfl,rfl⟩:=h4
  match vs,hr with
  |[],hr=>have:=hr.1;simp at this
  |v::vs,hr=>
   obtain⟨z1,q1,q2,q3,q4⟩:=j0Z hH h1 hr.head;obtain⟨z2,p1,p2,p3,p4⟩:=mHZ q2 h3 (hr.tail.kp (q3.kp hH.sub));exact⟨z2,p1.trans q1,p2,q3.trans p3,.cons (q4.kp (p3.kp q2.sub)) p4⟩
theorem mqZ{t:Ty}{a a':AV}{H':Hp}{v:Value}(hH:HRep z H)(h:absA H t a=some (a',H'))(ha:ARep z a v):
 ∃z',z'.w=z.w/\HRep z' H'/\Nx z z'/\ARep z' a' v:=by
 unfold absA at h;split at h
 ·rename_i l;obtain⟨⟨l',H1⟩,h1,h2⟩:=ZAH.1 h;simp only[ZAs] at h2;obtain⟨rfl,rfl⟩:=h2;cases ha with|agg _ cs hs h3 h4=>
  obtain⟨z',q1,q2,q3,q5⟩:=mHZ (vs:=cs.toList) hH h1 ⟨by simp[hs],fun i a v p1 p2=>h4 i a v p1 (by simpa using p2)⟩;refine⟨z',q1,q2,q3,.agg _ _ ?_ h3 fun i x v p1 p2=>q5.2 i x v p1 (by simpa using p2)⟩;have:=q5.1;simpa using this.symm
 ·exact j0Z hH h ha
theorem nTZ{id g sz n i j:Nat}{t:TypeId}{e:TypeId}{u:Ty}{l:List u.den}{a:AV}{v:Value}{b0:Blk}{K:AV->Hp->Option β}{r:β}
 (h:wrRows P t e u l i j id a H K=some r)(hH:HRep z H)(hg:hget H id=some ⟨false,b0⟩)(hρ:z.ρ id= .real g sz n)(hb:BRep z g sz n (.rows e u l))(ha:ARep z a v):
 ∃H' z',(Instr.storeAt t (.pointer (some ⟨g,i*u.cells+j,none⟩)) v).run P z.w= .ok () z'.w/\HRep z' H'/\Nx z z'/\K .junk H'=some r:=by
 have key:∀want,ty P t=some want->(asA want a fun y=>l[i]?.bind fun x=>upd u x j want y fun x'=>K .junk (hset H id (some ⟨false,.rows e u (l.set i x')⟩)))=some r->
  ∃H' z',(Instr.storeAt t (.pointer (some ⟨g,i*u.cells+j,none⟩)) v).run P z.w= .ok () z'.w/\HRep z' H'/\Nx z z'/\K .junk H'=some r:=by
  intro want hty h;obtain⟨y,h1,h2⟩:=bxZ h ha;obtain⟨x,h3,h4⟩:=ZAF.1 h2;have hid:=hH.low hg (aGZ hρ);exact fGZ (mk:=fun l'=>hset H id (some ⟨false,.rows e u l'⟩)) hH (hH.x hg (aGZ hρ)) hρ hb hty h3 h1 h4 (fun l'=>.stat hid hg hid) (bwZ hid)
 unfold wrRows at h;split at h
 ·rename_i m u' hty;cases hc:(decide (u'=u)&&Nat.beq i 0&&Nat.beq j 0)<;>rw[hc] at h<;>simp only[bq_true,bq_false] at h
  ·exact key _ hty h
  ·simp only[ZAB,ZAd,acZ] at hc;obtain⟨⟨rfl,rfl⟩,rfl⟩:=hc;obtain⟨h1,h2⟩:=aeZ.1 h;obtain⟨l',h3,h4⟩:=bxZ h2 ha;obtain⟨h5,h6⟩:=aeZ.1 h4;rw[acZ] at h1 h5;obtain⟨t1,t2,t3,t4⟩:=cmZ hty;obtain⟨cs,fr,a1,a2,a3,a4,a5,a6,a7⟩:=hb;obtain⟨c3,c4⟩:=h3.cells;have hvl:=c3.len;have hvs:v.cells.size=m*u'.cells:=by simpa[Ty.cells] using hvl
   obtain⟨_,css,d1,d2,d3⟩:=c3;obtain⟨z',s1,s2,s3⟩:=kyZ (P:=P) (t:=t) (o:=0*u'.cells+0) (v:=v) (b:=.rows e u' l') hH hg hρ a1 a2.f (by omega) (by rw[hvs];exact t1) (by rw[hvs,<-h1];omega) c4 (fun z' k hw=>by
    refine⟨_,fr,hw,djZ a2 (akZ _ _ _),by rw[akZ];exact a3,by rw[h5,<-h1];exact a4,by rw[h5,<-h1];exact a5,a6,fun i' y' hi'=> ?_⟩;have hil:i'<css.length:=by
     have:=(ZAC.1 hi').1;omega
    refine⟨css[i'],(d3 i' y' _ hi' (ZAD hil)).kp k,fun q w hq=> ?_⟩;have hlens:∀u∈css,u.length=u'.cells:=fun u hu=>by
     obtain⟨k,hk⟩:=ZAe hu;obtain⟨e,he⟩:=aJZ (l:=l') (by rw[d1,h5]) hk;exact(d3 k e u he hk).len
    have hqlt:q<u'.cells:=by
     have:=(ZAC.1 hq).1;rwa [hlens _ (ZBo hil)] at this
    have hlt:=kBZ (es:=u'.cells) hil hqlt;have hfl:∀(css:List (List Value)) (k:Nat) (hk:k<css.length),(∀u∈css,u.length=u'.cells)->∀q w,css[k][q]? =some w->css.flatten[k*u'.cells+q]? =some w:=by
     intro css;induction css with
     |nil=>intro k hk;simp at hk
     |cons c css ih=>
      intro k hk hl q w hq
      match k with
      |0=>
       simp at hq;rw[ZBM,ZBa,ZAj,ZAL (ZAC.1 hq).1];exact hq
      |k+1=>
       have hc:=hl c (by simp);rw[ZBM,ZAO (by rw[ZBY];omega)];have:=ih k (by simpa using hk) (fun u hu=>hl u (by simp[hu])) q w (by simpa using hq);rw[<-this];congr 1;rw[ZBY];omega
    have h7:=hfl css i' hil hlens q w hq;rw[auZ _ _ _ _ (by simp;rw[hvs,<-h1];omega),ZAT (by simp;rw[hvs];rw[d1] at hlt;omega)];rw[<-h7,<-d2];congr 1;omega)
   exact⟨_,z',s1,s2,s3,h6⟩
 ·rename_i want hne hty;exact key _ hty h
 ·cases h
theorem kDZ{t:TypeId}{a x:AV}{K:AV->Hp->Option β}{r:β}{pv v:Value}(h:evStore P t a x H K=some r)(hH:HRep z H)(ha:ARep z a pv)(hx:ARep z x v):
 ∃H' z',(Instr.storeAt t pv v).run P z.w= .ok () z'.w/\HRep z' H'/\Nx z z'/\K .junk H'=some r:=by
 unfold evStore at h;split at h
 ·rename_i es id i j;cases ha with
  |own _ _ _ _ g sz n hρ=>
   split at h
   ·rename_i c hg;obtain⟨vs,h1,h2⟩:=agZ.1 h;obtain⟨h3,h4⟩:=aeZ.1 h2;simp only[ZAB,ZAc,ZAm,acZ] at h3;obtain⟨⟨h5,h6⟩,h7⟩:=h3;obtain⟨o,ho⟩:∃o,i*es+j=o:=⟨_,rfl⟩;rw[ho] at h4 h7⊢;obtain⟨p1,p2,_⟩:=caZ h1 hx;obtain⟨_,_,_,cs,e,fr,q1,q2,q3,⟨q4,qn⟩,q5,q6⟩:=hH.real hg hρ;have hc0:P.cellsOf t≠0:=fun h0=>by rw[h0] at h6;simp at h6
    have hvs:v.cells.size=vs.length:=by have:=p1.1;simpa using this.symm
    obtain⟨z',s1,s2,s3⟩:=kyZ (P:=P) (t:=t) (o:=o) (v:=v) (b:=.vars (setFrom c o vs)) hH hg hρ q1 q2 hc0 (by omega) (by omega) p2 (fun z' k hw=>by
     refine⟨_,e,fr,hw,pLZ q2 (akZ _ _ _),by rw[akZ];exact q3,⟨by rw[crZ];exact q4,qn⟩,fun m a u hk hu=> ?_,fun u hu=> ?_⟩
     ·rw[cvZ _ _ _ _ h7] at hk;rw[auZ _ _ _ _ (by simp;omega)] at hu;simp only[ZA3,hvs] at hu;by_cases hin:o<=m/\m<o+vs.length
      ·rw[ZAT hin] at hk hu;exact(p1.2 _ _ _ hk hu).kp k
      ·rw[ZAQ hin] at hk hu;exact(q5 _ _ _ hk hu).kp k
     ·obtain⟨m,hm,rfl⟩:=Array.mem_iff_getElem.1 hu;have hk':(setArr cs o v.cells.toList)[m]? =some ((setArr cs o v.cells.toList)[m]):=ZA7 hm;generalize (setArr cs o v.cells.toList)[m]=u at hk';rw[auZ _ _ _ _ (by simp;omega)] at hk';split at hk'
      ·exact p2 u (by have:=ZAN hk';simpa using this)
      ·exact q6 u (Array.mem_of_getElem? hk'))
    exact⟨_,z',s1,s2,s3,h4⟩
   ·rename_i e u l hg;cases hes:Nat.beq es u.cells<;>rw[hes] at h<;>simp only[bq_true,bq_false] at h
    ·cases h
    rw[acZ] at hes;subst hes;cases hnr:u.noRef<;>rw[hnr] at h<;>simp only[bq_true,bq_false] at h
    ·unfold wrRef at h;obtain⟨want,g1,h⟩:=agZ.1 h;obtain⟨u',g2,h⟩:=agZ.1 h;obtain⟨⟨a1,H1⟩,g3,h⟩:=agZ.1 h;obtain⟨⟨a2,H2⟩,g4,h⟩:=agZ.1 h;obtain⟨g5,h⟩:=aeZ.1 h;obtain⟨x0,g6,h⟩:=ZAF.1 h;obtain⟨z1,p1,p2,p3,p4⟩:=mqZ hH g3 hx;obtain⟨z2,r1,r2,r3,r4,r5⟩:=byZ p2 g4 p4;obtain⟨b1,hg1⟩:∃b1,hget H2 id=some ⟨false,b1⟩:=by
      simp only[isMut] at g5;split at g5
      ·rename_i e' he';obtain⟨fz,b1⟩:=e';simp only[ZAc] at g5;subst g5;exact⟨b1,he'⟩
      ·cases g5
     have hn:=p3.trans r3;have hρ2:z2.ρ id= .real g sz n:=by rw[hn.ext id (aGZ hρ)];exact hρ
     have hb:=(hH.real hg hρ).2.2.2.kp (hn.kp hH.sub) (by rw[r1,p1]);have hid:=r2.low hg1 (aGZ hρ2);obtain⟨H',z',s1,s2,s3,s4⟩:=idZ (P:=P) (mk:=fun l'=>hset H2 id (some ⟨false,.rows e u l'⟩)) r2 (r2.x hg1 (aGZ hρ2)) hρ2 hb g1 g6 r5 h (fun l'=>.stat hid hg1 hid) (bwZ hid);exact⟨H',z',by rw[<-p1,<-r1];exact s1,s2,hn.trans s3,s4⟩
    obtain⟨⟨a',H1⟩,h1,h2⟩:=agZ.1 h;obtain⟨h3,h4⟩:=aeZ.1 h2;obtain⟨z1,p1,p2,p3,p4,p5⟩:=byZ hH h1 hx;have hg1:∃b1,hget H1 id=some ⟨false,b1⟩:=by
     simp only[isMut] at h3;split at h3
     ·rename_i e' he';obtain⟨fz,b1⟩:=e';simp only[ZAc] at h3;subst h3;exact⟨b1,he'⟩
     ·cases h3
    obtain⟨b1,hg1⟩:=hg1;have hb:=(hH.real hg hρ).2.2.2.kp (p3.kp hH.sub) (by rw[p1]);obtain⟨H',z',s1,s2,s3,s4⟩:=nTZ h4 p2 hg1 (by rw[p4];exact hρ) hb p5;exact⟨H',z',by rw[<-p1];exact s1,s2,p3.trans s3,s4⟩
   ·cases h
 ·rename_i f es k i j;unfold wrMem at h;obtain⟨want,g1,h⟩:=agZ.1 h;obtain⟨⟨a1,H1⟩,g2,h⟩:=agZ.1 h;obtain⟨z1,p1,p2,p3,p4,p5⟩:=byZ hH g2 hx;split at h
  ·rename_i e s ms hg;obtain⟨hnr,h⟩:=aeZ.1 h;obtain⟨m,g3,h⟩:=ZAF.1 h;obtain⟨g4,h'⟩:=aeZ.1 h;clear h;simp only[ZAB,acZ] at g4;obtain⟨⟨g4,hes⟩,g5⟩:=g4;subst hes;clear g5;have h:asA want a1 (fun y=>m.2[i]?.bind fun r0=>upd s r0 j want y fun r'=>K .junk (hset H1 (famId f) (some ⟨false,.fam e s (ms.set k (1,m.2.set i r'))⟩)))=some r:=h';obtain⟨y,g6,h⟩:=bxZ h p5;obtain⟨r0,g7,h⟩:=ZAF.1 h;cases ha with
   |rp _ _ _ _ _ g sz n hρ=>
    have hρ1:z1.ρ (enc f k)= .real g sz n:=by rw[p4];exact hρ
    have hgX:=fgZ hg g3 (by rw[g4];omega);have hfz:((⟨false||Nat.ble 2 m.1,.rows e s m.2⟩:Ent))=⟨false,.rows e s m.2⟩:=by rw[g4];rfl
    rw[hfz] at hgX;obtain⟨H',z',s1,s2,s3,s4⟩:=fGZ (P:=P) (mk:=fun l'=>hset H1 (famId f) (some ⟨false,.fam e s (ms.set k (1,l'))⟩)) p2 hgX hρ1 (p2.realX hgX hρ1).2.2.2 g1 g7 g6 h (fun l'=>.mem hg (p2.fam _ _ hg) g3 l') (jwZ hnr);exact⟨H',z',by rw[<-p1];exact s1,s2,p3.trans s3,s4⟩
  ·cases h
 ·cases h
end
end
end Go.Ab
