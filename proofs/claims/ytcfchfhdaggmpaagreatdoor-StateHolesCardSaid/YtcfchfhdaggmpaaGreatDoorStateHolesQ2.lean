/- What the functions compute; the plain law. -/
import Derived.Test.YtcfchfhdaggmpaaGreatDoorStateHolesQ1
import Derived.KernelRfl
set_option linter.all false
namespace Go.Ab
theorem ZBy.{u}:type_of% @List.set_cons_zero.{u}:=@List.set_cons_zero.{u}
theorem ZB9:type_of% @Bool.and_assoc:=@Bool.and_assoc
end Go.Ab
namespace Go.Ab.D
open Go Go.Ab
section
variable {t : Tree} {a b : Int × Int} {na nb x z : Ino} {old name : List UInt8} {id other : Int}
end
end Go.Ab.D
namespace Go.Ab.D
open Go Go.Ab
section
variable {t : Tree} {a b d : Int × Int} {na nb n x z : Ino} {old name s : List UInt8} {id other : Int}
def Found(t:Tree)(d:Int×Int)(s:List UInt8)(h:Int×Int):Prop:=∃n x,IsD t.1 d n/\(s,h.1)∈n.2.2.2.2.2.2.2/\t.1[(h.1-1).toNat]? =some x/\x.2.1=h.2/\x.2.2.1=true
structure MadeOk (t:Tree) (d:Int×Int) (s:List UInt8) (is:Bool) (T:Tree) (f:Int×Int) (n:Ino) (l':List Ino) (i:Nat):Prop where
 dir:IsD t.1 d n
 nm:namedB s=true
 no:hasN n.2.2.2.2.2.2.2 s=false
 few:n.2.2.2.2.2.2.2.length<100
 alc:Alc t.1 is d.1 l' i f.2
 T:T=(putL l' d.1 s ((i:Int)+1),t.2)
 f:f.1=(i:Int)+1
theorem osZ{l':List Ino}{i:Nat}{g:Int}{is:Bool}(hn:IsD t.1 d n)(hA:Alc t.1 is d.1 l' i g)(id:Int):madeL l' d.1 n s id=putL l' d.1 s id:=by
 have hne:(d.1-1).toNat≠i:=fun hc=>by
  have:=hA.was n (by rw[<-hc];exact hn.1.2.1);rw[hn.1.2.2.1] at this;cases this
 unfold madeL putL;rw[ndZ _ (by rw[hA.old _ hne];exact hn.1.2.1)]
structure RmOk (t:Tree) (d:Int×Int) (s:List UInt8) (is:Bool) (T:Tree) (gone:List Part) (n:Ino) (id:Int) (x:Ino):Prop where
 dir:IsD t.1 d n
 e:(s,id)∈n.2.2.2.2.2.2.2
 at_:t.1[(id-1).toNat]? =some x
 mis:misE is x=0
 T:T=(dropL (takeL t.1 d.1 s) id,t.2)
 gone:gone=keptP x.2.2.2.2.2.1
inductive Moved (t:Tree) (a:Int×Int) (old:List UInt8) (b:Int×Int) (name:List UInt8) (T:Tree) (gone:List Part) (id:Int) (x:Ino):Prop
 |same {na nb:Ino}:T=t->gone=[]->IsD t.1 a na->IsD t.1 b nb->(old,id)∈na.2.2.2.2.2.2.2->(name,id)∈nb.2.2.2.2.2.2.2->t.1[(id-1).toNat]? =some x->Moved t a old b name T gone id x
 |move {na nb:Ino}:T=(mvL t.1 a.1 old b.1 name id,t.2)->gone=[]->MvOk t a old b name id na nb x->Moved t a old b name T gone id x
 |over {na nb na' nb' z:Ino} {other:Int}:T=(mvL (dropL (takeL t.1 b.1 name) other) a.1 old b.1 name id,t.2)->gone=keptP z.2.2.2.2.2.1->IsD t.1 a na->IsD t.1 b nb->(old,id)∈na.2.2.2.2.2.2.2->t.1[(id-1).toNat]? =some x->(name,other)∈nb.2.2.2.2.2.2.2->other≠id->t.1[(other-1).toNat]? =some z->misE x.2.2.2.1 z=0->TreeOK (dropL (takeL t.1 b.1 name) other,t.2)->MvOk (dropL (takeL t.1 b.1 name) other,t.2) a old b name id na' nb' x->Moved t a old b name T gone id x
end
theorem jXZ:TreeOK ([(1,1,true,true,0,[],1,[])],0):=by
 refine⟨⟨by simp,by simp,fun i n hn=> ?_,by simp[allStripes,stripes],_,rfl,rfl,rfl,rfl⟩,fun i n hn s id he=> ?_,fun j x hx hu hj=> ?_,fun j x hx hu=> ?_⟩
 ·cases i with
  |zero=>simp at hn;subst hn;exact⟨rfl,by simp,by simp,fun _ _=>⟨rfl,rfl,by simp,trivial⟩,by simp,by simp⟩
  |succ i=>simp at hn
 ·cases i with
  |zero=>simp at hn;subst hn;cases he
  |succ i=>simp at hn
 ·cases j with
  |zero=>exact absurd rfl hj
  |succ i=>simp at hx
 ·cases j with
  |zero=>exact .root
  |succ i=>simp at hx
end Go.Ab.D
namespace Go.Ab.D
open Go Go.Ab
def allocF(l:List Ino)(dir:Bool)(parent:Int):Option (List Ino×Nat×Int):=
 match freeAt l with
 |none=>if l.length<500 then some (l++[((l.length:Int)+1,1,true,dir,0,[],parent,[])],l.length,1) else none
 |some i=>match l[i]? with
  |none=>none
  |some n=>if n.2.1<1099511627776 then some (l.set i ((i:Int)+1,n.2.1+1,true,dir,0,[],parent,[]),i,n.2.1+1) else none
theorem pPZ{l l':List Ino}{dir:Bool}{parent g:Int}{i:Nat}(h:Alc l dir parent l' i g):allocF l dir parent=some (l',i,g):=by
 unfold allocF;have hs:=h.slot;have hlen:=h.len;cases hf:freeAt l with
 |none=>
  rw[hf] at hs;have hs:i=l.length:=hs;rw[ZAQ (by omega)] at hlen;have:=h.few;have hg:g=0+1:=by
   have:=h.gen;rw[ZAt (by omega)] at this;exact this
  rw[ZAT (by omega)];subst hs hg;show some (l++[((l.length:Int)+1,1,true,dir,0,[],parent,[])],l.length,(1:Int))=some (l',l.length,0+1);have e:l++[((l.length:Int)+1,1,true,dir,0,[],parent,[])]=l':= ?_
  ·rw[e];rfl
  refine List.ext_getElem? fun j=> ?_;by_cases hj:j=l.length
  ·subst hj;rw[h.new];simp
  ·rw[h.old j hj];by_cases hj2:j<l.length
   ·rw[ZAL hj2]
   ·rw[ZAt (by simp;omega),ZAt (by omega)]
 |some k=>
  rw[hf] at hs;have hs:i=k:=hs;subst hs;obtain⟨hk,_,_⟩:=ZBl.1 hf;have hg:l[i]? =some l[i]:=ZAD hk;have hgen:=h.gen;rw[hg] at hgen;have hgen:g=l[i].2.1+1:=hgen;have:=h.top;simp only[hg];rw[ZAT (by omega),<-hgen];congr 2;refine List.ext_getElem? fun j=> ?_;by_cases hj:j=i
  ·subst hj;rw[h.new,ZAU hk]
  ·rw[h.old j hj,ZAg (by omega)]
theorem lcZ{l:List Ino}(h:noRoom l)(dir:Bool)(parent:Int):allocF l dir parent=none:=by
 unfold noRoom at h;unfold allocF;cases hf:freeAt l with
 |none=>rw[hf] at h;exact ZAQ (by omega)
 |some i=>
  rw[hf] at h;obtain⟨n,hn,hg⟩:=h;simp only[hn];exact ZAQ (by omega)
def findE(l:List Ent)(s:List UInt8):Option Int:=(l.find? fun e=>e.1==s).map (·.2)
def ancB(l:List Ino)(top:Int):Nat->Int->Bool
 |0,id=>id==top
 |k+1,id=>bif id==top then true else bif id==1 then false else match l[(id-1).toNat]? with
  |some n=>n.2.2.1&&ancB l top k n.2.2.2.2.2.2.1
  |none=>false
def makeF(t:Tree)(d:Int×Int)(s:List UInt8)(is:Bool):Tree×(Int×Int)×Int:=
 if dirE t.1 d=0 then
  if namedB s=true then
   match t.1[(d.1-1).toNat]? with
   |none=>(t,(0,0),170)
   |some n=>if hasN n.2.2.2.2.2.2.2 s=true then(t,(0,0),172) else if 100<=n.2.2.2.2.2.2.2.length then(t,(0,0),5) else
    match allocF t.1 is d.1 with
    |none=>(t,(0,0),5)
    |some (l',i,g)=>((putL l' d.1 s ((i:Int)+1),t.2),((i:Int)+1,g),0)
  else(t,(0,0),176)
 else(t,(0,0),dirE t.1 d)
theorem nZZ{t:Tree}(h:TreeOK t)(d:Int×Int)(s:List UInt8)(is:Bool):tree_Make fuel t d s is=some ((makeF t d s is).1.1,((makeF t d s is).1.2,((makeF t d s is).2.1.1,((makeF t d s is).2.1.2,(makeF t d s is).2.2))))/\TreeOK (makeF t d s is).1:=by
 unfold makeF;rcases g0Z t.1 d with⟨n,hn⟩|⟨hb,_⟩
 ·rw[ZAT (iTZ hn),hn.1.2.1];simp only;cases hs:namedB s with
  |false=>rw[ZAQ (by simp)];exact⟨mSZ h is hn hs,h⟩
  |true=>
   rw[ZAT rfl];cases hh:hasN n.2.2.2.2.2.2.2 s with
   |true=>rw[ZAT rfl];exact⟨lNZ h is hn hs hh,h⟩
   |false=>
    rw[ZAQ (by simp)];by_cases hl:100<=n.2.2.2.2.2.2.2.length
    ·rw[ZAT hl];exact⟨oiZ h is hn hs hh hl,h⟩
    ·rw[ZAQ hl];rcases kOZ h is hn hs hh (by omega) with⟨hno,hm⟩|⟨l',i,g,hA,hm⟩
     ·rw[lcZ hno];exact⟨hm,h⟩
     ·rw[pPZ hA,hm,osZ hn hA];exact⟨rfl,pjZ h hn hs hh (by omega) hA⟩
 ·rw[ZAQ hb];exact⟨o9Z h s is hb,h⟩
def removeF(t:Tree)(d:Int×Int)(s:List UInt8)(is:Bool):Tree×List Part×Int:=
 if dirE t.1 d=0 then
  if namedB s=true then
   match t.1[(d.1-1).toNat]? with
   |none=>(t,[],170)
   |some n=>match findE n.2.2.2.2.2.2.2 s with
    |none=>(t,[],171)
    |some id=>match t.1[(id-1).toNat]? with
     |none=>(t,[],170)
     |some x=>if misE is x=0 then((dropL (takeL t.1 d.1 s) id,t.2),keptP x.2.2.2.2.2.1,0) else(t,[],misE is x)
  else(t,[],176)
 else(t,[],dirE t.1 d)
def renameF(t:Tree)(a:Int×Int)(old:List UInt8)(b:Int×Int)(name:List UInt8):Tree×List Part×Int:=
 if dirE t.1 a=0 then
  if dirE t.1 b=0 then
   if(namedB old&&namedB name)=true then
    match t.1[(a.1-1).toNat]? with
    |none=>(t,[],170)
    |some na=>match t.1[(b.1-1).toNat]? with
     |none=>(t,[],170)
     |some nb=>match findE na.2.2.2.2.2.2.2 old with
      |none=>(t,[],171)
      |some id=>match t.1[(id-1).toNat]? with
       |none=>(t,[],170)
       |some x=>if(x.2.2.2.1&&ancB t.1 id t.1.length b.1)=true then(t,[],178) else
        match findE nb.2.2.2.2.2.2.2 name with
        |none=>if a.1≠b.1/\100<=nb.2.2.2.2.2.2.2.length then(t,[],5) else((mvL t.1 a.1 old b.1 name id,t.2),[],0)
        |some other=>if other=id then(t,[],0) else match t.1[(other-1).toNat]? with
         |none=>(t,[],170)
         |some z=>if misE x.2.2.2.1 z=0 then((mvL (dropL (takeL t.1 b.1 name) other) a.1 old b.1 name id,t.2),keptP z.2.2.2.2.2.1,0) else(t,[],misE x.2.2.2.1 z)
   else(t,[],176)
  else(t,[],dirE t.1 b)
 else(t,[],dirE t.1 a)
end Go.Ab.D
namespace Go.Ab.D
abbrev CallT:Type:=Int×(Int×(UInt8×((Int×Int)×(List UInt8×((Int×Int)×(List UInt8×(Int×(Int×List UInt8))))))))
abbrev Has:Type:=Bool×(Bool×(Bool×(Bool×(Int×(Bool×Bool)))))
instance hasD1:DecidableEq (Int×(Bool×Bool)):=instDecidableEqProd
instance hasD2:DecidableEq (Bool×(Int×(Bool×Bool))):=instDecidableEqProd
instance hasD3:DecidableEq (Bool×(Bool×(Int×(Bool×Bool)))):=instDecidableEqProd
instance hasD4:DecidableEq (Bool×(Bool×(Bool×(Int×(Bool×Bool))))):=instDecidableEqProd
instance hasD5:DecidableEq Has:=instDecidableEqProd
def shapeN(o:Nat):Has:=
 if o=1\/o=2\/o=3\/o=7\/o=8 then(true,(true,(false,(false,(0,(false,true))))))
 else if o=4 then(true,(false,(false,(true,(4096,(false,true))))))
 else if o=5 then(true,(false,(false,(true,(0,(true,true))))))
 else if o=6 then(true,(false,(false,(false,(2147483648,(false,true))))))
 else if o=9 then(true,(true,(true,(false,(0,(false,true))))))
 else if o=10 then(true,(true,(false,(false,(4096,(false,true))))))
 else if o=11 then(true,(false,(false,(false,(0,(false,true))))))
 else if o=12 then(false,(false,(false,(false,(0,(false,true))))))
 else(false,(false,(false,(false,(0,(false,false))))))
theorem m8Z:∀n:Nat,n<256->csha fuel ((n:Nat):Int)=some (shapeN n):=by decide+kernel
theorem pnZ(o:UInt8):csha fuel ((o.toNat:Nat):Int)=some (shapeN o.toNat):=m8Z _ o.toNat_lt
def whoseB(a b:Int):Bool:=decide (0<=a/\a<16/\1<=b/\b<=1099511627776)
theorem pmZ(a b:Int):cwho fuel a b=some (whoseB a b):=by
 unfold cwho whoseB;by_cases h1:a>=0<;>by_cases h2:a<16<;>by_cases h3:b>=1<;>by_cases h4:b<=1099511627776<;>
  simp[h1,h2,h3,h4]<;>omega
def handleB(h:Int×Int):Bool:=decide (1<=h.1/\h.1<=500/\1<=h.2/\h.2<=1099511627776)
theorem n9Z(h:Int×Int):hRig fuel h=some (handleB h):=by
 unfold hRig handleB;by_cases h1:h.1>=1<;>by_cases h2:h.1<=500<;>by_cases h3:h.2>=1<;>by_cases h4:h.2<=1099511627776<;>
  simp[h1,h2,h3,h4]<;>omega
def ofB(is:Bool)(h:Int×Int):Bool:=bif is then handleB h else((h.1==0)&&(h.2==0))
theorem r5Z(is:Bool)(h:Int×Int):cRigCal1 fuel is h=some (ofB is h):=by
 unfold cRigCal1 ofB;cases is with
 |true=>
  simp only[ZAK];rw[n9Z];have:handleB (h.1,h.2)=handleB h:=rfl;rw[this];simp only[ZAA];cases handleB h<;>rfl
 |false=>rfl
def saidB(is:Bool)(l:List UInt8):Bool:=(l==[])||(is&&decide (l.length<=100))
theorem nVZ(is:Bool)(l:List UInt8):cRigCal2 fuel is l=some (saidB is l):=by
 unfold cRigCal2 saidB;have e:decide (((l.length:Nat):Int)<=100)=decide (l.length<=100):=by
  by_cases h:l.length<=100
  ·rw[ZAJ h,ZAJ (by omega)]
  ·rw[ZAG h,ZAG (by omega)]
 rw[e];cases(l==[])<;>cases is<;>rfl
def rightS(s:Has)(c:CallT):Bool:=
 s.2.2.2.2.2.2&&(whoseB c.1 c.2.1&&(ofB s.1 c.2.2.2.1&&(ofB s.2.2.1 c.2.2.2.2.2.1&&(saidB s.2.1 c.2.2.2.2.1&&(saidB s.2.2.1 c.2.2.2.2.2.2.1&&
  (decide (0<=c.2.2.2.2.2.2.2.1/\c.2.2.2.2.2.2.2.1<=2147483648)&&((s.2.2.2.1||(c.2.2.2.2.2.2.2.1==0))&&(decide (0<=c.2.2.2.2.2.2.2.2.1/\c.2.2.2.2.2.2.2.2.1<=s.2.2.2.2.1)&&
   (decide (c.2.2.2.2.2.2.2.2.2.length=0)||(s.2.2.2.2.2.1&&decide (c.2.2.2.2.2.2.2.2.2.length<=4096)))))))))))
def rightCall(c:CallT):Bool:=rightS (shapeN c.2.2.1.toNat) c
theorem aLZ(c:CallT):cRigCal fuel c=some (rightCall c):=by
 obtain⟨c1,c2,c3,⟨h1,h2⟩,nm,⟨t1,t2⟩,nw,off,n,bs⟩:=c;unfold cRigCal rightCall;simp only;rw[pnZ];generalize shapeN c3.toNat=s;obtain⟨sh,sn,st,so,sN,sb,ok⟩:=s;unfold rightS;simp only[ZAA];cases ok with
 |false=>rfl
 |true=>
  simp only[ZAP,ZAE];rw[pmZ];generalize whoseB c1 c2=w;cases w with
  |false=>rfl
  |true=>
   simp only[ZAA,ZAP,ZAE];rw[r5Z];generalize ofB sh (h1,h2)=a1;cases a1 with
   |false=>rfl
   |true=>
    simp only[ZAA,ZAP,ZAE];rw[r5Z];generalize ofB st (t1,t2)=a2;cases a2 with
    |false=>rfl
    |true=>
     simp only[ZAA,ZAP,ZAE];rw[nVZ];generalize saidB sn nm=a3;cases a3 with
     |false=>rfl
     |true=>
      simp only[ZAA,ZAP,ZAE];rw[nVZ];generalize saidB st nw=a4;cases a4 with
      |false=>rfl
      |true=>
       simp only[ZAA,ZAP,ZAE,ZA4];by_cases o1:off<0
       ·rw[ZAJ o1,ZAG (show¬(0<=off/\off<=2147483648) by omega)];rfl
       by_cases o2:off>2147483648
       ·rw[ZAG o1,ZAJ o2,ZAG (show¬(0<=off/\off<=2147483648) by omega)];rfl
       rw[ZAG o1,ZAG o2,ZAJ (show 0<=off/\off<=2147483648 by omega)];have eb:decide (((bs.length:Nat):Int)<=4096)=decide (bs.length<=4096):=by
        by_cases h:bs.length<=4096
        ·rw[ZAJ h,ZAJ (by omega)]
        ·rw[ZAG h,ZAG (by omega)]
       have e0:(((bs.length:Nat):Int)==0)=decide (bs.length=0):=by
        by_cases h:bs.length=0
        ·rw[ZAJ h,h];rfl
        ·rw[ZAG h,ZA5.2 (by omega)]
       by_cases n1:n<0
       ·rw[ZAJ n1,ZAG (show¬(0<=n/\n<=sN) by omega)];cases so<;>cases(off==0)<;>rfl
       by_cases n2:n>sN
       ·rw[ZAG n1,ZAJ n2,ZAG (show¬(0<=n/\n<=sN) by omega)];cases so<;>cases(off==0)<;>rfl
       rw[ZAG n1,ZAG n2,ZAJ (show 0<=n/\n<=sN by omega),<-e0,<-eb];cases so<;>cases(off==0)<;>simp only[ZAK,ZAE,ZAP,ZAy,ZAA,ZA4,Bool.or_false,Bool.or_true,Bool.false_and,e0,eb]<;>
        (generalize decide (bs.length=0)=x0)<;>(generalize decide (bs.length<=4096)=x1)<;>cases x0<;>cases sb<;>cases x1<;>rfl
end Go.Ab.D
namespace Go.Ab.D
open Go Go.Ab
abbrev Byt:=List UInt8
abbrev Mod:=Tree×List Byt
structure ModelOK (m:Mod):Prop where
 t:TreeOK m.1
 n:m.2.length=m.1.1.length
 p:∀(i:Nat) x,m.1.1[i]? =some x->x.2.2.2.2.2.1=[]
 s:∀(i:Nat) x b,m.1.1[i]? =some x->m.2[i]? =some b->((b.length:Nat):Int)=x.2.2.2.2.1
theorem neZ{t:Tree}(h:TreeOK t){i:Nat}{x:Ino}(hx:t.1[i]? =some x):0<=x.2.2.2.2.1/\x.2.2.2.2.1<=65536/\(x.2.2.1=false->x.2.2.2.2.1=0)/\(x.2.2.2.1=true->x.2.2.2.2.1=0):=by
 have o:=h.r.ino i x hx;cases hu:x.2.2.1 with
 |false=>have:=o.bare hu;refine⟨by omega,by omega,fun _=>this.2.1,fun hd=> ?_⟩;rw[this.1] at hd;cases hd
 |true=>
  cases hd:x.2.2.2.1 with
  |true=>have:=o.dir hu hd;exact⟨by omega,by omega,(by simp),fun _=>this.1⟩
  |false=>have:=o.file hu hd;exact⟨this.1.1,this.1.2,(by simp),(by simp)⟩
theorem ModelOK.at{m:Mod}(h:ModelOK m){i:Nat}{x:Ino}(hx:m.1.1[i]? =some x):∃b,m.2[i]? =some b/\((b.length:Nat):Int)=x.2.2.2.2.1/\b.length<=65536:=by
 have hlt:=(ZAC.1 hx).1;obtain⟨b,hb⟩:∃b,m.2[i]? =some b:=⟨_,ZAD (by rw[h.n];exact hlt)⟩;have h1:=h.s i x b hx hb;have h2:=neZ h.t hx;exact⟨b,hb,h1,by omega⟩
theorem ModelOK.byt{m:Mod}(h:ModelOK m){i:Nat}{b:Byt}(hb:m.2[i]? =some b):b.length<=65536:=by
 have hlt:=(ZAC.1 hb).1;obtain⟨x,hx⟩:∃x,m.1.1[i]? =some x:=⟨_,ZAD (by rw[<-h.n];exact hlt)⟩;obtain⟨b',hb',_,h2⟩:=h.at hx;rw[hb] at hb';cases hb';exact h2
theorem ModelOK.len{m:Mod}(h:ModelOK m):1<=m.1.1.length/\m.1.1.length<=500:=h.t.r.len
theorem ModelOK.fit{m:Mod}(h:ModelOK m):Fit m.1.1:=h.t.r.fit
theorem b1Z{m:Mod}(h:ModelOK m):mRig fuel m=some true:=by
 unfold mRig;have hl:=h.len;rw[show((m.1.1,m.1.2):Tree)=m.1 from rfl,cGZ h.t,ZAA];simp only[ZAP,ZAE,ZAA];rw[h.n,ZAV];simp only[ZAP,ZAE];have loop:mRig_l0_it fuel (false,(m.1.1,(m.1.2,m.2))) (0,(m.1.1,(m.1.2,m.2)))=some (.inl ()):=by
  unfold mRig_l0_it;refine a4Z (fun k=>((k:Int),(m.1.1,(m.1.2,m.2)))) m.1.1.length (by omega) (fun k hk=> ?_) ?_
  ·unfold mRig_l0;obtain⟨x,hx⟩:∃x,m.1.1[k]? =some x:=⟨_,ZAD hk⟩;obtain⟨b,hb,hs,_⟩:=h.at hx;simp only[aYZ hk,ZAK];rw[anZ hk];simp only[ZAA,hx];rw[h.p k x hx];simp only[List.length_nil,Int.natCast_zero,show decide ((0:Int)>0)=false from rfl,ZAE];rw[anZ (by rw[h.n];exact hk)];simp only[ZAA,hb];rw[hs,ZAV,w64 (by omega)]
   rfl
  ·unfold mRig_l0;simp only[aHZ (ZBL _),ZAE]
 rw[loop,ZAA]
theorem cKZ{t:Tree}(h:Fit t.1):mcop fuel t=some (t.2,t.1):=by
 unfold mcop;rw[e7Z h.n,ZAA];have loop:mcop_l0_it fuel t.1 (0,(t.2,(t.1,0)))=some (t.2,(t.1,0)):=by
  unfold mcop_l0_it;refine a4Z (fun k=>((k:Int),(t.2,(t.1,0)))) t.1.length (by have:=h.n;omega) (fun k hk=> ?_) ?_
  ·unfold mcop_l0;obtain⟨n,hg⟩:∃n,t.1[k]? =some n:=⟨_,ZAD hk⟩;have hsm:=h.at hg;have hs:t.1.set k n=t.1:=e9Z hg;simp only[aYZ hk,ZAK];rw[anZ hk];simp only[ZAA,hg];rw[c9Z hsm.1,ZAA,e6Z hsm.2,ZAA];show((idx? ((k:Nat):Int) (t.1.set k n).length).bind fun q3=>((t.1.set k n)[q3]?.bind _))=_;rw[hs,anZ hk,ZAA,hg,ZAA,w64 (by have:=h.n;omega)];show some (Sum.inl (_,(t.2,(t.1.set k n,0))))=_;rw[hs]
   rfl
  ·unfold mcop_l0;simp only[aHZ (ZBL _),ZAE]
 rw[loop,ZAA]
theorem hJZ{l:Byt}(h:l.length<=100000):sClo4 fuel l=some l:=by
 unfold sClo4;rw[bYZ]
 ·simp only[ZAE];rw[adZ (by simp only[ZAB,ZAm,avZ];omega)]
 ·intro h0;obtain rfl:=ZAR h0
  rfl
theorem iQZ{l:List Byt}(h:l.length<=100000):sClo8 fuel l=some l:=by
 unfold sClo8;rw[bYZ]
 ·simp only[ZAE];rw[adZ (by simp only[ZAB,ZAm,avZ];omega)]
 ·intro h0;obtain rfl:=ZAR h0
  rfl
end Go.Ab.D
namespace Go.Ab.D
open Go Go.Ab
abbrev Rep:=(Int×Int)×Bool×Int×Byt×List Ent×Bool×Int
abbrev DoR:=Int×Mod×Rep
def rep0:Rep:=((0,0),false,0,[],[],false,0)
def stO(q:DoR)(c:CallT):Int×(List Ino×(Int×(List Byt×(Int×(Int×(Int×(Int×(Int×(Byt×(Int×(Int×(Byt×(Int×(Int×(Byt×(Int×(Int×(Int×(Int×(Int×(Bool×(Int×(Bool×Int))))))))))))))))))))))):=(q.1,(q.2.1.1.1,(q.2.1.1.2,(q.2.1.2,(c.1,(c.2.1,(((c.2.2.1.toNat:Nat):Int),(c.2.2.2.1.1,(c.2.2.2.1.2,(c.2.2.2.2.1,(c.2.2.2.2.2.1.1,(c.2.2.2.2.2.1.2,(c.2.2.2.2.2.2.1,(c.2.2.2.2.2.2.2.1,(c.2.2.2.2.2.2.2.2.1,(c.2.2.2.2.2.2.2.2.2,(c.1,(c.2.1,(0,(q.2.2.1.1,(q.2.2.1.2,(q.2.2.2.1,(q.2.2.2.2.1,(q.2.2.2.2.2.2.2.1,q.2.2.2.2.2.2.2.2))))))))))))))))))))))))
def stB(q:DoR)(c:CallT):Int×(List Ino×(Int×(List Byt×(Int×(Int×(Int×(Int×(Int×(Byt×(Int×(Int×(Byt×(Int×(Int×(Byt×(Int×(Int×(Int×(Int×(Int×(Bool×(Int×(Byt×(Bool×Int)))))))))))))))))))))))):=(q.1,(q.2.1.1.1,(q.2.1.1.2,(q.2.1.2,(c.1,(c.2.1,(((c.2.2.1.toNat:Nat):Int),(c.2.2.2.1.1,(c.2.2.2.1.2,(c.2.2.2.2.1,(c.2.2.2.2.2.1.1,(c.2.2.2.2.2.1.2,(c.2.2.2.2.2.2.1,(c.2.2.2.2.2.2.2.1,(c.2.2.2.2.2.2.2.2.1,(c.2.2.2.2.2.2.2.2.2,(c.1,(c.2.1,(0,(q.2.2.1.1,(q.2.2.1.2,(q.2.2.2.1,(q.2.2.2.2.1,(q.2.2.2.2.2.1,(q.2.2.2.2.2.2.2.1,q.2.2.2.2.2.2.2.2)))))))))))))))))))))))))
def lookF(t:Tree)(d:Int×Int)(s:Byt):Int×(Int×Int):=
 if dirE t.1 d=0 then
  if namedB s=true then
   match t.1[(d.1-1).toNat]? with
   |none=>(170,(0,0))
   |some n=>match findE n.2.2.2.2.2.2.2 s with
    |none=>(171,(0,0))
    |some id=>match t.1[(id-1).toNat]? with
     |none=>(170,(0,0))
     |some x=>(0,(id,x.2.1))
  else(176,(0,0))
 else(dirE t.1 d,(0,0))
def getF(l:List Ino)(h:Int×Int):Option Ino:=
 if 1<=h.1 then match l[(h.1-1).toNat]? with
  |some n=>if n.2.2.1=true/\n.2.1=h.2 then some n else none
  |none=>none
 else none
theorem fhZ{l:List Ino}{h:Int×Int}{n:Ino}:getF l h=some n↔IsH l h n:=by
 unfold getF IsH;by_cases h1:1<=h.1
 ·rw[ZAT h1];cases hx:l[(h.1-1).toNat]? with
  |none=>simp
  |some x=>
   simp only;by_cases hc:x.2.2.1=true/\x.2.1=h.2
   ·rw[ZAT hc];constructor
    ·rintro⟨⟩;exact⟨h1,rfl,hc.1,hc.2⟩
    ·rintro⟨_,⟨⟩,_,_⟩;rfl
   ·rw[ZAQ hc];constructor
    ·intro h;cases h
    ·rintro⟨_,⟨⟩,h2,h3⟩;exact absurd ⟨h2,h3⟩ hc
 ·rw[ZAQ h1];constructor
  ·intro h;cases h
  ·rintro⟨h2,_⟩;exact absurd h2 h1
theorem nAZ{l:List Ino}{h:Int×Int}(hn:getF l h=none):¬∃n,IsH l h n:=fun⟨n,h1⟩=>by rw[fhZ.2 h1] at hn;cases hn
theorem nYZ{t:Tree}(ht:TreeOK t){h:Int×Int}{n:Ino}(hn:IsH t.1 h n):n.1=h.1/\1<=h.1/\(h.1-1).toNat<t.1.length:=by
 have h1:=ht.r.id hn.2.1;have h2:=hn.1;exact⟨by omega,h2,(ZAC.1 hn.2.1).1⟩
def listF(t:Tree)(d:Int×Int)(s:Byt)(most:Int):Int×Bool×List Ent:=
 if dirE t.1 d=0 then
  if most<0\/most>4096 then(2,false,[])
  else match t.1[(d.1-1).toNat]? with
   |none=>(170,false,[])
   |some n=>(0,decide ((behind n.2.2.2.2.2.2.2 s).length>most.toNat),(behind n.2.2.2.2.2.2.2 s).take most.toNat)
 else(dirE t.1 d,false,[])
def lookA(m:Mod)(c:CallT):DoR:=
 if(lookF m.1 c.2.2.2.1 c.2.2.2.2.1).1=0 then match m.1.1[((lookF m.1 c.2.2.2.1 c.2.2.2.2.1).2.1-1).toNat]? with
  |some x=>(0,m,((lookF m.1 c.2.2.2.1 c.2.2.2.2.1).2,x.2.2.2.1,x.2.2.2.2.1,[],[],false,0))
  |none=>(170,m,rep0)
 else((lookF m.1 c.2.2.2.1 c.2.2.2.2.1).1,m,rep0)
def makeA(m:Mod)(c:CallT):DoR:=
 if(makeF m.1 c.2.2.2.1 c.2.2.2.2.1 (((c.2.2.1.toNat:Nat):Int)==3)).2.2=0 then
  (0,((makeF m.1 c.2.2.2.1 c.2.2.2.2.1 (((c.2.2.1.toNat:Nat):Int)==3)).1,m.2),((makeF m.1 c.2.2.2.1 c.2.2.2.2.1 (((c.2.2.1.toNat:Nat):Int)==3)).2.1,(((c.2.2.1.toNat:Nat):Int)==3),0,[],[],false,0))
 else((makeF m.1 c.2.2.2.1 c.2.2.2.2.1 (((c.2.2.1.toNat:Nat):Int)==3)).2.2,m,rep0)
def removeA(m:Mod)(c:CallT):DoR:=
 if(removeF m.1 c.2.2.2.1 c.2.2.2.2.1 (((c.2.2.1.toNat:Nat):Int)==8)).2.2=0 then
  (0,((removeF m.1 c.2.2.2.1 c.2.2.2.2.1 (((c.2.2.1.toNat:Nat):Int)==8)).1,m.2),rep0)
 else((removeF m.1 c.2.2.2.1 c.2.2.2.2.1 (((c.2.2.1.toNat:Nat):Int)==8)).2.2,m,rep0)
def renameA(m:Mod)(c:CallT):DoR:=
 if(renameF m.1 c.2.2.2.1 c.2.2.2.2.1 c.2.2.2.2.2.1 c.2.2.2.2.2.2.1).2.2=0 then
  (0,((renameF m.1 c.2.2.2.1 c.2.2.2.2.1 c.2.2.2.2.2.1 c.2.2.2.2.2.2.1).1,m.2),rep0)
 else((renameF m.1 c.2.2.2.1 c.2.2.2.2.1 c.2.2.2.2.2.1 c.2.2.2.2.2.2.1).2.2,m,rep0)
def listA(m:Mod)(c:CallT):DoR:=
 ((listF m.1 c.2.2.2.1 c.2.2.2.2.1 c.2.2.2.2.2.2.2.2.1).1,m,((0,0),false,0,[],(listF m.1 c.2.2.2.1 c.2.2.2.2.1 c.2.2.2.2.2.2.2.2.1).2.2,(listF m.1 c.2.2.2.1 c.2.2.2.2.1 c.2.2.2.2.2.2.2.2.1).2.1,0))
def getA(m:Mod)(c:CallT):DoR:=
 match getF m.1.1 c.2.2.2.1 with
 |some x=>(0,m,(c.2.2.2.1,x.2.2.2.1,x.2.2.2.2.1,[],[],false,0))
 |none=>(170,m,rep0)
def usedN(l:List Ino):Nat:=l.countP (·.2.2.1)
def statA(m:Mod):DoR:=(0,m,((0,0),false,0,[],[],false,500-((usedN m.1.1:Nat):Int)))
theorem ryZ{m:Mod}(h:ModelOK m)(c:CallT):mdoemak fuel m.1.1 m.1.2 m.2 c.1 c.2.1 ((c.2.2.1.toNat:Nat):Int) c.2.2.2.1.1 c.2.2.2.1.2 c.2.2.2.2.1 c.2.2.2.2.2.1.1 c.2.2.2.2.2.1.2 c.2.2.2.2.2.2.1 c.2.2.2.2.2.2.2.1 c.2.2.2.2.2.2.2.2.1 c.2.2.2.2.2.2.2.2.2 c.1 c.2.1 0 0 0 false 0 false 0=some (stO (makeA m c) c):=by
 unfold mdoemak makeA;rw[show((m.1.1,m.1.2):Tree)=m.1 from rfl,show((c.2.2.2.1.1,c.2.2.2.1.2):Int×Int)=c.2.2.2.1 from rfl,(nZZ h.t c.2.2.2.1 c.2.2.2.2.1 _).1,ZAA];simp only;by_cases h0:(makeF m.1 c.2.2.2.1 c.2.2.2.2.1 (((c.2.2.1.toNat:Nat):Int)==3)).2.2=0
 ·rw[ZAT h0,h0];rfl
 ·rw[ZAQ h0,ZA5.2 h0];rfl
end Go.Ab.D
namespace Go.Ab.D
open Go Go.Ab
def fileF(m:Mod)(h:Int×Int):Int×Byt×Int:=
 match getF m.1.1 h with
 |none=>(0,[],170)
 |some x=>bif x.2.2.2.1 then(0,[],174) else match m.2[(h.1-1).toNat]? with
  |some b=>(h.1,b,0)
  |none=>(0,[],170)
abbrev stF(q:Int×Byt×Int)(m:Mod)(c:CallT):Int×(Byt×(Int×(List Ino×(Int×(List Byt×(Int×(Int×(Int×(Int×(Int×(Byt×(Int×(Int×(Byt×(Int×(Int×(Byt×(Int×(Int×(Int×(Int×(Int×(Bool×(Int×(Bool×Int))))))))))))))))))))))))):=(q.1,(q.2.1,(q.2.2,(m.1.1,(m.1.2,(m.2,(c.1,(c.2.1,(((c.2.2.1.toNat:Nat):Int),(c.2.2.2.1.1,(c.2.2.2.1.2,(c.2.2.2.2.1,(c.2.2.2.2.2.1.1,(c.2.2.2.2.2.1.2,(c.2.2.2.2.2.2.1,(c.2.2.2.2.2.2.2.1,(c.2.2.2.2.2.2.2.2.1,(c.2.2.2.2.2.2.2.2.2,(c.1,(c.2.1,(0,(0,(0,(false,(0,(false,0))))))))))))))))))))))))))
def IsF(m:Mod)(h:Int×Int)(x:Ino)(b:Byt):Prop:=IsH m.1.1 h x/\x.2.2.2.1=false/\m.2[(h.1-1).toNat]? =some b
theorem duZ{m:Mod}{h:Int×Int}(h0:(fileF m h).2.2=0):∃x,IsF m h x (fileF m h).2.1/\(fileF m h).1=h.1:=by
 unfold fileF at h0⊢;cases hg:getF m.1.1 h with
 |none=>rw[hg] at h0;cases h0
 |some x=>
  rw[hg] at h0;simp only at h0⊢;cases hd:x.2.2.2.1 with
  |true=>rw[hd] at h0;cases h0
  |false=>
   rw[hd] at h0;simp only[ZAE] at h0⊢;cases hb:m.2[(h.1-1).toNat]? with
   |none=>rw[hb] at h0;cases h0
   |some b=>exact⟨x,⟨fhZ.1 hg,hd,hb⟩,rfl⟩
theorem mcZ{m:Mod}(h:ModelOK m)(c:CallT):mdoefil fuel m.1.1 m.1.2 m.2 c.1 c.2.1 ((c.2.2.1.toNat:Nat):Int) c.2.2.2.1.1 c.2.2.2.1.2 c.2.2.2.2.1 c.2.2.2.2.2.1.1 c.2.2.2.2.2.1.2 c.2.2.2.2.2.2.1 c.2.2.2.2.2.2.2.1 c.2.2.2.2.2.2.2.2.1 c.2.2.2.2.2.2.2.2.2 c.1 c.2.1 0 0 0 false 0 false 0=some (stF (fileF m c.2.2.2.1) m c):=by
 unfold mdoefil fileF;rw[show((m.1.1,m.1.2):Tree)=m.1 from rfl,show((c.2.2.2.1.1,c.2.2.2.1.2):Int×Int)=c.2.2.2.1 from rfl];cases hg:getF m.1.1 c.2.2.2.1 with
 |none=>rw[jYZ h.fit (nAZ hg),ZAA];rfl
 |some x=>
  have hx:=fhZ.1 hg;obtain⟨q1,q2,q3⟩:=nYZ h.t hx;rw[hoZ h.fit hx,ZAA];simp only[ZAV,ZAP,ZAE];cases hd:x.2.2.2.1 with
  |true=>rfl
  |false=>
   simp only[ZAE];have hl:=h.len;obtain⟨b,hb,_⟩:=h.at hx.2.1;rw[q1,w64 (by omega),aWZ (by omega) (by rw[h.n];omega),ZAA,hb,ZAA]
def readL(b:Byt)(off n:Int):Byt:=(b.take (max (min off.toNat b.length) (min (off+n).toNat b.length))).drop (min off.toNat b.length)
def readA(m:Mod)(c:CallT):DoR:=
 if(fileF m c.2.2.2.1).2.2=0 then
  (0,m,((0,0),false,(((fileF m c.2.2.2.1).2.1.length:Nat):Int),readL (fileF m c.2.2.2.1).2.1 c.2.2.2.2.2.2.2.1 c.2.2.2.2.2.2.2.2.1,[],decide (c.2.2.2.2.2.2.2.1+c.2.2.2.2.2.2.2.2.1<(((fileF m c.2.2.2.1).2.1.length:Nat):Int)),0))
 else((fileF m c.2.2.2.1).2.2,m,rep0)
theorem rgZ{m:Mod}(h:ModelOK m)(c:CallT)(ho:0<=c.2.2.2.2.2.2.2.1/\c.2.2.2.2.2.2.2.1<=2147483648)(hn:0<=c.2.2.2.2.2.2.2.2.1/\c.2.2.2.2.2.2.2.2.1<=2147483648):
 mdoerea fuel m.1.1 m.1.2 m.2 c.1 c.2.1 ((c.2.2.1.toNat:Nat):Int) c.2.2.2.1.1 c.2.2.2.1.2 c.2.2.2.2.1 c.2.2.2.2.2.1.1 c.2.2.2.2.2.1.2 c.2.2.2.2.2.2.1 c.2.2.2.2.2.2.2.1 c.2.2.2.2.2.2.2.2.1 c.2.2.2.2.2.2.2.2.2 c.1 c.2.1 0 0 0 false 0 false 0=some (stB (readA m c) c):=by
 unfold mdoerea readA;rw[mcZ h c,ZAA];by_cases h0:(fileF m c.2.2.2.1).2.2=0
 ·rw[ZAT h0];obtain⟨x,hx,hid⟩:=duZ h0;have hbl:=h.byt hx.2.2;simp only[stF];rw[h0];simp only[ZAV,ZAP,ZAE];rw[w64 (by omega)];rw[show(if(((fileF m c.2.2.2.1).2.1.length:Nat):Int)<c.2.2.2.2.2.2.2.1+c.2.2.2.2.2.2.2.2.1 then(((fileF m c.2.2.2.1).2.1.length:Nat):Int) else c.2.2.2.2.2.2.2.1+c.2.2.2.2.2.2.2.2.1)=((min (c.2.2.2.2.2.2.2.1+c.2.2.2.2.2.2.2.2.1).toNat (fileF m c.2.2.2.1).2.1.length:Nat):Int) from by split<;>omega,
   show(if(((fileF m c.2.2.2.1).2.1.length:Nat):Int)<c.2.2.2.2.2.2.2.1 then(((fileF m c.2.2.2.1).2.1.length:Nat):Int) else c.2.2.2.2.2.2.2.1)=((min c.2.2.2.2.2.2.2.1.toNat (fileF m c.2.2.2.1).2.1.length:Nat):Int) from by split<;>omega]
  rw[show(if((min (c.2.2.2.2.2.2.2.1+c.2.2.2.2.2.2.2.2.1).toNat (fileF m c.2.2.2.1).2.1.length:Nat):Int)>((min c.2.2.2.2.2.2.2.1.toNat (fileF m c.2.2.2.1).2.1.length:Nat):Int) then((min (c.2.2.2.2.2.2.2.1+c.2.2.2.2.2.2.2.2.1).toNat (fileF m c.2.2.2.1).2.1.length:Nat):Int) else((min c.2.2.2.2.2.2.2.1.toNat (fileF m c.2.2.2.1).2.1.length:Nat):Int))=((max (min c.2.2.2.2.2.2.2.1.toNat (fileF m c.2.2.2.1).2.1.length) (min (c.2.2.2.2.2.2.2.1+c.2.2.2.2.2.2.2.2.1).toNat (fileF m c.2.2.2.1).2.1.length):Nat):Int) from by split<;>omega];rw[a8Z (by omega),ZAA,a8Z (by omega),ZAA,hJZ (by rw[ZAv,ZAS];omega),ZAA]
  rfl
 ·rw[ZAQ h0];simp only[stF,ZA5.2 h0,ZAy,ZAK]
  rfl
def sizedL(b:Byt)(n:Nat):Byt:=b.take n++List.replicate (n-b.length) 0
theorem aPZ(b:Byt)(n:Nat):(sizedL b n).length=n:=by unfold sizedL;simp;omega
theorem n2Z(b:Byt)(n:Nat):splice (List.replicate (α:=UInt8) n 0) 0 (List.take (List.replicate (α:=UInt8) n 0).length b)=sizedL b n:=by
 unfold splice sizedL;simp only[ZAx,List.take_zero,ZBA,ZAj,List.drop_replicate,ZAS];congr 2;omega
def setSize(l:List Ino)(h:Int×Int)(n:Int):List Ino:=
 match l[(h.1-1).toNat]? with
 |some x=>l.set (h.1-1).toNat (x.1,x.2.1,x.2.2.1,x.2.2.2.1,n,x.2.2.2.2.2)
 |none=>l
def putB(m:Mod)(h:Int×Int)(b:Byt):Mod:=((setSize m.1.1 h ((b.length:Nat):Int),m.1.2),m.2.set (h.1-1).toNat b)
def sizeA(m:Mod)(c:CallT):DoR:=
 if(fileF m c.2.2.2.1).2.2=0 then
  if c.2.2.2.2.2.2.2.2.1>65536 then(177,m,rep0)
  else(0,putB m c.2.2.2.1 (sizedL (fileF m c.2.2.2.1).2.1 c.2.2.2.2.2.2.2.2.1.toNat),(c.2.2.2.1,false,c.2.2.2.2.2.2.2.2.1,[],[],false,0))
 else((fileF m c.2.2.2.1).2.2,m,rep0)
theorem qRZ{m:Mod}(h:ModelOK m)(c:CallT)(hn:0<=c.2.2.2.2.2.2.2.2.1):
 mdoesiz fuel m.1.1 m.1.2 m.2 c.1 c.2.1 ((c.2.2.1.toNat:Nat):Int) c.2.2.2.1.1 c.2.2.2.1.2 c.2.2.2.2.1 c.2.2.2.2.2.1.1 c.2.2.2.2.2.1.2 c.2.2.2.2.2.2.1 c.2.2.2.2.2.2.2.1 c.2.2.2.2.2.2.2.2.1 c.2.2.2.2.2.2.2.2.2 c.1 c.2.1 0 0 0 false 0 false 0=some (stO (sizeA m c) c):=by
 unfold mdoesiz sizeA;rw[mcZ h c,ZAA];by_cases h0:(fileF m c.2.2.2.1).2.2=0
 ·rw[ZAT h0];obtain⟨x,hx,hid⟩:=duZ h0;have hbl:=h.byt hx.2.2;have hl:=h.len;obtain⟨q1,q2,q3⟩:=nYZ h.t hx.1;simp only[stF];rw[h0];simp only[ZAV,ZAP,ZAE];by_cases hb:c.2.2.2.2.2.2.2.2.1>65536
  ·rw[ZAT hb,ZAJ hb];rfl
  ·rw[ZAQ hb,ZAG hb];simp only[ZAE];unfold mdoesiz2;rw[hid,cOZ hn (by rw[avZ];omega),ZAA,cOZ hn (by omega),ZAA,adZ (by rw[ZAm,avZ];omega),w64 (by omega),aWZ (by omega) (by rw[h.n];omega),ZAA,hx.2.2,ZAA,
    iQZ (by rw[h.n];omega),ZAA,aWZ (by omega) (by rw[h.n];omega),ZAA,hx.2.2,ZAA,show((m.1.1,m.1.2):Tree)=m.1 from rfl,cKZ h.fit,ZAA]
   simp only;rw[aWZ (by omega) (by omega),ZAA,hx.1.2.1,ZAA,ZAA,n2Z];simp only[stO,putB,setSize,hx.1.2.1,aPZ];rw[show((c.2.2.2.2.2.2.2.2.1.toNat:Nat):Int)=c.2.2.2.2.2.2.2.2.1 by omega]
 ·rw[ZAQ h0];simp only[stF,ZA5.2 h0,ZAy,ZAK]
  rfl
def writeN(b:Byt)(off:Int)(bs:Byt):Nat:=max b.length (if bs.length=0 then 0 else off.toNat+bs.length)
def writeL(b:Byt)(off:Int)(bs:Byt):Byt:=splice (sizedL b (writeN b off bs)) (min off.toNat (writeN b off bs)) bs
def writeA(m:Mod)(c:CallT):DoR:=
 if(fileF m c.2.2.2.1).2.2=0 then
  if c.2.2.2.2.2.2.2.1+((c.2.2.2.2.2.2.2.2.2.length:Nat):Int)>65536 then(177,m,rep0)
  else(0,putB m c.2.2.2.1 (writeL (fileF m c.2.2.2.1).2.1 c.2.2.2.2.2.2.2.1 c.2.2.2.2.2.2.2.2.2),(c.2.2.2.1,false,((writeN (fileF m c.2.2.2.1).2.1 c.2.2.2.2.2.2.2.1 c.2.2.2.2.2.2.2.2.2:Nat):Int),[],[],false,0))
 else((fileF m c.2.2.2.1).2.2,m,rep0)
theorem baZ(b:Byt)(off:Int)(bs:Byt):(writeL b off bs).length=writeN b off bs:=by
 unfold writeL splice;rw[ZAY,ZAY,ZAS,ZAv,aPZ];unfold writeN;by_cases h:bs.length=0
 ·rw[ZAT h];omega
 ·rw[ZAQ h];omega
theorem gEZ(g:(Byt⊕Option (Nat×(Nat×Nat)))->Option Byt)(hg:∀b,g (.inl b)=some b)(y:Byt⊕Option (Nat×(Nat×Nat)))(v:Byt)(hy:g y=some v):∀(l:List Byt) (i:Nat),i<l.length->unrefL g ((l.map Sum.inl).set i y)=some (l.set i v)
 |[],i,h=>by simp at h
 |a::l,0,_=>by
  have e:unrefL g (l.map Sum.inl)=some l:=by
   induction l with
   |nil=>rfl
   |cons x l ih=>simp[unrefL,hg,ih]
  simp[unrefL,hy,e]
 |a::l,i+1,h=>by
  have:=gEZ g hg y v hy l i (by simpa using h);simp[unrefL,hg,this]
end Go.Ab.D
namespace Go.Ab.D
open Go Go.Ab
theorem lmZ(l:Byt)(k:Nat):splice l k []=l:=by unfold splice;simp
theorem pqZ(out bs:Byt)(q:Nat)(hq:q<=out.length)(hb:bs=[]\/q+bs.length<=out.length):
 ∃k,refPut (α:=UInt8) [(1,out)] (refSub (α:=UInt8) (.inr (some (0,(0,out.length)))) q (out.length-q)) bs=some ([(1,splice out q bs)],k):=by
 unfold refSub;by_cases h0:out.length-q=0
 ·have hbs:bs=[]:=by
   rcases hb with h|h
   ·exact h
   ·exact ZAR (by omega)
  subst hbs;rw[h0,lmZ];exact⟨0,rfl⟩
 ·rw[show Nat.beq (out.length-q) 0=false from afZ h0];simp only[bq_false];unfold refPut;simp only[ZAX,ZAA];rw[adZ (by simp[Nat.beq_refl];omega)];have:bs.take (out.length-q)=bs:=ZAu (by
   rcases hb with h|h
   ·simp[h]
   ·omega)
  rw[this,ZAj];exact⟨_,rfl⟩
theorem o7Z(w:Byt)(n:Nat)(hn:n=w.length):unrefD [⟨3,.byte,List.map frz1 [(1,w)]⟩] (.ref 3 .byte) (.inr (some (0,(0,n))))=some w:=by
 subst hn;show memb [(2,w)] 0 0 w.length=some w;unfold memb;simp only[ZAX,ZAj,ZBr,ZBU];rw[aCZ (ZAM w.length)]
 rfl
theorem q1Z{m:Mod}(h:ModelOK m)(c:CallT)(ho:0<=c.2.2.2.2.2.2.2.1/\c.2.2.2.2.2.2.2.1<=2147483648)(hbs:c.2.2.2.2.2.2.2.2.2.length<=4096):
 mdoewri fuel m.1.1 m.1.2 m.2 c.1 c.2.1 ((c.2.2.1.toNat:Nat):Int) c.2.2.2.1.1 c.2.2.2.1.2 c.2.2.2.2.1 c.2.2.2.2.2.1.1 c.2.2.2.2.2.1.2 c.2.2.2.2.2.2.1 c.2.2.2.2.2.2.2.1 c.2.2.2.2.2.2.2.2.1 c.2.2.2.2.2.2.2.2.2 c.1 c.2.1 0 0 0 false 0 false 0=some (stO (writeA m c) c):=by
 unfold mdoewri writeA;rw[mcZ h c,ZAA];by_cases h0:(fileF m c.2.2.2.1).2.2=0
 ·rw[ZAT h0];obtain⟨x,hx,hid⟩:=duZ h0;have hbl:=h.byt hx.2.2;have hl:=h.len;obtain⟨q1,q2,q3⟩:=nYZ h.t hx.1;simp only[stF];rw[h0,hid];simp only[ZAV,ZAP,ZAE];have hx2:=hx.2.2;generalize (fileF m c.2.2.2.1).2.1=b at hbl hx2⊢;rw[w64 (by omega)];by_cases hb:c.2.2.2.2.2.2.2.1+((c.2.2.2.2.2.2.2.2.2.length:Nat):Int)>65536
  ·rw[ZAT hb,ZAJ hb];rfl
  ·rw[ZAQ hb,ZAG hb];simp only[ZAE];have hN:writeN b c.2.2.2.2.2.2.2.1 c.2.2.2.2.2.2.2.2.2<=65536:=by unfold writeN;split<;>omega
   have key:∀(e:Int),(if e>((b.length:Nat):Int) then e else((b.length:Nat):Int))=((writeN b c.2.2.2.2.2.2.2.1 c.2.2.2.2.2.2.2.2.2:Nat):Int)->
    ((mdoesizW fuel c.2.2.2.1.1 (if e>((b.length:Nat):Int) then e else((b.length:Nat):Int)) m.1.1 m.1.2 m.2 c.1 c.2.1 ((c.2.2.1.toNat:Nat):Int) c.2.2.2.1.1 c.2.2.2.1.2 c.2.2.2.2.1 c.2.2.2.2.2.1.1 c.2.2.2.2.2.1.2 c.2.2.2.2.2.2.1 c.2.2.2.2.2.2.2.1 c.2.2.2.2.2.2.2.2.1 c.2.2.2.2.2.2.2.2.2 c.1 c.2.1 0 0 0 false 0 false 0).bind fun r1=>
      (upto? (if(((refLen (s:=.byte) r1.1):Nat):Int)<r1.2.2.2.2.2.2.2.2.2.2.2.1 then(((refLen (s:=.byte) r1.1):Nat):Int) else r1.2.2.2.2.2.2.2.2.2.2.2.1) (refLen (s:=.byte) r1.1)).bind fun q=>
      (refPut (α:=UInt8) r1.2.2.2.2.2.2.2.2.2.2.2.2.2.2.2.2.2.2.2.2.2.2.2.2.2 (refSub (α:=UInt8) r1.1 q ((refLen (s:=.byte) r1.1)-q)) r1.2.2.2.2.2.2.2.2.2.2.2.2.2.1).bind fun m=>
      (unrefL (unrefD [⟨3,.byte,(List.map frz1 m.1)⟩] (.ref 3 .byte)) r1.2.2.2.2.2.2.2.2.2.2.2.2.2.2.2.2.2.2.2.2.2.2.2.2.1).bind fun l=>
      some ((0:Int),(r1.2.2.2.2.2.2.2.2.2.2.2.2.2.2.2.2.2.2.2.2.2.2.2.1,(r1.2.1,(l,(r1.2.2.1,(r1.2.2.2.1,(r1.2.2.2.2.1,(r1.2.2.2.2.2.1,(r1.2.2.2.2.2.2.1,(r1.2.2.2.2.2.2.2.1,(r1.2.2.2.2.2.2.2.2.1,(r1.2.2.2.2.2.2.2.2.2.1,(r1.2.2.2.2.2.2.2.2.2.2.1,(r1.2.2.2.2.2.2.2.2.2.2.2.1,(r1.2.2.2.2.2.2.2.2.2.2.2.2.1,(r1.2.2.2.2.2.2.2.2.2.2.2.2.2.1,(r1.2.2.2.2.2.2.2.2.2.2.2.2.2.2.1,(r1.2.2.2.2.2.2.2.2.2.2.2.2.2.2.2.1,(r1.2.2.2.2.2.2.2.2.2.2.2.2.2.2.2.2.1,(r1.2.2.2.2.2.2.2.2.2.2.2.2.2.2.2.2.2.1,(r1.2.2.2.2.2.2.2.2.2.2.2.2.2.2.2.2.2.2.1,(r1.2.2.2.2.2.2.2.2.2.2.2.2.2.2.2.2.2.2.2.1,(r1.2.2.2.2.2.2.2.2.2.2.2.2.2.2.2.2.2.2.2.2.1,(r1.2.2.2.2.2.2.2.2.2.2.2.2.2.2.2.2.2.2.2.2.2.1,r1.2.2.2.2.2.2.2.2.2.2.2.2.2.2.2.2.2.2.2.2.2.2.1)))))))))))))))))))))))))=
    some (stO (0,putB m c.2.2.2.1 (writeL b c.2.2.2.2.2.2.2.1 c.2.2.2.2.2.2.2.2.2),(c.2.2.2.1,false,((writeN b c.2.2.2.2.2.2.2.1 c.2.2.2.2.2.2.2.2.2:Nat):Int),[],[],false,0)) c):=by
    intro e he;rw[he];have hlen:(List.map (liftT (.ref 3 .byte)) m.2).length=m.1.1.length:=(show(List.map (liftT (.ref 3 .byte)) m.2).length=m.2.length from ZBB _).trans h.n;have hget:(List.map (liftT (.ref 3 .byte)) m.2)[(c.2.2.2.1.1-1).toNat]? =some (.inl b):=(show(List.map (liftT (.ref 3 .byte)) m.2)[(c.2.2.2.1.1-1).toNat]? =Option.map (liftT (.ref 3 .byte)) m.2[(c.2.2.2.1.1-1).toNat]? from ZAW).trans (congrArg (Option.map (liftT (.ref 3 .byte))) hx2);unfold mdoesizW;rw[a8Z (by rw[avZ];omega),ZAA,a8Z (ZAM _),ZAA,adZ (by rw[ZAm,avZ];omega),w64 (by omega),aWZ (by omega) (by rw[h.n];omega),ZAA,hx2,ZAA,
     iQZ (by rw[h.n];omega),ZAA,aWZ (by omega) (by rw[hlen];omega),ZAA,hget,ZAA,show((m.1.1,m.1.2):Tree)=m.1 from rfl,cKZ h.fit,ZAA]
    simp only;rw[aWZ (by omega) (by omega),ZAA,hx.1.2.1,ZAA,ZAA,n2Z,aPZ];simp only[ZBA];have hR:refLen (s:=.byte) (.inr (some (0,(0,writeN b c.2.2.2.2.2.2.2.1 c.2.2.2.2.2.2.2.2.2))))=writeN b c.2.2.2.2.2.2.2.1 c.2.2.2.2.2.2.2.2.2:=rfl;rw[hR,show(if((writeN b c.2.2.2.2.2.2.2.1 c.2.2.2.2.2.2.2.2.2:Nat):Int)<c.2.2.2.2.2.2.2.1 then((writeN b c.2.2.2.2.2.2.2.1 c.2.2.2.2.2.2.2.2.2:Nat):Int) else c.2.2.2.2.2.2.2.1)=((min c.2.2.2.2.2.2.2.1.toNat (writeN b c.2.2.2.2.2.2.2.1 c.2.2.2.2.2.2.2.2.2):Nat):Int) from by split<;>omega,
     a8Z (by omega),ZAA]
    obtain⟨k,hk⟩:=pqZ (sizedL b (writeN b c.2.2.2.2.2.2.2.1 c.2.2.2.2.2.2.2.2.2)) c.2.2.2.2.2.2.2.2.2 (min c.2.2.2.2.2.2.2.1.toNat (writeN b c.2.2.2.2.2.2.2.1 c.2.2.2.2.2.2.2.2.2)) (by rw[aPZ];omega) (by
     by_cases hz:c.2.2.2.2.2.2.2.2.2.length=0
     ·exact .inl (ZAR hz)
     ·right;rw[aPZ];unfold writeN;rw[ZAQ hz];omega)
    rw[aPZ] at hk;rw[hk,ZAA];have hu:=gEZ (unrefD [⟨3,.byte,List.map frz1 [(1,writeL b c.2.2.2.2.2.2.2.1 c.2.2.2.2.2.2.2.2.2)]⟩] (.ref 3 .byte)) (fun _=>rfl) (.inr (some (0,(0,writeN b c.2.2.2.2.2.2.2.1 c.2.2.2.2.2.2.2.2.2)))) _ (o7Z _ _ (baZ b _ _).symm) m.2 (c.2.2.2.1.1-1).toNat (by rw[h.n];omega);have hu':unrefL (unrefD [⟨3,.byte,List.map frz1 [(1,splice (sizedL b (writeN b c.2.2.2.2.2.2.2.1 c.2.2.2.2.2.2.2.2.2)) (min c.2.2.2.2.2.2.2.1.toNat (writeN b c.2.2.2.2.2.2.2.1 c.2.2.2.2.2.2.2.2.2)) c.2.2.2.2.2.2.2.2.2)]⟩] (.ref 3 .byte)) ((m.2.map Sum.inl).set (c.2.2.2.1.1-1).toNat (.inr (some (0,(0,writeN b c.2.2.2.2.2.2.2.1 c.2.2.2.2.2.2.2.2.2)))))=some (m.2.set (c.2.2.2.1.1-1).toNat (writeL b c.2.2.2.2.2.2.2.1 c.2.2.2.2.2.2.2.2.2)):=hu;refine(congrArg (fun o=>Option.bind o _) hu').trans ?_;have hset:putB m c.2.2.2.1 (writeL b c.2.2.2.2.2.2.2.1 c.2.2.2.2.2.2.2.2.2)=((m.1.1.set (c.2.2.2.1.1-1).toNat (x.1,x.2.1,x.2.2.1,x.2.2.2.1,((writeN b c.2.2.2.2.2.2.2.1 c.2.2.2.2.2.2.2.2.2:Nat):Int),x.2.2.2.2.2),m.1.2),m.2.set (c.2.2.2.1.1-1).toNat (writeL b c.2.2.2.2.2.2.2.1 c.2.2.2.2.2.2.2.2.2)):=by
     unfold putB setSize;rw[hx.1.2.1,baZ]
    rw[hset]
    rfl
   by_cases hz:c.2.2.2.2.2.2.2.2.2.length=0
   ·rw[show(((c.2.2.2.2.2.2.2.2.2.length:Nat):Int)==0)=true from by rw[hz];rfl];simp only[ZAK,ZAA];exact key 0 (by unfold writeN;rw[ZAT hz];split<;>omega)
   ·rw[show(((c.2.2.2.2.2.2.2.2.2.length:Nat):Int)==0)=false from ZA5.2 (by omega)];simp only[ZAE,ZAA];exact key _ (by unfold writeN;rw[ZAQ hz];split<;>omega)
 ·rw[ZAQ h0];simp only[stF,ZA5.2 h0,ZAy,ZAK]
  rfl
end Go.Ab.D
namespace Go.Ab.D
open Go Go.Ab
def madeD(l:List Ino)(d:List Byt):List Byt:=l.mapIdx fun i x=>bif x.2.2.1 then(d[i]?).getD [] else[]
theorem iBZ(l:List Ino)(d:List Byt):(madeD l d).length=l.length:=by unfold madeD;simp
theorem mOZ{l:List Ino}(d:List Byt){i:Nat}{x:Ino}(h:l[i]? =some x):(madeD l d)[i]? =some (bif x.2.2.1 then(d[i]?).getD [] else[]):=by
 unfold madeD;rw[List.getElem?_mapIdx,h]
 rfl
theorem d4Z{α:Type}{l:List α}{k:Nat}{x:α}(h:l[k]? =some x):l.take (k+1)=l.take k++[x]:=by rw[List.take_add_one,h];rfl
def madeS(l:List Ino)(s:Int)(d:List Byt)(x3:Int)(x4:Int)(x5:Int)(x6:Int)(x7:Int)(x8:Byt)(x9:Int)(x10:Int)(x11:Byt)(x12:Int)(x13:Int)(x14:Byt)(x15:Int)(x16:Int)(x17:Int)(x18:Int)(x19:Int)(x20:Bool)(x21:Int)(x22:Byt)(x23:List Ent)(x24:Bool)(x25:Int)(k:Nat):Int×(List Ino×(Int×(List Byt×(Int×(Int×(Int×(Int×(Int×(Byt×(Int×(Int×(Byt×(Int×(Int×(Byt×(Int×(Int×(Int×(Int×(Int×(Bool×(Int×(Byt×(List Ent×(Bool×(Int×(Int×(Int×(List Ino×(List Byt)))))))))))))))))))))))))))))):=((k:Int),(l,(s,(d,(x3,(x4,(x5,(x6,(x7,(x8,(x9,(x10,(x11,(x12,(x13,(x14,(x15,(x16,(x17,(x18,(x19,(x20,(x21,(x22,(x23,(x24,(x25,(0,(s,(l,(madeD l d).take k))))))))))))))))))))))))))))))
theorem rcZ(l:List Ino)(s:Int)(d:List Byt)(x3:Int)(x4:Int)(x5:Int)(x6:Int)(x7:Int)(x8:Byt)(x9:Int)(x10:Int)(x11:Byt)(x12:Int)(x13:Int)(x14:Byt)(x15:Int)(x16:Int)(x17:Int)(x18:Int)(x19:Int)(x20:Bool)(x21:Int)(x22:Byt)(x23:List Ent)(x24:Bool)(x25:Int)(hf:Fit l)(hl:l.length<=500)(hd:∀(i:Nat) b,d[i]? =some b->b.length<=65536):
 mdoemad fuel l s d x3 x4 x5 x6 x7 x8 x9 x10 x11 x12 x13 x14 x15 x16 x17 x18 x19 x20 x21 x22 x23 x24 x25=some (s,(l,(s,(d,(x3,(x4,(x5,(x6,(x7,(x8,(x9,(x10,(x11,(x12,(x13,(x14,(x15,(x16,(x17,(x18,(x19,(x20,(x21,(x22,(x23,(x24,(x25,(l,madeD l d)))))))))))))))))))))))))))):=by
 unfold mdoemad;rw[cKZ (t:=(l,s)) hf,ZAA];have loop:mdoemad_l0_it fuel (s,l) (madeS l s d x3 x4 x5 x6 x7 x8 x9 x10 x11 x12 x13 x14 x15 x16 x17 x18 x19 x20 x21 x22 x23 x24 x25 0)=some (l,(s,(d,(x3,(x4,(x5,(x6,(x7,(x8,(x9,(x10,(x11,(x12,(x13,(x14,(x15,(x16,(x17,(x18,(x19,(x20,(x21,(x22,(x23,(x24,(x25,(0,(s,(l,madeD l d))))))))))))))))))))))))))))):=by
  unfold mdoemad_l0_it;refine a4Z (madeS l s d x3 x4 x5 x6 x7 x8 x9 x10 x11 x12 x13 x14 x15 x16 x17 x18 x19 x20 x21 x22 x23 x24 x25) l.length (by omega) (fun k hk=> ?_) ?_
  ·simp only[madeS];unfold mdoemad_l0;obtain⟨x,hx⟩:∃x,l[k]? =some x:=⟨_,ZAD hk⟩;have hm:=mOZ d hx;have hlen:((madeD l d).take k).length<=500:=by rw[ZAS,iBZ];omega
   simp only[aYZ hk,ZAK];rw[anZ hk,ZAA,hx,ZAA,d4Z hm];by_cases hkd:k<d.length
   ·obtain⟨b,hb⟩:∃b,d[k]? =some b:=⟨_,ZAD hkd⟩;have hbl:=hd k b hb;rw[aYZ hkd,hb];simp only[ZAK,ZAA];cases hu:x.2.2.1 with
    |true=>
     simp only[ZAK];rw[anZ hkd,ZAA,hb,ZAA,hJZ (by omega),ZAA,ZAA];simp only;rw[adZ (by simp only[ZAB,ZAm,avZ];omega),w64 (by omega)]
     rfl
    |false=>
     simp only[ZAE,ZAA];rw[adZ (by simp only[ZAB,ZAm,avZ];omega),w64 (by omega)]
     rfl
   ·rw[aHZ hkd,ZAt (show d.length<=k by omega)];simp only[ZAE,ZAA];rw[adZ (by simp only[ZAB,ZAm,avZ];omega),w64 (by omega)];cases hu:x.2.2.1<;>rfl
  ·simp only[madeS];unfold mdoemad_l0;simp only[aHZ (ZBL _),ZAE];rw[ZAu (by rw[iBZ];exact ZAM _)]
 refine(congrArg (fun o=>Option.bind o _) loop).trans ?_
 rfl
def doS(y1:Int)(y2:Int)(y3:Int)(y4:Int)(y5:Int)(y6:Byt)(y7:Int)(y8:Int)(y9:Byt)(y10:Int)(y11:Int)(y12:Byt)(y13:Int)(y14:Int)(y15:Int)(y16:Int)(y17:Int)(y18:Int)(y19:Bool)(y20:Int)(y21:Bool)(y22:Int)(st:Int)(l:List Ino)(d:List Byt)(k:Nat):Int×(Int×(Int×(Int×(Int×(Int×(Byt×(Int×(Int×(Byt×(Int×(Int×(Byt×(Int×(Int×(Int×(Int×(Int×(Int×(Bool×(Int×(Bool×(Int×(Int×(List Ino×(List Byt))))))))))))))))))))))))):=((k:Int),(y1,(y2,(y3,(y4,(y5,(y6,(y7,(y8,(y9,(y10,(y11,(y12,(y13,(y14,(y15,(y16,(y17,(y18,(y19,(y20,(y21,(y22,(st,(l,d.take k)))))))))))))))))))))))))
theorem r8Z(o1:Int×(List Ino×(Int×(List Byt×(Int×(Int×(Int×(Int×(Int×(Byt×(Int×(Int×(Byt×(Int×(Int×(Byt×(Int×(Int×(Int×(Int×(Int×(Int×(Bool×(Int×(Bool×(Int×(List Ino×(Int×(List Byt×(Int×(Int×(Int×(Int×(Int×(Byt×(Int×(Int×(Byt×(Int×(Int×(Byt×(Int×(Int×(Int×(Int×(Int×(Bool×(Int×(Byt×(List Ent×(Bool×Int)))))))))))))))))))))))))))))))))))))))))))))))))))(y1:Int)(y2:Int)(y3:Int)(y4:Int)(y5:Int)(y6:Byt)(y7:Int)(y8:Int)(y9:Byt)(y10:Int)(y11:Int)(y12:Byt)(y13:Int)(y14:Int)(y15:Int)(y16:Int)(y17:Int)(y18:Int)(y19:Bool)(y20:Int)(y21:Bool)(y22:Int)(st:Int)(l:List Ino)(d:List Byt)(ho:o1.2.2.2.1=d)(hl:d.length<=501)(hd:∀(i:Nat) b,d[i]? =some b->b.length<=65536):
 model_Do_l0_it fuel o1 (doS y1 y2 y3 y4 y5 y6 y7 y8 y9 y10 y11 y12 y13 y14 y15 y16 y17 y18 y19 y20 y21 y22 st l d 0)=some (y1,(y2,(y3,(y4,(y5,(y6,(y7,(y8,(y9,(y10,(y11,(y12,(y13,(y14,(y15,(y16,(y17,(y18,(y19,(y20,(y21,(y22,(st,(l,d)))))))))))))))))))))))):=by
 subst ho;unfold model_Do_l0_it;refine a4Z (doS y1 y2 y3 y4 y5 y6 y7 y8 y9 y10 y11 y12 y13 y14 y15 y16 y17 y18 y19 y20 y21 y22 st l o1.2.2.2.1) o1.2.2.2.1.length (by omega) (fun k hk=> ?_) ?_
 ·simp only[doS];unfold model_Do_l0;obtain⟨b,hb⟩:∃b,o1.2.2.2.1[k]? =some b:=⟨_,ZAD hk⟩;have hbl:=hd k b hb;have hlen:(o1.2.2.2.1.take k).length<=501:=by rw[ZAS];omega
  simp only[aYZ hk,ZAK];rw[anZ hk,ZAA,hb,ZAA,hJZ (by omega),ZAA,adZ (by simp only[ZAB,ZAm,avZ];omega),w64 (by omega),d4Z hb]
  rfl
 ·simp only[doS];unfold model_Do_l0;simp only[aHZ (ZBL _),ZAE];rw[ZBU]
theorem raZ(o1:Int×(List Ino×(Int×(List Byt×(Int×(Int×(Int×(Int×(Int×(Byt×(Int×(Int×(Byt×(Int×(Int×(Byt×(Int×(Int×(Int×(Int×(Int×(Int×(Bool×(Int×(Bool×(Int×(List Ino×(Int×(List Byt×(Int×(Int×(Int×(Int×(Int×(Byt×(Int×(Int×(Byt×(Int×(Int×(Byt×(Int×(Int×(Int×(Int×(Int×(Bool×(Int×(Byt×(List Ent×(Bool×Int)))))))))))))))))))))))))))))))))))))))))))))))))))(y1:Int)(y2:Int)(y3:Int)(y4:Int)(y5:Int)(y6:Byt)(y7:Int)(y8:Int)(y9:Byt)(y10:Int)(y11:Int)(y12:Byt)(y13:Int)(y14:Int)(y15:Int)(y16:Int)(y17:Int)(y18:Int)(y19:Bool)(y20:Int)(y21:Bool)(y22:Int)(st:Int)(l:List Ino)(d:List Byt)(ho:o1.2.2.2.1=d)(hl:d.length<=501)(hd:∀(i:Nat) b,d[i]? =some b->b.length<=65536):
 model_Do_l0_it fuel o1 (0,(y1,(y2,(y3,(y4,(y5,(y6,(y7,(y8,(y9,(y10,(y11,(y12,(y13,(y14,(y15,(y16,(y17,(y18,(y19,(y20,(y21,(y22,(st,(l,[])))))))))))))))))))))))))=some (y1,(y2,(y3,(y4,(y5,(y6,(y7,(y8,(y9,(y10,(y11,(y12,(y13,(y14,(y15,(y16,(y17,(y18,(y19,(y20,(y21,(y22,(st,(l,d)))))))))))))))))))))))):=r8Z o1 y1 y2 y3 y4 y5 y6 y7 y8 y9 y10 y11 y12 y13 y14 y15 y16 y17 y18 y19 y20 y21 y22 st l d ho hl hd
end Go.Ab.D
namespace Go.Ab.D
open Go Go.Ab
def Kept(l:List Ino)(d:List Byt):Prop:=∀(i:Nat) x,l[i]? =some x->x.2.2.1=true->x.2.2.2.2.2.1=[]/\((((d[i]?).getD []).length:Nat):Int)=x.2.2.2.2.1
theorem ModelOK.kept{m:Mod}(h:ModelOK m):Kept m.1.1 m.2:=fun i x hx _=>by
 obtain⟨b,hb,hs,_⟩:=h.at hx;rw[hb];exact⟨h.p i x hx,hs⟩
theorem mCZ{l:List Ino}{d:List Byt}(k:Kept l d)(i:Nat)(f:Ino->Ino)(hf:∀n,(f n).2.2.1=true->n.2.2.1=true/\(f n).2.2.2.2.2.1=n.2.2.2.2.2.1/\(f n).2.2.2.2.1=n.2.2.2.2.1):Kept (modL l i f) d:=by
 intro j x hx hu;rw[jWZ] at hx;split at hx
 ·cases hn:l[j]? with
  |none=>rw[hn] at hx;cases hx
  |some n=>
   rw[hn] at hx;simp only[ZBk,ZAI] at hx;subst hx;obtain⟨q1,q2,q3⟩:=hf n hu;rw[q2,q3];exact k j n hn q1
 ·exact k j x hx hu
theorem npZ{l:List Ino}{d:List Byt}(k:Kept l d)(a:Int)(s:List UInt8)(id:Int):Kept (putL l a s id) d:=mCZ k _ _ fun _ h=>⟨h,rfl,rfl⟩
theorem kZZ{m:Mod}(h:ModelOK m){dir:Bool}{parent g:Int}{l':List Ino}{i:Nat}(ha:allocF m.1.1 dir parent=some (l',i,g)):Kept l' m.2:=by
 unfold allocF at ha;cases hf:freeAt m.1.1 with
 |none=>
  rw[hf] at ha;simp only at ha;split at ha
  ·simp only[ZAI,ZAs] at ha;obtain⟨rfl,rfl,rfl⟩:=ha;intro j x hx hu;by_cases hj:j<m.1.1.length
   ·rw[ZAL hj] at hx;exact h.kept j x hx hu
   ·rw[ZAO (by omega)] at hx;have hj0:j-m.1.1.length=0:=by
     cases hq:j-m.1.1.length with
     |zero=>rfl
     |succ q=>rw[hq] at hx;simp at hx
    rw[hj0] at hx;simp only[ZAX,ZAI] at hx;subst hx;rw[ZAt (by rw[h.n];omega)];exact⟨rfl,rfl⟩
  ·cases ha
 |some k=>
  rw[hf] at ha;simp only at ha;obtain⟨hk,hused,_⟩:=ZBl.1 hf;have hg:m.1.1[k]? =some m.1.1[k]:=ZAD hk;rw[hg] at ha;simp only at ha;split at ha
  ·simp only[ZAI,ZAs] at ha;obtain⟨rfl,rfl,rfl⟩:=ha;intro j x hx hu;by_cases hj:j=k
   ·subst hj;rw[ZAU hk] at hx;simp only[ZAI] at hx;subst hx;obtain⟨b,hb,hs,_⟩:=h.at hg;have hun:(m.1.1[j]).2.2.1=false:=by simpa using hused
    rw[((h.t.r.ino j _ hg).bare hun).2.1] at hs;rw[hb];exact⟨rfl,hs⟩
   ·rw[ZAg (fun e=>hj e.symm)] at hx;exact h.kept j x hx hu
  ·cases ha
theorem moZ{m:Mod}(h:ModelOK m)(d:Int×Int)(s:List UInt8)(is:Bool):Kept (makeF m.1 d s is).1.1 m.2:=by
 unfold makeF;have k:=h.kept;split
 ·split
  ·split
   ·exact k
   ·split
    ·exact k
    ·split
     ·exact k
     ·split
      ·exact k
      ·rename_i l' i g ha;exact npZ (kZZ h ha) _ _ _
  ·exact k
 ·exact k
def wS(x:Ino)(n:Int):Ino:=(x.1,x.2.1,x.2.2.1,x.2.2.2.1,n,x.2.2.2.2.2)
theorem kqZ{l:List Ino}{i:Nat}{x:Ino}(hx:l[i]? =some x)(n:Int){j:Nat}{y:Ino}(hy:l[j]? =some y):∃y',(l.set i (wS x n))[j]? =some y'/\y'=wS y y'.2.2.2.2.1:=by
 by_cases hj:j=i
 ·subst hj;rw[hx] at hy;cases hy;exact⟨_,ZAU (ZAC.1 hx).1,rfl⟩
 ·exact⟨y,by rw[ZAg (fun e=>hj e.symm)];exact hy,rfl⟩
theorem i0Z{l:List Ino}{i:Nat}{x:Ino}(hx:l[i]? =some x)(n:Int){j:Nat}{y':Ino}(hy:(l.set i (wS x n))[j]? =some y'):∃y,l[j]? =some y/\y'=wS y y'.2.2.2.2.1/\(j≠i->y'=y)/\(j=i->y=x/\y'=wS x n):=by
 by_cases hj:j=i
 ·subst hj;rw[ZAU (ZAC.1 hx).1] at hy;simp only[ZAI] at hy;subst hy;exact⟨x,hx,rfl,fun h=>absurd rfl h,fun _=>⟨rfl,rfl⟩⟩
 ·rw[ZAg (fun e=>hj e.symm)] at hy;exact⟨y',hy,rfl,fun _=>rfl,fun h=>absurd h hj⟩
theorem qPZ{l:List Ino}{i:Nat}{x:Ino}(hx:l[i]? =some x)(n:Int){id:Int}(h:Rch l id):Rch (l.set i (wS x n)) id:=by
 induction h with
 |root=>exact .root
 |step hy hu _ ih=>
  obtain⟨y',h1,h2⟩:=kqZ hx n hy;have hu':y'.2.2.1=true:=by rw[h2];exact hu
  have:=Rch.step h1 hu';rw[h2] at this;exact this ih
theorem lgZ{t:Tree}(h:TreeOK t){i:Nat}{x:Ino}(hx:t.1[i]? =some x)(hu:x.2.2.1=true)(hd:x.2.2.2.1=false){n:Int}(hn:0<=n/\n<=65536):TreeOK (t.1.set i (wS x n),t.2):=by
 have hlen:(t.1.set i (wS x n)).length=t.1.length:=ZA2;refine⟨⟨by rw[hlen];exact h.r.len,h.r.str,fun j y' hy=> ?_,?_,?_⟩,fun j y' hy s id he=> ?_,fun j y' hy hu' hj=> ?_,fun j y' hy hu'=> ?_⟩
 ·obtain⟨y,h1,h2,h3,h4⟩:=i0Z hx n hy;have o:=h.r.ino j y h1;show okIno (t.1.set i (wS x n)).length t.2 j y';rw[hlen];by_cases hj:j=i
  ·obtain⟨rfl,h5⟩:=h4 hj;have f:=o.file hu hd;subst h5;exact⟨o.id,o.gen,o.par,fun _ hq=>(by have hq:y.2.2.2.1=true:=hq;rw[hd] at hq;cases hq),fun _ _=>⟨hn,f.2.1,f.2.2.1,f.2.2.2⟩,fun hq=>(by have hq:y.2.2.1=false:=hq;rw[hu] at hq;cases hq)⟩
  ·rw[h3 hj];exact o
 ·have e:allStripes (t.1.set i (wS x n))=allStripes t.1:=by
   unfold allStripes;rw[show(t.1.set i (wS x n)).flatMap (fun n=>stripes n.2.2.2.2.2.1)=((t.1.set i (wS x n)).map fun n=>n.2.2.2.2.2.1).flatMap stripes from by rw[List.flatMap_map],
    show t.1.flatMap (fun n=>stripes n.2.2.2.2.2.1)=(t.1.map fun n=>n.2.2.2.2.2.1).flatMap stripes from by rw[List.flatMap_map],List.map_set]
   congr 1;exact e9Z (by rw[ZAW,hx];rfl)
  show(allStripes (t.1.set i (wS x n))).Nodup;rw[e];exact h.r.nod
 ·obtain⟨r,q1,q2,q3,q4⟩:=h.r.root;obtain⟨r',h1,h2⟩:=kqZ hx n q1;refine⟨r',h1,?_,?_,?_⟩<;>rw[h2]
  ·exact q2
  ·exact q3
  ·exact q4
 ·obtain⟨y,h1,h2,_⟩:=i0Z hx n hy;rw[h2] at he;obtain⟨q1,q2,z,q3,q4,q5⟩:=h.e j y h1 s id he;obtain⟨z',h3,h4⟩:=kqZ hx n q3;exact⟨q1,q2,z',h3,by rw[h4];exact q4,by rw[h4];exact q5⟩
 ·obtain⟨y,h1,h2,_⟩:=i0Z hx n hy;rw[h2] at hu';obtain⟨z,s,q1,q2,q3⟩:=h.u j y h1 hu' hj;obtain⟨z',h3,h4⟩:=kqZ hx n q1;refine⟨z',s,by rw[h2];exact h3,by rw[h4];exact q2,fun s' hs=> ?_⟩;rw[h4] at hs;exact q3 s' hs
 ·obtain⟨y,h1,h2,_⟩:=i0Z hx n hy;rw[h2] at hu';exact qPZ hx n (h.a j y h1 hu')
theorem nFZ{m:Mod}(h:ModelOK m){hd:Int×Int}{x:Ino}{b:Byt}(hx:IsF m hd x b){c:Byt}(hc:c.length<=65536):TreeOK (putB m hd c).1/\Kept (putB m hd c).1.1 (putB m hd c).2/\(putB m hd c).1.1.length=m.1.1.length/\(putB m hd c).2.length=m.2.length/\
 ∀(i:Nat) z,(putB m hd c).2[i]? =some z->z.length<=65536:=by
 obtain⟨⟨h1,hg,hu,hgen⟩,hdir,hb⟩:=hx;have e:putB m hd c=((m.1.1.set (hd.1-1).toNat (wS x ((c.length:Nat):Int)),m.1.2),m.2.set (hd.1-1).toNat c):=by
  unfold putB setSize;rw[hg]
  rfl
 rw[e];have hlt:=(ZAC.1 hg).1;refine⟨lgZ h.t hg hu hdir (by omega),fun j y' hy hu'=> ?_,ZA2,ZA2,fun i z hz=> ?_⟩
 ·obtain⟨y,q1,q2,q3,q4⟩:=i0Z hg _ hy;by_cases hj:j=(hd.1-1).toNat
  ·obtain⟨rfl,q5⟩:=q4 hj;subst q5 hj;show _/\(((((m.2.set (hd.1-1).toNat c)[(hd.1-1).toNat]?).getD []).length:Nat):Int)=_;rw[ZAU (by rw[h.n];exact hlt)];exact⟨h.p _ y q1,rfl⟩
  ·rw[q3 hj] at hu'⊢;show _/\(((((m.2.set (hd.1-1).toNat c)[j]?).getD []).length:Nat):Int)=_;rw[ZAg (fun e=>hj e.symm)];exact h.kept j y q1 hu'
 ·by_cases hi:i=(hd.1-1).toNat
  ·subst hi;have hz:(m.2.set (hd.1-1).toNat c)[(hd.1-1).toNat]? =some z:=hz;rw[ZAU (by rw[h.n];exact hlt)] at hz;cases hz;exact hc
  ·have hz:(m.2.set (hd.1-1).toNat c)[i]? =some z:=hz;rw[ZAg (fun e=>hi e.symm)] at hz;exact h.byt hz
end Go.Ab.D
namespace Go.Ab.D
open Go Go.Ab
def actF(m:Mod)(c:CallT):DoR:=if c.2.2.1=UInt8.ofNat 1 then lookA m c else if c.2.2.1=UInt8.ofNat 2 then makeA m c else if c.2.2.1=UInt8.ofNat 3 then makeA m c else if c.2.2.1=UInt8.ofNat 4 then readA m c else if c.2.2.1=UInt8.ofNat 5 then writeA m c else if c.2.2.1=UInt8.ofNat 6 then sizeA m c else if c.2.2.1=UInt8.ofNat 7 then removeA m c else if c.2.2.1=UInt8.ofNat 8 then removeA m c else if c.2.2.1=UInt8.ofNat 9 then renameA m c else if c.2.2.1=UInt8.ofNat 10 then listA m c else if c.2.2.1=UInt8.ofNat 11 then getA m c else if c.2.2.1=UInt8.ofNat 12 then statA m else(179,m,rep0)
structure Sane (q:DoR):Prop where
 t:TreeOK q.2.1.1
 k:Kept q.2.1.1.1 q.2.1.2
 n:q.2.1.2.length<=501
 b:∀(i:Nat) z,q.2.1.2[i]? =some z->z.length<=65536
theorem Sane.same{m:Mod}(h:ModelOK m){q:DoR}(e:q.2.1=m):Sane q:=by
 obtain⟨e1,m',r⟩:=q;have e:m'=m:=e;subst e;exact⟨h.t,h.kept,by have:=h.len;have:=h.n;show m'.2.length<=501;omega,fun i z hz=>h.byt hz⟩
section
variable {m : Mod} (h : ModelOK m) (c : CallT)
include h
theorem dlen:m.2.length<=501:=by have:=h.len;have:=h.n;omega
theorem nlZ:Sane (readA m c):=.same h (by unfold readA;split<;>rfl)
theorem lZZ:Sane (makeA m c):=by
 unfold makeA;split
 ·exact⟨(nZZ h.t _ _ _).2,moZ h _ _ _,dlen (m:=m) h,fun i z hz=>h.byt hz⟩
 ·exact .same h rfl
theorem maZ(hn:0<=c.2.2.2.2.2.2.2.2.1/\c.2.2.2.2.2.2.2.2.1<=2147483648):Sane (sizeA m c):=by
 unfold sizeA;split
 ·rename_i h0;obtain⟨x,hx,_⟩:=duZ h0;split
  ·exact .same h rfl
  ·obtain⟨q1,q2,q3,q4,q5⟩:=nFZ h hx (c:=sizedL (fileF m c.2.2.2.1).2.1 c.2.2.2.2.2.2.2.2.1.toNat) (by rw[aPZ];omega);exact⟨q1,q2,by have:=dlen h;show(putB m _ _).2.length<=501;omega,q5⟩
 ·exact .same h rfl
theorem lKZ(hbs:c.2.2.2.2.2.2.2.2.2.length<=4096):Sane (writeA m c):=by
 unfold writeA;split
 ·rename_i h0;obtain⟨x,hx,_⟩:=duZ h0;have hbl:=h.byt hx.2.2;split
  ·exact .same h rfl
  ·obtain⟨q1,q2,q3,q4,q5⟩:=nFZ h hx (c:=writeL (fileF m c.2.2.2.1).2.1 c.2.2.2.2.2.2.2.1 c.2.2.2.2.2.2.2.2.2) (by rw[baZ];unfold writeN;split<;>omega);exact⟨q1,q2,by have:=dlen h;show(putB m _ _).2.length<=501;omega,q5⟩
 ·exact .same h rfl
end
theorem nKZ(o:Nat):(shapeN o).2.2.2.2.1<=2147483648:=by unfold shapeN;(repeat' split)<;>decide
theorem dxZ{c:CallT}(hr:rightCall c=true):(0<=c.2.2.2.2.2.2.2.1/\c.2.2.2.2.2.2.2.1<=2147483648)/\(0<=c.2.2.2.2.2.2.2.2.1/\c.2.2.2.2.2.2.2.2.1<=2147483648)/\c.2.2.2.2.2.2.2.2.2.length<=4096:=by
 unfold rightCall rightS at hr;have hs:=nKZ c.2.2.1.toNat;simp only[ZAB,ZAp,ZAd] at hr;obtain⟨_,_,_,_,_,_,h1,_,h2,h3⟩:=hr;refine⟨h1,⟨h2.1,by omega⟩,?_⟩;rcases h3 with h3|h3
 ·omega
 ·exact h3.2
theorem mQZ(m:Mod)(c:CallT):(makeA m c).2.2.2.2.2.1=[]/\(makeA m c).2.2.2.2.2.2.1=[]:=by unfold makeA;(repeat' split)<;>exact⟨rfl,rfl⟩
theorem n1Z(m:Mod)(c:CallT):(sizeA m c).2.2.2.2.2.1=[]/\(sizeA m c).2.2.2.2.2.2.1=[]:=by unfold sizeA;(repeat' split)<;>exact⟨rfl,rfl⟩
theorem kfZ(m:Mod)(c:CallT):(writeA m c).2.2.2.2.2.1=[]/\(writeA m c).2.2.2.2.2.2.1=[]:=by unfold writeA;(repeat' split)<;>exact⟨rfl,rfl⟩
theorem q5Z(m:Mod)(c:CallT):(readA m c).2.2.2.2.2.2.1=[]:=by unfold readA;(repeat' split)<;>rfl
def resF(m:Mod)(c:CallT):Mod×Int×Rep:=
 if rightCall c=true then
  if(actF m c).1=0 then(((actF m c).2.1.1,madeD (actF m c).2.1.1.1 (actF m c).2.1.2),0,(actF m c).2.2)
  else(m,(actF m c).1,rep0)
 else(m,179,rep0)
def doT(r:Mod×Int×Rep)(c:CallT):Int×(Int×(Int×(Int×(Int×(Int×(Bool×(Int×(Byt×(List Ent×(Bool×(Int×(List Ino×List Byt)))))))))))):=(r.1.1.2,(c.1,(c.2.1,(r.2.1,(r.2.2.1.1,(r.2.2.1.2,(r.2.2.2.1,(r.2.2.2.2.1,(r.2.2.2.2.2.1,(r.2.2.2.2.2.2.1,(r.2.2.2.2.2.2.2.1,(r.2.2.2.2.2.2.2.2,(r.1.1.1,r.1.2)))))))))))))
end Go.Ab.D
set_option maxHeartbeats 4000000
set_option maxRecDepth 100000
namespace Go.Ab.D
open Go Go.Ab
theorem dyZ(u:UInt8):byte? ((u.toNat:Nat):Int)=some u:=by rw[oyZ u.toNat_lt];simp
def finF(m:Mod)(q:DoR):Mod×Int×Rep:=
 if q.1=0 then((q.2.1.1,madeD q.2.1.1.1 q.2.1.2),0,q.2.2) else(m,q.1,rep0)
theorem hxZ{m:Mod}{c:CallT}(hr:rightCall c=true):resF m c=finF m (actF m c):=by unfold resF finF;rw[ZAT hr]
def mkO(q:DoR)(by_:Byt)(en:List Ent)(m:Mod)(c:CallT):qT18:=(q.1,(m.1.1,(m.1.2,(m.2,(c.1,(c.2.1,(((c.2.2.1.toNat:Nat):Int),(c.2.2.2.1.1,(c.2.2.2.1.2,(c.2.2.2.2.1,(c.2.2.2.2.2.1.1,(c.2.2.2.2.2.1.2,(c.2.2.2.2.2.2.1,(c.2.2.2.2.2.2.2.1,(c.2.2.2.2.2.2.2.2.1,(c.2.2.2.2.2.2.2.2.2,(0,(0,(0,(0,(0,(0,(false,(0,(false,(0,(q.2.1.1.1,(q.2.1.1.2,(q.2.1.2,(c.1,(c.2.1,(((c.2.2.1.toNat:Nat):Int),(c.2.2.2.1.1,(c.2.2.2.1.2,(c.2.2.2.2.1,(c.2.2.2.2.2.1.1,(c.2.2.2.2.2.1.2,(c.2.2.2.2.2.2.1,(c.2.2.2.2.2.2.2.1,(c.2.2.2.2.2.2.2.2.1,(c.2.2.2.2.2.2.2.2.2,(c.1,(c.2.1,(0,(q.2.2.1.1,(q.2.2.1.2,(q.2.2.2.1,(q.2.2.2.2.1,(by_,(en,(q.2.2.2.2.2.2.2.1,q.2.2.2.2.2.2.2.2)))))))))))))))))))))))))))))))))))))))))))))))))))
noncomputable def doTail (o1 : qT18) : Option (Int × (Int × (Int × (Int × (Int × (Int × (Bool × (Int × (Byt × (List Ent × (Bool × (Int × (List Ino × List Byt))))))))))))) :=
 bif (!(o1.1==0)) then
  (mcop fuel (o1.2.1,o1.2.2.1)).bind fun r14=>
  (model_Do_l0_it fuel o1 (0,(o1.2.2.2.2.1,(o1.2.2.2.2.2.1,(o1.2.2.2.2.2.2.1,(o1.2.2.2.2.2.2.2.1,(o1.2.2.2.2.2.2.2.2.1,(o1.2.2.2.2.2.2.2.2.2.1,(o1.2.2.2.2.2.2.2.2.2.2.1,(o1.2.2.2.2.2.2.2.2.2.2.2.1,(o1.2.2.2.2.2.2.2.2.2.2.2.2.1,(o1.2.2.2.2.2.2.2.2.2.2.2.2.2.1,(o1.2.2.2.2.2.2.2.2.2.2.2.2.2.2.1,(o1.2.2.2.2.2.2.2.2.2.2.2.2.2.2.2.1,(o1.2.2.2.2.2.2.2.2.2.2.2.2.2.2.2.2.1,(o1.2.2.2.2.2.2.2.2.2.2.2.2.2.2.2.2.2.1,(o1.2.2.2.2.2.2.2.2.2.2.2.2.2.2.2.2.2.2.1,(o1.2.2.2.2.2.2.2.2.2.2.2.2.2.2.2.2.2.2.2.1,(o1.2.2.2.2.2.2.2.2.2.2.2.2.2.2.2.2.2.2.2.2.1,(o1.2.2.2.2.2.2.2.2.2.2.2.2.2.2.2.2.2.2.2.2.2.1,(o1.2.2.2.2.2.2.2.2.2.2.2.2.2.2.2.2.2.2.2.2.2.2.1,(o1.2.2.2.2.2.2.2.2.2.2.2.2.2.2.2.2.2.2.2.2.2.2.2.1,(o1.2.2.2.2.2.2.2.2.2.2.2.2.2.2.2.2.2.2.2.2.2.2.2.2.1,(o1.2.2.2.2.2.2.2.2.2.2.2.2.2.2.2.2.2.2.2.2.2.2.2.2.2.1,(r14.1,(r14.2,[])))))))))))))))))))))))))).bind fun o2=>
  some (o2.2.2.2.2.2.2.2.2.2.2.2.2.2.2.2.2.2.2.2.2.2.2.1,(o2.1,(o2.2.1,(o1.1,(0,(0,(false,(0,([],([],(false,(0,(o2.2.2.2.2.2.2.2.2.2.2.2.2.2.2.2.2.2.2.2.2.2.2.2.1,o2.2.2.2.2.2.2.2.2.2.2.2.2.2.2.2.2.2.2.2.2.2.2.2.2)))))))))))))
 else
  (mdoemad fuel o1.2.2.2.2.2.2.2.2.2.2.2.2.2.2.2.2.2.2.2.2.2.2.2.2.2.2.1 o1.2.2.2.2.2.2.2.2.2.2.2.2.2.2.2.2.2.2.2.2.2.2.2.2.2.2.2.1 o1.2.2.2.2.2.2.2.2.2.2.2.2.2.2.2.2.2.2.2.2.2.2.2.2.2.2.2.2.1 o1.2.2.2.2.2.2.2.2.2.2.2.2.2.2.2.2.2.2.2.2.2.2.2.2.2.2.2.2.2.1 o1.2.2.2.2.2.2.2.2.2.2.2.2.2.2.2.2.2.2.2.2.2.2.2.2.2.2.2.2.2.2.1 o1.2.2.2.2.2.2.2.2.2.2.2.2.2.2.2.2.2.2.2.2.2.2.2.2.2.2.2.2.2.2.2.1 o1.2.2.2.2.2.2.2.2.2.2.2.2.2.2.2.2.2.2.2.2.2.2.2.2.2.2.2.2.2.2.2.2.1 o1.2.2.2.2.2.2.2.2.2.2.2.2.2.2.2.2.2.2.2.2.2.2.2.2.2.2.2.2.2.2.2.2.2.1 o1.2.2.2.2.2.2.2.2.2.2.2.2.2.2.2.2.2.2.2.2.2.2.2.2.2.2.2.2.2.2.2.2.2.2.1 o1.2.2.2.2.2.2.2.2.2.2.2.2.2.2.2.2.2.2.2.2.2.2.2.2.2.2.2.2.2.2.2.2.2.2.2.1 o1.2.2.2.2.2.2.2.2.2.2.2.2.2.2.2.2.2.2.2.2.2.2.2.2.2.2.2.2.2.2.2.2.2.2.2.2.1 o1.2.2.2.2.2.2.2.2.2.2.2.2.2.2.2.2.2.2.2.2.2.2.2.2.2.2.2.2.2.2.2.2.2.2.2.2.2.1 o1.2.2.2.2.2.2.2.2.2.2.2.2.2.2.2.2.2.2.2.2.2.2.2.2.2.2.2.2.2.2.2.2.2.2.2.2.2.2.1 o1.2.2.2.2.2.2.2.2.2.2.2.2.2.2.2.2.2.2.2.2.2.2.2.2.2.2.2.2.2.2.2.2.2.2.2.2.2.2.2.1 o1.2.2.2.2.2.2.2.2.2.2.2.2.2.2.2.2.2.2.2.2.2.2.2.2.2.2.2.2.2.2.2.2.2.2.2.2.2.2.2.2.1 o1.2.2.2.2.2.2.2.2.2.2.2.2.2.2.2.2.2.2.2.2.2.2.2.2.2.2.2.2.2.2.2.2.2.2.2.2.2.2.2.2.2.1 o1.2.2.2.2.2.2.2.2.2.2.2.2.2.2.2.2.2.2.2.2.2.2.2.2.2.2.2.2.2.2.2.2.2.2.2.2.2.2.2.2.2.2.1 o1.2.2.2.2.2.2.2.2.2.2.2.2.2.2.2.2.2.2.2.2.2.2.2.2.2.2.2.2.2.2.2.2.2.2.2.2.2.2.2.2.2.2.2.1 o1.2.2.2.2.2.2.2.2.2.2.2.2.2.2.2.2.2.2.2.2.2.2.2.2.2.2.2.2.2.2.2.2.2.2.2.2.2.2.2.2.2.2.2.2.1 o1.2.2.2.2.2.2.2.2.2.2.2.2.2.2.2.2.2.2.2.2.2.2.2.2.2.2.2.2.2.2.2.2.2.2.2.2.2.2.2.2.2.2.2.2.2.1 o1.2.2.2.2.2.2.2.2.2.2.2.2.2.2.2.2.2.2.2.2.2.2.2.2.2.2.2.2.2.2.2.2.2.2.2.2.2.2.2.2.2.2.2.2.2.2.1 o1.2.2.2.2.2.2.2.2.2.2.2.2.2.2.2.2.2.2.2.2.2.2.2.2.2.2.2.2.2.2.2.2.2.2.2.2.2.2.2.2.2.2.2.2.2.2.2.1 o1.2.2.2.2.2.2.2.2.2.2.2.2.2.2.2.2.2.2.2.2.2.2.2.2.2.2.2.2.2.2.2.2.2.2.2.2.2.2.2.2.2.2.2.2.2.2.2.2.1 o1.2.2.2.2.2.2.2.2.2.2.2.2.2.2.2.2.2.2.2.2.2.2.2.2.2.2.2.2.2.2.2.2.2.2.2.2.2.2.2.2.2.2.2.2.2.2.2.2.2.1 o1.2.2.2.2.2.2.2.2.2.2.2.2.2.2.2.2.2.2.2.2.2.2.2.2.2.2.2.2.2.2.2.2.2.2.2.2.2.2.2.2.2.2.2.2.2.2.2.2.2.2.1 o1.2.2.2.2.2.2.2.2.2.2.2.2.2.2.2.2.2.2.2.2.2.2.2.2.2.2.2.2.2.2.2.2.2.2.2.2.2.2.2.2.2.2.2.2.2.2.2.2.2.2.2).bind fun r17=>
  some (r17.1,(o1.2.2.2.2.2.2.2.2.2.2.2.2.2.2.2.2.2.2.2.2.2.2.2.2.2.2.2.2.2.2.2.2.2.2.2.2.2.2.2.2.2.1,(o1.2.2.2.2.2.2.2.2.2.2.2.2.2.2.2.2.2.2.2.2.2.2.2.2.2.2.2.2.2.2.2.2.2.2.2.2.2.2.2.2.2.2.1,(o1.2.2.2.2.2.2.2.2.2.2.2.2.2.2.2.2.2.2.2.2.2.2.2.2.2.2.2.2.2.2.2.2.2.2.2.2.2.2.2.2.2.2.2.1,(o1.2.2.2.2.2.2.2.2.2.2.2.2.2.2.2.2.2.2.2.2.2.2.2.2.2.2.2.2.2.2.2.2.2.2.2.2.2.2.2.2.2.2.2.2.1,(o1.2.2.2.2.2.2.2.2.2.2.2.2.2.2.2.2.2.2.2.2.2.2.2.2.2.2.2.2.2.2.2.2.2.2.2.2.2.2.2.2.2.2.2.2.2.1,(o1.2.2.2.2.2.2.2.2.2.2.2.2.2.2.2.2.2.2.2.2.2.2.2.2.2.2.2.2.2.2.2.2.2.2.2.2.2.2.2.2.2.2.2.2.2.2.1,(o1.2.2.2.2.2.2.2.2.2.2.2.2.2.2.2.2.2.2.2.2.2.2.2.2.2.2.2.2.2.2.2.2.2.2.2.2.2.2.2.2.2.2.2.2.2.2.2.1,(o1.2.2.2.2.2.2.2.2.2.2.2.2.2.2.2.2.2.2.2.2.2.2.2.2.2.2.2.2.2.2.2.2.2.2.2.2.2.2.2.2.2.2.2.2.2.2.2.2.1,(o1.2.2.2.2.2.2.2.2.2.2.2.2.2.2.2.2.2.2.2.2.2.2.2.2.2.2.2.2.2.2.2.2.2.2.2.2.2.2.2.2.2.2.2.2.2.2.2.2.2.1,(o1.2.2.2.2.2.2.2.2.2.2.2.2.2.2.2.2.2.2.2.2.2.2.2.2.2.2.2.2.2.2.2.2.2.2.2.2.2.2.2.2.2.2.2.2.2.2.2.2.2.2.1,(o1.2.2.2.2.2.2.2.2.2.2.2.2.2.2.2.2.2.2.2.2.2.2.2.2.2.2.2.2.2.2.2.2.2.2.2.2.2.2.2.2.2.2.2.2.2.2.2.2.2.2.2,(r17.2.2.2.2.2.2.2.2.2.2.2.2.2.2.2.2.2.2.2.2.2.2.2.2.2.2.2.1,r17.2.2.2.2.2.2.2.2.2.2.2.2.2.2.2.2.2.2.2.2.2.2.2.2.2.2.2.2)))))))))))))
theorem hjZ{m:Mod}(h:ModelOK m)(c:CallT){q:DoR}(s:Sane q){by_:Byt}{en:List Ent}(n1:q.2.2.2.2.2.1=by_)(n2:q.2.2.2.2.2.2.1=en):doTail (mkO q by_ en m c)=some (doT (finF m q) c):=by
 have hl:=h.len;unfold finF doTail;by_cases h0:q.1=0
 ·rw[ZAT h0];simp only[mkO,h0,ZAV,ZAP,ZAE];rw[rcZ (hf:=s.t.r.fit) (hl:=s.t.r.len.2) (hd:=s.b),ZAA];simp only[doT,n1,n2]
 ·rw[ZAQ h0];simp only[mkO,ZA5.2 h0,ZAy,ZAK];rw[show((m.1.1,m.1.2):Tree)=m.1 from rfl,cKZ h.fit,ZAA,raZ _ _ _ _ _ _ _ _ _ _ _ _ _ _ _ _ _ _ _ _ _ _ _ _ _ m.2 rfl (dlen h) (fun i z hz=>h.byt hz),ZAA]
  rfl
end Go.Ab.D
set_option maxRecDepth 100000
namespace Go.Ab.D
open Go Go.Ab
abbrev EntT:Type:=List UInt8×Int
abbrev ReplyT:Type:=Int×(Int×(Int×((Int×Int)×(Bool×(Int×(List UInt8×(List EntT×(Bool×Int))))))))
def whoseB3(a b:Int):Bool:=decide (0<=a/\a<16/\1<=b/\b<=1099511627776)
theorem mPZ(a b:Int):cwho fuel a b=some (whoseB3 a b):=by
 unfold cwho whoseB3;by_cases h1:a>=0<;>by_cases h2:a<16<;>by_cases h3:b>=1<;>by_cases h4:b<=1099511627776<;>
  simp[h1,h2,h3,h4]<;>omega
def handleB3(h:Int×Int):Bool:=decide (1<=h.1/\h.1<=500/\1<=h.2/\h.2<=1099511627776)
theorem lkZ(h:Int×Int):hRig fuel h=some (handleB3 h):=by
 unfold hRig handleB3;by_cases h1:h.1>=1<;>by_cases h2:h.1<=500<;>by_cases h3:h.2>=1<;>by_cases h4:h.2<=1099511627776<;>
  simp[h1,h2,h3,h4]<;>omega
def entOk(e:EntT):Bool:=decide (1<=e.1.length/\e.1.length<=100/\1<=e.2/\e.2<=500)
def noneB(h:Int×Int):Bool:=(h.1==0)&&(h.2==0)
def rightReply(r:ReplyT):Bool:=
 whoseB3 r.1 r.2.1&&(decide (0<=r.2.2.1/\r.2.2.1<=1000)&&(if r.2.2.1≠0 then
  noneB r.2.2.2.1&&(!r.2.2.2.2.1&&(!r.2.2.2.2.2.2.2.2.1&&((r.2.2.2.2.2.1==0)&&((r.2.2.2.2.2.2.2.2.2==0)&&decide (r.2.2.2.2.2.2.1=[]/\r.2.2.2.2.2.2.2.1=[])))))
 else(noneB r.2.2.2.1||handleB3 r.2.2.2.1)&&(decide (0<=r.2.2.2.2.2.1/\r.2.2.2.2.2.1<=65536)&&(decide (0<=r.2.2.2.2.2.2.2.2.2/\r.2.2.2.2.2.2.2.2.2<=1099511627776)&&
  (r.2.2.2.2.2.2.2.1.all entOk&&(decide (r.2.2.2.2.2.2.1.length<=4096)&&decide (r.2.2.2.2.2.2.2.1.length<=100)))))))
theorem qeZ{b0:Bool}{x1 x2 x3 h1 h2:Int}{d:Bool}{sz:Int}{bs:List UInt8}{es:List EntT}{mo:Bool}{fr:Int}(hes:es.length<4611686018427387904):
 cRigRep_l0_it fuel (b0,(x1,(x2,(x3,(h1,(h2,(d,(sz,(bs,(es,(mo,fr))))))))))) (0,(x1,(x2,(x3,(h1,(h2,(d,(sz,(bs,(es,(mo,fr)))))))))))=some (if es.all entOk=true then .inl (x1,(x2,(x3,(h1,(h2,(d,(sz,(bs,(es,(mo,fr)))))))))) else .inr false):=by
 unfold cRigRep_l0_it;have:=aRZ (f:=fun tt:Int×(Int×(Int×(Int×(Int×(Int×(Bool×(Int×(List UInt8×(List EntT×(Bool×Int))))))))))=>cRigRep_l0 fuel (b0,(x1,(x2,(x3,(h1,(h2,(d,(sz,(bs,(es,(mo,fr))))))))))) tt.1 tt.2.1 tt.2.2.1 tt.2.2.2.1 tt.2.2.2.2.1 tt.2.2.2.2.2.1 tt.2.2.2.2.2.2.1 tt.2.2.2.2.2.2.2.1 tt.2.2.2.2.2.2.2.2.1 tt.2.2.2.2.2.2.2.2.2.1 tt.2.2.2.2.2.2.2.2.2.2.1 tt.2.2.2.2.2.2.2.2.2.2.2)
  (fun n s=>∃k:Nat,s=((k:Int),(x1,(x2,(x3,(h1,(h2,(d,(sz,(bs,(es,(mo,fr)))))))))))/\k+n=es.length/\(es.take k).all entOk=true)
  (fun o=>o=if es.all entOk=true then .inl (x1,(x2,(x3,(h1,(h2,(d,(sz,(bs,(es,(mo,fr)))))))))) else .inr false)
  (fun n s ⟨k,hs,hk,ha⟩=>by
   subst hs;have hk':k<es.length:=by omega
   show(∃s',cRigRep_l0 fuel _ (k:Int) x1 x2 x3 h1 h2 d sz bs es mo fr=_/\_)\/∃o,cRigRep_l0 fuel _ (k:Int) x1 x2 x3 h1 h2 d sz bs es mo fr=_/\_;unfold cRigRep_l0;simp only;rw[ZAJ (show(k:Int)<((es.length:Nat):Int) by omega),anZ hk',w64 (x:=(k:Int)+1) ⟨by omega,by omega⟩];simp only[ZAK,ZAA,ZAD hk'];have htk:(es.take (k+1)).all entOk=((es.take k).all entOk&&entOk es[k]):=by rw[List.take_succ_eq_append_getElem hk',List.all_append];simp
   have hbad:entOk es[k]=false->es.all entOk=false:=fun h=>by
    rw[List.all_eq_false];exact⟨es[k],ZBo hk',by rw[h];simp⟩
   generalize es[k]=en at htk hbad⊢;obtain⟨nm,id⟩:=en;by_cases g:entOk (nm,id)=true
   ·left;have g':=g;unfold entOk at g';simp only[ZAd] at g';rw[ZAG (show¬((nm.length:Nat):Int)<1 by omega),ZAG (show¬((nm.length:Nat):Int)>100 by omega),ZAG (show¬id<1 by omega),ZAG (show¬id>500 by omega)];exact⟨_,rfl,k+1,rfl,by omega,by rw[htk,ha,g];rfl⟩
   ·right;have g0:entOk (nm,id)=false:=by simpa using g
    rw[hbad g0];refine⟨_,?_,rfl⟩;have g':=g0;unfold entOk at g';simp only[ZA6] at g';by_cases q1:((nm.length:Nat):Int)<1
    ·rw[ZAJ q1];rfl
    ·by_cases q2:((nm.length:Nat):Int)>100
     ·rw[ZAG q1,ZAJ q2];rfl
     ·by_cases q3:id<1
      ·rw[ZAG q1,ZAG q2,ZAJ q3];rfl
      ·have q4:id>500:=by omega
       rw[ZAG q1,ZAG q2,ZAG q3,ZAJ q4];rfl)
  (fun s ⟨k,hs,hk,ha⟩=>by
   subst hs;have:k=es.length:=by omega
   subst this;rw[ZBU] at ha;rw[ha];refine⟨_,?_,rfl⟩;show cRigRep_l0 fuel _ ((es.length:Nat):Int) x1 x2 x3 h1 h2 d sz bs es mo fr=_;unfold cRigRep_l0;simp only;rw[ZAG (by omega)]
   rfl)
  es.length (0,(x1,(x2,(x3,(h1,(h2,(d,(sz,(bs,(es,(mo,fr))))))))))) hes ⟨0,rfl,by omega,by simp⟩
 obtain⟨o,e1,e2⟩:=this;rw[e1,e2]
theorem dMZ{r:ReplyT}(hb:r.2.2.2.2.2.2.1.length<1000000000000000000)(he:r.2.2.2.2.2.2.2.1.length<1000000000000000000):cRigRep fuel r=some (rightReply r):=by
 obtain⟨x1,x2,x3,⟨h1,h2⟩,d,sz,bs,es,mo,fr⟩:=r;simp only at hb he;unfold cRigRep rightReply;simp only;rw[mPZ];simp only[ZAA];cases whoseB3 x1 x2 with
 |false=>rfl
 |true=>
  simp only[ZAP,ZAE,ZA4];by_cases e1:x3<0
  ·rw[ZAJ e1,ZAG (show¬(0<=x3/\x3<=1000) by omega)];rfl
  by_cases e2:x3>1000
  ·rw[ZAG e1,ZAJ e2,ZAG (show¬(0<=x3/\x3<=1000) by omega)];rfl
  rw[ZAG e1,ZAG e2,ZAJ (show 0<=x3/\x3<=1000 by omega)];simp only[ZAE,ZAA,ZA4];by_cases e3:x3=0
  ·rw[ZAQ (by simpa using e3),ZBf.2 e3];simp only[ZAP,ZAE];have hn:((h1==0)&&(h2==0))=noneB (h1,h2):=rfl;rw[hn];have tail:∀b0:Bool,(bif b0 then some false else(cRigRep_l0_it fuel (b0,(x1,(x2,(x3,(h1,(h2,(d,(sz,(bs,(es,(mo,fr))))))))))) (0,(x1,(x2,(x3,(h1,(h2,(d,(sz,(bs,(es,(mo,fr)))))))))))).bind fun o4=>
    match o4 with
    |.inl s=>
     bif (decide (((s.2.2.2.2.2.2.2.1.length:Nat):Int)<=4096)) then
      some (decide (((s.2.2.2.2.2.2.2.2.1.length:Nat):Int)<=100))
     else
      some false
    |.inr o5=>
     some o5)=some (!b0&&(es.all entOk&&(decide (bs.length<=4096)&&decide (es.length<=100)))):=by
    intro b0;cases b0 with
    |true=>rfl
    |false=>
     simp only[ZAE,ZAy,ZA4];rw[qeZ (by omega)];simp only[ZAA];cases es.all entOk with
     |false=>rfl
     |true=>
      simp only[ZCH,ZA4];by_cases q1:bs.length<=4096
      ·rw[ZAJ q1,ZAJ (show((bs.length:Nat):Int)<=4096 by omega)];by_cases q2:es.length<=100
       ·rw[ZAJ q2,ZAJ (show((es.length:Nat):Int)<=100 by omega)];rfl
       ·rw[ZAG q2,ZAG (show¬((es.length:Nat):Int)<=100 by omega)];rfl
      ·rw[ZAG q1,ZAG (show¬((bs.length:Nat):Int)<=4096 by omega)];rfl
   have mid:∀z:Bool,(bif decide (sz<0) then some (true,(x1,(x2,(x3,(h1,(h2,(d,(sz,(bs,(es,(mo,fr))))))))))) else bif decide (sz>65536) then some (true,(x1,(x2,(x3,(h1,(h2,(d,(sz,(bs,(es,(mo,fr))))))))))) else bif decide (fr<0) then some (true,(x1,(x2,(x3,(h1,(h2,(d,(sz,(bs,(es,(mo,fr))))))))))) else some (decide (fr>1099511627776),(x1,(x2,(x3,(h1,(h2,(d,(sz,(bs,(es,(mo,fr))))))))))))=some (!(decide (0<=sz/\sz<=65536)&&decide (0<=fr/\fr<=1099511627776)),(x1,(x2,(x3,(h1,(h2,(d,(sz,(bs,(es,(mo,fr))))))))))):=by
    intro _;by_cases q1:sz<0
    ·rw[ZAJ q1,ZAG (show¬(0<=sz/\sz<=65536) by omega)];rfl
    by_cases q2:sz>65536
    ·rw[ZAG q1,ZAJ q2,ZAG (show¬(0<=sz/\sz<=65536) by omega)];rfl
    rw[ZAG q1,ZAG q2,ZAJ (show 0<=sz/\sz<=65536 by omega)];by_cases q3:fr<0
    ·rw[ZAJ q3,ZAG (show¬(0<=fr/\fr<=1099511627776) by omega)];rfl
    by_cases q4:fr>1099511627776
    ·rw[ZAG q3,ZAJ q4,ZAG (show¬(0<=fr/\fr<=1099511627776) by omega)];rfl
    rw[ZAG q3,ZAG q4,ZAJ (show 0<=fr/\fr<=1099511627776 by omega)];rfl
   cases hnone:noneB (h1,h2) with
   |true=>
    simp only[ZAP,ZAE,Bool.true_or,ZA4];rw[mid true];simp only[ZAA];refine(tail _).trans ?_;simp only[Bool.not_not,ZB9]
   |false=>
    simp only[ZAy,ZAK,Bool.false_or];rw[lkZ];simp only[ZAA];cases handleB3 (h1,h2) with
    |false=>rfl
    |true=>
     simp only[ZAP,ZAE,ZA4];rw[mid true];simp only[ZAA];refine(tail _).trans ?_;simp only[Bool.not_not,ZB9]
  ·rw[ZAT e3,ZA5.2 e3];simp only[ZAy,ZAK];have hn:((h1==0)&&(h2==0))=noneB (h1,h2):=rfl;rw[hn,w64 ⟨by omega,by omega⟩];have hl:((((bs.length:Nat):Int)+((es.length:Nat):Int))==0)=decide (bs=[]/\es=[]):=by
    by_cases q:bs=[]/\es=[]
    ·obtain⟨rfl,rfl⟩:=q
     rfl
    ·rw[ZAG q,ZA5];intro hc;apply q;exact⟨ZAR (by omega),ZAR (by omega)⟩
   rw[hl];cases noneB (h1,h2)<;>cases d<;>cases mo<;>cases(sz==0)<;>cases(fr==0)<;>rfl
theorem orK{α:Type}(a b:Bool)(S:α):(bif a then some (true,S) else some (b,S))=some (a||b,S):=by cases a<;>rfl
theorem rDZ(a b:Bool):(bif a then some b else some false)=some (a&&b):=by cases a<;>rfl
end Go.Ab.D
namespace Go.Ab
def runL{α σ ο:Type}(step:Nat->σ->α->σ⊕ο)(fin:σ->ο):Nat->σ->List α->ο
 |_,a,[]=>fin a
 |k,a,x::l=>match step k a x with
  |.inl a'=>runL step fin (k+1) a' l
  |.inr o=>o
section
variable {α σ τ ο : Type}
theorem jQZ(l:List α)(f:τ->Option (τ⊕ο))(S:Nat->σ->τ)(step:Nat->σ->α->σ⊕ο)(fin:σ->ο)(I:Nat->σ->Prop)(hl:l.length<4611686018427387904)
 (hs:∀k x a,l[k]? =some x->I k a->f (S k a)=some (match step k a x with|.inl a'=>.inl (S (k+1) a')|.inr o=>.inr o)/\∀a',step k a x= .inl a'->I (k+1) a')
 (he:∀a,I l.length a->f (S l.length a)=some (.inr (fin a)))(k0:Nat)(hk:k0<=l.length)(a0:σ)(h0:I k0 a0):iter fuel f (S k0 a0)=some (runL step fin k0 a0 (l.drop k0)):=by
 have main:∀(n m k:Nat) (a:σ),k+n=l.length->n<m->I k a->iter m f (S k a)=some (runL step fin k a (l.drop k)):=by
  intro n;induction n with
  |zero=>
   intro m k a hk hm hi;obtain rfl:k=l.length:=by omega
   obtain⟨m,rfl⟩:∃q,m=q+1:=⟨m-1,by omega⟩;rw[cUZ (he a hi),List.drop_length]
   rfl
  |succ n ih=>
   intro m k a hk hm hi;have hkl:k<l.length:=by omega
   obtain⟨m,rfl⟩:∃q,m=q+1:=⟨m-1,by omega⟩;obtain⟨h1,h2⟩:=hs k _ a (ZAD hkl) hi;rw[List.drop_eq_getElem_cons hkl];show _=some (match step k a l[k] with|.inl a'=>runL step fin (k+1) a' (l.drop (k+1))|.inr o=>o);cases hq:step k a l[k] with
   |inl a'=>
    rw[hq] at h1;rw[gHZ h1];exact ih m (k+1) a' (by omega) (by omega) (h2 a' hq)
   |inr o=>
    rw[hq] at h1;rw[cUZ h1]
 exact main (l.length-k0) fuel k0 a0 (by omega) (by unfold fuel;omega) h0
theorem kpZ(l:List α)(f:τ->Option (τ⊕ο))(S:Nat->σ->τ)(step:Nat->σ->α->σ⊕ο)(fin:σ->ο)(I:Nat->σ->Prop)(hl:l.length<4611686018427387904)
 (hs:∀k x a,l[k]? =some x->I k a->f (S k a)=some (match step k a x with|.inl a'=>.inl (S (k+1) a')|.inr o=>.inr o)/\∀a',step k a x= .inl a'->I (k+1) a')
 (he:∀a,I l.length a->f (S l.length a)=some (.inr (fin a)))(a0:σ)(h0:I 0 a0):iter fuel f (S 0 a0)=some (runL step fin 0 a0 l):=
 jQZ l f S step fin I hl hs he 0 (ZBS _) a0 h0
theorem mVZ(f:Int×Int->Option ((Int×Int)⊕Int))(n N:Nat)(hn:n<=N)(hN:N<=1000000000000)
 (hs:∀i j:Nat,i<j->j<=N->f ((i:Int),(j:Int))=some (.inl (if(i+j)/2<n then((((i+j)/2+1:Nat):Int),(j:Int)) else((i:Int),(((i+j)/2:Nat):Int)))))
 (he:∀i:Nat,f ((i:Int),(i:Int))=some (.inr (i:Int))):iter fuel f (0,(N:Int))=some (n:Int):=by
 have:=aRZ (f:=f) (fun m s=>∃i j:Nat,s=((i:Int),(j:Int))/\i<=n/\n<=j/\j<=N/\j-i<=m) (fun o=>o=(n:Int)) (fun m s hI=> ?_) (fun s hI=> ?_) N (0,(N:Int)) (by omega) ⟨0,N,rfl,by omega,hn,by omega,by omega⟩
 ·obtain⟨o,h1,h2⟩:=this;rw[h1,h2]
 ·obtain⟨i,j,rfl,h1,h2,h3,h4⟩:=hI;by_cases hij:i<j
  ·left;rw[hs i j hij h3];by_cases hc:(i+j)/2<n
   ·rw[ZAT hc];exact⟨_,rfl,(i+j)/2+1,j,rfl,by omega,by omega,h3,by omega⟩
   ·rw[ZAQ hc];exact⟨_,rfl,i,(i+j)/2,rfl,by omega,by omega,by omega,by omega⟩
  ·right;obtain rfl:i=j:=by omega
   exact⟨_,he i,by omega⟩
 ·obtain⟨i,j,rfl,h1,h2,h3,h4⟩:=hI;obtain rfl:i=j:=by omega
  exact⟨_,he i,by omega⟩
end
theorem mdZ{i j:Nat}(h:i+j<=4000000000000):IntKind.wrap .i64 (Int.fdiv (IntKind.wrap .u64 (IntKind.wrap .i64 ((i:Int)+(j:Int)))) 2)=(((i+j)/2:Nat):Int):=by
 rw[w64 (x:=(i:Int)+j) ⟨by omega,by omega⟩,wu64 ⟨by omega,by omega⟩];have:Int.fdiv ((i:Int)+(j:Int)) 2=(((i+j)/2:Nat):Int):=by
  have:=k1Z (i+j) 2;rw[<-this];congr 1
 rw[this,w64 ⟨by omega,by omega⟩]
def pre{α:Type}(p:α->Bool):List α->Nat
 |[]=>0
 |x::l=>if p x=true then pre p l+1 else 0
theorem jbZ{α:Type}(p:α->Bool):∀l:List α,pre p l<=l.length
 |[]=>ZAM _
 |x::l=>by
  unfold pre;split
  ·have:=jbZ p l;simp;omega
  ·omega
theorem pDZ{α:Type}(p:α->Bool):∀(l:List α) (k:Nat) (x:α),k<pre p l->l[k]? =some x->p x=true
 |[],k,x,h,hx=>by simp at hx
 |y::l,0,x,h,hx=>by
  unfold pre at h;split at h
  ·rename_i hp;simp at hx;subst hx;exact hp
  ·omega
 |y::l,k+1,x,h,hx=>by
  unfold pre at h;split at h
  ·exact pDZ p l k x (by omega) (by simpa using hx)
  ·omega
theorem p8Z{α:Type}(p:α->Bool):∀(l:List α) (x:α),l[pre p l]? =some x->p x=false
 |[],x,hx=>by simp at hx
 |y::l,x,hx=>by
  unfold pre at hx;split at hx
  ·exact p8Z p l x (by simpa using hx)
  ·rename_i hp;simp at hx;subst hx;simpa using hp
end Go.Ab
set_option maxRecDepth 100000
namespace Go.Ab.D
open Go Go.Ab
abbrev KeptT:Type:=Int×(Int×List ReplyT)
abbrev CacheT:Type:=Int×List KeptT
theorem g4Z{α:Type}{l:List α}{c:Bool}(hc:c=true):(nilQ l.length fun isNil=>bif isNil then some [] else need c<|some l)=some l:=by
 subst hc;rw[bYZ (fun h0=>by
  have:l=[]:=ZAR h0;subst this
  rfl)]
 rfl
theorem pHZ{l:List UInt8}(h:l.length<=1000000000):sClo4 fuel l=some l:=g4Z (by rw[aCZ (by rw[avZ];omega),aCZ (by rw[avZ];omega)];rfl)
theorem pwZ{l:List EntT}(h:l.length<=1000000000):sClo fuel l=some l:=g4Z (by rw[aCZ (by rw[avZ];omega),aCZ (by rw[avZ];omega)];rfl)
theorem p7Z{l:List KeptT}(h:l.length<=1000000000):sClo6 fuel l=some l:=g4Z (by rw[aCZ (by rw[avZ];omega),aCZ (by rw[avZ];omega)];rfl)
theorem pvZ{l:List ReplyT}(h:l.length<=1000000000):sClo5 fuel l=some l:=g4Z (by rw[aCZ (by rw[avZ];omega),aCZ (by rw[avZ];omega)];rfl)
def smallR(r:ReplyT):Prop:=r.2.2.2.2.2.2.1.length<=100000/\r.2.2.2.2.2.2.2.1.length<=100000
def smallK(k:KeptT):Prop:=k.2.2.length<=1000/\∀r∈k.2.2,smallR r
def smallC(c:CacheT):Prop:=c.2.length<=1000/\∀k∈c.2,smallK k
def ownO(r:ReplyT):Int×(Int×(Int×(Int×(Int×(Bool×(Int×(Bool×(Int×(List UInt8×List EntT))))))))):=
 (r.1,(r.2.1,(r.2.2.1,(r.2.2.2.1.1,(r.2.2.2.1.2,(r.2.2.2.2.1,(r.2.2.2.2.2.1,(r.2.2.2.2.2.2.2.2.1,(r.2.2.2.2.2.2.2.2.2,(r.2.2.2.2.2.2.1,r.2.2.2.2.2.2.2.1))))))))))
theorem n6Z{r:ReplyT}(h:smallR r):rown fuel r=some (ownO r):=by
 unfold rown;rw[pHZ (by have:=h.1;omega),pwZ (by have:=h.2;omega)]
 rfl
def rightOf(cl:Int):Int->List ReplyT->Bool
 |_,[]=>true
 |last,r::l=>(r.1==cl)&&(decide (last<r.2.1)&&(rightReply r&&rightOf cl r.2.1 l))
def keptB(w:Int)(k:KeptT):Bool:=decide (0<=k.2.1)&&(decide (k.2.1<=1099511627776)&&(decide (((k.2.2.length:Nat):Int)<=w)&&rightOf k.1 k.2.1 k.2.2))
def clientsB(w:Int):Int->List KeptT->Bool
 |_,[]=>true
 |last,k::l=>decide (last<k.1)&&(decide (k.1<16)&&(keptB w k&&clientsB w k.1 l))
def rightC(c:CacheT):Bool:=clientsB c.1 (-1) c.2&&decide (1<=c.1/\c.1<=100)
theorem onZ(r:ReplyT)(last cl gone:Int)(l:List ReplyT)(h:smallR r):rkep1 fuel r last cl gone l=some (!((r.1==cl)&&(decide (last<r.2.1)&&rightReply r)),(r.2.1,(cl,(gone,l)))):=by
 unfold rkep1;have e:cRigRep fuel (r.1,(r.2.1,(r.2.2.1,((r.2.2.2.1.1,r.2.2.2.1.2),(r.2.2.2.2.1,(r.2.2.2.2.2.1,(r.2.2.2.2.2.2.1,(r.2.2.2.2.2.2.2.1,(r.2.2.2.2.2.2.2.2.1,r.2.2.2.2.2.2.2.2.2)))))))))=some (rightReply r):=dMZ (r:=r) (by have:=h.1;omega) (by have:=h.2;omega);rw[e];cases r.1==cl with
 |false=>rfl
 |true=>
  by_cases q:r.2.1<=last
  ·rw[ZAJ q,ZAG (show¬last<r.2.1 by omega)];rfl
  ·rw[ZAG q,ZAJ (show last<r.2.1 by omega)];rfl
theorem joZ(cl gone:Int)(l:List ReplyT)(hl:l.length<=1000)(h:∀r∈l,smallR r):∃st,sConFun2 fuel l gone cl gone l=some (!rightOf cl gone l,st):=by
 unfold sConFun2 sIndFun sIndFun_l0_it;have:=kpZ l (fun tt:Int×(Int×(Int×(Int×List ReplyT)))=>sIndFun_l0 fuel l tt.1 tt.2.1 tt.2.2.1 tt.2.2.2.1 tt.2.2.2.2)
  (fun k (last:Int)=>((k:Int),(last,(cl,(gone,l)))))
  (fun k last r=>if((r.1==cl)&&(decide (last<r.2.1)&&rightReply r))=true then .inl r.2.1 else .inr (.inr ((k:Int),(r.2.1,(cl,(gone,l))))))
  (fun last=>.inl (last,(cl,(gone,l)))) (fun _ _=>True) (by omega)
  (fun k r last hr _=>by
   have hk:k<l.length:=(ZAC.1 hr).1;refine⟨?_,fun _ _=>trivial⟩;show sIndFun_l0 fuel l (k:Int) last cl gone l=_;unfold sIndFun_l0;rw[ZAJ (by omega),anZ hk];simp only[ZAK,ZAA,hr];rw[onZ r last cl gone l (h r (ZAN hr)),w64 ⟨by omega,by omega⟩];cases(r.1==cl)&&(decide (last<r.2.1)&&rightReply r)<;>rfl)
  (fun last _=>by
   show sIndFun_l0 fuel l ((l.length:Nat):Int) last cl gone l=_;unfold sIndFun_l0;rw[ZAG (by omega)]
   rfl) gone trivial
 have this':iter fuel (fun tt:Int×(Int×(Int×(Int×List ReplyT)))=>sIndFun_l0 fuel l tt.1 tt.2.1 tt.2.2.1 tt.2.2.2.1 tt.2.2.2.2) (0,(gone,(cl,(gone,l))))=_:=this;rw[this'];have g:∀(m:List ReplyT) (k:Nat) (last:Int),(∃s,runL (fun k last (r:ReplyT)=>if((r.1==cl)&&(decide (last<r.2.1)&&rightReply r))=true then .inl r.2.1 else .inr (.inr ((k:Int),(r.2.1,(cl,(gone,l)))))) (fun last=>(.inl (last,(cl,(gone,l))):(Int×(Int×(Int×List ReplyT)))⊕(Int×(Int×(Int×(Int×List ReplyT)))))) k last m= .inl s/\rightOf cl last m=true)\/∃(n:Nat) (s:_),runL (fun k last (r:ReplyT)=>if((r.1==cl)&&(decide (last<r.2.1)&&rightReply r))=true then .inl r.2.1 else .inr (.inr ((k:Int),(r.2.1,(cl,(gone,l)))))) (fun last=>(.inl (last,(cl,(gone,l))):(Int×(Int×(Int×List ReplyT)))⊕(Int×(Int×(Int×(Int×List ReplyT)))))) k last m= .inr ((n:Int),s)/\rightOf cl last m=false:=by
  intro m;induction m with
  |nil=>intro k last;exact .inl ⟨_,rfl,rfl⟩
  |cons r m ih=>
   intro k last;unfold runL rightOf;by_cases q:((r.1==cl)&&(decide (last<r.2.1)&&rightReply r))=true
   ·simp only[q,ZCH];simp only[ZAB] at q;simp only[q.1,q.2.1,q.2.2,ZA4];exact ih (k+1) r.2.1
   ·simp only[q];refine .inr ⟨k,_,rfl,?_⟩;rw[<-Bool.and_assoc,<-Bool.and_assoc,ZB9 (r.1==cl)];simp only[q,Bool.false_and]
 rcases g l 0 gone with⟨s,h1,h2⟩|⟨n,s,h1,h2⟩
 ·rw[h1,h2];exact⟨_,rfl⟩
 ·rw[h1,h2];simp only[ZAA];rw[ZAJ (show(n:Int)>=0 by omega)];exact⟨_,rfl⟩
theorem qvZ(k:KeptT)(w:Int)(h:smallK k):rkep fuel k w=some (keptB w k):=by
 unfold rkep keptB;obtain⟨st,hst⟩:=joZ k.1 k.2.1 k.2.2 h.1 h.2;rw[hst];simp only[ZAA,Bool.not_not,rDZ,ge_iff_le]
theorem gSZ(c:CacheT)(h:smallC c):rRig fuel c=some (rightC c):=by
 obtain⟨w,ks⟩:=c;unfold rRig rRig_l0_it rightC;have:=kpZ ks (fun tt:Int×(Int×(Int×List KeptT))=>rRig_l0 fuel (w,ks) tt.1 tt.2.1 tt.2.2.1 tt.2.2.2)
  (fun k (last:Int)=>(last,((k:Int),(w,ks))))
  (fun _ last k=>if(decide (last<k.1)&&(decide (k.1<16)&&keptB w k))=true then .inl k.1 else .inr (.inr false))
  (fun _=>.inl (w,ks)) (fun _ _=>True) (by have:=h.1;simp only at this;omega)
  (fun n k last hk _=>by
   have hn:n<ks.length:=(ZAC.1 hk).1;have h1:=h.1;simp only at h1;refine⟨?_,fun _ _=>trivial⟩;show rRig_l0 fuel (w,ks) last (n:Int) w ks=_;unfold rRig_l0;simp only;rw[ZAJ (by omega),anZ hn];simp only[ZAK,ZAA,hk];have e:rkep fuel (k.1,(k.2.1,k.2.2)) w=some (keptB w k):=qvZ k w (h.2 k (ZAN hk));rw[e,w64 ⟨by omega,by omega⟩];simp only[ZAA,orK];by_cases q1:last<k.1
   ·by_cases q2:k.1<16
    ·rw[ZAJ q1,ZAJ q2,ZAG (show¬k.1<=last by omega),ZAG (show¬k.1>=16 by omega)];cases keptB w k<;>rfl
    ·rw[ZAJ q1,ZAG q2,ZAG (show¬k.1<=last by omega),ZAJ (show k.1>=16 by omega)]
     rfl
   ·rw[ZAG q1,ZAJ (show k.1<=last by omega)]
    rfl)
  (fun last _=>by
   show rRig_l0 fuel (w,ks) last ((ks.length:Nat):Int) w ks=_;unfold rRig_l0;simp only;rw[ZAG (by omega)]
   rfl) (-1) trivial
 have this':iter fuel (fun tt:Int×(Int×(Int×List KeptT))=>rRig_l0 fuel (w,ks) tt.1 tt.2.1 tt.2.2.1 tt.2.2.2) (-1,(0,(w,ks)))=_:=this;simp only;rw[this'];have g:∀(m:List KeptT) (k:Nat) (last:Int),runL (fun _ last (k:KeptT)=>if(decide (last<k.1)&&(decide (k.1<16)&&keptB w k))=true then .inl k.1 else .inr (.inr false)) (fun _=>(.inl (w,ks):(Int×List KeptT)⊕Bool)) k last m=if clientsB w last m=true then .inl (w,ks) else .inr false:=by
  intro m;induction m with
  |nil=>intro k last;rfl
  |cons x m ih=>
   intro k last;unfold runL clientsB;by_cases q:(decide (last<x.1)&&(decide (x.1<16)&&keptB w x))=true
   ·simp only[q,ZCH];simp only[ZAB] at q;simp only[q.1,q.2.1,q.2.2,ZA4];exact ih (k+1) x.1
   ·simp only[q];rw[<-Bool.and_assoc,<-Bool.and_assoc,ZB9 (decide (last<x.1))];simp only[q,Bool.false_and]
    rfl
 rw[g];cases clientsB w (-1) ks with
 |false=>rfl
 |true=>
  simp only[ZCH,ZAA,ZA4];by_cases q1:w>=1
  ·by_cases q2:w<=100
   ·rw[ZAJ q1,ZAJ q2,ZAJ (show 1<=w/\w<=100 by omega)];rfl
   ·rw[ZAJ q1,ZAG q2,ZAG (show¬(1<=w/\w<=100) by omega)];rfl
  ·rw[ZAG q1,ZAG (show¬(1<=w/\w<=100) by omega)];rfl
end Go.Ab.D
set_option maxRecDepth 100000
namespace Go.Ab.D
open Go Go.Ab
section
variable {α : Type} {key : α → Int}
theorem jdZ{l:List α}(hs:(l.map key).Pairwise (·<·))(x:Int):∀(i:Nat) (a:α),l[i]? =some a->(key a<x↔i<pre (fun a=>decide (key a<x)) l):=by
 intro i a ha;constructor
 ·intro h;refine ZBs fun hc=> ?_;have hi:=(ZAC.1 ha).1;have hp:pre (fun a=>decide (key a<x)) l<l.length:=by omega
  have h2:=p8Z _ l _ (ZAD hp);have h2':¬key (l[pre (fun a=>decide (key a<x)) l])<x:=of_decide_eq_false h2;by_cases he:pre (fun a=>decide (key a<x)) l=i
  ·have:l[pre (fun a=>decide (key a<x)) l]=a:=by
    have h5:l[pre (fun a=>decide (key a<x)) l]? =some a:=by rw[he];exact ha
    rw[ZAD hp] at h5;simpa using h5
   rw[this] at h2';exact h2' h
  ·have hlt:pre (fun a=>decide (key a<x)) l<i:=by omega
   have:=List.pairwise_iff_getElem.1 hs _ _ (by simpa using hp) (by simpa using hi) hlt;simp only[List.getElem_map] at this;have ha':l[i]=a:=by rw[ZAD hi] at ha;simpa using ha
   rw[ha'] at this;omega
 ·intro h;exact of_decide_eq_true (pDZ _ l i a h ha)
theorem gTZ{l:List α}(hs:(l.map key).Pairwise (·<·))(x:Int):(match l[pre (fun a=>decide (key a<x)) l]? with|some a=>if key a=x then some a else none|none=>none)=l.find? (fun a=>key a==x):=by
 induction l with
 |nil=>rfl
 |cons b l ih=>
  simp only[ZB6,ZBJ] at hs;unfold pre;by_cases h:key b<x
  ·simp only[h,decide_true,ZCH];rw[List.find?_cons_of_neg (by simp;omega)];exact ih hs.2
  ·simp only[h,decide_false];by_cases he:key b=x
   ·rw[List.find?_cons_of_pos (by simpa using he)];simp[he]
   ·rw[List.find?_cons_of_neg (by simpa using he)];have:l.find? (fun a=>key a==x)=none:=List.find?_eq_none.2 fun y hy=>by
     have:=hs.1 (key y) (ZCB.2 ⟨y,hy,rfl⟩);simp;omega
    rw[this];simp[he]
end
theorem eMZ{cl:Int}:∀{l:List ReplyT} {last:Int},rightOf cl last l=true↔(l.map (·.2.1)).Pairwise (·<·)/\∀r∈l,r.1=cl/\last<r.2.1/\rightReply r=true
 |[],last=>by simp[rightOf]
 |r::l,last=>by
  unfold rightOf;simp only[ZAB,ZBf,ZAd,eMZ (l:=l),ZB6,ZBJ,ZAa,ZCB];constructor
  ·rintro⟨h1,h2,h3,h4,h5⟩;refine⟨⟨?_,h4⟩,?_⟩
   ·rintro _ ⟨y,hy,rfl⟩;exact(h5 y hy).2.1
   ·rintro y (rfl|hy)
    ·exact⟨h1,h2,h3⟩
    ·have:=h5 y hy;exact⟨this.1,by omega,this.2.2⟩
  ·rintro⟨⟨h1,h2⟩,h3⟩;have hr:=h3 r (.inl rfl);exact⟨hr.1,hr.2.1,hr.2.2,h2,fun y hy=>⟨(h3 y (.inr hy)).1,h1 _ ⟨y,hy,rfl⟩,(h3 y (.inr hy)).2.2⟩⟩
theorem euZ{w:Int}:∀{l:List KeptT} {last:Int},clientsB w last l=true↔(l.map (·.1)).Pairwise (·<·)/\∀k∈l,last<k.1/\k.1<16/\keptB w k=true
 |[],last=>by simp[clientsB]
 |k::l,last=>by
  unfold clientsB;simp only[ZAB,ZAd,euZ (l:=l),ZB6,ZBJ,ZAa,ZCB];constructor
  ·rintro⟨h1,h2,h3,h4,h5⟩;refine⟨⟨?_,h4⟩,?_⟩
   ·rintro _ ⟨y,hy,rfl⟩;exact(h5 y hy).1
   ·rintro y (rfl|hy)
    ·exact⟨h1,h2,h3⟩
    ·have:=h5 y hy;exact⟨by omega,this.2⟩
  ·rintro⟨⟨h1,h2⟩,h3⟩;have hr:=h3 k (.inl rfl);exact⟨hr.1,hr.2.1,hr.2.2,h2,fun y hy=>⟨h1 _ ⟨y,hy,rfl⟩,(h3 y (.inr hy)).2⟩⟩
theorem eNZ{w:Int}{k:KeptT}:keptB w k=true↔0<=k.2.1/\k.2.1<=1099511627776/\((k.2.2.length:Nat):Int)<=w/\(k.2.2.map (·.2.1)).Pairwise (·<·)/\∀r∈k.2.2,r.1=k.1/\k.2.1<r.2.1/\rightReply r=true:=by
 unfold keptB;simp only[ZAB,ZAd,eMZ]
theorem ekZ{c:CacheT}:rightC c=true↔(1<=c.1/\c.1<=100)/\(c.2.map (·.1)).Pairwise (·<·)/\∀k∈c.2,0<=k.1/\k.1<16/\keptB c.1 k=true:=by
 unfold rightC;simp only[ZAB,ZAd,euZ];constructor
 ·rintro⟨⟨h1,h2⟩,h3⟩;exact⟨h3,h1,fun k hk=>by have:=h2 k hk;exact⟨by omega,this.2⟩⟩
 ·rintro⟨h3,h1,h2⟩;exact⟨⟨h1,fun k hk=>by have:=h2 k hk;exact⟨by omega,this.2⟩⟩,h3⟩
theorem gfZ{r:ReplyT}(h:rightReply r=true):(0<=r.1/\r.1<16)/\1<=r.2.1/\r.2.1<=1099511627776:=by
 unfold rightReply whoseB3 at h;simp only[ZAB,ZAd] at h;exact⟨⟨h.1.1,h.1.2.1⟩,h.1.2.2⟩
theorem ezZ{r:ReplyT}(h:rightReply r=true):smallR r:=by
 unfold rightReply at h;simp only[ZAB] at h;have h2:=h.2.2;split at h2
 ·simp only[ZAB,ZAd] at h2;have:=h2.2.2.2.2.2;unfold smallR;rw[this.1,this.2];exact⟨by simp,by simp⟩
 ·simp only[ZAB,ZAd] at h2;unfold smallR;exact⟨by omega,by omega⟩
theorem nLZ{l:List Int}(h:l.Pairwise (·<·))(hb:∀x∈l,0<=x/\x<16):l.length<=16:=by
 have h2:∀(l:List Int) (a:Int),l.Pairwise (·<·)->(∀x∈l,a<=x/\x<16)->a<=16->(l.length:Int)<=16-a:=by
  intro l;induction l with
  |nil=>intro a _ _ ha;simp;omega
  |cons x l ih=>
   intro a hp hb ha;rw[ZBJ] at hp;have hx:=hb x (by simp);have:=ih (x+1) hp.2 (fun y hy=>⟨by have:=hp.1 y hy;omega,(hb y (by simp[hy])).2⟩) (by omega);simp only[ZBm];omega
 have:=h2 l 0 h hb (by omega);omega
theorem clZ{c:CacheT}(h:rightC c=true):smallC c:=by
 obtain⟨h1,h2,h3⟩:=ekZ.1 h;refine⟨?_,fun k hk=> ?_⟩
 ·have:=nLZ h2 (fun x hx=>by
   obtain⟨k,hk,rfl⟩:=ZCB.1 hx;exact⟨(h3 k hk).1,(h3 k hk).2.1⟩)
  simp at this;omega
 ·obtain⟨g1,g2,g3,g4,g5⟩:=eNZ.1 (h3 k hk).2.2;exact⟨by omega,fun r hr=>ezZ (g5 r hr).2.2⟩
def cliAt(ks:List KeptT)(x:Int):Nat:=pre (fun k=>decide (k.1<x)) ks
def repAt(l:List ReplyT)(x:Int):Nat:=pre (fun r=>decide (r.2.1<x)) l
def kOf(ks:List KeptT)(x:Int):Option KeptT:=ks.find? fun k=>k.1==x
def rOf(l:List ReplyT)(x:Int):Option ReplyT:=l.find? fun r=>r.2.1==x
theorem p2Z{w:Int}{ks:List KeptT}(hl:ks.length<=1000)(hs:(ks.map (·.1)).Pairwise (·<·))(hb:∀k∈ks,0<=k.1/\k.1<16){x:Int}(hx:0<=x/\x<16):
 rof fuel (w,ks) x=some (((cliAt ks x:Nat):Int),(kOf ks x).isSome):=by
 unfold rof sBinSeaFu3 sBinSeaFu3_l0_it;have hle:cliAt ks x<=ks.length:=jbZ _ _;have h1:∀k∈ks,rof1 fuel k x=some (k.1-x):=fun k hk=>by
  unfold rof1;have:=hb k hk;rw[w64 ⟨by omega,by omega⟩]
 have:=mVZ (fun tt:Int×Int=>sBinSeaFu3_l0 fuel ks x tt.1 tt.2) (cliAt ks x) ks.length hle (by omega)
  (fun i j hij hj=>by
   show sBinSeaFu3_l0 fuel ks x (i:Int) (j:Int)=_;unfold sBinSeaFu3_l0;have hh:(i+j)/2<ks.length:=by omega
   rw[ZAJ (show(i:Int)<(j:Int) by omega),mdZ (by omega),anZ hh];simp only[ZAK,ZAA,ZAD hh];rw[h1 _ (ZBo hh),w64 (x:=((((i+j)/2:Nat):Int))+1) ⟨by omega,by omega⟩];simp only[ZAA];have hp:=jdZ hs x ((i+j)/2) _ (ZAD hh);by_cases hc:(i+j)/2<cliAt ks x
   ·have hk:ks[(i+j)/2].1<x:=hp.2 hc;rw[ZAT hc,ZAJ (show ks[(i+j)/2].1-x<0 by omega)];simp
   ·have hk:¬ks[(i+j)/2].1<x:=fun h=>hc (hp.1 h);rw[ZAQ hc,ZAG (show¬ks[(i+j)/2].1-x<0 by omega)];simp)
  (fun i=>by
   show sBinSeaFu3_l0 fuel ks x (i:Int) (i:Int)=_;unfold sBinSeaFu3_l0;rw[ZAG (by omega)]
   rfl)
 simp only;rw[this];simp only[ZAA];have hf:=gTZ hs x;by_cases hc:cliAt ks x<ks.length
 ·rw[ZAJ (by omega),anZ hc];simp only[ZAK,ZAA,ZAD hc];rw[h1 _ (ZBo hc)];unfold kOf;rw[<-hf];have:ks[pre (fun k=>decide (k.1<x)) ks]? =some ks[cliAt ks x]:=ZAD hc;rw[this];simp only[ZAA];by_cases he:ks[cliAt ks x].1=x
  ·rw[ZAT he,ZBf.2 (by omega)];rfl
  ·rw[ZAQ he,ZA5.2 (by omega)];rfl
 ·rw[ZAG (by omega)];unfold kOf;rw[<-hf];have:ks[pre (fun k=>decide (k.1<x)) ks]? =none:=ZAt (by unfold cliAt at hc;omega);rw[this]
  rfl
theorem giZ(r:ReplyT)(x:Int):rcom fuel r x=some (if r.2.1<x then-1 else if r.2.1>x then 1 else 0):=by
 unfold rcom;by_cases h1:r.2.1<x
 ·rw[ZAJ h1,ZAT h1];rfl
 ·by_cases h2:r.2.1>x
  ·rw[ZAG h1,ZAJ h2,ZAQ h1,ZAT h2];rfl
  ·rw[ZAG h1,ZAG h2,ZAQ h1,ZAQ h2];rfl
theorem hVZ{l:List ReplyT}(hl:l.length<=1000)(hs:(l.map (·.2.1)).Pairwise (·<·)){x:Int}:
 sBinSeaFu fuel l x=some (((repAt l x:Nat):Int),(rOf l x).isSome):=by
 unfold sBinSeaFu sBinSeaFu_l0_it;have hle:repAt l x<=l.length:=jbZ _ _;have:=mVZ (fun tt:Int×Int=>sBinSeaFu_l0 fuel l x tt.1 tt.2) (repAt l x) l.length hle (by omega)
  (fun i j hij hj=>by
   show sBinSeaFu_l0 fuel l x (i:Int) (j:Int)=_;unfold sBinSeaFu_l0;have hh:(i+j)/2<l.length:=by omega
   rw[ZAJ (show(i:Int)<(j:Int) by omega),mdZ (by omega),anZ hh];simp only[ZAK,ZAA,ZAD hh];rw[giZ,w64 (x:=((((i+j)/2:Nat):Int))+1) ⟨by omega,by omega⟩];simp only[ZAA];have hp:=jdZ hs x ((i+j)/2) _ (ZAD hh);by_cases hc:(i+j)/2<repAt l x
   ·have hk:l[(i+j)/2].2.1<x:=hp.2 hc;rw[ZAT hc,ZAT hk];simp
   ·have hk:¬l[(i+j)/2].2.1<x:=fun h=>hc (hp.1 h);rw[ZAQ hc,ZAQ hk];by_cases h2:l[(i+j)/2].2.1>x
    ·rw[ZAT h2];simp
    ·rw[ZAQ h2];simp)
  (fun i=>by
   show sBinSeaFu_l0 fuel l x (i:Int) (i:Int)=_;unfold sBinSeaFu_l0;rw[ZAG (by omega)]
   rfl)
 rw[this];simp only[ZAA];have hf:=gTZ hs x;by_cases hc:repAt l x<l.length
 ·rw[ZAJ (by omega),anZ hc];simp only[ZAK,ZAA,ZAD hc];rw[giZ];unfold rOf;rw[<-hf];have:l[pre (fun k=>decide (k.2.1<x)) l]? =some l[repAt l x]:=ZAD hc;rw[this];simp only[ZAA];have hnl:¬l[repAt l x].2.1<x:=fun h=>by
   have:=(jdZ hs x (repAt l x) _ (ZAD hc)).1 h;unfold repAt at this;omega
  by_cases he:l[repAt l x].2.1=x
  ·rw[ZAQ hnl,ZAQ (by omega),ZAT he];rfl
  ·rw[ZAQ hnl,ZAT (by omega),ZAQ he];rfl
 ·rw[ZAG (by omega)];unfold rOf;rw[<-hf];have:l[pre (fun k=>decide (k.2.1<x)) l]? =none:=ZAt (by unfold repAt at hc;omega);rw[this]
  rfl
theorem pIZ{ks:List KeptT}(hs:(ks.map (·.1)).Pairwise (·<·)){x:Int}{k:KeptT}(h:kOf ks x=some k):ks[cliAt ks x]? =some k/\k.1=x:=by
 have hf:=gTZ hs x;unfold kOf at h;rw[h] at hf;have hk:k.1=x:=by have:=List.find?_some h;simpa using this
 refine⟨?_,hk⟩;unfold cliAt;cases hq:ks[pre (fun k=>decide (k.1<x)) ks]? with
 |none=>rw[hq] at hf;cases hf
 |some k'=>
  rw[hq] at hf;simp only at hf;split at hf
  ·exact hf
  ·cases hf
theorem qQZ{l:List ReplyT}(hs:(l.map (·.2.1)).Pairwise (·<·)){x:Int}{r:ReplyT}(h:rOf l x=some r):l[repAt l x]? =some r/\r.2.1=x:=by
 have hf:=gTZ hs x;unfold rOf at h;rw[h] at hf;have hk:r.2.1=x:=by have:=List.find?_some h;simpa using this
 refine⟨?_,hk⟩;unfold repAt;cases hq:l[pre (fun k=>decide (k.2.1<x)) l]? with
 |none=>rw[hq] at hf;cases hf
 |some k'=>
  rw[hq] at hf;simp only at hf;split at hf
  ·exact hf
  ·cases hf
def zR:ReplyT:=(0,(0,(0,((0,0),(false,(0,([],([],(false,0)))))))))
def look(c:CacheT)(client xid:Int):ReplyT×Int:=
 if rightC c=true then match kOf c.2 client with
  |none=>(zR,0)
  |some k=>if xid<=k.2.1 then(zR,2) else match rOf k.2.2 xid with
   |some r=>(r,1)
   |none=>(zR,0)
 else(zR,0)
def lookO(x:ReplyT×Int):Int×(Int×(Int×(Int×(Int×(Bool×(Int×(List UInt8×(List EntT×(Bool×(Int×Int)))))))))):=
 (x.1.1,(x.1.2.1,(x.1.2.2.1,(x.1.2.2.2.1.1,(x.1.2.2.2.1.2,(x.1.2.2.2.2.1,(x.1.2.2.2.2.2.1,(x.1.2.2.2.2.2.2.1,(x.1.2.2.2.2.2.2.2.1,(x.1.2.2.2.2.2.2.2.2.1,(x.1.2.2.2.2.2.2.2.2.2,x.2)))))))))))
theorem jUZ(c:CacheT)(h:smallC c)(client xid:Int):rLoo fuel c client xid=some (lookO (look c client xid)):=by
 obtain⟨w,ks⟩:=c;unfold rLoo;simp only;rw[gSZ (w,ks) h];simp only[ZAA];unfold look;cases hr:rightC (w,ks) with
 |false=>rfl
 |true=>
  obtain⟨h1,h2,h3⟩:=ekZ.1 hr;simp only at h1 h2 h3;have hb:∀k∈ks,0<=k.1/\k.1<16:=fun k hk=>⟨(h3 k hk).1,(h3 k hk).2.1⟩;have hnone:¬(0<=client/\client<16)->kOf ks client=none:=fun hn=>List.find?_eq_none.2 fun k hk=>by
   have:=hb k hk;simp;omega
  simp only[ZAK,ZCH];by_cases q1:client>=0
  ·by_cases q2:client<16
   ·rw[ZAJ q1,ZAJ q2];simp only[ZAK,ZAA];rw[p2Z h.1 h2 hb ⟨by omega,q2⟩];simp only[ZAA];cases hk:kOf ks client with
    |none=>rfl
    |some k=>
     obtain⟨g1,g2⟩:=pIZ h2 hk;have hlt:=(ZAC.1 g1).1;have hkm:=ZAN g1;obtain⟨e1,e2,e3,e4,e5⟩:=eNZ.1 (h3 k hkm).2.2;simp only[Option.isSome_some,ZAP,ZAE,ZAA];rw[ZAG (show¬(((cliAt ks client:Nat):Int)<0) by omega),anZ hlt];simp only[ZAE,ZAA,g1];by_cases q3:xid<=k.2.1
     ·rw[ZAJ q3,ZAT q3];rfl
     ·rw[ZAG q3,ZAQ q3];simp only[ZAE];rw[hVZ (h.2 k hkm).1 e4];simp only[ZAA];cases hx:rOf k.2.2 xid with
      |none=>rfl
      |some r=>
       obtain⟨g3,g4⟩:=qQZ e4 hx;have hlt2:=(ZAC.1 g3).1;simp only[Option.isSome_some,ZAK];rw[anZ hlt2];simp only[ZAA,g3];rw[n6Z ((h.2 k hkm).2 r (ZAN g3))]
       rfl
   ·rw[ZAJ q1,ZAG q2,hnone (by omega)];rfl
  ·rw[ZAG q1,hnone (by omega)];rfl
end Go.Ab.D
set_option maxRecDepth 100000
namespace Go.Ab.D
open Go Go.Ab
abbrev TREP:Ty:=.pair (.int .i64) (.pair (.int .i64) (.pair (.int .i64) (.pair qY5 (.pair .bool (.pair (.int .i64) (.pair (.sl .byte) (.pair (.sl (.pair .str (.int .i64))) (.pair .bool (.int .i64)))))))))
abbrev TKR:Ty:=.pair (.int .i64) (.pair (.int .i64) (.ref 1 TREP))
abbrev KR:Type:=Int×(Int×RefT ReplyT)
abbrev FamK(rows:List KR)(ms:List (Nat×List ReplyT))(ks:List KeptT):Prop:=Fam (fun r:KR=>r.2.2) (fun k:KeptT=>k.2.2) (fun r k=>r.1=k.1/\r.2.1=k.2.1) rows ms ks
theorem pFZ(ms:List (Nat×List ReplyT))(x:RefT ReplyT):unrefD [⟨1,TREP,ms⟩] (.ref 1 TREP) x=viewM ms x:=by
 rcases x with l|(_|⟨k,o,n⟩)<;>rfl
theorem FamK.pure_{rows:List KR}{ms:List (Nat×List ReplyT)}{ks:List KeptT}(h:FamK rows ms ks):unrefL (unrefD [⟨1,TREP,ms.map frz1⟩] TKR) rows=some ks:=
 h.pure (unrefD [⟨1,TREP,ms.map frz1⟩] TKR) fun row k hs hv=>by
  obtain⟨a,b,x⟩:=row;obtain⟨a',b',l⟩:=k;simp only at hs hv;obtain⟨rfl,rfl⟩:=hs;show((some a).bind fun y=>(((some b).bind fun y=>(unrefD [⟨1,TREP,ms.map frz1⟩] (.ref 1 TREP) x).map fun z=>(y,z)).map fun z=>(y,z)))=_;rw[pFZ,hv]
  rfl
theorem ownL{l:List ReplyT}{k:Nat}{r:ReplyT}(h:l[k]? =some r):l.set k ((ownO r).1,((ownO r).2.1,((ownO r).2.2.1,(((ownO r).2.2.2.1,(ownO r).2.2.2.2.1),((ownO r).2.2.2.2.2.1,((ownO r).2.2.2.2.2.2.1,((ownO r).2.2.2.2.2.2.2.2.2.1,((ownO r).2.2.2.2.2.2.2.2.2.2,((ownO r).2.2.2.2.2.2.2.1,(ownO r).2.2.2.2.2.2.2.2.1)))))))))=l:=by
 obtain⟨hk,hr⟩:=ZAC.1 h;have:(((ownO r).1,((ownO r).2.1,((ownO r).2.2.1,(((ownO r).2.2.2.1,(ownO r).2.2.2.2.1),((ownO r).2.2.2.2.2.1,((ownO r).2.2.2.2.2.2.1,((ownO r).2.2.2.2.2.2.2.2.2.1,((ownO r).2.2.2.2.2.2.2.2.2.2,((ownO r).2.2.2.2.2.2.2.1,(ownO r).2.2.2.2.2.2.2.2.1))))))))):ReplyT)=l[k]:=by rw[hr];rfl
 rw[this];exact List.set_getElem_self hk
theorem dCZ{α:Type}{l:List α}{k:Nat}{x:α}(h:l[k]? =some x):l.set k x=l:=by
 obtain⟨hk,rfl⟩:=ZAC.1 h;exact List.set_getElem_self hk
theorem quZ{rows:List KR}{ms:List (Nat×List ReplyT)}{q j:Nat}{a b:Int}{l:List ReplyT}(hr:rows[q]? =some (a,(b,.inr (some (j,(0,l.length))))))(hm:ms[j]? =some (1,l))(hl:l.length<=1000)(hs:∀r∈l,smallR r)(h h2:Int):
 rcop_l0_it fuel (a,(b,.inr (some (j,(0,l.length))))) (q,(0,(h,(rows,(h2,ms)))))=some (h,(rows,(h2,ms))):=by
 unfold rcop_l0_it;have:=a4Z (f:=fun tt:Nat×(Int×(Int×(List KR×(Int×List (Nat×List ReplyT)))))=>rcop_l0 fuel (a,(b,.inr (some (j,(0,l.length))))) tt.1 tt.2.1 tt.2.2.1 tt.2.2.2.1 tt.2.2.2.2.1 tt.2.2.2.2.2) (o:=(h,(rows,(h2,ms)))) (fun k=>(q,((k:Int),(h,(rows,(h2,ms)))))) l.length (by omega) (fun k hk=>by
  show rcop_l0 fuel _ q (k:Int) h rows h2 ms=_;unfold rcop_l0;have e0:refLen (s:=TREP) (.inr (some (j,(0,l.length))))=l.length:=rfl;have hx:l[k]? =some l[k]:=ZAD hk;simp only[e0];rw[ZAJ (show(k:Int)<((l.length:Nat):Int) by omega)];simp only[ZAK,hr,ZAA,refO];rw[anZ hk];simp only[ZAA,hm,ZAj,hx];rw[adZ (by rfl),n6Z (hs _ (ZBo hk))];simp only[ZAA,hx];rw[adZ (by rfl),w64 ⟨by omega,by omega⟩];rw[ownL hx,dCZ hm]
  rfl) (by
  show rcop_l0 fuel _ q ((l.length:Nat):Int) h rows h2 ms=_;unfold rcop_l0;have e0:refLen (s:=TREP) (.inr (some (j,(0,l.length))))=l.length:=rfl;simp only[e0];rw[ZAG (by omega)]
  rfl)
 exact this
theorem ocZ(c:CacheT)(h:smallC c):∃rows ms,rcop fuel c=some (c.1,(rows,ms))/\FamK rows ms c.2:=by
 obtain⟨w,ks⟩:=c;have hn:=h.1;simp only at hn;unfold rcop;simp only;rw[p7Z (by omega),ZAA];have h0:∀(i:Nat) (k:KeptT),ks[i]? =some k->(List.map (liftT TKR) (show List (TKR.unref.den) from ks))[i]? =some ((k.1,(k.2.1,.inl k.2.2)):KR):=fun i k hg=>by
  show(List.map (liftT TKR) (show List (TKR.unref.den) from ks))[i]? =some (liftT TKR k);rw[ZAW];show((show List KeptT from ks)[i]?).map _=_;rw[hg]
  rfl
 have loop:∃o,rcop_l1_it fuel ks (0,(w,((List.map (liftT TKR) (show List (TKR.unref.den) from ks)),(0,[]))))=some o/\∃rows ms,o=(w,(rows,(0,ms)))/\FamK rows ms ks:=by
  unfold rcop_l1_it;refine aRZ (fun m s=>∃(n:Nat) (rows:List KR) (ms:List (Nat×List ReplyT)),s=((n:Int),(w,(rows,(0,ms))))/\n+m=ks.length/\rows.length=ks.length/\ms.length=n/\∀(i:Nat) k,ks[i]? =some k->(i<n->rows[i]? =some (k.1,(k.2.1,.inr (some (i,(0,k.2.2.length)))))/\ms[i]? =some (1,k.2.2))/\(n<=i->rows[i]? =some (k.1,(k.2.1,.inl k.2.2)))) _ (fun m s hI=> ?_) (fun s hI=> ?_) ks.length _ (by omega) ⟨0,_,[],rfl,by omega,ZBB _,rfl,fun i k hg=>⟨fun hc=>absurd hc (ZCE _),fun _=>h0 i k hg⟩⟩
  ·obtain⟨n,rows,ms,rfl,hk,g1,g2,g3⟩:=hI;have hlt:n<ks.length:=by omega
   obtain⟨k,hg⟩:∃k,ks[n]? =some k:=⟨_,ZAD hlt⟩;have hrow:=(g3 n k hg).2 (ZAM _);have hsm:=h.2 k (ZAN hg);left;refine⟨(((n+1:Nat):Int),(w,(rows.set n (k.1,(k.2.1,.inr (some (n,(0,k.2.2.length))))),(0,ms++[(1,k.2.2)])))),?_,n+1,_,_,rfl,by omega,by rw[ZA2];exact g1,by simp[g2],fun i k' hg'=>⟨fun hi=> ?_,fun hi=> ?_⟩⟩
   ·unfold rcop_l1;simp only;rw[ZAJ (show(n:Int)<((ks.length:Nat):Int) by omega),anZ (by omega)];simp only[ZAK,ZAA,hrow];rw[show lowD (.ref 1 TREP) (.inl k.2.2)=some k.2.2 from rfl];erw[ZAA];rw[pvZ (by have:=hsm.1;omega)];simp only[ZAA,g2];rw[ZAU (by omega)];simp only[ZAA];rw[quZ (ZAU (by omega)) (by rw[ZAO (by omega),g2,ZBx];rfl) hsm.1 hsm.2,w64 ⟨by omega,by omega⟩]
    rfl
   ·by_cases hin:i=n
    ·subst hin;rw[hg] at hg';cases hg';exact⟨ZAU (by omega),by rw[ZAO (by omega),g2,ZBx];rfl⟩
    ·have:=(g3 i k' hg').1 (by omega);rw[ZAg (by omega),ZAL (by omega)];exact this
   ·rw[ZAg (by omega)];exact(g3 i k' hg').2 (by omega)
  ·obtain⟨n,rows,ms,rfl,hk,g1,g2,g3⟩:=hI;have:n=ks.length:=by omega
   subst this;refine⟨(w,(rows,(0,ms))),?_,rows,ms,rfl,g1,fun i row k hr hk=> ?_,fun i i' row row' j p p' hii hr hr' hj hj'=> ?_⟩
   ·unfold rcop_l1;simp only;rw[ZAG (by omega)]
    rfl
   ·obtain⟨e1,e2⟩:=(g3 i k hk).1 (ZAC.1 hk).1;rw[e1] at hr;cases hr;exact⟨⟨rfl,rfl⟩,.inr ⟨i,rfl,e2⟩⟩
   ·have q:∀(i:Nat) (row:KR) (p:Nat×Nat),rows[i]? =some row->row.2.2= .inr (some (j,p))->j=i:=fun i row p hr hj=>by
     have hi:=(ZAC.1 hr).1;have hg:=ZAD (show i<ks.length by omega);obtain⟨e1,_⟩:=(g3 i _ hg).1 (by omega);rw[e1] at hr;cases hr;injection hj with hj;injection hj with hj;injection hj with hj;exact hj.symm
    have:=q i row p hr hj;have:=q i' row' p' hr' hj';omega
 obtain⟨o,ho,rows,ms,rfl,hF⟩:=loop;refine⟨rows,ms,?_,hF⟩;have ho':rcop_l1_it fuel ks (0,(w,(List.map (liftT (.pair (.int .i64) (.pair (.int .i64) (.ref 1 TREP)))) (show List (TKR.unref.den) from ks),(0,[]))))=some (w,(rows,(0,ms))):=ho;erw[ho']
 rfl
end Go.Ab.D
set_option maxRecDepth 100000
namespace Go.Ab.D
open Go Go.Ab
def putK(w:Int)(k:KeptT)(r:ReplyT):KeptT:=
 let l:=k.2.2.take (repAt k.2.2 r.2.1)++[r]++k.2.2.drop (repAt k.2.2 r.2.1)
 if((l.length:Nat):Int)>w then(k.1,((match l[0]? with|some x=>x.2.1|none=>0),l.drop 1)) else(k.1,(k.2.1,l))
def withCli(ks:List KeptT)(cl:Int):List KeptT:=if(kOf ks cl).isSome=true then ks else ks.take (cliAt ks cl)++[(cl,(0,[]))]++ks.drop (cliAt ks cl)
def kept1(ks:List KeptT)(cl:Int):KeptT:=(kOf ks cl).getD (cl,(0,[]))
def putKL(w:Int)(ks:List KeptT)(r:ReplyT):List KeptT:=(withCli ks r.1).set (cliAt ks r.1) (putK w (kept1 ks r.1) r)
def put(c:CacheT)(r:ReplyT):CacheT×Int:=if rightC c=true/\rightReply r=true/\(look c r.1 r.2.1).2=0 then((c.1,putKL c.1 c.2 r),0) else(c,2)
def putO(x:CacheT×Int):Int×(List KeptT×Int):=(x.1.1,(x.1.2,x.2))
theorem qjZ{i:Nat}{l:List KR}{x:KR}{ms:List (Nat×List ReplyT)}(hi:i<=l.length)(hl:l.length<=1000):sIns2 fuel (i:Int) l [x] ms=some ([x],(l.take i++[x]++l.drop i,ms)):=by
 unfold sIns2;rw[a8Z hi,ZAA,adZ];rw[aCZ (by rw[avZ];simp;omega),aCZ (by rw[avZ];simp;omega)]
 rfl
theorem qIZ{i:Nat}{l:List ReplyT}{x:ReplyT}(hi:i<=l.length)(hl:l.length<=1000):sIns3 fuel (i:Int) l [x]=some ([x],l.take i++[x]++l.drop i):=by
 unfold sIns3;rw[a8Z hi,ZAA,adZ];rw[aCZ (by rw[avZ];simp;omega),aCZ (by rw[avZ];simp;omega)]
 rfl
theorem q0Z{l:List ReplyT}(hl:0<l.length):sDel fuel 0 1 l=some (l.drop 1):=by
 unfold sDel;rw[cOZ (by omega) (by omega),ZAA,cOZ (by omega) (by simp),ZAA,adZ (by rfl)]
 rfl
theorem ownR(r:ReplyT):(((ownO r).1,((ownO r).2.1,((ownO r).2.2.1,(((ownO r).2.2.2.1,(ownO r).2.2.2.2.1),((ownO r).2.2.2.2.2.1,((ownO r).2.2.2.2.2.2.1,((ownO r).2.2.2.2.2.2.2.2.2.1,((ownO r).2.2.2.2.2.2.2.2.2.2,((ownO r).2.2.2.2.2.2.2.1,(ownO r).2.2.2.2.2.2.2.2.1))))))))):ReplyT)=r:=rfl
theorem eIZ(c:CacheT)(cl x:Int):(lookO (look c cl x)).2.2.2.2.2.2.2.2.2.2.2=(look c cl x).2:=rfl
theorem p5Z(c:CacheT)(R:ReplyT)(h:smallC c)(hr:smallR R):rPut fuel c R=some (putO (put c R)):=by
 obtain⟨w,ks⟩:=c;obtain⟨rows,ms,hc,hF⟩:=ocZ (w,ks) h;simp only at hc hF;unfold rPut;simp only;rw[hc,ZAA,gSZ (w,ks) h];simp only[ZAA];have hrr:cRigRep fuel (R.1,(R.2.1,(R.2.2.1,((R.2.2.2.1.1,R.2.2.2.1.2),(R.2.2.2.2.1,(R.2.2.2.2.2.1,(R.2.2.2.2.2.2.1,(R.2.2.2.2.2.2.2.1,(R.2.2.2.2.2.2.2.2.1,R.2.2.2.2.2.2.2.2.2)))))))))=some (rightReply R):=
  dMZ (r:=R) (by have:=hr.1;omega) (by have:=hr.2;omega)
 have hown:rown fuel (R.1,(R.2.1,(R.2.2.1,((R.2.2.2.1.1,R.2.2.2.1.2),(R.2.2.2.2.1,(R.2.2.2.2.2.1,(R.2.2.2.2.2.2.1,(R.2.2.2.2.2.2.2.1,(R.2.2.2.2.2.2.2.2.1,R.2.2.2.2.2.2.2.2.2)))))))))=some (ownO R):=n6Z (r:=R) hr;have hp:=hF.pure_;have hn:=h.1;simp only at hn;unfold put;cases hc1:rightC (w,ks) with
 |false=>
  simp only[ZAy,ZAK,ZAA];rw[hp]
  rfl
 |true=>
  simp only[ZAP,ZAE];rw[hrr];simp only[ZAA];cases hc2:rightReply R with
  |false=>
   simp only[ZAy,ZAK,ZAA];rw[hp]
   rfl
  |true=>
   simp only[ZAP,ZAE,ZAA];rw[jUZ (w,ks) h R.1 R.2.1];simp only[ZAA,eIZ];by_cases hlk:(look (w,ks) R.1 R.2.1).2=0
   ·simp only[hlk,ZAV,ZAP,ZAE];rw[hp];erw[ZAA];obtain⟨g1,g2,g3⟩:=ekZ.1 hc1;simp only at g1 g2 g3;have hwho:=(gfZ hc2).1;have hb:∀k∈ks,0<=k.1/\k.1<16:=fun k hk=>⟨(g3 k hk).1,(g3 k hk).2.1⟩;rw[p2Z hn g2 hb hwho];simp only[ZAA];have hat:cliAt ks R.1<=ks.length:=jbZ _ _;have hlen:=hF.len;refine pWZ (fun z=>z=some _) (fun o=>∃rows1 ms1,o=(w,(ks,(R.1,(R.2.1,(R.2.2.1,(R.2.2.2.1.1,(R.2.2.2.1.2,(R.2.2.2.2.1,(R.2.2.2.2.2.1,(R.2.2.2.2.2.2.1,(R.2.2.2.2.2.2.2.1,(R.2.2.2.2.2.2.2.2.1,(R.2.2.2.2.2.2.2.2.2,(0,(w,(rows1,ms1))))))))))))))))/\FamK rows1 ms1 (withCli ks R.1)/\(withCli ks R.1)[cliAt ks R.1]? =some (kept1 ks R.1)/\(kept1 ks R.1).2.2.length<=1000/\((kept1 ks R.1).2.2.map (·.2.1)).Pairwise (·<·)) ?_ (fun o ho=> ?_)
    ·unfold withCli kept1;cases hk:kOf ks R.1 with
     |none=>
      simp only[Option.isSome_none,ZAy,ZAK,ZBP,if_false,Option.getD_none];rw[qjZ (by omega) (by omega)];refine⟨_,rfl,_,_,rfl,hF.insert (q:=cliAt ks R.1) (row:=(R.1,(0,.inr none))) (k:=(R.1,(0,[]))) (by omega) ⟨rfl,rfl⟩ rfl rfl,?_,by simp,by simp⟩;have e1:(ks.take (cliAt ks R.1)).length=cliAt ks R.1:=by rw[ZAS];omega
      rw[ZAr,ZAO (by omega),e1,ZBx]
      rfl
     |some k=>
      simp only[Option.isSome_some,ZAP,ZAE,ZCH,Option.getD_some];obtain⟨q1,q2⟩:=pIZ g2 hk;have hkm:=ZAN q1;have hkb:=eNZ.1 (g3 k hkm).2.2;exact⟨_,rfl,_,_,rfl,hF,q1,(h.2 k hkm).1,hkb.2.2.2.1⟩
    obtain⟨rows1,ms1,rfl,hF1,hq,hl1,hs1⟩:=ho;simp only;obtain⟨row,hrow,hsame,hpart⟩:=hF1.row hq;have hqr:=(ZAC.1 hrow).1;rw[anZ hqr];simp only[ZAA,hrow];rw[pFZ,hpart.view];erw[ZAA];rw[hVZ hl1 hs1];simp only[ZAA];rw[hown];simp only[ZAA];obtain⟨ms2,ho2,hm2,hF2⟩:=hF1.open_ hrow hq;rw[ho2];simp only[ZAA];rw[ownR,qIZ (i:=repAt (kept1 ks R.1).2.2 R.2.1) (jbZ _ _) hl1];simp only[ZAA];rw[ZAU hqr];simp only[ZAA];generalize hL:(kept1 ks R.1).2.2.take (repAt (kept1 ks R.1).2.2 R.2.1)++[R]++(kept1 ks R.1).2.2.drop (repAt (kept1 ks R.1).2.2 R.2.1)=L;have hLp:0<L.length:=by rw[<-hL];simp;omega
    have e0:refLen (s:=TREP) (.inr (some (ms2.length,(0,L.length))))=L.length:=rfl;simp only[e0];have hrow1:row.1=(kept1 ks R.1).1:=hsame.1;have hrow2:row.2.1=(kept1 ks R.1).2.1:=hsame.2;have hgoal:∀K:KeptT,putK w (kept1 ks R.1) R=K->some (w,((withCli ks R.1).set (cliAt ks R.1) K,(0:Int)))=some (putO (if true=true/\true=true/\(0:Int)=0 then((w,putKL w ks R),(0:Int)) else((w,ks),2))):=fun K hK=>by
     rw[ZAT ⟨rfl,rfl,rfl⟩,<-hK]
     rfl
    by_cases hw:((L.length:Nat):Int)>w
    ·rw[ZAJ hw];simp only[ZAK];have hx0:L[0]? =some L[0]:=ZAD hLp;have hF3:=hF2 (row.1,(row.2.1,.inr (some (ms2.length,(0,L.length))))) (row.1,(row.2.1,L)) ⟨rfl,rfl⟩ rfl;have hq3:(rows1.set (cliAt ks R.1) (row.1,(row.2.1,.inr (some (ms2.length,(0,L.length))))))[cliAt ks R.1]? =some (row.1,(row.2.1,.inr (some (ms2.length,(0,L.length))))):=ZAU hqr;have hk3:((withCli ks R.1).set (cliAt ks R.1) (row.1,(row.2.1,L)))[cliAt ks R.1]? =some (row.1,(row.2.1,L)):=ZAU (by have:=(ZAC.1 hq).1;omega);simp only[refO,ZAA];rw[aWZ (by omega) (by omega)];simp only[ZAA,Int.toNat_zero,ZB3];have hm3:(ms2++[(1,L)])[ms2.length]? =some (1,L):=by rw[ZAO (by omega),ZBx];rfl
     rw[hm3];simp only[ZAA];rw[adZ (by rfl)];simp only[hx0,ZAA];have hF4:=hF3.keep hq3 hk3 (row':=(row.1,(L[0].2.1,.inr (some (ms2.length,(0,L.length)))))) (k':=(row.1,(L[0].2.1,L))) ⟨rfl,rfl⟩ rfl rfl;have hq4:((rows1.set (cliAt ks R.1) (row.1,(row.2.1,.inr (some (ms2.length,(0,L.length)))))).set (cliAt ks R.1) (row.1,(L[0].2.1,.inr (some (ms2.length,(0,L.length))))))[cliAt ks R.1]? =some (row.1,(L[0].2.1,.inr (some (ms2.length,(0,L.length))))):=ZAU (by simpa using hqr);have hk4:(((withCli ks R.1).set (cliAt ks R.1) (row.1,(row.2.1,L))).set (cliAt ks R.1) (row.1,(L[0].2.1,L)))[cliAt ks R.1]? =some (row.1,(L[0].2.1,L)):=ZAU (by rw[ZA2];have:=(ZAC.1 hq).1;omega);rw[hq4];simp only[ZAA];obtain⟨ms5,ho5,hm5,hF5⟩:=hF4.open_ hq4 hk4;simp only at ho5;rw[ho5];simp only[ZAA];rw[q0Z hLp];simp only[ZAA];have hF6:=hF5 (row.1,(L[0].2.1,.inr (some (ms5.length,(0,(L.drop 1).length))))) (row.1,(L[0].2.1,L.drop 1)) ⟨rfl,rfl⟩ rfl;rw[FamK.pure_ hF6];erw[ZAA];simp only[List.set_set];refine hgoal _ ?_;unfold putK;rw[hL];simp only;rw[ZAT hw,hx0,hrow1]
    ·rw[ZAG hw];simp only[ZAE];have hF3:=hF2 (row.1,(row.2.1,.inr (some (ms2.length,(0,L.length))))) (row.1,(row.2.1,L)) ⟨rfl,rfl⟩ rfl;rw[FamK.pure_ hF3];erw[ZAA];refine hgoal _ ?_;unfold putK;rw[hL];simp only;rw[ZAQ hw,hrow1,hrow2]
   ·rw[ZA5.2 hlk];simp only[ZAy,ZAK];rw[hp,ZAQ (fun hc=>hlk hc.2.2)]
    rfl
end Go.Ab.D
set_option maxHeartbeats 4000000
set_option maxRecDepth 100000
namespace Go.Ab.D
open Go Go.Ab
abbrev PlaceT:Type:=Int×List Int
abbrev GateT:Type:=Int×(Tree×(CacheT×(List PlaceT×List Part)))
theorem gwZ{t:Tree}(h:Fit t.1):scop fuel t=some (t.2,t.1):=by
 unfold scop;rw[e7Z h.n,ZAA];have loop:scop_l0_it fuel t.1 (0,(t.2,(t.1,0)))=some (t.2,(t.1,0)):=by
  unfold scop_l0_it;refine a4Z (fun k=>((k:Int),(t.2,(t.1,0)))) t.1.length (by have:=h.n;omega) (fun k hk=> ?_) ?_
  ·unfold scop_l0;obtain⟨n,hg⟩:∃n,t.1[k]? =some n:=⟨_,ZAD hk⟩;have hsm:=h.at hg;have hs:t.1.set k n=t.1:=e9Z hg;simp only[aYZ hk,ZAK];rw[anZ hk];simp only[ZAA,hg];rw[c9Z hsm.1,ZAA,e6Z hsm.2,ZAA];show((idx? ((k:Nat):Int) (t.1.set k n).length).bind fun q3=>((t.1.set k n)[q3]?.bind _))=_;rw[hs,anZ hk,ZAA,hg,ZAA,w64 (by have:=h.n;omega)];show some (Sum.inl (_,(t.2,(t.1.set k n,0))))=_;rw[hs]
   rfl
  ·unfold scop_l0;simp only[aHZ (ZBL _),ZAE]
 rw[loop,ZAA]
theorem lOZ{l:List PlaceT}(h:l.length<=1000000000):sClo7 fuel l=some l:=g4Z (by rw[aCZ (by rw[avZ];omega),aCZ (by rw[avZ];omega)];rfl)
theorem mRZ{l:List Int}(h:l.length<=1000000000):sClo9 fuel l=some l:=g4Z (by rw[aCZ (by rw[avZ];omega),aCZ (by rw[avZ];omega)];rfl)
abbrev OwnS:Type:=Int×(Int×(Int×(List Part×(List Ino×(List KR×(List PlaceT×(Int×(Int×(Int×List (Nat×List ReplyT))))))))))
theorem own0{rows:List KR}{ms:List (Nat×List ReplyT)}{q j:Nat}{a b:Int}{l:List ReplyT}(hr:rows[q]? =some (a,(b,.inr (some (j,(0,l.length))))))(hm:ms[j]? =some (1,l))(hl:l.length<=1000)(hs:∀r∈l,smallR r)
 (h1 h2 h3:Int)(h4:List Part)(h5:List Ino)(h7:List PlaceT)(h8 h9 h10:Int):
 state_own_l1_it fuel (a,(b,.inr (some (j,(0,l.length))))) (q,(0,(h1,(h2,(h3,(h4,(h5,(rows,(h7,(h8,(h9,(h10,ms))))))))))))=some (h1,(h2,(h3,(h4,(h5,(rows,(h7,(h8,(h9,(h10,ms)))))))))):=by
 unfold state_own_l1_it;refine a4Z (fun k:Nat=>((q,((k:Int),(h1,(h2,(h3,(h4,(h5,(rows,(h7,(h8,(h9,(h10,ms)))))))))))):Nat×(Int×OwnS))) l.length (by omega) (fun k hk=> ?_) ?_
 ·show state_own_l1 fuel _ q (k:Int) h1 h2 h3 h4 h5 rows h7 h8 h9 h10 ms=_;unfold state_own_l1;have e0:refLen (s:=TREP) (.inr (some (j,(0,l.length))))=l.length:=rfl;have hx:l[k]? =some l[k]:=ZAD hk;have hsm:=hs _ (ZBo hk);simp only[e0];rw[ZAJ (show(k:Int)<((l.length:Nat):Int) by omega)];simp only[ZAK,hr,ZAA,refO];rw[anZ hk];simp only[ZAA,hm,ZAj,hx];rw[adZ (by rfl),pHZ (by have:=hsm.1;omega)];simp only[ZAA];rw[adZ (by rfl),pwZ (by have:=hsm.2;omega)];simp only[ZAA];rw[adZ (by rfl)];generalize hy:l[k]=y at hx⊢;have es:∀{z:ReplyT},z=y->List.set l k z=l:=fun e=>e▸dCZ hx;have em:∀{z:Nat×List ReplyT},z=(1,l)->List.set ms j z=ms:=fun e=>e▸dCZ hm;rw[show List.set ms j (1,List.set l k (y.1,(y.2.1,(y.2.2.1,(y.2.2.2.1,(y.2.2.2.2.1,(y.2.2.2.2.2.1,(y.2.2.2.2.2.2.1,y.2.2.2.2.2.2.2))))))))=ms from em (by rw[es rfl])];simp only[hm,ZAA];rw[adZ (by rfl)];simp only[hx,ZAA];rw[show List.set ms j (1,List.set l k (y.1,(y.2.1,(y.2.2.1,(y.2.2.2.1,(y.2.2.2.2.1,(y.2.2.2.2.2.1,(y.2.2.2.2.2.2.1,(y.2.2.2.2.2.2.2.1,y.2.2.2.2.2.2.2.2)))))))))=ms from em (by rw[es rfl]),w64 ⟨by omega,by omega⟩]
  rfl
 ·show state_own_l1 fuel _ q ((l.length:Nat):Int) h1 h2 h3 h4 h5 rows h7 h8 h9 h10 ms=_;unfold state_own_l1;have e0:refLen (s:=TREP) (.inr (some (j,(0,l.length))))=l.length:=rfl;simp only[e0];rw[ZAG (by omega)]
  rfl
theorem jnZ(ks:List KeptT)(hn:ks.length<=1000)(h:∀k∈ks,smallK k)(h1 h2 h3:Int)(h4:List Part)(h5:List Ino)(h7:List PlaceT)(h8 h9 h10:Int):
 ∃rows ms,state_own_l2_it fuel ks (0,(h1,(h2,(h3,(h4,(h5,(List.map (liftT TKR) (show List (TKR.unref.den) from ks),(h7,(h8,(h9,(h10,[])))))))))))=some (h1,(h2,(h3,(h4,(h5,(rows,(h7,(h8,(h9,(h10,ms))))))))))/\FamK rows ms ks:=by
 have h0:∀(i:Nat) (k:KeptT),ks[i]? =some k->(List.map (liftT TKR) (show List (TKR.unref.den) from ks))[i]? =some ((k.1,(k.2.1,.inl k.2.2)):KR):=fun i k hg=>by
  show(List.map (liftT TKR) (show List (TKR.unref.den) from ks))[i]? =some (liftT TKR k);rw[ZAW];show((show List KeptT from ks)[i]?).map _=_;rw[hg]
  rfl
 have loop:∃o,state_own_l2_it fuel ks (0,(h1,(h2,(h3,(h4,(h5,((List.map (liftT TKR) (show List (TKR.unref.den) from ks)),(h7,(h8,(h9,(h10,[])))))))))))=some o/\∃rows ms,o=(h1,(h2,(h3,(h4,(h5,(rows,(h7,(h8,(h9,(h10,ms))))))))))/\FamK rows ms ks:=by
  unfold state_own_l2_it;refine aRZ (fun m s=>∃(n:Nat) (rows:List KR) (ms:List (Nat×List ReplyT)),s=((n:Int),(h1,(h2,(h3,(h4,(h5,(rows,(h7,(h8,(h9,(h10,ms)))))))))))/\n+m=ks.length/\rows.length=ks.length/\ms.length=n/\∀(i:Nat) k,ks[i]? =some k->(i<n->rows[i]? =some (k.1,(k.2.1,.inr (some (i,(0,k.2.2.length)))))/\ms[i]? =some (1,k.2.2))/\(n<=i->rows[i]? =some (k.1,(k.2.1,.inl k.2.2)))) _ (fun m s hI=> ?_) (fun s hI=> ?_) ks.length _ (by omega) ⟨0,_,[],rfl,by omega,ZBB _,rfl,fun i k hg=>⟨fun hc=>absurd hc (ZCE _),fun _=>h0 i k hg⟩⟩
  ·obtain⟨n,rows,ms,rfl,hk,g1,g2,g3⟩:=hI;have hlt:n<ks.length:=by omega
   obtain⟨k,hg⟩:∃k,ks[n]? =some k:=⟨_,ZAD hlt⟩;have hrow:=(g3 n k hg).2 (ZAM _);have hsm:=h k (ZAN hg);left;refine⟨(((n+1:Nat):Int),(h1,(h2,(h3,(h4,(h5,(rows.set n (k.1,(k.2.1,.inr (some (n,(0,k.2.2.length))))),(h7,(h8,(h9,(h10,ms++[(1,k.2.2)]))))))))))),?_,n+1,_,_,rfl,by omega,by rw[ZA2];exact g1,by simp[g2],fun i k' hg'=>⟨fun hi=> ?_,fun hi=> ?_⟩⟩
   ·unfold state_own_l2;simp only;rw[ZAJ (show(n:Int)<((ks.length:Nat):Int) by omega),anZ (by omega)];simp only[ZAK,ZAA,hrow];rw[show lowD (.ref 1 TREP) (.inl k.2.2)=some k.2.2 from rfl];erw[ZAA];rw[pvZ (by have:=hsm.1;omega)];simp only[ZAA,g2];rw[ZAU (by omega)];simp only[ZAA];rw[own0 (ZAU (by omega)) (by rw[ZAO (by omega),g2,ZBx];rfl) hsm.1 hsm.2,w64 ⟨by omega,by omega⟩]
    rfl
   ·by_cases hin:i=n
    ·subst hin;rw[hg] at hg';cases hg';exact⟨ZAU (by omega),by rw[ZAO (by omega),g2,ZBx];rfl⟩
    ·have:=(g3 i k' hg').1 (by omega);rw[ZAg (by omega),ZAL (by omega)];exact this
   ·rw[ZAg (by omega)];exact(g3 i k' hg').2 (by omega)
  ·obtain⟨n,rows,ms,rfl,hk,g1,g2,g3⟩:=hI;have:n=ks.length:=by omega
   subst this;refine⟨(h1,(h2,(h3,(h4,(h5,(rows,(h7,(h8,(h9,(h10,ms)))))))))),?_,rows,ms,rfl,g1,fun i row k hr hk=> ?_,fun i i' row row' j p p' hii hr hr' hj hj'=> ?_⟩
   ·unfold state_own_l2;simp only;rw[ZAG (by omega)]
    rfl
   ·obtain⟨e1,e2⟩:=(g3 i k hk).1 (ZAC.1 hk).1;rw[e1] at hr;cases hr;exact⟨⟨rfl,rfl⟩,.inr ⟨i,rfl,e2⟩⟩
   ·have q:∀(i:Nat) (row:KR) (p:Nat×Nat),rows[i]? =some row->row.2.2= .inr (some (j,p))->j=i:=fun i row p hr hj=>by
     have hi:=(ZAC.1 hr).1;have hg:=ZAD (show i<ks.length by omega);obtain⟨e1,_⟩:=(g3 i _ hg).1 (by omega);rw[e1] at hr;cases hr;injection hj with hj;injection hj with hj;injection hj with hj;exact hj.symm
    have:=q i row p hr hj;have:=q i' row' p' hr' hj';omega
 obtain⟨o,ho,rows,ms,rfl,hF⟩:=loop;exact⟨rows,ms,ho,hF⟩
end Go.Ab.D
set_option maxHeartbeats 4000000
set_option maxRecDepth 100000
namespace Go.Ab.D
open Go Go.Ab
theorem lWZ(pl:List PlaceT)(hn:pl.length<=1000)(h:∀p∈pl,p.2.length<=1000)(h1 h2 h3:Int)(h4:List KeptT)(h5:List Part)(h6:List Ino)(h8 h9 h10:Int):
 state_own_l0_it fuel pl (0,(h1,(h2,(h3,(h4,(h5,(h6,(pl,(h8,(h9,h10))))))))))=some (h1,(h2,(h3,(h4,(h5,(h6,(pl,(h8,(h9,h10))))))))):=by
 unfold state_own_l0_it;refine a4Z (fun k:Nat=>((k:Int),(h1,(h2,(h3,(h4,(h5,(h6,(pl,(h8,(h9,h10))))))))))) pl.length (by omega) (fun k hk=> ?_) ?_
 ·show state_own_l0 fuel pl (k:Int) h1 h2 h3 h4 h5 h6 pl h8 h9 h10=_;unfold state_own_l0;have hx:pl[k]? =some pl[k]:=ZAD hk;rw[ZAJ (show(k:Int)<((pl.length:Nat):Int) by omega),ZAK,anZ hk,ZAA,hx,ZAA,mRZ (by have:=h _ (ZBo hk);omega),ZAA,ZAA,hx,ZAA,w64 (by omega)];generalize hy:pl[k]=y at hx⊢;rw[show List.set pl k (y.1,y.2)=pl from dCZ hx]
  rfl
 ·show state_own_l0 fuel pl ((pl.length:Nat):Int) h1 h2 h3 h4 h5 h6 pl h8 h9 h10=_;unfold state_own_l0;rw[ZAG (by omega)]
  rfl
theorem nNZ(s:GateT)(hf:Fit s.2.1.1)(hc:smallC s.2.2.1)(hp:s.2.2.2.1.length<=1000/\∀p∈s.2.2.2.1,p.2.length<=1000)(hd:s.2.2.2.2.length<=100000):
 state_own fuel s=some (s.1,(s.2.1.2,(s.2.2.1.1,(s.2.2.1.2,(s.2.1.1,(s.2.2.2.1,s.2.2.2.2)))))):=by
 obtain⟨life,t,⟨w,ks⟩,pl,dead⟩:=s;unfold state_own;simp only at hf hc hp hd⊢;rw[gwZ hf,ZAA,lOZ (by have:=hp.1;omega),ZAA];simp only;rw[lWZ pl hp.1 hp.2,ZAA];simp only;rw[p7Z (by have:=hc.1;simp only at this;omega),ZAA];obtain⟨rows,ms,ho,hF⟩:=jnZ ks hc.1 hc.2 life t.2 w dead t.1 pl 0 0 0;have ho':state_own_l2_it fuel ks (0,(life,(t.2,(w,(dead,(t.1,(List.map (liftT (.pair (.int .i64) (.pair (.int .i64) (.ref 1 TREP)))) (show List (TKR.unref.den) from ks),(pl,(0,(0,(0,[])))))))))))=some (life,(t.2,(w,(dead,(t.1,(rows,(pl,(0,(0,(0,ms)))))))))):=ho;erw[ho'];rw[ZAA];simp only;rw[c9Z hd,ZAA];have hp':=hF.pure_;erw[hp']
 rfl
def bareI(x:Ino):Ino:=(x.1,x.2.1,x.2.2.1,x.2.2.2.1,x.2.2.2.2.1,[],x.2.2.2.2.2.2.1,x.2.2.2.2.2.2.2)
def zeroI(x:Ino):Byt:=List.replicate x.2.2.2.2.1.toNat 0
theorem r2Z{α:Type}{f:α->α}{l:List α}{k:Nat}{x:α}(h:l[k]? =some x):((l.take k).map f++l.drop k).set k (f x)=(l.take (k+1)).map f++l.drop (k+1):=by
 obtain⟨hk,rfl⟩:=ZAC.1 h;have e:((l.take k).map f).length=k:=by simp;omega
 rw[List.set_append_right _ _ (by omega),e,ZBx,List.drop_eq_getElem_cons hk,ZBy,d4Z h,List.map_append,ZAr]
 rfl
theorem qYZ{α:Type}{f:α->α}{l:List α}{k:Nat}{x:α}(h:l[k]? =some x):((l.take k).map f++l.drop k)[k]? =some x:=by
 have hk:=(ZAC.1 h).1;rw[ZAO (by simp;omega)];simp[ZA8 (Nat.le_of_lt hk),h]
theorem keZ{T:Tree}(hf:Fit T.1)(hs:∀x∈T.1,0<=x.2.2.2.2.1/\x.2.2.2.2.1<=65536)(hn:T.1.length<=1000):sbar fuel T=some (T.2,(T.1.map bareI,T.1.map zeroI)):=by
 unfold sbar;rw[gwZ hf,ZAA];simp only;have loop:sbar_l0_it fuel (T.2,T.1) (0,(0,(T.2,(T.1,[]))))=some (0,(T.2,(T.1.map bareI,T.1.map zeroI))):=by
  unfold sbar_l0_it;have e:((0:Int),((0:Int),(T.2,(T.1,([]:List Byt)))))=(fun k:Nat=>((k:Int),((0:Int),(T.2,((T.1.take k).map bareI++T.1.drop k,(T.1.take k).map zeroI))))) 0:=by simp
  refine(congrArg (iter fuel _) e).trans ?_;refine a4Z (fun k:Nat=>((k:Int),((0:Int),(T.2,((T.1.take k).map bareI++T.1.drop k,(T.1.take k).map zeroI))))) T.1.length (by omega) (fun k hk=> ?_) ?_
  ·obtain⟨x,hx⟩:∃x,T.1[k]? =some x:=⟨_,ZAD hk⟩;have hsz:=hs x (ZAN hx);have hlen:((T.1.take k).map bareI++T.1.drop k).length=T.1.length:=by simp;omega
   have hset:List.set ((T.1.take k).map bareI++T.1.drop k) k (x.1,(x.2.1,(x.2.2.1,(x.2.2.2.1,(x.2.2.2.2.1,([],x.2.2.2.2.2.2))))))=(T.1.take (k+1)).map bareI++T.1.drop (k+1):=r2Z hx;have hlen2:((T.1.take (k+1)).map bareI++T.1.drop (k+1)).length=T.1.length:=by rw[<-hset,ZA2,hlen]
   have hg:((T.1.take (k+1)).map bareI++T.1.drop (k+1))[k]? =some (bareI x):=by
    rw[<-hset,ZAU (by rw[hlen];exact hk)];rfl
   show sbar_l0 fuel (T.2,T.1) (k:Int) 0 T.2 ((T.1.take k).map bareI++T.1.drop k) ((T.1.take k).map zeroI)=_;unfold sbar_l0;simp only;rw[ZAJ (show(k:Int)<((T.1.length:Nat):Int) by omega),ZAK,hlen,anZ hk,ZAA,qYZ hx,ZAA];rw[hset,hlen2,anZ hk,ZAA,hg,ZAA];rw[show(bareI x).2.2.2.2.1=x.2.2.2.2.1 from rfl,cOZ hsz.1 (by rw[avZ];omega),ZAA,cOZ hsz.1 (by omega),ZAA,adZ (by rw[ZAm,avZ];omega),adZ (by simp only[ZAB,ZAm,avZ,ZBB,ZAS];omega),w64 (by omega),d4Z hx];simp only[List.map_append]
   rfl
  ·show sbar_l0 fuel (T.2,T.1) ((T.1.length:Nat):Int) 0 T.2 _ _=_;unfold sbar_l0;simp only;rw[ZAG (by omega)];simp
 rw[loop,ZAA]
def rootI:Ino:=(1,1,true,true,0,[],1,[([102],2)])
def tf(sz:Int)(P:List Part)(w:Int):Tree:=([rootI,(2,1,true,false,sz,P,1,[])],w)
structure GoodP (P:List Part) (w:Int):Prop where
 n:P.length<=4096
 ok:∀p∈P,okPart w p
 nd:(stripes P).Nodup
 w:0<=w/\w<=1099511627776
theorem msZ{w:Int}(h:0<=w/\w<=1099511627776):GoodP [] w:=⟨by simp,fun p hp=>(by cases hp),List.nodup_nil,h⟩
theorem ibZ{sz:Int}{P:List Part}{w:Int}{i:Nat}{n:Ino}(h:(tf sz P w).1[i]? =some n):(i=0/\n=rootI)\/(i=1/\n=(2,1,true,false,sz,P,1,[])):=by
 match i with
 |0=>simp[tf] at h;exact .inl ⟨rfl,h.symm⟩
 |1=>simp[tf] at h;exact .inr ⟨rfl,h.symm⟩
 |i+2=>simp[tf] at h
theorem pTZ{sz:Int}{P:List Part}{w:Int}(hs:0<=sz/\sz<=65536)(h:GoodP P w):TreeOK (tf sz P w):=by
 refine⟨⟨by simp[tf],h.w,fun i n hn=> ?_,?_,⟨rootI,rfl,rfl,rfl,rfl⟩⟩,fun i n hn s id he=> ?_,fun j x hx _ hj=> ?_,fun j x hx _=> ?_⟩
 ·rcases ibZ hn with⟨rfl,rfl⟩|⟨rfl,rfl⟩
  ·exact⟨rfl,by decide,fun _=>by simp[tf,rootI],fun _ _=>⟨rfl,rfl,by decide,by simp[rootI,okEnts,tf];decide⟩,fun _ h=>(by cases h),fun h=>(by cases h)⟩
  ·exact⟨rfl,by simp,fun _=>by simp[tf],fun _ h=>(by cases h),fun _ _=>⟨hs,rfl,h.n,h.ok⟩,fun h=>(by cases h)⟩
 ·show(stripes []++(stripes P++[])).Nodup;rw[ZA1];exact h.nd
 ·rcases ibZ hn with⟨rfl,rfl⟩|⟨rfl,rfl⟩
  ·simp only[rootI,ZBQ,ZAs] at he;obtain⟨rfl,rfl⟩:=he;exact⟨by kernel_rfl,by decide,_,rfl,rfl,rfl⟩
  ·cases he
 ·rcases ibZ hx with⟨rfl,rfl⟩|⟨rfl,rfl⟩
  ·exact absurd rfl hj
  ·exact⟨rootI,[102],rfl,by simp[rootI],fun s' hs'=>by simpa[rootI] using hs'⟩
 ·rcases ibZ hx with⟨rfl,rfl⟩|⟨rfl,rfl⟩
  ·exact .root
  ·exact .step (x:=(2,1,true,false,sz,P,1,[])) rfl rfl .root
end Go.Ab.D
set_option maxHeartbeats 4000000
set_option maxRecDepth 100000
namespace Go.Ab.D
open Go Go.Ab
theorem dAZ(a b:Nat):Int.tdiv (a:Int) (b:Int)=((a/b:Nat):Int):=(Int.ofNat_tdiv a b).symm
theorem dSZ{a q:Nat}(ha:a<=1000000)(hq:1<=q/\q<=1000):spie fuel (a:Int) (q:Int)=some (((a+q-1)/q:Nat):Int):=by
 unfold spie;have h1:(a+q-1)/q<=a+q-1:=Nat.div_le_self _ _;rw[adZ (by rw[ZAG (by omega)];rfl),w64 (x:=(a:Int)+q) (by omega),w64 (x:=(a:Int)+q-1) (by omega),show(a:Int)+q-1=((a+q-1:Nat):Int) by omega,dAZ];generalize (a+q-1)/q=z at h1⊢;rw[w64 (by omega)]
def pl3:List PlaceT:=[(1,[0,1,2])]
theorem ogZ:spla fuel pl3=some true:=by kernel_rfl
theorem o4Z(x:Ino)(hx:x.2.2.2.2.2.1.length<=100000)(h:List GateT)(M:GM):∃M',sRig_l0_it fuel (false,(h,(M,x))) (0,(h,M))=some (h,M'):=by
 unfold sRig_l0_it;obtain⟨o,ho,M',hM⟩:=aRZ (f:=fun tt:Int×(List GateT×GM)=>sRig_l0 fuel (false,(h,(M,x))) tt.1 tt.2.1 tt.2.2) (fun r s=>∃(k:Nat) (M':GM),s=((k:Int),(h,M'))/\k+r=x.2.2.2.2.2.1.length) (fun o=>∃M',o=(h,M')) (fun r s hI=>by
  obtain⟨k,M',rfl,hk⟩:=hI;obtain⟨p,hp⟩:∃p,x.2.2.2.2.2.1[k]? =some p:=⟨_,ZAD (by omega)⟩;left;refine⟨(((k+1:Nat):Int),(h,mput (k:=.int .i64) (v:=.int .i64) M' p.1 1)),?_,k+1,_,rfl,by omega⟩;show sRig_l0 fuel (false,(h,(M,x))) (k:Int) h M'=_;unfold sRig_l0;simp only;rw[ZAJ (by omega),ZAK,anZ (by omega),ZAA,hp,ZAA,w64 (by omega)]
  rfl) (fun s hI=>by
  obtain⟨k,M',rfl,hk⟩:=hI;have:k=x.2.2.2.2.2.1.length:=by omega
  subst this;refine⟨(h,M'),?_,M',rfl⟩;show sRig_l0 fuel (false,(h,(M,x))) _ h M'=_;unfold sRig_l0;simp only;rw[ZAG (by omega)]
  rfl) x.2.2.2.2.2.1.length (0,(h,M)) (by omega) ⟨0,M,rfl,by omega⟩
 exact⟨M',by rw[ho,hM]⟩
theorem ooZ(s:GateT)(hd:s.2.2.2.2=[])(M:GM):∃M',sdrom1 fuel s M=some (true,M'):=by
 obtain⟨a,b,c,d,e⟩:=s;simp only at hd;subst hd;exact⟨M,by kernel_rfl⟩
theorem gFZ{T:Tree}{ca:CacheT}{q:Nat}(hT:TreeOK T)(hq:16<=q/\q<=65)(hc:rightC ca=true)
 (hl:∀(i:Nat) x,T.1[i]? =some x->x.2.2.1=true->x.2.2.2.1=false->x.2.2.2.2.2.1.length=(x.2.2.2.2.1.toNat+q-1)/q):sRig fuel (0,(T,(ca,(pl3,[])))) (q:Int)=some true:=by
 unfold sRig ssiz;have hn:=hT.r.len;rw[ZAJ (show(q:Int)>=16 by omega),ZAK,ZAA,ZAJ (show(q:Int)<=65536 by omega)];simp only[ZAP,ZAE,show decide ((0:Int)<0)=false from rfl,show decide ((0:Int)>1099511627776)=false from rfl];rw[cGZ hT,ZAA,gSZ ca (clZ hc),hc,ZAA];simp only[ZAP,ZAE];rw[ogZ,ZAA,ZAA];simp only[ZAP,ZAE,ZAX,ZAA];generalize hg:((0,(T,(ca,(pl3,[])))):GateT)=g;have hgT:g.2.1=T:=by rw[<-hg]
 have loop:∃o,sRig_l1_it fuel g (q:Int) (0,([g],([],0)))=some o/\∃M':GM,o= .inl ([g],M'):=by
  unfold sRig_l1_it;refine aRZ (f:=fun tt:Int×(List GateT×GM)=>sRig_l1 fuel g (q:Int) tt.1 tt.2.1 tt.2.2) (fun r s=>∃(k:Nat) (M':GM),s=((k:Int),([g],M'))/\k+r=T.1.length) (fun o=>∃M',o= .inl ([g],M')) (fun r s hI=> ?_) (fun s hI=> ?_) T.1.length (0,([g],([],0))) (by omega) ⟨0,([],0),rfl,by omega⟩
  ·obtain⟨k,M',rfl,hk⟩:=hI;obtain⟨x,hx⟩:∃x,T.1[k]? =some x:=⟨_,ZAD (by omega)⟩;have hf:=(hT.r.fit).at hx;have hz:=neZ hT hx;left;obtain⟨M2,hM2⟩:=o4Z x hf.1 [g] M';refine⟨(((k+1:Nat):Int),([g],M2)),?_,k+1,_,rfl,by omega⟩;show sRig_l1 fuel g (q:Int) (k:Int) [g] M'=_;unfold sRig_l1;simp only[hgT];rw[ZAJ (by omega),ZAK,anZ (by omega),ZAA,hx,ZAA];have test:(bif x.2.2.1 then bif (!x.2.2.2.1) then(spie fuel x.2.2.2.2.1 (q:Int)).bind fun r6=>some ((!(((x.2.2.2.2.2.1.length:Nat):Int)==r6)),([g],(M',x))) else some (false,([g],(M',x))) else some (false,([g],(M',x))))=some (false,([g],(M',x))):=by
    cases hu:x.2.2.1
    ·rfl
    ·cases hd:x.2.2.2.1
     ·simp only[ZAK,ZAy];rw[show x.2.2.2.2.1=((x.2.2.2.2.1.toNat:Nat):Int) by omega,dSZ (by omega) (by omega),ZAA,hl k x hx hu hd];simp
     ·rfl
   rw[test,ZAA];simp only[ZAE];rw[hM2,ZAA,w64 (by omega)]
   rfl
  ·obtain⟨k,M',rfl,hk⟩:=hI;have:k=T.1.length:=by omega
   subst this;refine⟨.inl ([g],M'),?_,M',rfl⟩;show sRig_l1 fuel g (q:Int) _ [g] M'=_;unfold sRig_l1;simp only[hgT];rw[ZAG (by omega)]
   rfl
 obtain⟨o,ho,M',rfl⟩:=loop;obtain⟨M2,h2⟩:=ooZ g (by rw[<-hg]) M';rw[ho,ZAA];simp only[ZAX,ZAA];rw[h2,ZAA]
end Go.Ab.D
