/- What the functions compute; the plain law. -/
import Derived.Test.YtdeibkibmmnnoaaGreatModelReadsD3
set_option linter.all false
namespace Go.Ab
theorem ZAL:type_of% @decide_eq_false:=@decide_eq_false
theorem ZAS:type_of% @decide_eq_true:=@decide_eq_true
theorem ZAb.{u}:type_of% @beq_eq_false_iff_ne.{u}:=@beq_eq_false_iff_ne.{u}
theorem ZAe:type_of% @Bool.not_false:=@Bool.not_false
theorem ZA0.{u}:type_of% @List.findIdx?_eq_some_iff_getElem.{u}:=@List.findIdx?_eq_some_iff_getElem.{u}
theorem ZA8.{u}:type_of% @List.take_succ_eq_append_getElem.{u}:=@List.take_succ_eq_append_getElem.{u}
theorem ZBf.{u}:type_of% @List.length_filter_le.{u}:=@List.length_filter_le.{u}
theorem ZBt:type_of% @Nat.not_lt_zero:=@Nat.not_lt_zero
theorem ZBx:type_of% @UInt8.not_lt:=@UInt8.not_lt
theorem ZBz:type_of% @Classical.byContradiction:=@Classical.byContradiction
theorem ZB0.{u}:type_of% @List.take_succ.{u}:=@List.take_succ.{u}
theorem ZB3:type_of% @UInt8.lt_irrefl:=@UInt8.lt_irrefl
theorem ZB4:type_of% @UInt8.le_antisymm:=@UInt8.le_antisymm
end Go.Ab
namespace Go.Ab
theorem w64{x:Int}(h: -9223372036854775808<=x/\x<=9223372036854775807):IntKind.wrap .i64 x=x:=by
 simp only[IntKind.wrap,IntKind.bits,IntKind.signed];simp;omega
theorem wu64{x:Int}(h:0<=x/\x<=18446744073709551615):IntKind.wrap .u64 x=x:=by
 simp only[IntKind.wrap,IntKind.bits,IntKind.signed];simp;omega
theorem oAZ(a b:Nat):Int.fdiv (a:Int) (b:Int)=((a/b:Nat):Int):=by
 rw[Int.fdiv_eq_ediv_of_nonneg _ (by omega)];rfl
theorem ajZ{i n:Nat}(h:i<n):idx? (i:Int) n=some i:=by simp[idx?,h]
theorem avZ{x:Int}{n:Nat}(h0:0<=x)(h:x<n):idx? x n=some x.toNat:=by simp[idx?,h0,h]
theorem aJZ{i n:Nat}(h:i<=n):upto? (i:Int) n=some i:=by simp[upto?,h]
theorem kyZ{x:Int}{n:Nat}(h0:0<=x)(h:x<=n):upto? x n=some x.toNat:=by simp[upto?,h0,h]
theorem kFZ{n:Nat}(h:n<256):byte? (n:Int)=some (UInt8.ofNat n):=by
 have:(n:Int)<256:=by omega
 simp[byte?,this]
theorem abZ{β:Type}{b:Bool}{K:Option β}(h:b=true):need b K=K:=by subst h;rfl
theorem ciZ{a b:Nat}(h:a<=b):Nat.ble a b=true:=ZAg h
theorem cQZ{β:Type}{n:Nat}{K:Bool->Option β}(h:n=0->K true=K false):nilQ n K=K false:=by
 unfold nilQ;rw[ZAO h]
theorem bcZ:room=140737488355328:=rfl
theorem o4Z{n:Nat}(h:n<4611686018427387904):∃m,fuel=m+(n+1):=⟨4611686018427387903-n,by unfold fuel;omega⟩
theorem g9Z{τ ο:Type}{f:τ->Option (τ⊕ο)}(S:Nat->τ):∀(n m:Nat),(∀k,k<n->f (S k)=some (.inl (S (k+1))))->iter (m+n) f (S 0)=iter m f (S n)
 |0,m,_=>rfl
 |n+1,m,h=>by
  have e:m+(n+1)=(m+1)+n:=by omega
  rw[e,g9Z S n (m+1) fun k hk=>h k (by omega)];show(f (S n)).ob _=_;rw[h n (by omega)]
  rfl
theorem aLZ{τ ο:Type}{f:τ->Option (τ⊕ο)}{o:ο}(S:Nat->τ)(n:Nat)(hn:n<4611686018427387904)(hs:∀k,k<n->f (S k)=some (.inl (S (k+1))))(he:f (S n)=some (.inr o)):iter fuel f (S 0)=some o:=by
 obtain⟨m,hm⟩:=o4Z hn;have e:fuel=(m+1)+n:=by omega
 rw[e,g9Z S n (m+1) hs];show(f (S n)).ob _=_;rw[he]
 rfl
theorem dRZ{τ ο:Type}{f:τ->Option (τ⊕ο)}{s s':τ}{n:Nat}(h:f s=some (.inl s')):iter (n+1) f s=iter n f s':=by
 show(f s).ob _=_;rw[h]
 rfl
theorem cgZ{τ ο:Type}{f:τ->Option (τ⊕ο)}{s:τ}{o:ο}{n:Nat}(h:f s=some (.inr o)):iter (n+1) f s=some o:=by
 show(f s).ob _=_;rw[h]
 rfl
theorem rmZ(n:Nat)(h:n<4611686018427387904):∃m,fuel=m+n+1:=⟨4611686018427387903-n,by unfold fuel;omega⟩
theorem aKZ{τ ο:Type}{f:τ->Option (τ⊕ο)}(I:Nat->τ->Prop)(Q:ο->Prop)(hs:∀n s,I (n+1) s->(∃s',f s=some (.inl s')/\I n s')\/∃o,f s=some (.inr o)/\Q o)(he:∀s,I 0 s->∃o,f s=some (.inr o)/\Q o):∀(n:Nat) (s:τ),n<4611686018427387904->I n s->∃o,iter fuel f s=some o/\Q o:=by
 have main:∀(n m:Nat) (s:τ),n<m->I n s->∃o,iter m f s=some o/\Q o:=fun n=>by
  induction n with
  |zero=>
   intro m s hm hi;obtain⟨m,rfl⟩:∃k,m=k+1:=⟨m-1,by omega⟩;obtain⟨o,h1,h2⟩:=he s hi;exact⟨o,cgZ h1,h2⟩
  |succ n ih=>
   intro m s hm hi;obtain⟨m,rfl⟩:∃k,m=k+1:=⟨m-1,by omega⟩;rcases hs n s hi with⟨s',h1,h2⟩|⟨o,h1,h2⟩
   ·rw[dRZ h1];exact ih m s' (by omega) h2
   ·exact⟨o,cgZ h1,h2⟩
 exact fun n s hn hi=>main n fuel s hn hi
theorem eBZ{α β:Type}{x:Option α}{k:α->Option β}(R:Option β->Prop)(P:α->Prop)(h:∃v,x=some v/\P v)(hk:∀v,P v->R (k v)):R (x.bind k):=by
 obtain⟨v,rfl,hv⟩:=h;exact hk v hv
theorem hrZ{τ ο:Type}{f:τ->Option (τ⊕ο)}{s:τ}{o:ο}(h:f s=some (.inr o)):iter fuel f s=some o:=by
 obtain⟨n,hn⟩:=rmZ 0 (by omega);rw[hn];exact cgZ h
end Go.Ab
namespace Go.Ab
section
variable {τ κ ο γ : Type} {hd : τ → Option (List (κ × Nat))} {f : τ → κ × Nat → Option (τ ⊕ ο)}
end
end Go.Ab
namespace Go.Ab
section
variable {k v : Ty}
def KeyEq(k:Ty):Prop:=∀x a:k.den,k.eqb x a=true↔x=a
theorem dKZ(i:IntKind):KeyEq (.int i):=fun x a=>by
 show((x:Int)==a)=true↔_;exact ZBL
theorem KeyEq.ne(h:KeyEq k){x a:k.den}(hn:x≠a):k.eqb x a=false:=by
 cases e:k.eqb x a with
 |false=>rfl
 |true=>exact absurd ((h x a).1 e) hn
theorem KeyEq.self(h:KeyEq k)(x:k.den):k.eqb x x=true:=(h x x).2 rfl
theorem e3Z(h:KeyEq k):∀(l:List ((k.den×v.den)×Nat)) (x:k.den) (y:v.den) (n:Nat) (z:k.den),mfind (l++[((x,y),n)]) z=match mfind l z with|some e=>some e|none=>bif k.eqb z x then some (y,n) else none
 |[],x,y,n,z=>rfl
 |((a,b),m)::l,x,y,n,z=>by
  show(bif k.eqb z a then some (b,m) else mfind (l++[((x,y),n)]) z)=match(bif k.eqb z a then some (b,m) else mfind l z) with|some e=>some e|none=>bif k.eqb z x then some (y,n) else none
  cases k.eqb z a with
  |true=>rfl
  |false=>exact e3Z h l x y n z
theorem gCZ(h:KeyEq k):∀(l:List ((k.den×v.den)×Nat)) (x:k.den) (y:v.den) (z:k.den),z≠x->mfind (mset l x y) z=mfind l z
 |[],x,y,z,_=>rfl
 |((a,b),m)::l,x,y,z,hz=>by
  show mfind (bif k.eqb x a then((x,y),m)::l else((a,b),m)::mset l x y) z=bif k.eqb z a then some (b,m) else mfind l z;cases e:k.eqb x a with
  |true=>
   have:=(h x a).1 e;subst this;show(bif k.eqb z x then some (y,m) else mfind l z)=_;rw[h.ne hz]
   rfl
  |false=>
   show(bif k.eqb z a then some (b,m) else mfind (mset l x y) z)=_;rw[gCZ h l x y z hz]
theorem cUZ(h:KeyEq k):∀(l:List ((k.den×v.den)×Nat)) (x:k.den) (y:v.den) e,mfind l x=some e->mfind (mset l x y) x=some (y,e.2)
 |[],x,y,e,he=>by cases he
 |((a,b),m)::l,x,y,e,he=>by
  have he':(bif k.eqb x a then some (b,m) else mfind l x)=some e:=he;show mfind (bif k.eqb x a then((x,y),m)::l else((a,b),m)::mset l x y) x=_;cases ea:k.eqb x a with
  |true=>
   rw[ea] at he';injection he' with he';subst he';show(bif k.eqb x x then some (y,m) else mfind l x)=_;rw[h.self]
   rfl
  |false=>
   rw[ea] at he';show(bif k.eqb x a then some (b,m) else mfind (mset l x y) x)=_;rw[ea];exact cUZ h l x y e he'
theorem hSZ(h:KeyEq k)(m:GMap k v)(x:k.den)(y:v.den):mget (mput m x y) x=some y:=by
 unfold mget mput;cases e:mfind m.1 x with
 |some e'=>simp only;rw[cUZ h _ _ _ _ e];rfl
 |none=>simp only;rw[e3Z h,e];simp only;rw[h.self];rfl
theorem eIZ(h:KeyEq k)(m:GMap k v)(x:k.den)(y:v.den){z:k.den}(hz:z≠x):mget (mput m x y) z=mget m z:=by
 unfold mget mput;cases e:mfind m.1 x with
 |some e'=>simp only;rw[gCZ h _ _ _ _ hz]
 |none=>
  simp only;rw[e3Z h,h.ne hz];cases mfind m.1 z<;>rfl
def keysU(m:GMap k v):Prop:=(m.1.map fun e=>e.1.1).Nodup
end
end Go.Ab
namespace Go.Ab.D
open Go Go.Ab
abbrev Part:=Int×Int
abbrev Ent:=List UInt8×Int
abbrev Ino:=Int×Int×Bool×Bool×Int×List Part×Int×List Ent
abbrev Tree:=List Ino×Int
def Ino.sm(n:Ino):Prop:=n.2.2.2.2.2.1.length<=100000/\n.2.2.2.2.2.2.2.length<=100000
structure Fit (l:List Ino):Prop where
 n:l.length<=100000
 s:∀n∈l,Ino.sm n
theorem Fit.at{l:List Ino}(h:Fit l){i:Nat}{n:Ino}(e:l[i]? =some n):Ino.sm n:=h.s n (ZAQ e)
theorem dQZ{l:List Part}(h:l.length<=100000):sClo3 fuel l=some l:=by
 unfold sClo3;rw[cQZ]
 ·simp only[ZAC];rw[abZ];simp only[ZAD,ZAu,bcZ];omega
 ·intro h0;have:=ZAR h0;subst this;simp only[ZAF,ZAC];rw[abZ];simp only[ZAD,ZAu,bcZ];omega
theorem eiZ{l:List Ent}(h:l.length<=100000):sClo2 fuel l=some l:=by
 unfold sClo2;rw[cQZ]
 ·simp only[ZAC];rw[abZ];simp only[ZAD,ZAu,bcZ];omega
 ·intro h0;have:=ZAR h0;subst this;simp only[ZAF,ZAC];rw[abZ];simp only[ZAD,ZAu,bcZ];omega
theorem dsZ{l:List Ino}(h:l.length<=100000):sClo fuel l=some l:=by
 unfold sClo;rw[cQZ]
 ·simp only[ZAC];rw[abZ];simp only[ZAD,ZAu,bcZ];omega
 ·intro h0;have:=ZAR h0;subst this;simp only[ZAF,ZAC];rw[abZ];simp only[ZAD,ZAu,bcZ];omega
theorem k3Z{n:Ino}(h:n.sm):inode_own fuel n=some (n.1,n.2.1,n.2.2.1,n.2.2.2.1,n.2.2.2.2.1,n.2.2.2.2.2.2.1,n.2.2.2.2.2.1,n.2.2.2.2.2.2.2):=by
 unfold inode_own;rw[dQZ h.1,ZAA,eiZ h.2,ZAA]
theorem hHZ{α:Type}{l:List α}{i:Nat}{x:α}(h:l[i]? =some x):l.set i x=l:=by
 obtain⟨h1,h2⟩:=ZAB.1 h;rw[<-h2];exact List.set_getElem_self h1
theorem a8Z{i n:Nat}(h:i<n):decide ((i:Int)<((n:Nat):Int))=true:=by simp;omega
theorem arZ{i n:Nat}(h:¬i<n):decide ((i:Int)<((n:Nat):Int))=false:=by simp;omega
def isB(l:List Ino)(id:Int)(dir:Bool):Bool:=
 decide (1<=id)&&match l[(id-1).toNat]? with
  |some n=>n.2.2.1&&n.2.2.2.1==dir
  |none=>false
theorem m9Z{t:Tree}(h:Fit t.1)(id:Int)(dir:Bool):inode_is fuel t id dir=some (isB t.1 id dir):=by
 unfold inode_is isB;by_cases h1:1<=id
 ·rw[show decide (id>=1)=true from by simp;omega,ZAF,ZA9];by_cases h2:id<=((t.1.length:Nat):Int)
  ·have hn:=h.n;rw[show decide (id<=((t.1.length:Nat):Int))=true from by simp;omega,ZAF,w64 (by omega),avZ (by omega) (by omega),ZAA];have hlt:(id-1).toNat<t.1.length:=by omega
   obtain⟨n,hg⟩:∃n,t.1[(id-1).toNat]? =some n:=⟨_,ZAE hlt⟩;rw[hg];simp only[ZAA];cases n.2.2.1
   ·rfl
   ·simp only[ZAF,ZA9];rw[hg]
    rfl
  ·rw[show decide (id<=((t.1.length:Nat):Int))=false from by simp;omega,ZAC];rw[ZAr (by omega)]
 ·rw[show decide (id>=1)=false from by simp;omega,ZAC,Bool.false_and]
end Go.Ab.D
namespace Go.Ab.D
open Go Go.Ab
def most:Int:=1099511627776
def okPart(stripe:Int)(p:Part):Prop:=(p.1=0/\p.2=0)\/(1<=p.1/\p.1<=stripe/\1<=p.2/\p.2<=1099511627776)
def stripes(l:List Part):List Int:=(l.filter fun p=>p.1 !=0).map (·.1)
def okEnts(many:Int):List UInt8->List Ent->Prop
 |_,[]=>True
 |last,e::r=>1<=e.1.length/\e.1.length<=30/\Op.bytesLess last e.1=true/\1<=e.2/\e.2<=many/\okEnts many e.1 r
theorem byZ(many:Int)(last:List UInt8)(e:Ent)(r:List Ent):okEnts many last (e::r)=(1<=e.1.length/\e.1.length<=30/\Op.bytesLess last e.1=true/\1<=e.2/\e.2<=many/\okEnts many e.1 r):=rfl
structure okIno (many stripe:Int) (i:Nat) (n:Ino):Prop where
 id:n.1=i+1
 gen:1<=n.2.1/\n.2.1<=1099511627776
 par:n.2.2.1=true->1<=n.2.2.2.2.2.2.1/\n.2.2.2.2.2.2.1<=many
 dir:n.2.2.1=true->n.2.2.2.1=true->n.2.2.2.2.1=0/\n.2.2.2.2.2.1=[]/\n.2.2.2.2.2.2.2.length<=100/\okEnts many [] n.2.2.2.2.2.2.2
 file:n.2.2.1=true->n.2.2.2.1=false->(0<=n.2.2.2.2.1/\n.2.2.2.2.1<=65536)/\n.2.2.2.2.2.2.2=[]/\n.2.2.2.2.2.1.length<=4096/\∀p∈n.2.2.2.2.2.1,okPart stripe p
 bare:n.2.2.1=false->n.2.2.2.1=false/\n.2.2.2.2.1=0/\n.2.2.2.2.2.2.1=0/\n.2.2.2.2.2.1=[]/\n.2.2.2.2.2.2.2=[]
def allStripes(l:List Ino):List Int:=l.flatMap fun n=>stripes n.2.2.2.2.2.1
structure RightP (t:Tree):Prop where
 len:1<=t.1.length/\t.1.length<=500
 str:0<=t.2/\t.2<=1099511627776
 ino:∀i n,t.1[i]? =some n->okIno t.1.length t.2 i n
 nod:(allStripes t.1).Nodup
 root:∃r,t.1[0]? =some r/\r.2.2.1=true/\r.2.2.2.1=true/\r.2.2.2.2.2.2.1=1
theorem b3Z(a b:List Part):stripes (a++b)=stripes a++stripes b:=by simp[stripes]
theorem eHZ{p:Part}(h:p.1=0):stripes [p]=[]:=by simp[stripes,h]
theorem dEZ{p:Part}(h:p.1≠0):stripes [p]=[p.1]:=by simp[stripes,h]
theorem i6Z{l:List UInt8}(h:1<=l.length):Op.bytesLess [] l=true:=by
 cases l with
 |nil=>simp at h
 |cons a l=>rfl
theorem gDZ:∀(a b:List UInt8),(Op.bytesLess a b||(a==b))= !Op.bytesLess b a
 |[],[]=>rfl
 |[],b::l=>by simp[Op.bytesLess]
 |a::l,[]=>by simp[Op.bytesLess]
 |a::l,b::m=>by
  have ih:=gDZ l m;have ne:(a::l==b::m)=(a==b&&l==m):=rfl;rw[ne];by_cases h:a<b
  ·have h2:¬b<a:=by exact fun h2=>absurd (UInt8.lt_trans h h2) (ZB3 _)
   have h3:b≠a:=fun e=>by subst e;exact ZB3 _ h
   simp[Op.bytesLess,h,h2,h3]
  ·by_cases h2:b<a
   ·have h3:a≠b:=fun e=>by subst e;exact ZB3 _ h2
    simp[Op.bytesLess,h,h2,h3,ZBj h3]
   ·have h3:a=b:=ZB4 (ZBx.1 h2) (ZBx.1 h);subst h3;simp only[Op.bytesLess,h,ZAP,ZA9];simpa using ih
theorem qrZ(e:Ent)(h:List UInt8)(many:Int):∃w,idir1 fuel e h many=some (w,(e.1,many))/\(w=true↔¬(1<=e.1.length/\e.1.length<=30/\Op.bytesLess h e.1=true/\1<=e.2/\e.2<=many)):=by
 unfold idir1;rw[gDZ];by_cases h1:e.1.length<1
 ·rw[show decide (((e.1.length:Nat):Int)<1)=true from by simp;omega];exact⟨true,rfl,by simp;omega⟩
 rw[show decide (((e.1.length:Nat):Int)<1)=false from by simp;omega,ZAC];by_cases h2:e.1.length>30
 ·rw[show decide (((e.1.length:Nat):Int)>30)=true from by simp;omega];exact⟨true,rfl,by simp;omega⟩
 rw[show decide (((e.1.length:Nat):Int)>30)=false from by simp;omega,ZAC];cases h3:Op.bytesLess h e.1 with
 |false=>exact⟨true,rfl,by simp⟩
 |true=>
  simp only[ZAJ,ZAC];by_cases h4:e.2<1
  ·rw[show decide (e.2<1)=true from by simp;omega];exact⟨true,rfl,by simp;omega⟩
  rw[show decide (e.2<1)=false from by simp;omega,ZAC];exact⟨_,rfl,by simp;omega⟩
theorem oLZ(l:List Ent)(many:Int)(hl:l.length<=100000):
 ∃o,sIndFun6_l0_it fuel l (0,([],many))=some o/\((∃a b,o= .inl (a,b)/\okEnts many [] l)\/(∃(k:Nat),∃a b,o= .inr ((k:Int),(a,b))/\¬okEnts many [] l)):=by
 unfold sIndFun6_l0_it;refine aKZ (fun n s=>∃(k:Nat) (last:List UInt8),s=((k:Int),(last,many))/\k+n=l.length/\(okEnts many [] l↔okEnts many last (l.drop k))) _ (fun n s hI=> ?_) (fun s hI=> ?_) l.length _ (by omega) ⟨0,[],rfl,by omega,by simp⟩
 ·obtain⟨k,last,rfl,hk,hi⟩:=hI;have hlt:k<l.length:=by omega
  obtain⟨e,hg⟩:∃e,l[k]? =some e:=⟨_,ZAE hlt⟩;have hd:l.drop k=e::l.drop (k+1):=by
   rw[List.drop_eq_getElem_cons hlt];rw[ZAE hlt] at hg;simp only[ZAG] at hg;rw[hg]
  obtain⟨w,hw,hw2⟩:=qrZ e last many;unfold sIndFun6_l0;simp only[a8Z hlt,ZAF];rw[ajZ hlt,ZAA,hg,ZAA,hw,ZAA];rw[hd,byZ] at hi;cases w with
  |true=>
   right;refine⟨_,rfl,.inr ⟨k,_,_,rfl,fun h=> ?_⟩⟩;have h2:=hi.1 h;exact hw2.1 rfl ⟨h2.1,h2.2.1,h2.2.2.1,h2.2.2.2.1,h2.2.2.2.2.1⟩
  |false=>
   left;rw[w64 (by omega)];refine⟨_,rfl,k+1,e.1,by simp,by omega,?_⟩;have hne:¬¬(1<=e.1.length/\e.1.length<=30/\Op.bytesLess last e.1=true/\1<=e.2/\e.2<=many):=fun h=>by have:=hw2.2 h;cases this
   have hy:=Classical.not_not.1 hne;constructor
   ·intro h;exact(hi.1 h).2.2.2.2.2
   ·intro h;exact hi.2 ⟨hy.1,hy.2.1,hy.2.2.1,hy.2.2.2.1,hy.2.2.2.2,h⟩
 ·obtain⟨k,last,rfl,hk,hi⟩:=hI;have:k=l.length:=by omega
  subst this;unfold sIndFun6_l0;simp only[arZ (ZAq _),ZAC];exact⟨_,rfl,.inl ⟨_,_,rfl,hi.2 (by simp[okEnts])⟩⟩
theorem rbZ(n:Ino)(many:Int)(hs:n.sm):∃b,idir fuel n many=some b/\(b=true↔n.2.2.2.2.1=0/\n.2.2.2.2.2.1=[]/\n.2.2.2.2.2.2.2.length<=100/\okEnts many [] n.2.2.2.2.2.2.2):=by
 unfold idir;by_cases h1:n.2.2.2.2.1=0
 ·rw[show(n.2.2.2.2.1==0)=true from by simp[h1],ZAF];by_cases h2:n.2.2.2.2.2.1=[]
  ·rw[show(((n.2.2.2.2.2.1.length:Nat):Int)==0)=true from by simp[h2],ZAF];by_cases h3:n.2.2.2.2.2.2.2.length<=100
   ·rw[show decide (((n.2.2.2.2.2.2.2.length:Nat):Int)<=100)=true from by simp;omega,ZAF];obtain⟨o,ho,hq⟩:=oLZ n.2.2.2.2.2.2.2 many hs.2;unfold sConFun3 sIndFun6;rw[ho,ZAA];rcases hq with⟨a,b,rfl,hq⟩|⟨k,a,b,rfl,hq⟩
    ·exact⟨_,rfl,by simp[h1,h2,h3,hq]⟩
    ·refine⟨_,rfl,?_⟩;simp[h1,h2,h3,hq]
   ·rw[show decide (((n.2.2.2.2.2.2.2.length:Nat):Int)<=100)=false from by simp;omega,ZAC];exact⟨_,rfl,by simp[h3]⟩
  ·rw[show(((n.2.2.2.2.2.1.length:Nat):Int)==0)=false from by simp[h2],ZAC];exact⟨_,rfl,by simp[h2]⟩
 ·rw[show(n.2.2.2.2.1==0)=false from by simp[h1],ZAC];exact⟨_,rfl,by simp[h1]⟩
abbrev GM:=GMap (.int .i64) (.int .i64)
def MS(M:GM)(S:List Int):Prop:=∀k:Int,(((Option.getD (mget (k:=.int .i64) (v:=.int .i64) M k) 0:Int)==1)=true↔k∈S)
theorem MS.nil:MS ([],0) []:=fun k=>by simp[mget,mfind]
theorem MS.put{M:GM}{S:List Int}(h:MS M S)(x:Int):MS (mput (k:=.int .i64) (v:=.int .i64) M x 1) (S++[x]):=fun k=>by
 by_cases hk:k=x
 ·subst hk;rw[hSZ (dKZ .i64)];simp
 ·rw[eIZ (dKZ .i64) M x 1 hk,h k];simp[hk]
theorem oNZ(p:Part)(M:GM)(S:List Int)(stripe:Int)(hM:MS M S):∃w M',ifil1 fuel p M stripe=some (w,(M',stripe))/\(w=true↔¬(okPart stripe p/\(p.1≠0->p.1∉S)))/\(w=false->MS M' (S++stripes [p])):=by
 unfold ifil1;by_cases h0:p.1=0/\p.2=0
 ·rw[show((p.1==0)&&(p.2==0))=true from by simp[h0.1,h0.2]];refine⟨false,M,rfl,by simp[okPart,h0],fun _=> ?_⟩;rw[eHZ h0.1,ZA2];exact hM
 rw[show((p.1==0)&&(p.2==0))=false from by
  cases hh:((p.1==0)&&(p.2==0)) with
  |false=>rfl
  |true=>simp at hh;exact absurd hh h0,ZAC]
 have hMp:=hM.put p.1;cases hq:((Option.getD (mget (k:=.int .i64) (v:=.int .i64) M p.1) 0:Int)==1) with
 |true=>
  have:=(hM p.1).1 hq;refine⟨true,_,rfl,?_,fun h=>by cases h⟩;simp only[okPart,true_iff];intro h;rcases h.1 with h3|h3
  ·exact h0 h3
  ·exact h.2 (by omega) this
 |false=>
  have hn:p.1∉S:=fun h=>by have:=(hM p.1).2 h;rw[hq] at this;cases this
  simp only[ZAC];by_cases h1:p.1<1
  ·rw[show decide (p.1<1)=true from by simp;omega];exact⟨true,_,rfl,by simp only[okPart,true_iff];intro h;omega,fun h=>by cases h⟩
  rw[show decide (p.1<1)=false from by simp;omega,ZAC];by_cases h2:p.1>stripe
  ·rw[show decide (p.1>stripe)=true from by simp;omega];exact⟨true,_,rfl,by simp only[okPart,true_iff];intro h;omega,fun h=>by cases h⟩
  rw[show decide (p.1>stripe)=false from by simp;omega,ZAC];by_cases h3:p.2<1
  ·rw[show decide (p.2<1)=true from by simp;omega];exact⟨true,_,rfl,by simp only[okPart,true_iff];intro h;omega,fun h=>by cases h⟩
  rw[show decide (p.2<1)=false from by simp;omega,ZAC];refine⟨_,_,rfl,?_,fun _=> ?_⟩
  ·simp only[okPart,ZAf];constructor
   ·intro h5 h6;omega
   ·intro h5;exact ZBz fun h6=>h5 ⟨.inr (by omega),fun _=>hn⟩
  ·rw[dEZ (by omega)];exact hMp
theorem muZ(l:List Part)(M:GM)(S:List Int)(stripe:Int)(hM:MS M S)(hS:S.Nodup)(hl:l.length<=100000):
 ∃o,sIndFun5_l0_it fuel l (0,(M,stripe))=some o/\((∃M',o= .inl (M',stripe)/\(∀p∈l,okPart stripe p)/\MS M' (S++stripes l)/\(S++stripes l).Nodup)\/(∃(k:Nat),∃M',o= .inr ((k:Int),(M',stripe))/\¬((∀p∈l,okPart stripe p)/\(S++stripes l).Nodup))):=by
 unfold sIndFun5_l0_it;refine aKZ (fun n s=>∃(k:Nat) (M':GM),s=((k:Int),(M',stripe))/\k+n=l.length/\(∀p∈l.take k,okPart stripe p)/\MS M' (S++stripes (l.take k))/\(S++stripes (l.take k)).Nodup) _ (fun n s hI=> ?_) (fun s hI=> ?_) l.length _ (by omega) ⟨0,M,rfl,by omega,by simp,by simpa[stripes] using hM,by simpa[stripes] using hS⟩
 ·obtain⟨k,M',rfl,hk,h1,h2,h3⟩:=hI;have hlt:k<l.length:=by omega
  obtain⟨p,hg⟩:∃p,l[k]? =some p:=⟨_,ZAE hlt⟩;obtain⟨w,M2,hw,hw2,hw3⟩:=oNZ p M' _ stripe h2;have ht:l.take (k+1)=l.take k++[p]:=by rw[ZB0,hg];rfl
  unfold sIndFun5_l0;simp only[a8Z hlt,ZAF];rw[ajZ hlt,ZAA,hg,ZAA,hw,ZAA];cases w with
  |true=>
   right;refine⟨_,rfl,.inr ⟨k,_,rfl,fun h=>hw2.1 rfl ⟨h.1 p (ZAQ hg),fun hp0 hm=> ?_⟩⟩⟩;have h5:(S++stripes (l.take (k+1))).Nodup:=by
    have:l=l.take (k+1)++l.drop (k+1):=(ZBd _ _).symm;have h6:=h.2;rw[this,b3Z,<-List.append_assoc] at h6;exact(List.nodup_append.1 h6).1
   rw[ht,b3Z,<-List.append_assoc,dEZ hp0] at h5;exact(List.nodup_append.1 h5).2.2 _ hm _ (by simp) rfl
  |false=>
   left;have hy:=Classical.not_not.1 fun h=>by have:=hw2.2 h;cases this
   rw[w64 (by omega)];refine⟨_,rfl,k+1,M2,by simp,by omega,?_,?_,?_⟩
   ·rw[ht];intro q hq;rcases ZAh.1 hq with hq|hq
    ·exact h1 q hq
    ·simp at hq;subst hq;exact hy.1
   ·rw[ht,b3Z,<-List.append_assoc];exact hw3 rfl
   ·rw[ht,b3Z,<-List.append_assoc];by_cases hp0:p.1=0
    ·rw[eHZ hp0,ZA2];exact h3
    ·rw[dEZ hp0];refine List.nodup_append.2 ⟨h3,by simp,fun a ha b hb=> ?_⟩;simp at hb;subst hb;exact fun e=>hy.2 hp0 (e▸ha)
 ·obtain⟨k,M',rfl,hk,h1,h2,h3⟩:=hI;have:k=l.length:=by omega
  subst this;rw[ZA7] at h1 h2 h3;unfold sIndFun5_l0;simp only[arZ (ZAq _),ZAC];exact⟨_,rfl,.inl ⟨_,rfl,h1,h2,h3⟩⟩
def okFile(stripe:Int)(n:Ino):Prop:=(0<=n.2.2.2.2.1/\n.2.2.2.2.1<=65536)/\n.2.2.2.2.2.2.2=[]/\n.2.2.2.2.2.1.length<=4096/\∀p∈n.2.2.2.2.2.1,okPart stripe p
theorem p5Z(n:Ino)(M:GM)(S:List Int)(stripe:Int)(hs:n.sm)(hM:MS M S)(hS:S.Nodup):∃b M',ifilm2 fuel n stripe M=some (b,M')/\(b=true↔okFile stripe n/\(S++stripes n.2.2.2.2.2.1).Nodup)/\(b=true->MS M' (S++stripes n.2.2.2.2.2.1)):=by
 unfold ifilm2 okFile;by_cases h1:n.2.2.2.2.1>=0
 ·rw[show decide (n.2.2.2.2.1>=0)=true from by simp;omega,ZAF];by_cases h2:n.2.2.2.2.1<=65536
  ·rw[show decide (n.2.2.2.2.1<=65536)=true from by simp;omega,ZAF];by_cases h3:n.2.2.2.2.2.2.2=[]
   ·rw[show(((n.2.2.2.2.2.2.2.length:Nat):Int)==0)=true from by simp[h3],ZAF];by_cases h4:n.2.2.2.2.2.1.length<=4096
    ·rw[show decide (((n.2.2.2.2.2.1.length:Nat):Int)<=4096)=true from by simp;omega,ZAF];obtain⟨o,ho,hq⟩:=muZ n.2.2.2.2.2.1 M S stripe hM hS hs.1;unfold sConFun2 sIndFun5;rw[ho,ZAA];rcases hq with⟨M',rfl,q1,q2,q3⟩|⟨k,M',rfl,hq⟩
     ·exact⟨_,_,rfl,by simp[h1,h2,h3,h4,q3];exact fun a b hab=>q1 (a,b) hab,fun _=>q2⟩
     ·refine⟨_,_,rfl,?_,?_⟩
      ·constructor
       ·intro h;simp at h
       ·intro h;exact absurd ⟨h.1.2.2.2,h.2⟩ hq
      ·intro h;simp at h
    ·rw[show decide (((n.2.2.2.2.2.1.length:Nat):Int)<=4096)=false from by simp;omega,ZAC];exact⟨_,_,rfl,by simp[h4],fun h=>by cases h⟩
   ·rw[show(((n.2.2.2.2.2.2.2.length:Nat):Int)==0)=false from by simp[h3],ZAC];exact⟨_,_,rfl,by simp[h3],fun h=>by cases h⟩
  ·rw[show decide (n.2.2.2.2.1<=65536)=false from by simp;omega,ZAC];exact⟨_,_,rfl,by simp;intro h;omega,fun h=>by cases h⟩
 ·rw[show decide (n.2.2.2.2.1>=0)=false from by simp;omega,ZAC];exact⟨_,_,rfl,by simp;intro h;omega,fun h=>by cases h⟩
end Go.Ab.D
namespace Go.Ab.D
open Go Go.Ab
theorem dwZ{l:List Ino}{k:Nat}{n:Ino}(h:l[k]? =some n):allStripes (l.take (k+1))=allStripes (l.take k)++stripes n.2.2.2.2.2.1:=by
 rw[ZB0,h];simp[allStripes]
theorem o7Z{l:List Ino}{k:Nat}(h:(allStripes l).Nodup):(allStripes (l.take k)).Nodup:=by
 have h2:allStripes l=allStripes (l.take k)++allStripes (l.drop k):=by
  unfold allStripes;rw[<-List.flatMap_append,ZBd]
 rw[h2] at h;exact(List.nodup_append.1 h).1
theorem pZZ(n:Ino)(hs:n.sm):∃b,ibar fuel n=some b/\(b=true↔n.2.2.1=false/\n.2.2.2.1=false/\n.2.2.2.2.1=0/\n.2.2.2.2.2.2.1=0/\n.2.2.2.2.2.1=[]/\n.2.2.2.2.2.2.2=[]):=by
 unfold ibar;have hs1:=hs.1;have hs2:=hs.2;cases h1:n.2.2.1 with
 |true=>exact⟨false,rfl,by simp⟩
 |false=>
  cases h2:n.2.2.2.1 with
  |true=>exact⟨false,rfl,by simp⟩
  |false=>
   simp only[ZAe,ZAF];by_cases h3:n.2.2.2.2.1=0
   ·by_cases h4:n.2.2.2.2.2.2.1=0
    ·rw[w64 (by omega)];refine⟨_,by simp only[h3,h4,ZAP,ZAF];rfl,?_⟩;simp only[h3,h4,ZBL,true_and];constructor
     ·intro h;exact⟨ZAR (by omega),ZAR (by omega)⟩
     ·intro h;rw[h.1,h.2];rfl
    ·refine⟨false,?_,by simp[h4]⟩;rw[show(n.2.2.2.2.2.2.1==0)=false from by simp[h4]];simp[h3]
   ·refine⟨false,?_,by simp[h3]⟩;rw[show(n.2.2.2.2.1==0)=false from by simp[h3]]
    rfl
theorem kWZ(t:Tree)(b:Bool)(k:Nat)(n:Ino)(M:GM)(hf:Fit t.1)(hg:t.1[k]? =some n)(hM:MS M (allStripes (t.1.take k)))(hS:(allStripes (t.1.take k)).Nodup):
 (∃M',iRig_l0 fuel (b,(t.1,t.2)) t k t.1 t.2 M=some (.inl (((k+1:Nat):Int),(t.1,(t.2,M'))))/\okIno t.1.length t.2 k n/\MS M' (allStripes (t.1.take (k+1)))/\(allStripes (t.1.take (k+1))).Nodup)\/
 (iRig_l0 fuel (b,(t.1,t.2)) t k t.1 t.2 M=some (.inr (.inr false))/\¬(okIno t.1.length t.2 k n/\(allStripes (t.1.take (k+1))).Nodup)):=by
 have hlt:k<t.1.length:=(ZAB.1 hg).1;have hn:=hf.n;obtain⟨b1,hb1,hb1'⟩:=pZZ n (hf.at hg);obtain⟨b2,hb2,hb2'⟩:=rbZ n ((t.1.length:Nat):Int) (hf.at hg);obtain⟨b3,M3,hb3,hb3',hb3''⟩:=p5Z n M _ t.2 (hf.at hg) hM hS;rw[<-dwZ hg] at hb3' hb3'';have eid:(!(n.1==((k:Int)+1)))= !decide (n.1=(k:Int)+1):=by simp[BEq.beq]
 have main:∀(ok:Bool) (M':GM),(ok=true->MS M' (allStripes (t.1.take (k+1)))/\(allStripes (t.1.take (k+1))).Nodup)->
  ((okIno t.1.length t.2 k n/\(allStripes (t.1.take (k+1))).Nodup)↔(ok=true/\n.1=(k:Int)+1/\(1<=n.2.1/\n.2.1<=1099511627776)/\(n.2.2.1=true->1<=n.2.2.2.2.2.2.1/\n.2.2.2.2.2.2.1<=((t.1.length:Nat):Int))))->
  ∀R,R=(Option.bind (α:=(Bool×(List Ino×(Int×GM)))) (
   bif (!ok) then
    some (true,(t.1,(t.2,M')))
   else
    bif (!(n.1==((k:Int)+1))) then
     some (true,(t.1,(t.2,M')))
    else
     bif (decide (n.2.1<1)) then
      some (true,(t.1,(t.2,M')))
     else
      bif (decide (n.2.1>1099511627776)) then
       some (true,(t.1,(t.2,M')))
      else
       bif n.2.2.1 then
        bif (decide (n.2.2.2.2.2.2.1<1)) then
         some (true,(t.1,(t.2,M')))
        else
         some ((decide (n.2.2.2.2.2.2.1>((t.1.length:Nat):Int))),(t.1,(t.2,M')))
       else
        some (false,(t.1,(t.2,M')))) fun o4=>
  bif o4.1 then
   some (.inr (.inr false))
  else
   some (.inl (((k:Int)+1),(o4.2.1,(o4.2.2.1,o4.2.2.2)))):Option ((Int×(List Ino×(Int×GM)))⊕((List Ino×Int)⊕Bool)))->
  (∃M',R=some (.inl (((k+1:Nat):Int),(t.1,(t.2,M'))))/\okIno t.1.length t.2 k n/\MS M' (allStripes (t.1.take (k+1)))/\(allStripes (t.1.take (k+1))).Nodup)\/
  (R=some (.inr (.inr false))/\¬(okIno t.1.length t.2 k n/\(allStripes (t.1.take (k+1))).Nodup)):=by
  intro ok M' hok hiff R hR;rw[hiff];cases ok with
  |false=>exact .inr ⟨by rw[hR];rfl,by simp⟩
  |true=>
   by_cases h1:n.1=(k:Int)+1
   ·rw[show(n.1==((k:Int)+1))=true from by simp[h1]] at hR;by_cases h2:n.2.1<1
    ·rw[show decide (n.2.1<1)=true from by simp;omega] at hR;exact .inr ⟨by rw[hR];rfl,by omega⟩
    rw[show decide (n.2.1<1)=false from by simp;omega] at hR;by_cases h3:n.2.1>1099511627776
    ·rw[show decide (n.2.1>1099511627776)=true from by simp;omega] at hR;exact .inr ⟨by rw[hR];rfl,by omega⟩
    rw[show decide (n.2.1>1099511627776)=false from by simp;omega] at hR;cases h4:n.2.2.1 with
    |false=>
     rw[h4] at hR;refine .inl ⟨M',by rw[hR];rfl,(hiff.2 ⟨rfl,h1,by omega,fun h=>by rw[h4] at h;cases h⟩).1,(hok rfl).1,(hok rfl).2⟩
    |true=>
     rw[h4] at hR;by_cases h5:n.2.2.2.2.2.2.1<1
     ·rw[show decide (n.2.2.2.2.2.2.1<1)=true from by simp;omega] at hR;exact .inr ⟨by rw[hR];rfl,fun h=>by have:=h.2.2.2 rfl;omega⟩
     rw[show decide (n.2.2.2.2.2.2.1<1)=false from by simp;omega] at hR;by_cases h6:n.2.2.2.2.2.2.1>((t.1.length:Nat):Int)
     ·rw[show decide (n.2.2.2.2.2.2.1>((t.1.length:Nat):Int))=true from by simp;omega] at hR;exact .inr ⟨by rw[hR];rfl,fun h=>by have:=h.2.2.2 rfl;omega⟩
     rw[show decide (n.2.2.2.2.2.2.1>((t.1.length:Nat):Int))=false from by simp;omega] at hR;refine .inl ⟨M',by rw[hR];rfl,(hiff.2 ⟨rfl,h1,by omega,fun _=>by omega⟩).1,(hok rfl).1,(hok rfl).2⟩
   ·rw[show(n.1==((k:Int)+1))=false from by simp[h1]] at hR;exact .inr ⟨by rw[hR];rfl,by simp[h1]⟩
 have hsucc:=dwZ hg;have htk:n.2.2.2.2.2.1=[]->(allStripes (t.1.take (k+1)))=allStripes (t.1.take k):=fun h=>by rw[hsucc,h];simp[stripes]
 generalize hR:iRig_l0 fuel (b,(t.1,t.2)) t k t.1 t.2 M=R;unfold iRig_l0 at hR;simp only[a8Z hlt,ZAF] at hR;rw[ajZ hlt,ZAA,hg,ZAA,w64 (by omega)] at hR;obtain⟨id,gen,used,dir,size,parts,parent,ents⟩:=n;dsimp only at*;cases used with
 |true=>
  cases dir with
  |true=>
   refine main b2 M ?_ ?_ R ?_
   ·intro h;have:=(hb2'.1 h).2.1;rw[htk this];exact⟨hM,hS⟩
   ·constructor
    ·intro h;exact⟨hb2'.2 (h.1.dir rfl rfl),h.1.id,h.1.gen,h.1.par⟩
    ·intro h;have h9:=hb2'.1 h.1;exact⟨⟨h.2.1,h.2.2.1,h.2.2.2,fun _ _=>h9,(fun _ h=>by cases h),(fun h=>by cases h)⟩,by rw[htk h9.2.1];exact hS⟩
   ·rw[<-hR,hb1,ZAA];simp only[ZAF,ZAA,hb2]
  |false=>
   refine main b3 M3 (fun h=>⟨hb3'' h,(hb3'.1 h).2⟩) ?_ R ?_
   ·constructor
    ·intro h;exact⟨hb3'.2 ⟨h.1.file rfl rfl,h.2⟩,h.1.id,h.1.gen,h.1.par⟩
    ·intro h;have h9:=hb3'.1 h.1;exact⟨⟨h.2.1,h.2.2.1,h.2.2.2,(fun _ h=>by cases h),fun _ _=>h9.1,(fun h=>by cases h)⟩,h9.2⟩
   ·rw[<-hR,hb1,ZAA];simp only[ZAF,ZAC,ZAA,hb3]
 |false=>
  refine main b1 M ?_ ?_ R ?_
  ·intro h;have:=(hb1'.1 h).2.2.2.2.1;rw[htk this];exact⟨hM,hS⟩
  ·constructor
   ·intro h;exact⟨hb1'.2 ⟨rfl,h.1.bare rfl⟩,h.1.id,h.1.gen,h.1.par⟩
   ·intro h;have h9:=hb1'.1 h.1;exact⟨⟨h.2.1,h.2.2.1,h.2.2.2,(fun h=>by cases h),(fun h=>by cases h),fun _=>h9.2⟩,by rw[htk h9.2.2.2.2.1];exact hS⟩
  ·rw[<-hR,hb1,ZAA];simp only[ZAF,ZAC,ZAA]
theorem koZ{t:Tree}(hf:Fit t.1):∃b,iRig fuel t=some b/\(b=true↔RightP t):=by
 unfold iRig;have hn:=hf.n;by_cases h1:t.1.length<1
 ·rw[show decide (((t.1.length:Nat):Int)<1)=true from by simp;omega];exact⟨false,rfl,by simp;intro h;have:=h.len;omega⟩
 rw[show decide (((t.1.length:Nat):Int)<1)=false from by simp;omega,ZAC];by_cases h2:t.1.length>500
 ·rw[show decide (((t.1.length:Nat):Int)>500)=true from by simp;omega];exact⟨false,rfl,by simp;intro h;have:=h.len;omega⟩
 rw[show decide (((t.1.length:Nat):Int)>500)=false from by simp;omega,ZAC];by_cases h3:t.2<0
 ·rw[show decide (t.2<0)=true from by simp;omega];exact⟨false,rfl,by simp;intro h;have:=h.str;omega⟩
 rw[show decide (t.2<0)=false from by simp;omega,ZAC];by_cases h4:t.2>1099511627776
 ·rw[show decide (t.2>1099511627776)=true from by simp;omega];exact⟨false,rfl,by simp;intro h;have:=h.str;omega⟩
 rw[show decide (t.2>1099511627776)=false from by simp;omega,ZAA];simp only[ZAC];have loop:∃o,iRig_l0_it fuel (false,(t.1,t.2)) t (0,(t.1,(t.2,([],0))))=some o/\((o= .inl (t.1,t.2)/\(∀i n,t.1[i]? =some n->okIno t.1.length t.2 i n)/\(allStripes t.1).Nodup)\/(o= .inr false/\¬((∀i n,t.1[i]? =some n->okIno t.1.length t.2 i n)/\(allStripes t.1).Nodup))):=by
  unfold iRig_l0_it;refine aKZ (fun m s=>∃(k:Nat) (M:GM),s=((k:Int),(t.1,(t.2,M)))/\k+m=t.1.length/\(∀i n,i<k->t.1[i]? =some n->okIno t.1.length t.2 i n)/\MS M (allStripes (t.1.take k))/\(allStripes (t.1.take k)).Nodup) _ (fun m s hI=> ?_) (fun s hI=> ?_) t.1.length _ (by omega) ⟨0,([],0),rfl,by omega,fun i n h=>absurd h (ZBt _),by simpa[allStripes] using MS.nil,by simp[allStripes]⟩
  ·obtain⟨k,M,rfl,hk,g1,g2,g3⟩:=hI;have hlt:k<t.1.length:=by omega
   obtain⟨n,hg⟩:∃n,t.1[k]? =some n:=⟨_,ZAE hlt⟩;rcases kWZ t false k n M hf hg g2 g3 with⟨M',r1,r2,r3,r4⟩|⟨r1,r2⟩
   ·left;refine⟨_,r1,k+1,M',rfl,by omega,fun i n' hi hgi=> ?_,r3,r4⟩;by_cases hik:i=k
    ·subst hik;rw[hg] at hgi;cases hgi;exact r2
    ·exact g1 i n' (by omega) hgi
   ·right;exact⟨_,r1,.inr ⟨rfl,fun h=>r2 ⟨h.1 k n hg,o7Z h.2⟩⟩⟩
  ·obtain⟨k,M,rfl,hk,g1,g2,g3⟩:=hI;have:k=t.1.length:=by omega
   subst this;rw[ZA7] at g3;unfold iRig_l0;simp only[arZ (ZAq _),ZAC];exact⟨_,rfl,.inl ⟨rfl,fun i n h=>g1 i n (ZAB.1 h).1 h,g3⟩⟩
 obtain⟨o,ho,hq⟩:=loop;rw[ho,ZAA];rcases hq with⟨rfl,q1,q2⟩|⟨rfl,q1⟩
 ·have hlt:0<t.1.length:=by omega
  obtain⟨r,hg⟩:∃r,t.1[0]? =some r:=⟨_,ZAE hlt⟩;simp only[];rw[show idx? 0 t.1.length=some 0 from ajZ hlt,ZAA,hg,ZAA];have hR:RightP t↔(r.2.2.1=true/\r.2.2.2.1=true/\r.2.2.2.2.2.2.1=1):=by
   constructor
   ·intro h;obtain⟨r',h1,h2⟩:=h.root;rw[hg] at h1;cases h1;exact h2
   ·intro h;exact⟨by omega,by omega,q1,q2,r,hg,h⟩
  rw[hR];cases r.2.2.1 with
  |false=>exact⟨false,rfl,by simp⟩
  |true=>cases r.2.2.2.1 with
   |false=>exact⟨false,rfl,by simp⟩
   |true=>exact⟨_,rfl,by simp⟩
 ·exact⟨false,rfl,by simp;exact fun h=>q1 ⟨h.ino,h.nod⟩⟩
end Go.Ab.D
namespace Go.Ab
section
variable {τ κ ο γ : Type} {hd : τ → Option (List (κ × Nat))} {f : τ → κ × Nat → Option (τ ⊕ ο)}
end
section
variable {k v : Ty}
theorem lCZ{a b:Ty}(ha:KeyEq a)(hb:KeyEq b):KeyEq (.pair a b):=fun x y=>by
 show(a.eqb x.1 y.1&&b.eqb x.2 y.2)=true↔_;rw[ZAD,ha,hb];constructor
 ·rintro⟨h1,h2⟩;exact Prod.ext h1 h2
 ·rintro rfl;exact⟨rfl,rfl⟩
structure MW (m:GMap k v):Prop where
 ks:keysU m
 ns:(m.1.map (·.2)).Nodup
 lo:∀e∈m.1,e.2<m.2
end
end Go.Ab
namespace Go.Ab.D
open Go Go.Ab
def namedB(s:List UInt8):Bool:=decide (1<=s.length)&&decide (s.length<=30)&& !(s==[46])&& !(s==[46,46])&& !Go.Lib.containsAny s [0,47]
theorem axZ(s:List UInt8):tNam fuel s=some (namedB s):=by
 unfold tNam namedB;by_cases h1:1<=s.length
 ·rw[show decide (((s.length:Nat):Int)>=1)=true from by simp;omega,ZAF,ZAS h1,ZA9];by_cases h2:s.length<=30
  ·rw[show decide (((s.length:Nat):Int)<=30)=true from by simp;omega,ZAF,ZAS h2,ZA9];cases h3:(s==[46]) with
   |true=>rfl
   |false=>
    cases h4:(s==[46,46]) with
    |true=>rfl
    |false=>
     simp only[ZAe,ZAF,ZA9];unfold sConAny;rw[abZ,ZAA];simp;omega
  ·rw[show decide (((s.length:Nat):Int)<=30)=false from by simp;omega,ZAC,ZAL h2]
   rfl
 ·rw[show decide (((s.length:Nat):Int)>=1)=false from by simp;omega,ZAC,ZAL h1]
  rfl
def reachN(l:List Ino):Nat->Int->Bool
 |0,id=>id==1
 |k+1,id=>bif id==1 then true else match l[(id-1).toNat]? with
  |some n=>n.2.2.1&&reachN l k n.2.2.2.2.2.2.1
  |none=>false
theorem meZ{t:Tree}(hr:RightP t)(id:Int)(h1:1<=id)(h2:id<=t.1.length):trea fuel t id=some (reachN t.1 t.1.length id):=by
 have hlen:=hr.len;have loop:∃o,trea_l0_it fuel t (id,(0,(t.1,t.2)))=some o/\((∃i,o= .inl i/\reachN t.1 t.1.length id=(i==1))\/(∃b,o= .inr b/\reachN t.1 t.1.length id=b)):=by
  unfold trea_l0_it;refine aKZ (fun n (s:Int×(Int×(List Ino×Int)))=>∃(k:Nat) (i:Int),s=(i,((k:Int),(t.1,t.2)))/\k+n=t.1.length/\1<=i/\i<=t.1.length/\reachN t.1 t.1.length id=reachN t.1 n i) _ (fun n s hI=> ?_) (fun s hI=> ?_) t.1.length _ (by omega) ⟨0,id,rfl,by omega,h1,h2,rfl⟩
  ·obtain⟨k,i,rfl,hk,hi1,hi2,he⟩:=hI;have hlt:k<t.1.length:=by omega
   unfold trea_l0;simp only[a8Z hlt,ZAF];rw[he];cases hid:(i==1) with
   |true=>
    right;exact⟨_,rfl,.inr ⟨_,rfl,by unfold reachN;rw[hid];rfl⟩⟩
   |false=>
    simp only[ZAC];have hlt2:(i-1).toNat<t.1.length:=by omega
    obtain⟨x,hg⟩:∃x,t.1[(i-1).toNat]? =some x:=⟨_,ZAE hlt2⟩;rw[w64 (by omega),avZ (by omega) (by omega),ZAA,hg,ZAA];have hx:=hr.ino _ _ hg;cases hu:x.2.2.1 with
    |false=>
     right;exact⟨_,rfl,.inr ⟨_,rfl,by unfold reachN;rw[hid,hg];simp[hu]⟩⟩
    |true=>
     left;simp only[ZAJ,ZAC];rw[ZAA,hg,ZAA,w64 (by omega)];have hp:=hx.par hu;refine⟨_,rfl,k+1,_,by simp,by omega,hp.1,hp.2,?_⟩
     conv=>lhs;unfold reachN
     rw[hid,hg];simp[hu]
  ·obtain⟨k,i,rfl,hk,hi1,hi2,he⟩:=hI;have:k=t.1.length:=by omega
   subst this;unfold trea_l0;simp only[arZ (ZAq _),ZAC];exact⟨_,rfl,.inl ⟨i,rfl,he⟩⟩
 obtain⟨o,ho,h⟩:=loop;unfold trea;rw[ho,ZAA];rcases h with⟨i,rfl,h⟩|⟨b,rfl,h⟩
 ·simp only;rw[h]
 ·simp only;rw[h]
end Go.Ab.D
namespace Go.Ab.D
open Go Go.Ab
def allEnts(l:List Ino):List Ent:=l.flatMap fun n=>n.2.2.2.2.2.2.2
def cnt(l:List Ent)(id:Int):Nat:=(l.filter fun e=>e.2==id).length
theorem g2Z(a b:List Ent)(id:Int):cnt (a++b) id=cnt a id+cnt b id:=by simp[cnt]
theorem p8Z(e:Ent)(id:Int):cnt [e] id=if e.2=id then 1 else 0:=by
 unfold cnt;by_cases h:e.2=id
 ·simp[h]
 ·simp[h]
theorem q9Z(l:List Ent)(id:Int):cnt l id<=l.length:=ZBf _ _
def okE(l:List Ino)(n:Ino)(e:Ent):Prop:=namedB e.1=true/\∃x,l[(e.2-1).toNat]? =some x/\x.2.2.1=true/\x.2.2.2.2.2.2.1=n.1
structure RightT (t:Tree):Prop where
 r:RightP t
 e:∀n∈t.1,∀e∈n.2.2.2.2.2.2.2,okE t.1 n e
 reach:∀n∈t.1,n.2.2.1=true->reachN t.1 t.1.length n.1=true
 cnt:∀n∈t.1,cnt (allEnts t.1) n.1=if n.1=1\/n.2.2.1=false then 0 else 1
theorem cqZ{many:Int}:∀{l:List Ent} {last:List UInt8},okEnts many last l->∀e∈l,1<=e.2/\e.2<=many/\1<=e.1.length/\e.1.length<=30
 |[],_,_,_,h=>by cases h
 |a::r,last,h,e,he=>by
  rw[byZ] at h;rcases ZAU.1 he with rfl|he
  ·exact⟨h.2.2.2.1,h.2.2.2.2.1,h.1,h.2.1⟩
  ·exact cqZ h.2.2.2.2.2 e he
theorem ceZ{many st:Int}{i:Nat}{n:Ino}(h:okIno many st i n):n.2.2.2.2.2.2.2.length<=100/\okEnts many [] n.2.2.2.2.2.2.2:=by
 cases hu:n.2.2.1 with
 |false=>rw[(h.bare hu).2.2.2.2];exact⟨by simp,trivial⟩
 |true=>
  cases hd:n.2.2.2.1 with
  |false=>rw[(h.file hu hd).2.1];exact⟨by simp,trivial⟩
  |true=>exact(h.dir hu hd).2.2
theorem q3Z{many st:Int}{i:Nat}{n:Ino}(h:okIno many st i n):n.sm:=by
 refine⟨?_,by have:=(ceZ h).1;omega⟩;cases hu:n.2.2.1 with
 |false=>rw[(h.bare hu).2.2.2.1];simp
 |true=>
  cases hd:n.2.2.2.1 with
  |false=>have:=(h.file hu hd).2.2.1;omega
  |true=>rw[(h.dir hu hd).2.1];simp
theorem RightP.fit{t:Tree}(h:RightP t):Fit t.1:=by
 refine⟨by have:=h.len;omega,fun n hn=> ?_⟩;obtain⟨i,hi⟩:=ZAY hn;exact q3Z (h.ino i n hi)
theorem c1Z{l:List Ino}{k:Nat}{n:Ino}(h:l[k]? =some n):allEnts (l.take (k+1))=allEnts (l.take k)++n.2.2.2.2.2.2.2:=by
 unfold allEnts;rw[ZB0,h];simp
theorem jgZ{l:List Ino}{c:Nat}(h:∀n∈l,n.2.2.2.2.2.2.2.length<=c):(allEnts l).length<=l.length*c:=by
 induction l with
 |nil=>simp[allEnts]
 |cons a l ih=>
  have h1:=h a (by simp);have h2:=ih fun n hn=>h n (by simp[hn]);have:(allEnts (a::l)).length=a.2.2.2.2.2.2.2.length+(allEnts l).length:=by simp[allEnts]
  rw[this,ZBi,ZBQ];omega
structure Cs (M:List Int) (len:Nat) (es:List Ent):Prop where
 n:M.length=len+1
 v:∀i:Nat,i<=len->M[i]? =some ((cnt es (i:Int):Nat):Int)
theorem Cs.zero(len:Nat):Cs (List.replicate (len+1) 0) len []:=
 ⟨by simp,fun i hi=>by rw[List.getElem?_replicate,ZAO (by omega)];simp[cnt]⟩
theorem Cs.add{M:List Int}{len:Nat}{es:List Ent}(h:Cs M len es)(e:Ent)(h1:0<=e.2)(h2:e.2<=len):Cs (M.set e.2.toNat ((cnt es e.2:Nat)+1:Int)) len (es++[e]):=by
 refine⟨by rw[ZAw];exact h.n,fun i hi=> ?_⟩;rw[List.getElem?_set,g2Z,p8Z];have hn:=h.n;by_cases hc:e.2.toNat=i
 ·have:e.2=(i:Int):=by omega
  rw[ZAO hc,ZAO (by omega),ZAO this,this];simp
 ·rw[ZAM hc,ZAM (by omega),h.v i hi];simp
theorem ndZ(t:Tree)(n:Ino)(e:Ent)(M:List Int)(es:List Ent)(hf:t.1.length<=100000)(hM:Cs M t.1.length es)(hs:es.length<=100000000)(h1:1<=e.2)(h2:e.2<=t.1.length):
 ∃w M',tRig1 fuel e M t.1 t.2 n.1 n.2.1 n.2.2.1 n.2.2.2.1 n.2.2.2.2.1 n.2.2.2.2.2.1 n.2.2.2.2.2.2.1 n.2.2.2.2.2.2.2=some (w,(M',(t.1,(t.2,n))))/\Cs M' t.1.length (es++[e])/\(w=true↔¬okE t.1 n e):=by
 unfold tRig1;have hn:=hM.n;have hlt:e.2.toNat<M.length:=by omega
 have hv:=hM.v e.2.toNat (by omega);rw[Int.toNat_of_nonneg (by omega)] at hv;have hlt2:(e.2-1).toNat<t.1.length:=by omega
 obtain⟨x,hx⟩:∃x,t.1[(e.2-1).toNat]? =some x:=⟨_,ZAE hlt2⟩;have hc:=q9Z es e.2;rw[avZ (by omega) (by omega),ZAA,hv,ZAA,ZAA,hv,ZAA,w64 (by omega),avZ (by omega) (by omega),ZAA,hx,ZAA,axZ,ZAA,w64 (by omega)];have hC:=hM.add e (by omega) h2;have hw:okE t.1 n e↔(namedB e.1=true/\x.2.2.1=true/\x.2.2.2.2.2.2.1=n.1):=by
  unfold okE;constructor
  ·rintro⟨h3,y,h4,h5⟩;rw[hx] at h4;cases h4;exact⟨h3,h5⟩
  ·rintro⟨h3,h5⟩;exact⟨h3,x,hx,h5⟩
 rw[hw];cases h3:namedB e.1 with
 |false=>exact⟨_,_,rfl,hC,by simp⟩
 |true=>
  cases h4:x.2.2.1 with
  |false=>exact⟨_,_,rfl,hC,by simp⟩
  |true=>exact⟨_,_,rfl,hC,by simp⟩
theorem jLZ(t:Tree)(n:Ino)(l:List Ent)(M:List Int)(es:List Ent)(hf:t.1.length<=100000)(hM:Cs M t.1.length es)(hs:es.length<=90000000)(hl:l.length<=100000)(hl2:∀e∈l,1<=e.2/\e.2<=t.1.length):
 ∃w M',sConFun fuel l M t.1 t.2 n.1 n.2.1 n.2.2.1 n.2.2.2.1 n.2.2.2.2.1 n.2.2.2.2.2.1 n.2.2.2.2.2.2.1 n.2.2.2.2.2.2.2=some (w,(M',(t.1,(t.2,n))))/\(w=false->Cs M' t.1.length (es++l))/\(w=true↔¬∀e∈l,okE t.1 n e):=by
 have loop:∃o,sIndFun3_l0_it fuel l (0,(M,(t.1,(t.2,n))))=some o/\((∃M',o= .inl (M',(t.1,(t.2,n)))/\Cs M' t.1.length (es++l)/\∀e∈l,okE t.1 n e)\/(∃(k:Nat),∃M',o= .inr ((k:Int),(M',(t.1,(t.2,n))))/\¬∀e∈l,okE t.1 n e)):=by
  unfold sIndFun3_l0_it;refine aKZ (fun m (s:Int×(List Int×(List Ino×(Int×Ino))))=>∃(k:Nat),∃M',s=((k:Int),(M',(t.1,(t.2,n))))/\k+m=l.length/\Cs M' t.1.length (es++l.take k)/\∀e∈l.take k,okE t.1 n e) _ (fun m s hI=> ?_) (fun s hI=> ?_) l.length _ (by omega) ⟨0,M,rfl,by omega,by simpa using hM,by simp⟩
  ·obtain⟨k,M',rfl,hk,hC,ha⟩:=hI;have hlt:k<l.length:=by omega
   obtain⟨e,hg⟩:∃e,l[k]? =some e:=⟨_,ZAE hlt⟩;have hem:=ZAQ hg;obtain⟨h1,h2⟩:=hl2 e hem;obtain⟨w,M2,hw,hC2,hw2⟩:=ndZ t n e M' (es++l.take k) hf hC (by rw[ZAi,ZAW];omega) h1 h2;unfold sIndFun3_l0;simp only[a8Z hlt,ZAF];rw[ajZ hlt,ZAA,hg,ZAA,hw,ZAA];cases w with
   |true=>
    right;exact⟨_,rfl,.inr ⟨k,_,rfl,fun h=>hw2.1 rfl (h e hem)⟩⟩
   |false=>
    left;rw[w64 (by omega)];have hoe:okE t.1 n e:=ZBz fun h=>by have:=hw2.2 h;cases this
    refine⟨_,rfl,k+1,M2,by simp,by omega,?_,?_⟩
    ·rw[ZB0,hg,<-List.append_assoc];exact hC2
    ·intro e' he';rw[ZB0,hg] at he';rcases ZAh.1 he' with h|h
     ·exact ha e' h
     ·simp at h;rw[h];exact hoe
  ·obtain⟨k,M',rfl,hk,hC,ha⟩:=hI;have:k=l.length:=by omega
   subst this;unfold sIndFun3_l0;simp only[arZ (ZAq _),ZAC];rw[ZA7] at hC ha;exact⟨_,rfl,.inl ⟨M',rfl,hC,ha⟩⟩
 obtain⟨o,ho,h⟩:=loop;unfold sConFun sIndFun3;rw[show(n.1,(n.2.1,(n.2.2.1,(n.2.2.2.1,(n.2.2.2.2.1,(n.2.2.2.2.2.1,(n.2.2.2.2.2.2.1,n.2.2.2.2.2.2.2)))))))=n from rfl,ho,ZAA];rcases h with⟨M',rfl,hC,ha⟩|⟨k,M',rfl,ha⟩
 ·exact⟨_,_,rfl,fun _=>hC,by simp;exact fun e he=>ha (e,he)⟩
 ·refine⟨true,M',?_,by simp,by simpa using ha⟩;simp only[ZAA];rw[show decide ((k:Int)>=0)=true from by simp]
end Go.Ab.D
namespace Go.Ab.D
open Go Go.Ab
theorem nXZ{t:Tree}(hr:RightP t):
 ∃o,tRig_l0_it fuel t (0,(t.1,(t.2,List.replicate (t.1.length+1) 0)))=some o/\
  ((∃M,o= .inl (t.1,(t.2,M))/\Cs M t.1.length (allEnts t.1)/\(∀n∈t.1,(∀e∈n.2.2.2.2.2.2.2,okE t.1 n e)/\(n.2.2.1=true->reachN t.1 t.1.length n.1=true)))\/
   (o= .inr false/\¬∀n∈t.1,(∀e∈n.2.2.2.2.2.2.2,okE t.1 n e)/\(n.2.2.1=true->reachN t.1 t.1.length n.1=true))):=by
 have hlen:=hr.len;unfold tRig_l0_it;refine aKZ (fun m (s:Int×(List Ino×(Int×List Int)))=>∃(k:Nat),∃M,s=((k:Int),(t.1,(t.2,M)))/\k+m=t.1.length/\Cs M t.1.length (allEnts (t.1.take k))/\∀n∈t.1.take k,(∀e∈n.2.2.2.2.2.2.2,okE t.1 n e)/\(n.2.2.1=true->reachN t.1 t.1.length n.1=true)) _ (fun m s hI=> ?_) (fun s hI=> ?_) t.1.length _ (by omega) ⟨0,_,rfl,by omega,by simpa[allEnts] using Cs.zero t.1.length,by simp⟩
 ·obtain⟨k,M,rfl,hk,hC,ha⟩:=hI;have hlt:k<t.1.length:=by omega
  obtain⟨n,hg⟩:∃n,t.1[k]? =some n:=⟨_,ZAE hlt⟩;have hnm:=ZAQ hg;have hi:=hr.ino k n hg;have hE:=ceZ hi;have hpre:(allEnts (t.1.take k)).length<=100000:=by
   have:=jgZ (l:=t.1.take k) (c:=100) (fun n hn=>by
    obtain⟨i,hi⟩:=ZAY (ZBl hn);exact(ceZ (hr.ino i n hi)).1)
   rw[ZAW] at this;omega
  obtain⟨w,M',hw,hC',hw2⟩:=jLZ t n n.2.2.2.2.2.2.2 M (allEnts (t.1.take k)) (by omega) hC (by omega) (by omega) (fun e he=>⟨(cqZ hE.2 e he).1,(cqZ hE.2 e he).2.1⟩);unfold tRig_l0;simp only[a8Z hlt,ZAF];rw[ajZ hlt,ZAA,hg,ZAA,hw,ZAA];cases w with
  |true=>
   right;exact⟨_,rfl,.inr ⟨rfl,fun h=>hw2.1 rfl (h n hnm).1⟩⟩
  |false=>
   have hall:∀e∈n.2.2.2.2.2.2.2,okE t.1 n e:=ZBz fun h=>by have:=hw2.2 h;cases this
   simp only[ZAC];cases hu:n.2.2.1 with
   |false=>
    left;simp only[ZAC];rw[ZAA];simp only[ZAC];rw[w64 (by omega)];refine⟨_,rfl,k+1,M',by simp,by omega,?_,?_⟩
    ·rw[c1Z hg];exact hC' rfl
    ·intro x hx;rw[ZB0,hg] at hx;rcases ZAh.1 hx with h|h
     ·exact ha x h
     ·simp at h;subst h;exact⟨hall,fun h=>by rw[hu] at h;cases h⟩
   |true=>
    simp only[ZAF];rw[hi.id,meZ hr _ (by omega) (by omega),ZAA,ZAA];cases hq:reachN t.1 t.1.length ((k:Int)+1) with
    |false=>
     right;exact⟨_,rfl,.inr ⟨rfl,fun h=>by have:=(h n hnm).2 hu;rw[hi.id,hq] at this;cases this⟩⟩
    |true=>
     left;simp only[ZAJ,ZAC];rw[w64 (by omega)];refine⟨_,rfl,k+1,M',by simp,by omega,?_,?_⟩
     ·rw[c1Z hg];exact hC' rfl
     ·intro x hx;rw[ZB0,hg] at hx;rcases ZAh.1 hx with h|h
      ·exact ha x h
      ·simp at h;subst h;exact⟨hall,fun _=>by rw[hi.id];exact hq⟩
 ·obtain⟨k,M,rfl,hk,hC,ha⟩:=hI;have:k=t.1.length:=by omega
  subst this;unfold tRig_l0;simp only[arZ (ZAq _),ZAC];rw[ZA7] at hC ha;exact⟨_,rfl,.inl ⟨M,rfl,hC,ha⟩⟩
theorem o1Z{t:Tree}(hr:RightP t)(M:List Int)(hC:Cs M t.1.length (allEnts t.1)):
 ∃o,tRig_l1_it fuel (t.1,(t.2,M)) (0,M)=some o/\
  ((o= .inl ()/\∀n∈t.1,cnt (allEnts t.1) n.1=if n.1=1\/n.2.2.1=false then 0 else 1)\/
   (o= .inr false/\¬∀n∈t.1,cnt (allEnts t.1) n.1=if n.1=1\/n.2.2.1=false then 0 else 1)):=by
 have hlen:=hr.len;unfold tRig_l1_it;refine aKZ (fun m (s:Int×List Int)=>∃(k:Nat),s=((k:Int),M)/\k+m=t.1.length/\∀n∈t.1.take k,cnt (allEnts t.1) n.1=if n.1=1\/n.2.2.1=false then 0 else 1) _ (fun m s hI=> ?_) (fun s hI=> ?_) t.1.length _ (by omega) ⟨0,rfl,by omega,by simp⟩
 ·obtain⟨k,rfl,hk,ha⟩:=hI;have hlt:k<t.1.length:=by omega
  obtain⟨n,hg⟩:∃n,t.1[k]? =some n:=⟨_,ZAE hlt⟩;have hnm:=ZAQ hg;have hi:=hr.ino k n hg;have hn:=hC.n;have hv:=hC.v (k+1) (by omega);unfold tRig_l1;simp only[a8Z hlt,ZAF];rw[ajZ hlt,ZAA,hg,ZAA];have fin:∀(want:Nat),want=(if n.1=1\/n.2.2.1=false then 0 else 1)->
   (∃s',((idx? n.1 M.length).bind fun q3=>(M[q3]?).bind fun r5=>bif (!(r5==(want:Int))) then(some (.inr (.inr false)):Option ((Int×List Int)⊕(Unit⊕Bool))) else some (.inl ((IntKind.wrap .i64 ((k:Int)+1)),M)))=some (.inl s')/\∃(j:Nat),s'=((j:Int),M)/\j+m=t.1.length/\∀n∈t.1.take j,cnt (allEnts t.1) n.1=if n.1=1\/n.2.2.1=false then 0 else 1)\/
   ∃o,((idx? n.1 M.length).bind fun q3=>(M[q3]?).bind fun r5=>bif (!(r5==(want:Int))) then(some (.inr (.inr false)):Option ((Int×List Int)⊕(Unit⊕Bool))) else some (.inl ((IntKind.wrap .i64 ((k:Int)+1)),M)))=some (.inr o)/\((o= .inl ()/\∀n∈t.1,cnt (allEnts t.1) n.1=if n.1=1\/n.2.2.1=false then 0 else 1)\/(o= .inr false/\¬∀n∈t.1,cnt (allEnts t.1) n.1=if n.1=1\/n.2.2.1=false then 0 else 1)):=by
   intro want hwant;have hid:n.1=((k+1:Nat):Int):=by rw[hi.id];simp
   rw[show idx? n.1 M.length=some (k+1) from by rw[hid];exact ajZ (by omega),ZAA,hv,ZAA,w64 (by omega)];by_cases hc:cnt (allEnts t.1) ((k+1:Nat):Int)=want
   ·left;rw[hc,ZAP,ZAJ,ZAC];refine⟨_,rfl,k+1,by simp,by omega,fun x hx=> ?_⟩;rw[ZB0,hg] at hx;rcases ZAh.1 hx with h|h
    ·exact ha x h
    ·simp at h;subst h;rw[<-hwant,<-hc,hid]
   ·right;rw[show(((cnt (allEnts t.1) ((k+1:Nat):Int):Nat):Int)==(want:Int))=false from ZAb.2 (by omega),ZAe,ZAF];refine⟨_,rfl,.inr ⟨rfl,fun h=>hc ?_⟩⟩;rw[hwant,<-h n hnm,hid]
  cases hb:(n.1==1) with
  |true=>
   simp only[ZAF,ZAA];exact fin 0 (by rw[ZAO (.inl (ZBL.1 hb))])
  |false=>
   cases hu:n.2.2.1 with
   |false=>
    simp only[ZAC,ZAF,ZAA,ZAe];exact fin 0 (by rw[ZAO (.inr hu)])
   |true=>
    simp only[ZAC,ZAA,ZAJ];exact fin 1 (by rw[ZAM];rintro(h|h);(rw[h] at hb;cases hb);(rw[hu] at h;cases h))
 ·obtain⟨k,rfl,hk,ha⟩:=hI;have:k=t.1.length:=by omega
  subst this;unfold tRig_l1;simp only[arZ (ZAq _),ZAC];rw[ZA7] at ha;exact⟨_,rfl,.inl ⟨rfl,ha⟩⟩
theorem hdZ{t:Tree}(hf:Fit t.1):∃b,tRig fuel t=some b/\(b=true↔RightT t):=by
 obtain⟨b,hb,hb2⟩:=koZ hf;unfold tRig;rw[show((t.1,t.2):Tree)=t from rfl,hb,ZAA];cases b with
 |false=>exact⟨false,rfl,by constructor;(intro h;cases h);(intro h;exact hb2.2 h.r)⟩
 |true=>
  have hr:=hb2.1 rfl;have hlen:=hr.len;simp only[ZAJ,ZAC];rw[w64 (by omega),show(((t.1.length:Nat):Int)+1)=((t.1.length+1:Nat):Int) from by simp,aJZ (by simp only[bcZ];omega),ZAA,aJZ (ZAK _),ZAA,abZ]
  ·obtain⟨o,ho,h⟩:=nXZ hr;rw[ho,ZAA];rcases h with⟨M,rfl,hC,h⟩|⟨rfl,h⟩
   ·simp only;obtain⟨o,ho,h'⟩:=o1Z hr M hC;rw[ho,ZAA];rcases h' with⟨rfl,h'⟩|⟨rfl,h'⟩
    ·exact⟨true,rfl,by simp;exact⟨hr,fun n hn=>(h n hn).1,fun n hn=>(h n hn).2,h'⟩⟩
    ·exact⟨false,rfl,by simp;exact fun hh=>h' hh.cnt⟩
   ·exact⟨false,rfl,by simp;exact fun hh=>h fun n hn=>⟨hh.e n hn,hh.reach n hn⟩⟩
  ·simp only[ZAu,bcZ];omega
end Go.Ab.D
namespace Go.Ab.D
open Go Go.Ab
abbrev blt(a b:List UInt8):Bool:=Op.bytesLess a b
theorem bmZ:∀(a:List UInt8),blt a a=false
 |[]=>rfl
 |a::l=>by
  have ih:=bmZ l;simp only[blt] at ih;simp[blt,Op.bytesLess,ih,ZB3]
theorem eWZ(a b:UInt8)(l m:List UInt8):blt (a::l) (b::m)=true↔a<b\/(a=b/\blt l m=true):=by
 simp only[blt,Op.bytesLess];by_cases h:a<b
 ·simp[h]
 ·by_cases e:a=b
  ·simp[e,ZB3]
  ·simp[h,e]
theorem dWZ:∀{a b c:List UInt8},blt a b=true->blt b c=true->blt a c=true
 |[],[],_,h,_=>by cases h
 |[],_::_,[],_,h=>by cases h
 |[],_::_,_::_,_,_=>rfl
 |_::_,[],_,h,_=>by cases h
 |_::_,_::_,[],_,h=>by cases h
 |x::a,y::b,z::c,h1,h2=>by
  rw[eWZ] at h1 h2⊢;rcases h1 with h1|⟨rfl,h1⟩
  ·rcases h2 with h2|⟨rfl,h2⟩
   ·exact .inl (UInt8.lt_trans h1 h2)
   ·exact .inl h1
  ·rcases h2 with h2|⟨rfl,h2⟩
   ·exact .inl h2
   ·exact .inr ⟨rfl,dWZ h1 h2⟩
theorem ipZ:∀(a b:List UInt8),blt a b=true\/a=b\/blt b a=true
 |[],[]=>.inr (.inl rfl)
 |[],_::_=>.inl rfl
 |_::_,[]=>.inr (.inr rfl)
 |x::a,y::b=>by
  rw[eWZ,eWZ];rcases ipZ a b with h|h|h
  ·by_cases h1:x<y
   ·exact .inl (.inl h1)
   ·by_cases h2:y<x
    ·exact .inr (.inr (.inl h2))
    ·exact .inl (.inr ⟨ZB4 (ZBx.1 h2) (ZBx.1 h1),h⟩)
  ·by_cases h1:x<y
   ·exact .inl (.inl h1)
   ·by_cases h2:y<x
    ·exact .inr (.inr (.inl h2))
    ·exact .inr (.inl (by rw[ZB4 (ZBx.1 h2) (ZBx.1 h1),h]))
  ·by_cases h1:x<y
   ·exact .inl (.inl h1)
   ·by_cases h2:y<x
    ·exact .inr (.inr (.inl h2))
    ·exact .inr (.inr (.inr ⟨ZB4 (ZBx.1 h1) (ZBx.1 h2),h⟩))
theorem ntZ{a b:List UInt8}(h:blt a b=true):blt b a=false:=by
 cases h2:blt b a with
 |false=>rfl
 |true=>have:=dWZ h h2;rw[bmZ] at this;cases this
theorem eoZ:∀(a b:List UInt8),(Go.Lib.compareBytes a b<0↔blt a b=true)/\(Go.Lib.compareBytes a b=0↔a=b)
 |[],[]=>by simp[Go.Lib.compareBytes,blt,Op.bytesLess]
 |[],_::_=>by simp[Go.Lib.compareBytes,blt,Op.bytesLess]
 |_::_,[]=>by simp[Go.Lib.compareBytes,blt,Op.bytesLess]
 |x::a,y::b=>by
  have ih:=eoZ a b;rw[eWZ];unfold Go.Lib.compareBytes;by_cases h:x<y
  ·simp[h];intro e;subst e;exact absurd h (ZB3 _)
  ·by_cases h2:y<x
   ·have:x≠y:=fun e=>by subst e;exact h h2
    simp[h,h2,this]
   ·have:x=y:=ZB4 (ZBx.1 h2) (ZBx.1 h);subst this;simp[h,ih.1,ih.2]
def Srt(l:List Ent):Prop:=l.Pairwise fun a b=>blt a.1 b.1=true
theorem g4Z{many:Int}:∀{l:List Ent} {last:List UInt8},okEnts many last l->Srt l/\∀e∈l,blt last e.1=true
 |[],_,_=>⟨List.Pairwise.nil,fun _ h=>by cases h⟩
 |a::r,last,h=>by
  rw[byZ] at h;have ih:=g4Z h.2.2.2.2.2;refine⟨List.Pairwise.cons ih.2 ih.1,fun e he=> ?_⟩;rcases ZAU.1 he with rfl|he
  ·exact h.2.2.1
  ·exact dWZ h.2.2.1 (ih.2 e he)
theorem etZ{many:Int}:∀{l:List Ent} {last:List UInt8},Srt l->(∀e∈l,blt last e.1=true/\1<=e.1.length/\e.1.length<=30/\1<=e.2/\e.2<=many)->okEnts many last l
 |[],_,_,_=>trivial
 |a::r,last,hs,h=>by
  rw[byZ];have ha:=h a (by simp);have hs':=ZBJ.1 hs;exact⟨ha.2.1,ha.2.2.1,ha.1,ha.2.2.2.1,ha.2.2.2.2,etZ hs'.2 fun e he=>⟨hs'.1 e he,(h e (by simp[he])).2⟩⟩
def pos(l:List Ent)(s:List UInt8):Nat:=(l.takeWhile fun e=>blt e.1 s).length
def hasN(l:List Ent)(s:List UInt8):Bool:=l.any fun e=>e.1==s
def insE(l:List Ent)(s:List UInt8)(id:Int):List Ent:=l.take (pos l s)++[(s,id)]++l.drop (pos l s)
def delE(l:List Ent)(s:List UInt8):List Ent:=l.filter fun e=> !(e.1==s)
theorem iXZ(l:List Ent)(s:List UInt8):pos l s<=l.length:=(List.takeWhile_prefix _).length_le
theorem iNZ{l:List Ent}{s:List UInt8}(h:Srt l):∀(i:Nat) e,l[i]? =some e->(i<pos l s↔blt e.1 s=true):=by
 induction l with
 |nil=>intro i e he;simp at he
 |cons a l ih=>
  have h':=ZBJ.1 h;intro i e he;unfold pos;rw[List.takeWhile_cons];cases ha:blt a.1 s with
  |false=>
   simp only[ZBD,ZB7,List.length_nil];constructor
   ·intro hh;exact absurd hh (ZBt _)
   ·intro hh;cases i with
    |zero=>simp at he;subst he;rw[ha] at hh;cases hh
    |succ i=>
     have:=h'.1 e (ZAQ (by simpa using he));rw[dWZ this hh] at ha;cases ha
  |true=>
   simp only[if_true,ZBi];cases i with
   |zero=>simp at he;subst he;simp[ha]
   |succ i=>
    have:=ih h'.2 i e (by simpa using he);unfold pos at this;rw[<-this];omega
theorem nhZ{l:List Ent}{s:List UInt8}(h:Srt l):hasN l s=true↔∃id,l[pos l s]? =some (s,id):=by
 constructor
 ·intro hh;unfold hasN at hh;rw[List.any_eq_true] at hh;obtain⟨e,he,hes⟩:=hh;have hes:e.1=s:=by simpa using hes
  obtain⟨i,hi⟩:=ZAY he;have h1:=iNZ (s:=s) h i e hi;rw[hes,bmZ] at h1;have h2:¬i<pos l s:=fun h=>by have:=h1.1 h;cases this
  have h3:¬pos l s<i:=fun hlt=>by
   have hil:=(ZAB.1 hi).1;have hg:l[pos l s]? =some (l[pos l s]'(by omega)):=ZAE (by omega);have h4:=(iNZ (s:=s) h (pos l s) _ hg);have h5:blt (l[pos l s]'(by omega)).1 e.1=true:=by
    have:=List.pairwise_iff_getElem.1 h (pos l s) i (by omega) hil hlt;rw[(ZAB.1 hi).2] at this;exact this
   rw[hes] at h5;exact absurd (h4.2 h5) (ZAq _)
  have:i=pos l s:=by omega
  subst this;exact⟨e.2,by rw[hi,<-hes]⟩
 ·rintro⟨id,h⟩;unfold hasN;rw[List.any_eq_true];exact⟨_,ZAQ h,by simp⟩
theorem lpZ{l:List Ent}(s:List UInt8)(h:Srt l)(hl:l.length<=100000):sBinSeaFu_l0_it fuel l s (0,((l.length:Nat):Int))=some ((pos l s:Nat):Int):=by
 unfold sBinSeaFu_l0_it;have hp:=iXZ l s;obtain⟨o,ho,h2⟩:∃o,iter fuel (fun tt=>sBinSeaFu_l0 fuel l s tt.1 tt.2) (0,((l.length:Nat):Int))=some o/\o=((pos l s:Nat):Int):=by
  refine aKZ (fun n (t:Int×Int)=>∃i j:Nat,t=((i:Int),(j:Int))/\i<=pos l s/\pos l s<=j/\j<=l.length/\j-i<=n) _ (fun n t hI=> ?_) (fun t hI=> ?_) l.length _ (by omega) ⟨0,l.length,rfl,by omega,hp,by omega,by omega⟩
  ·obtain⟨i,j,rfl,h1,h2,h3,h4⟩:=hI;unfold sBinSeaFu_l0;by_cases hij:i<j
   ·have e0:IntKind.wrap .u64 (IntKind.wrap .i64 ((i:Int)+(j:Int)))=((i+j:Nat):Int):=by
     rw[w64 (by omega),wu64 (by omega)];simp
    have e1:IntKind.wrap .i64 (Int.fdiv (IntKind.wrap .u64 (IntKind.wrap .i64 ((i:Int)+(j:Int)))) 2)=(((i+j)/2:Nat):Int):=by
     rw[e0,show(2:Int)=((2:Nat):Int) from rfl,oAZ,w64 (by omega)]
    have hm:(i+j)/2<l.length:=by omega
    obtain⟨e,hg⟩:∃e,l[(i+j)/2]? =some e:=⟨_,ZAE hm⟩;simp only[a8Z hij,ZAF,e1];rw[ajZ hm,ZAA,hg,ZAA];have hc:=eoZ e.1 s;have hlt:=iNZ (s:=s) h _ e hg;have he:tent1 fuel e s=some (Go.Lib.compareBytes e.1 s):=rfl;rw[he,ZAA];left;by_cases hq:Go.Lib.compareBytes e.1 s<0
    ·have hp2:=hlt.2 (hc.1.1 hq);rw[ZAS hq,ZAF,ZAA,w64 (by omega)];exact⟨_,rfl,(i+j)/2+1,j,by simp,by omega,h2,h3,by omega⟩
    ·have hp2:¬(i+j)/2<pos l s:=fun hh=>hq (hc.1.2 (hlt.1 hh));rw[ZAL hq,ZAC,ZAA];exact⟨_,rfl,i,(i+j)/2,rfl,h1,by omega,by omega,by omega⟩
   ·right;simp only[arZ hij,ZAC];exact⟨_,rfl,by rw[show i=pos l s from by omega]⟩
  ·obtain⟨i,j,rfl,h1,h2,h3,h4⟩:=hI;unfold sBinSeaFu_l0;have hij:¬i<j:=by omega
   simp only[arZ hij,ZAC];exact⟨_,rfl,by rw[show i=pos l s from by omega]⟩
 rw[ho,h2]
theorem heZ{n:Ino}(s:List UInt8)(h:Srt n.2.2.2.2.2.2.2)(hl:n.2.2.2.2.2.2.2.length<=100000):tent fuel n s=some (((pos n.2.2.2.2.2.2.2 s:Nat):Int),hasN n.2.2.2.2.2.2.2 s):=by
 unfold tent sBinSeaFu;rw[lpZ s h hl,ZAA];have hp:=iXZ n.2.2.2.2.2.2.2 s;have hat:=nhZ (s:=s) h;by_cases hlt:pos n.2.2.2.2.2.2.2 s<n.2.2.2.2.2.2.2.length
 ·obtain⟨e,hg⟩:∃e,n.2.2.2.2.2.2.2[pos n.2.2.2.2.2.2.2 s]? =some e:=⟨_,ZAE hlt⟩;rw[a8Z hlt,ZAF,ajZ hlt,ZAA,hg,ZAA,show tent1 fuel e s=some (Go.Lib.compareBytes e.1 s) from rfl,ZAA,ZAA];congr 2;rw[Bool.eq_iff_iff,hat,hg,ZBL,(eoZ e.1 s).2];constructor
  ·rintro rfl;exact⟨_,rfl⟩
  ·rintro⟨id,h⟩;cases h;rfl
 ·rw[arZ hlt,ZAC,ZAA];congr 2;cases hh:hasN n.2.2.2.2.2.2.2 s with
  |false=>rfl
  |true=>
   obtain⟨id,h⟩:=hat.1 hh;exact absurd (ZAB.1 h).1 hlt
theorem dtZ{l:List Ent}{s:List UInt8}{id:Int}{e:Ent}:e∈insE l s id↔e=(s,id)\/e∈l:=by
 unfold insE;rw[ZAv,ZAh,ZAh];have:e∈l↔e∈l.take (pos l s)\/e∈l.drop (pos l s):=by rw[<-List.mem_append,ZBd]
 rw[this,ZBP];constructor
 ·rintro(h|h|h)
  ·exact .inr (.inl h)
  ·exact .inl h
  ·exact .inr (.inr h)
 ·rintro(h|h|h)
  ·exact .inr (.inl h)
  ·exact .inl h
  ·exact .inr (.inr h)
theorem b4Z{l:List Ent}{s:List UInt8}{e:Ent}:e∈delE l s↔e∈l/\e.1≠s:=by
 unfold delE;simp[List.mem_filter]
theorem dkZ{l:List Ent}(s:List UInt8)(h:Srt l):Srt (delE l s):=List.Pairwise.filter _ h
theorem a7Z{l:List Ent}{s:List UInt8}:hasN l s=true↔∃id,(s,id)∈l:=by
 unfold hasN;rw[List.any_eq_true];constructor
 ·rintro⟨e,he,hs⟩;have:e.1=s:=by simpa using hs
  exact⟨e.2,by rw[<-this];exact he⟩
 ·rintro⟨id,h⟩;exact⟨_,h,by simp⟩
theorem eYZ{l:List Ent}{s:List UInt8}(id:Int)(h:Srt l)(hn:hasN l s=false):Srt (insE l s id):=by
 unfold insE;have h1:Srt (l.take (pos l s)++l.drop (pos l s)):=by rw[ZBd];exact h
 have h2:=ZBm.1 h1;have lo:∀e∈l.take (pos l s),blt e.1 s=true:=fun e he=>by
  obtain⟨i,hi⟩:=ZAY he;have hl:=(ZAB.1 hi).1;rw[ZAW] at hl;rw[ZA5,ZAO (by omega)] at hi;exact(iNZ h i e hi).1 (by omega)
 have hi:∀e∈l.drop (pos l s),blt s e.1=true:=fun e he=>by
  obtain⟨i,hi⟩:=ZAY he;rw[ZA4] at hi;have h3:=iNZ (s:=s) h _ e hi;rcases ipZ e.1 s with h4|h4|h4
  ·have:=h3.2 h4;omega
  ·have:hasN l s=true:=a7Z.2 ⟨e.2,by rw[<-h4];exact ZAQ hi⟩;rw[hn] at this;cases this
  ·exact h4
 refine ZBm.2 ⟨ZBm.2 ⟨h2.1,List.pairwise_singleton _ _,fun a ha b hb=> ?_⟩,h2.2.1,fun a ha b hb=> ?_⟩
 ·rw[ZBP] at hb;subst hb;exact lo a ha
 ·rcases ZAh.1 ha with ha|ha
  ·exact h2.2.2 a ha b hb
  ·rw[ZBP] at ha;subst ha;exact hi b hb
theorem dqZ{l:List Ent}(h:Srt l){s:List UInt8}{a b:Int}(h1:(s,a)∈l)(h2:(s,b)∈l):a=b:=by
 induction l with
 |nil=>cases h1
 |cons x l ih=>
  have h':=ZBJ.1 h;rcases ZAU.1 h1 with e1|e1
  ·rcases ZAU.1 h2 with e2|e2
   ·rw[<-e2] at e1;injection e1
   ·subst e1;have:=h'.1 _ e2;rw[bmZ] at this;cases this
  ·rcases ZAU.1 h2 with e2|e2
   ·subst e2;have:=h'.1 _ e1;rw[bmZ] at this;cases this
   ·exact ih h'.2 e1 e2
theorem neZ:∀{l m:List Ent},Srt l->Srt m->(∀e,e∈l↔e∈m)->l=m
 |[],[],_,_,_=>rfl
 |[],b::m,_,_,h=>by have:=(h b).2 (by simp);cases this
 |a::l,[],_,_,h=>by have:=(h a).1 (by simp);cases this
 |a::l,b::m,h1,h2,h=>by
  have h1':=ZBJ.1 h1;have h2':=ZBJ.1 h2;have hab:a=b:=by
   rcases ZAU.1 ((h a).1 (by simp)) with e|e
   ·exact e
   ·rcases ZAU.1 ((h b).2 (by simp)) with e'|e'
    ·exact e'.symm
    ·have q1:=h2'.1 a e;have q2:=h1'.1 b e';rw[ntZ q1] at q2;cases q2
  subst hab;rw[neZ h1'.2 h2'.2 fun e=> ?_];constructor
  ·intro he;rcases ZAU.1 ((h e).1 (by simp[he])) with e'|e'
   ·subst e';have:=h1'.1 _ he;rw[bmZ] at this;cases this
   ·exact e'
  ·intro he;rcases ZAU.1 ((h e).2 (by simp[he])) with e'|e'
   ·subst e';have:=h2'.1 _ he;rw[bmZ] at this;cases this
   ·exact e'
theorem fcZ(l:List Ent)(s:List UInt8)(id:Int):(insE l s id).length=l.length+1:=by
 have:=iXZ l s;unfold insE;simp only[ZAi,ZAW,ZAy,List.length_singleton];omega
theorem kiZ{l:List Ent}{s:List UInt8}{id:Int}(h:Srt l)(hm:(s,id)∈l):(delE l s).length+1=l.length:=by
 have e:l=insE (delE l s) s id:=neZ h (eYZ id (dkZ s h) (by
  cases hh:hasN (delE l s) s with
  |false=>rfl
  |true=>obtain⟨i,hi⟩:=a7Z.1 hh;exact absurd rfl (b4Z.1 hi).2)) fun e=>by
   rw[dtZ,b4Z];constructor
   ·intro he;by_cases hs:e.1=s
    ·left;have:(s,e.2)∈l:=by rw[<-hs];exact he
     rw[dqZ h hm this,<-hs]
    ·exact .inr ⟨he,hs⟩
   ·rintro(rfl|he)
    ·exact hm
    ·exact he.1
 conv=>rhs;rw[e]
 rw[fcZ]
end Go.Ab.D
namespace Go.Ab.D
open Go Go.Ab
inductive Rch (l:List Ino):Int->Prop
 |root:Rch l 1
 |step {id:Int} {x:Ino}:l[(id-1).toNat]? =some x->x.2.2.1=true->Rch l x.2.2.2.2.2.2.1->Rch l id
structure TreeOK (t:Tree):Prop where
 r:RightP t
 e:∀(i:Nat) n,t.1[i]? =some n->∀s id,(s,id)∈n.2.2.2.2.2.2.2->namedB s=true/\id≠1/\∃x,t.1[(id-1).toNat]? =some x/\x.2.2.1=true/\x.2.2.2.2.2.2.1=(i:Int)+1
 u:∀(j:Nat) x,t.1[j]? =some x->x.2.2.1=true->j≠0->∃n s,t.1[(x.2.2.2.2.2.2.1-1).toNat]? =some n/\(s,(j:Int)+1)∈n.2.2.2.2.2.2.2/\∀s',(s',(j:Int)+1)∈n.2.2.2.2.2.2.2->s'=s
 a:∀(j:Nat) x,t.1[j]? =some x->x.2.2.1=true->Rch t.1 ((j:Int)+1)
theorem d3Z(l:List Ino):∀(k:Nat) (id:Int),reachN l k id=true->reachN l (k+1) id=true
 |0,id,h=>by
  unfold reachN at h⊢;rw[h];rfl
 |k+1,id,h=>by
  unfold reachN at h⊢;cases h1:(id==1) with
  |true=>rfl
  |false=>
   rw[h1] at h;simp only[ZAC] at h⊢;cases hg:l[(id-1).toNat]? with
   |none=>rw[hg] at h;cases h
   |some n=>
    rw[hg] at h;simp only[ZAD] at h⊢;exact⟨h.1,d3Z l k _ h.2⟩
theorem ijZ(l:List Ino){k m:Nat}(h:k<=m){id:Int}(hr:reachN l k id=true):reachN l m id=true:=by
 induction h with
 |refl=>exact hr
 |step _ ih=>exact d3Z l _ _ ih
theorem iPZ{α:Type}{p q:α->Bool}:∀{L:List α},(∀x∈L,p x=true->q x=true)->(∃x∈L,p x=false/\q x=true)->L.countP p+1<=L.countP q
 |[],_,h=>by obtain⟨_,h,_⟩:=h;cases h
 |a::L,h1,h2=>by
  have h1':=fun x hx=>h1 x (ZAc _ hx);rw[List.countP_cons,List.countP_cons];by_cases hL:∃x∈L,p x=false/\q x=true
  ·have:=iPZ h1' hL;have h3:=h1 a (by simp);cases hp:p a with
   |false=>simp;split<;>omega
   |true=>simp[h3 hp];exact this
  ·obtain⟨x,hx,hpx,hqx⟩:=h2;rcases ZAU.1 hx with rfl|hx
   ·have:L.countP p<=L.countP q:=List.countP_mono_left h1';simp[hpx,hqx];exact this
   ·exact absurd ⟨x,hx,hpx,hqx⟩ hL
theorem eyZ{l:List Ino}(h0:1<=l.length)(hp:∀(j:Nat) x,l[j]? =some x->x.2.2.1=true->1<=x.2.2.2.2.2.2.1/\x.2.2.2.2.2.2.1<=l.length){id:Int}(h1:1<=id)(h2:id<=l.length)(h:Rch l id):reachN l l.length id=true:=by
 have stable:∀k,(∀i∈List.range l.length,reachN l (k+1) ((i:Int)+1)=true->reachN l k ((i:Int)+1)=true)->∀id,Rch l id->1<=id->id<=l.length->reachN l k id=true:=by
  intro k hk id h;induction h with
  |root=>intro _ _;exact ijZ l (ZBT k) (by rfl)
  | @step id x hg hu _ ih=>
    intro h1 h2;have hx:=hp _ _ hg hu;have hh:=ih hx.1 hx.2;have h3:reachN l (k+1) id=true:=by
     unfold reachN;cases hid:(id==1) with
     |true=>rfl
     |false=>rw[ZAC,hg];simp only[hu,hh];rfl
    have:=hk (id-1).toNat (by rw[ZB5];omega);rw[show(((id-1).toNat:Nat):Int)+1=id from by omega] at this;exact this h3
 have grow:∀k,(∃j,j<=k/\∀i∈List.range l.length,reachN l (j+1) ((i:Int)+1)=true->reachN l j ((i:Int)+1)=true)\/k+1<=(List.range l.length).countP fun i:Nat=>reachN l k ((i:Int)+1):=by
  intro k;induction k with
  |zero=>
   right;rw[show 0+1=1 from rfl];refine List.countP_pos_iff.2 ⟨0,by rw[ZB5];omega,by rfl⟩
  |succ k ih=>
   rcases ih with⟨j,hj,h⟩|ih
   ·exact .inl ⟨j,by omega,h⟩
   ·by_cases hs:∀i∈List.range l.length,reachN l (k+1) ((i:Int)+1)=true->reachN l k ((i:Int)+1)=true
    ·exact .inl ⟨k,by omega,hs⟩
    ·right;have:=iPZ (p:=fun i:Nat=>reachN l k ((i:Int)+1)) (q:=fun i:Nat=>reachN l (k+1) ((i:Int)+1)) (L:=List.range l.length) (fun i _=>d3Z l k _) (by
      apply ZBz;intro hn;exact hs fun i hi hq=>by
       cases hpp:reachN l k ((i:Int)+1) with
       |true=>rfl
       |false=>exact absurd ⟨i,hi,hpp,hq⟩ hn)
     omega
 rcases grow l.length with⟨j,hj,hs⟩|hg
 ·exact ijZ l hj (stable j hs id h h1 h2)
 ·have:=List.countP_le_length (p:=fun i:Nat=>reachN l l.length ((i:Int)+1)) (l:=List.range l.length);rw[List.length_range] at this;omega
theorem eXZ{l:List Ent}{id:Int}:cnt l id=0↔∀s,(s,id)∉l:=by
 unfold cnt;rw[List.length_eq_zero_iff,List.filter_eq_nil_iff];constructor
 ·intro h s hs;have:=h _ hs;simp at this
 ·intro h e he hh;have:e.2=id:=by simpa using hh
  subst this;exact h e.1 he
theorem liZ{l:List Ent}(h:Srt l){id:Int}{s:List UInt8}(hm:(s,id)∈l)(hu:∀s',(s',id)∈l->s'=s):cnt l id=1:=by
 unfold cnt;have hs:Srt (l.filter fun e=>e.2==id):=List.Pairwise.filter _ h;have hin:∀e∈l.filter fun e=>e.2==id,e.1=s:=fun e he=>by
  rw[List.mem_filter] at he;have h2:e.2=id:=by simpa using he.2
  exact hu _ (by rw[<-h2];exact he.1)
 have hm':(s,id)∈l.filter fun e=>e.2==id:=List.mem_filter.2 ⟨hm,by simp⟩;cases hL:l.filter (fun e=>e.2==id) with
 |nil=>rw[hL] at hm';cases hm'
 |cons a r=>
  cases r with
  |nil=>rfl
  |cons b r=>
   rw[hL] at hs hin;have:=(ZBJ.1 hs).1 b (by simp);rw[hin a (by simp),hin b (by simp),bmZ] at this;cases this
theorem fsZ{l:List Ino}{e:Ent}:e∈allEnts l↔∃(i:Nat) (n:Ino),l[i]? =some n/\e∈n.2.2.2.2.2.2.2:=by
 unfold allEnts;rw[List.mem_flatMap];constructor
 ·rintro⟨n,hn,he⟩;obtain⟨i,hi⟩:=ZAY hn;exact⟨i,n,hi,he⟩
 ·rintro⟨i,n,hi,he⟩;exact⟨n,ZAQ hi,he⟩
theorem mUZ{id:Int}:∀{l:List Ino} {p:Nat} {n:Ino},l[p]? =some n->(∀(i:Nat) m,i≠p->l[i]? =some m->cnt m.2.2.2.2.2.2.2 id=0)->cnt (allEnts l) id=cnt n.2.2.2.2.2.2.2 id
 |[],_,_,h,_=>by simp at h
 |a::l,p,n,h,h2=>by
  have e1:allEnts (a::l)=a.2.2.2.2.2.2.2++allEnts l:=by simp[allEnts]
  rw[e1,g2Z];cases p with
  |zero=>
   simp at h;subst h;have:cnt (allEnts l) id=0:=eXZ.2 fun s hs=>by
    obtain⟨i,m,hm,he⟩:=fsZ.1 hs;exact eXZ.1 (h2 (i+1) m (by omega) (by simpa using hm)) s he
   omega
  |succ p=>
   have h0:=h2 0 a (by omega) (by simp);have:=mUZ (l:=l) (p:=p) (n:=n) (by simpa using h) fun i m hi hm=>h2 (i+1) m (by omega) (by simpa using hm);omega
theorem RightP.id{t:Tree}(h:RightP t){i:Nat}{n:Ino}(hg:t.1[i]? =some n):n.1=(i:Int)+1:=by
 have:=(h.ino i n hg).id;omega
theorem RightP.srt{t:Tree}(h:RightP t){i:Nat}{n:Ino}(hg:t.1[i]? =some n):Srt n.2.2.2.2.2.2.2:=(g4Z (ceZ (h.ino i n hg)).2).1
theorem RightP.entid{t:Tree}(h:RightP t){i:Nat}{n:Ino}(hg:t.1[i]? =some n){s:List UInt8}{id:Int}(he:(s,id)∈n.2.2.2.2.2.2.2):1<=id/\id<=t.1.length:=by
 have:=cqZ (ceZ (h.ino i n hg)).2 _ he;exact⟨this.1,this.2.1⟩
theorem RightP.lt{t:Tree}(_h:RightP t){i:Nat}{n:Ino}(hg:t.1[i]? =some n):i<t.1.length:=(ZAB.1 hg).1
theorem RightP.isdir{t:Tree}(h:RightP t){i:Nat}{n:Ino}(hg:t.1[i]? =some n){e:Ent}(he:e∈n.2.2.2.2.2.2.2):n.2.2.1=true/\n.2.2.2.1=true:=by
 have ho:=h.ino i n hg;cases hu:n.2.2.1 with
 |false=>rw[(ho.bare hu).2.2.2.2] at he;cases he
 |true=>
  cases hd:n.2.2.2.1 with
  |false=>rw[(ho.file hu hd).2.1] at he;cases he
  |true=>exact⟨rfl,rfl⟩
theorem mDZ{t:Tree}(h:TreeOK t):RightT t:=by
 refine⟨h.r,fun n hn e he=> ?_,fun n hn hu=> ?_,fun n hn=> ?_⟩
 ·obtain⟨i,hi⟩:=ZAY hn;obtain⟨h1,_,x,h2,h3,h4⟩:=h.e i n hi e.1 e.2 he;exact⟨h1,x,h2,h3,by rw[h4,h.r.id hi]⟩
 ·obtain⟨i,hi⟩:=ZAY hn;have hlt:=h.r.lt hi;rw[h.r.id hi];exact eyZ h.r.len.1 (fun j x hx hxu=>(h.r.ino j x hx).par hxu) (by omega) (by omega) (h.a i n hi hu)
 ·obtain⟨i,hi⟩:=ZAY hn;have hid:=h.r.id hi;by_cases hc:n.1=1\/n.2.2.1=false
  ·rw[ZAO hc];refine eXZ.2 fun s hs=> ?_;obtain⟨k,m,hm,he⟩:=fsZ.1 hs;obtain⟨_,h1,x,h2,h3,_⟩:=h.e k m hm _ _ he;rcases hc with hc|hc
   ·exact h1 hc
   ·rw[hid,show((i:Int)+1-1).toNat=i from by omega,hi] at h2;cases h2;rw[hc] at h3;cases h3
  ·rw[ZAM hc];have hu:n.2.2.1=true:=by
    cases hu:n.2.2.1 with
    |true=>rfl
    |false=>exact absurd (.inr hu) hc
   have hi0:i≠0:=fun h0=>hc (.inl (by rw[hid,h0];rfl));obtain⟨m,s,hm,hs,hq⟩:=h.u i n hi hu hi0;rw[mUZ hm,hid]
   ·exact liZ (h.r.srt hm) hs hq
   ·intro k y hk hy;refine eXZ.2 fun s' hs'=> ?_;obtain⟨_,_,x,h2,_,h4⟩:=h.e k y hy _ _ hs';rw[hid,show((i:Int)+1-1).toNat=i from by omega,hi] at h2;cases h2;rw[h4] at hk;omega
theorem bJZ{t:Tree}(h:TreeOK t):tRig fuel t=some true:=by
 obtain⟨b,hb,hq⟩:=hdZ h.r.fit;rw[hb,hq.2 (mDZ h)]
end Go.Ab.D
namespace Go.Ab.D
open Go Go.Ab
def IsH(l:List Ino)(h:Int×Int)(n:Ino):Prop:=1<=h.1/\l[(h.1-1).toNat]? =some n/\n.2.2.1=true/\n.2.1=h.2
def IsD(l:List Ino)(h:Int×Int)(n:Ino):Prop:=IsH l h n/\n.2.2.2.1=true
theorem h0Z{t:Tree}(hf:Fit t.1){h:Int×Int}(hn:¬∃n,IsH t.1 h n):inode_Get fuel t h=some (0,0,false,false,0,[],0,[],170):=by
 unfold inode_Get;have hlen:=hf.n;by_cases h1:h.1<1
 ·rw[ZAS h1,ZAF,ZAA];rfl
 rw[ZAL h1,ZAC,ZAA];by_cases h2:h.1>((t.1.length:Nat):Int)
 ·simp only[ZAS h2,ZAF]
 simp only[ZAL h2,ZAC];rw[w64 (by omega),avZ (by omega) (by omega),ZAA];obtain⟨x,hx⟩:∃x,t.1[(h.1-1).toNat]? =some x:=⟨_,ZAE (by omega)⟩;rw[hx,ZAA];cases hu:x.2.2.1 with
 |false=>simp only[ZAe,ZAF,ZAA]
 |true=>
  simp only[ZAJ,ZAC,ZAA];cases hg:(x.2.1==h.2) with
  |false=>simp only[ZAe,ZAF]
  |true=>exact absurd ⟨x,by omega,hx,hu,by simpa using hg⟩ hn
theorem eVZ{t:Tree}(hf:Fit t.1){h:Int×Int}{n:Ino}(hn:IsH t.1 h n):inode_Get fuel t h=some (n.1,n.2.1,n.2.2.1,n.2.2.2.1,n.2.2.2.2.1,n.2.2.2.2.2.1,n.2.2.2.2.2.2.1,n.2.2.2.2.2.2.2,0):=by
 unfold inode_Get;have hlen:=hf.n;obtain⟨h1,hx,hu,hg⟩:=hn;obtain⟨n1,n2,n3,n4,n5,n6,n7,n8⟩:=n;simp only at hu hg;subst hu hg;have hlt:=(ZAB.1 hx).1;rw[ZAL (show¬h.1<1 by omega),ZAC,ZAA];simp only[ZAL (show¬h.1>((t.1.length:Nat):Int) by omega),ZAC];rw[w64 (by omega),avZ (by omega) (by omega),ZAA,hx,ZAA];simp only[ZAJ,ZAC,ZAA,ZAP];rw[k3Z (hf.at hx),ZAA]
def dirE(l:List Ino)(h:Int×Int):Int:=
 if 1<=h.1 then match l[(h.1-1).toNat]? with
  |some n=>if n.2.2.1=true/\n.2.1=h.2 then if n.2.2.2.1 then 0 else 173 else 170
  |none=>170
 else 170
theorem b8Z{l:List Ino}{h:Int×Int}{n:Ino}(a:IsD l h n):dirE l h=0:=by
 obtain⟨⟨h1,hx,hu,hg⟩,hd⟩:=a;unfold dirE;rw[ZAO h1,hx];simp[hu,hg,hd]
theorem boZ(l:List Ino)(h:Int×Int):(∃n,IsD l h n)\/(dirE l h≠0/\((¬∃n,IsH l h n)/\dirE l h=170\/∃n,IsH l h n/\n.2.2.2.1=false/\dirE l h=173)):=by
 unfold dirE;by_cases h1:1<=h.1
 ·rw[ZAO h1];cases hx:l[(h.1-1).toNat]? with
  |none=>right;exact⟨by simp,.inl ⟨fun⟨n,hn⟩=>(by have:=hn.2.1;rw[hx] at this;cases this),rfl⟩⟩
  |some n=>
   simp only;by_cases hu:n.2.2.1=true/\n.2.1=h.2
   ·rw[ZAO hu];cases hd:n.2.2.2.1 with
    |true=>left;exact⟨n,⟨h1,hx,hu.1,hu.2⟩,hd⟩
    |false=>right;exact⟨by simp,.inr ⟨n,⟨h1,hx,hu.1,hu.2⟩,hd,by simp⟩⟩
   ·rw[ZAM hu];right;exact⟨by simp,.inl ⟨fun⟨m,hm⟩=>by
     have:=hm.2.1;rw[hx] at this;cases this;exact hu ⟨hm.2.2.1,hm.2.2.2⟩,by rfl⟩⟩
 ·rw[ZAM h1];right;exact⟨by simp,.inl ⟨fun⟨n,hn⟩=>h1 hn.1,rfl⟩⟩
theorem h2Z{t:Tree}(hf:Fit t.1){h:Int×Int}(hb:dirE t.1 h≠0):∃v:Ino,tdir fuel t h=some (v.1,v.2.1,v.2.2.1,v.2.2.2.1,v.2.2.2.2.1,v.2.2.2.2.2.1,v.2.2.2.2.2.2.1,v.2.2.2.2.2.2.2,dirE t.1 h):=by
 rcases boZ t.1 h with⟨n,hn⟩|⟨_,hn|⟨n,hn,hd,he⟩⟩
 ·exact absurd (b8Z hn) hb
 ·unfold tdir;rw[show((t.1,t.2):Tree)=t from rfl,show((h.1,h.2):Int×Int)=h from rfl,h0Z hf hn.1,ZAA,hn.2];exact⟨(0,0,false,false,0,[],0,[]),rfl⟩
 ·unfold tdir;rw[show((t.1,t.2):Tree)=t from rfl,show((h.1,h.2):Int×Int)=h from rfl,eVZ hf hn,ZAA,he];simp only[ZAP,ZAF,ZAA,hd,ZAe];exact⟨(0,0,false,false,0,[],0,[]),rfl⟩
theorem ggZ{t:Tree}(hf:Fit t.1){h:Int×Int}{n:Ino}(hn:IsD t.1 h n):tdir fuel t h=some (n.1,n.2.1,n.2.2.1,n.2.2.2.1,n.2.2.2.2.1,n.2.2.2.2.2.1,n.2.2.2.2.2.2.1,n.2.2.2.2.2.2.2,0):=by
 unfold tdir;rw[show((t.1,t.2):Tree)=t from rfl,show((h.1,h.2):Int×Int)=h from rfl,eVZ hf hn.1,ZAA];simp only[ZAP,ZAF,ZAA,hn.2,ZAJ,ZAC]
theorem bgZ{t:Tree}(hf:Fit t.1){l:List (Int×Int)}{k:Nat}{d:Int×Int}{n:Ino}{out:List Ino}(hl:l.length<=10)(hk:l[k]? =some d)(hn:IsD t.1 d n)(ho:out.length<=10):
 task_l0 fuel l (k:Int) t.1 t.2 out=some (.inl (((k+1:Nat):Int),t.1,t.2,out++[n])):=by
 have hlt:=(ZAB.1 hk).1;unfold task_l0;rw[a8Z hlt,ZAF,ajZ hlt,ZAA,hk,ZAA,show((d.1,d.2):Int×Int)=d from rfl,ggZ (t:=(t.1,t.2)) hf hn,ZAA];simp only[ZAP,ZAJ,ZAC];rw[abZ (by simp only[ZAD,ZAu,bcZ];omega),w64 (by omega)]
 rfl
theorem bOZ{t:Tree}(hf:Fit t.1){l:List (Int×Int)}{k:Nat}{d:Int×Int}{out:List Ino}(hk:l[k]? =some d)(hb:dirE t.1 d≠0):
 task_l0 fuel l (k:Int) t.1 t.2 out=some (.inr (.inr (dirE t.1 d,[]))):=by
 have hlt:=(ZAB.1 hk).1;obtain⟨v,hv⟩:=h2Z hf hb;unfold task_l0;rw[a8Z hlt,ZAF,ajZ hlt,ZAA,hk,ZAA,show((d.1,d.2):Int×Int)=d from rfl,show((t.1,t.2):Tree)=t from rfl,hv,ZAA];simp only[ZAb.2 hb,ZAe,ZAF]
theorem cTZ{t:Tree}{l:List (Int×Int)}{k:Nat}{out:List Ino}(hk:l.length=k):task_l0 fuel l (k:Int) t.1 t.2 out=some (.inr (.inl out)):=by
 unfold task_l0;rw[arZ (by omega),ZAC]
theorem n1Z:∃m,fuel=m+1+1+1:=⟨4611686018427387901,rfl⟩
theorem cYZ{t:Tree}(h:TreeOK t){d:Int×Int}(hb:dirE t.1 d≠0):task fuel t [d]=some (dirE t.1 d,[]):=by
 unfold task task_l0_it;rw[show((t.1,t.2):Tree)=t from rfl,bJZ h,ZAA,ZAJ,ZAC];obtain⟨m,hm⟩:=n1Z
 conv=>lhs;arg 1;arg 1;rw[hm]
 rw[cgZ (o:=.inr (dirE t.1 d,[])) (by exact bOZ (k:=0) h.r.fit rfl hb)]
 rfl
theorem aDZ{t:Tree}(h:TreeOK t){d:Int×Int}{n:Ino}(hn:IsD t.1 d n):task fuel t [d]=some (0,[n]):=by
 unfold task task_l0_it;rw[show((t.1,t.2):Tree)=t from rfl,bJZ h,ZAA,ZAJ,ZAC];obtain⟨m,hm⟩:=n1Z
 conv=>lhs;arg 1;arg 1;rw[hm]
 rw[dRZ (s':=(((1:Nat):Int),t.1,t.2,[n])) (by exact bgZ (k:=0) (out:=[]) h.r.fit (by simp) rfl hn (by simp)),
  cgZ (o:=.inl [n]) (by exact cTZ (k:=1) rfl)]
 rfl
theorem jjZ{t:Tree}(h:TreeOK t){d e:Int×Int}(hb:dirE t.1 d≠0):task fuel t [d,e]=some (dirE t.1 d,[]):=by
 unfold task task_l0_it;rw[show((t.1,t.2):Tree)=t from rfl,bJZ h,ZAA,ZAJ,ZAC];obtain⟨m,hm⟩:=n1Z
 conv=>lhs;arg 1;arg 1;rw[hm]
 rw[cgZ (o:=.inr (dirE t.1 d,[])) (by exact bOZ (k:=0) h.r.fit rfl hb)]
 rfl
theorem jRZ{t:Tree}(h:TreeOK t){d e:Int×Int}{n:Ino}(hn:IsD t.1 d n)(hb:dirE t.1 e≠0):task fuel t [d,e]=some (dirE t.1 e,[]):=by
 unfold task task_l0_it;rw[show((t.1,t.2):Tree)=t from rfl,bJZ h,ZAA,ZAJ,ZAC];obtain⟨m,hm⟩:=n1Z
 conv=>lhs;arg 1;arg 1;rw[hm]
 rw[dRZ (s':=(((1:Nat):Int),t.1,t.2,[n])) (by exact bgZ (k:=0) (out:=[]) h.r.fit (by simp) rfl hn (by simp)),
  cgZ (o:=.inr (dirE t.1 e,[])) (by exact bOZ (k:=1) h.r.fit rfl hb)]
 rfl
theorem aXZ{t:Tree}(h:TreeOK t){d e:Int×Int}{n m:Ino}(hn:IsD t.1 d n)(hm:IsD t.1 e m):task fuel t [d,e]=some (0,[n,m]):=by
 unfold task task_l0_it;rw[show((t.1,t.2):Tree)=t from rfl,bJZ h,ZAA,ZAJ,ZAC];obtain⟨k,hk⟩:=n1Z
 conv=>lhs;arg 1;arg 1;rw[hk]
 rw[dRZ (s':=(((1:Nat):Int),t.1,t.2,[n])) (by exact bgZ (k:=0) (out:=[]) h.r.fit (by simp) rfl hn (by simp)),
  dRZ (s':=(((2:Nat):Int),t.1,t.2,[n,m])) (by exact bgZ (k:=1) (out:=[n]) h.r.fit (by simp) rfl hm (by simp)),
  cgZ (o:=.inl [n,m]) (by exact cTZ (k:=2) rfl)]
 rfl
theorem TreeOK.ent{t:Tree}(h:TreeOK t){d:Int×Int}{n:Ino}(hn:IsD t.1 d n){s:List UInt8}{id:Int}(he:(s,id)∈n.2.2.2.2.2.2.2):namedB s=true/\2<=id/\id<=t.1.length/\∃x,t.1[(id-1).toNat]? =some x/\x.2.2.1=true/\x.2.2.2.2.2.2.1=d.1:=by
 obtain⟨h1,h2,x,h3,h4,h5⟩:=h.e _ n hn.1.2.1 s id he;have:=h.r.entid hn.1.2.1 he;exact⟨h1,by omega,this.2,x,h3,h4,by rw[h5];have:=hn.1.1;omega⟩
theorem TreeOK.srt{t:Tree}(h:TreeOK t){d:Int×Int}{n:Ino}(hn:IsH t.1 d n):Srt n.2.2.2.2.2.2.2:=h.r.srt hn.2.1
theorem TreeOK.few{t:Tree}(h:TreeOK t){d:Int×Int}{n:Ino}(hn:IsH t.1 d n):n.2.2.2.2.2.2.2.length<=100:=(ceZ (h.r.ino _ _ hn.2.1)).1
theorem TreeOK.ent_ok{t:Tree}(h:TreeOK t){d:Int×Int}{n:Ino}(hn:IsD t.1 d n)(s:List UInt8):tent fuel n s=some (((pos n.2.2.2.2.2.2.2 s:Nat):Int),hasN n.2.2.2.2.2.2.2 s):=
 heZ s (h.srt hn.1) (by have:=h.few hn.1;omega)
theorem cJZ{l:List Ent}{s:List UInt8}{id:Int}(h:Srt l)(hm:(s,id)∈l):l[pos l s]? =some (s,id):=by
 obtain⟨id',h'⟩:=(nhZ (s:=s) h).1 (a7Z.2 ⟨id,hm⟩);rw[h',dqZ h hm (ZAQ h')]
theorem l7Z{t:Tree}(h:TreeOK t){d:Int×Int}(s:List UInt8)(hb:dirE t.1 d≠0):tLoo fuel t d s=some (0,0,dirE t.1 d):=by
 unfold tLoo;rw[show((t.1,t.2):Tree)=t from rfl,show((d.1,d.2):Int×Int)=d from rfl,cYZ h hb,ZAA];simp only[ZAb.2 hb,ZAe,ZAF]
theorem jrZ{t:Tree}(h:TreeOK t){d:Int×Int}{n:Ino}{s:List UInt8}(hn:IsD t.1 d n)(hs:namedB s=false):tLoo fuel t d s=some (0,0,176):=by
 unfold tLoo;rw[show((t.1,t.2):Tree)=t from rfl,show((d.1,d.2):Int×Int)=d from rfl,aDZ h hn,ZAA];simp only[ZAP,ZAJ,ZAC];rw[axZ,ZAA,hs]
 rfl
theorem kcZ{t:Tree}(h:TreeOK t){d:Int×Int}{n:Ino}{s:List UInt8}(hn:IsD t.1 d n)(hs:namedB s=true)(hh:hasN n.2.2.2.2.2.2.2 s=false):tLoo fuel t d s=some (0,0,171):=by
 unfold tLoo;rw[show((t.1,t.2):Tree)=t from rfl,show((d.1,d.2):Int×Int)=d from rfl,aDZ h hn,ZAA];simp only[ZAP,ZAJ,ZAC];rw[axZ,ZAA,hs];simp only[ZAJ,ZAC];rw[show idx? 0 [n].length=some 0 from rfl,ZAA,show[n][0]? =some n from rfl,ZAA,h.ent_ok hn,ZAA,hh]
 rfl
theorem jJZ{t:Tree}(h:TreeOK t){d:Int×Int}{n x:Ino}{s:List UInt8}{id:Int}(hn:IsD t.1 d n)(he:(s,id)∈n.2.2.2.2.2.2.2)(hx:t.1[(id-1).toNat]? =some x):tLoo fuel t d s=some (id,x.2.1,0):=by
 obtain⟨h1,h2,h3,y,h4,h5,h6⟩:=h.ent hn he;have hlen:=h.r.len;have hp:=cJZ (h.srt hn.1) he;have hpl:=(ZAB.1 hp).1;unfold tLoo;rw[show((t.1,t.2):Tree)=t from rfl,show((d.1,d.2):Int×Int)=d from rfl,aDZ h hn,ZAA];simp only[ZAP,ZAJ,ZAC];rw[axZ,ZAA,h1];simp only[ZAJ,ZAC];rw[show idx? 0 [n].length=some 0 from rfl,ZAA,show[n][0]? =some n from rfl,ZAA,h.ent_ok hn,ZAA,a7Z.2 ⟨id,he⟩];simp only[ZAJ,ZAC,ZAA];rw[show[n][0]? =some n from rfl,ZAA,ajZ hpl,ZAA,hp,ZAA,w64 (by omega),avZ (by omega) (by omega),ZAA,hx,ZAA]
def behind(l:List Ent)(s:List UInt8):List Ent:=l.drop (pos l s+if hasN l s then 1 else 0)
theorem ouZ{t:Tree}(h:TreeOK t){d:Int×Int}(s:List UInt8)(most:Int)(hb:dirE t.1 d≠0):tree_List fuel t d s most=some (false,dirE t.1 d,[]):=by
 unfold tree_List;rw[show((t.1,t.2):Tree)=t from rfl,show((d.1,d.2):Int×Int)=d from rfl,cYZ h hb,ZAA];simp only[ZAb.2 hb,ZAe,ZAF]
theorem o3Z{t:Tree}(h:TreeOK t){d:Int×Int}{n:Ino}(s:List UInt8){most:Int}(hn:IsD t.1 d n)(hm:most<0\/most>4096):tree_List fuel t d s most=some (false,2,[]):=by
 unfold tree_List;rw[show((t.1,t.2):Tree)=t from rfl,show((d.1,d.2):Int×Int)=d from rfl,aDZ h hn,ZAA];simp only[ZAP,ZAJ,ZAC];by_cases hz:most<0
 ·rw[ZAS hz];simp only[ZAF,ZAA]
 ·rw[ZAL hz];simp only[ZAC,ZAA];rw[ZAS (show most>4096 by omega)]
  rfl
theorem nDZ{t:Tree}(h:TreeOK t){d:Int×Int}{n:Ino}(s:List UInt8){most:Nat}(hn:IsD t.1 d n)(hm:most<=4096):
 tree_List fuel t d s (most:Int)=some (decide ((behind n.2.2.2.2.2.2.2 s).length>most),0,(behind n.2.2.2.2.2.2.2 s).take most):=by
 unfold tree_List;rw[show((t.1,t.2):Tree)=t from rfl,show((d.1,d.2):Int×Int)=d from rfl,aDZ h hn,ZAA];simp only[ZAP,ZAJ,ZAC];rw[ZAL (show¬((most:Int)<0) by omega)];simp only[ZAC,ZAA];rw[ZAL (show¬((most:Int)>4096) by omega)];simp only[ZAC];rw[show idx? 0 [n].length=some 0 from rfl,ZAA,show[n][0]? =some n from rfl,ZAA,h.ent_ok hn,ZAA];have hfew:=h.few hn.1;have hpl:=iXZ n.2.2.2.2.2.2.2 s;have hq:pos n.2.2.2.2.2.2.2 s+(if hasN n.2.2.2.2.2.2.2 s=true then 1 else 0)<=n.2.2.2.2.2.2.2.length:=by
  cases hh:hasN n.2.2.2.2.2.2.2 s with
  |false=>simpa using hpl
  |true=>
   obtain⟨id,h'⟩:=(nhZ (s:=s) (h.srt hn.1)).1 hh;have:=(ZAB.1 h').1;simp;omega
 have e1:(bif hasN n.2.2.2.2.2.2.2 s then some ((IntKind.wrap .i64 (((pos n.2.2.2.2.2.2.2 s:Nat):Int)+1)),[n]) else some (((pos n.2.2.2.2.2.2.2 s:Nat):Int),[n]):Option (Int×List Ino))=some (((pos n.2.2.2.2.2.2.2 s+(if hasN n.2.2.2.2.2.2.2 s=true then 1 else 0):Nat):Int),[n]):=by
  cases hh:hasN n.2.2.2.2.2.2.2 s with
  |false=>rfl
  |true=>simp only[ZAF];rw[w64 (by omega)];simp
 simp only;rw[e1,ZAA];simp only;rw[show idx? 0 [n].length=some 0 from rfl,ZAA,show[n][0]? =some n from rfl,ZAA,aJZ hq,ZAA];show(upto? (if(most:Int)<(((behind n.2.2.2.2.2.2.2 s).length:Nat):Int) then(most:Int) else(((behind n.2.2.2.2.2.2.2 s).length:Nat):Int)) (behind n.2.2.2.2.2.2.2 s).length).bind _=_;rw[show(if(most:Int)<(((behind n.2.2.2.2.2.2.2 s).length:Nat):Int) then(most:Int) else(((behind n.2.2.2.2.2.2.2 s).length:Nat):Int))=((min most (behind n.2.2.2.2.2.2.2 s).length:Nat):Int) from by split<;>omega,aJZ (by omega),ZAA,eiZ (by rw[ZAW];show _<=_;omega),ZAA];show some (decide ((((behind n.2.2.2.2.2.2.2 s).length:Nat):Int)>(most:Int)),(0:Int),(behind n.2.2.2.2.2.2.2 s).take (min most (behind n.2.2.2.2.2.2.2 s).length))=_;congr 2
 ·simp
 ·congr 1;rw[List.take_eq_take_iff];omega
end Go.Ab.D
namespace Go.Ab
theorem aOZ{α:Type}(p:α->Bool)(A:List α)(d:α):(A++[d]).filter p=A.filter p++(if p d=true then[d] else[]):=by
 rw[List.filter_append];cases h:p d<;>simp[h]
theorem ojZ{α:Type}(p:α->Bool)(L:List α)(n:Nat)(hn:n<L.length)(hL:L.length<=1000000000000)(h1:p L[n]=true)(h2:∀j (hj:j<n),p L[j]=false)
 (f:Int×(Int×List α)->Option ((Int×(Int×List α))⊕(Int×List α)))
 (hs:∀(i j:Nat) (h:List α) x,i<j->j<h.length->h.length<=1000000000000->h[j]? =some x->f ((i:Int),((j:Int),h))=some (.inl (if p x=true then((i:Int),(((j+1:Nat):Int),h)) else(((i+1:Nat):Int),(((j+1:Nat):Int),h.set i x)))))
 (he:∀(i:Nat) (h:List α),f ((i:Int),(((h.length:Nat):Int),h))=some (.inr ((i:Int),h))):
 ∃h',iter fuel f ((n:Int),(((n+1:Nat):Int),L))=some ((((L.filter fun x=> !p x).length:Nat):Int),h')/\h'.length=L.length/\h'.take (L.filter fun x=> !p x).length=L.filter fun x=> !p x:=by
 have first:(L.take (n+1)).filter (fun x=> !p x)=L.take n:=by
  rw[ZA8 hn,aOZ];simp only[h1,ZAJ,ZBD,ZB7,ZA2];rw[ZBs];intro d hd;obtain⟨j,hj,rfl⟩:=List.getElem_of_mem hd;have hj':j<n:=by simp at hj;omega
  have:=h2 j hj';simpa using this
 have:=aKZ (f:=f) (fun m s=>∃(i j:Nat) (h:List α),s=((i:Int),((j:Int),h))/\j+m=L.length/\i<j/\h.length=L.length/\i=((L.take j).filter fun x=> !p x).length/\h.take i=(L.take j).filter (fun x=> !p x)/\∀k,j<=k->h[k]? =L[k]?)
  (fun o=>∃h',o=((((L.filter fun x=> !p x).length:Nat):Int),h')/\h'.length=L.length/\h'.take (L.filter fun x=> !p x).length=L.filter fun x=> !p x) (fun m s hI=> ?_) (fun s hI=> ?_) (L.length-(n+1)) ((n:Int),(((n+1:Nat):Int),L)) (by omega)
  ⟨n,n+1,L,rfl,by omega,by omega,rfl,by rw[first,ZAW];omega,by rw[first],fun k _=>rfl⟩
 ·obtain⟨o,ho,h',rfl,e1,e2⟩:=this;exact⟨h',ho,e1,e2⟩
 ·obtain⟨i,j,h,rfl,g1,g2,g3,g4,g5,g6⟩:=hI;have hj:j<L.length:=by omega
  have hx:h[j]? =some L[j]:=by rw[g6 j (ZAK _),ZAE hj]
  left;have ht:L.take (j+1)=L.take j++[L[j]]:=ZA8 hj;rw[hs i j h _ g2 (by omega) (by omega) hx];cases hp:p L[j] with
  |true=>
   rw[ZAO rfl];refine⟨_,rfl,i,j+1,h,rfl,by omega,by omega,g3,?_,?_,fun k hk=>g6 k (by omega)⟩
   ·rw[ht,aOZ];simp[hp,g4]
   ·rw[ht,aOZ,g5];simp[hp]
  |false=>
   rw[ZAM (by simp)];have hi:i<h.length:=by omega
   refine⟨_,rfl,i+1,j+1,h.set i L[j],rfl,by omega,by omega,by simpa using g3,?_,?_,fun k hk=>by rw[ZAT (by omega)];exact g6 k (by omega)⟩
   ·rw[ht,aOZ];simp[hp,g4]
   ·rw[ht,aOZ,ZA8 (by simpa using hi),List.getElem_set_self,List.take_set_of_le (ZAK _),g5];simp[hp]
 ·obtain⟨i,j,h,rfl,g1,g2,g3,g4,g5,g6⟩:=hI;have hj:j=h.length:=by omega
  subst hj;have htk:L.take h.length=L:=by rw[g3];exact ZA7
  rw[htk] at g4 g5;subst g4;exact⟨_,he _ h,h,rfl,g3,g5⟩
theorem kNZ{α:Type}(p:α->Bool)(L:List α)(hL:L.length<=1000000000000)(f:Int->Option (Int⊕(Unit⊕Int)))
 (hs:∀(i:Nat) x,L[i]? =some x->f (i:Int)=some (if p x=true then .inr (.inr (i:Int)) else .inl ((i+1:Nat):Int)))
 (he:f ((L.length:Nat):Int)=some (.inr (.inl ()))):
 iter fuel f 0=some (match L.findIdx? p with|some n=>.inr (n:Int)|none=>.inl ()):=by
 have:=aKZ (f:=f) (fun m s=>∃(i:Nat),s=(i:Int)/\i+m=L.length/\∀k,k<i->∀x,L[k]? =some x->p x=false)
  (fun o=>o=(match L.findIdx? p with|some n=>.inr (n:Int)|none=>.inl ())) (fun m s hI=> ?_) (fun s hI=> ?_) L.length 0 (by omega) ⟨0,rfl,by omega,fun k h=>absurd h (ZBt _)⟩
 ·obtain⟨o,ho,rfl⟩:=this;exact ho
 ·obtain⟨i,rfl,g1,g2⟩:=hI;have hi:i<L.length:=by omega
  have hx:L[i]? =some L[i]:=ZAE hi;rw[hs i _ hx];cases hp:p L[i] with
  |true=>
   right;refine⟨_,by rw[ZAO rfl],?_⟩;have:L.findIdx? p=some i:=ZA0.2 ⟨hi,hp,fun j hj=>by simpa using g2 j hj _ (ZAE (by omega))⟩;rw[this]
  |false=>
   left;refine⟨_,by rw[ZAM (by simp)],i+1,rfl,by omega,fun k hk x hx'=> ?_⟩;by_cases hki:k=i
   ·subst hki;rw[hx] at hx';cases hx';exact hp
   ·exact g2 k (by omega) x hx'
 ·obtain⟨i,rfl,g1,g2⟩:=hI;have:i=L.length:=by omega
  subst this;refine⟨_,he,?_⟩;have:L.findIdx? p=none:=List.findIdx?_eq_none_iff.2 fun x hx=>by
   obtain⟨k,hk⟩:=ZAY hx;exact g2 k (ZAB.1 hk).1 x hk
  rw[this]
end Go.Ab
namespace Go.Ab
theorem nLZ{α γ:Type}(c:γ)(p:α->Bool)(L:List α)(n:Nat)(hn:n<L.length)(hL:L.length<=1000000000000)(h1:p L[n]=true)(h2:∀j (hj:j<n),p L[j]=false)
 (f:Int×(Int×(List α×γ))->Option ((Int×(Int×(List α×γ)))⊕(Int×(List α×γ))))
 (hs:∀(i j:Nat) (h:List α) x,i<j->j<h.length->h.length<=1000000000000->h[j]? =some x->f ((i:Int),((j:Int),(h,c)))=some (.inl (if p x=true then((i:Int),(((j+1:Nat):Int),(h,c))) else(((i+1:Nat):Int),(((j+1:Nat):Int),(h.set i x,c))))))
 (he:∀(i:Nat) (h:List α),f ((i:Int),(((h.length:Nat):Int),(h,c)))=some (.inr ((i:Int),(h,c)))):
 ∃h',iter fuel f ((n:Int),(((n+1:Nat):Int),(L,c)))=some ((((L.filter fun x=> !p x).length:Nat):Int),(h',c))/\h'.length=L.length/\h'.take (L.filter fun x=> !p x).length=L.filter fun x=> !p x:=by
 have first:(L.take (n+1)).filter (fun x=> !p x)=L.take n:=by
  rw[ZA8 hn,aOZ];simp only[h1,ZAJ,ZBD,ZB7,ZA2];rw[ZBs];intro d hd;obtain⟨j,hj,rfl⟩:=List.getElem_of_mem hd;have hj':j<n:=by simp at hj;omega
  have:=h2 j hj';simpa using this
 have:=aKZ (f:=f) (fun m s=>∃(i j:Nat) (h:List α),s=((i:Int),((j:Int),(h,c)))/\j+m=L.length/\i<j/\h.length=L.length/\i=((L.take j).filter fun x=> !p x).length/\h.take i=(L.take j).filter (fun x=> !p x)/\∀k,j<=k->h[k]? =L[k]?)
  (fun o=>∃h',o=((((L.filter fun x=> !p x).length:Nat):Int),(h',c))/\h'.length=L.length/\h'.take (L.filter fun x=> !p x).length=L.filter fun x=> !p x) (fun m s hI=> ?_) (fun s hI=> ?_) (L.length-(n+1)) ((n:Int),(((n+1:Nat):Int),(L,c))) (by omega)
  ⟨n,n+1,L,rfl,by omega,by omega,rfl,by rw[first,ZAW];omega,by rw[first],fun k _=>rfl⟩
 ·obtain⟨o,ho,h',rfl,e1,e2⟩:=this;exact⟨h',ho,e1,e2⟩
 ·obtain⟨i,j,h,rfl,g1,g2,g3,g4,g5,g6⟩:=hI;have hj:j<L.length:=by omega
  have hx:h[j]? =some L[j]:=by rw[g6 j (ZAK _),ZAE hj]
  left;have ht:L.take (j+1)=L.take j++[L[j]]:=ZA8 hj;rw[hs i j h _ g2 (by omega) (by omega) hx];cases hp:p L[j] with
  |true=>
   rw[ZAO rfl];refine⟨_,rfl,i,j+1,h,rfl,by omega,by omega,g3,?_,?_,fun k hk=>g6 k (by omega)⟩
   ·rw[ht,aOZ];simp[hp,g4]
   ·rw[ht,aOZ,g5];simp[hp]
  |false=>
   rw[ZAM (by simp)];have hi:i<h.length:=by omega
   refine⟨_,rfl,i+1,j+1,h.set i L[j],rfl,by omega,by omega,by simpa using g3,?_,?_,fun k hk=>by rw[ZAT (by omega)];exact g6 k (by omega)⟩
   ·rw[ht,aOZ];simp[hp,g4]
   ·rw[ht,aOZ,ZA8 (by simpa using hi),List.getElem_set_self,List.take_set_of_le (ZAK _),g5];simp[hp]
 ·obtain⟨i,j,h,rfl,g1,g2,g3,g4,g5,g6⟩:=hI;have hj:j=h.length:=by omega
  subst hj;have htk:L.take h.length=L:=by rw[g3];exact ZA7
  rw[htk] at g4 g5;subst g4;exact⟨_,he _ h,h,rfl,g3,g5⟩
theorem nEZ{α γ:Type}(c:γ)(p:α->Bool)(L:List α)(hL:L.length<=1000000000000)(f:Int×γ->Option ((Int×γ)⊕(γ⊕(Int×γ))))
 (hs:∀(i:Nat) x,L[i]? =some x->f ((i:Int),c)=some (if p x=true then .inr (.inr ((i:Int),c)) else .inl (((i+1:Nat):Int),c)))
 (he:f (((L.length:Nat):Int),c)=some (.inr (.inl c))):
 iter fuel f (0,c)=some (match L.findIdx? p with|some n=>.inr ((n:Int),c)|none=>.inl c):=by
 have:=aKZ (f:=f) (fun m s=>∃(i:Nat),s=((i:Int),c)/\i+m=L.length/\∀k,k<i->∀x,L[k]? =some x->p x=false)
  (fun o=>o=(match L.findIdx? p with|some n=>.inr ((n:Int),c)|none=>.inl c)) (fun m s hI=> ?_) (fun s hI=> ?_) L.length (0,c) (by omega) ⟨0,rfl,by omega,fun k h=>absurd h (ZBt _)⟩
 ·obtain⟨o,ho,rfl⟩:=this;exact ho
 ·obtain⟨i,rfl,g1,g2⟩:=hI;have hi:i<L.length:=by omega
  have hx:L[i]? =some L[i]:=ZAE hi;rw[hs i _ hx];cases hp:p L[i] with
  |true=>
   right;refine⟨_,by rw[ZAO rfl],?_⟩;have:L.findIdx? p=some i:=ZA0.2 ⟨hi,hp,fun j hj=>by simpa using g2 j hj _ (ZAE (by omega))⟩;rw[this]
  |false=>
   left;refine⟨_,by rw[ZAM (by simp)],i+1,rfl,by omega,fun k hk x hx'=> ?_⟩;by_cases hki:k=i
   ·subst hki;rw[hx] at hx';cases hx';exact hp
   ·exact g2 k (by omega) x hx'
 ·obtain⟨i,rfl,g1,g2⟩:=hI;have:i=L.length:=by omega
  subst this;refine⟨_,he,?_⟩;have:L.findIdx? p=none:=List.findIdx?_eq_none_iff.2 fun x hx=>by
   obtain⟨k,hk⟩:=ZAY hx;exact g2 k (ZAB.1 hk).1 x hk
  rw[this]
end Go.Ab
namespace Go.Ab
abbrev RefT(μ:Type):Type:=List μ⊕Option (Nat×(Nat×Nat))
section
variable {ρ κ μ : Type}
def part(ms:List (Nat×List μ))(x:RefT μ)(l:List μ):Prop:=(x= .inr none/\l=[])\/∃j,x= .inr (some (j,(0,l.length)))/\ms[j]? =some (1,l)
def viewM(ms:List (Nat×List μ))(x:RefT μ):Option (List μ):=
 match x with
 |.inl l=>some l
 |.inr none=>some []
 |.inr (some (k,off,n))=>memb ms k off n
theorem p9Z{ms:List (Nat×List μ)}{k:Nat}{l:List μ}{s:Nat}(h:ms[k]? =some (s,l))(hs:2<=s):memb ms k 0 l.length=some l:=by
 unfold memb;rw[h];have e:(Nat.ble 2 s&&Nat.ble (0+l.length) l.length)=true:=by simpa using hs
 simp only[e,bq_true,ZBY,ZA7]
theorem part.view{ms:List (Nat×List μ)}{x:RefT μ}{l:List μ}(h:part ms x l):viewM (ms.map frz1) x=some l:=by
 rcases h with⟨rfl,rfl⟩|⟨j,rfl,h⟩
 ·rfl
 ·exact p9Z (s:=2) (by rw[ZAa,h];rfl) (ZAK _)
variable (ref : ρ → RefT μ) (lst : κ → List μ) (same : ρ → κ → Prop)
structure Fam (rows:List ρ) (ms:List (Nat×List μ)) (ks:List κ):Prop where
 len:rows.length=ks.length
 at_:∀(i:Nat) row k,rows[i]? =some row->ks[i]? =some k->same row k/\part ms (ref row) (lst k)
 inj:∀(i i':Nat) row row' j n n',i≠i'->rows[i]? =some row->rows[i']? =some row'->ref row= .inr (some (j,n))->ref row'= .inr (some (j,n'))->False
variable {ref lst same} {rows : List ρ} {ms : List (Nat × List μ)} {ks : List κ}
theorem part.lt{x:RefT μ}{l:List μ}(h:part ms x l){j:Nat}{n:Nat×Nat}(hx:x= .inr (some (j,n))):j<ms.length:=by
 rcases h with⟨h,_⟩|⟨j',h,h2⟩
 ·rw[h] at hx;cases hx
 ·rw[h] at hx;injection hx with hx;injection hx with hx;injection hx with hx _;subst hx;exact(ZAB.1 h2).1
theorem Fam.row(h:Fam ref lst same rows ms ks){i:Nat}{k:κ}(hk:ks[i]? =some k):∃row,rows[i]? =some row/\same row k/\part ms (ref row) (lst k):=by
 have hi:i<rows.length:=by rw[h.len];exact(ZAB.1 hk).1
 exact⟨_,ZAE hi,h.at_ i _ k (ZAE hi) hk⟩
theorem Fam.open_(h:Fam ref lst same rows ms ks){i:Nat}{row:ρ}{k:κ}(hr:rows[i]? =some row)(hk:ks[i]? =some k):
 ∃ms',openM ms (ref row)=some (lst k,ms')/\ms'.length=ms.length/\∀row' k',same row' k'->ref row'= .inr (some (ms'.length,(0,(lst k').length)))->Fam ref lst same (rows.set i row') (ms'++[(1,lst k')]) (ks.set i k'):=by
 have hi:=(ZAB.1 hr).1;obtain⟨hs,hp⟩:=h.at_ i row k hr hk;have main:∀ms':List (Nat×List μ),ms'.length=ms.length->(∀i' row',i'≠i->rows[i']? =some row'->∀j n,ref row'= .inr (some (j,n))->ms'[j]? =ms[j]?)->∀row' k',same row' k'->ref row'= .inr (some (ms'.length,(0,(lst k').length)))->Fam ref lst same (rows.set i row') (ms'++[(1,lst k')]) (ks.set i k'):=by
  intro ms' hl hsame row' k' hs' hr';refine⟨by rw[ZAw,ZAw];exact h.len,fun i' x y hx hy=> ?_,fun a b x y j n n' hab hx hy hjx hjy=> ?_⟩
  ·by_cases he:i'=i
   ·subst he;rw[ZAX (by omega)] at hx;rw[ZAX (by rw[<-h.len];omega)] at hy;cases hx;cases hy;exact⟨hs',.inr ⟨_,hr',by rw[ZAV (ZAK _),Nat.sub_self];rfl⟩⟩
   ·rw[ZAT (by omega)] at hx hy;obtain⟨g1,g2⟩:=h.at_ i' x y hx hy;refine⟨g1,?_⟩;rcases g2 with g2|⟨j,g2,g3⟩
    ·exact .inl g2
    ·refine .inr ⟨j,g2,?_⟩;have hj:=(ZAB.1 g3).1;rw[ZAN (by omega),hsame i' x he hx j _ g2];exact g3
  ·have hlt:∀(q:Nat) z,rows[q]? =some z->∀n,ref z= .inr (some (j,n))->j<ms.length:=fun q z hq n hz=>by
    have hq':=(ZAB.1 hq).1;exact(h.at_ q z _ hq (ZAE (by rw[<-h.len];exact hq'))).2.lt hz
   by_cases ha:a=i
   ·subst ha;rw[ZAX (by omega)] at hx;cases hx;rw[ZAT hab] at hy;rw[hr'] at hjx;injection hjx with e;injection e with e;injection e with e _;have:=hlt _ _ hy _ hjy;omega
   ·rw[ZAT (by omega)] at hx;by_cases hb:b=i
    ·subst hb;rw[ZAX (by omega)] at hy;cases hy;rw[hr'] at hjy;injection hjy with e;injection e with e;injection e with e _;have:=hlt _ _ hx _ hjx;omega
    ·rw[ZAT (by omega)] at hy;exact h.inj a b x y j n n' hab hx hy hjx hjy
 rcases hp with⟨h1,h2⟩|⟨j,h1,h2⟩
 ·refine⟨ms,by rw[h1,h2];rfl,rfl,main ms rfl fun _ _ _ _ _ _ _=>rfl⟩
 ·refine⟨ms.set j (0,lst k),?_,ZAw ..,main _ (ZAw ..) fun i' row' hi' hr' j' n hj'=> ?_⟩
  ·rw[h1];show ms[j]?.bind _=_;rw[h2];have e:(Nat.beq 1 1&&Nat.beq 0 0&&Nat.ble (lst k).length (lst k).length)=true:=by simp
   simp only[ZAA,e];show some (List.take (lst k).length (lst k),_)=_;rw[ZA7]
  ·refine ZAT fun hc=> ?_;subst hc;exact h.inj i i' row row' _ _ _ (ZBj hi') hr hr' h1 hj'
theorem Fam.keep(h:Fam ref lst same rows ms ks){i:Nat}{row row':ρ}{k k':κ}(hr:rows[i]? =some row)(hk:ks[i]? =some k)(hs:same row' k')(he:ref row'=ref row)(hl:lst k'=lst k):Fam ref lst same (rows.set i row') ms (ks.set i k'):=by
 have hi:=(ZAB.1 hr).1;have hg:∀a x,(rows.set i row')[a]? =some x->∃x0,rows[a]? =some x0/\ref x=ref x0:=fun a x hx=>by
  by_cases c:a=i
  ·subst c;rw[ZAX hi] at hx;cases hx;exact⟨row,hr,he⟩
  ·rw[ZAT (by omega)] at hx;exact⟨x,hx,rfl⟩
 refine⟨by rw[ZAw,ZAw];exact h.len,fun a x y hx hy=> ?_,fun a b x y j n n' hab hx hy hjx hjy=> ?_⟩
 ·by_cases c:a=i
  ·subst c;rw[ZAX hi] at hx;rw[ZAX (by rw[<-h.len];exact hi)] at hy;cases hx;cases hy;exact⟨hs,by rw[he,hl];exact(h.at_ a row k hr hk).2⟩
  ·rw[ZAT (by omega)] at hx hy;exact h.at_ a x y hx hy
 ·obtain⟨x0,g1,g2⟩:=hg a x hx;obtain⟨y0,g3,g4⟩:=hg b y hy;exact h.inj a b x0 y0 j n n' hab g1 g3 (g2▸hjx) (g4▸hjy)
theorem fmZ{α γ:Type}(g:α->Option γ):∀(l:List α) (l':List γ),l.length=l'.length->(∀(i:Nat) x y,l[i]? =some x->l'[i]? =some y->g x=some y)->unrefL g l=some l'
 |[],[],_,_=>rfl
 |[],_::_,h,_=>by simp at h
 |_::_,[],h,_=>by simp at h
 |x::l,y::l',h,hp=>by
  have ih:=fmZ g l l' (by simpa using h) fun i a b ha hb=>hp (i+1) a b (by simpa using ha) (by simpa using hb);show(g x).bind _=_;rw[hp 0 x y (by simp) (by simp)];simp[ih]
theorem Fam.pure(h:Fam ref lst same rows ms ks)(g:ρ->Option κ)(hg:∀row k,same row k->viewM (ms.map frz1) (ref row)=some (lst k)->g row=some k):unrefL g rows=some ks:=
 fmZ g rows ks h.len fun i x y hx hy=>hg x y (h.at_ i x y hx hy).1 (h.at_ i x y hx hy).2.view
end
end Go.Ab
namespace Go.Ab.D
open Go Go.Ab
def taken(n:Ino)(dir:Bool)(parent:Int):Ino:=(n.1,n.2.1+1,true,dir,n.2.2.2.2.1,n.2.2.2.2.2.1,parent,n.2.2.2.2.2.2.2)
def freeAt(l:List Ino):Option Nat:=l.findIdx? fun n=> !n.2.2.1
theorem pPZ{l:List Ino}(hl:l.length<=100000):sIndFun2 fuel l=some (match freeAt l with|some n=>(n:Int)|none=> -1):=by
 unfold sIndFun2 sIndFun2_l0_it;have e:iter fuel (fun tt=>sIndFun2_l0 fuel l tt) 0=_:=kNZ (fun n:Ino=> !n.2.2.1) l (by omega) (fun tt=>sIndFun2_l0 fuel l tt) (fun i x hx=>by
  unfold sIndFun2_l0 iAll1;have hlt:=(ZAB.1 hx).1;simp only[a8Z hlt,ZAF];rw[ajZ hlt,ZAA,hx,ZAA,ZAA,w64 (by omega)];cases x.2.2.1<;>rfl) (by
  unfold sIndFun2_l0;simp only[arZ (ZAq _),ZAC])
 rw[e,ZAA];unfold freeAt;cases l.findIdx? (fun n:Ino=> !n.2.2.1)<;>rfl
theorem jeZ{α:Type}{l:List α}{i:Nat}(h:i<l.length)(x:α):(l.set i x)[i]? =some x:=by simp[h]
end Go.Ab.D
namespace Go.Ab.D
open Go Go.Ab
def isGone(p:Part):Bool:=(p.1==0)&&(p.2==0)
theorem nrZ{l:List Part}(hl:l.length<=100000):sDelFun2 fuel l=some (.inl (l.filter fun p=> !isGone p))\/sDelFun2 fuel l=some (.inr (l.filter fun p=> !isGone p)):=by
 have hidx:sIndFun4 fuel l=some (match l.findIdx? isGone with|some n=>(n:Int)|none=> -1):=by
  unfold sIndFun4 sIndFun4_l0_it;have e:iter fuel (fun tt=>sIndFun4_l0 fuel l tt) 0=_:=kNZ isGone l (by omega) (fun tt=>sIndFun4_l0 fuel l tt) (fun i x hx=>by
   unfold sIndFun4_l0 iDro1;have hlt:=(ZAB.1 hx).1;simp only[a8Z hlt,ZAF];rw[ajZ hlt,ZAA,hx,ZAA,ZAA,w64 (by omega)];show(bif isGone x then _ else _)=_;cases isGone x<;>rfl) (by
   unfold sIndFun4_l0;simp only[arZ (ZAq _),ZAC])
  rw[e,ZAA];cases l.findIdx? isGone<;>rfl
 unfold sDelFun2;rw[hidx,ZAA];cases hf:l.findIdx? isGone with
 |none=>
  left;have:l.filter (fun p=> !isGone p)=l:=ZBs.2 fun x hx=>by
   have:=List.findIdx?_eq_none_iff.1 hf x hx;simpa using this
  rw[this]
  rfl
 |some n=>
  right;obtain⟨hn,h1,h2⟩:=ZA0.1 hf;simp only[];rw[show((n:Int)== -1)=false from by simp,ZAC,w64 (by omega)];obtain⟨h',e1,e2,e3⟩:=ojZ isGone l n hn (by omega) h1 (fun j hj=>by simpa using h2 j hj)
   (fun(tt:Int×Int×List Part)=>sDelFun2_l0 fuel tt.1 tt.2.1 tt.2.2) (fun i j (h:List Part) x hij hj hh hx=>by
    show sDelFun2_l0 fuel (i:Int) (j:Int) h=_;unfold sDelFun2_l0 iDro1;have hi:i<h.length:=by omega
    obtain⟨y,hy⟩:∃y,h[i]? =some y:=⟨_,ZAE hi⟩;simp only[a8Z hj,ZAF];rw[ajZ hj,ZAA,hx,ZAA,ZAA,ajZ hi];simp only[ZAA,hy];rw[w64 (by omega),w64 (by omega)];show(Option.bind (bif !isGone x then _ else _) _)=_;cases isGone x<;>rfl) (fun i (h:List Part)=>by
    show sDelFun2_l0 fuel (i:Int) ((h.length:Nat):Int) h=_;unfold sDelFun2_l0;simp only[arZ (ZAq _),ZAC])
  rw[show sDelFun2_l0_it fuel ((n:Int),((n:Int)+1,l))=_ from e1,ZAA];have hle:(l.filter fun p=> !isGone p).length<=h'.length:=by rw[e2];exact ZBf _ _
  rw[aJZ hle,ZAA,abZ (ciZ (by dsimp only;omega))];have hsl:(splice h' (l.filter fun p=> !isGone p).length (List.replicate (h'.length-(l.filter fun p=> !isGone p).length) ((0:Int),(0:Int)))).length=h'.length:=by
   unfold splice;simp;omega
  dsimp only;rw[hsl,aJZ hle,ZAA,abZ (ciZ hle)];have:(splice h' (l.filter fun p=> !isGone p).length (List.replicate (h'.length-(l.filter fun p=> !isGone p).length) ((0:Int),(0:Int)))).take (l.filter fun p=> !isGone p).length=l.filter fun p=> !isGone p:=by
   unfold splice;rw[ZAv,ZA1 (by rw[e3];exact ZAK _),List.take_take,Nat.min_self,e3]
  rw[this]
def emptied(n:Ino)(id:Int):Ino:=(id,n.2.1,false,false,0,[],0,[])
end Go.Ab.D
namespace Go.Ab
section
variable {ρ κ μ : Type} {ref : ρ → RefT μ} {lst : κ → List μ} {same : ρ → κ → Prop} {rows : List ρ} {ms : List (Nat × List μ)} {ks : List κ}
theorem Fam.clear(h:Fam ref lst same rows ms ks){i:Nat}{row':ρ}{k':κ}(hs:same row' k')(he:ref row'= .inr none)(hl:lst k'=[]):Fam ref lst same (rows.set i row') ms (ks.set i k'):=by
 refine⟨by rw[ZAw,ZAw];exact h.len,fun a x y hx hy=> ?_,fun a b x y j n n' hab hx hy hjx hjy=> ?_⟩
 ·by_cases c:a=i
  ·subst c;have hi:a<rows.length:=by have:=(ZAB.1 hx).1;rwa [ZAw] at this
   rw[ZAX hi] at hx;rw[ZAX (by rw[<-h.len];exact hi)] at hy;cases hx;cases hy;exact⟨hs,.inl ⟨he,hl⟩⟩
  ·rw[ZAT (by omega)] at hx hy;exact h.at_ a x y hx hy
 ·have hne:∀a x n,(rows.set i row')[a]? =some x->ref x= .inr (some (j,n))->rows[a]? =some x:=fun a x n hx hj=>by
   by_cases c:a=i
   ·subst c;have hi:a<rows.length:=by have:=(ZAB.1 hx).1;rwa [ZAw] at this
    rw[ZAX hi] at hx;cases hx;rw[he] at hj;cases hj
   ·rwa [ZAT (by omega)] at hx
  exact h.inj a b x y j n n' hab (hne a x n hx hjx) (hne b y n' hy hjy) hjx hjy
theorem Fam.open_none(h:Fam ref lst same rows ms ks){i:Nat}{row:ρ}{k:κ}(hr:rows[i]? =some row)(hk:ks[i]? =some k):
 ∃ms',openM ms (ref row)=some (lst k,ms')/\∀row' k',same row' k'->ref row'= .inr none->lst k'=[]->Fam ref lst same (rows.set i row') ms' (ks.set i k'):=by
 obtain⟨hs,hp⟩:=h.at_ i row k hr hk;rcases hp with⟨h1,h2⟩|⟨j,h1,h2⟩
 ·exact⟨ms,by rw[h1,h2];rfl,fun row' k' hs' hr' hl'=>h.clear hs' hr' hl'⟩
 ·refine⟨ms.set j (0,lst k),?_,fun row' k' hs' hr' hl'=> ?_⟩
  ·rw[h1];show ms[j]?.bind _=_;rw[h2];have e:(Nat.beq 1 1&&Nat.beq 0 0&&Nat.ble (lst k).length (lst k).length)=true:=by simp
   simp only[ZAA,e];show some (List.take (lst k).length (lst k),_)=_;rw[ZA7]
  ·have hc:=h.clear (i:=i) hs' hr' hl';refine⟨hc.len,fun a x y hx hy=> ?_,hc.inj⟩;obtain⟨g1,g2⟩:=hc.at_ a x y hx hy;refine⟨g1,?_⟩;rcases g2 with g2|⟨j',g2,g3⟩
   ·exact .inl g2
   ·refine .inr ⟨j',g2,?_⟩;rw[ZAT]
    ·exact g3
    ·intro hjj;subst hjj;by_cases c:a=i
     ·subst c;rw[ZAX (ZAB.1 hr).1] at hx;cases hx;rw[hr'] at g2;cases g2
     ·rw[ZAT (by omega)] at hx;exact h.inj i a row x j _ _ (by omega) hr hx h1 g2
theorem h3Z{μ:Type}(ms:List (Nat×List μ)):(ms.map frz1).map frz1=ms.map frz1:=by
 rw[List.map_map];refine List.map_congr_left fun m _=> ?_;obtain⟨a,l⟩:=m;cases a<;>rfl
end
end Go.Ab
namespace Go.Ab.D
open Go Go.Ab
abbrev PTy:Ty:=.pair (.int .i64) (.int .i64)
abbrev ETy:Ty:=.pair .str (.int .i64)
abbrev TE:Ty:=.pair (.int .i64) (.pair (.int .i64) (.pair .bool (.pair .bool (.pair (.int .i64) (.pair (.sl PTy) (.pair (.int .i64) (.ref 1 ETy)))))))
abbrev TP:Ty:=.pair (.int .i64) (.pair (.int .i64) (.pair .bool (.pair .bool (.pair (.int .i64) (.pair (.ref 0 PTy) (.pair (.int .i64) (.sl ETy)))))))
abbrev T2:Ty:=.pair (.int .i64) (.pair (.int .i64) (.pair .bool (.pair .bool (.pair (.int .i64) (.pair (.ref 0 PTy) (.pair (.int .i64) (.ref 2 ETy)))))))
abbrev InoE:=Int×Int×Bool×Bool×Int×List Part×Int×RefT Ent
abbrev InoP:=Int×Int×Bool×Bool×Int×RefT Part×Int×List Ent
abbrev Ino2:=Int×Int×Bool×Bool×Int×RefT Part×Int×RefT Ent
abbrev MsE:=List (Nat×List Ent)
abbrev MsP:=List (Nat×List Part)
def toE(n:Ino)(x:RefT Ent):InoE:=(n.1,n.2.1,n.2.2.1,n.2.2.2.1,n.2.2.2.2.1,n.2.2.2.2.2.1,n.2.2.2.2.2.2.1,x)
def toP(n:Ino)(x:RefT Part):InoP:=(n.1,n.2.1,n.2.2.1,n.2.2.2.1,n.2.2.2.2.1,x,n.2.2.2.2.2.2.1,n.2.2.2.2.2.2.2)
def to2(n:Ino)(x:RefT Part)(y:RefT Ent):Ino2:=(n.1,n.2.1,n.2.2.1,n.2.2.2.1,n.2.2.2.2.1,x,n.2.2.2.2.2.2.1,y)
abbrev FamE(rows:List InoE)(ms:MsE)(ks:List Ino):Prop:=Fam (fun r:InoE=>r.2.2.2.2.2.2.2) (fun k:Ino=>k.2.2.2.2.2.2.2) (fun r k=>∃x,r=toE k x) rows ms ks
abbrev FamP(rows:List InoP)(ms:MsP)(ks:List Ino):Prop:=Fam (fun r:InoP=>r.2.2.2.2.2.1) (fun k:Ino=>k.2.2.2.2.2.1) (fun r k=>∃x,r=toP k x) rows ms ks
abbrev Fam2p(rows:List Ino2)(ms:MsP)(ks:List Ino):Prop:=Fam (fun r:Ino2=>r.2.2.2.2.2.1) (fun k:Ino=>k.2.2.2.2.2.1) (fun r k=>∃x y,r=to2 k x y) rows ms ks
abbrev Fam2e(rows:List Ino2)(ms:MsE)(ks:List Ino):Prop:=Fam (fun r:Ino2=>r.2.2.2.2.2.2.2) (fun k:Ino=>k.2.2.2.2.2.2.2) (fun r k=>∃x y,r=to2 k x y) rows ms ks
theorem FamE.pure1{rows:List InoE}{ms:MsE}{ks:List Ino}(h:FamE rows ms ks):unrefL (unrefD [⟨1,ETy,ms.map frz1⟩] TE) rows=some ks:=
 h.pure (unrefD [⟨1,ETy,ms.map frz1⟩] TE) fun row k hs hv=>by
  obtain⟨x,rfl⟩:=hs;have hv:viewM (ms.map frz1) x=some k.2.2.2.2.2.2.2:=hv;have e:unrefD [⟨1,ETy,ms.map frz1⟩] (.ref 1 ETy) x=some k.2.2.2.2.2.2.2:=by rw[<-hv];rcases x with l|(_|⟨k,o,n⟩)<;>rfl
  show((some k.1).bind fun y=>(((some k.2.1).bind fun y=>(((some k.2.2.1).bind fun y=>(((some k.2.2.2.1).bind fun y=>(((some k.2.2.2.2.1).bind fun y=>(((some k.2.2.2.2.2.1).bind fun y=>(((some k.2.2.2.2.2.2.1).bind fun y=>(unrefD [⟨1,ETy,ms.map frz1⟩] (.ref 1 ETy) x).map fun z=>(y,z)).map fun z=>(y,z))).map fun z=>(y,z))).map fun z=>(y,z))).map fun z=>(y,z))).map fun z=>(y,z))).map fun z=>(y,z)))=_;rw[e]
  rfl
theorem FamE.one{rows:List InoE}{ms:MsE}{ks:List Ino}(h:FamE rows ms ks){i:Nat}{row:InoE}{k:Ino}(hr:rows[i]? =some row)(hk:ks[i]? =some k):unrefD [⟨1,ETy,ms.map frz1⟩] TE row=some k:=by
 obtain⟨⟨x,rfl⟩,hp⟩:=h.at_ i row k hr hk;have hv:viewM (ms.map frz1) x=some k.2.2.2.2.2.2.2:=hp.view;have e:unrefD [⟨1,ETy,ms.map frz1⟩] (.ref 1 ETy) x=some k.2.2.2.2.2.2.2:=by rw[<-hv];rcases x with l|(_|⟨k,o,n⟩)<;>rfl
 show((some k.1).bind fun y=>(((some k.2.1).bind fun y=>(((some k.2.2.1).bind fun y=>(((some k.2.2.2.1).bind fun y=>(((some k.2.2.2.2.1).bind fun y=>(((some k.2.2.2.2.2.1).bind fun y=>(((some k.2.2.2.2.2.2.1).bind fun y=>(unrefD [⟨1,ETy,ms.map frz1⟩] (.ref 1 ETy) x).map fun z=>(y,z)).map fun z=>(y,z))).map fun z=>(y,z))).map fun z=>(y,z))).map fun z=>(y,z))).map fun z=>(y,z))).map fun z=>(y,z)))=_;rw[e]
 rfl
theorem FamE.pure10{rows:List InoE}{ms:MsE}{ks:List Ino}(mp:MsP)(h:FamE rows ms ks):unrefL (unrefD [⟨1,ETy,ms.map frz1⟩,⟨0,PTy,mp⟩] TE) rows=some ks:=
 h.pure (unrefD [⟨1,ETy,ms.map frz1⟩,⟨0,PTy,mp⟩] TE) fun row k hs hv=>by
  obtain⟨x,rfl⟩:=hs;have hv:viewM (ms.map frz1) x=some k.2.2.2.2.2.2.2:=hv;have e:unrefD [⟨1,ETy,ms.map frz1⟩,⟨0,PTy,mp⟩] (.ref 1 ETy) x=some k.2.2.2.2.2.2.2:=by rw[<-hv];rcases x with l|(_|⟨k,o,n⟩)<;>rfl
  show((some k.1).bind fun y=>(((some k.2.1).bind fun y=>(((some k.2.2.1).bind fun y=>(((some k.2.2.2.1).bind fun y=>(((some k.2.2.2.2.1).bind fun y=>(((some k.2.2.2.2.2.1).bind fun y=>(((some k.2.2.2.2.2.2.1).bind fun y=>(unrefD [⟨1,ETy,ms.map frz1⟩,⟨0,PTy,mp⟩] (.ref 1 ETy) x).map fun z=>(y,z)).map fun z=>(y,z))).map fun z=>(y,z))).map fun z=>(y,z))).map fun z=>(y,z))).map fun z=>(y,z))).map fun z=>(y,z)))=_;rw[e]
  rfl
theorem FamE.pure210{rows:List InoE}{ms:MsE}{ks:List Ino}(m2:MsE)(mp:MsP)(h:FamE rows ms ks):unrefL (unrefD [⟨2,ETy,m2⟩,⟨1,ETy,ms.map frz1⟩,⟨0,PTy,mp⟩] TE) rows=some ks:=
 h.pure (unrefD [⟨2,ETy,m2⟩,⟨1,ETy,ms.map frz1⟩,⟨0,PTy,mp⟩] TE) fun row k hs hv=>by
  obtain⟨x,rfl⟩:=hs;have hv:viewM (ms.map frz1) x=some k.2.2.2.2.2.2.2:=hv;have e:unrefD [⟨2,ETy,m2⟩,⟨1,ETy,ms.map frz1⟩,⟨0,PTy,mp⟩] (.ref 1 ETy) x=some k.2.2.2.2.2.2.2:=by rw[<-hv];rcases x with l|(_|⟨k,o,n⟩)<;>rfl
  show((some k.1).bind fun y=>(((some k.2.1).bind fun y=>(((some k.2.2.1).bind fun y=>(((some k.2.2.2.1).bind fun y=>(((some k.2.2.2.2.1).bind fun y=>(((some k.2.2.2.2.2.1).bind fun y=>(((some k.2.2.2.2.2.2.1).bind fun y=>(unrefD [⟨2,ETy,m2⟩,⟨1,ETy,ms.map frz1⟩,⟨0,PTy,mp⟩] (.ref 1 ETy) x).map fun z=>(y,z)).map fun z=>(y,z))).map fun z=>(y,z))).map fun z=>(y,z))).map fun z=>(y,z))).map fun z=>(y,z))).map fun z=>(y,z)))=_;rw[e]
  rfl
theorem FamP.pure10{rows:List InoP}{ms:MsP}{ks:List Ino}(me:MsE)(h:FamP rows ms ks):unrefL (unrefD [⟨1,ETy,me⟩,⟨0,PTy,ms.map frz1⟩] TP) rows=some ks:=
 h.pure (unrefD [⟨1,ETy,me⟩,⟨0,PTy,ms.map frz1⟩] TP) fun row k hs hv=>by
  obtain⟨x,rfl⟩:=hs;have hv:viewM (ms.map frz1) x=some k.2.2.2.2.2.1:=hv;have e:unrefD [⟨1,ETy,me⟩,⟨0,PTy,ms.map frz1⟩] (.ref 0 PTy) x=some k.2.2.2.2.2.1:=by rw[<-hv];rcases x with l|(_|⟨k,o,n⟩)<;>rfl
  show((some k.1).bind fun y=>(((some k.2.1).bind fun y=>(((some k.2.2.1).bind fun y=>(((some k.2.2.2.1).bind fun y=>(((some k.2.2.2.2.1).bind fun y=>(((unrefD [⟨1,ETy,me⟩,⟨0,PTy,ms.map frz1⟩] (.ref 0 PTy) x).bind fun y=>(((some k.2.2.2.2.2.2.1).bind fun y=>(some k.2.2.2.2.2.2.2).map fun z=>(y,z)).map fun z=>(y,z))).map fun z=>(y,z))).map fun z=>(y,z))).map fun z=>(y,z))).map fun z=>(y,z))).map fun z=>(y,z)))=_;rw[e]
  rfl
theorem niZ{rows:List Ino2}{mp:MsP}{me:MsE}{ks:List Ino}(m1:MsE)(hp:Fam2p rows mp ks)(he:Fam2e rows me ks):unrefL (unrefD [⟨2,ETy,me.map frz1⟩,⟨1,ETy,m1⟩,⟨0,PTy,mp.map frz1⟩] T2) rows=some ks:=
 fmZ _ rows ks hp.len fun i row k hr hk=>by
  obtain⟨⟨x,w,rfl⟩,h1⟩:=hp.at_ i row k hr hk;obtain⟨_,h2⟩:=he.at_ i _ k hr hk;have v1:viewM (mp.map frz1) x=some k.2.2.2.2.2.1:=h1.view;have v2:viewM (me.map frz1) w=some k.2.2.2.2.2.2.2:=h2.view;have e1:unrefD [⟨2,ETy,me.map frz1⟩,⟨1,ETy,m1⟩,⟨0,PTy,mp.map frz1⟩] (.ref 0 PTy) x=some k.2.2.2.2.2.1:=by rw[<-v1];rcases x with l|(_|⟨k,o,n⟩)<;>rfl
  have e2:unrefD [⟨2,ETy,me.map frz1⟩,⟨1,ETy,m1⟩,⟨0,PTy,mp.map frz1⟩] (.ref 2 ETy) w=some k.2.2.2.2.2.2.2:=by rw[<-v2];rcases w with l|(_|⟨k,o,n⟩)<;>rfl
  show((some k.1).bind fun y=>(((some k.2.1).bind fun y=>(((some k.2.2.1).bind fun y=>(((some k.2.2.2.1).bind fun y=>(((some k.2.2.2.2.1).bind fun y=>(((unrefD [⟨2,ETy,me.map frz1⟩,⟨1,ETy,m1⟩,⟨0,PTy,mp.map frz1⟩] (.ref 0 PTy) x).bind fun y'=>(((some k.2.2.2.2.2.2.1).bind fun y''=>(unrefD [⟨2,ETy,me.map frz1⟩,⟨1,ETy,m1⟩,⟨0,PTy,mp.map frz1⟩] (.ref 2 ETy) w).map fun z=>(y'',z)).map fun z=>(y',z))).map fun z=>(y,z))).map fun z=>(y,z))).map fun z=>(y,z))).map fun z=>(y,z))).map fun z=>(y,z)))=_;rw[e1,e2]
  rfl
theorem oIZ{rows:List Ino2}{mp:MsP}{me:MsE}{ks:List Ino}(hp:Fam2p rows mp ks)(he:Fam2e rows me ks){i:Nat}{row:Ino2}{k:Ino}(hr:rows[i]? =some row)(hk:ks[i]? =some k):unrefD [⟨2,ETy,me.map frz1⟩,⟨0,PTy,mp.map frz1⟩] T2 row=some k:=by
 obtain⟨⟨x,w,rfl⟩,h1⟩:=hp.at_ i row k hr hk;obtain⟨_,h2⟩:=he.at_ i _ k hr hk;have v1:viewM (mp.map frz1) x=some k.2.2.2.2.2.1:=h1.view;have v2:viewM (me.map frz1) w=some k.2.2.2.2.2.2.2:=h2.view;have e1:unrefD [⟨2,ETy,me.map frz1⟩,⟨0,PTy,mp.map frz1⟩] (.ref 0 PTy) x=some k.2.2.2.2.2.1:=by rw[<-v1];rcases x with l|(_|⟨k,o,n⟩)<;>rfl
 have e2:unrefD [⟨2,ETy,me.map frz1⟩,⟨0,PTy,mp.map frz1⟩] (.ref 2 ETy) w=some k.2.2.2.2.2.2.2:=by rw[<-v2];rcases w with l|(_|⟨k,o,n⟩)<;>rfl
 show((some k.1).bind fun y=>(((some k.2.1).bind fun y=>(((some k.2.2.1).bind fun y=>(((some k.2.2.2.1).bind fun y=>(((some k.2.2.2.2.1).bind fun y=>(((unrefD [⟨2,ETy,me.map frz1⟩,⟨0,PTy,mp.map frz1⟩] (.ref 0 PTy) x).bind fun y'=>(((some k.2.2.2.2.2.2.1).bind fun y''=>(unrefD [⟨2,ETy,me.map frz1⟩,⟨0,PTy,mp.map frz1⟩] (.ref 2 ETy) w).map fun z=>(y'',z)).map fun z=>(y',z))).map fun z=>(y,z))).map fun z=>(y,z))).map fun z=>(y,z))).map fun z=>(y,z))).map fun z=>(y,z)))=_;rw[e1,e2]
 rfl
end Go.Ab.D
namespace Go.Ab
section
variable {ρ κ μ ν : Type}
structure InvC (mk:κ->RefT μ->ρ) (lst:κ->List μ) (ks:List κ) (n:Nat) (rows:List ρ) (ms:List (Nat×List μ)):Prop where
 len:rows.length=ks.length
 lm:ms.length=n
 at_:∀(i:Nat) k,ks[i]? =some k->(i<n->rows[i]? =some (mk k (.inr (some (i,(0,(lst k).length)))))/\ms[i]? =some (1,lst k))/\(n<=i->rows[i]? =some (mk k (.inl (lst k))))
variable {mk : κ → RefT μ → ρ} {lst : κ → List μ} {ks : List κ} {n : Nat} {rows : List ρ} {ms : List (Nat × List μ)}
theorem InvC.step(h:InvC mk lst ks n rows ms){k:κ}(hk:ks[n]? =some k):InvC mk lst ks (n+1) (rows.set n (mk k (.inr (some (n,(0,(lst k).length)))))) (ms++[(1,lst k)]):=by
 have hn:=(ZAB.1 hk).1;have hl:=h.len;have hm:=h.lm;refine⟨by rw[ZAw];exact h.len,by simp[h.lm],fun i k' hg'=>⟨fun hi=> ?_,fun hi=> ?_⟩⟩
 ·by_cases hin:i=n
  ·subst hin;rw[hk] at hg';cases hg';exact⟨ZAX (by omega),by rw[ZAV (by omega),h.lm,Nat.sub_self];rfl⟩
  ·have:=(h.at_ i k' hg').1 (by omega);rw[ZAT (by omega),ZAN (by omega)];exact this
 ·rw[ZAT (by omega)];exact(h.at_ i k' hg').2 (by omega)
theorem InvC.fam(h:InvC mk lst ks ks.length rows ms){ref:ρ->RefT μ}{same:ρ->κ->Prop}(hr:∀k x,ref (mk k x)=x)(hs:∀k x,same (mk k x) k):Fam ref lst same rows ms ks:=by
 refine⟨h.len,fun i row k hg hk=> ?_,fun i i' row row' j p p' hii hg hg' hj hj'=> ?_⟩
 ·obtain⟨e1,e2⟩:=(h.at_ i k hk).1 (ZAB.1 hk).1;rw[e1] at hg;cases hg;exact⟨hs _ _,.inr ⟨i,hr _ _,e2⟩⟩
 ·have look:∀i row,rows[i]? =some row->∀p,ref row= .inr (some (j,p))->j=i:=fun i row hg p hj=>by
   have hi:=(ZAB.1 hg).1;rw[h.len] at hi;obtain⟨e1,_⟩:=(h.at_ i _ (ZAE hi)).1 hi;rw[e1] at hg;cases hg;rw[hr] at hj;cases hj
   rfl
  exact hii ((look i row hg p hj).symm.trans (look i' row' hg' p' hj'))
structure InvC2 (mk:κ->RefT μ->RefT ν->ρ) (lst:κ->List μ) (lst2:κ->List ν) (ks:List κ) (n:Nat) (rows:List ρ) (ms:List (Nat×List μ)) (m2:List (Nat×List ν)):Prop where
 len:rows.length=ks.length
 lm:ms.length=n
 lm2:m2.length=n
 at_:∀(i:Nat) k,ks[i]? =some k->(i<n->rows[i]? =some (mk k (.inr (some (i,(0,(lst k).length)))) (.inr (some (i,(0,(lst2 k).length)))))/\ms[i]? =some (1,lst k)/\m2[i]? =some (1,lst2 k))/\(n<=i->rows[i]? =some (mk k (.inl (lst k)) (.inl (lst2 k))))
variable {mk2 : κ → RefT μ → RefT ν → ρ} {lst2 : κ → List ν} {m2 : List (Nat × List ν)}
theorem InvC2.step(h:InvC2 mk2 lst lst2 ks n rows ms m2){k:κ}(hk:ks[n]? =some k):InvC2 mk2 lst lst2 ks (n+1) (rows.set n (mk2 k (.inr (some (n,(0,(lst k).length)))) (.inr (some (n,(0,(lst2 k).length)))))) (ms++[(1,lst k)]) (m2++[(1,lst2 k)]):=by
 have hn:=(ZAB.1 hk).1;have hl:=h.len;have hm:=h.lm;have hm2:=h.lm2;refine⟨by rw[ZAw];exact h.len,by simp[h.lm],by simp[h.lm2],fun i k' hg'=>⟨fun hi=> ?_,fun hi=> ?_⟩⟩
 ·by_cases hin:i=n
  ·subst hin;rw[hk] at hg';cases hg';exact⟨ZAX (by omega),by rw[ZAV (by omega),h.lm,Nat.sub_self];rfl,by rw[ZAV (by omega),h.lm2,Nat.sub_self];rfl⟩
  ·have:=(h.at_ i k' hg').1 (by omega);rw[ZAT (by omega),ZAN (by omega),ZAN (by omega)];exact this
 ·rw[ZAT (by omega)];exact(h.at_ i k' hg').2 (by omega)
theorem InvC2.fam1(h:InvC2 mk2 lst lst2 ks ks.length rows ms m2){ref:ρ->RefT μ}{same:ρ->κ->Prop}(hr:∀k x y,ref (mk2 k x y)=x)(hs:∀k x y,same (mk2 k x y) k):Fam ref lst same rows ms ks:=by
 refine⟨h.len,fun i row k hg hk=> ?_,fun i i' row row' j p p' hii hg hg' hj hj'=> ?_⟩
 ·obtain⟨e1,e2,_⟩:=(h.at_ i k hk).1 (ZAB.1 hk).1;rw[e1] at hg;cases hg;exact⟨hs _ _ _,.inr ⟨i,hr _ _ _,e2⟩⟩
 ·have look:∀i row,rows[i]? =some row->∀p,ref row= .inr (some (j,p))->j=i:=fun i row hg p hj=>by
   have hi:=(ZAB.1 hg).1;rw[h.len] at hi;obtain⟨e1,_⟩:=(h.at_ i _ (ZAE hi)).1 hi;rw[e1] at hg;cases hg;rw[hr] at hj;cases hj
   rfl
  exact hii ((look i row hg p hj).symm.trans (look i' row' hg' p' hj'))
theorem InvC2.fam2(h:InvC2 mk2 lst lst2 ks ks.length rows ms m2){ref:ρ->RefT ν}{same:ρ->κ->Prop}(hr:∀k x y,ref (mk2 k x y)=y)(hs:∀k x y,same (mk2 k x y) k):Fam ref lst2 same rows m2 ks:=by
 refine⟨h.len,fun i row k hg hk=> ?_,fun i i' row row' j p p' hii hg hg' hj hj'=> ?_⟩
 ·obtain⟨e1,_,e2⟩:=(h.at_ i k hk).1 (ZAB.1 hk).1;rw[e1] at hg;cases hg;exact⟨hs _ _ _,.inr ⟨i,hr _ _ _,e2⟩⟩
 ·have look:∀i row,rows[i]? =some row->∀p,ref row= .inr (some (j,p))->j=i:=fun i row hg p hj=>by
   have hi:=(ZAB.1 hg).1;rw[h.len] at hi;obtain⟨e1,_⟩:=(h.at_ i _ (ZAE hi)).1 hi;rw[e1] at hg;cases hg;rw[hr] at hj;cases hj
   rfl
  exact hii ((look i row hg p hj).symm.trans (look i' row' hg' p' hj'))
end
end Go.Ab
namespace Go.Ab.D
open Go Go.Ab
abbrev entsI(n:Ino):List Ent:=n.2.2.2.2.2.2.2
abbrev partsI(n:Ino):List Part:=n.2.2.2.2.2.1
theorem oZZ(ks:List Ino):InvC toE entsI ks 0 (List.map (liftT TE) (show List (TE.unref.den) from ks)) []:=
 ⟨ZBb _,rfl,fun i k hg=>⟨fun hc=>absurd hc (ZBt _),fun _=>by
  show(List.map (liftT TE) (show List (TE.unref.den) from ks))[i]? =some (liftT TE k);rw[ZAa];show((show List Ino from ks)[i]?).map _=_;rw[hg]
  rfl⟩⟩
theorem qyZ(ks:List Ino):InvC toP partsI ks 0 (List.map (liftT TP) (show List (TP.unref.den) from ks)) []:=
 ⟨ZBb _,rfl,fun i k hg=>⟨fun hc=>absurd hc (ZBt _),fun _=>by
  show(List.map (liftT TP) (show List (TP.unref.den) from ks))[i]? =some (liftT TP k);rw[ZAa];show((show List Ino from ks)[i]?).map _=_;rw[hg]
  rfl⟩⟩
theorem qBZ(ks:List Ino):InvC2 to2 partsI entsI ks 0 (List.map (liftT T2) (show List (T2.unref.den) from ks)) [] []:=
 ⟨ZBb _,rfl,rfl,fun i k hg=>⟨fun hc=>absurd hc (ZBt _),fun _=>by
  show(List.map (liftT T2) (show List (T2.unref.den) from ks))[i]? =some (liftT T2 k);rw[ZAa];show((show List Ino from ks)[i]?).map _=_;rw[hg]
  rfl⟩⟩
theorem bwZ{t:Tree}(h:Fit t.1):∃rows ms,tcopE fuel t=some (t.2,(rows,ms))/\FamE rows ms t.1:=by
 unfold tcopE;have hn:=h.n;rw[dsZ hn,ZAA];have loop:∃o,tcopE_l0_it fuel t.1 (0,(t.2,((List.map (liftT TE) (show List (TE.unref.den) from t.1)),(0,[]))))=some o/\∃rows ms,o=(t.2,(rows,(0,ms)))/\InvC toE entsI t.1 t.1.length rows ms:=by
  unfold tcopE_l0_it;refine aKZ (fun m s=>∃(n:Nat) (rows:List InoE) (ms:MsE),s=((n:Int),(t.2,(rows,(0,ms))))/\n+m=t.1.length/\InvC toE entsI t.1 n rows ms) _ (fun m s hI=> ?_) (fun s hI=> ?_) t.1.length _ (by omega) ⟨0,_,[],rfl,by omega,oZZ t.1⟩
  ·obtain⟨n,rows,ms,rfl,hk,hI⟩:=hI;have hlt:n<t.1.length:=by omega
   obtain⟨k,hg⟩:∃k,t.1[n]? =some k:=⟨_,ZAE hlt⟩;have hrow:=(hI.at_ n k hg).2 (ZAK _);have hsm:=h.at hg;left;refine⟨(((n+1:Nat):Int),(t.2,(rows.set n (toE k (.inr (some (n,(0,(entsI k).length))))),(0,ms++[(1,entsI k)])))),?_,n+1,_,_,rfl,by omega,hI.step hg⟩;have hlr:n<rows.length:=by rw[hI.len];exact hlt
   unfold tcopE_l0;simp only[a8Z hlt,ZAF];rw[ajZ hlr];simp only[ZAA,hrow];rw[show(toE k (.inl (entsI k))).2.2.2.2.2.1=k.2.2.2.2.2.1 from rfl,dQZ hsm.1,ZAA,show lowD (Ty.ref 1 ETy) (toE k (.inl (entsI k))).2.2.2.2.2.2.2=some (entsI k) from rfl];erw[ZAA];rw[eiZ hsm.2,ZAA];show((rows.set n (toE k (.inl (entsI k))))[n]?.bind _)=_;rw[ZAX hlr,ZAA,w64 (by omega),hI.lm,show((n:Int)+1)=((n+1:Nat):Int) from by simp];show some (Sum.inl (_,(t.2,((rows.set n (toE k (.inl (entsI k)))).set n (toE k _),(0,_)))))=_;rw[List.set_set]
  ·obtain⟨n,rows,ms,rfl,hk,hI⟩:=hI;have:n=t.1.length:=by omega
   subst this;unfold tcopE_l0;simp only[arZ (ZAq _),ZAC];exact⟨_,rfl,rows,ms,rfl,hI⟩
 obtain⟨o,ho,rows,ms,rfl,hI⟩:=loop;exact⟨rows,ms,by rw[show tcopE_l0_it fuel t.1 (0,(t.2,((List.map (liftT TE) (show List (TE.unref.den) from t.1)),(0,[]))))=_ from ho];rfl,hI.fam (fun _ _=>rfl) fun k x=>⟨x,rfl⟩⟩
theorem hbZ{t:Tree}(h:Fit t.1):∃rows ms,icopE fuel t=some (t.2,(rows,ms))/\FamE rows ms t.1:=by
 unfold icopE;have hn:=h.n;rw[dsZ hn,ZAA];have loop:∃o,icopE_l0_it fuel t.1 (0,(t.2,((List.map (liftT TE) (show List (TE.unref.den) from t.1)),(0,[]))))=some o/\∃rows ms,o=(t.2,(rows,(0,ms)))/\InvC toE entsI t.1 t.1.length rows ms:=by
  unfold icopE_l0_it;refine aKZ (fun m s=>∃(n:Nat) (rows:List InoE) (ms:MsE),s=((n:Int),(t.2,(rows,(0,ms))))/\n+m=t.1.length/\InvC toE entsI t.1 n rows ms) _ (fun m s hI=> ?_) (fun s hI=> ?_) t.1.length _ (by omega) ⟨0,_,[],rfl,by omega,oZZ t.1⟩
  ·obtain⟨n,rows,ms,rfl,hk,hI⟩:=hI;have hlt:n<t.1.length:=by omega
   obtain⟨k,hg⟩:∃k,t.1[n]? =some k:=⟨_,ZAE hlt⟩;have hrow:=(hI.at_ n k hg).2 (ZAK _);have hsm:=h.at hg;left;refine⟨(((n+1:Nat):Int),(t.2,(rows.set n (toE k (.inr (some (n,(0,(entsI k).length))))),(0,ms++[(1,entsI k)])))),?_,n+1,_,_,rfl,by omega,hI.step hg⟩;have hlr:n<rows.length:=by rw[hI.len];exact hlt
   unfold icopE_l0;simp only[a8Z hlt,ZAF];rw[ajZ hlr];simp only[ZAA,hrow];rw[show lowD (Ty.ref 1 ETy) (toE k (.inl (entsI k))).2.2.2.2.2.2.2=some (entsI k) from rfl];erw[ZAA];rw[show inode_own fuel ((toE k (.inl (entsI k))).1,((toE k (.inl (entsI k))).2.1,((toE k (.inl (entsI k))).2.2.1,((toE k (.inl (entsI k))).2.2.2.1,((toE k (.inl (entsI k))).2.2.2.2.1,((toE k (.inl (entsI k))).2.2.2.2.2.1,((toE k (.inl (entsI k))).2.2.2.2.2.2.1,entsI k)))))))=_ from k3Z (n:=k) hsm,ZAA];rw[w64 (by omega),hI.lm,show((n:Int)+1)=((n+1:Nat):Int) from by simp]
   rfl
  ·obtain⟨n,rows,ms,rfl,hk,hI⟩:=hI;have:n=t.1.length:=by omega
   subst this;unfold icopE_l0;simp only[arZ (ZAq _),ZAC];exact⟨_,rfl,rows,ms,rfl,hI⟩
 obtain⟨o,ho,rows,ms,rfl,hI⟩:=loop;exact⟨rows,ms,by rw[show icopE_l0_it fuel t.1 (0,(t.2,((List.map (liftT TE) (show List (TE.unref.den) from t.1)),(0,[]))))=_ from ho];rfl,hI.fam (fun _ _=>rfl) fun k x=>⟨x,rfl⟩⟩
theorem llZ{rows:List InoE}{ms:MsE}{ks:List Ino}(st:Int)(hF:FamE rows ms ks)(h:Fit ks):∃rowsP mp,icopPgo0R fuel st rows ms=some (st,(rows,(rowsP,(mp,ms.map frz1))))/\FamP rowsP mp ks:=by
 unfold icopPgo0R;have hn:=h.n;rw[hF.pure1];erw[ZAA];rw[dsZ hn,ZAA];have loop:∃o,icopPgo0R_l0_it fuel ks (st,(0,(rows,(st,((List.map (liftT TP) (show List (TP.unref.den) from ks)),(0,([],ms.map frz1)))))))=some o/\∃rowsP mp,o=(st,(rows,(st,(rowsP,(0,(mp,ms.map frz1))))))/\InvC toP partsI ks ks.length rowsP mp:=by
  unfold icopPgo0R_l0_it;refine aKZ (fun m s=>∃(n:Nat) (rowsP:List InoP) (mp:MsP),s=(st,((n:Int),(rows,(st,(rowsP,(0,(mp,ms.map frz1)))))))/\n+m=ks.length/\InvC toP partsI ks n rowsP mp) _ (fun m s hI=> ?_) (fun s hI=> ?_) ks.length _ (by omega) ⟨0,_,[],rfl,by omega,qyZ ks⟩
  ·obtain⟨n,rowsP,mp,rfl,hk,hI⟩:=hI;have hlt:n<ks.length:=by omega
   obtain⟨k,hg⟩:∃k,ks[n]? =some k:=⟨_,ZAE hlt⟩;have hrow:=(hI.at_ n k hg).2 (ZAK _);have hsm:=h.at hg;left;refine⟨(st,(((n+1:Nat):Int),(rows,(st,(rowsP.set n (toP k (.inr (some (n,(0,(partsI k).length))))),(0,(mp++[(1,partsI k)],ms.map frz1))))))),?_,n+1,_,_,rfl,by omega,hI.step hg⟩;have hlr:n<rowsP.length:=by rw[hI.len];exact hlt
   unfold icopPgo0R_l0;simp only[a8Z hlt,ZAF];rw[ajZ hlr];simp only[ZAA,hrow];rw[show lowD (Ty.ref 0 PTy) (toP k (.inl (partsI k))).2.2.2.2.2.1=some (partsI k) from rfl];erw[ZAA];rw[show inode_own fuel ((toP k (.inl (partsI k))).1,((toP k (.inl (partsI k))).2.1,((toP k (.inl (partsI k))).2.2.1,((toP k (.inl (partsI k))).2.2.2.1,((toP k (.inl (partsI k))).2.2.2.2.1,(partsI k,((toP k (.inl (partsI k))).2.2.2.2.2.2.1,(toP k (.inl (partsI k))).2.2.2.2.2.2.2)))))))=_ from k3Z (n:=k) hsm,ZAA];rw[w64 (by omega),hI.lm,show((n:Int)+1)=((n+1:Nat):Int) from by simp]
   rfl
  ·obtain⟨n,rowsP,mp,rfl,hk,hI⟩:=hI;have:n=ks.length:=by omega
   subst this;unfold icopPgo0R_l0;simp only[arZ (ZAq _),ZAC];exact⟨_,rfl,rowsP,mp,rfl,hI⟩
 obtain⟨o,ho,rowsP,mp,rfl,hI⟩:=loop;exact⟨rowsP,mp,by rw[show icopPgo0R_l0_it fuel ks (st,(0,(rows,(st,((List.map (liftT TP) (show List (TP.unref.den) from ks)),(0,([],ms.map frz1)))))))=_ from ho];rfl,hI.fam (fun _ _=>rfl) fun k x=>⟨x,rfl⟩⟩
theorem lXZ{rows:List InoE}{ms:MsE}{ks:List Ino}(st:Int)(hF:FamE rows ms ks)(h:Fit ks):∃rows2 mp me,icop2go0R fuel st rows ms=some (st,(rows,(rows2,(mp,(ms.map frz1,me)))))/\Fam2p rows2 mp ks/\Fam2e rows2 me ks:=by
 unfold icop2go0R;have hn:=h.n;rw[hF.pure1];erw[ZAA];rw[dsZ hn,ZAA];have loop:∃o,icop2go0R_l0_it fuel ks (st,(0,(rows,(st,((List.map (liftT T2) (show List (T2.unref.den) from ks)),(0,([],(ms.map frz1,[]))))))))=some o/\∃rows2 mp me,o=(st,(rows,(st,(rows2,(0,(mp,(ms.map frz1,me)))))))/\InvC2 to2 partsI entsI ks ks.length rows2 mp me:=by
  unfold icop2go0R_l0_it;refine aKZ (fun m s=>∃(n:Nat) (rows2:List Ino2) (mp:MsP) (me:MsE),s=(st,((n:Int),(rows,(st,(rows2,(0,(mp,(ms.map frz1,me))))))))/\n+m=ks.length/\InvC2 to2 partsI entsI ks n rows2 mp me) _ (fun m s hI=> ?_) (fun s hI=> ?_) ks.length _ (by omega) ⟨0,_,[],[],rfl,by omega,qBZ ks⟩
  ·obtain⟨n,rows2,mp,me,rfl,hk,hI⟩:=hI;have hlt:n<ks.length:=by omega
   obtain⟨k,hg⟩:∃k,ks[n]? =some k:=⟨_,ZAE hlt⟩;have hrow:=(hI.at_ n k hg).2 (ZAK _);have hsm:=h.at hg;left;refine⟨(st,(((n+1:Nat):Int),(rows,(st,(rows2.set n (to2 k (.inr (some (n,(0,(partsI k).length)))) (.inr (some (n,(0,(entsI k).length))))),(0,(mp++[(1,partsI k)],(ms.map frz1,me++[(1,entsI k)])))))))),?_,n+1,_,_,_,rfl,by omega,hI.step hg⟩;have hlr:n<rows2.length:=by rw[hI.len];exact hlt
   unfold icop2go0R_l0;simp only[a8Z hlt,ZAF];rw[ajZ hlr];simp only[ZAA,hrow];rw[show lowD (Ty.ref 0 PTy) (to2 k (.inl (partsI k)) (.inl (entsI k))).2.2.2.2.2.1=some (partsI k) from rfl];erw[ZAA];rw[show lowD (Ty.ref 2 ETy) (to2 k (.inl (partsI k)) (.inl (entsI k))).2.2.2.2.2.2.2=some (entsI k) from rfl];erw[ZAA];rw[show inode_own fuel ((to2 k (.inl (partsI k)) (.inl (entsI k))).1,((to2 k (.inl (partsI k)) (.inl (entsI k))).2.1,((to2 k (.inl (partsI k)) (.inl (entsI k))).2.2.1,((to2 k (.inl (partsI k)) (.inl (entsI k))).2.2.2.1,((to2 k (.inl (partsI k)) (.inl (entsI k))).2.2.2.2.1,(partsI k,((to2 k (.inl (partsI k)) (.inl (entsI k))).2.2.2.2.2.2.1,entsI k)))))))=_ from k3Z (n:=k) hsm,ZAA];rw[w64 (by omega),hI.lm,hI.lm2,show((n:Int)+1)=((n+1:Nat):Int) from by simp]
   rfl
  ·obtain⟨n,rows2,mp,me,rfl,hk,hI⟩:=hI;have:n=ks.length:=by omega
   subst this;unfold icop2go0R_l0;simp only[arZ (ZAq _),ZAC];exact⟨_,rfl,rows2,mp,me,rfl,hI⟩
 obtain⟨o,ho,rows2,mp,me,rfl,hI⟩:=loop;exact⟨rows2,mp,me,by rw[show icop2go0R_l0_it fuel ks (st,(0,(rows,(st,((List.map (liftT T2) (show List (T2.unref.den) from ks)),(0,([],(ms.map frz1,[]))))))))=_ from ho];rfl,hI.fam1 (fun _ _ _=>rfl) fun k x y=>⟨x,y,rfl⟩,hI.fam2 (fun _ _ _=>rfl) fun k x y=>⟨x,y,rfl⟩⟩
theorem aAZ{t:Tree}(h:Fit t.1):tcop fuel t=some (t.2,t.1):=by
 unfold tcop;rw[dsZ h.n,ZAA];have loop:tcop_l0_it fuel t.1 (0,(t.2,(t.1,0)))=some (t.2,(t.1,0)):=by
  unfold tcop_l0_it;refine aLZ (fun k=>((k:Int),(t.2,(t.1,0)))) t.1.length (by have:=h.n;omega) (fun k hk=> ?_) ?_
  ·unfold tcop_l0;obtain⟨n,hg⟩:∃n,t.1[k]? =some n:=⟨_,ZAE hk⟩;have hsm:=h.at hg;have hs:t.1.set k n=t.1:=hHZ hg;simp only[a8Z hk,ZAF];rw[ajZ hk];simp only[ZAA,hg];rw[dQZ hsm.1,ZAA,eiZ hsm.2,ZAA];show((t.1.set k n)[k]?.bind _)=_;rw[hs,hg,ZAA,w64 (by have:=h.n;omega)];show some (Sum.inl (_,(t.2,(t.1.set k n,0))))=_;rw[hs]
   rfl
  ·unfold tcop_l0;simp only[arZ (ZAq _),ZAC]
 rw[loop,ZAA]
end Go.Ab.D
namespace Go.Ab.D
open Go Go.Ab
theorem plZ{l:List Ent}(s:List UInt8)(hl:l.length<=100000):sDelFun fuel l s=some (.inl (delE l s,s))\/sDelFun fuel l s=some (.inr (s,delE l s)):=by
 have hidx:sIndFun fuel l s=some (match l.findIdx? (fun e=>e.1==s) with|some n=>((n:Int),(l,s))|none=>(-1,(l,s))):=by
  unfold sIndFun sIndFun_l0_it;have e:iter fuel (fun tt=>sIndFun_l0 fuel l tt.1 tt.2.1 tt.2.2) (0,(l,s))=_:=nEZ (l,s) (fun e:Ent=>e.1==s) l (by omega) (fun tt=>sIndFun_l0 fuel l tt.1 tt.2.1 tt.2.2) (fun i x hx=>by
   show sIndFun_l0 fuel l (i:Int) l s=_;unfold sIndFun_l0 ttak1;have hlt:=(ZAB.1 hx).1;simp only[a8Z hlt,ZAF];rw[ajZ hlt,ZAA,hx,ZAA,ZAA,w64 (by omega)];cases(x.1==s)<;>rfl) (by
   show sIndFun_l0 fuel l ((l.length:Nat):Int) l s=_;unfold sIndFun_l0;simp only[arZ (ZAq _),ZAC])
  rw[e,ZAA];cases l.findIdx? (fun e=>e.1==s)<;>rfl
 unfold sDelFun;rw[hidx,ZAA];cases hf:l.findIdx? (fun e=>e.1==s) with
 |none=>
  left;have:delE l s=l:=ZBs.2 fun x hx=>by
   have:=List.findIdx?_eq_none_iff.1 hf x hx;simpa using this
  rw[this]
  rfl
 |some n=>
  right;obtain⟨hn,h1,h2⟩:=ZA0.1 hf;simp only[];rw[show((n:Int)== -1)=false from by simp,ZAC,w64 (by omega)];obtain⟨h',e1,e2,e3⟩:=nLZ s (fun e:Ent=>e.1==s) l n hn (by omega) h1 (fun j hj=>by simpa using h2 j hj)
   (fun(tt:Int×Int×List Ent×List UInt8)=>sDelFun_l0 fuel tt.1 tt.2.1 tt.2.2.1 tt.2.2.2) (fun i j (h:List Ent) x hij hj hh hx=>by
    show sDelFun_l0 fuel (i:Int) (j:Int) h s=_;unfold sDelFun_l0 ttak1;have hi:i<h.length:=by omega
    obtain⟨y,hy⟩:∃y,h[i]? =some y:=⟨_,ZAE hi⟩;simp only[a8Z hj,ZAF];rw[ajZ hj,ZAA,hx,ZAA,ZAA,ajZ hi];simp only[ZAA,hy];rw[w64 (by omega),w64 (by omega)];cases(x.1==s)<;>rfl) (fun i (h:List Ent)=>by
    show sDelFun_l0 fuel (i:Int) ((h.length:Nat):Int) h s=_;unfold sDelFun_l0;simp only[arZ (ZAq _),ZAC])
  have e3:h'.take (delE l s).length=delE l s:=e3;have e1:iter fuel (fun(tt:Int×Int×List Ent×List UInt8)=>sDelFun_l0 fuel tt.1 tt.2.1 tt.2.2.1 tt.2.2.2) ((n:Int),(((n+1:Nat):Int),(l,s)))=some ((((delE l s).length:Nat):Int),(h',s)):=e1;rw[show sDelFun_l0_it fuel ((n:Int),((n:Int)+1,(l,s)))=_ from e1,ZAA];have hle:(delE l s).length<=h'.length:=by rw[e2];exact ZBf _ _
  simp only;rw[aJZ hle,ZAA,abZ (ciZ (by omega))];have hsl:(splice h' (delE l s).length (List.replicate (h'.length-(delE l s).length) (([],0):Ent))).length=h'.length:=by
   unfold splice;simp;omega
  rw[hsl,aJZ hle,ZAA,abZ (ciZ hle)];have:(splice h' (delE l s).length (List.replicate (h'.length-(delE l s).length) (([],0):Ent))).take (delE l s).length=delE l s:=by
   unfold splice;rw[ZAv,ZA1 (by rw[e3];exact ZAK _),List.take_take,Nat.min_self,e3]
  rw[this]
def wE(n:Ino)(l:List Ent):Ino:=(n.1,n.2.1,n.2.2.1,n.2.2.2.1,n.2.2.2.2.1,n.2.2.2.2.2.1,n.2.2.2.2.2.2.1,l)
def wP(n:Ino)(p:Int):Ino:=(n.1,n.2.1,n.2.2.1,n.2.2.2.1,n.2.2.2.2.1,n.2.2.2.2.2.1,p,n.2.2.2.2.2.2.2)
theorem idZ{l:List Ent}(s:List UInt8)(id:Int)(hl:l.length<=100000):sIns fuel ((pos l s:Nat):Int) l [(s,id)]=some ([(s,id)],insE l s id):=by
 unfold sIns;rw[aJZ (iXZ l s),ZAA,abZ]
 ·rfl
 ·simp only[ZAD,ZAu,bcZ,List.length_singleton,ZBq];omega
theorem pmZ{rows ex:List InoE}{ms:MsE}{ks:List Ino}(st:Int){dir:Int}{n:Ino}(s:List UInt8)(id:Int)(hF:FamE rows ms ks)(hks:ks.length+ex.length<=100000)(h1:1<=dir)(hn:ks[(dir-1).toNat]? =some n)(hs:Srt n.2.2.2.2.2.2.2)(hl:n.2.2.2.2.2.2.2.length<=100000):
 ∃rows' ms',tput fuel dir s id st (rows++ex) ms=some (st,(rows'++ex,ms'))/\FamE rows' ms' (ks.set (dir-1).toNat (wE n (insE n.2.2.2.2.2.2.2 s id))):=by
 have hlt:=(ZAB.1 hn).1;have hrl:=hF.len;obtain⟨row,hr,⟨x,hrx⟩,_⟩:=hF.row hn;obtain⟨ms',ho,hml,hset⟩:=hF.open_ hr hn;refine⟨_,_,?_,hset (toE n (.inr (some (ms'.length,(0,(insE n.2.2.2.2.2.2.2 s id).length))))) (wE n (insE n.2.2.2.2.2.2.2 s id)) ⟨_,rfl⟩ rfl⟩;have hr':(rows++ex)[(dir-1).toNat]? =some row:=by rw[ZAN (by omega)];exact hr
 unfold tput;rw[w64 (by omega),avZ (by omega) (by rw[ZAi];omega),ZAA,hr',ZAA,hF.one hr hn];erw[ZAA];rw[heZ s hs hl,ZAA,ZAA];erw[ho];rw[ZAA];simp only;rw[idZ s id hl,ZAA,ZAA,hrx,List.set_append_left _ _ (by omega)]
 rfl
theorem put_ok{rows:List InoE}{ms:MsE}{ks:List Ino}(st:Int){dir:Int}{n:Ino}(s:List UInt8)(id:Int)(hF:FamE rows ms ks)(hks:ks.length<=100000)(h1:1<=dir)(hn:ks[(dir-1).toNat]? =some n)(hs:Srt n.2.2.2.2.2.2.2)(hl:n.2.2.2.2.2.2.2.length<=100000):
 ∃rows' ms',tput fuel dir s id st rows ms=some (st,(rows',ms'))/\FamE rows' ms' (ks.set (dir-1).toNat (wE n (insE n.2.2.2.2.2.2.2 s id))):=by
 obtain⟨rows',ms',h,hf⟩:=pmZ (ex:=[]) st s id hF (by simpa using hks) h1 hn hs hl;rw[ZA2,ZA2] at h;exact⟨rows',ms',h,hf⟩
theorem d0Z{rows:List InoE}{ms:MsE}{ks:List Ino}(st:Int){dir:Int}{n:Ino}(s:List UInt8)(hF:FamE rows ms ks)(hks:ks.length<=100000)(h1:1<=dir)(hn:ks[(dir-1).toNat]? =some n)(hl:n.2.2.2.2.2.2.2.length<=100000):
 ∃rows' ms',ttak fuel dir s st rows ms=some (st,(rows',ms'))/\FamE rows' ms' (ks.set (dir-1).toNat (wE n (delE n.2.2.2.2.2.2.2 s))):=by
 have hlt:=(ZAB.1 hn).1;have hrl:=hF.len;obtain⟨row,hr,⟨x,hrx⟩,_⟩:=hF.row hn;obtain⟨ms',ho,hml,hset⟩:=hF.open_ hr hn;refine⟨_,_,?_,hset (toE n (.inr (some (ms'.length,(0,(delE n.2.2.2.2.2.2.2 s).length))))) (wE n (delE n.2.2.2.2.2.2.2 s)) ⟨_,rfl⟩ rfl⟩;unfold ttak;rw[w64 (by omega),avZ (by omega) (by omega),ZAA,hr,ZAA];erw[ho];rw[ZAA];simp only;rcases plZ (l:=n.2.2.2.2.2.2.2) s hl with hd|hd
 ·rw[hd,ZAA];simp only;rw[ZAA,hrx]
  rfl
 ·rw[hd,ZAA];simp only;rw[ZAA,hrx]
  rfl
theorem pHZ{rows:List Ino2}{mp:MsP}{me:MsE}{ks:List Ino}(st:Int){dir:Int}{n:Ino}(s:List UInt8)(id:Int)(hP:Fam2p rows mp ks)(hF:Fam2e rows me ks)(hks:ks.length<=100000)(h1:1<=dir)(hn:ks[(dir-1).toNat]? =some n)(hs:Srt n.2.2.2.2.2.2.2)(hl:n.2.2.2.2.2.2.2.length<=100000):
 ∃rows' me',tput2 fuel dir s id st rows mp me=some (st,(rows',(mp,me')))/\Fam2p rows' mp (ks.set (dir-1).toNat (wE n (insE n.2.2.2.2.2.2.2 s id)))/\Fam2e rows' me' (ks.set (dir-1).toNat (wE n (insE n.2.2.2.2.2.2.2 s id))):=by
 have hlt:=(ZAB.1 hn).1;have hrl:=hF.len;obtain⟨row,hr,⟨x,y,hrx⟩,_⟩:=hF.row hn;obtain⟨me',ho,hml,hset⟩:=hF.open_ hr hn;refine⟨_,_,?_,hP.keep (row':=to2 n x (.inr (some (me'.length,(0,(insE n.2.2.2.2.2.2.2 s id).length))))) hr hn ⟨_,_,rfl⟩ (by rw[hrx];rfl) rfl,hset (to2 n x (.inr (some (me'.length,(0,(insE n.2.2.2.2.2.2.2 s id).length))))) (wE n (insE n.2.2.2.2.2.2.2 s id)) ⟨_,_,rfl⟩ rfl⟩;unfold tput2;rw[w64 (by omega),avZ (by omega) (by omega),ZAA,hr,ZAA,oIZ hP hF hr hn];erw[ZAA];rw[heZ s hs hl,ZAA,ZAA];erw[ho];rw[ZAA];simp only;rw[idZ s id hl,ZAA,ZAA,hrx]
 rfl
theorem o0Z{rows:List Ino2}{mp:MsP}{me:MsE}{ks:List Ino}(st:Int){dir:Int}{n:Ino}(s:List UInt8)(hP:Fam2p rows mp ks)(hF:Fam2e rows me ks)(hks:ks.length<=100000)(h1:1<=dir)(hn:ks[(dir-1).toNat]? =some n)(hl:n.2.2.2.2.2.2.2.length<=100000):
 ∃rows' me',ttak2 fuel dir s st rows mp me=some (st,(rows',(mp,me')))/\Fam2p rows' mp (ks.set (dir-1).toNat (wE n (delE n.2.2.2.2.2.2.2 s)))/\Fam2e rows' me' (ks.set (dir-1).toNat (wE n (delE n.2.2.2.2.2.2.2 s))):=by
 have hlt:=(ZAB.1 hn).1;have hrl:=hF.len;obtain⟨row,hr,⟨x,y,hrx⟩,_⟩:=hF.row hn;obtain⟨me',ho,hml,hset⟩:=hF.open_ hr hn;refine⟨_,_,?_,hP.keep (row':=to2 n x (.inr (some (me'.length,(0,(delE n.2.2.2.2.2.2.2 s).length))))) hr hn ⟨_,_,rfl⟩ (by rw[hrx];rfl) rfl,hset (to2 n x (.inr (some (me'.length,(0,(delE n.2.2.2.2.2.2.2 s).length))))) (wE n (delE n.2.2.2.2.2.2.2 s)) ⟨_,_,rfl⟩ rfl⟩;unfold ttak2;rw[w64 (by omega),avZ (by omega) (by omega),ZAA,hr,ZAA];erw[ho];rw[ZAA];simp only;rcases plZ (l:=n.2.2.2.2.2.2.2) s hl with hd|hd
 ·rw[hd,ZAA];simp only;rw[ZAA,hrx]
  rfl
 ·rw[hd,ZAA];simp only;rw[ZAA,hrx]
  rfl
end Go.Ab.D
namespace Go.Ab.D
open Go Go.Ab
def noRoom(l:List Ino):Prop:=match freeAt l with|none=>500<=l.length|some i=>∃n,l[i]? =some n/\1099511627776<=n.2.1
structure Alc (l:List Ino) (dir:Bool) (parent:Int) (l':List Ino) (i:Nat) (g:Int):Prop where
 slot:i=(freeAt l).getD l.length
 new:l'[i]? =some ((i:Int)+1,g,true,dir,0,[],parent,[])
 old:∀j:Nat,j≠i->l'[j]? =l[j]?
 gen:g=(match l[i]? with|some n=>n.2.1|none=>0)+1
 top:g<=1099511627776
 was:∀n,l[i]? =some n->n.2.2.1=false
 len:l'.length=if i<l.length then l.length else l.length+1
 le:i<=l.length
 few:l'.length<=500
theorem ebZ{α γ:Type}(g:α->Option γ):∀(a b:List α) {x y:List γ},unrefL g a=some x->unrefL g b=some y->unrefL g (a++b)=some (x++y)
 |[],b,x,y,h1,h2=>by
  have:x=[]:=by injection h1 with h1;exact h1.symm
  subst this;exact h2
 |c::a,b,x,y,h1,h2=>by
  have h1:(g c).bind (fun z=>(unrefL g a).map (z::·))=some x:=h1;show(g c).bind (fun z=>(unrefL g (a++b)).map (z::·))=some (x++y);cases hc:g c with
  |none=>rw[hc] at h1;cases h1
  |some z=>
   rw[hc,ZAA] at h1;cases ha:unrefL g a with
   |none=>rw[ha] at h1;cases h1
   |some w=>
    rw[ha] at h1;have:x=z::w:=by injection h1 with h1;exact h1.symm
    subst this;rw[ZAA,ebZ g a b ha h2]
    rfl
theorem d2Z{t:Tree}(h:RightP t):iRig fuel t=some true:=by
 obtain⟨b,hb,hq⟩:=koZ h.fit;rw[hb,hq.2 h]
theorem mxZ{t:Tree}(h:RightP t)(dir:Bool){parent:Int}(hp:isB t.1 parent true=true):
 (noRoom t.1/\∃rows ms,iAllE fuel t dir parent=some (t.2,(0,(0,(5,(rows,ms)))))/\FamE rows ms t.1)\/
 (∃(rows ex:List InoE) (ms:MsE) (l le:List Ino) (i:Nat) (g:Int),iAllE fuel t dir parent=some (t.2,((i:Int)+1,(g,(0,(rows++ex,ms)))))/\Alc t.1 dir parent (l++le) i g/\FamE rows ms l/\l.length=t.1.length/\((ex=[]/\le=[])\/∃n,ex=[toE n (.inl [])]/\le=[n]/\n.2.2.2.2.2.2.2=[])):=by
 have hlen:=h.len;obtain⟨rows,ms,hc,hF⟩:=hbZ h.fit;have hrl:=hF.len;have hfi:=pPZ (l:=t.1) (by omega);unfold iAllE;rw[show((t.1,t.2):Tree)=t from rfl,hc,ZAA,d2Z h,ZAA];simp only[ZAJ,ZAC];rw[m9Z h.fit,ZAA,hp];simp only[ZAJ,ZAC];rw[hF.pure1];erw[ZAA];rw[hfi,ZAA];cases hfree:freeAt t.1 with
 |none=>
  simp only;rw[show decide ((-1:Int)<0)=true from rfl];simp only[ZAF,ZAA,hrl];by_cases h5:500<=t.1.length
  ·left;rw[ZAS (show(((t.1.length:Nat):Int)>=500) by omega)];refine⟨by unfold noRoom;rw[hfree];exact h5,rows,ms,rfl,hF⟩
  ·right;rw[ZAL (show¬(((t.1.length:Nat):Int)>=500) by omega)];simp only[ZAC];rw[abZ (by simp only[ZAD,ZAu,bcZ];omega),ZAA];simp only;obtain⟨row0,hrow0⟩:∃r,r=toE (((t.1.length:Nat):Int)+1,0,false,false,0,[],0,[]) (.inl []):=⟨_,rfl⟩;have e0:(List.map (liftT TE) (show List (TE.unref.den) from([((IntKind.wrap .i64 (((t.1.length:Nat):Int)+1)),(0,(false,(false,(0,([],(0,[])))))))]:List Ino)))=[row0]:=by
    rw[w64 (by omega),hrow0];rfl
   erw[e0];have hlt:rows.length<(rows++[row0]).length:=by simp
   have hg:(rows++[row0])[rows.length]? =some row0:=by simp
   rw[<-hrl,ajZ hlt];simp only[ZAA,hg,List.set_set,jeZ hlt];refine⟨rows,[toE (((t.1.length:Nat):Int)+1,1,true,dir,0,[],parent,[]) (.inl [])],ms,t.1,[(((t.1.length:Nat):Int)+1,1,true,dir,0,[],parent,[])],t.1.length,1,?_,⟨by rw[hfree];rfl,by simp,fun j hj=> ?_,by simp,by omega,fun n hn=>by simp at hn,by simp,ZAK _,by simp;omega⟩,hF,hrl.symm,.inr ⟨_,rfl,rfl,rfl⟩⟩
   ·rw[List.set_append_right _ _ (ZAK _),Nat.sub_self,hrow0]
    rfl
   ·by_cases hjl:j<t.1.length
    ·rw[ZAN hjl]
    ·rw[ZAr (by simp;omega),ZAr (by omega)]
 |some i=>
  obtain⟨hi,hu,_⟩:=ZA0.1 hfree;have hg:t.1[i]? =some t.1[i]:=ZAE hi;obtain⟨row,hr,⟨x,hrx⟩,_⟩:=hF.row hg;have hu:t.1[i].2.2.1=false:=by simpa using hu
  have ho:=h.ino i _ hg;have hb:=ho.bare hu;have hgen:=ho.gen;simp only;rw[ZAL (show¬((i:Int)<0) by omega)];simp only[ZAC,ZAA];rw[ajZ (show i<rows.length by omega)];simp only[ZAA,hr];have hrg:row.2.1=t.1[i].2.1:=by rw[hrx];rfl
  rw[hrg];by_cases h5:t.1[i].2.1>=1099511627776
  ·left;rw[ZAS h5];refine⟨by unfold noRoom;rw[hfree];exact⟨_,hg,h5⟩,rows,ms,rfl,hF⟩
  ·right;rw[ZAL h5];simp only[ZAC,ZAA];have hlr:i<rows.length:=by omega
   rw[ajZ hlr];simp only[ZAA,hr,List.set_set,jeZ hlr];have hw:IntKind.wrap .i64 (row.2.1+1)=t.1[i].2.1+1:=by rw[hrg,w64 (by omega)]
   rw[hw];have hid:=ho.id;have hrow:row=toE t.1[i] x:=hrx;refine⟨rows.set i (toE (taken t.1[i] dir parent) x),[],ms,t.1.set i (taken t.1[i] dir parent),[],i,t.1[i].2.1+1,?_,⟨by rw[hfree];rfl,?_,fun j hj=> ?_,by rw[hg],by omega,fun n hn=>by rw[hg] at hn;cases hn;exact hu,by simp[hi],by omega,by simp;omega⟩,hF.keep (k':=taken t.1[i] dir parent) hr hg ⟨x,rfl⟩ (by rw[hrx];rfl) rfl,ZAw ..,.inl ⟨rfl,rfl⟩⟩
   ·rw[ZA2];congr 2;rw[hrow];refine Prod.ext ?_ rfl;show t.1[i].1=_;omega
   ·rw[ZA2,jeZ hi];unfold taken;rw[hb.2.1,hb.2.2.2.1,hb.2.2.2.2,hid]
   ·rw[ZA2,ZAT (by omega)]
def madeL(l':List Ino)(d:Int)(n:Ino)(s:List UInt8)(id:Int):List Ino:=l'.set (d-1).toNat (wE n (insE n.2.2.2.2.2.2.2 s id))
theorem qiZ{l:List Ino}{d:Int×Int}{n:Ino}(hn:IsD l d n):isB l d.1 true=true:=by
 unfold isB;rw[hn.1.2.1];simp[hn.1.1,hn.1.2.2.1,hn.2]
section
variable {t : Tree} {d : Int × Int} {n : Ino} {s : List UInt8}
theorem oXZ(h:TreeOK t)(s:List UInt8)(is:Bool)(hb:dirE t.1 d≠0):tree_Make fuel t d s is=some (t.1,(t.2,(0,(0,dirE t.1 d)))):=by
 unfold tree_Make;rw[show((t.1,t.2):Tree)=t from rfl,show((d.1,d.2):Int×Int)=d from rfl,cYZ h hb,ZAA];simp only[ZAb.2 hb,ZAe,ZAF];rw[aAZ h.r.fit,ZAA]
theorem m8Z(h:TreeOK t)(is:Bool)(hn:IsD t.1 d n)(hs:namedB s=false):tree_Make fuel t d s is=some (t.1,(t.2,(0,(0,176)))):=by
 unfold tree_Make;rw[show((t.1,t.2):Tree)=t from rfl,show((d.1,d.2):Int×Int)=d from rfl,aDZ h hn,ZAA];simp only[ZAP,ZAJ,ZAC];rw[show idx? 0 [n].length=some 0 from rfl,ZAA,show[n][0]? =some n from rfl,ZAA,h.ent_ok hn,ZAA,axZ,ZAA,hs];simp only[ZAe,ZAF];rw[aAZ h.r.fit,ZAA]
theorem lNZ(h:TreeOK t)(is:Bool)(hn:IsD t.1 d n)(hs:namedB s=true)(hh:hasN n.2.2.2.2.2.2.2 s=true):tree_Make fuel t d s is=some (t.1,(t.2,(0,(0,172)))):=by
 unfold tree_Make;rw[show((t.1,t.2):Tree)=t from rfl,show((d.1,d.2):Int×Int)=d from rfl,aDZ h hn,ZAA];simp only[ZAP,ZAJ,ZAC];rw[show idx? 0 [n].length=some 0 from rfl,ZAA,show[n][0]? =some n from rfl,ZAA,h.ent_ok hn,ZAA,axZ,ZAA,hs,hh];simp only[ZAJ,ZAF,ZAC];rw[aAZ h.r.fit,ZAA]
theorem m5Z(h:TreeOK t)(is:Bool)(hn:IsD t.1 d n)(hs:namedB s=true)(hh:hasN n.2.2.2.2.2.2.2 s=false)(hl:100<=n.2.2.2.2.2.2.2.length):tree_Make fuel t d s is=some (t.1,(t.2,(0,(0,5)))):=by
 unfold tree_Make;rw[show((t.1,t.2):Tree)=t from rfl,show((d.1,d.2):Int×Int)=d from rfl,aDZ h hn,ZAA];simp only[ZAP,ZAJ,ZAC];rw[show idx? 0 [n].length=some 0 from rfl,ZAA,show[n][0]? =some n from rfl,ZAA,h.ent_ok hn,ZAA,axZ,ZAA,hs,hh];simp only[ZAJ,ZAC,ZAA];rw[show[n][0]? =some n from rfl,ZAA,ZAS (show((n.2.2.2.2.2.2.2.length:Nat):Int)>=100 by omega)];simp only[ZAF];rw[aAZ h.r.fit,ZAA]
theorem l6Z(h:TreeOK t)(is:Bool)(hn:IsD t.1 d n)(hs:namedB s=true)(hh:hasN n.2.2.2.2.2.2.2 s=false)(hl:n.2.2.2.2.2.2.2.length<100):
 (noRoom t.1/\tree_Make fuel t d s is=some (t.1,(t.2,(0,(0,5)))))\/
 ∃(l':List Ino) (i:Nat) (g:Int),Alc t.1 is d.1 l' i g/\tree_Make fuel t d s is=some (madeL l' d.1 n s ((i:Int)+1),(t.2,((i:Int)+1,(g,0)))):=by
 have hlen:=h.r.len;have hlt:=(ZAB.1 hn.1.2.1).1;unfold tree_Make;rw[show((t.1,t.2):Tree)=t from rfl,show((d.1,d.2):Int×Int)=d from rfl,aDZ h hn,ZAA];simp only[ZAP,ZAJ,ZAC];rw[show idx? 0 [n].length=some 0 from rfl,ZAA,show[n][0]? =some n from rfl,ZAA,h.ent_ok hn,ZAA,axZ,ZAA,hs,hh];simp only[ZAJ,ZAC,ZAA];rw[show[n][0]? =some n from rfl,ZAA,ZAL (show¬((n.2.2.2.2.2.2.2.length:Nat):Int)>=100 by omega)];simp only[ZAC];rcases mxZ h.r is (qiZ hn) with⟨hno,rows,ms,ha,hF⟩|⟨rows,ex,ms,l,le,i,g,ha,hA,hF,hll,hex⟩
 ·left;refine⟨hno,?_⟩;rw[ha,ZAA];simp only;rw[show((5:Int)==0)=false from rfl];simp only[ZAe,ZAF];rw[hF.pure1];erw[ZAA]
 ·right;refine⟨l++le,i,g,hA,?_⟩;rw[ha,ZAA];simp only[ZAP,ZAJ,ZAC];have hne:(d.1-1).toNat≠i:=fun hc=>by
   have:=hA.was n (by rw[<-hc];exact hn.1.2.1);rw[hn.1.2.2.1] at this;cases this
  have hln:l[(d.1-1).toNat]? =some n:=by
   have:=hA.old _ hne;rw[ZAN (by omega),hn.1.2.1] at this;exact this
  have hexl:ex.length<=1:=by rcases hex with⟨h1,_⟩|⟨n,h1,_⟩<;>rw[h1]<;>simp
  obtain⟨rows',ms',hput,hF'⟩:=pmZ (ex:=ex) t.2 s ((i:Int)+1) hF (by omega) hn.1.1 hln (h.srt hn.1) (by omega);rw[hput,ZAA];simp only;have hex':unrefL (unrefD [⟨1,ETy,ms'.map frz1⟩] TE) ex=some le:=by
   rcases hex with⟨rfl,rfl⟩|⟨m,rfl,rfl,hm⟩
   ·rfl
   ·obtain⟨m1,m2,m3,m4,m5,m6,m7,m8⟩:=m;simp only at hm;subst hm
    rfl
  have hu:unrefL (unrefD [⟨1,ETy,ms'.map frz1⟩] TE) (rows'++ex)=some (l.set (d.1-1).toNat (wE n (insE n.2.2.2.2.2.2.2 s ((i:Int)+1)))++le):=ebZ _ _ _ hF'.pure1 hex';rw[hu];erw[ZAA];unfold madeL;rw[List.set_append_left _ _ (by omega)]
end
end Go.Ab.D
namespace Go.Ab.D
open Go Go.Ab
theorem juZ:∀{l' l:List Ino},(∀(j:Nat) n',l'[j]? =some n'->n'.2.2.2.2.2.1=[]\/∃n,l[j]? =some n/\n'.2.2.2.2.2.1=n.2.2.2.2.2.1)->(allStripes l').Sublist (allStripes l)
 |[],l,_=>by simp[allStripes]
 |a::r,l,h=>by
  have ea:∀(x:Ino) (y:List Ino),allStripes (x::y)=stripes x.2.2.2.2.2.1++allStripes y:=fun x y=>by simp[allStripes]
  cases l with
  |nil=>
   have h0:=h 0 a rfl;rcases h0 with h0|⟨n,hn,_⟩
   ·have:=juZ (l':=r) (l:=[]) fun j n' hj=>h (j+1) n' (by simpa using hj);rw[ea,h0];simpa[stripes] using this
   ·simp at hn
  |cons b m=>
   have ih:=juZ (l':=r) (l:=m) fun j n' hj=>by simpa using h (j+1) n' (by simpa using hj)
   rw[ea,ea];refine List.Sublist.append ?_ ih;rcases h 0 a rfl with h0|⟨n,hn,he⟩
   ·rw[h0];simp[stripes]
   ·simp at hn;subst hn;rw[he];exact List.Sublist.refl _
theorem ftZ{a b:Int}(h:a<=b):∀{l:List Ent} {last:List UInt8},okEnts a last l->okEnts b last l
 |[],last,_=>trivial
 |e::r,last,hl=>by
  rw[byZ] at hl⊢;exact⟨hl.1,hl.2.1,hl.2.2.1,hl.2.2.2.1,by omega,ftZ h hl.2.2.2.2.2⟩
theorem okIno.wide{a b s s':Int}{i:Nat}{n:Ino}(h:okIno a s i n)(hab:a<=b)(hs:s<=s'):okIno b s' i n:=
 ⟨h.id,h.gen,fun q=>by have:=h.par q;omega,fun q1 q2=>by
  have:=h.dir q1 q2;exact⟨this.1,this.2.1,this.2.2.1,ftZ hab this.2.2.2⟩,fun q1 q2=>by
  have:=h.file q1 q2;exact⟨this.1,this.2.1,this.2.2.1,fun p hp=>by
   rcases this.2.2.2 p hp with h5|h5
   ·exact .inl h5
   ·exact .inr (by omega)⟩,h.bare⟩
theorem RightP.pt{t:Tree}{l':List Ino}{st:Int}(h:RightP t)(hl:t.1.length<=l'.length/\l'.length<=500)(hst:t.2<=st/\st<=1099511627776)
 (hi:∀(j:Nat) n',l'[j]? =some n'->t.1[j]? =some n'\/(okIno l'.length st j n'/\(n'.2.2.2.2.2.1=[]\/∃n,t.1[j]? =some n/\n'.2.2.2.2.2.1=n.2.2.2.2.2.1)/\(j=0->n'.2.2.1=true/\n'.2.2.2.1=true/\n'.2.2.2.2.2.2.1=1))):RightP (l',st):=by
 have hlen:=h.len;have hs:=h.str;refine⟨⟨by simp only;omega,hl.2⟩,⟨by simp only;omega,hst.2⟩,fun j n' hn=> ?_,h.nod.sublist (juZ fun j n' hn=> ?_),?_⟩
 ·rcases hi j n' hn with h1|h1
  ·exact(h.ino j n' h1).wide (by simp only;omega) hst.1
  ·exact h1.1
 ·rcases hi j n' hn with h1|h1
  ·exact .inr ⟨n',h1,rfl⟩
  ·exact h1.2.1
 ·have h0:0<l'.length:=by omega
  refine⟨l'[0],ZAE h0,?_⟩;rcases hi 0 _ (ZAE h0) with h1|h1
  ·obtain⟨r,hr,h2⟩:=h.root;rw[h1] at hr;cases hr;exact h2
  ·exact h1.2.2 rfl
def modL(l:List Ino)(i:Nat)(f:Ino->Ino):List Ino:=match l[i]? with|some n=>l.set i (f n)|none=>l
theorem bBZ{l:List Ino}{i:Nat}{n:Ino}(f:Ino->Ino)(h:l[i]? =some n):modL l i f=l.set i (f n):=by unfold modL;rw[h]
theorem aZZ(l:List Ino)(i:Nat)(f:Ino->Ino):(modL l i f).length=l.length:=by
 unfold modL;cases l[i]? with
 |none=>rfl
 |some n=>exact ZAw ..
theorem beZ(l:List Ino)(i:Nat)(f:Ino->Ino)(j:Nat):(modL l i f)[j]? =if j=i then(l[j]?).map f else l[j]? :=by
 unfold modL;cases h:l[i]? with
 |none=>
  by_cases hj:j=i
  ·subst hj;rw[ZAO rfl,h];rfl
  ·rw[ZAM hj]
 |some n=>
  have hi:=(ZAB.1 h).1;simp only;by_cases hj:j=i
  ·subst hj;rw[ZAO rfl,h,ZAX hi];rfl
  ·rw[ZAM hj,ZAT (by omega)]
def takeL(l:List Ino)(d:Int)(s:List UInt8):List Ino:=modL l (d-1).toNat fun n=>wE n (delE n.2.2.2.2.2.2.2 s)
def putL(l:List Ino)(d:Int)(s:List UInt8)(id:Int):List Ino:=modL l (d-1).toNat fun n=>wE n (insE n.2.2.2.2.2.2.2 s id)
def parL(l:List Ino)(id p:Int):List Ino:=modL l (id-1).toNat fun n=>wP n p
def dropL(l:List Ino)(id:Int):List Ino:=modL l (id-1).toNat fun n=>emptied n id
theorem iLZ{s:List UInt8}(h:namedB s=true):1<=s.length/\s.length<=30:=by
 unfold namedB at h;simp only[ZAD,ZAf] at h;exact⟨h.1.1.1.1,h.1.1.1.2⟩
theorem esZ{many st:Int}{i:Nat}{n:Ino}(h:okIno many st i n)(hu:n.2.2.1=true)(hd:n.2.2.2.1=true){l:List Ent}(hl:l.length<=100)(hs:Srt l)(he:∀e∈l,1<=e.1.length/\e.1.length<=30/\1<=e.2/\e.2<=many):okIno many st i (wE n l):=by
 have hdir:=h.dir hu hd;refine⟨h.id,h.gen,h.par,fun _ _=>⟨hdir.1,hdir.2.1,hl,etZ hs fun e h=>⟨i6Z (he e h).1,he e h⟩⟩,fun _ h2=> ?_,fun h1=> ?_⟩
 ·have h2:n.2.2.2.1=false:=h2;rw[hd] at h2;cases h2
 ·have h1:n.2.2.1=false:=h1;rw[hu] at h1;cases h1
section
variable {t : Tree} {d : Int × Int} {n : Ino} {s : List UInt8}
theorem TreeOK.root_used(h:TreeOK t){r:Ino}(hr:t.1[0]? =some r):r.2.2.1=true/\r.2.2.2.1=true/\r.2.2.2.2.2.2.1=1:=by
 obtain⟨r',hr',h2⟩:=h.r.root;rw[hr] at hr';cases hr';exact h2
theorem TreeOK.ents_ok(h:TreeOK t){i:Nat}(hn:t.1[i]? =some n):∀e∈n.2.2.2.2.2.2.2,1<=e.1.length/\e.1.length<=30/\1<=e.2/\e.2<=t.1.length:=fun e he=>by
 have h1:=cqZ (ceZ (h.r.ino i n hn)).2 e he;exact⟨h1.2.2.1,h1.2.2.2,h1.1,h1.2.1⟩
theorem evZ(hn:IsD t.1 d n):((d.1-1).toNat:Int)+1=d.1:=by have:=hn.1.1;omega
theorem rjZ(h:TreeOK t)(hn:IsD t.1 d n){is:Bool}{l':List Ino}{i:Nat}{g:Int}(hA:Alc t.1 is d.1 l' i g)(j:Nat):
 (putL l' d.1 s ((i:Int)+1))[j]? =if j=(d.1-1).toNat then some (wE n (insE n.2.2.2.2.2.2.2 s ((i:Int)+1))) else if j=i then some ((i:Int)+1,g,true,is,0,[],d.1,[]) else t.1[j]? :=by
 have hne:(d.1-1).toNat≠i:=fun hc=>by
  have:=hA.was n (by rw[<-hc];exact hn.1.2.1);rw[hn.1.2.2.1] at this;cases this
 unfold putL;rw[beZ];by_cases h1:j=(d.1-1).toNat
 ·rw[ZAO h1,ZAO h1,h1,hA.old _ hne,hn.1.2.1];rfl
 ·rw[ZAM h1,ZAM h1];by_cases h2:j=i
  ·rw[ZAO h2,h2,hA.new]
  ·rw[ZAM h2,hA.old _ h2]
theorem oMZ(h:TreeOK t)(hn:IsD t.1 d n)(hs:namedB s=true)(hh:hasN n.2.2.2.2.2.2.2 s=false)(hl:n.2.2.2.2.2.2.2.length<100){is:Bool}{l':List Ino}{i:Nat}{g:Int}(hA:Alc t.1 is d.1 l' i g):
 TreeOK (putL l' d.1 s ((i:Int)+1),t.2):=by
 have hlen:=h.r.len;have hdi:=evZ hn;have hq:=(ZAB.1 hn.1.2.1).1;have hat:=fun j=>rjZ (s:=s) h hn hA j;have hlen':(putL l' d.1 s ((i:Int)+1)).length=l'.length:=aZZ ..;have hll:t.1.length<=l'.length/\i<l'.length:=by
  have:=hA.len;have:=hA.le;split at* <;>omega
 have hi0:i≠0:=fun h0=>by
  obtain⟨r,hr,hu,_⟩:=h.r.root;have:=hA.was r (by rw[h0];exact hr);rw[hu] at this;cases this
 have hne:(d.1-1).toNat≠i:=fun hc=>by
  have:=hA.was n (by rw[<-hc];exact hn.1.2.1);rw[hn.1.2.2.1] at this;cases this
 have keep:∀j m,t.1[j]? =some m->m.2.2.1=true->∃m',(putL l' d.1 s ((i:Int)+1))[j]? =some m'/\m'.2.2.1=true/\m'.2.2.2.2.2.2.1=m.2.2.2.2.2.2.1/\∀s' id',(s',id')∈m'.2.2.2.2.2.2.2↔(j=(d.1-1).toNat/\s'=s/\id'=(i:Int)+1)\/(s',id')∈m.2.2.2.2.2.2.2:=by
  intro j m hm hu;have hji:j≠i:=fun hc=>by
   have:=hA.was m (by rw[<-hc];exact hm);rw[hu] at this;cases this
  rw[hat];by_cases h1:j=(d.1-1).toNat
  ·rw[ZAO h1];have:m=n:=by rw[h1,hn.1.2.1] at hm;injection hm with hm;exact hm.symm
   subst this;refine⟨_,rfl,hu,rfl,fun s' id'=> ?_⟩;show(s',id')∈insE _ _ _↔_;rw[dtZ];simp[h1]
  ·rw[ZAM h1,ZAM hji];exact⟨m,hm,hu,rfl,fun s' id'=>⟨fun h=>.inr h,fun h=>h.elim (fun h=>absurd h.1 h1) id⟩⟩
 have hnew:(putL l' d.1 s ((i:Int)+1))[i]? =some ((i:Int)+1,g,true,is,0,[],d.1,[]):=by
  rw[hat,ZAM (by omega),ZAO rfl]
 refine⟨?_,fun j m hm s' id' he=> ?_,fun j x hx hu hj=> ?_,fun j x hx hu=> ?_⟩
 ·refine h.r.pt ⟨by omega,by rw[hlen'];exact hA.few⟩ ⟨Int.le_refl _,h.r.str.2⟩ fun j n' hj=> ?_;rw[hat] at hj;by_cases h1:j=(d.1-1).toNat
  ·rw[ZAO h1] at hj;cases hj;subst h1;right;have ho:=h.r.ino _ n hn.1.2.1;refine⟨esZ (ho.wide (by omega) (Int.le_refl _)) hn.1.2.2.1 hn.2 (by rw[fcZ];omega) (eYZ _ (h.srt hn.1) hh) fun e he=> ?_,.inr ⟨n,hn.1.2.1,rfl⟩,fun h0=> ?_⟩
   ·rcases dtZ.1 he with rfl|he
    ·have:=iLZ hs;simp only;omega
    ·have:=h.ents_ok hn.1.2.1 e he;omega
   ·exact h.root_used (r:=n) (by rw[<-h0];exact hn.1.2.1)
  ·rw[ZAM h1] at hj;by_cases h2:j=i
   ·rw[ZAO h2] at hj;cases hj;subst h2;right;have hg:1<=g:=by
     have:=hA.gen;cases hx:t.1[j]? with
     |none=>have e:g=0+1:=by rw[hx] at this;exact this
            omega
     |some m=>have e:g=m.2.1+1:=by rw[hx] at this;exact this
              have:=(h.r.ino j m hx).gen;omega
    refine⟨⟨by simp,⟨hg,hA.top⟩,fun _=>(⟨hn.1.1,by omega⟩:1<=d.1/\d.1<=_),fun _ _=>⟨rfl,rfl,by simp,trivial⟩,fun _ _=>⟨by simp,rfl,by simp,fun p hp=>by cases hp⟩,fun h=>by cases h⟩,.inl rfl,fun h0=>absurd h0 hi0⟩
   ·rw[ZAM h2] at hj;exact .inl hj
 ·have hm':=hm;simp only at hm';rw[hat] at hm';have old:∀m0,t.1[j]? =some m0->(s',id')∈m0.2.2.2.2.2.2.2->namedB s'=true/\id'≠1/\∃x,(putL l' d.1 s ((i:Int)+1))[(id'-1).toNat]? =some x/\x.2.2.1=true/\x.2.2.2.2.2.2.1=(j:Int)+1:=fun m0 hm0 he0=>by
   obtain⟨h1,h2,x,h3,h4,h5⟩:=h.e j m0 hm0 s' id' he0;obtain⟨x',g1,g2,g3,_⟩:=keep _ x h3 h4;exact⟨h1,h2,x',g1,g2,by rw[g3,h5]⟩
  by_cases h1:j=(d.1-1).toNat
  ·rw[ZAO h1] at hm';cases hm';rcases dtZ.1 he with e1|he
   ·cases e1;exact⟨hs,by omega,_,by rw[show((i:Int)+1-1).toNat=i from by omega];exact hnew,rfl,by rw[h1,hdi]⟩
   ·exact old n (by rw[h1];exact hn.1.2.1) he
  ·rw[ZAM h1] at hm';by_cases h2:j=i
   ·rw[ZAO h2] at hm';cases hm';cases he
   ·rw[ZAM h2] at hm';exact old m hm' he
 ·simp only at hx⊢;by_cases h2:j=i
  ·subst h2;rw[hnew] at hx;cases hx;obtain⟨m',g1,g2,g3,g4⟩:=keep _ n hn.1.2.1 hn.1.2.2.1;refine⟨m',s,g1,(g4 _ _).2 (.inl ⟨rfl,rfl,rfl⟩),fun s' hs'=> ?_⟩;rcases(g4 _ _).1 hs' with h1|h1
   ·exact h1.2.1
   ·obtain⟨_,_,x,h3,h4,_⟩:=h.e _ n hn.1.2.1 s' _ h1;rw[show((j:Int)+1-1).toNat=j from by omega] at h3;have:=hA.was x h3;rw[h4] at this;cases this
  ·obtain⟨x0,hx0,hxu,hxp⟩:∃x0,t.1[j]? =some x0/\x0.2.2.1=true/\x0.2.2.2.2.2.2.1=x.2.2.2.2.2.2.1:=by
    rw[hat] at hx;by_cases h1:j=(d.1-1).toNat
    ·rw[ZAO h1] at hx;cases hx;exact⟨n,by rw[h1];exact hn.1.2.1,hn.1.2.2.1,rfl⟩
    ·rw[ZAM h1,ZAM h2] at hx;exact⟨x,hx,hu,rfl⟩
   obtain⟨m,s0,h3,h4,h5⟩:=h.u j x0 hx0 hxu hj;have hmu:=(h.r.isdir h3 h4).1;obtain⟨m',g1,g2,g3,g4⟩:=keep _ m h3 hmu;rw[hxp] at g1;refine⟨m',s0,g1,(g4 _ _).2 (.inr h4),fun s' hs'=> ?_⟩;rcases(g4 _ _).1 hs' with h1|h1
   ·omega
   ·exact h5 s' h1
 ·have go:∀id,Rch t.1 id->Rch (putL l' d.1 s ((i:Int)+1)) id:=fun id hr=>by
   induction hr with
   |root=>exact .root
   |step hg hu _ ih=>
    obtain⟨m',g1,g2,g3,_⟩:=keep _ _ hg hu;exact .step g1 g2 (by rw[g3];exact ih)
  simp only at hx⊢;by_cases h2:j=i
  ·subst h2;rw[hnew] at hx;cases hx;refine .step (by rw[show((j:Int)+1-1).toNat=j from by omega];exact hnew) rfl (go _ ?_);have:=h.a _ n hn.1.2.1 hn.1.2.2.1;rw[hdi] at this;exact this
  ·rw[hat] at hx;by_cases h1:j=(d.1-1).toNat
   ·rw[h1];exact go _ (h.a _ n hn.1.2.1 hn.1.2.2.1)
   ·rw[ZAM h1,ZAM h2] at hx;exact go _ (h.a j x hx hu)
end
end Go.Ab.D
namespace Go.Ab.D
open Go Go.Ab
theorem bzZ{α β:Type}{x:Option α}{a:α}{f:α->Option β}(h:x=some a):x.bind f=f a:=by rw[h];rfl
def keptP(l:List Part):List Part:=l.filter fun p=> !isGone p
theorem eUZ{l:List Ino}{id:Int}{x:Ino}(h1:1<=id)(hx:l[(id-1).toNat]? =some x)(b:Bool):isB l id b=(x.2.2.1&&x.2.2.2.1==b):=by
 unfold isB;rw[hx];simp[h1]
theorem m3Z{rows:List InoE}{ms:MsE}{ks:List Ino}{st id:Int}{x:Ino}(hF:FamE rows ms ks)(hr:RightP (ks,st))(h0:id≠1)(h1:1<=id)(hx:ks[(id-1).toNat]? =some x)(hu:x.2.2.1=true):
 iDrogo0R fuel st id rows ms=some (ks.set (id-1).toNat (emptied x id),(st,(keptP x.2.2.2.2.2.1,(0,(rows,ms.map frz1))))):=by
 have hfit:Fit ks:=hr.fit;have hlt:=(ZAB.1 hx).1;have hlen:ks.length<=500:=hr.len.2;obtain⟨rowsP,mp,hc,hP⟩:=llZ st hF hfit;have hpl:=hP.len;unfold iDrogo0R;rw[hc,ZAA];simp only;rw[h3Z];erw[bzZ (hF.pure10 (mp.map frz1))];rw[d2Z hr,ZAA];simp only[ZAJ,ZAC,ZAb.2 h0];erw[bzZ (hF.pure10 (mp.map frz1))];rw[m9Z (t:=(ks,st)) hfit,ZAA];simp only[eUZ h1 hx,hu,ZA9];obtain⟨row,hrow,⟨y,hry⟩,_⟩:=hP.row hx;obtain⟨mp',ho,hset⟩:=hP.open_none hrow hx;have hxl:x.2.2.2.2.2.1.length<=100000:=(hfit.at hx).1;have hd:(bif !(x.2.2.2.1==true) then
  (unrefL (unrefD [⟨1,ETy,ms.map frz1⟩,⟨0,PTy,mp.map frz1⟩] TE) rows).bind fun l2=>(inode_is fuel (l2,st) id false).bind fun r3=>some (st,((!r3),(rows,((0:Int),(st,(rowsP,(mp,ms.map frz1)))))))
  else some (st,(false,(rows,((0:Int),(st,(rowsP,(mp,ms.map frz1))))))))=some (st,(false,(rows,((0:Int),(st,(rowsP,(mp,ms.map frz1))))))):=by
  cases hd:x.2.2.2.1 with
  |true=>rfl
  |false=>
   simp only[show(false==true)=false from rfl,ZAe,ZAF];erw[bzZ (hF.pure10 (mp.map frz1))];rw[m9Z (t:=(ks,st)) hfit,eUZ h1 hx,hu,hd]
   rfl
 erw[hd];rw[ZAA];simp only[ZAC];rw[w64 (by omega),avZ (by omega) (by omega),ZAA,hrow,ZAA];erw[ho];rw[ZAA];have hfin:∀(v:List Part),unrefL (unrefD [⟨1,ETy,ms.map frz1⟩,⟨0,PTy,mp'.map frz1⟩] TP) (rowsP.set (id-1).toNat (id,(row.2.1,(false,(false,(0,(.inr none,(0,[]))))))))=some (ks.set (id-1).toNat (emptied x id)):=fun _=>by
  refine FamP.pure10 _ (hset (id,(row.2.1,(false,(false,(0,(.inr none,(0,[]))))))) (emptied x id) ⟨.inr none,?_⟩ rfl rfl);rw[hry];rfl
 rcases nrZ (l:=x.2.2.2.2.2.1) hxl with hdp|hdp
 ·rw[hdp];simp only[ZAA,hrow];rw[h3Z];erw[bzZ (hfin [])]
  rfl
 ·rw[hdp];simp only[ZAA,hrow];rw[h3Z];erw[bzZ (hfin [])]
  rfl
end Go.Ab.D
namespace Go.Ab.D
open Go Go.Ab
theorem lkZ{l:List Ino}{id:Int}(h:Rch l id):∀x,l[(id-1).toNat]? =some x->x.2.2.2.2.2.2.1=id->id=1:=by
 induction h with
 |root=>intro _ _ _;rfl
 | @step id y hg hu _ ih=>
   intro x hx hp;rw[hg] at hx;cases hx;rw[hp] at ih;exact ih y hg hp
section
variable {t : Tree} {d : Int × Int} {n x : Ino} {s : List UInt8} {id : Int}
theorem lvZ{many st:Int}{i:Nat}{x:Ino}(h:okIno many st i x)(id:Int)(hid:id=(i:Int)+1):okIno many st i (emptied x id):=
 ⟨hid,h.gen,(fun h=>by cases h),(fun h=>by cases h),(fun h=>by cases h),fun _=>⟨rfl,rfl,rfl,rfl,rfl⟩⟩
theorem oWZ(he:(s,id)∈n.2.2.2.2.2.2.2)(hn:IsD t.1 d n)(hx:t.1[(id-1).toNat]? =some x)(hxe:x.2.2.2.2.2.2.2=[]):(id-1).toNat≠(d.1-1).toNat:=fun hc=>by
 have:=hn.1.2.1;rw[<-hc,hx] at this;cases this;rw[hxe] at he;cases he
theorem qzZ(hk:(id-1).toNat≠(d.1-1).toNat)(hn:IsD t.1 d n)(hx:t.1[(id-1).toNat]? =some x)(j:Nat):
 (dropL (takeL t.1 d.1 s) id)[j]? =if j=(id-1).toNat then some (emptied x id) else if j=(d.1-1).toNat then some (wE n (delE n.2.2.2.2.2.2.2 s)) else t.1[j]? :=by
 unfold dropL takeL;rw[beZ,beZ];by_cases h1:j=(id-1).toNat
 ·rw[ZAO h1,ZAO h1,ZAM (by omega),h1,hx];rfl
 ·rw[ZAM h1,ZAM h1];by_cases h2:j=(d.1-1).toNat
  ·rw[ZAO h2,ZAO h2,h2,hn.1.2.1];rfl
  ·rw[ZAM h2,ZAM h2]
theorem gIZ(h:TreeOK t)(hn:IsD t.1 d n)(s:List UInt8):RightP (takeL t.1 d.1 s,t.2):=by
 have hlen:(takeL t.1 d.1 s).length=t.1.length:=aZZ ..;have hl:=h.r.len;refine h.r.pt ⟨by omega,by omega⟩ ⟨Int.le_refl _,h.r.str.2⟩ fun j n' hj=> ?_;unfold takeL at hj;rw[beZ] at hj;by_cases h1:j=(d.1-1).toNat
 ·rw[ZAO h1,h1,hn.1.2.1] at hj;cases hj;right;subst h1;have ho:=h.r.ino _ n hn.1.2.1;have hfew:=h.few hn.1;have hle:(delE n.2.2.2.2.2.2.2 s).length<=n.2.2.2.2.2.2.2.length:=ZBf _ _;refine⟨esZ (by rw[hlen];exact ho) hn.1.2.2.1 hn.2 (by omega) (dkZ s (h.srt hn.1)) fun e he=> ?_,.inr ⟨n,hn.1.2.1,rfl⟩,fun h0=>h.root_used (r:=n) (by rw[<-h0];exact hn.1.2.1)⟩;have:=h.ents_ok hn.1.2.1 e (b4Z.1 he).1;omega
 ·rw[ZAM h1] at hj;exact .inl hj
theorem klZ(h:TreeOK t)(hn:IsD t.1 d n)(he:(s,id)∈n.2.2.2.2.2.2.2)(hx:t.1[(id-1).toNat]? =some x)(hxe:x.2.2.2.2.2.2.2=[]):TreeOK (dropL (takeL t.1 d.1 s) id,t.2):=by
 have hk:=oWZ he hn hx hxe;have hat:=fun j=>qzZ (s:=s) hk hn hx j;have hdi:=evZ hn;obtain⟨hs,hid2,hidl,y,hy,hxu,hxp⟩:=h.ent hn he;rw[hx] at hy;cases hy;have hid:(((id-1).toNat:Nat):Int)+1=id:=by omega
 have hlen:(dropL (takeL t.1 d.1 s) id).length=t.1.length:=(aZZ ..).trans (aZZ ..);have hl:=h.r.len;have only:∀(j:Nat) m s',t.1[j]? =some m->(s',id)∈m.2.2.2.2.2.2.2->j=(d.1-1).toNat/\s'=s:=fun j m s' hm hs'=>by
  obtain⟨_,_,z,h3,_,h5⟩:=h.e j m hm s' id hs';rw[hx] at h3;cases h3;have hj:j=(d.1-1).toNat:=by omega
  subst hj;obtain⟨m2,s2,g1,g2,g3⟩:=h.u _ x hx hxu (by omega);rw[hxp,hn.1.2.1] at g1;cases g1;rw[hn.1.2.1] at hm;cases hm;rw[hid] at g3;exact⟨rfl,(g3 s' hs').trans (g3 s he).symm⟩
 have keep:∀j m,t.1[j]? =some m->j≠(id-1).toNat->∃m',(dropL (takeL t.1 d.1 s) id)[j]? =some m'/\m'.2.2.1=m.2.2.1/\m'.2.2.2.2.2.2.1=m.2.2.2.2.2.2.1/\∀s' id',(s',id')∈m'.2.2.2.2.2.2.2↔((s',id')∈m.2.2.2.2.2.2.2/\¬(j=(d.1-1).toNat/\s'=s)):=by
  intro j m hm hjk;rw[hat,ZAM hjk];by_cases h1:j=(d.1-1).toNat
  ·rw[ZAO h1];have:m=n:=by rw[h1,hn.1.2.1] at hm;injection hm with hm;exact hm.symm
   subst this;refine⟨_,rfl,rfl,rfl,fun s' id'=> ?_⟩;show(s',id')∈delE _ _↔_;rw[b4Z];simp[h1]
  ·rw[ZAM h1];exact⟨m,hm,rfl,rfl,fun s' id'=>⟨fun hh=>⟨hh,fun hc=>h1 hc.1⟩,fun hh=>hh.1⟩⟩
 have back:∀j m',(dropL (takeL t.1 d.1 s) id)[j]? =some m'->j≠(id-1).toNat->∃m,t.1[j]? =some m:=fun j m' hj hjk=>by
  have:=(ZAB.1 hj).1;exact⟨_,ZAE (by omega)⟩
 have hdead:(dropL (takeL t.1 d.1 s) id)[(id-1).toNat]? =some (emptied x id):=by rw[hat,ZAO rfl]
 refine⟨?_,fun j m hm s' id' he'=> ?_,fun j z hz hu hj=> ?_,fun j z hz hu=> ?_⟩
 ·refine h.r.pt ⟨by omega,by omega⟩ ⟨Int.le_refl _,h.r.str.2⟩ fun j n' hj=> ?_;rw[hlen];rw[hat] at hj;by_cases h1:j=(id-1).toNat
  ·rw[ZAO h1] at hj;cases hj;subst h1;exact .inr ⟨lvZ (h.r.ino _ x hx) id hid.symm,.inl rfl,fun h0=>by omega⟩
  ·rw[ZAM h1] at hj;by_cases h2:j=(d.1-1).toNat
   ·rw[ZAO h2] at hj;cases hj;right;subst h2;have ho:=h.r.ino _ n hn.1.2.1;have hfew:=h.few hn.1;have hle:(delE n.2.2.2.2.2.2.2 s).length<=n.2.2.2.2.2.2.2.length:=ZBf _ _;refine⟨esZ ho hn.1.2.2.1 hn.2 (by omega) (dkZ s (h.srt hn.1)) fun e he=> ?_,.inr ⟨n,hn.1.2.1,rfl⟩,fun h0=>h.root_used (r:=n) (by rw[<-h0];exact hn.1.2.1)⟩;exact h.ents_ok hn.1.2.1 e (b4Z.1 he).1
   ·rw[ZAM h2] at hj;exact .inl hj
 ·simp only at hm⊢;have hjk:j≠(id-1).toNat:=fun hc=>by
   rw[hc,hdead] at hm;cases hm;cases he'
  obtain⟨m0,hm0⟩:=back j m hm hjk;obtain⟨m',g1,g2,g3,g4⟩:=keep j m0 hm0 hjk;rw[g1] at hm;cases hm;obtain⟨q1,q2⟩:=(g4 _ _).1 he';obtain⟨h1,h2,w,h3,h4,h5⟩:=h.e j m0 hm0 s' id' q1;have hne:(id'-1).toNat≠(id-1).toNat:=fun hc=>by
   have:=h.r.entid hm0 q1;have:id'=id:=by omega
   subst this;exact q2 (only j m0 s' hm0 q1)
  obtain⟨w',e1,e2,e3,_⟩:=keep _ w h3 hne;exact⟨h1,h2,w',e1,by rw[e2,h4],by rw[e3,h5]⟩
 ·simp only at hz⊢;have hjk:j≠(id-1).toNat:=fun hc=>by
   rw[hc,hdead] at hz;cases hz;cases hu
  obtain⟨z0,hz0⟩:=back j z hz hjk;obtain⟨z',g1,g2,g3,g4⟩:=keep j z0 hz0 hjk;rw[g1] at hz;cases hz;obtain⟨m,s0,h3,h4,h5⟩:=h.u j z0 hz0 (by rw[<-g2];exact hu) hj;have hpk:(z0.2.2.2.2.2.2.1-1).toNat≠(id-1).toNat:=fun hc=>by
   rw[hc,hx] at h3;cases h3;rw[hxe] at h4;cases h4
  obtain⟨m',e1,e2,e3,e4⟩:=keep _ m h3 hpk;rw[<-g3] at e1;refine⟨m',s0,e1,(e4 _ _).2 ⟨h4,fun hc=> ?_⟩,fun s' hs'=>h5 s' ((e4 _ _).1 hs').1⟩;rw[hc.1,hn.1.2.1] at h3;cases h3;rw[hc.2] at h4;have:=dqZ (h.srt hn.1) h4 he;omega
 ·have go:∀i,Rch t.1 i->1<=i->i≠id->Rch (dropL (takeL t.1 d.1 s) id) i:=fun i hr=>by
   induction hr with
   |root=>intro _ _;exact .root
   | @step i w hg hu _ ih=>
     intro h1 h2;by_cases hi1:i=1
     ·rw[hi1];exact .root
     have hik:(i-1).toNat≠(id-1).toNat:=by omega
     obtain⟨m',g1,g2,g3,_⟩:=keep _ w hg hik;refine .step g1 (by rw[g2];exact hu) ?_;rw[g3];refine ih ((h.r.ino _ w hg).par hu).1 fun hp=> ?_;obtain⟨m,s0,h3,h4,_⟩:=h.u _ w hg hu (by omega);rw[hp,hx] at h3;cases h3;rw[hxe] at h4;cases h4
  simp only at hz⊢;have hjk:j≠(id-1).toNat:=fun hc=>by
   rw[hc,hdead] at hz;cases hz;cases hu
  obtain⟨z0,hz0⟩:=back j z hz hjk;obtain⟨z',g1,g2,g3,g4⟩:=keep j z0 hz0 hjk;rw[g1] at hz;cases hz;exact go _ (h.a j z0 hz0 (by rw[<-g2];exact hu)) (by omega) (by omega)
end
inductive Anc (l:List Ino) (top:Int):Int->Prop
 |refl:Anc l top top
 |step {id:Int} {x:Ino}:id≠1->l[(id-1).toNat]? =some x->x.2.2.1=true->Anc l top x.2.2.2.2.2.2.1->Anc l top id
section
variable {t : Tree} {a b : Int × Int} {na nb x : Ino} {old name : List UInt8} {id : Int}
def mvL(l:List Ino)(a:Int)(old:List UInt8)(b:Int)(name:List UInt8)(id:Int):List Ino:=parL (putL (takeL l a old) b name id) id b
structure MvOk (t:Tree) (a:Int×Int) (old:List UInt8) (b:Int×Int) (name:List UInt8) (id:Int) (na nb x:Ino):Prop where
 da:IsD t.1 a na
 db:IsD t.1 b nb
 ea:(old,id)∈na.2.2.2.2.2.2.2
 x:t.1[(id-1).toNat]? =some x
 nm:namedB name=true
 no:hasN nb.2.2.2.2.2.2.2 name=false
 few:a.1≠b.1->nb.2.2.2.2.2.2.2.length<100
 anc:¬Anc t.1 id b.1
theorem MvOk.ne(h:TreeOK t)(m:MvOk t a old b name id na nb x):(id-1).toNat≠(a.1-1).toNat/\(id-1).toNat≠(b.1-1).toNat/\2<=id/\id<=t.1.length/\x.2.2.1=true/\x.2.2.2.2.2.2.1=a.1:=by
 obtain⟨hs,hid2,hidl,y,hy,hxu,hxp⟩:=h.ent m.da m.ea;rw[m.x] at hy;cases hy;have ha:=m.da.1.1;have hb:=m.db.1.1;refine⟨fun hc=> ?_,fun hc=> ?_,hid2,hidl,hxu,hxp⟩
 ·have hr:=h.a _ x m.x hxu;rw[show(((id-1).toNat:Nat):Int)+1=id from by omega] at hr;have:=lkZ hr x m.x (by omega);omega
 ·have:id=b.1:=by omega
  exact m.anc (by rw[this];exact .refl)
theorem gpZ(h:TreeOK t)(m:MvOk t a old b name id na nb x){j:Nat}{y:Ino}(hy:t.1[j]? =some y):
 ∃y',(mvL t.1 a.1 old b.1 name id)[j]? =some y'/\(y'.1=y.1/\y'.2.1=y.2.1/\y'.2.2.1=y.2.2.1/\y'.2.2.2.1=y.2.2.2.1/\y'.2.2.2.2.1=y.2.2.2.2.1/\y'.2.2.2.2.2.1=y.2.2.2.2.2.1)/\
  y'.2.2.2.2.2.2.1=(if j=(id-1).toNat then b.1 else y.2.2.2.2.2.2.1)/\Srt y'.2.2.2.2.2.2.2/\y'.2.2.2.2.2.2.2.length<=100/\(j≠(a.1-1).toNat->j≠(b.1-1).toNat->y'.2.2.2.2.2.2.2=y.2.2.2.2.2.2.2)/\
  ∀s' id',(s',id')∈y'.2.2.2.2.2.2.2↔(j=(b.1-1).toNat/\s'=name/\id'=id)\/((s',id')∈y.2.2.2.2.2.2.2/\¬(j=(a.1-1).toNat/\s'=old)):=by
 obtain⟨k1,k2,hid2,hidl,hxu,hxp⟩:=m.ne h;have ha:=m.da.1.1;have hb:=m.db.1.1;have hfa:=h.few m.da.1;have hfb:=h.few m.db.1;have hlea:(delE na.2.2.2.2.2.2.2 old).length+1=na.2.2.2.2.2.2.2.length:=kiZ (h.srt m.da.1) m.ea;unfold mvL parL putL takeL;rw[beZ,beZ,beZ];have fewy:y.2.2.2.2.2.2.2.length<=100:=(ceZ (h.r.ino _ _ hy)).1;by_cases hk:j=(id-1).toNat
 ·rw[ZAO hk,ZAM (by omega),ZAM (by omega),hy];rw[hk,m.x] at hy;cases hy;refine⟨_,rfl,⟨rfl,rfl,rfl,rfl,rfl,rfl⟩,by rw[ZAO hk];rfl,(h.r.srt (n:=x) m.x),fewy,fun _ _=>rfl,fun s' id'=> ?_⟩;constructor
  ·intro h';exact .inr ⟨h',fun hc=>k1 (by omega)⟩
  ·rintro(h'|h')
   ·exact absurd h'.1 (by omega)
   ·exact h'.1
 ·rw[ZAM hk];by_cases hjb:j=(b.1-1).toNat
  ·have hyb:y=nb:=by rw[hjb,m.db.1.2.1] at hy;injection hy with hy;exact hy.symm
   subst hyb;rw[ZAO hjb];by_cases hja:j=(a.1-1).toNat
   ·have hya:y=na:=by rw[hja,m.da.1.2.1] at hy;injection hy with hy;exact hy.symm
    subst hya;rw[ZAO hja,hy];have hno:hasN (delE y.2.2.2.2.2.2.2 old) name=false:=by
     cases hh:hasN (delE y.2.2.2.2.2.2.2 old) name with
     |false=>rfl
     |true=>
      obtain⟨i,hi⟩:=a7Z.1 hh;rw[<-m.no];exact(a7Z.2 ⟨i,(b4Z.1 hi).1⟩).symm
    refine⟨_,rfl,⟨rfl,rfl,rfl,rfl,rfl,rfl⟩,by rw[ZAM hk];rfl,eYZ _ (dkZ old (h.srt m.da.1)) hno,?_,fun hc _=>absurd hja hc,fun s' id'=> ?_⟩
    ·show(insE (delE _ _) _ _).length<=100;rw[fcZ];omega
    ·show(s',id')∈insE (delE _ _) _ _↔_;rw[dtZ,b4Z];constructor
     ·rintro(h'|h')
      ·cases h';exact .inl ⟨hjb,rfl,rfl⟩
      ·exact .inr ⟨h'.1,fun hc=>h'.2 hc.2⟩
     ·rintro(h'|h')
      ·rw[h'.2.1,h'.2.2];exact .inl rfl
      ·exact .inr ⟨h'.1,fun hc=>h'.2 ⟨hja,hc⟩⟩
   ·rw[ZAM hja,hy];refine⟨_,rfl,⟨rfl,rfl,rfl,rfl,rfl,rfl⟩,by rw[ZAM hk];rfl,eYZ _ (h.srt m.db.1) m.no,?_,fun _ hc=>absurd hjb hc,fun s' id'=> ?_⟩
    ·show(insE _ _ _).length<=100;rw[fcZ];have:=m.few (by omega);omega
    ·show(s',id')∈insE _ _ _↔_;rw[dtZ];constructor
     ·rintro(h'|h')
      ·cases h';exact .inl ⟨hjb,rfl,rfl⟩
      ·exact .inr ⟨h',fun hc=>hja hc.1⟩
     ·rintro(h'|h')
      ·rw[h'.2.1,h'.2.2];exact .inl rfl
      ·exact .inr h'.1
  ·rw[ZAM hjb];by_cases hja:j=(a.1-1).toNat
   ·have hya:y=na:=by rw[hja,m.da.1.2.1] at hy;injection hy with hy;exact hy.symm
    subst hya;rw[ZAO hja,hy];refine⟨_,rfl,⟨rfl,rfl,rfl,rfl,rfl,rfl⟩,by rw[ZAM hk];rfl,dkZ old (h.srt m.da.1),?_,fun hc _=>absurd hja hc,fun s' id'=> ?_⟩
    ·show(delE _ _).length<=100;omega
    ·show(s',id')∈delE _ _↔_;rw[b4Z];constructor
     ·intro h';exact .inr ⟨h'.1,fun hc=>h'.2 hc.2⟩
     ·rintro(h'|h')
      ·exact absurd h'.1 hjb
      ·exact⟨h'.1,fun hc=>h'.2 ⟨hja,hc⟩⟩
   ·rw[ZAM hja,hy];refine⟨_,rfl,⟨rfl,rfl,rfl,rfl,rfl,rfl⟩,by rw[ZAM hk],h.r.srt hy,fewy,fun _ _=>rfl,fun s' id'=> ?_⟩;constructor
    ·intro h';exact .inr ⟨h',fun hc=>hja hc.1⟩
    ·rintro(h'|h')
     ·exact absurd h'.1 hjb
     ·exact h'.1
theorem qCZ(l:List Ino)(a:Int)(old:List UInt8)(b:Int)(name:List UInt8)(id:Int):(mvL l a old b name id).length=l.length:=(aZZ ..).trans ((aZZ ..).trans (aZZ ..))
theorem kSZ(h:TreeOK t)(m:MvOk t a old b name id na nb x):TreeOK (mvL t.1 a.1 old b.1 name id,t.2):=by
 obtain⟨k1,k2,hid2,hidl,hxu,hxp⟩:=m.ne h;have ha:=m.da.1.1;have hb:=m.db.1.1;have hlen:=qCZ t.1 a.1 old b.1 name id;have hl:=h.r.len;have hid:(((id-1).toNat:Nat):Int)+1=id:=by omega
 have hdb:=evZ m.db;have hda:=evZ m.da;have back:∀j m',(mvL t.1 a.1 old b.1 name id)[j]? =some m'->∃y,t.1[j]? =some y:=fun j m' hj=>by
  have:=(ZAB.1 hj).1;exact⟨_,ZAE (by omega)⟩
 have only:∀(j:Nat) y s',t.1[j]? =some y->(s',id)∈y.2.2.2.2.2.2.2->j=(a.1-1).toNat/\s'=old:=fun j y s' hy hs'=>by
  obtain⟨_,_,z,h3,_,h5⟩:=h.e j y hy s' id hs';rw[m.x] at h3;cases h3;have hj:j=(a.1-1).toNat:=by omega
  subst hj;obtain⟨m2,s2,g1,g2,g3⟩:=h.u _ x m.x hxu (by omega);rw[hxp,m.da.1.2.1] at g1;cases g1;rw[m.da.1.2.1] at hy;cases hy;rw[hid] at g3;exact⟨rfl,(g3 s' hs').trans (g3 old m.ea).symm⟩
 refine⟨?_,fun j y' hy' s' id' he'=> ?_,fun j z hz hu hj=> ?_,fun j z hz hu=> ?_⟩
 ·refine h.r.pt ⟨by omega,by omega⟩ ⟨Int.le_refl _,h.r.str.2⟩ fun j y' hj=> ?_;rw[hlen];obtain⟨y,hy⟩:=back j y' hj;obtain⟨y2,g1,⟨q1,q2,q3,q4,q5,q6⟩,g3,g4,g5,g6,g7⟩:=gpZ h m hy;rw[g1] at hj;cases hj;right;have ho:=h.r.ino j y hy;have hpar:y'.2.2.1=true->1<=y'.2.2.2.2.2.2.1/\y'.2.2.2.2.2.2.1<=(t.1.length:Int):=fun hu=>by
   rw[g3];have hbl:=(ZAB.1 m.db.1.2.1).1;split
   ·omega
   ·exact ho.par (by rw[<-q3];exact hu)
  have ekeep:y.2.2.1=false\/y.2.2.2.1=false->y'.2.2.2.2.2.2.2=y.2.2.2.2.2.2.2:=fun hc=>g6 (fun hja=>by
   rw[hja,m.da.1.2.1] at hy;cases hy;rcases hc with hc|hc
   ·rw[m.da.1.2.2.1] at hc;cases hc
   ·rw[m.da.2] at hc;cases hc) (fun hjb=>by
   rw[hjb,m.db.1.2.1] at hy;cases hy;rcases hc with hc|hc
   ·rw[m.db.1.2.2.1] at hc;cases hc
   ·rw[m.db.2] at hc;cases hc)
  refine⟨⟨by rw[q1];exact ho.id,by rw[q2];exact ho.gen,hpar,fun hu hd=> ?_,fun hu hd=> ?_,fun hu=> ?_⟩,.inr ⟨y,hy,q6⟩,fun h0=> ?_⟩
  ·have:=ho.dir (by rw[<-q3];exact hu) (by rw[<-q4];exact hd);refine⟨by rw[q5];exact this.1,by rw[q6];exact this.2.1,g5,etZ g4 fun e he=> ?_⟩;have hen:1<=e.1.length/\e.1.length<=30/\1<=e.2/\e.2<=(t.1.length:Int):=by
    rcases(g7 e.1 e.2).1 he with h'|h'
    ·have:=iLZ m.nm;rw[h'.2.1,h'.2.2];omega
    ·exact h.ents_ok hy e h'.1
   exact⟨i6Z hen.1,hen⟩
  ·have:=ho.file (by rw[<-q3];exact hu) (by rw[<-q4];exact hd);rw[q5,q6,ekeep (.inr (by rw[<-q4];exact hd))];exact this
  ·have:=ho.bare (by rw[<-q3];exact hu);rw[q4,q5,q6,ekeep (.inl (by rw[<-q3];exact hu)),g3,ZAM]
   ·exact this
   ·intro hc;rw[hc,m.x] at hy;cases hy;rw[q3,hxu] at hu;cases hu
  ·rw[q3,q4,g3,ZAM (by omega)];rw[h0] at hy;exact h.root_used hy
 ·simp only at hy'⊢;obtain⟨y,hy⟩:=back j y' hy';obtain⟨y2,g1,⟨q1,q2,q3,q4,q5,q6⟩,g3,g4,g5,g6,g7⟩:=gpZ h m hy;rw[g1] at hy';cases hy';rcases(g7 s' id').1 he' with h'|h'
  ·obtain⟨x',e1,⟨_,_,e2,_⟩,e3,_⟩:=gpZ h m m.x;rw[h'.2.1,h'.2.2];exact⟨m.nm,by omega,x',e1,by rw[e2];exact hxu,by rw[e3,ZAO rfl];omega⟩
  ·obtain⟨h1,h2,w,h3,h4,h5⟩:=h.e j y hy s' id' h'.1;obtain⟨w',e1,⟨_,_,e2,_⟩,e3,_⟩:=gpZ h m h3;refine⟨h1,h2,w',e1,by rw[e2];exact h4,?_⟩;rw[e3,ZAM,h5];intro hc;have:=h.r.entid hy h'.1;have:id'=id:=by omega
   subst this;exact h'.2 (only j y s' hy h'.1)
 ·simp only at hz⊢;obtain⟨z0,hz0⟩:=back j z hz;obtain⟨z2,g1,⟨q1,q2,q3,q4,q5,q6⟩,g3,g4,g5,g6,g7⟩:=gpZ h m hz0;rw[g1] at hz;cases hz;rw[g3];by_cases hjk:j=(id-1).toNat
  ·rw[ZAO hjk];obtain⟨b',e1,_,_,_,_,_,e7⟩:=gpZ h m m.db.1.2.1;refine⟨b',name,e1,(e7 _ _).2 (.inl ⟨rfl,rfl,by omega⟩),fun s' hs'=> ?_⟩;rcases(e7 _ _).1 hs' with h'|h'
   ·exact h'.2.1
   ·have h'':=h'.1;rw[show(j:Int)+1=id from by omega] at h'';exact absurd (only _ nb s' m.db.1.2.1 h'') h'.2
  ·rw[ZAM hjk];obtain⟨p,s0,h3,h4,h5⟩:=h.u j z0 hz0 (by rw[<-q3];exact hu) hj;obtain⟨p',e1,_,_,_,_,_,e7⟩:=gpZ h m h3;refine⟨p',s0,e1,(e7 _ _).2 (.inr ⟨h4,fun hc=> ?_⟩),fun s' hs'=> ?_⟩
   ·rw[hc.1,m.da.1.2.1] at h3;cases h3;rw[hc.2] at h4;have:=dqZ (h.srt m.da.1) h4 m.ea;omega
   ·rcases(e7 _ _).1 hs' with h'|h'
    ·omega
    ·exact h5 s' h'.1
 ·have up:∀i,Rch t.1 i->1<=i->¬Anc t.1 id i->Rch (mvL t.1 a.1 old b.1 name id) i:=fun i hr=>by
   induction hr with
   |root=>intro _ _;exact .root
   | @step i w hg hu _ ih=>
     intro h1 h2;by_cases hi1:i=1
     ·rw[hi1];exact .root
     have hne:i≠id:=fun hc=>h2 (by rw[hc];exact .refl);obtain⟨w',e1,⟨_,_,e2,_⟩,e3,_⟩:=gpZ h m hg;refine .step e1 (by rw[e2];exact hu) ?_;rw[e3,ZAM (by omega)];exact ih ((h.r.ino _ w hg).par hu).1 fun hc=>h2 (.step hi1 hg hu hc)
  have rb:Rch (mvL t.1 a.1 old b.1 name id) b.1:=up _ (by have:=h.a _ nb m.db.1.2.1 m.db.1.2.2.1;rw[hdb] at this;exact this) hb m.anc;have go:∀i,Rch t.1 i->1<=i->Rch (mvL t.1 a.1 old b.1 name id) i:=fun i hr=>by
   induction hr with
   |root=>intro _;exact .root
   | @step i w hg hu _ ih=>
     intro h1;obtain⟨w',e1,⟨_,_,e2,_⟩,e3,_⟩:=gpZ h m hg;refine .step e1 (by rw[e2];exact hu) ?_;rw[e3];split
     ·exact rb
     ·exact ih ((h.r.ino _ w hg).par hu).1
  simp only at hz⊢;obtain⟨z0,hz0⟩:=back j z hz;obtain⟨z2,g1,⟨q1,q2,q3,q4,q5,q6⟩,_⟩:=gpZ h m hz0;rw[g1] at hz;cases hz;exact go _ (h.a j z0 hz0 (by rw[<-q3];exact hu)) (by omega)
end
end Go.Ab.D
namespace Go.Ab.D
open Go Go.Ab
theorem kTZ{rows:List InoE}{ms:MsE}{ks:List Ino}{st id:Int}{x:Ino}(hF:FamE rows ms ks)(hr:RightP (ks,st))(h0:id≠1)(h1:1<=id)(hx:ks[(id-1).toNat]? =some x)(hu:x.2.2.1=true):
 ∃rows2 mp me,iDro2go0R fuel st id rows ms=some (st,(keptP x.2.2.2.2.2.1,(0,(rows,(rows2,(mp,(ms.map frz1,me)))))))/\Fam2p rows2 mp (ks.set (id-1).toNat (emptied x id))/\Fam2e rows2 me (ks.set (id-1).toNat (emptied x id)):=by
 have hfit:Fit ks:=hr.fit;have hlt:=(ZAB.1 hx).1;have hlen:ks.length<=500:=hr.len.2;obtain⟨rows2,mp,me,hc,hP,hE⟩:=lXZ st hF hfit;have hpl:=hP.len;obtain⟨row,hrow,⟨y,z,hry⟩,_⟩:=hP.row hx;obtain⟨mp',ho,hset⟩:=hP.open_none hrow hx;refine⟨rows2.set (id-1).toNat (id,(row.2.1,(false,(false,(0,(.inr none,(0,.inr none))))))),mp',me,?_,?_,?_⟩
 rotate_left
 ·refine hset (id,(row.2.1,(false,(false,(0,(.inr none,(0,.inr none))))))) (emptied x id) ⟨.inr none,.inr none,?_⟩ rfl rfl;rw[hry];rfl
 ·refine hE.clear (i:=(id-1).toNat) (row':=(id,(row.2.1,(false,(false,(0,(.inr none,(0,.inr none)))))))) (k':=emptied x id) ⟨.inr none,.inr none,?_⟩ rfl rfl;rw[hry];rfl
 unfold iDro2go0R;rw[hc,ZAA];simp only;rw[h3Z];erw[bzZ (hF.pure210 (me.map frz1) (mp.map frz1))];rw[d2Z hr,ZAA];simp only[ZAJ,ZAC,ZAb.2 h0];erw[bzZ (hF.pure210 (me.map frz1) (mp.map frz1))];rw[m9Z (t:=(ks,st)) hfit,ZAA];simp only[eUZ h1 hx,hu,ZA9];have hxl:x.2.2.2.2.2.1.length<=100000:=(hfit.at hx).1;have hd:(bif !(x.2.2.2.1==true) then
  (unrefL (unrefD [⟨2,ETy,me.map frz1⟩,⟨1,ETy,ms.map frz1⟩,⟨0,PTy,mp.map frz1⟩] TE) rows).bind fun l2=>(inode_is fuel (l2,st) id false).bind fun r3=>some (st,((!r3),(rows,((0:Int),(st,(rows2,(mp,(ms.map frz1,me))))))))
  else some (st,(false,(rows,((0:Int),(st,(rows2,(mp,(ms.map frz1,me)))))))))=some (st,(false,(rows,((0:Int),(st,(rows2,(mp,(ms.map frz1,me)))))))):=by
  cases hd:x.2.2.2.1 with
  |true=>rfl
  |false=>
   simp only[show(false==true)=false from rfl,ZAe,ZAF];erw[bzZ (hF.pure210 (me.map frz1) (mp.map frz1))];rw[m9Z (t:=(ks,st)) hfit,eUZ h1 hx,hu,hd]
   rfl
 erw[hd];rw[ZAA];simp only[ZAC];rw[w64 (by omega),avZ (by omega) (by omega),ZAA,hrow,ZAA];erw[ho];rw[ZAA];rcases nrZ (l:=x.2.2.2.2.2.1) hxl with hdp|hdp
 ·rw[hdp];simp only[ZAA,hrow]
  rfl
 ·rw[hdp];simp only[ZAA,hrow]
  rfl
def misE(dir:Bool)(n:Ino):Int:=if dir=true/\n.2.2.2.1=false then 173 else if dir=false/\n.2.2.2.1=true then 174 else if n.2.2.2.2.2.2.2=[] then 0 else 175
theorem d5Z(dir:Bool)(n:Ino):tmis fuel dir n=some (misE dir n):=by
 unfold tmis misE;have hl:∀l:List Ent,(bif decide (0<l.length) then some (175:Int) else some 0)=some (if l=[] then 0 else 175):=fun l=>by
  cases l with
  |nil=>rfl
  |cons a l=>simp
 cases dir<;>cases hd:n.2.2.2.1<;>simp[hd]<;>exact hl _
section
variable {t : Tree} {d : Int × Int} {n x : Ino} {s : List UInt8} {id : Int}
theorem dcZ(hn:IsD t.1 d n)(s:List UInt8):takeL t.1 d.1 s=t.1.set (d.1-1).toNat (wE n (delE n.2.2.2.2.2.2.2 s)):=bBZ _ hn.1.2.1
theorem l4Z(h:TreeOK t)(hn:IsD t.1 d n)(he:(s,id)∈n.2.2.2.2.2.2.2)(hx:t.1[(id-1).toNat]? =some x)(hxe:x.2.2.2.2.2.2.2=[]):
 twit fuel t d.1 s id=some (dropL (takeL t.1 d.1 s) id,(t.2,(keptP x.2.2.2.2.2.1,0))):=by
 obtain⟨hs,hid2,hidl,y,hy,hxu,hxp⟩:=h.ent hn he;rw[hx] at hy;cases hy;have hk:=oWZ he hn hx hxe;have hl:=h.r.len;obtain⟨rows,ms,hc,hF⟩:=bwZ h.r.fit;obtain⟨rows',ms',ht,hF'⟩:=d0Z t.2 s hF (by omega) hn.1.1 hn.1.2.1 (by have:=h.few hn.1;omega);have hr:=gIZ h hn s;rw[dcZ hn] at hr⊢;have hx':(t.1.set (d.1-1).toNat (wE n (delE n.2.2.2.2.2.2.2 s)))[(id-1).toNat]? =some x:=by rw[ZAT (by omega)];exact hx
 unfold twit;rw[show((t.1,t.2):Tree)=t from rfl,hc,ZAA];simp only;rw[ht,ZAA];simp only;rw[m3Z hF' hr (by omega) (by omega) hx' hxu,ZAA];unfold dropL;rw[bBZ _ hx']
theorem jBZ(h:TreeOK t)(hn:IsD t.1 d n)(he:(s,id)∈n.2.2.2.2.2.2.2)(hx:t.1[(id-1).toNat]? =some x)(hxe:x.2.2.2.2.2.2.2=[]):
 ∃rows2 mp me,twit2 fuel t d.1 s id=some (t.2,(keptP x.2.2.2.2.2.1,(0,(rows2,(mp,me)))))/\Fam2p rows2 mp (dropL (takeL t.1 d.1 s) id)/\Fam2e rows2 me (dropL (takeL t.1 d.1 s) id):=by
 obtain⟨hs,hid2,hidl,y,hy,hxu,hxp⟩:=h.ent hn he;rw[hx] at hy;cases hy;have hk:=oWZ he hn hx hxe;have hl:=h.r.len;obtain⟨rows,ms,hc,hF⟩:=bwZ h.r.fit;obtain⟨rows',ms',ht,hF'⟩:=d0Z t.2 s hF (by omega) hn.1.1 hn.1.2.1 (by have:=h.few hn.1;omega);have hr:=gIZ h hn s;rw[dcZ hn] at hr⊢;have hx':(t.1.set (d.1-1).toNat (wE n (delE n.2.2.2.2.2.2.2 s)))[(id-1).toNat]? =some x:=by rw[ZAT (by omega)];exact hx
 obtain⟨rows2,mp,me,hd,hP,hE⟩:=kTZ hF' hr (by omega) (by omega) hx' hxu;unfold dropL;rw[bBZ _ hx'];refine⟨rows2,mp,me,?_,hP,hE⟩;unfold twit2;rw[show((t.1,t.2):Tree)=t from rfl,hc,ZAA];simp only;rw[ht,ZAA];simp only;rw[hd,ZAA]
theorem lyZ(h:TreeOK t)(s:List UInt8)(is:Bool)(hb:dirE t.1 d≠0):tRem fuel t d s is=some (t.1,(t.2,([],dirE t.1 d))):=by
 unfold tRem;rw[show((t.1,t.2):Tree)=t from rfl,show((d.1,d.2):Int×Int)=d from rfl,cYZ h hb,ZAA];simp only[ZAb.2 hb,ZAe,ZAF];rw[aAZ h.r.fit,ZAA]
theorem j7Z(h:TreeOK t)(is:Bool)(hn:IsD t.1 d n)(hs:namedB s=false):tRem fuel t d s is=some (t.1,(t.2,([],176))):=by
 unfold tRem;rw[show((t.1,t.2):Tree)=t from rfl,show((d.1,d.2):Int×Int)=d from rfl,aDZ h hn,ZAA];simp only[ZAP,ZAJ,ZAC];rw[axZ,ZAA,hs];simp only[ZAe,ZAF];rw[aAZ h.r.fit,ZAA]
theorem jnZ(h:TreeOK t)(is:Bool)(hn:IsD t.1 d n)(hs:namedB s=true)(hh:hasN n.2.2.2.2.2.2.2 s=false):tRem fuel t d s is=some (t.1,(t.2,([],171))):=by
 unfold tRem;rw[show((t.1,t.2):Tree)=t from rfl,show((d.1,d.2):Int×Int)=d from rfl,aDZ h hn,ZAA];simp only[ZAP,ZAJ,ZAC];rw[axZ,ZAA,hs];simp only[ZAJ,ZAC];rw[show idx? 0 [n].length=some 0 from rfl,ZAA,show[n][0]? =some n from rfl,ZAA,h.ent_ok hn,ZAA,hh];simp only[ZAe,ZAF];rw[aAZ h.r.fit,ZAA]
theorem jNZ(h:TreeOK t)(is:Bool)(hn:IsD t.1 d n)(he:(s,id)∈n.2.2.2.2.2.2.2)(hx:t.1[(id-1).toNat]? =some x):
 tRem fuel t d s is=if misE is x=0 then some (dropL (takeL t.1 d.1 s) id,(t.2,(keptP x.2.2.2.2.2.1,0))) else some (t.1,(t.2,([],misE is x))):=by
 obtain⟨h1,h2,h3,y,h4,h5,h6⟩:=h.ent hn he;have hlen:=h.r.len;have hp:=cJZ (h.srt hn.1) he;have hpl:=(ZAB.1 hp).1;unfold tRem;rw[show((t.1,t.2):Tree)=t from rfl,show((d.1,d.2):Int×Int)=d from rfl,aDZ h hn,ZAA];simp only[ZAP,ZAJ,ZAC];rw[axZ,ZAA,h1];simp only[ZAJ,ZAC];rw[show idx? 0 [n].length=some 0 from rfl,ZAA,show[n][0]? =some n from rfl,ZAA,h.ent_ok hn,ZAA,a7Z.2 ⟨id,he⟩];simp only[ZAJ,ZAC,ZAA];rw[show[n][0]? =some n from rfl,ZAA,ajZ hpl,ZAA,hp,ZAA,w64 (by omega),avZ (by omega) (by omega),ZAA,hx,ZAA,d5Z,ZAA];by_cases hm:misE is x=0
 ·rw[ZAO hm,show(misE is x==0)=true from by simp[hm]];simp only[ZAJ,ZAC];have hxe:x.2.2.2.2.2.2.2=[]:=by
   unfold misE at hm;split at hm
   ·cases hm
   ·split at hm
    ·cases hm
    ·split at hm
     ·assumption
     ·cases hm
  rw[l4Z h hn he hx hxe,ZAA]
 ·rw[ZAM hm,ZAb.2 hm];simp only[ZAe,ZAF];rw[aAZ h.r.fit,ZAA]
theorem doZ(h:TreeOK t){b:Int×Int}{m:Ino}(hb:IsD t.1 b m)(top:Int):∃r,tbel fuel t b.1 top=some r/\(r=true↔Anc t.1 top b.1):=by
 have hlen:=h.r.len;have hlt:=(ZAB.1 hb.1.2.1).1;have hdb:=evZ hb;have hb1:=hb.1.1;have hr0:reachN t.1 t.1.length b.1=true:=eyZ hlen.1 (fun j x hx hxu=>(h.r.ino j x hx).par hxu) hb1 (by omega) (by have:=h.a _ m hb.1.2.1 hb.1.2.2.1;rw[hdb] at this;exact this);have loop:∃o,tbel_l0_it fuel top (b.1,(t.1,t.2))=some o/\(o=top↔Anc t.1 top b.1):=by
  unfold tbel_l0_it;have stop:∀i:Int,i=top\/i=1->(i=top↔Anc t.1 top i):=fun i hi=>by
   constructor
   ·rintro rfl;exact .refl
   ·intro ha;cases ha with
    |refl=>rfl
    |step h1 _ _ _=>
     rcases hi with hi|hi
     ·exact hi
     ·exact absurd hi h1
  refine aKZ (fun k s=>∃i:Int,s=(i,(t.1,t.2))/\1<=i/\i<=t.1.length/\reachN t.1 k i=true/\(Anc t.1 top b.1↔Anc t.1 top i)) _ (fun k s hI=> ?_) (fun s hI=> ?_) t.1.length _ (by omega) ⟨b.1,rfl,hb1,by omega,hr0,Iff.rfl⟩
  ·obtain⟨i,rfl,h1,h2,h3,h4⟩:=hI;unfold tbel_l0;by_cases e1:i=top
   ·right;simp only[e1,ZAP,ZAJ,ZAC,ZAA];exact⟨_,rfl,by rw[h4,e1];exact stop top (.inl rfl)⟩
   ·simp only[ZAb.2 e1,ZAe,ZAF,ZAA];by_cases e2:i=1
    ·right;simp only[e2,ZAP,ZAJ,ZAC];exact⟨_,rfl,by rw[h4,e2];exact stop 1 (.inr rfl)⟩
    ·left;simp only[ZAb.2 e2,ZAe,ZAF];have hlt2:(i-1).toNat<t.1.length:=by omega
     obtain⟨y,hy⟩:∃y,t.1[(i-1).toNat]? =some y:=⟨_,ZAE hlt2⟩;rw[w64 (by omega),avZ (by omega) (by omega),ZAA,hy,ZAA];unfold reachN at h3;rw[ZAb.2 e2] at h3;simp only[ZAC] at h3;rw[hy] at h3;simp only[ZAD] at h3;have hp:=(h.r.ino _ y hy).par h3.1;refine⟨_,rfl,_,rfl,hp.1,hp.2,h3.2,h4.trans ⟨fun ha=> ?_,fun ha=>.step e2 hy h3.1 ha⟩⟩;cases ha with
     |refl=>exact absurd rfl e1
     |step _ g _ ha=>rw[hy] at g;cases g;exact ha
  ·obtain⟨i,rfl,h1,h2,h3,h4⟩:=hI;have e2:i=1:=by unfold reachN at h3;simpa using h3
   unfold tbel_l0;by_cases e1:i=top
   ·simp only[e1,ZAP,ZAJ,ZAC,ZAA];exact⟨_,rfl,by rw[h4,e1];exact stop top (.inl rfl)⟩
   ·simp only[ZAb.2 e1,ZAe,ZAF,ZAA];simp only[e2,ZAP,ZAJ,ZAC];exact⟨_,rfl,by rw[h4,e2];exact stop 1 (.inr rfl)⟩
 obtain⟨o,ho,hq⟩:=loop;unfold tbel;rw[ho,ZAA];exact⟨_,rfl,by rw[ZBL];exact hq⟩
theorem oFZ(h:TreeOK t)(hx:t.1[(id-1).toNat]? =some x)(h2:2<=id)(hxe:x.2.2.2.2.2.2.2=[]){i:Int}(ha:Anc t.1 id i)(hi:1<=i):i=id:=by
 induction ha with
 |refl=>rfl
 | @step i y h1 hy hu _ ih=>
   exfalso;have hp:=(h.r.ino _ y hy).par hu;have:=ih hp.1;obtain⟨m,s0,h3,h4,_⟩:=h.u _ y hy hu (by omega);rw[this,hx] at h3;cases h3;rw[hxe] at h4;cases h4
end
end Go.Ab.D
