/- What the functions compute; the plain law. -/
import Derived.Test.YtcfchfhdaggmpaaGreatDoorStateHolesD4
set_option linter.all false
namespace Go.Ab
theorem ZAy:type_of% @Bool.not_false:=@Bool.not_false
theorem ZA5.{u}:type_of% @beq_eq_false_iff_ne.{u}:=@beq_eq_false_iff_ne.{u}
theorem ZBl.{u}:type_of% @List.findIdx?_eq_some_iff_getElem.{u}:=@List.findIdx?_eq_some_iff_getElem.{u}
theorem ZBs:type_of% @Classical.byContradiction:=@Classical.byContradiction
theorem ZBx:type_of% @Nat.sub_self:=@Nat.sub_self
theorem ZB7:type_of% @UInt8.not_lt:=@UInt8.not_lt
theorem ZB8.{u}:type_of% @List.take_succ.{u}:=@List.take_succ.{u}
theorem ZCD:type_of% @UInt8.lt_irrefl:=@UInt8.lt_irrefl
theorem ZCE:type_of% @Nat.not_lt_zero:=@Nat.not_lt_zero
theorem ZCG:type_of% @UInt8.le_antisymm:=@UInt8.le_antisymm
end Go.Ab
namespace Go.Ab
theorem w64{x:Int}(h: -9223372036854775808<=x/\x<=9223372036854775807):IntKind.wrap .i64 x=x:=by
 simp only[IntKind.wrap,IntKind.bits,IntKind.signed];simp;omega
theorem wu64{x:Int}(h:0<=x/\x<=18446744073709551615):IntKind.wrap .u64 x=x:=by
 simp only[IntKind.wrap,IntKind.bits,IntKind.signed];simp;omega
theorem wu16{x:Int}(h:0<=x/\x<=65535):IntKind.wrap .u16 x=x:=by
 simp only[IntKind.wrap,IntKind.bits,IntKind.signed];simp;omega
theorem k1Z(a b:Nat):Int.fdiv (a:Int) (b:Int)=((a/b:Nat):Int):=by
 rw[Int.fdiv_eq_ediv_of_nonneg _ (by omega)];rfl
theorem anZ{i n:Nat}(h:i<n):idx? (i:Int) n=some i:=by simp[idx?,h]
theorem aWZ{x:Int}{n:Nat}(h0:0<=x)(h:x<n):idx? x n=some x.toNat:=by simp[idx?,h0,h]
theorem a8Z{i n:Nat}(h:i<=n):upto? (i:Int) n=some i:=by simp[upto?,h]
theorem cOZ{x:Int}{n:Nat}(h0:0<=x)(h:x<=n):upto? x n=some x.toNat:=by simp[upto?,h0,h]
theorem oyZ{n:Nat}(h:n<256):byte? (n:Int)=some (UInt8.ofNat n):=by
 have:(n:Int)<256:=by omega
 simp[byte?,this]
theorem adZ{β:Type}{b:Bool}{K:Option β}(h:b=true):need b K=K:=by subst h;rfl
theorem aCZ{a b:Nat}(h:a<=b):Nat.ble a b=true:=ZAi h
theorem bYZ{β:Type}{n:Nat}{K:Bool->Option β}(h:n=0->K true=K false):nilQ n K=K false:=by
 unfold nilQ;rw[ZAT h]
theorem avZ:room=140737488355328:=rfl
theorem oMZ{n:Nat}(h:n<4611686018427387904):∃m,fuel=m+(n+1):=⟨4611686018427387903-n,by unfold fuel;omega⟩
theorem g8Z{τ ο:Type}{f:τ->Option (τ⊕ο)}(S:Nat->τ):∀(n m:Nat),(∀k,k<n->f (S k)=some (.inl (S (k+1))))->iter (m+n) f (S 0)=iter m f (S n)
 |0,m,_=>rfl
 |n+1,m,h=>by
  have e:m+(n+1)=(m+1)+n:=by omega
  rw[e,g8Z S n (m+1) fun k hk=>h k (by omega)];show(f (S n)).ob _=_;rw[h n (by omega)]
  rfl
theorem a4Z{τ ο:Type}{f:τ->Option (τ⊕ο)}{o:ο}(S:Nat->τ)(n:Nat)(hn:n<4611686018427387904)(hs:∀k,k<n->f (S k)=some (.inl (S (k+1))))(he:f (S n)=some (.inr o)):iter fuel f (S 0)=some o:=by
 obtain⟨m,hm⟩:=oMZ hn;have e:fuel=(m+1)+n:=by omega
 rw[e,g8Z S n (m+1) hs];show(f (S n)).ob _=_;rw[he]
 rfl
theorem gHZ{τ ο:Type}{f:τ->Option (τ⊕ο)}{s s':τ}{n:Nat}(h:f s=some (.inl s')):iter (n+1) f s=iter n f s':=by
 show(f s).ob _=_;rw[h]
 rfl
theorem cUZ{τ ο:Type}{f:τ->Option (τ⊕ο)}{s:τ}{o:ο}{n:Nat}(h:f s=some (.inr o)):iter (n+1) f s=some o:=by
 show(f s).ob _=_;rw[h]
 rfl
theorem aRZ{τ ο:Type}{f:τ->Option (τ⊕ο)}(I:Nat->τ->Prop)(Q:ο->Prop)(hs:∀n s,I (n+1) s->(∃s',f s=some (.inl s')/\I n s')\/∃o,f s=some (.inr o)/\Q o)(he:∀s,I 0 s->∃o,f s=some (.inr o)/\Q o):∀(n:Nat) (s:τ),n<4611686018427387904->I n s->∃o,iter fuel f s=some o/\Q o:=by
 have main:∀(n m:Nat) (s:τ),n<m->I n s->∃o,iter m f s=some o/\Q o:=fun n=>by
  induction n with
  |zero=>
   intro m s hm hi;obtain⟨m,rfl⟩:∃k,m=k+1:=⟨m-1,by omega⟩;obtain⟨o,h1,h2⟩:=he s hi;exact⟨o,cUZ h1,h2⟩
  |succ n ih=>
   intro m s hm hi;obtain⟨m,rfl⟩:∃k,m=k+1:=⟨m-1,by omega⟩;rcases hs n s hi with⟨s',h1,h2⟩|⟨o,h1,h2⟩
   ·rw[gHZ h1];exact ih m s' (by omega) h2
   ·exact⟨o,cUZ h1,h2⟩
 exact fun n s hn hi=>main n fuel s hn hi
theorem pWZ{α β:Type}{x:Option α}{k:α->Option β}(R:Option β->Prop)(P:α->Prop)(h:∃v,x=some v/\P v)(hk:∀v,P v->R (k v)):R (x.bind k):=by
 obtain⟨v,rfl,hv⟩:=h;exact hk v hv
end Go.Ab
namespace Go.Ab
section
variable {τ κ ο γ : Type} {hd : τ → Option (List (κ × Nat))} {f : τ → κ × Nat → Option (τ ⊕ ο)}
end
end Go.Ab
namespace Go.Ab
section
variable {k v : Ty}
def KeyEq(k:Ty):Prop:=∀x a:k.den,k.eqb x a=true↔x=a
theorem iXZ(i:IntKind):KeyEq (.int i):=fun x a=>by
 show((x:Int)==a)=true↔_;exact ZBf
theorem KeyEq.ne(h:KeyEq k){x a:k.den}(hn:x≠a):k.eqb x a=false:=by
 cases e:k.eqb x a with
 |false=>rfl
 |true=>exact absurd ((h x a).1 e) hn
theorem KeyEq.self(h:KeyEq k)(x:k.den):k.eqb x x=true:=(h x x).2 rfl
theorem egZ(h:KeyEq k):∀(l:List ((k.den×v.den)×Nat)) (x:k.den) (y:v.den) (n:Nat) (z:k.den),mfind (l++[((x,y),n)]) z=match mfind l z with|some e=>some e|none=>bif k.eqb z x then some (y,n) else none
 |[],x,y,n,z=>rfl
 |((a,b),m)::l,x,y,n,z=>by
  show(bif k.eqb z a then some (b,m) else mfind (l++[((x,y),n)]) z)=match(bif k.eqb z a then some (b,m) else mfind l z) with|some e=>some e|none=>bif k.eqb z x then some (y,n) else none
  cases k.eqb z a with
  |true=>rfl
  |false=>exact egZ h l x y n z
theorem goZ(h:KeyEq k):∀(l:List ((k.den×v.den)×Nat)) (x:k.den) (y:v.den) (z:k.den),z≠x->mfind (mset l x y) z=mfind l z
 |[],x,y,z,_=>rfl
 |((a,b),m)::l,x,y,z,hz=>by
  show mfind (bif k.eqb x a then((x,y),m)::l else((a,b),m)::mset l x y) z=bif k.eqb z a then some (b,m) else mfind l z;cases e:k.eqb x a with
  |true=>
   have:=(h x a).1 e;subst this;show(bif k.eqb z x then some (y,m) else mfind l z)=_;rw[h.ne hz]
   rfl
  |false=>
   show(bif k.eqb z a then some (b,m) else mfind (mset l x y) z)=_;rw[goZ h l x y z hz]
theorem c3Z(h:KeyEq k):∀(l:List ((k.den×v.den)×Nat)) (x:k.den) (y:v.den) e,mfind l x=some e->mfind (mset l x y) x=some (y,e.2)
 |[],x,y,e,he=>by cases he
 |((a,b),m)::l,x,y,e,he=>by
  have he':(bif k.eqb x a then some (b,m) else mfind l x)=some e:=he;show mfind (bif k.eqb x a then((x,y),m)::l else((a,b),m)::mset l x y) x=_;cases ea:k.eqb x a with
  |true=>
   rw[ea] at he';injection he' with he';subst he';show(bif k.eqb x x then some (y,m) else mfind l x)=_;rw[h.self]
   rfl
  |false=>
   rw[ea] at he';show(bif k.eqb x a then some (b,m) else mfind (mset l x y) x)=_;rw[ea];exact c3Z h l x y e he'
theorem oeZ(h:KeyEq k)(m:GMap k v)(x:k.den)(y:v.den):mget (mput m x y) x=some y:=by
 unfold mget mput;cases e:mfind m.1 x with
 |some e'=>simp only;rw[c3Z h _ _ _ _ e];rfl
 |none=>simp only;rw[egZ h,e];simp only;rw[h.self];rfl
theorem ijZ(h:KeyEq k)(m:GMap k v)(x:k.den)(y:v.den){z:k.den}(hz:z≠x):mget (mput m x y) z=mget m z:=by
 unfold mget mput;cases e:mfind m.1 x with
 |some e'=>simp only;rw[goZ h _ _ _ _ hz]
 |none=>
  simp only;rw[egZ h,h.ne hz];cases mfind m.1 z<;>rfl
def keysU(m:GMap k v):Prop:=(m.1.map fun e=>e.1.1).Nodup
end
end Go.Ab
namespace Go.Ab.D
open Go Go.Ab
abbrev Part:=Int×Int
abbrev Ent:=List UInt8×Int
abbrev Ino:=Int×Int×Bool×Bool×Int×List Part×Int×List Ent
abbrev Tree:=List Ino×Int
def Ino.sm(n:Ino):Prop:=n.2.2.2.2.2.1.length<=100000/\n.2.2.2.2.2.2.2.length<=100000
structure Fit (l:List Ino):Prop where
 n:l.length<=100000
 s:∀n∈l,Ino.sm n
theorem Fit.at{l:List Ino}(h:Fit l){i:Nat}{n:Ino}(e:l[i]? =some n):Ino.sm n:=h.s n (ZAN e)
theorem c9Z{l:List Part}(h:l.length<=100000):sClo3 fuel l=some l:=by
 unfold sClo3;rw[bYZ]
 ·simp only[ZAE];rw[adZ];simp only[ZAB,ZAm,avZ];omega
 ·intro h0;have:=ZAR h0;subst this;simp only[ZAK,ZAE];rw[adZ];simp only[ZAB,ZAm,avZ];omega
theorem e6Z{l:List Ent}(h:l.length<=100000):sClo fuel l=some l:=by
 unfold sClo;rw[bYZ]
 ·simp only[ZAE];rw[adZ];simp only[ZAB,ZAm,avZ];omega
 ·intro h0;have:=ZAR h0;subst this;simp only[ZAK,ZAE];rw[adZ];simp only[ZAB,ZAm,avZ];omega
theorem e7Z{l:List Ino}(h:l.length<=100000):sClo2 fuel l=some l:=by
 unfold sClo2;rw[bYZ]
 ·simp only[ZAE];rw[adZ];simp only[ZAB,ZAm,avZ];omega
 ·intro h0;have:=ZAR h0;subst this;simp only[ZAK,ZAE];rw[adZ];simp only[ZAB,ZAm,avZ];omega
theorem p1Z{n:Ino}(h:n.sm):inode_own fuel n=some (n.1,n.2.1,n.2.2.1,n.2.2.2.1,n.2.2.2.2.1,n.2.2.2.2.2.2.1,n.2.2.2.2.2.1,n.2.2.2.2.2.2.2):=by
 unfold inode_own;rw[c9Z h.1,ZAA,e6Z h.2,ZAA]
theorem e9Z{α:Type}{l:List α}{i:Nat}{x:α}(h:l[i]? =some x):l.set i x=l:=by
 obtain⟨h1,h2⟩:=ZAC.1 h;rw[<-h2];exact List.set_getElem_self h1
theorem aYZ{i n:Nat}(h:i<n):decide ((i:Int)<((n:Nat):Int))=true:=by simp;omega
theorem aHZ{i n:Nat}(h:¬i<n):decide ((i:Int)<((n:Nat):Int))=false:=by simp;omega
def isB(l:List Ino)(id:Int)(dir:Bool):Bool:=
 decide (1<=id)&&match l[(id-1).toNat]? with
  |some n=>n.2.2.1&&n.2.2.2.1==dir
  |none=>false
theorem rBZ{t:Tree}(h:Fit t.1)(id:Int)(dir:Bool):inode_is fuel t id dir=some (isB t.1 id dir):=by
 unfold inode_is isB;by_cases h1:1<=id
 ·rw[show decide (id>=1)=true from by simp;omega,ZAK,ZA4];by_cases h2:id<=((t.1.length:Nat):Int)
  ·have hn:=h.n;rw[show decide (id<=((t.1.length:Nat):Int))=true from by simp;omega,ZAK,w64 (by omega),aWZ (by omega) (by omega),ZAA];have hlt:(id-1).toNat<t.1.length:=by omega
   obtain⟨n,hg⟩:∃n,t.1[(id-1).toNat]? =some n:=⟨_,ZAD hlt⟩;rw[hg];simp only[ZAA];cases n.2.2.1
   ·rfl
   ·simp only[ZAK,ZA4];rw[hg]
    rfl
  ·rw[show decide (id<=((t.1.length:Nat):Int))=false from by simp;omega,ZAE];rw[ZAt (by omega)]
 ·rw[show decide (id>=1)=false from by simp;omega,ZAE,Bool.false_and]
end Go.Ab.D
namespace Go.Ab.D
open Go Go.Ab
def most:Int:=1099511627776
def okPart(stripe:Int)(p:Part):Prop:=(p.1=0/\p.2=0)\/(1<=p.1/\p.1<=stripe/\1<=p.2/\p.2<=1099511627776)
def stripes(l:List Part):List Int:=(l.filter fun p=>p.1 !=0).map (·.1)
def okEnts(many:Int):List UInt8->List Ent->Prop
 |_,[]=>True
 |last,e::r=>1<=e.1.length/\e.1.length<=30/\Op.bytesLess last e.1=true/\1<=e.2/\e.2<=many/\okEnts many e.1 r
theorem b9Z(many:Int)(last:List UInt8)(e:Ent)(r:List Ent):okEnts many last (e::r)=(1<=e.1.length/\e.1.length<=30/\Op.bytesLess last e.1=true/\1<=e.2/\e.2<=many/\okEnts many e.1 r):=rfl
structure okIno (many stripe:Int) (i:Nat) (n:Ino):Prop where
 id:n.1=i+1
 gen:1<=n.2.1/\n.2.1<=1099511627776
 par:n.2.2.1=true->1<=n.2.2.2.2.2.2.1/\n.2.2.2.2.2.2.1<=many
 dir:n.2.2.1=true->n.2.2.2.1=true->n.2.2.2.2.1=0/\n.2.2.2.2.2.1=[]/\n.2.2.2.2.2.2.2.length<=100/\okEnts many [] n.2.2.2.2.2.2.2
 file:n.2.2.1=true->n.2.2.2.1=false->(0<=n.2.2.2.2.1/\n.2.2.2.2.1<=65536)/\n.2.2.2.2.2.2.2=[]/\n.2.2.2.2.2.1.length<=4096/\∀p∈n.2.2.2.2.2.1,okPart stripe p
 bare:n.2.2.1=false->n.2.2.2.1=false/\n.2.2.2.2.1=0/\n.2.2.2.2.2.2.1=0/\n.2.2.2.2.2.1=[]/\n.2.2.2.2.2.2.2=[]
def allStripes(l:List Ino):List Int:=l.flatMap fun n=>stripes n.2.2.2.2.2.1
structure RightP (t:Tree):Prop where
 len:1<=t.1.length/\t.1.length<=500
 str:0<=t.2/\t.2<=1099511627776
 ino:∀i n,t.1[i]? =some n->okIno t.1.length t.2 i n
 nod:(allStripes t.1).Nodup
 root:∃r,t.1[0]? =some r/\r.2.2.1=true/\r.2.2.2.1=true/\r.2.2.2.2.2.2.1=1
theorem aSZ(a b:List Part):stripes (a++b)=stripes a++stripes b:=by simp[stripes]
theorem etZ{p:Part}(h:p.1=0):stripes [p]=[]:=by simp[stripes,h]
theorem doZ{p:Part}(h:p.1≠0):stripes [p]=[p.1]:=by simp[stripes,h]
theorem mKZ{l:List UInt8}(h:1<=l.length):Op.bytesLess [] l=true:=by
 cases l with
 |nil=>simp at h
 |cons a l=>rfl
theorem g1Z:∀(a b:List UInt8),(Op.bytesLess a b||(a==b))= !Op.bytesLess b a
 |[],[]=>rfl
 |[],b::l=>by simp[Op.bytesLess]
 |a::l,[]=>by simp[Op.bytesLess]
 |a::l,b::m=>by
  have ih:=g1Z l m;have ne:(a::l==b::m)=(a==b&&l==m):=rfl;rw[ne];by_cases h:a<b
  ·have h2:¬b<a:=by exact fun h2=>absurd (UInt8.lt_trans h h2) (ZCD _)
   have h3:b≠a:=fun e=>by subst e;exact ZCD _ h
   simp[Op.bytesLess,h,h2,h3]
  ·by_cases h2:b<a
   ·have h3:a≠b:=fun e=>by subst e;exact ZCD _ h2
    simp[Op.bytesLess,h,h2,h3,ZBd h3]
   ·have h3:a=b:=ZCG (ZB7.1 h2) (ZB7.1 h);subst h3;simp only[Op.bytesLess,h,ZAV,ZA4];simpa using ih
theorem pRZ(e:Ent)(h:List UInt8)(many:Int):∃w,idir1 fuel e h many=some (w,(e.1,many))/\(w=true↔¬(1<=e.1.length/\e.1.length<=30/\Op.bytesLess h e.1=true/\1<=e.2/\e.2<=many)):=by
 unfold idir1;rw[g1Z];by_cases h1:e.1.length<1
 ·rw[show decide (((e.1.length:Nat):Int)<1)=true from by simp;omega];exact⟨true,rfl,by simp;omega⟩
 rw[show decide (((e.1.length:Nat):Int)<1)=false from by simp;omega,ZAE];by_cases h2:e.1.length>30
 ·rw[show decide (((e.1.length:Nat):Int)>30)=true from by simp;omega];exact⟨true,rfl,by simp;omega⟩
 rw[show decide (((e.1.length:Nat):Int)>30)=false from by simp;omega,ZAE];cases h3:Op.bytesLess h e.1 with
 |false=>exact⟨true,rfl,by simp⟩
 |true=>
  simp only[ZAP,ZAE];by_cases h4:e.2<1
  ·rw[show decide (e.2<1)=true from by simp;omega];exact⟨true,rfl,by simp;omega⟩
  rw[show decide (e.2<1)=false from by simp;omega,ZAE];exact⟨_,rfl,by simp;omega⟩
theorem oEZ(l:List Ent)(many:Int)(hl:l.length<=100000):
 ∃o,sIndFun5_l0_it fuel l (0,([],many))=some o/\((∃a b,o= .inl (a,b)/\okEnts many [] l)\/(∃(k:Nat),∃a b,o= .inr ((k:Int),(a,b))/\¬okEnts many [] l)):=by
 unfold sIndFun5_l0_it;refine aRZ (fun n s=>∃(k:Nat) (last:List UInt8),s=((k:Int),(last,many))/\k+n=l.length/\(okEnts many [] l↔okEnts many last (l.drop k))) _ (fun n s hI=> ?_) (fun s hI=> ?_) l.length _ (by omega) ⟨0,[],rfl,by omega,by simp⟩
 ·obtain⟨k,last,rfl,hk,hi⟩:=hI;have hlt:k<l.length:=by omega
  obtain⟨e,hg⟩:∃e,l[k]? =some e:=⟨_,ZAD hlt⟩;have hd:l.drop k=e::l.drop (k+1):=by
   rw[List.drop_eq_getElem_cons hlt];rw[ZAD hlt] at hg;simp only[ZAI] at hg;rw[hg]
  obtain⟨w,hw,hw2⟩:=pRZ e last many;unfold sIndFun5_l0;simp only[aYZ hlt,ZAK];rw[anZ hlt,ZAA,hg,ZAA,hw,ZAA];rw[hd,b9Z] at hi;cases w with
  |true=>
   right;refine⟨_,rfl,.inr ⟨k,_,_,rfl,fun h=> ?_⟩⟩;have h2:=hi.1 h;exact hw2.1 rfl ⟨h2.1,h2.2.1,h2.2.2.1,h2.2.2.2.1,h2.2.2.2.2.1⟩
  |false=>
   left;rw[w64 (by omega)];refine⟨_,rfl,k+1,e.1,by simp,by omega,?_⟩;have hne:¬¬(1<=e.1.length/\e.1.length<=30/\Op.bytesLess last e.1=true/\1<=e.2/\e.2<=many):=fun h=>by have:=hw2.2 h;cases this
   have hy:=Classical.not_not.1 hne;constructor
   ·intro h;exact(hi.1 h).2.2.2.2.2
   ·intro h;exact hi.2 ⟨hy.1,hy.2.1,hy.2.2.1,hy.2.2.2.1,hy.2.2.2.2,h⟩
 ·obtain⟨k,last,rfl,hk,hi⟩:=hI;have:k=l.length:=by omega
  subst this;unfold sIndFun5_l0;simp only[aHZ (ZBL _),ZAE];exact⟨_,rfl,.inl ⟨_,_,rfl,hi.2 (by simp[okEnts])⟩⟩
theorem qZZ(n:Ino)(many:Int)(hs:n.sm):∃b,idir fuel n many=some b/\(b=true↔n.2.2.2.2.1=0/\n.2.2.2.2.2.1=[]/\n.2.2.2.2.2.2.2.length<=100/\okEnts many [] n.2.2.2.2.2.2.2):=by
 unfold idir;by_cases h1:n.2.2.2.2.1=0
 ·rw[show(n.2.2.2.2.1==0)=true from by simp[h1],ZAK];by_cases h2:n.2.2.2.2.2.1=[]
  ·rw[show(((n.2.2.2.2.2.1.length:Nat):Int)==0)=true from by simp[h2],ZAK];by_cases h3:n.2.2.2.2.2.2.2.length<=100
   ·rw[show decide (((n.2.2.2.2.2.2.2.length:Nat):Int)<=100)=true from by simp;omega,ZAK];obtain⟨o,ho,hq⟩:=oEZ n.2.2.2.2.2.2.2 many hs.2;unfold sConFun5 sIndFun5;rw[ho,ZAA];rcases hq with⟨a,b,rfl,hq⟩|⟨k,a,b,rfl,hq⟩
    ·exact⟨_,rfl,by simp[h1,h2,h3,hq]⟩
    ·refine⟨_,rfl,?_⟩;simp[h1,h2,h3,hq]
   ·rw[show decide (((n.2.2.2.2.2.2.2.length:Nat):Int)<=100)=false from by simp;omega,ZAE];exact⟨_,rfl,by simp[h3]⟩
  ·rw[show(((n.2.2.2.2.2.1.length:Nat):Int)==0)=false from by simp[h2],ZAE];exact⟨_,rfl,by simp[h2]⟩
 ·rw[show(n.2.2.2.2.1==0)=false from by simp[h1],ZAE];exact⟨_,rfl,by simp[h1]⟩
abbrev GM:=GMap (.int .i64) (.int .i64)
def MS(M:GM)(S:List Int):Prop:=∀k:Int,(((Option.getD (mget (k:=.int .i64) (v:=.int .i64) M k) 0:Int)==1)=true↔k∈S)
theorem MS.nil:MS ([],0) []:=fun k=>by simp[mget,mfind]
theorem MS.put{M:GM}{S:List Int}(h:MS M S)(x:Int):MS (mput (k:=.int .i64) (v:=.int .i64) M x 1) (S++[x]):=fun k=>by
 by_cases hk:k=x
 ·subst hk;rw[oeZ (iXZ .i64)];simp
 ·rw[ijZ (iXZ .i64) M x 1 hk,h k];simp[hk]
theorem oJZ(p:Part)(M:GM)(S:List Int)(stripe:Int)(hM:MS M S):∃w M',ifil1 fuel p M stripe=some (w,(M',stripe))/\(w=true↔¬(okPart stripe p/\(p.1≠0->p.1∉S)))/\(w=false->MS M' (S++stripes [p])):=by
 unfold ifil1;by_cases h0:p.1=0/\p.2=0
 ·rw[show((p.1==0)&&(p.2==0))=true from by simp[h0.1,h0.2]];refine⟨false,M,rfl,by simp[okPart,h0],fun _=> ?_⟩;rw[etZ h0.1,ZA1];exact hM
 rw[show((p.1==0)&&(p.2==0))=false from by
  cases hh:((p.1==0)&&(p.2==0)) with
  |false=>rfl
  |true=>simp at hh;exact absurd hh h0,ZAE]
 have hMp:=hM.put p.1;cases hq:((Option.getD (mget (k:=.int .i64) (v:=.int .i64) M p.1) 0:Int)==1) with
 |true=>
  have:=(hM p.1).1 hq;refine⟨true,_,rfl,?_,fun h=>by cases h⟩;simp only[okPart,true_iff];intro h;rcases h.1 with h3|h3
  ·exact h0 h3
  ·exact h.2 (by omega) this
 |false=>
  have hn:p.1∉S:=fun h=>by have:=(hM p.1).2 h;rw[hq] at this;cases this
  simp only[ZAE];by_cases h1:p.1<1
  ·rw[show decide (p.1<1)=true from by simp;omega];exact⟨true,_,rfl,by simp only[okPart,true_iff];intro h;omega,fun h=>by cases h⟩
  rw[show decide (p.1<1)=false from by simp;omega,ZAE];by_cases h2:p.1>stripe
  ·rw[show decide (p.1>stripe)=true from by simp;omega];exact⟨true,_,rfl,by simp only[okPart,true_iff];intro h;omega,fun h=>by cases h⟩
  rw[show decide (p.1>stripe)=false from by simp;omega,ZAE];by_cases h3:p.2<1
  ·rw[show decide (p.2<1)=true from by simp;omega];exact⟨true,_,rfl,by simp only[okPart,true_iff];intro h;omega,fun h=>by cases h⟩
  rw[show decide (p.2<1)=false from by simp;omega,ZAE];refine⟨_,_,rfl,?_,fun _=> ?_⟩
  ·simp only[okPart,ZAd];constructor
   ·intro h5 h6;omega
   ·intro h5;exact ZBs fun h6=>h5 ⟨.inr (by omega),fun _=>hn⟩
  ·rw[doZ (by omega)];exact hMp
theorem mjZ(l:List Part)(M:GM)(S:List Int)(stripe:Int)(hM:MS M S)(hS:S.Nodup)(hl:l.length<=100000):
 ∃o,sIndFun4_l0_it fuel l (0,(M,stripe))=some o/\((∃M',o= .inl (M',stripe)/\(∀p∈l,okPart stripe p)/\MS M' (S++stripes l)/\(S++stripes l).Nodup)\/(∃(k:Nat),∃M',o= .inr ((k:Int),(M',stripe))/\¬((∀p∈l,okPart stripe p)/\(S++stripes l).Nodup))):=by
 unfold sIndFun4_l0_it;refine aRZ (fun n s=>∃(k:Nat) (M':GM),s=((k:Int),(M',stripe))/\k+n=l.length/\(∀p∈l.take k,okPart stripe p)/\MS M' (S++stripes (l.take k))/\(S++stripes (l.take k)).Nodup) _ (fun n s hI=> ?_) (fun s hI=> ?_) l.length _ (by omega) ⟨0,M,rfl,by omega,by simp,by simpa[stripes] using hM,by simpa[stripes] using hS⟩
 ·obtain⟨k,M',rfl,hk,h1,h2,h3⟩:=hI;have hlt:k<l.length:=by omega
  obtain⟨p,hg⟩:∃p,l[k]? =some p:=⟨_,ZAD hlt⟩;obtain⟨w,M2,hw,hw2,hw3⟩:=oJZ p M' _ stripe h2;have ht:l.take (k+1)=l.take k++[p]:=by rw[ZB8,hg];rfl
  unfold sIndFun4_l0;simp only[aYZ hlt,ZAK];rw[anZ hlt,ZAA,hg,ZAA,hw,ZAA];cases w with
  |true=>
   right;refine⟨_,rfl,.inr ⟨k,_,rfl,fun h=>hw2.1 rfl ⟨h.1 p (ZAN hg),fun hp0 hm=> ?_⟩⟩⟩;have h5:(S++stripes (l.take (k+1))).Nodup:=by
    have:l=l.take (k+1)++l.drop (k+1):=(ZBu _ _).symm;have h6:=h.2;rw[this,aSZ,<-List.append_assoc] at h6;exact(List.nodup_append.1 h6).1
   rw[ht,aSZ,<-List.append_assoc,doZ hp0] at h5;exact(List.nodup_append.1 h5).2.2 _ hm _ (by simp) rfl
  |false=>
   left;have hy:=Classical.not_not.1 fun h=>by have:=hw2.2 h;cases this
   rw[w64 (by omega)];refine⟨_,rfl,k+1,M2,by simp,by omega,?_,?_,?_⟩
   ·rw[ht];intro q hq;rcases ZAh.1 hq with hq|hq
    ·exact h1 q hq
    ·simp at hq;subst hq;exact hy.1
   ·rw[ht,aSZ,<-List.append_assoc];exact hw3 rfl
   ·rw[ht,aSZ,<-List.append_assoc];by_cases hp0:p.1=0
    ·rw[etZ hp0,ZA1];exact h3
    ·rw[doZ hp0];refine List.nodup_append.2 ⟨h3,by simp,fun a ha b hb=> ?_⟩;simp at hb;subst hb;exact fun e=>hy.2 hp0 (e▸ha)
 ·obtain⟨k,M',rfl,hk,h1,h2,h3⟩:=hI;have:k=l.length:=by omega
  subst this;rw[ZBU] at h1 h2 h3;unfold sIndFun4_l0;simp only[aHZ (ZBL _),ZAE];exact⟨_,rfl,.inl ⟨_,rfl,h1,h2,h3⟩⟩
def okFile(stripe:Int)(n:Ino):Prop:=(0<=n.2.2.2.2.1/\n.2.2.2.2.1<=65536)/\n.2.2.2.2.2.2.2=[]/\n.2.2.2.2.2.1.length<=4096/\∀p∈n.2.2.2.2.2.1,okPart stripe p
theorem qaZ(n:Ino)(M:GM)(S:List Int)(stripe:Int)(hs:n.sm)(hM:MS M S)(hS:S.Nodup):∃b M',ifilm2 fuel n stripe M=some (b,M')/\(b=true↔okFile stripe n/\(S++stripes n.2.2.2.2.2.1).Nodup)/\(b=true->MS M' (S++stripes n.2.2.2.2.2.1)):=by
 unfold ifilm2 okFile;by_cases h1:n.2.2.2.2.1>=0
 ·rw[show decide (n.2.2.2.2.1>=0)=true from by simp;omega,ZAK];by_cases h2:n.2.2.2.2.1<=65536
  ·rw[show decide (n.2.2.2.2.1<=65536)=true from by simp;omega,ZAK];by_cases h3:n.2.2.2.2.2.2.2=[]
   ·rw[show(((n.2.2.2.2.2.2.2.length:Nat):Int)==0)=true from by simp[h3],ZAK];by_cases h4:n.2.2.2.2.2.1.length<=4096
    ·rw[show decide (((n.2.2.2.2.2.1.length:Nat):Int)<=4096)=true from by simp;omega,ZAK];obtain⟨o,ho,hq⟩:=mjZ n.2.2.2.2.2.1 M S stripe hM hS hs.1;unfold sConFun3 sIndFun4;rw[ho,ZAA];rcases hq with⟨M',rfl,q1,q2,q3⟩|⟨k,M',rfl,hq⟩
     ·exact⟨_,_,rfl,by simp[h1,h2,h3,h4,q3];exact fun a b hab=>q1 (a,b) hab,fun _=>q2⟩
     ·refine⟨_,_,rfl,?_,?_⟩
      ·constructor
       ·intro h;simp at h
       ·intro h;exact absurd ⟨h.1.2.2.2,h.2⟩ hq
      ·intro h;simp at h
    ·rw[show decide (((n.2.2.2.2.2.1.length:Nat):Int)<=4096)=false from by simp;omega,ZAE];exact⟨_,_,rfl,by simp[h4],fun h=>by cases h⟩
   ·rw[show(((n.2.2.2.2.2.2.2.length:Nat):Int)==0)=false from by simp[h3],ZAE];exact⟨_,_,rfl,by simp[h3],fun h=>by cases h⟩
  ·rw[show decide (n.2.2.2.2.1<=65536)=false from by simp;omega,ZAE];exact⟨_,_,rfl,by simp;intro h;omega,fun h=>by cases h⟩
 ·rw[show decide (n.2.2.2.2.1>=0)=false from by simp;omega,ZAE];exact⟨_,_,rfl,by simp;intro h;omega,fun h=>by cases h⟩
end Go.Ab.D
namespace Go.Ab.D
open Go Go.Ab
theorem dbZ{l:List Ino}{k:Nat}{n:Ino}(h:l[k]? =some n):allStripes (l.take (k+1))=allStripes (l.take k)++stripes n.2.2.2.2.2.1:=by
 rw[ZB8,h];simp[allStripes]
theorem oCZ{l:List Ino}{k:Nat}(h:(allStripes l).Nodup):(allStripes (l.take k)).Nodup:=by
 have h2:allStripes l=allStripes (l.take k)++allStripes (l.drop k):=by
  unfold allStripes;rw[<-List.flatMap_append,ZBu]
 rw[h2] at h;exact(List.nodup_append.1 h).1
theorem qLZ(n:Ino)(hs:n.sm):∃b,ibar fuel n=some b/\(b=true↔n.2.2.1=false/\n.2.2.2.1=false/\n.2.2.2.2.1=0/\n.2.2.2.2.2.2.1=0/\n.2.2.2.2.2.1=[]/\n.2.2.2.2.2.2.2=[]):=by
 unfold ibar;have hs1:=hs.1;have hs2:=hs.2;cases h1:n.2.2.1 with
 |true=>exact⟨false,rfl,by simp⟩
 |false=>
  cases h2:n.2.2.2.1 with
  |true=>exact⟨false,rfl,by simp⟩
  |false=>
   simp only[ZAy,ZAK];by_cases h3:n.2.2.2.2.1=0
   ·by_cases h4:n.2.2.2.2.2.2.1=0
    ·rw[w64 (by omega)];refine⟨_,by simp only[h3,h4,ZAV,ZAK];rfl,?_⟩;simp only[h3,h4,ZBf,true_and];constructor
     ·intro h;exact⟨ZAR (by omega),ZAR (by omega)⟩
     ·intro h;rw[h.1,h.2];rfl
    ·refine⟨false,?_,by simp[h4]⟩;rw[show(n.2.2.2.2.2.2.1==0)=false from by simp[h4]];simp[h3]
   ·refine⟨false,?_,by simp[h3]⟩;rw[show(n.2.2.2.2.1==0)=false from by simp[h3]]
    rfl
theorem lSZ(t:Tree)(b:Bool)(k:Nat)(n:Ino)(M:GM)(hf:Fit t.1)(hg:t.1[k]? =some n)(hM:MS M (allStripes (t.1.take k)))(hS:(allStripes (t.1.take k)).Nodup):
 (∃M',iRig_l0 fuel (b,(t.1,t.2)) t k t.1 t.2 M=some (.inl (((k+1:Nat):Int),(t.1,(t.2,M'))))/\okIno t.1.length t.2 k n/\MS M' (allStripes (t.1.take (k+1)))/\(allStripes (t.1.take (k+1))).Nodup)\/
 (iRig_l0 fuel (b,(t.1,t.2)) t k t.1 t.2 M=some (.inr (.inr false))/\¬(okIno t.1.length t.2 k n/\(allStripes (t.1.take (k+1))).Nodup)):=by
 have hlt:k<t.1.length:=(ZAC.1 hg).1;have hn:=hf.n;obtain⟨b1,hb1,hb1'⟩:=qLZ n (hf.at hg);obtain⟨b2,hb2,hb2'⟩:=qZZ n ((t.1.length:Nat):Int) (hf.at hg);obtain⟨b3,M3,hb3,hb3',hb3''⟩:=qaZ n M _ t.2 (hf.at hg) hM hS;rw[<-dbZ hg] at hb3' hb3'';have eid:(!(n.1==((k:Int)+1)))= !decide (n.1=(k:Int)+1):=by simp[BEq.beq]
 have main:∀(ok:Bool) (M':GM),(ok=true->MS M' (allStripes (t.1.take (k+1)))/\(allStripes (t.1.take (k+1))).Nodup)->
  ((okIno t.1.length t.2 k n/\(allStripes (t.1.take (k+1))).Nodup)↔(ok=true/\n.1=(k:Int)+1/\(1<=n.2.1/\n.2.1<=1099511627776)/\(n.2.2.1=true->1<=n.2.2.2.2.2.2.1/\n.2.2.2.2.2.2.1<=((t.1.length:Nat):Int))))->
  ∀R,R=(Option.bind (α:=(Bool×(List Ino×(Int×GM)))) (
   bif (!ok) then
    some (true,(t.1,(t.2,M')))
   else
    bif (!(n.1==((k:Int)+1))) then
     some (true,(t.1,(t.2,M')))
    else
     bif (decide (n.2.1<1)) then
      some (true,(t.1,(t.2,M')))
     else
      bif (decide (n.2.1>1099511627776)) then
       some (true,(t.1,(t.2,M')))
      else
       bif n.2.2.1 then
        bif (decide (n.2.2.2.2.2.2.1<1)) then
         some (true,(t.1,(t.2,M')))
        else
         some ((decide (n.2.2.2.2.2.2.1>((t.1.length:Nat):Int))),(t.1,(t.2,M')))
       else
        some (false,(t.1,(t.2,M')))) fun o4=>
  bif o4.1 then
   some (.inr (.inr false))
  else
   some (.inl (((k:Int)+1),(o4.2.1,(o4.2.2.1,o4.2.2.2)))):Option ((Int×(List Ino×(Int×GM)))⊕((List Ino×Int)⊕Bool)))->
  (∃M',R=some (.inl (((k+1:Nat):Int),(t.1,(t.2,M'))))/\okIno t.1.length t.2 k n/\MS M' (allStripes (t.1.take (k+1)))/\(allStripes (t.1.take (k+1))).Nodup)\/
  (R=some (.inr (.inr false))/\¬(okIno t.1.length t.2 k n/\(allStripes (t.1.take (k+1))).Nodup)):=by
  intro ok M' hok hiff R hR;rw[hiff];cases ok with
  |false=>exact .inr ⟨by rw[hR];rfl,by simp⟩
  |true=>
   by_cases h1:n.1=(k:Int)+1
   ·rw[show(n.1==((k:Int)+1))=true from by simp[h1]] at hR;by_cases h2:n.2.1<1
    ·rw[show decide (n.2.1<1)=true from by simp;omega] at hR;exact .inr ⟨by rw[hR];rfl,by omega⟩
    rw[show decide (n.2.1<1)=false from by simp;omega] at hR;by_cases h3:n.2.1>1099511627776
    ·rw[show decide (n.2.1>1099511627776)=true from by simp;omega] at hR;exact .inr ⟨by rw[hR];rfl,by omega⟩
    rw[show decide (n.2.1>1099511627776)=false from by simp;omega] at hR;cases h4:n.2.2.1 with
    |false=>
     rw[h4] at hR;refine .inl ⟨M',by rw[hR];rfl,(hiff.2 ⟨rfl,h1,by omega,fun h=>by rw[h4] at h;cases h⟩).1,(hok rfl).1,(hok rfl).2⟩
    |true=>
     rw[h4] at hR;by_cases h5:n.2.2.2.2.2.2.1<1
     ·rw[show decide (n.2.2.2.2.2.2.1<1)=true from by simp;omega] at hR;exact .inr ⟨by rw[hR];rfl,fun h=>by have:=h.2.2.2 rfl;omega⟩
     rw[show decide (n.2.2.2.2.2.2.1<1)=false from by simp;omega] at hR;by_cases h6:n.2.2.2.2.2.2.1>((t.1.length:Nat):Int)
     ·rw[show decide (n.2.2.2.2.2.2.1>((t.1.length:Nat):Int))=true from by simp;omega] at hR;exact .inr ⟨by rw[hR];rfl,fun h=>by have:=h.2.2.2 rfl;omega⟩
     rw[show decide (n.2.2.2.2.2.2.1>((t.1.length:Nat):Int))=false from by simp;omega] at hR;refine .inl ⟨M',by rw[hR];rfl,(hiff.2 ⟨rfl,h1,by omega,fun _=>by omega⟩).1,(hok rfl).1,(hok rfl).2⟩
   ·rw[show(n.1==((k:Int)+1))=false from by simp[h1]] at hR;exact .inr ⟨by rw[hR];rfl,by simp[h1]⟩
 have hsucc:=dbZ hg;have htk:n.2.2.2.2.2.1=[]->(allStripes (t.1.take (k+1)))=allStripes (t.1.take k):=fun h=>by rw[hsucc,h];simp[stripes]
 generalize hR:iRig_l0 fuel (b,(t.1,t.2)) t k t.1 t.2 M=R;unfold iRig_l0 at hR;simp only[aYZ hlt,ZAK] at hR;rw[anZ hlt,ZAA,hg,ZAA,w64 (by omega)] at hR;obtain⟨id,gen,used,dir,size,parts,parent,ents⟩:=n;dsimp only at*;cases used with
 |true=>
  cases dir with
  |true=>
   refine main b2 M ?_ ?_ R ?_
   ·intro h;have:=(hb2'.1 h).2.1;rw[htk this];exact⟨hM,hS⟩
   ·constructor
    ·intro h;exact⟨hb2'.2 (h.1.dir rfl rfl),h.1.id,h.1.gen,h.1.par⟩
    ·intro h;have h9:=hb2'.1 h.1;exact⟨⟨h.2.1,h.2.2.1,h.2.2.2,fun _ _=>h9,(fun _ h=>by cases h),(fun h=>by cases h)⟩,by rw[htk h9.2.1];exact hS⟩
   ·rw[<-hR,hb1,ZAA];simp only[ZAK,ZAA,hb2]
  |false=>
   refine main b3 M3 (fun h=>⟨hb3'' h,(hb3'.1 h).2⟩) ?_ R ?_
   ·constructor
    ·intro h;exact⟨hb3'.2 ⟨h.1.file rfl rfl,h.2⟩,h.1.id,h.1.gen,h.1.par⟩
    ·intro h;have h9:=hb3'.1 h.1;exact⟨⟨h.2.1,h.2.2.1,h.2.2.2,(fun _ h=>by cases h),fun _ _=>h9.1,(fun h=>by cases h)⟩,h9.2⟩
   ·rw[<-hR,hb1,ZAA];simp only[ZAK,ZAE,ZAA,hb3]
 |false=>
  refine main b1 M ?_ ?_ R ?_
  ·intro h;have:=(hb1'.1 h).2.2.2.2.1;rw[htk this];exact⟨hM,hS⟩
  ·constructor
   ·intro h;exact⟨hb1'.2 ⟨rfl,h.1.bare rfl⟩,h.1.id,h.1.gen,h.1.par⟩
   ·intro h;have h9:=hb1'.1 h.1;exact⟨⟨h.2.1,h.2.2.1,h.2.2.2,(fun h=>by cases h),(fun h=>by cases h),fun _=>h9.2⟩,by rw[htk h9.2.2.2.2.1];exact hS⟩
  ·rw[<-hR,hb1,ZAA];simp only[ZAK,ZAE,ZAA]
theorem k7Z{t:Tree}(hf:Fit t.1):∃b,iRig fuel t=some b/\(b=true↔RightP t):=by
 unfold iRig;have hn:=hf.n;by_cases h1:t.1.length<1
 ·rw[show decide (((t.1.length:Nat):Int)<1)=true from by simp;omega];exact⟨false,rfl,by simp;intro h;have:=h.len;omega⟩
 rw[show decide (((t.1.length:Nat):Int)<1)=false from by simp;omega,ZAE];by_cases h2:t.1.length>500
 ·rw[show decide (((t.1.length:Nat):Int)>500)=true from by simp;omega];exact⟨false,rfl,by simp;intro h;have:=h.len;omega⟩
 rw[show decide (((t.1.length:Nat):Int)>500)=false from by simp;omega,ZAE];by_cases h3:t.2<0
 ·rw[show decide (t.2<0)=true from by simp;omega];exact⟨false,rfl,by simp;intro h;have:=h.str;omega⟩
 rw[show decide (t.2<0)=false from by simp;omega,ZAE];by_cases h4:t.2>1099511627776
 ·rw[show decide (t.2>1099511627776)=true from by simp;omega];exact⟨false,rfl,by simp;intro h;have:=h.str;omega⟩
 rw[show decide (t.2>1099511627776)=false from by simp;omega,ZAA];simp only[ZAE];have loop:∃o,iRig_l0_it fuel (false,(t.1,t.2)) t (0,(t.1,(t.2,([],0))))=some o/\((o= .inl (t.1,t.2)/\(∀i n,t.1[i]? =some n->okIno t.1.length t.2 i n)/\(allStripes t.1).Nodup)\/(o= .inr false/\¬((∀i n,t.1[i]? =some n->okIno t.1.length t.2 i n)/\(allStripes t.1).Nodup))):=by
  unfold iRig_l0_it;refine aRZ (fun m s=>∃(k:Nat) (M:GM),s=((k:Int),(t.1,(t.2,M)))/\k+m=t.1.length/\(∀i n,i<k->t.1[i]? =some n->okIno t.1.length t.2 i n)/\MS M (allStripes (t.1.take k))/\(allStripes (t.1.take k)).Nodup) _ (fun m s hI=> ?_) (fun s hI=> ?_) t.1.length _ (by omega) ⟨0,([],0),rfl,by omega,fun i n h=>absurd h (ZCE _),by simpa[allStripes] using MS.nil,by simp[allStripes]⟩
  ·obtain⟨k,M,rfl,hk,g1,g2,g3⟩:=hI;have hlt:k<t.1.length:=by omega
   obtain⟨n,hg⟩:∃n,t.1[k]? =some n:=⟨_,ZAD hlt⟩;rcases lSZ t false k n M hf hg g2 g3 with⟨M',r1,r2,r3,r4⟩|⟨r1,r2⟩
   ·left;refine⟨_,r1,k+1,M',rfl,by omega,fun i n' hi hgi=> ?_,r3,r4⟩;by_cases hik:i=k
    ·subst hik;rw[hg] at hgi;cases hgi;exact r2
    ·exact g1 i n' (by omega) hgi
   ·right;exact⟨_,r1,.inr ⟨rfl,fun h=>r2 ⟨h.1 k n hg,oCZ h.2⟩⟩⟩
  ·obtain⟨k,M,rfl,hk,g1,g2,g3⟩:=hI;have:k=t.1.length:=by omega
   subst this;rw[ZBU] at g3;unfold iRig_l0;simp only[aHZ (ZBL _),ZAE];exact⟨_,rfl,.inl ⟨rfl,fun i n h=>g1 i n (ZAC.1 h).1 h,g3⟩⟩
 obtain⟨o,ho,hq⟩:=loop;rw[ho,ZAA];rcases hq with⟨rfl,q1,q2⟩|⟨rfl,q1⟩
 ·have hlt:0<t.1.length:=by omega
  obtain⟨r,hg⟩:∃r,t.1[0]? =some r:=⟨_,ZAD hlt⟩;simp only[];rw[show idx? 0 t.1.length=some 0 from anZ hlt,ZAA,hg,ZAA];have hR:RightP t↔(r.2.2.1=true/\r.2.2.2.1=true/\r.2.2.2.2.2.2.1=1):=by
   constructor
   ·intro h;obtain⟨r',h1,h2⟩:=h.root;rw[hg] at h1;cases h1;exact h2
   ·intro h;exact⟨by omega,by omega,q1,q2,r,hg,h⟩
  rw[hR];cases r.2.2.1 with
  |false=>exact⟨false,rfl,by simp⟩
  |true=>cases r.2.2.2.1 with
   |false=>exact⟨false,rfl,by simp⟩
   |true=>exact⟨_,rfl,by simp⟩
 ·exact⟨false,rfl,by simp;exact fun h=>q1 ⟨h.ino,h.nod⟩⟩
end Go.Ab.D
namespace Go.Ab
section
variable {τ κ ο γ : Type} {hd : τ → Option (List (κ × Nat))} {f : τ → κ × Nat → Option (τ ⊕ ο)}
end
section
variable {k v : Ty}
structure MW (m:GMap k v):Prop where
 ks:keysU m
 ns:(m.1.map (·.2)).Nodup
 lo:∀e∈m.1,e.2<m.2
end
end Go.Ab
namespace Go.Ab.D
open Go Go.Ab
def namedB(s:List UInt8):Bool:=decide (1<=s.length)&&decide (s.length<=30)&& !(s==[46])&& !(s==[46,46])&& !Go.Lib.containsAny s [0,47]
theorem d3Z(s:List UInt8):tNam fuel s=some (namedB s):=by
 unfold tNam namedB;by_cases h1:1<=s.length
 ·rw[show decide (((s.length:Nat):Int)>=1)=true from by simp;omega,ZAK,ZAJ h1,ZA4];by_cases h2:s.length<=30
  ·rw[show decide (((s.length:Nat):Int)<=30)=true from by simp;omega,ZAK,ZAJ h2,ZA4];cases h3:(s==[46]) with
   |true=>rfl
   |false=>
    cases h4:(s==[46,46]) with
    |true=>rfl
    |false=>
     simp only[ZAy,ZAK,ZA4];unfold sConAny;rw[adZ,ZAA];simp;omega
  ·rw[show decide (((s.length:Nat):Int)<=30)=false from by simp;omega,ZAE,ZAG h2]
   rfl
 ·rw[show decide (((s.length:Nat):Int)>=1)=false from by simp;omega,ZAE,ZAG h1]
  rfl
def reachN(l:List Ino):Nat->Int->Bool
 |0,id=>id==1
 |k+1,id=>bif id==1 then true else match l[(id-1).toNat]? with
  |some n=>n.2.2.1&&reachN l k n.2.2.2.2.2.2.1
  |none=>false
theorem kRZ{t:Tree}(hr:RightP t)(id:Int)(h1:1<=id)(h2:id<=t.1.length):trea fuel t id=some (reachN t.1 t.1.length id):=by
 have hlen:=hr.len;have loop:∃o,trea_l0_it fuel t (id,(0,(t.1,t.2)))=some o/\((∃i,o= .inl i/\reachN t.1 t.1.length id=(i==1))\/(∃b,o= .inr b/\reachN t.1 t.1.length id=b)):=by
  unfold trea_l0_it;refine aRZ (fun n (s:Int×(Int×(List Ino×Int)))=>∃(k:Nat) (i:Int),s=(i,((k:Int),(t.1,t.2)))/\k+n=t.1.length/\1<=i/\i<=t.1.length/\reachN t.1 t.1.length id=reachN t.1 n i) _ (fun n s hI=> ?_) (fun s hI=> ?_) t.1.length _ (by omega) ⟨0,id,rfl,by omega,h1,h2,rfl⟩
  ·obtain⟨k,i,rfl,hk,hi1,hi2,he⟩:=hI;have hlt:k<t.1.length:=by omega
   unfold trea_l0;simp only[aYZ hlt,ZAK];rw[he];cases hid:(i==1) with
   |true=>
    right;exact⟨_,rfl,.inr ⟨_,rfl,by unfold reachN;rw[hid];rfl⟩⟩
   |false=>
    simp only[ZAE];have hlt2:(i-1).toNat<t.1.length:=by omega
    obtain⟨x,hg⟩:∃x,t.1[(i-1).toNat]? =some x:=⟨_,ZAD hlt2⟩;rw[w64 (by omega),aWZ (by omega) (by omega),ZAA,hg,ZAA];have hx:=hr.ino _ _ hg;cases hu:x.2.2.1 with
    |false=>
     right;exact⟨_,rfl,.inr ⟨_,rfl,by unfold reachN;rw[hid,hg];simp[hu]⟩⟩
    |true=>
     left;simp only[ZAP,ZAE];rw[ZAA,hg,ZAA,w64 (by omega)];have hp:=hx.par hu;refine⟨_,rfl,k+1,_,by simp,by omega,hp.1,hp.2,?_⟩
     conv=>lhs;unfold reachN
     rw[hid,hg];simp[hu]
  ·obtain⟨k,i,rfl,hk,hi1,hi2,he⟩:=hI;have:k=t.1.length:=by omega
   subst this;unfold trea_l0;simp only[aHZ (ZBL _),ZAE];exact⟨_,rfl,.inl ⟨i,rfl,he⟩⟩
 obtain⟨o,ho,h⟩:=loop;unfold trea;rw[ho,ZAA];rcases h with⟨i,rfl,h⟩|⟨b,rfl,h⟩
 ·simp only;rw[h]
 ·simp only;rw[h]
end Go.Ab.D
namespace Go.Ab.D
open Go Go.Ab
def allEnts(l:List Ino):List Ent:=l.flatMap fun n=>n.2.2.2.2.2.2.2
def cnt(l:List Ent)(id:Int):Nat:=(l.filter fun e=>e.2==id).length
theorem g2Z(a b:List Ent)(id:Int):cnt (a++b) id=cnt a id+cnt b id:=by simp[cnt]
theorem q8Z(e:Ent)(id:Int):cnt [e] id=if e.2=id then 1 else 0:=by
 unfold cnt;by_cases h:e.2=id
 ·simp[h]
 ·simp[h]
theorem rzZ(l:List Ent)(id:Int):cnt l id<=l.length:=List.length_filter_le _ _
def okE(l:List Ino)(n:Ino)(e:Ent):Prop:=namedB e.1=true/\∃x,l[(e.2-1).toNat]? =some x/\x.2.2.1=true/\x.2.2.2.2.2.2.1=n.1
structure RightT (t:Tree):Prop where
 r:RightP t
 e:∀n∈t.1,∀e∈n.2.2.2.2.2.2.2,okE t.1 n e
 reach:∀n∈t.1,n.2.2.1=true->reachN t.1 t.1.length n.1=true
 cnt:∀n∈t.1,cnt (allEnts t.1) n.1=if n.1=1\/n.2.2.1=false then 0 else 1
theorem cMZ{many:Int}:∀{l:List Ent} {last:List UInt8},okEnts many last l->∀e∈l,1<=e.2/\e.2<=many/\1<=e.1.length/\e.1.length<=30
 |[],_,_,_,h=>by cases h
 |a::r,last,h,e,he=>by
  rw[b9Z] at h;rcases ZAa.1 he with rfl|he
  ·exact⟨h.2.2.2.1,h.2.2.2.2.1,h.1,h.2.1⟩
  ·exact cMZ h.2.2.2.2.2 e he
theorem cJZ{many st:Int}{i:Nat}{n:Ino}(h:okIno many st i n):n.2.2.2.2.2.2.2.length<=100/\okEnts many [] n.2.2.2.2.2.2.2:=by
 cases hu:n.2.2.1 with
 |false=>rw[(h.bare hu).2.2.2.2];exact⟨by simp,trivial⟩
 |true=>
  cases hd:n.2.2.2.1 with
  |false=>rw[(h.file hu hd).2.1];exact⟨by simp,trivial⟩
  |true=>exact(h.dir hu hd).2.2
theorem rnZ{many st:Int}{i:Nat}{n:Ino}(h:okIno many st i n):n.sm:=by
 refine⟨?_,by have:=(cJZ h).1;omega⟩;cases hu:n.2.2.1 with
 |false=>rw[(h.bare hu).2.2.2.1];simp
 |true=>
  cases hd:n.2.2.2.1 with
  |false=>have:=(h.file hu hd).2.2.1;omega
  |true=>rw[(h.dir hu hd).2.1];simp
theorem RightP.fit{t:Tree}(h:RightP t):Fit t.1:=by
 refine⟨by have:=h.len;omega,fun n hn=> ?_⟩;obtain⟨i,hi⟩:=ZAe hn;exact rnZ (h.ino i n hi)
theorem bZZ{l:List Ino}{k:Nat}{n:Ino}(h:l[k]? =some n):allEnts (l.take (k+1))=allEnts (l.take k)++n.2.2.2.2.2.2.2:=by
 unfold allEnts;rw[ZB8,h];simp
theorem jmZ{l:List Ino}{c:Nat}(h:∀n∈l,n.2.2.2.2.2.2.2.length<=c):(allEnts l).length<=l.length*c:=by
 induction l with
 |nil=>simp[allEnts]
 |cons a l ih=>
  have h1:=h a (by simp);have h2:=ih fun n hn=>h n (by simp[hn]);have:(allEnts (a::l)).length=a.2.2.2.2.2.2.2.length+(allEnts l).length:=by simp[allEnts]
  rw[this,ZBm,ZBY];omega
structure Cs (M:List Int) (len:Nat) (es:List Ent):Prop where
 n:M.length=len+1
 v:∀i:Nat,i<=len->M[i]? =some ((cnt es (i:Int):Nat):Int)
theorem Cs.zero(len:Nat):Cs (List.replicate (len+1) 0) len []:=
 ⟨by simp,fun i hi=>by rw[ZB1,ZAT (by omega)];simp[cnt]⟩
theorem Cs.add{M:List Int}{len:Nat}{es:List Ent}(h:Cs M len es)(e:Ent)(h1:0<=e.2)(h2:e.2<=len):Cs (M.set e.2.toNat ((cnt es e.2:Nat)+1:Int)) len (es++[e]):=by
 refine⟨by rw[ZA2];exact h.n,fun i hi=> ?_⟩;rw[List.getElem?_set,g2Z,q8Z];have hn:=h.n;by_cases hc:e.2.toNat=i
 ·have:e.2=(i:Int):=by omega
  rw[ZAT hc,ZAT (by omega),ZAT this,this];simp
 ·rw[ZAQ hc,ZAQ (by omega),h.v i hi];simp
theorem njZ(t:Tree)(n:Ino)(e:Ent)(M:List Int)(es:List Ent)(hf:t.1.length<=100000)(hM:Cs M t.1.length es)(hs:es.length<=100000000)(h1:1<=e.2)(h2:e.2<=t.1.length):
 ∃w M',tRig1 fuel e M t.1 t.2 n.1 n.2.1 n.2.2.1 n.2.2.2.1 n.2.2.2.2.1 n.2.2.2.2.2.1 n.2.2.2.2.2.2.1 n.2.2.2.2.2.2.2=some (w,(M',(t.1,(t.2,n))))/\Cs M' t.1.length (es++[e])/\(w=true↔¬okE t.1 n e):=by
 unfold tRig1;have hn:=hM.n;have hlt:e.2.toNat<M.length:=by omega
 have hv:=hM.v e.2.toNat (by omega);rw[Int.toNat_of_nonneg (by omega)] at hv;have hlt2:(e.2-1).toNat<t.1.length:=by omega
 obtain⟨x,hx⟩:∃x,t.1[(e.2-1).toNat]? =some x:=⟨_,ZAD hlt2⟩;have hc:=rzZ es e.2;rw[aWZ (by omega) (by omega),ZAA,hv,ZAA,ZAA,hv,ZAA,w64 (by omega),aWZ (by omega) (by omega),ZAA,hx,ZAA,d3Z,ZAA,w64 (by omega)];have hC:=hM.add e (by omega) h2;have hw:okE t.1 n e↔(namedB e.1=true/\x.2.2.1=true/\x.2.2.2.2.2.2.1=n.1):=by
  unfold okE;constructor
  ·rintro⟨h3,y,h4,h5⟩;rw[hx] at h4;cases h4;exact⟨h3,h5⟩
  ·rintro⟨h3,h5⟩;exact⟨h3,x,hx,h5⟩
 rw[hw];cases h3:namedB e.1 with
 |false=>exact⟨_,_,rfl,hC,by simp⟩
 |true=>
  cases h4:x.2.2.1 with
  |false=>exact⟨_,_,rfl,hC,by simp⟩
  |true=>exact⟨_,_,rfl,hC,by simp⟩
theorem jpZ(t:Tree)(n:Ino)(l:List Ent)(M:List Int)(es:List Ent)(hf:t.1.length<=100000)(hM:Cs M t.1.length es)(hs:es.length<=90000000)(hl:l.length<=100000)(hl2:∀e∈l,1<=e.2/\e.2<=t.1.length):
 ∃w M',sConFun fuel l M t.1 t.2 n.1 n.2.1 n.2.2.1 n.2.2.2.1 n.2.2.2.2.1 n.2.2.2.2.2.1 n.2.2.2.2.2.2.1 n.2.2.2.2.2.2.2=some (w,(M',(t.1,(t.2,n))))/\(w=false->Cs M' t.1.length (es++l))/\(w=true↔¬∀e∈l,okE t.1 n e):=by
 have loop:∃o,sIndFun3_l0_it fuel l (0,(M,(t.1,(t.2,n))))=some o/\((∃M',o= .inl (M',(t.1,(t.2,n)))/\Cs M' t.1.length (es++l)/\∀e∈l,okE t.1 n e)\/(∃(k:Nat),∃M',o= .inr ((k:Int),(M',(t.1,(t.2,n))))/\¬∀e∈l,okE t.1 n e)):=by
  unfold sIndFun3_l0_it;refine aRZ (fun m (s:Int×(List Int×(List Ino×(Int×Ino))))=>∃(k:Nat),∃M',s=((k:Int),(M',(t.1,(t.2,n))))/\k+m=l.length/\Cs M' t.1.length (es++l.take k)/\∀e∈l.take k,okE t.1 n e) _ (fun m s hI=> ?_) (fun s hI=> ?_) l.length _ (by omega) ⟨0,M,rfl,by omega,by simpa using hM,by simp⟩
  ·obtain⟨k,M',rfl,hk,hC,ha⟩:=hI;have hlt:k<l.length:=by omega
   obtain⟨e,hg⟩:∃e,l[k]? =some e:=⟨_,ZAD hlt⟩;have hem:=ZAN hg;obtain⟨h1,h2⟩:=hl2 e hem;obtain⟨w,M2,hw,hC2,hw2⟩:=njZ t n e M' (es++l.take k) hf hC (by rw[ZAY,ZAS];omega) h1 h2;unfold sIndFun3_l0;simp only[aYZ hlt,ZAK];rw[anZ hlt,ZAA,hg,ZAA,hw,ZAA];cases w with
   |true=>
    right;exact⟨_,rfl,.inr ⟨k,_,rfl,fun h=>hw2.1 rfl (h e hem)⟩⟩
   |false=>
    left;rw[w64 (by omega)];have hoe:okE t.1 n e:=ZBs fun h=>by have:=hw2.2 h;cases this
    refine⟨_,rfl,k+1,M2,by simp,by omega,?_,?_⟩
    ·rw[ZB8,hg,<-List.append_assoc];exact hC2
    ·intro e' he';rw[ZB8,hg] at he';rcases ZAh.1 he' with h|h
     ·exact ha e' h
     ·simp at h;rw[h];exact hoe
  ·obtain⟨k,M',rfl,hk,hC,ha⟩:=hI;have:k=l.length:=by omega
   subst this;unfold sIndFun3_l0;simp only[aHZ (ZBL _),ZAE];rw[ZBU] at hC ha;exact⟨_,rfl,.inl ⟨M',rfl,hC,ha⟩⟩
 obtain⟨o,ho,h⟩:=loop;unfold sConFun sIndFun3;rw[show(n.1,(n.2.1,(n.2.2.1,(n.2.2.2.1,(n.2.2.2.2.1,(n.2.2.2.2.2.1,(n.2.2.2.2.2.2.1,n.2.2.2.2.2.2.2)))))))=n from rfl,ho,ZAA];rcases h with⟨M',rfl,hC,ha⟩|⟨k,M',rfl,ha⟩
 ·exact⟨_,_,rfl,fun _=>hC,by simp;exact fun e he=>ha (e,he)⟩
 ·refine⟨true,M',?_,by simp,by simpa using ha⟩;simp only[ZAA];rw[show decide ((k:Int)>=0)=true from by simp]
end Go.Ab.D
namespace Go.Ab.D
open Go Go.Ab
theorem prZ{t:Tree}(hr:RightP t):
 ∃o,tRig_l0_it fuel t (0,(t.1,(t.2,List.replicate (t.1.length+1) 0)))=some o/\
  ((∃M,o= .inl (t.1,(t.2,M))/\Cs M t.1.length (allEnts t.1)/\(∀n∈t.1,(∀e∈n.2.2.2.2.2.2.2,okE t.1 n e)/\(n.2.2.1=true->reachN t.1 t.1.length n.1=true)))\/
   (o= .inr false/\¬∀n∈t.1,(∀e∈n.2.2.2.2.2.2.2,okE t.1 n e)/\(n.2.2.1=true->reachN t.1 t.1.length n.1=true))):=by
 have hlen:=hr.len;unfold tRig_l0_it;refine aRZ (fun m (s:Int×(List Ino×(Int×List Int)))=>∃(k:Nat),∃M,s=((k:Int),(t.1,(t.2,M)))/\k+m=t.1.length/\Cs M t.1.length (allEnts (t.1.take k))/\∀n∈t.1.take k,(∀e∈n.2.2.2.2.2.2.2,okE t.1 n e)/\(n.2.2.1=true->reachN t.1 t.1.length n.1=true)) _ (fun m s hI=> ?_) (fun s hI=> ?_) t.1.length _ (by omega) ⟨0,_,rfl,by omega,by simpa[allEnts] using Cs.zero t.1.length,by simp⟩
 ·obtain⟨k,M,rfl,hk,hC,ha⟩:=hI;have hlt:k<t.1.length:=by omega
  obtain⟨n,hg⟩:∃n,t.1[k]? =some n:=⟨_,ZAD hlt⟩;have hnm:=ZAN hg;have hi:=hr.ino k n hg;have hE:=cJZ hi;have hpre:(allEnts (t.1.take k)).length<=100000:=by
   have:=jmZ (l:=t.1.take k) (c:=100) (fun n hn=>by
    obtain⟨i,hi⟩:=ZAe (ZCA hn);exact(cJZ (hr.ino i n hi)).1)
   rw[ZAS] at this;omega
  obtain⟨w,M',hw,hC',hw2⟩:=jpZ t n n.2.2.2.2.2.2.2 M (allEnts (t.1.take k)) (by omega) hC (by omega) (by omega) (fun e he=>⟨(cMZ hE.2 e he).1,(cMZ hE.2 e he).2.1⟩);unfold tRig_l0;simp only[aYZ hlt,ZAK];rw[anZ hlt,ZAA,hg,ZAA,hw,ZAA];cases w with
  |true=>
   right;exact⟨_,rfl,.inr ⟨rfl,fun h=>hw2.1 rfl (h n hnm).1⟩⟩
  |false=>
   have hall:∀e∈n.2.2.2.2.2.2.2,okE t.1 n e:=ZBs fun h=>by have:=hw2.2 h;cases this
   simp only[ZAE];cases hu:n.2.2.1 with
   |false=>
    left;simp only[ZAE];rw[ZAA];simp only[ZAE];rw[w64 (by omega)];refine⟨_,rfl,k+1,M',by simp,by omega,?_,?_⟩
    ·rw[bZZ hg];exact hC' rfl
    ·intro x hx;rw[ZB8,hg] at hx;rcases ZAh.1 hx with h|h
     ·exact ha x h
     ·simp at h;subst h;exact⟨hall,fun h=>by rw[hu] at h;cases h⟩
   |true=>
    simp only[ZAK];rw[hi.id,kRZ hr _ (by omega) (by omega),ZAA,ZAA];cases hq:reachN t.1 t.1.length ((k:Int)+1) with
    |false=>
     right;exact⟨_,rfl,.inr ⟨rfl,fun h=>by have:=(h n hnm).2 hu;rw[hi.id,hq] at this;cases this⟩⟩
    |true=>
     left;simp only[ZAP,ZAE];rw[w64 (by omega)];refine⟨_,rfl,k+1,M',by simp,by omega,?_,?_⟩
     ·rw[bZZ hg];exact hC' rfl
     ·intro x hx;rw[ZB8,hg] at hx;rcases ZAh.1 hx with h|h
      ·exact ha x h
      ·simp at h;subst h;exact⟨hall,fun _=>by rw[hi.id];exact hq⟩
 ·obtain⟨k,M,rfl,hk,hC,ha⟩:=hI;have:k=t.1.length:=by omega
  subst this;unfold tRig_l0;simp only[aHZ (ZBL _),ZAE];rw[ZBU] at hC ha;exact⟨_,rfl,.inl ⟨M,rfl,hC,ha⟩⟩
theorem peZ{t:Tree}(hr:RightP t)(M:List Int)(hC:Cs M t.1.length (allEnts t.1)):
 ∃o,tRig_l1_it fuel (t.1,(t.2,M)) (0,M)=some o/\
  ((o= .inl ()/\∀n∈t.1,cnt (allEnts t.1) n.1=if n.1=1\/n.2.2.1=false then 0 else 1)\/
   (o= .inr false/\¬∀n∈t.1,cnt (allEnts t.1) n.1=if n.1=1\/n.2.2.1=false then 0 else 1)):=by
 have hlen:=hr.len;unfold tRig_l1_it;refine aRZ (fun m (s:Int×List Int)=>∃(k:Nat),s=((k:Int),M)/\k+m=t.1.length/\∀n∈t.1.take k,cnt (allEnts t.1) n.1=if n.1=1\/n.2.2.1=false then 0 else 1) _ (fun m s hI=> ?_) (fun s hI=> ?_) t.1.length _ (by omega) ⟨0,rfl,by omega,by simp⟩
 ·obtain⟨k,rfl,hk,ha⟩:=hI;have hlt:k<t.1.length:=by omega
  obtain⟨n,hg⟩:∃n,t.1[k]? =some n:=⟨_,ZAD hlt⟩;have hnm:=ZAN hg;have hi:=hr.ino k n hg;have hn:=hC.n;have hv:=hC.v (k+1) (by omega);unfold tRig_l1;simp only[aYZ hlt,ZAK];rw[anZ hlt,ZAA,hg,ZAA];have fin:∀(want:Nat),want=(if n.1=1\/n.2.2.1=false then 0 else 1)->
   (∃s',((idx? n.1 M.length).bind fun q3=>(M[q3]?).bind fun r5=>bif (!(r5==(want:Int))) then(some (.inr (.inr false)):Option ((Int×List Int)⊕(Unit⊕Bool))) else some (.inl ((IntKind.wrap .i64 ((k:Int)+1)),M)))=some (.inl s')/\∃(j:Nat),s'=((j:Int),M)/\j+m=t.1.length/\∀n∈t.1.take j,cnt (allEnts t.1) n.1=if n.1=1\/n.2.2.1=false then 0 else 1)\/
   ∃o,((idx? n.1 M.length).bind fun q3=>(M[q3]?).bind fun r5=>bif (!(r5==(want:Int))) then(some (.inr (.inr false)):Option ((Int×List Int)⊕(Unit⊕Bool))) else some (.inl ((IntKind.wrap .i64 ((k:Int)+1)),M)))=some (.inr o)/\((o= .inl ()/\∀n∈t.1,cnt (allEnts t.1) n.1=if n.1=1\/n.2.2.1=false then 0 else 1)\/(o= .inr false/\¬∀n∈t.1,cnt (allEnts t.1) n.1=if n.1=1\/n.2.2.1=false then 0 else 1)):=by
   intro want hwant;have hid:n.1=((k+1:Nat):Int):=by rw[hi.id];simp
   rw[show idx? n.1 M.length=some (k+1) from by rw[hid];exact anZ (by omega),ZAA,hv,ZAA,w64 (by omega)];by_cases hc:cnt (allEnts t.1) ((k+1:Nat):Int)=want
   ·left;rw[hc,ZAV,ZAP,ZAE];refine⟨_,rfl,k+1,by simp,by omega,fun x hx=> ?_⟩;rw[ZB8,hg] at hx;rcases ZAh.1 hx with h|h
    ·exact ha x h
    ·simp at h;subst h;rw[<-hwant,<-hc,hid]
   ·right;rw[show(((cnt (allEnts t.1) ((k+1:Nat):Int):Nat):Int)==(want:Int))=false from ZA5.2 (by omega),ZAy,ZAK];refine⟨_,rfl,.inr ⟨rfl,fun h=>hc ?_⟩⟩;rw[hwant,<-h n hnm,hid]
  cases hb:(n.1==1) with
  |true=>
   simp only[ZAK,ZAA];exact fin 0 (by rw[ZAT (.inl (ZBf.1 hb))])
  |false=>
   cases hu:n.2.2.1 with
   |false=>
    simp only[ZAE,ZAK,ZAA,ZAy];exact fin 0 (by rw[ZAT (.inr hu)])
   |true=>
    simp only[ZAE,ZAA,ZAP];exact fin 1 (by rw[ZAQ];rintro(h|h);(rw[h] at hb;cases hb);(rw[hu] at h;cases h))
 ·obtain⟨k,rfl,hk,ha⟩:=hI;have:k=t.1.length:=by omega
  subst this;unfold tRig_l1;simp only[aHZ (ZBL _),ZAE];rw[ZBU] at ha;exact⟨_,rfl,.inl ⟨rfl,ha⟩⟩
theorem gWZ{t:Tree}(hf:Fit t.1):∃b,tRig fuel t=some b/\(b=true↔RightT t):=by
 obtain⟨b,hb,hb2⟩:=k7Z hf;unfold tRig;rw[show((t.1,t.2):Tree)=t from rfl,hb,ZAA];cases b with
 |false=>exact⟨false,rfl,by constructor;(intro h;cases h);(intro h;exact hb2.2 h.r)⟩
 |true=>
  have hr:=hb2.1 rfl;have hlen:=hr.len;simp only[ZAP,ZAE];rw[w64 (by omega),show(((t.1.length:Nat):Int)+1)=((t.1.length+1:Nat):Int) from by simp,a8Z (by simp only[avZ];omega),ZAA,a8Z (ZAM _),ZAA,adZ]
  ·obtain⟨o,ho,h⟩:=prZ hr;rw[ho,ZAA];rcases h with⟨M,rfl,hC,h⟩|⟨rfl,h⟩
   ·simp only;obtain⟨o,ho,h'⟩:=peZ hr M hC;rw[ho,ZAA];rcases h' with⟨rfl,h'⟩|⟨rfl,h'⟩
    ·exact⟨true,rfl,by simp;exact⟨hr,fun n hn=>(h n hn).1,fun n hn=>(h n hn).2,h'⟩⟩
    ·exact⟨false,rfl,by simp;exact fun hh=>h' hh.cnt⟩
   ·exact⟨false,rfl,by simp;exact fun hh=>h fun n hn=>⟨hh.e n hn,hh.reach n hn⟩⟩
  ·simp only[ZAm,avZ];omega
end Go.Ab.D
namespace Go.Ab.D
open Go Go.Ab
abbrev blt(a b:List UInt8):Bool:=Op.bytesLess a b
theorem ecZ:∀(a:List UInt8),blt a a=false
 |[]=>rfl
 |a::l=>by
  have ih:=ecZ l;simp only[blt] at ih;simp[blt,Op.bytesLess,ih,ZCD]
theorem eBZ(a b:UInt8)(l m:List UInt8):blt (a::l) (b::m)=true↔a<b\/(a=b/\blt l m=true):=by
 simp only[blt,Op.bytesLess];by_cases h:a<b
 ·simp[h]
 ·by_cases e:a=b
  ·simp[e,ZCD]
  ·simp[h,e]
theorem eVZ:∀{a b c:List UInt8},blt a b=true->blt b c=true->blt a c=true
 |[],[],_,h,_=>by cases h
 |[],_::_,[],_,h=>by cases h
 |[],_::_,_::_,_,_=>rfl
 |_::_,[],_,h,_=>by cases h
 |_::_,_::_,[],_,h=>by cases h
 |x::a,y::b,z::c,h1,h2=>by
  rw[eBZ] at h1 h2⊢;rcases h1 with h1|⟨rfl,h1⟩
  ·rcases h2 with h2|⟨rfl,h2⟩
   ·exact .inl (UInt8.lt_trans h1 h2)
   ·exact .inl h1
  ·rcases h2 with h2|⟨rfl,h2⟩
   ·exact .inl h2
   ·exact .inr ⟨rfl,eVZ h1 h2⟩
theorem ihZ:∀(a b:List UInt8),blt a b=true\/a=b\/blt b a=true
 |[],[]=>.inr (.inl rfl)
 |[],_::_=>.inl rfl
 |_::_,[]=>.inr (.inr rfl)
 |x::a,y::b=>by
  rw[eBZ,eBZ];rcases ihZ a b with h|h|h
  ·by_cases h1:x<y
   ·exact .inl (.inl h1)
   ·by_cases h2:y<x
    ·exact .inr (.inr (.inl h2))
    ·exact .inl (.inr ⟨ZCG (ZB7.1 h2) (ZB7.1 h1),h⟩)
  ·by_cases h1:x<y
   ·exact .inl (.inl h1)
   ·by_cases h2:y<x
    ·exact .inr (.inr (.inl h2))
    ·exact .inr (.inl (by rw[ZCG (ZB7.1 h2) (ZB7.1 h1),h]))
  ·by_cases h1:x<y
   ·exact .inl (.inl h1)
   ·by_cases h2:y<x
    ·exact .inr (.inr (.inl h2))
    ·exact .inr (.inr (.inr ⟨ZCG (ZB7.1 h1) (ZB7.1 h2),h⟩))
theorem ehZ:∀(a b:List UInt8),(Go.Lib.compareBytes a b<0↔blt a b=true)/\(Go.Lib.compareBytes a b=0↔a=b)
 |[],[]=>by simp[Go.Lib.compareBytes,blt,Op.bytesLess]
 |[],_::_=>by simp[Go.Lib.compareBytes,blt,Op.bytesLess]
 |_::_,[]=>by simp[Go.Lib.compareBytes,blt,Op.bytesLess]
 |x::a,y::b=>by
  have ih:=ehZ a b;rw[eBZ];unfold Go.Lib.compareBytes;by_cases h:x<y
  ·simp[h];intro e;subst e;exact absurd h (ZCD _)
  ·by_cases h2:y<x
   ·have:x≠y:=fun e=>by subst e;exact h h2
    simp[h,h2,this]
   ·have:x=y:=ZCG (ZB7.1 h2) (ZB7.1 h);subst this;simp[h,ih.1,ih.2]
def Srt(l:List Ent):Prop:=l.Pairwise fun a b=>blt a.1 b.1=true
theorem glZ{many:Int}:∀{l:List Ent} {last:List UInt8},okEnts many last l->Srt l/\∀e∈l,blt last e.1=true
 |[],_,_=>⟨List.Pairwise.nil,fun _ h=>by cases h⟩
 |a::r,last,h=>by
  rw[b9Z] at h;have ih:=glZ h.2.2.2.2.2;refine⟨List.Pairwise.cons ih.2 ih.1,fun e he=> ?_⟩;rcases ZAa.1 he with rfl|he
  ·exact h.2.2.1
  ·exact eVZ h.2.2.1 (ih.2 e he)
theorem gDZ{many:Int}:∀{l:List Ent} {last:List UInt8},Srt l->(∀e∈l,blt last e.1=true/\1<=e.1.length/\e.1.length<=30/\1<=e.2/\e.2<=many)->okEnts many last l
 |[],_,_,_=>trivial
 |a::r,last,hs,h=>by
  rw[b9Z];have ha:=h a (by simp);have hs':=ZBJ.1 hs;exact⟨ha.2.1,ha.2.2.1,ha.1,ha.2.2.2.1,ha.2.2.2.2,gDZ hs'.2 fun e he=>⟨hs'.1 e he,(h e (by simp[he])).2⟩⟩
def pos(l:List Ent)(s:List UInt8):Nat:=(l.takeWhile fun e=>blt e.1 s).length
def hasN(l:List Ent)(s:List UInt8):Bool:=l.any fun e=>e.1==s
def insE(l:List Ent)(s:List UInt8)(id:Int):List Ent:=l.take (pos l s)++[(s,id)]++l.drop (pos l s)
def delE(l:List Ent)(s:List UInt8):List Ent:=l.filter fun e=> !(e.1==s)
theorem khZ(l:List Ent)(s:List UInt8):pos l s<=l.length:=(List.takeWhile_prefix _).length_le
theorem iPZ{l:List Ent}{s:List UInt8}(h:Srt l):∀(i:Nat) e,l[i]? =some e->(i<pos l s↔blt e.1 s=true):=by
 induction l with
 |nil=>intro i e he;simp at he
 |cons a l ih=>
  have h':=ZBJ.1 h;intro i e he;unfold pos;rw[List.takeWhile_cons];cases ha:blt a.1 s with
  |false=>
   simp only[ZBP,if_false,List.length_nil];constructor
   ·intro hh;exact absurd hh (ZCE _)
   ·intro hh;cases i with
    |zero=>simp at he;subst he;rw[ha] at hh;cases hh
    |succ i=>
     have:=h'.1 e (ZAN (by simpa using he));rw[eVZ this hh] at ha;cases ha
  |true=>
   simp only[ZCH,ZBm];cases i with
   |zero=>simp at he;subst he;simp[ha]
   |succ i=>
    have:=ih h'.2 i e (by simpa using he);unfold pos at this;rw[<-this];omega
theorem r1Z{l:List Ent}{s:List UInt8}(h:Srt l):hasN l s=true↔∃id,l[pos l s]? =some (s,id):=by
 constructor
 ·intro hh;unfold hasN at hh;rw[List.any_eq_true] at hh;obtain⟨e,he,hes⟩:=hh;have hes:e.1=s:=by simpa using hes
  obtain⟨i,hi⟩:=ZAe he;have h1:=iPZ (s:=s) h i e hi;rw[hes,ecZ] at h1;have h2:¬i<pos l s:=fun h=>by have:=h1.1 h;cases this
  have h3:¬pos l s<i:=fun hlt=>by
   have hil:=(ZAC.1 hi).1;have hg:l[pos l s]? =some (l[pos l s]'(by omega)):=ZAD (by omega);have h4:=(iPZ (s:=s) h (pos l s) _ hg);have h5:blt (l[pos l s]'(by omega)).1 e.1=true:=by
    have:=List.pairwise_iff_getElem.1 h (pos l s) i (by omega) hil hlt;rw[(ZAC.1 hi).2] at this;exact this
   rw[hes] at h5;exact absurd (h4.2 h5) (ZBL _)
  have:i=pos l s:=by omega
  subst this;exact⟨e.2,by rw[hi,<-hes]⟩
 ·rintro⟨id,h⟩;unfold hasN;rw[List.any_eq_true];exact⟨_,ZAN h,by simp⟩
theorem kNZ{l:List Ent}(s:List UInt8)(h:Srt l)(hl:l.length<=100000):sBinSeaFu2_l0_it fuel l s (0,((l.length:Nat):Int))=some ((pos l s:Nat):Int):=by
 unfold sBinSeaFu2_l0_it;have hp:=khZ l s;obtain⟨o,ho,h2⟩:∃o,iter fuel (fun tt=>sBinSeaFu2_l0 fuel l s tt.1 tt.2) (0,((l.length:Nat):Int))=some o/\o=((pos l s:Nat):Int):=by
  refine aRZ (fun n (t:Int×Int)=>∃i j:Nat,t=((i:Int),(j:Int))/\i<=pos l s/\pos l s<=j/\j<=l.length/\j-i<=n) _ (fun n t hI=> ?_) (fun t hI=> ?_) l.length _ (by omega) ⟨0,l.length,rfl,by omega,hp,by omega,by omega⟩
  ·obtain⟨i,j,rfl,h1,h2,h3,h4⟩:=hI;unfold sBinSeaFu2_l0;by_cases hij:i<j
   ·have e0:IntKind.wrap .u64 (IntKind.wrap .i64 ((i:Int)+(j:Int)))=((i+j:Nat):Int):=by
     rw[w64 (by omega),wu64 (by omega)];simp
    have e1:IntKind.wrap .i64 (Int.fdiv (IntKind.wrap .u64 (IntKind.wrap .i64 ((i:Int)+(j:Int)))) 2)=(((i+j)/2:Nat):Int):=by
     rw[e0,show(2:Int)=((2:Nat):Int) from rfl,k1Z,w64 (by omega)]
    have hm:(i+j)/2<l.length:=by omega
    obtain⟨e,hg⟩:∃e,l[(i+j)/2]? =some e:=⟨_,ZAD hm⟩;simp only[aYZ hij,ZAK,e1];rw[anZ hm,ZAA,hg,ZAA];have hc:=ehZ e.1 s;have hlt:=iPZ (s:=s) h _ e hg;have he:tent1 fuel e s=some (Go.Lib.compareBytes e.1 s):=rfl;rw[he,ZAA];left;by_cases hq:Go.Lib.compareBytes e.1 s<0
    ·have hp2:=hlt.2 (hc.1.1 hq);rw[ZAJ hq,ZAK,ZAA,w64 (by omega)];exact⟨_,rfl,(i+j)/2+1,j,by simp,by omega,h2,h3,by omega⟩
    ·have hp2:¬(i+j)/2<pos l s:=fun hh=>hq (hc.1.2 (hlt.1 hh));rw[ZAG hq,ZAE,ZAA];exact⟨_,rfl,i,(i+j)/2,rfl,h1,by omega,by omega,by omega⟩
   ·right;simp only[aHZ hij,ZAE];exact⟨_,rfl,by rw[show i=pos l s from by omega]⟩
  ·obtain⟨i,j,rfl,h1,h2,h3,h4⟩:=hI;unfold sBinSeaFu2_l0;have hij:¬i<j:=by omega
   simp only[aHZ hij,ZAE];exact⟨_,rfl,by rw[show i=pos l s from by omega]⟩
 rw[ho,h2]
theorem k4Z{n:Ino}(s:List UInt8)(h:Srt n.2.2.2.2.2.2.2)(hl:n.2.2.2.2.2.2.2.length<=100000):tent fuel n s=some (((pos n.2.2.2.2.2.2.2 s:Nat):Int),hasN n.2.2.2.2.2.2.2 s):=by
 unfold tent sBinSeaFu2;rw[kNZ s h hl,ZAA];have hp:=khZ n.2.2.2.2.2.2.2 s;have hat:=r1Z (s:=s) h;by_cases hlt:pos n.2.2.2.2.2.2.2 s<n.2.2.2.2.2.2.2.length
 ·obtain⟨e,hg⟩:∃e,n.2.2.2.2.2.2.2[pos n.2.2.2.2.2.2.2 s]? =some e:=⟨_,ZAD hlt⟩;rw[aYZ hlt,ZAK,anZ hlt,ZAA,hg,ZAA,show tent1 fuel e s=some (Go.Lib.compareBytes e.1 s) from rfl,ZAA,ZAA];congr 2;rw[Bool.eq_iff_iff,hat,hg,ZBf,(ehZ e.1 s).2];constructor
  ·rintro rfl;exact⟨_,rfl⟩
  ·rintro⟨id,h⟩;cases h;rfl
 ·rw[aHZ hlt,ZAE,ZAA];congr 2;cases hh:hasN n.2.2.2.2.2.2.2 s with
  |false=>rfl
  |true=>
   obtain⟨id,h⟩:=hat.1 hh;exact absurd (ZAC.1 h).1 hlt
theorem htZ{l:List Ent}{s:List UInt8}{id:Int}{e:Ent}:e∈insE l s id↔e=(s,id)\/e∈l:=by
 unfold insE;rw[ZAr,ZAh,ZAh];have:e∈l↔e∈l.take (pos l s)\/e∈l.drop (pos l s):=by rw[<-List.mem_append,ZBu]
 rw[this,ZBQ];constructor
 ·rintro(h|h|h)
  ·exact .inr (.inl h)
  ·exact .inl h
  ·exact .inr (.inr h)
 ·rintro(h|h|h)
  ·exact .inr (.inl h)
  ·exact .inl h
  ·exact .inr (.inr h)
theorem o6Z{l:List Ent}{s:List UInt8}:hasN l s=true↔∃id,(s,id)∈l:=by
 unfold hasN;rw[List.any_eq_true];constructor
 ·rintro⟨e,he,hs⟩;have:e.1=s:=by simpa using hs
  exact⟨e.2,by rw[<-this];exact he⟩
 ·rintro⟨id,h⟩;exact⟨_,h,by simp⟩
theorem oqZ{l:List Ent}{s:List UInt8}(id:Int)(h:Srt l)(hn:hasN l s=false):Srt (insE l s id):=by
 unfold insE;have h1:Srt (l.take (pos l s)++l.drop (pos l s)):=by rw[ZBu];exact h
 have h2:=ZBz.1 h1;have lo:∀e∈l.take (pos l s),blt e.1 s=true:=fun e he=>by
  obtain⟨i,hi⟩:=ZAe he;have hl:=(ZAC.1 hi).1;rw[ZAS] at hl;rw[ZAn,ZAT (by omega)] at hi;exact(iPZ h i e hi).1 (by omega)
 have hi:∀e∈l.drop (pos l s),blt s e.1=true:=fun e he=>by
  obtain⟨i,hi⟩:=ZAe he;rw[ZAw] at hi;have h3:=iPZ (s:=s) h _ e hi;rcases ihZ e.1 s with h4|h4|h4
  ·have:=h3.2 h4;omega
  ·have:hasN l s=true:=o6Z.2 ⟨e.2,by rw[<-h4];exact ZAN hi⟩;rw[hn] at this;cases this
  ·exact h4
 refine ZBz.2 ⟨ZBz.2 ⟨h2.1,List.pairwise_singleton _ _,fun a ha b hb=> ?_⟩,h2.2.1,fun a ha b hb=> ?_⟩
 ·rw[ZBQ] at hb;subst hb;exact lo a ha
 ·rcases ZAh.1 ha with ha|ha
  ·exact h2.2.2 a ha b hb
  ·rw[ZBQ] at ha;subst ha;exact hi b hb
theorem o8Z(l:List Ent)(s:List UInt8)(id:Int):(insE l s id).length=l.length+1:=by
 have:=khZ l s;unfold insE;simp only[ZAY,ZAS,ZAv,List.length_singleton];omega
end Go.Ab.D
namespace Go.Ab.D
open Go Go.Ab
inductive Rch (l:List Ino):Int->Prop
 |root:Rch l 1
 |step {id:Int} {x:Ino}:l[(id-1).toNat]? =some x->x.2.2.1=true->Rch l x.2.2.2.2.2.2.1->Rch l id
structure TreeOK (t:Tree):Prop where
 r:RightP t
 e:∀(i:Nat) n,t.1[i]? =some n->∀s id,(s,id)∈n.2.2.2.2.2.2.2->namedB s=true/\id≠1/\∃x,t.1[(id-1).toNat]? =some x/\x.2.2.1=true/\x.2.2.2.2.2.2.1=(i:Int)+1
 u:∀(j:Nat) x,t.1[j]? =some x->x.2.2.1=true->j≠0->∃n s,t.1[(x.2.2.2.2.2.2.1-1).toNat]? =some n/\(s,(j:Int)+1)∈n.2.2.2.2.2.2.2/\∀s',(s',(j:Int)+1)∈n.2.2.2.2.2.2.2->s'=s
 a:∀(j:Nat) x,t.1[j]? =some x->x.2.2.1=true->Rch t.1 ((j:Int)+1)
theorem dpZ(l:List Ino):∀(k:Nat) (id:Int),reachN l k id=true->reachN l (k+1) id=true
 |0,id,h=>by
  unfold reachN at h⊢;rw[h];rfl
 |k+1,id,h=>by
  unfold reachN at h⊢;cases h1:(id==1) with
  |true=>rfl
  |false=>
   rw[h1] at h;simp only[ZAE] at h⊢;cases hg:l[(id-1).toNat]? with
   |none=>rw[hg] at h;cases h
   |some n=>
    rw[hg] at h;simp only[ZAB] at h⊢;exact⟨h.1,dpZ l k _ h.2⟩
theorem ifZ(l:List Ino){k m:Nat}(h:k<=m){id:Int}(hr:reachN l k id=true):reachN l m id=true:=by
 induction h with
 |refl=>exact hr
 |step _ ih=>exact dpZ l _ _ ih
theorem igZ{α:Type}{p q:α->Bool}:∀{L:List α},(∀x∈L,p x=true->q x=true)->(∃x∈L,p x=false/\q x=true)->L.countP p+1<=L.countP q
 |[],_,h=>by obtain⟨_,h,_⟩:=h;cases h
 |a::L,h1,h2=>by
  have h1':=fun x hx=>h1 x (ZAb _ hx);rw[List.countP_cons,List.countP_cons];by_cases hL:∃x∈L,p x=false/\q x=true
  ·have:=igZ h1' hL;have h3:=h1 a (by simp);cases hp:p a with
   |false=>simp;split<;>omega
   |true=>simp[h3 hp];exact this
  ·obtain⟨x,hx,hpx,hqx⟩:=h2;rcases ZAa.1 hx with rfl|hx
   ·have:L.countP p<=L.countP q:=List.countP_mono_left h1';simp[hpx,hqx];exact this
   ·exact absurd ⟨x,hx,hpx,hqx⟩ hL
theorem lLZ{l:List Ino}(h0:1<=l.length)(hp:∀(j:Nat) x,l[j]? =some x->x.2.2.1=true->1<=x.2.2.2.2.2.2.1/\x.2.2.2.2.2.2.1<=l.length){id:Int}(h1:1<=id)(h2:id<=l.length)(h:Rch l id):reachN l l.length id=true:=by
 have stable:∀k,(∀i∈List.range l.length,reachN l (k+1) ((i:Int)+1)=true->reachN l k ((i:Int)+1)=true)->∀id,Rch l id->1<=id->id<=l.length->reachN l k id=true:=by
  intro k hk id h;induction h with
  |root=>intro _ _;exact ifZ l (ZBS k) (by rfl)
  | @step id x hg hu _ ih=>
    intro h1 h2;have hx:=hp _ _ hg hu;have hh:=ih hx.1 hx.2;have h3:reachN l (k+1) id=true:=by
     unfold reachN;cases hid:(id==1) with
     |true=>rfl
     |false=>rw[ZAE,hg];simp only[hu,hh];rfl
    have:=hk (id-1).toNat (by rw[ZCC];omega);rw[show(((id-1).toNat:Nat):Int)+1=id from by omega] at this;exact this h3
 have grow:∀k,(∃j,j<=k/\∀i∈List.range l.length,reachN l (j+1) ((i:Int)+1)=true->reachN l j ((i:Int)+1)=true)\/k+1<=(List.range l.length).countP fun i:Nat=>reachN l k ((i:Int)+1):=by
  intro k;induction k with
  |zero=>
   right;rw[show 0+1=1 from rfl];refine List.countP_pos_iff.2 ⟨0,by rw[ZCC];omega,by rfl⟩
  |succ k ih=>
   rcases ih with⟨j,hj,h⟩|ih
   ·exact .inl ⟨j,by omega,h⟩
   ·by_cases hs:∀i∈List.range l.length,reachN l (k+1) ((i:Int)+1)=true->reachN l k ((i:Int)+1)=true
    ·exact .inl ⟨k,by omega,hs⟩
    ·right;have:=igZ (p:=fun i:Nat=>reachN l k ((i:Int)+1)) (q:=fun i:Nat=>reachN l (k+1) ((i:Int)+1)) (L:=List.range l.length) (fun i _=>dpZ l k _) (by
      apply ZBs;intro hn;exact hs fun i hi hq=>by
       cases hpp:reachN l k ((i:Int)+1) with
       |true=>rfl
       |false=>exact absurd ⟨i,hi,hpp,hq⟩ hn)
     omega
 rcases grow l.length with⟨j,hj,hs⟩|hg
 ·exact ifZ l hj (stable j hs id h h1 h2)
 ·have:=List.countP_le_length (p:=fun i:Nat=>reachN l l.length ((i:Int)+1)) (l:=List.range l.length);rw[List.length_range] at this;omega
theorem eAZ{l:List Ent}{id:Int}:cnt l id=0↔∀s,(s,id)∉l:=by
 unfold cnt;rw[List.length_eq_zero_iff,List.filter_eq_nil_iff];constructor
 ·intro h s hs;have:=h _ hs;simp at this
 ·intro h e he hh;have:e.2=id:=by simpa using hh
  subst this;exact h e.1 he
theorem lVZ{l:List Ent}(h:Srt l){id:Int}{s:List UInt8}(hm:(s,id)∈l)(hu:∀s',(s',id)∈l->s'=s):cnt l id=1:=by
 unfold cnt;have hs:Srt (l.filter fun e=>e.2==id):=List.Pairwise.filter _ h;have hin:∀e∈l.filter fun e=>e.2==id,e.1=s:=fun e he=>by
  rw[List.mem_filter] at he;have h2:e.2=id:=by simpa using he.2
  exact hu _ (by rw[<-h2];exact he.1)
 have hm':(s,id)∈l.filter fun e=>e.2==id:=List.mem_filter.2 ⟨hm,by simp⟩;cases hL:l.filter (fun e=>e.2==id) with
 |nil=>rw[hL] at hm';cases hm'
 |cons a r=>
  cases r with
  |nil=>rfl
  |cons b r=>
   rw[hL] at hs hin;have:=(ZBJ.1 hs).1 b (by simp);rw[hin a (by simp),hin b (by simp),ecZ] at this;cases this
theorem f4Z{l:List Ino}{e:Ent}:e∈allEnts l↔∃(i:Nat) (n:Ino),l[i]? =some n/\e∈n.2.2.2.2.2.2.2:=by
 unfold allEnts;rw[List.mem_flatMap];constructor
 ·rintro⟨n,hn,he⟩;obtain⟨i,hi⟩:=ZAe hn;exact⟨i,n,hi,he⟩
 ·rintro⟨i,n,hi,he⟩;exact⟨n,ZAN hi,he⟩
theorem odZ{id:Int}:∀{l:List Ino} {p:Nat} {n:Ino},l[p]? =some n->(∀(i:Nat) m,i≠p->l[i]? =some m->cnt m.2.2.2.2.2.2.2 id=0)->cnt (allEnts l) id=cnt n.2.2.2.2.2.2.2 id
 |[],_,_,h,_=>by simp at h
 |a::l,p,n,h,h2=>by
  have e1:allEnts (a::l)=a.2.2.2.2.2.2.2++allEnts l:=by simp[allEnts]
  rw[e1,g2Z];cases p with
  |zero=>
   simp at h;subst h;have:cnt (allEnts l) id=0:=eAZ.2 fun s hs=>by
    obtain⟨i,m,hm,he⟩:=f4Z.1 hs;exact eAZ.1 (h2 (i+1) m (by omega) (by simpa using hm)) s he
   omega
  |succ p=>
   have h0:=h2 0 a (by omega) (by simp);have:=odZ (l:=l) (p:=p) (n:=n) (by simpa using h) fun i m hi hm=>h2 (i+1) m (by omega) (by simpa using hm);omega
theorem RightP.id{t:Tree}(h:RightP t){i:Nat}{n:Ino}(hg:t.1[i]? =some n):n.1=(i:Int)+1:=by
 have:=(h.ino i n hg).id;omega
theorem RightP.srt{t:Tree}(h:RightP t){i:Nat}{n:Ino}(hg:t.1[i]? =some n):Srt n.2.2.2.2.2.2.2:=(glZ (cJZ (h.ino i n hg)).2).1
theorem RightP.lt{t:Tree}(_h:RightP t){i:Nat}{n:Ino}(hg:t.1[i]? =some n):i<t.1.length:=(ZAC.1 hg).1
theorem RightP.isdir{t:Tree}(h:RightP t){i:Nat}{n:Ino}(hg:t.1[i]? =some n){e:Ent}(he:e∈n.2.2.2.2.2.2.2):n.2.2.1=true/\n.2.2.2.1=true:=by
 have ho:=h.ino i n hg;cases hu:n.2.2.1 with
 |false=>rw[(ho.bare hu).2.2.2.2] at he;cases he
 |true=>
  cases hd:n.2.2.2.1 with
  |false=>rw[(ho.file hu hd).2.1] at he;cases he
  |true=>exact⟨rfl,rfl⟩
theorem okZ{t:Tree}(h:TreeOK t):RightT t:=by
 refine⟨h.r,fun n hn e he=> ?_,fun n hn hu=> ?_,fun n hn=> ?_⟩
 ·obtain⟨i,hi⟩:=ZAe hn;obtain⟨h1,_,x,h2,h3,h4⟩:=h.e i n hi e.1 e.2 he;exact⟨h1,x,h2,h3,by rw[h4,h.r.id hi]⟩
 ·obtain⟨i,hi⟩:=ZAe hn;have hlt:=h.r.lt hi;rw[h.r.id hi];exact lLZ h.r.len.1 (fun j x hx hxu=>(h.r.ino j x hx).par hxu) (by omega) (by omega) (h.a i n hi hu)
 ·obtain⟨i,hi⟩:=ZAe hn;have hid:=h.r.id hi;by_cases hc:n.1=1\/n.2.2.1=false
  ·rw[ZAT hc];refine eAZ.2 fun s hs=> ?_;obtain⟨k,m,hm,he⟩:=f4Z.1 hs;obtain⟨_,h1,x,h2,h3,_⟩:=h.e k m hm _ _ he;rcases hc with hc|hc
   ·exact h1 hc
   ·rw[hid,show((i:Int)+1-1).toNat=i from by omega,hi] at h2;cases h2;rw[hc] at h3;cases h3
  ·rw[ZAQ hc];have hu:n.2.2.1=true:=by
    cases hu:n.2.2.1 with
    |true=>rfl
    |false=>exact absurd (.inr hu) hc
   have hi0:i≠0:=fun h0=>hc (.inl (by rw[hid,h0];rfl));obtain⟨m,s,hm,hs,hq⟩:=h.u i n hi hu hi0;rw[odZ hm,hid]
   ·exact lVZ (h.r.srt hm) hs hq
   ·intro k y hk hy;refine eAZ.2 fun s' hs'=> ?_;obtain⟨_,_,x,h2,_,h4⟩:=h.e k y hy _ _ hs';rw[hid,show((i:Int)+1-1).toNat=i from by omega,hi] at h2;cases h2;rw[h4] at hk;omega
theorem cGZ{t:Tree}(h:TreeOK t):tRig fuel t=some true:=by
 obtain⟨b,hb,hq⟩:=gWZ h.r.fit;rw[hb,hq.2 (okZ h)]
end Go.Ab.D
namespace Go.Ab.D
open Go Go.Ab
def IsH(l:List Ino)(h:Int×Int)(n:Ino):Prop:=1<=h.1/\l[(h.1-1).toNat]? =some n/\n.2.2.1=true/\n.2.1=h.2
def IsD(l:List Ino)(h:Int×Int)(n:Ino):Prop:=IsH l h n/\n.2.2.2.1=true
theorem jYZ{t:Tree}(hf:Fit t.1){h:Int×Int}(hn:¬∃n,IsH t.1 h n):inode_Get fuel t h=some (0,0,false,false,0,[],0,[],170):=by
 unfold inode_Get;have hlen:=hf.n;by_cases h1:h.1<1
 ·rw[ZAJ h1,ZAK,ZAA];rfl
 rw[ZAG h1,ZAE,ZAA];by_cases h2:h.1>((t.1.length:Nat):Int)
 ·simp only[ZAJ h2,ZAK]
 simp only[ZAG h2,ZAE];rw[w64 (by omega),aWZ (by omega) (by omega),ZAA];obtain⟨x,hx⟩:∃x,t.1[(h.1-1).toNat]? =some x:=⟨_,ZAD (by omega)⟩;rw[hx,ZAA];cases hu:x.2.2.1 with
 |false=>simp only[ZAy,ZAK,ZAA]
 |true=>
  simp only[ZAP,ZAE,ZAA];cases hg:(x.2.1==h.2) with
  |false=>simp only[ZAy,ZAK]
  |true=>exact absurd ⟨x,by omega,hx,hu,by simpa using hg⟩ hn
theorem hoZ{t:Tree}(hf:Fit t.1){h:Int×Int}{n:Ino}(hn:IsH t.1 h n):inode_Get fuel t h=some (n.1,n.2.1,n.2.2.1,n.2.2.2.1,n.2.2.2.2.1,n.2.2.2.2.2.1,n.2.2.2.2.2.2.1,n.2.2.2.2.2.2.2,0):=by
 unfold inode_Get;have hlen:=hf.n;obtain⟨h1,hx,hu,hg⟩:=hn;obtain⟨n1,n2,n3,n4,n5,n6,n7,n8⟩:=n;simp only at hu hg;subst hu hg;have hlt:=(ZAC.1 hx).1;rw[ZAG (show¬h.1<1 by omega),ZAE,ZAA];simp only[ZAG (show¬h.1>((t.1.length:Nat):Int) by omega),ZAE];rw[w64 (by omega),aWZ (by omega) (by omega),ZAA,hx,ZAA];simp only[ZAP,ZAE,ZAA,ZAV];rw[p1Z (hf.at hx),ZAA]
def dirE(l:List Ino)(h:Int×Int):Int:=
 if 1<=h.1 then match l[(h.1-1).toNat]? with
  |some n=>if n.2.2.1=true/\n.2.1=h.2 then if n.2.2.2.1 then 0 else 173 else 170
  |none=>170
 else 170
theorem iTZ{l:List Ino}{h:Int×Int}{n:Ino}(a:IsD l h n):dirE l h=0:=by
 obtain⟨⟨h1,hx,hu,hg⟩,hd⟩:=a;unfold dirE;rw[ZAT h1,hx];simp[hu,hg,hd]
theorem g0Z(l:List Ino)(h:Int×Int):(∃n,IsD l h n)\/(dirE l h≠0/\((¬∃n,IsH l h n)/\dirE l h=170\/∃n,IsH l h n/\n.2.2.2.1=false/\dirE l h=173)):=by
 unfold dirE;by_cases h1:1<=h.1
 ·rw[ZAT h1];cases hx:l[(h.1-1).toNat]? with
  |none=>right;exact⟨by simp,.inl ⟨fun⟨n,hn⟩=>(by have:=hn.2.1;rw[hx] at this;cases this),rfl⟩⟩
  |some n=>
   simp only;by_cases hu:n.2.2.1=true/\n.2.1=h.2
   ·rw[ZAT hu];cases hd:n.2.2.2.1 with
    |true=>left;exact⟨n,⟨h1,hx,hu.1,hu.2⟩,hd⟩
    |false=>right;exact⟨by simp,.inr ⟨n,⟨h1,hx,hu.1,hu.2⟩,hd,by simp⟩⟩
   ·rw[ZAQ hu];right;exact⟨by simp,.inl ⟨fun⟨m,hm⟩=>by
     have:=hm.2.1;rw[hx] at this;cases this;exact hu ⟨hm.2.2.1,hm.2.2.2⟩,by rfl⟩⟩
 ·rw[ZAQ h1];right;exact⟨by simp,.inl ⟨fun⟨n,hn⟩=>h1 hn.1,rfl⟩⟩
theorem gMZ{t:Tree}(hf:Fit t.1){h:Int×Int}(hb:dirE t.1 h≠0):∃v:Ino,tdir fuel t h=some (v.1,v.2.1,v.2.2.1,v.2.2.2.1,v.2.2.2.2.1,v.2.2.2.2.2.1,v.2.2.2.2.2.2.1,v.2.2.2.2.2.2.2,dirE t.1 h):=by
 rcases g0Z t.1 h with⟨n,hn⟩|⟨_,hn|⟨n,hn,hd,he⟩⟩
 ·exact absurd (iTZ hn) hb
 ·unfold tdir;rw[show((t.1,t.2):Tree)=t from rfl,show((h.1,h.2):Int×Int)=h from rfl,jYZ hf hn.1,ZAA,hn.2];exact⟨(0,0,false,false,0,[],0,[]),rfl⟩
 ·unfold tdir;rw[show((t.1,t.2):Tree)=t from rfl,show((h.1,h.2):Int×Int)=h from rfl,hoZ hf hn,ZAA,he];simp only[ZAV,ZAK,ZAA,hd,ZAy];exact⟨(0,0,false,false,0,[],0,[]),rfl⟩
theorem gbZ{t:Tree}(hf:Fit t.1){h:Int×Int}{n:Ino}(hn:IsD t.1 h n):tdir fuel t h=some (n.1,n.2.1,n.2.2.1,n.2.2.2.1,n.2.2.2.2.1,n.2.2.2.2.2.1,n.2.2.2.2.2.2.1,n.2.2.2.2.2.2.2,0):=by
 unfold tdir;rw[show((t.1,t.2):Tree)=t from rfl,show((h.1,h.2):Int×Int)=h from rfl,hoZ hf hn.1,ZAA];simp only[ZAV,ZAK,ZAA,hn.2,ZAP,ZAE]
theorem e3Z{t:Tree}(hf:Fit t.1){l:List (Int×Int)}{k:Nat}{d:Int×Int}{n:Ino}{out:List Ino}(hl:l.length<=10)(hk:l[k]? =some d)(hn:IsD t.1 d n)(ho:out.length<=10):
 task_l0 fuel l (k:Int) t.1 t.2 out=some (.inl (((k+1:Nat):Int),t.1,t.2,out++[n])):=by
 have hlt:=(ZAC.1 hk).1;unfold task_l0;rw[aYZ hlt,ZAK,anZ hlt,ZAA,hk,ZAA,show((d.1,d.2):Int×Int)=d from rfl,gbZ (t:=(t.1,t.2)) hf hn,ZAA];simp only[ZAV,ZAP,ZAE];rw[adZ (by simp only[ZAB,ZAm,avZ];omega),w64 (by omega)]
 rfl
theorem fFZ{t:Tree}(hf:Fit t.1){l:List (Int×Int)}{k:Nat}{d:Int×Int}{out:List Ino}(hk:l[k]? =some d)(hb:dirE t.1 d≠0):
 task_l0 fuel l (k:Int) t.1 t.2 out=some (.inr (.inr (dirE t.1 d,[]))):=by
 have hlt:=(ZAC.1 hk).1;obtain⟨v,hv⟩:=gMZ hf hb;unfold task_l0;rw[aYZ hlt,ZAK,anZ hlt,ZAA,hk,ZAA,show((d.1,d.2):Int×Int)=d from rfl,show((t.1,t.2):Tree)=t from rfl,hv,ZAA];simp only[ZA5.2 hb,ZAy,ZAK]
theorem eXZ{t:Tree}{l:List (Int×Int)}{k:Nat}{out:List Ino}(hk:l.length=k):task_l0 fuel l (k:Int) t.1 t.2 out=some (.inr (.inl out)):=by
 unfold task_l0;rw[aHZ (by omega),ZAE]
theorem rmZ:∃m,fuel=m+1+1+1:=⟨4611686018427387901,rfl⟩
theorem kKZ{t:Tree}(h:TreeOK t){d:Int×Int}(hb:dirE t.1 d≠0):task fuel t [d]=some (dirE t.1 d,[]):=by
 unfold task task_l0_it;rw[show((t.1,t.2):Tree)=t from rfl,cGZ h,ZAA,ZAP,ZAE];obtain⟨m,hm⟩:=rmZ
 conv=>lhs;arg 1;arg 1;rw[hm]
 rw[cUZ (o:=.inr (dirE t.1 d,[])) (by exact fFZ (k:=0) h.r.fit rfl hb)]
 rfl
theorem ciZ{t:Tree}(h:TreeOK t){d:Int×Int}{n:Ino}(hn:IsD t.1 d n):task fuel t [d]=some (0,[n]):=by
 unfold task task_l0_it;rw[show((t.1,t.2):Tree)=t from rfl,cGZ h,ZAA,ZAP,ZAE];obtain⟨m,hm⟩:=rmZ
 conv=>lhs;arg 1;arg 1;rw[hm]
 rw[gHZ (s':=(((1:Nat):Int),t.1,t.2,[n])) (by exact e3Z (k:=0) (out:=[]) h.r.fit (by simp) rfl hn (by simp)),
  cUZ (o:=.inl [n]) (by exact eXZ (k:=1) rfl)]
 rfl
theorem TreeOK.srt{t:Tree}(h:TreeOK t){d:Int×Int}{n:Ino}(hn:IsH t.1 d n):Srt n.2.2.2.2.2.2.2:=h.r.srt hn.2.1
theorem TreeOK.few{t:Tree}(h:TreeOK t){d:Int×Int}{n:Ino}(hn:IsH t.1 d n):n.2.2.2.2.2.2.2.length<=100:=(cJZ (h.r.ino _ _ hn.2.1)).1
theorem TreeOK.ent_ok{t:Tree}(h:TreeOK t){d:Int×Int}{n:Ino}(hn:IsD t.1 d n)(s:List UInt8):tent fuel n s=some (((pos n.2.2.2.2.2.2.2 s:Nat):Int),hasN n.2.2.2.2.2.2.2 s):=
 k4Z s (h.srt hn.1) (by have:=h.few hn.1;omega)
def behind(l:List Ent)(s:List UInt8):List Ent:=l.drop (pos l s+if hasN l s then 1 else 0)
end Go.Ab.D
namespace Go.Ab
theorem oIZ{α:Type}(p:α->Bool)(L:List α)(hL:L.length<=1000000000000)(f:Int->Option (Int⊕(Unit⊕Int)))
 (hs:∀(i:Nat) x,L[i]? =some x->f (i:Int)=some (if p x=true then .inr (.inr (i:Int)) else .inl ((i+1:Nat):Int)))
 (he:f ((L.length:Nat):Int)=some (.inr (.inl ()))):
 iter fuel f 0=some (match L.findIdx? p with|some n=>.inr (n:Int)|none=>.inl ()):=by
 have:=aRZ (f:=f) (fun m s=>∃(i:Nat),s=(i:Int)/\i+m=L.length/\∀k,k<i->∀x,L[k]? =some x->p x=false)
  (fun o=>o=(match L.findIdx? p with|some n=>.inr (n:Int)|none=>.inl ())) (fun m s hI=> ?_) (fun s hI=> ?_) L.length 0 (by omega) ⟨0,rfl,by omega,fun k h=>absurd h (ZCE _)⟩
 ·obtain⟨o,ho,rfl⟩:=this;exact ho
 ·obtain⟨i,rfl,g1,g2⟩:=hI;have hi:i<L.length:=by omega
  have hx:L[i]? =some L[i]:=ZAD hi;rw[hs i _ hx];cases hp:p L[i] with
  |true=>
   right;refine⟨_,by rw[ZAT rfl],?_⟩;have:L.findIdx? p=some i:=ZBl.2 ⟨hi,hp,fun j hj=>by simpa using g2 j hj _ (ZAD (by omega))⟩;rw[this]
  |false=>
   left;refine⟨_,by rw[ZAQ (by simp)],i+1,rfl,by omega,fun k hk x hx'=> ?_⟩;by_cases hki:k=i
   ·subst hki;rw[hx] at hx';cases hx';exact hp
   ·exact g2 k (by omega) x hx'
 ·obtain⟨i,rfl,g1,g2⟩:=hI;have:i=L.length:=by omega
  subst this;refine⟨_,he,?_⟩;have:L.findIdx? p=none:=List.findIdx?_eq_none_iff.2 fun x hx=>by
   obtain⟨k,hk⟩:=ZAe hx;exact g2 k (ZAC.1 hk).1 x hk
  rw[this]
end Go.Ab
namespace Go.Ab
end Go.Ab
namespace Go.Ab
abbrev RefT(μ:Type):Type:=List μ⊕Option (Nat×(Nat×Nat))
section
variable {ρ κ μ : Type}
def part(ms:List (Nat×List μ))(x:RefT μ)(l:List μ):Prop:=(x= .inr none/\l=[])\/∃j,x= .inr (some (j,(0,l.length)))/\ms[j]? =some (1,l)
def viewM(ms:List (Nat×List μ))(x:RefT μ):Option (List μ):=
 match x with
 |.inl l=>some l
 |.inr none=>some []
 |.inr (some (k,off,n))=>memb ms k off n
theorem q3Z{ms:List (Nat×List μ)}{k:Nat}{l:List μ}{s:Nat}(h:ms[k]? =some (s,l))(hs:2<=s):memb ms k 0 l.length=some l:=by
 unfold memb;rw[h];have e:(Nat.ble 2 s&&Nat.ble (0+l.length) l.length)=true:=by simpa using hs
 simp only[e,bq_true,ZBr,ZBU]
theorem part.view{ms:List (Nat×List μ)}{x:RefT μ}{l:List μ}(h:part ms x l):viewM (ms.map frz1) x=some l:=by
 rcases h with⟨rfl,rfl⟩|⟨j,rfl,h⟩
 ·rfl
 ·exact q3Z (s:=2) (by rw[ZAW,h];rfl) (ZAM _)
variable (ref : ρ → RefT μ) (lst : κ → List μ) (same : ρ → κ → Prop)
structure Fam (rows:List ρ) (ms:List (Nat×List μ)) (ks:List κ):Prop where
 len:rows.length=ks.length
 at_:∀(i:Nat) row k,rows[i]? =some row->ks[i]? =some k->same row k/\part ms (ref row) (lst k)
 inj:∀(i i':Nat) row row' j n n',i≠i'->rows[i]? =some row->rows[i']? =some row'->ref row= .inr (some (j,n))->ref row'= .inr (some (j,n'))->False
variable {ref lst same} {rows : List ρ} {ms : List (Nat × List μ)} {ks : List κ}
theorem part.lt{x:RefT μ}{l:List μ}(h:part ms x l){j:Nat}{n:Nat×Nat}(hx:x= .inr (some (j,n))):j<ms.length:=by
 rcases h with⟨h,_⟩|⟨j',h,h2⟩
 ·rw[h] at hx;cases hx
 ·rw[h] at hx;injection hx with hx;injection hx with hx;injection hx with hx _;subst hx;exact(ZAC.1 h2).1
theorem Fam.row(h:Fam ref lst same rows ms ks){i:Nat}{k:κ}(hk:ks[i]? =some k):∃row,rows[i]? =some row/\same row k/\part ms (ref row) (lst k):=by
 have hi:i<rows.length:=by rw[h.len];exact(ZAC.1 hk).1
 exact⟨_,ZAD hi,h.at_ i _ k (ZAD hi) hk⟩
theorem Fam.open_(h:Fam ref lst same rows ms ks){i:Nat}{row:ρ}{k:κ}(hr:rows[i]? =some row)(hk:ks[i]? =some k):
 ∃ms',openM ms (ref row)=some (lst k,ms')/\ms'.length=ms.length/\∀row' k',same row' k'->ref row'= .inr (some (ms'.length,(0,(lst k').length)))->Fam ref lst same (rows.set i row') (ms'++[(1,lst k')]) (ks.set i k'):=by
 have hi:=(ZAC.1 hr).1;obtain⟨hs,hp⟩:=h.at_ i row k hr hk;have main:∀ms':List (Nat×List μ),ms'.length=ms.length->(∀i' row',i'≠i->rows[i']? =some row'->∀j n,ref row'= .inr (some (j,n))->ms'[j]? =ms[j]?)->∀row' k',same row' k'->ref row'= .inr (some (ms'.length,(0,(lst k').length)))->Fam ref lst same (rows.set i row') (ms'++[(1,lst k')]) (ks.set i k'):=by
  intro ms' hl hsame row' k' hs' hr';refine⟨by rw[ZA2,ZA2];exact h.len,fun i' x y hx hy=> ?_,fun a b x y j n n' hab hx hy hjx hjy=> ?_⟩
  ·by_cases he:i'=i
   ·subst he;rw[ZAU (by omega)] at hx;rw[ZAU (by rw[<-h.len];omega)] at hy;cases hx;cases hy;exact⟨hs',.inr ⟨_,hr',by rw[ZAO (ZAM _),ZBx];rfl⟩⟩
   ·rw[ZAg (by omega)] at hx hy;obtain⟨g1,g2⟩:=h.at_ i' x y hx hy;refine⟨g1,?_⟩;rcases g2 with g2|⟨j,g2,g3⟩
    ·exact .inl g2
    ·refine .inr ⟨j,g2,?_⟩;have hj:=(ZAC.1 g3).1;rw[ZAL (by omega),hsame i' x he hx j _ g2];exact g3
  ·have hlt:∀(q:Nat) z,rows[q]? =some z->∀n,ref z= .inr (some (j,n))->j<ms.length:=fun q z hq n hz=>by
    have hq':=(ZAC.1 hq).1;exact(h.at_ q z _ hq (ZAD (by rw[<-h.len];exact hq'))).2.lt hz
   by_cases ha:a=i
   ·subst ha;rw[ZAU (by omega)] at hx;cases hx;rw[ZAg hab] at hy;rw[hr'] at hjx;injection hjx with e;injection e with e;injection e with e _;have:=hlt _ _ hy _ hjy;omega
   ·rw[ZAg (by omega)] at hx;by_cases hb:b=i
    ·subst hb;rw[ZAU (by omega)] at hy;cases hy;rw[hr'] at hjy;injection hjy with e;injection e with e;injection e with e _;have:=hlt _ _ hx _ hjx;omega
    ·rw[ZAg (by omega)] at hy;exact h.inj a b x y j n n' hab hx hy hjx hjy
 rcases hp with⟨h1,h2⟩|⟨j,h1,h2⟩
 ·refine⟨ms,by rw[h1,h2];rfl,rfl,main ms rfl fun _ _ _ _ _ _ _=>rfl⟩
 ·refine⟨ms.set j (0,lst k),?_,ZA2 ..,main _ (ZA2 ..) fun i' row' hi' hr' j' n hj'=> ?_⟩
  ·rw[h1];show ms[j]?.bind _=_;rw[h2];have e:(Nat.beq 1 1&&Nat.beq 0 0&&Nat.ble (lst k).length (lst k).length)=true:=by simp
   simp only[ZAA,e];show some (List.take (lst k).length (lst k),_)=_;rw[ZBU]
  ·refine ZAg fun hc=> ?_;subst hc;exact h.inj i i' row row' _ _ _ (ZBd hi') hr hr' h1 hj'
theorem Fam.insert(h:Fam ref lst same rows ms ks){q:Nat}(hq:q<=rows.length){row:ρ}{k:κ}(hs:same row k)(hr:ref row= .inr none)(hl:lst k=[]):Fam ref lst same (rows.take q++[row]++rows.drop q) ms (ks.take q++[k]++ks.drop q):=by
 have get:∀{α:Type} (l:List α) (x:α),q<=l.length->∀i,(l.take q++[x]++l.drop q)[i]? =if i<q then l[i]? else if i=q then some x else l[i-1]? :=fun l x hl i=>by
  have e1:(l.take q).length=q:=by rw[ZAS];omega
  by_cases c1:i<q
  ·rw[ZAT c1,ZAr,ZAL (by omega),ZAn,ZAT c1]
  ·rw[ZAQ c1];by_cases c2:i=q
   ·subst c2;rw[ZAT rfl,ZAr,ZAO (by omega),e1];simp
   ·rw[ZAQ c2,ZAO (by simp;omega),ZAw];congr 1;simp only[ZAY,e1,List.length_singleton];omega
 refine⟨?_,fun i x y hx hy=> ?_,fun a b x y j n n' hab hx hy hjx hjy=> ?_⟩
 ·simp only[ZAY,ZAS,ZAv,List.length_singleton,h.len]
 ·rw[get _ _ hq] at hx;rw[get _ _ (by rw[<-h.len];exact hq)] at hy;by_cases c1:i<q
  ·rw[ZAT c1] at hx hy;exact h.at_ i x y hx hy
  ·rw[ZAQ c1] at hx hy;by_cases c2:i=q
   ·rw[ZAT c2] at hx hy;cases hx;cases hy;exact⟨hs,.inl ⟨hr,hl⟩⟩
   ·rw[ZAQ c2] at hx hy;exact h.at_ _ x y hx hy
 ·rw[get _ _ hq] at hx hy;have noq:∀i x,¬i<q->i=q->(if i<q then rows[i]? else if i=q then some row else rows[i-1]?)=some x->∀n,ref x= .inr (some (j,n))->False:=fun i x c1 c2 hx n hj=>by
   rw[ZAQ c1,ZAT c2] at hx;cases hx;rw[hr] at hj;cases hj
  by_cases a1:a<q
  ·by_cases b1:b<q
   ·rw[ZAT a1] at hx;rw[ZAT b1] at hy;exact h.inj a b x y j n n' hab hx hy hjx hjy
   ·by_cases b2:b=q
    ·exact noq b y b1 b2 hy n' hjy
    ·rw[ZAT a1] at hx;rw[ZAQ b1,ZAQ b2] at hy;exact h.inj a (b-1) x y j n n' (by omega) hx hy hjx hjy
  ·by_cases a2:a=q
   ·exact noq a x a1 a2 hx n hjx
   ·rw[ZAQ a1,ZAQ a2] at hx;by_cases b1:b<q
    ·rw[ZAT b1] at hy;exact h.inj (a-1) b x y j n n' (by omega) hx hy hjx hjy
    ·by_cases b2:b=q
     ·exact noq b y b1 b2 hy n' hjy
     ·rw[ZAQ b1,ZAQ b2] at hy;exact h.inj (a-1) (b-1) x y j n n' (by omega) hx hy hjx hjy
theorem Fam.keep(h:Fam ref lst same rows ms ks){i:Nat}{row row':ρ}{k k':κ}(hr:rows[i]? =some row)(hk:ks[i]? =some k)(hs:same row' k')(he:ref row'=ref row)(hl:lst k'=lst k):Fam ref lst same (rows.set i row') ms (ks.set i k'):=by
 have hi:=(ZAC.1 hr).1;have hg:∀a x,(rows.set i row')[a]? =some x->∃x0,rows[a]? =some x0/\ref x=ref x0:=fun a x hx=>by
  by_cases c:a=i
  ·subst c;rw[ZAU hi] at hx;cases hx;exact⟨row,hr,he⟩
  ·rw[ZAg (by omega)] at hx;exact⟨x,hx,rfl⟩
 refine⟨by rw[ZA2,ZA2];exact h.len,fun a x y hx hy=> ?_,fun a b x y j n n' hab hx hy hjx hjy=> ?_⟩
 ·by_cases c:a=i
  ·subst c;rw[ZAU hi] at hx;rw[ZAU (by rw[<-h.len];exact hi)] at hy;cases hx;cases hy;exact⟨hs,by rw[he,hl];exact(h.at_ a row k hr hk).2⟩
  ·rw[ZAg (by omega)] at hx hy;exact h.at_ a x y hx hy
 ·obtain⟨x0,g1,g2⟩:=hg a x hx;obtain⟨y0,g3,g4⟩:=hg b y hy;exact h.inj a b x0 y0 j n n' hab g1 g3 (g2▸hjx) (g4▸hjy)
theorem iiZ{α γ:Type}(g:α->Option γ):∀(l:List α) (l':List γ),l.length=l'.length->(∀(i:Nat) x y,l[i]? =some x->l'[i]? =some y->g x=some y)->unrefL g l=some l'
 |[],[],_,_=>rfl
 |[],_::_,h,_=>by simp at h
 |_::_,[],h,_=>by simp at h
 |x::l,y::l',h,hp=>by
  have ih:=iiZ g l l' (by simpa using h) fun i a b ha hb=>hp (i+1) a b (by simpa using ha) (by simpa using hb);show(g x).bind _=_;rw[hp 0 x y (by simp) (by simp)];simp[ih]
theorem Fam.pure(h:Fam ref lst same rows ms ks)(g:ρ->Option κ)(hg:∀row k,same row k->viewM (ms.map frz1) (ref row)=some (lst k)->g row=some k):unrefL g rows=some ks:=
 iiZ g rows ks h.len fun i x y hx hy=>hg x y (h.at_ i x y hx hy).1 (h.at_ i x y hx hy).2.view
end
end Go.Ab
namespace Go.Ab.D
open Go Go.Ab
def taken(n:Ino)(dir:Bool)(parent:Int):Ino:=(n.1,n.2.1+1,true,dir,n.2.2.2.2.1,n.2.2.2.2.2.1,parent,n.2.2.2.2.2.2.2)
def freeAt(l:List Ino):Option Nat:=l.findIdx? fun n=> !n.2.2.1
theorem qAZ{l:List Ino}(hl:l.length<=100000):sIndFun2 fuel l=some (match freeAt l with|some n=>(n:Int)|none=> -1):=by
 unfold sIndFun2 sIndFun2_l0_it;have e:iter fuel (fun tt=>sIndFun2_l0 fuel l tt) 0=_:=oIZ (fun n:Ino=> !n.2.2.1) l (by omega) (fun tt=>sIndFun2_l0 fuel l tt) (fun i x hx=>by
  unfold sIndFun2_l0 iAll1;have hlt:=(ZAC.1 hx).1;simp only[aYZ hlt,ZAK];rw[anZ hlt,ZAA,hx,ZAA,ZAA,w64 (by omega)];cases x.2.2.1<;>rfl) (by
  unfold sIndFun2_l0;simp only[aHZ (ZBL _),ZAE])
 rw[e,ZAA];unfold freeAt;cases l.findIdx? (fun n:Ino=> !n.2.2.1)<;>rfl
theorem jTZ{α:Type}{l:List α}{i:Nat}(h:i<l.length)(x:α):(l.set i x)[i]? =some x:=by simp[h]
end Go.Ab.D
namespace Go.Ab.D
open Go Go.Ab
def isGone(p:Part):Bool:=(p.1==0)&&(p.2==0)
def emptied(n:Ino)(id:Int):Ino:=(id,n.2.1,false,false,0,[],0,[])
end Go.Ab.D
namespace Go.Ab
section
variable {ρ κ μ : Type} {ref : ρ → RefT μ} {lst : κ → List μ} {same : ρ → κ → Prop} {rows : List ρ} {ms : List (Nat × List μ)} {ks : List κ}
end
end Go.Ab
namespace Go.Ab.D
open Go Go.Ab
abbrev PTy:Ty:=.pair (.int .i64) (.int .i64)
abbrev ETy:Ty:=.pair .str (.int .i64)
abbrev TE:Ty:=.pair (.int .i64) (.pair (.int .i64) (.pair .bool (.pair .bool (.pair (.int .i64) (.pair (.sl PTy) (.pair (.int .i64) (.ref 1 ETy)))))))
abbrev InoE:=Int×Int×Bool×Bool×Int×List Part×Int×RefT Ent
abbrev MsE:=List (Nat×List Ent)
def toE(n:Ino)(x:RefT Ent):InoE:=(n.1,n.2.1,n.2.2.1,n.2.2.2.1,n.2.2.2.2.1,n.2.2.2.2.2.1,n.2.2.2.2.2.2.1,x)
abbrev FamE(rows:List InoE)(ms:MsE)(ks:List Ino):Prop:=Fam (fun r:InoE=>r.2.2.2.2.2.2.2) (fun k:Ino=>k.2.2.2.2.2.2.2) (fun r k=>∃x,r=toE k x) rows ms ks
theorem FamE.pure1{rows:List InoE}{ms:MsE}{ks:List Ino}(h:FamE rows ms ks):unrefL (unrefD [⟨1,ETy,ms.map frz1⟩] TE) rows=some ks:=
 h.pure (unrefD [⟨1,ETy,ms.map frz1⟩] TE) fun row k hs hv=>by
  obtain⟨x,rfl⟩:=hs;have hv:viewM (ms.map frz1) x=some k.2.2.2.2.2.2.2:=hv;have e:unrefD [⟨1,ETy,ms.map frz1⟩] (.ref 1 ETy) x=some k.2.2.2.2.2.2.2:=by rw[<-hv];rcases x with l|(_|⟨k,o,n⟩)<;>rfl
  show((some k.1).bind fun y=>(((some k.2.1).bind fun y=>(((some k.2.2.1).bind fun y=>(((some k.2.2.2.1).bind fun y=>(((some k.2.2.2.2.1).bind fun y=>(((some k.2.2.2.2.2.1).bind fun y=>(((some k.2.2.2.2.2.2.1).bind fun y=>(unrefD [⟨1,ETy,ms.map frz1⟩] (.ref 1 ETy) x).map fun z=>(y,z)).map fun z=>(y,z))).map fun z=>(y,z))).map fun z=>(y,z))).map fun z=>(y,z))).map fun z=>(y,z))).map fun z=>(y,z)))=_;rw[e]
  rfl
theorem FamE.one{rows:List InoE}{ms:MsE}{ks:List Ino}(h:FamE rows ms ks){i:Nat}{row:InoE}{k:Ino}(hr:rows[i]? =some row)(hk:ks[i]? =some k):unrefD [⟨1,ETy,ms.map frz1⟩] TE row=some k:=by
 obtain⟨⟨x,rfl⟩,hp⟩:=h.at_ i row k hr hk;have hv:viewM (ms.map frz1) x=some k.2.2.2.2.2.2.2:=hp.view;have e:unrefD [⟨1,ETy,ms.map frz1⟩] (.ref 1 ETy) x=some k.2.2.2.2.2.2.2:=by rw[<-hv];rcases x with l|(_|⟨k,o,n⟩)<;>rfl
 show((some k.1).bind fun y=>(((some k.2.1).bind fun y=>(((some k.2.2.1).bind fun y=>(((some k.2.2.2.1).bind fun y=>(((some k.2.2.2.2.1).bind fun y=>(((some k.2.2.2.2.2.1).bind fun y=>(((some k.2.2.2.2.2.2.1).bind fun y=>(unrefD [⟨1,ETy,ms.map frz1⟩] (.ref 1 ETy) x).map fun z=>(y,z)).map fun z=>(y,z))).map fun z=>(y,z))).map fun z=>(y,z))).map fun z=>(y,z))).map fun z=>(y,z))).map fun z=>(y,z)))=_;rw[e]
 rfl
end Go.Ab.D
namespace Go.Ab
section
variable {ρ κ μ ν : Type}
structure InvC (mk:κ->RefT μ->ρ) (lst:κ->List μ) (ks:List κ) (n:Nat) (rows:List ρ) (ms:List (Nat×List μ)):Prop where
 len:rows.length=ks.length
 lm:ms.length=n
 at_:∀(i:Nat) k,ks[i]? =some k->(i<n->rows[i]? =some (mk k (.inr (some (i,(0,(lst k).length)))))/\ms[i]? =some (1,lst k))/\(n<=i->rows[i]? =some (mk k (.inl (lst k))))
variable {mk : κ → RefT μ → ρ} {lst : κ → List μ} {ks : List κ} {n : Nat} {rows : List ρ} {ms : List (Nat × List μ)}
theorem InvC.step(h:InvC mk lst ks n rows ms){k:κ}(hk:ks[n]? =some k):InvC mk lst ks (n+1) (rows.set n (mk k (.inr (some (n,(0,(lst k).length)))))) (ms++[(1,lst k)]):=by
 have hn:=(ZAC.1 hk).1;have hl:=h.len;have hm:=h.lm;refine⟨by rw[ZA2];exact h.len,by simp[h.lm],fun i k' hg'=>⟨fun hi=> ?_,fun hi=> ?_⟩⟩
 ·by_cases hin:i=n
  ·subst hin;rw[hk] at hg';cases hg';exact⟨ZAU (by omega),by rw[ZAO (by omega),h.lm,ZBx];rfl⟩
  ·have:=(h.at_ i k' hg').1 (by omega);rw[ZAg (by omega),ZAL (by omega)];exact this
 ·rw[ZAg (by omega)];exact(h.at_ i k' hg').2 (by omega)
theorem InvC.fam(h:InvC mk lst ks ks.length rows ms){ref:ρ->RefT μ}{same:ρ->κ->Prop}(hr:∀k x,ref (mk k x)=x)(hs:∀k x,same (mk k x) k):Fam ref lst same rows ms ks:=by
 refine⟨h.len,fun i row k hg hk=> ?_,fun i i' row row' j p p' hii hg hg' hj hj'=> ?_⟩
 ·obtain⟨e1,e2⟩:=(h.at_ i k hk).1 (ZAC.1 hk).1;rw[e1] at hg;cases hg;exact⟨hs _ _,.inr ⟨i,hr _ _,e2⟩⟩
 ·have look:∀i row,rows[i]? =some row->∀p,ref row= .inr (some (j,p))->j=i:=fun i row hg p hj=>by
   have hi:=(ZAC.1 hg).1;rw[h.len] at hi;obtain⟨e1,_⟩:=(h.at_ i _ (ZAD hi)).1 hi;rw[e1] at hg;cases hg;rw[hr] at hj;cases hj
   rfl
  exact hii ((look i row hg p hj).symm.trans (look i' row' hg' p' hj'))
structure InvC2 (mk:κ->RefT μ->RefT ν->ρ) (lst:κ->List μ) (lst2:κ->List ν) (ks:List κ) (n:Nat) (rows:List ρ) (ms:List (Nat×List μ)) (m2:List (Nat×List ν)):Prop where
 len:rows.length=ks.length
 lm:ms.length=n
 lm2:m2.length=n
 at_:∀(i:Nat) k,ks[i]? =some k->(i<n->rows[i]? =some (mk k (.inr (some (i,(0,(lst k).length)))) (.inr (some (i,(0,(lst2 k).length)))))/\ms[i]? =some (1,lst k)/\m2[i]? =some (1,lst2 k))/\(n<=i->rows[i]? =some (mk k (.inl (lst k)) (.inl (lst2 k))))
variable {mk2 : κ → RefT μ → RefT ν → ρ} {lst2 : κ → List ν} {m2 : List (Nat × List ν)}
end
end Go.Ab
namespace Go.Ab.D
open Go Go.Ab
abbrev entsI(n:Ino):List Ent:=n.2.2.2.2.2.2.2
theorem rdZ(ks:List Ino):InvC toE entsI ks 0 (List.map (liftT TE) (show List (TE.unref.den) from ks)) []:=
 ⟨ZBB _,rfl,fun i k hg=>⟨fun hc=>absurd hc (ZCE _),fun _=>by
  show(List.map (liftT TE) (show List (TE.unref.den) from ks))[i]? =some (liftT TE k);rw[ZAW];show((show List Ino from ks)[i]?).map _=_;rw[hg]
  rfl⟩⟩
theorem hqZ{t:Tree}(h:Fit t.1):∃rows ms,icopE fuel t=some (t.2,(rows,ms))/\FamE rows ms t.1:=by
 unfold icopE;have hn:=h.n;rw[e7Z hn,ZAA];have loop:∃o,icopE_l0_it fuel t.1 (0,(t.2,((List.map (liftT TE) (show List (TE.unref.den) from t.1)),(0,[]))))=some o/\∃rows ms,o=(t.2,(rows,(0,ms)))/\InvC toE entsI t.1 t.1.length rows ms:=by
  unfold icopE_l0_it;refine aRZ (fun m s=>∃(n:Nat) (rows:List InoE) (ms:MsE),s=((n:Int),(t.2,(rows,(0,ms))))/\n+m=t.1.length/\InvC toE entsI t.1 n rows ms) _ (fun m s hI=> ?_) (fun s hI=> ?_) t.1.length _ (by omega) ⟨0,_,[],rfl,by omega,rdZ t.1⟩
  ·obtain⟨n,rows,ms,rfl,hk,hI⟩:=hI;have hlt:n<t.1.length:=by omega
   obtain⟨k,hg⟩:∃k,t.1[n]? =some k:=⟨_,ZAD hlt⟩;have hrow:=(hI.at_ n k hg).2 (ZAM _);have hsm:=h.at hg;left;refine⟨(((n+1:Nat):Int),(t.2,(rows.set n (toE k (.inr (some (n,(0,(entsI k).length))))),(0,ms++[(1,entsI k)])))),?_,n+1,_,_,rfl,by omega,hI.step hg⟩;have hlr:n<rows.length:=by rw[hI.len];exact hlt
   unfold icopE_l0;simp only[aYZ hlt,ZAK];rw[anZ hlr];simp only[ZAA,hrow];rw[show lowD (Ty.ref 1 ETy) (toE k (.inl (entsI k))).2.2.2.2.2.2.2=some (entsI k) from rfl];erw[ZAA];rw[show inode_own fuel ((toE k (.inl (entsI k))).1,((toE k (.inl (entsI k))).2.1,((toE k (.inl (entsI k))).2.2.1,((toE k (.inl (entsI k))).2.2.2.1,((toE k (.inl (entsI k))).2.2.2.2.1,((toE k (.inl (entsI k))).2.2.2.2.2.1,((toE k (.inl (entsI k))).2.2.2.2.2.2.1,entsI k)))))))=_ from p1Z (n:=k) hsm,ZAA];rw[w64 (by omega),hI.lm,show((n:Int)+1)=((n+1:Nat):Int) from by simp]
   rfl
  ·obtain⟨n,rows,ms,rfl,hk,hI⟩:=hI;have:n=t.1.length:=by omega
   subst this;unfold icopE_l0;simp only[aHZ (ZBL _),ZAE];exact⟨_,rfl,rows,ms,rfl,hI⟩
 obtain⟨o,ho,rows,ms,rfl,hI⟩:=loop;exact⟨rows,ms,by rw[show icopE_l0_it fuel t.1 (0,(t.2,((List.map (liftT TE) (show List (TE.unref.den) from t.1)),(0,[]))))=_ from ho];rfl,hI.fam (fun _ _=>rfl) fun k x=>⟨x,rfl⟩⟩
theorem cDZ{t:Tree}(h:Fit t.1):tcop fuel t=some (t.2,t.1):=by
 unfold tcop;rw[e7Z h.n,ZAA];have loop:tcop_l0_it fuel t.1 (0,(t.2,(t.1,0)))=some (t.2,(t.1,0)):=by
  unfold tcop_l0_it;refine a4Z (fun k=>((k:Int),(t.2,(t.1,0)))) t.1.length (by have:=h.n;omega) (fun k hk=> ?_) ?_
  ·unfold tcop_l0;obtain⟨n,hg⟩:∃n,t.1[k]? =some n:=⟨_,ZAD hk⟩;have hsm:=h.at hg;have hs:t.1.set k n=t.1:=e9Z hg;simp only[aYZ hk,ZAK];rw[anZ hk];simp only[ZAA,hg];rw[c9Z hsm.1,ZAA,e6Z hsm.2,ZAA];show((t.1.set k n)[k]?.bind _)=_;rw[hs,hg,ZAA,w64 (by have:=h.n;omega)];show some (Sum.inl (_,(t.2,(t.1.set k n,0))))=_;rw[hs]
   rfl
  ·unfold tcop_l0;simp only[aHZ (ZBL _),ZAE]
 rw[loop,ZAA]
end Go.Ab.D
namespace Go.Ab.D
open Go Go.Ab
def wE(n:Ino)(l:List Ent):Ino:=(n.1,n.2.1,n.2.2.1,n.2.2.2.1,n.2.2.2.2.1,n.2.2.2.2.2.1,n.2.2.2.2.2.2.1,l)
def wP(n:Ino)(p:Int):Ino:=(n.1,n.2.1,n.2.2.1,n.2.2.2.1,n.2.2.2.2.1,n.2.2.2.2.2.1,p,n.2.2.2.2.2.2.2)
theorem mbZ{l:List Ent}(s:List UInt8)(id:Int)(hl:l.length<=100000):sIns fuel ((pos l s:Nat):Int) l [(s,id)]=some ([(s,id)],insE l s id):=by
 unfold sIns;rw[a8Z (khZ l s),ZAA,adZ]
 ·rfl
 ·simp only[ZAB,ZAm,avZ,List.length_singleton,ZBW];omega
theorem pKZ{rows ex:List InoE}{ms:MsE}{ks:List Ino}(st:Int){dir:Int}{n:Ino}(s:List UInt8)(id:Int)(hF:FamE rows ms ks)(hks:ks.length+ex.length<=100000)(h1:1<=dir)(hn:ks[(dir-1).toNat]? =some n)(hs:Srt n.2.2.2.2.2.2.2)(hl:n.2.2.2.2.2.2.2.length<=100000):
 ∃rows' ms',tput fuel dir s id st (rows++ex) ms=some (st,(rows'++ex,ms'))/\FamE rows' ms' (ks.set (dir-1).toNat (wE n (insE n.2.2.2.2.2.2.2 s id))):=by
 have hlt:=(ZAC.1 hn).1;have hrl:=hF.len;obtain⟨row,hr,⟨x,hrx⟩,_⟩:=hF.row hn;obtain⟨ms',ho,hml,hset⟩:=hF.open_ hr hn;refine⟨_,_,?_,hset (toE n (.inr (some (ms'.length,(0,(insE n.2.2.2.2.2.2.2 s id).length))))) (wE n (insE n.2.2.2.2.2.2.2 s id)) ⟨_,rfl⟩ rfl⟩;have hr':(rows++ex)[(dir-1).toNat]? =some row:=by rw[ZAL (by omega)];exact hr
 unfold tput;rw[w64 (by omega),aWZ (by omega) (by rw[ZAY];omega),ZAA,hr',ZAA,hF.one hr hn];erw[ZAA];rw[k4Z s hs hl,ZAA,ZAA];erw[ho];rw[ZAA];simp only;rw[mbZ s id hl,ZAA,ZAA,hrx,List.set_append_left _ _ (by omega)]
 rfl
theorem put_ok{rows:List InoE}{ms:MsE}{ks:List Ino}(st:Int){dir:Int}{n:Ino}(s:List UInt8)(id:Int)(hF:FamE rows ms ks)(hks:ks.length<=100000)(h1:1<=dir)(hn:ks[(dir-1).toNat]? =some n)(hs:Srt n.2.2.2.2.2.2.2)(hl:n.2.2.2.2.2.2.2.length<=100000):
 ∃rows' ms',tput fuel dir s id st rows ms=some (st,(rows',ms'))/\FamE rows' ms' (ks.set (dir-1).toNat (wE n (insE n.2.2.2.2.2.2.2 s id))):=by
 obtain⟨rows',ms',h,hf⟩:=pKZ (ex:=[]) st s id hF (by simpa using hks) h1 hn hs hl;rw[ZA1,ZA1] at h;exact⟨rows',ms',h,hf⟩
end Go.Ab.D
namespace Go.Ab.D
open Go Go.Ab
def noRoom(l:List Ino):Prop:=match freeAt l with|none=>500<=l.length|some i=>∃n,l[i]? =some n/\1099511627776<=n.2.1
structure Alc (l:List Ino) (dir:Bool) (parent:Int) (l':List Ino) (i:Nat) (g:Int):Prop where
 slot:i=(freeAt l).getD l.length
 new:l'[i]? =some ((i:Int)+1,g,true,dir,0,[],parent,[])
 old:∀j:Nat,j≠i->l'[j]? =l[j]?
 gen:g=(match l[i]? with|some n=>n.2.1|none=>0)+1
 top:g<=1099511627776
 was:∀n,l[i]? =some n->n.2.2.1=false
 len:l'.length=if i<l.length then l.length else l.length+1
 le:i<=l.length
 few:l'.length<=500
theorem drZ{α γ:Type}(g:α->Option γ):∀(a b:List α) {x y:List γ},unrefL g a=some x->unrefL g b=some y->unrefL g (a++b)=some (x++y)
 |[],b,x,y,h1,h2=>by
  have:x=[]:=by injection h1 with h1;exact h1.symm
  subst this;exact h2
 |c::a,b,x,y,h1,h2=>by
  have h1:(g c).bind (fun z=>(unrefL g a).map (z::·))=some x:=h1;show(g c).bind (fun z=>(unrefL g (a++b)).map (z::·))=some (x++y);cases hc:g c with
  |none=>rw[hc] at h1;cases h1
  |some z=>
   rw[hc,ZAA] at h1;cases ha:unrefL g a with
   |none=>rw[ha] at h1;cases h1
   |some w=>
    rw[ha] at h1;have:x=z::w:=by injection h1 with h1;exact h1.symm
    subst this;rw[ZAA,drZ g a b ha h2]
    rfl
theorem jgZ{t:Tree}(h:RightP t):iRig fuel t=some true:=by
 obtain⟨b,hb,hq⟩:=k7Z h.fit;rw[hb,hq.2 h]
theorem n3Z{t:Tree}(h:RightP t)(dir:Bool){parent:Int}(hp:isB t.1 parent true=true):
 (noRoom t.1/\∃rows ms,iAllE fuel t dir parent=some (t.2,(0,(0,(5,(rows,ms)))))/\FamE rows ms t.1)\/
 (∃(rows ex:List InoE) (ms:MsE) (l le:List Ino) (i:Nat) (g:Int),iAllE fuel t dir parent=some (t.2,((i:Int)+1,(g,(0,(rows++ex,ms)))))/\Alc t.1 dir parent (l++le) i g/\FamE rows ms l/\l.length=t.1.length/\((ex=[]/\le=[])\/∃n,ex=[toE n (.inl [])]/\le=[n]/\n.2.2.2.2.2.2.2=[])):=by
 have hlen:=h.len;obtain⟨rows,ms,hc,hF⟩:=hqZ h.fit;have hrl:=hF.len;have hfi:=qAZ (l:=t.1) (by omega);unfold iAllE;rw[show((t.1,t.2):Tree)=t from rfl,hc,ZAA,jgZ h,ZAA];simp only[ZAP,ZAE];rw[rBZ h.fit,ZAA,hp];simp only[ZAP,ZAE];rw[hF.pure1];erw[ZAA];rw[hfi,ZAA];cases hfree:freeAt t.1 with
 |none=>
  simp only;rw[show decide ((-1:Int)<0)=true from rfl];simp only[ZAK,ZAA,hrl];by_cases h5:500<=t.1.length
  ·left;rw[ZAJ (show(((t.1.length:Nat):Int)>=500) by omega)];refine⟨by unfold noRoom;rw[hfree];exact h5,rows,ms,rfl,hF⟩
  ·right;rw[ZAG (show¬(((t.1.length:Nat):Int)>=500) by omega)];simp only[ZAE];rw[adZ (by simp only[ZAB,ZAm,avZ];omega),ZAA];simp only;obtain⟨row0,hrow0⟩:∃r,r=toE (((t.1.length:Nat):Int)+1,0,false,false,0,[],0,[]) (.inl []):=⟨_,rfl⟩;have e0:(List.map (liftT TE) (show List (TE.unref.den) from([((IntKind.wrap .i64 (((t.1.length:Nat):Int)+1)),(0,(false,(false,(0,([],(0,[])))))))]:List Ino)))=[row0]:=by
    rw[w64 (by omega),hrow0];rfl
   erw[e0];have hlt:rows.length<(rows++[row0]).length:=by simp
   have hg:(rows++[row0])[rows.length]? =some row0:=by simp
   rw[<-hrl,anZ hlt];simp only[ZAA,hg,List.set_set,jTZ hlt];refine⟨rows,[toE (((t.1.length:Nat):Int)+1,1,true,dir,0,[],parent,[]) (.inl [])],ms,t.1,[(((t.1.length:Nat):Int)+1,1,true,dir,0,[],parent,[])],t.1.length,1,?_,⟨by rw[hfree];rfl,by simp,fun j hj=> ?_,by simp,by omega,fun n hn=>by simp at hn,by simp,ZAM _,by simp;omega⟩,hF,hrl.symm,.inr ⟨_,rfl,rfl,rfl⟩⟩
   ·rw[List.set_append_right _ _ (ZAM _),ZBx,hrow0]
    rfl
   ·by_cases hjl:j<t.1.length
    ·rw[ZAL hjl]
    ·rw[ZAt (by simp;omega),ZAt (by omega)]
 |some i=>
  obtain⟨hi,hu,_⟩:=ZBl.1 hfree;have hg:t.1[i]? =some t.1[i]:=ZAD hi;obtain⟨row,hr,⟨x,hrx⟩,_⟩:=hF.row hg;have hu:t.1[i].2.2.1=false:=by simpa using hu
  have ho:=h.ino i _ hg;have hb:=ho.bare hu;have hgen:=ho.gen;simp only;rw[ZAG (show¬((i:Int)<0) by omega)];simp only[ZAE,ZAA];rw[anZ (show i<rows.length by omega)];simp only[ZAA,hr];have hrg:row.2.1=t.1[i].2.1:=by rw[hrx];rfl
  rw[hrg];by_cases h5:t.1[i].2.1>=1099511627776
  ·left;rw[ZAJ h5];refine⟨by unfold noRoom;rw[hfree];exact⟨_,hg,h5⟩,rows,ms,rfl,hF⟩
  ·right;rw[ZAG h5];simp only[ZAE,ZAA];have hlr:i<rows.length:=by omega
   rw[anZ hlr];simp only[ZAA,hr,List.set_set,jTZ hlr];have hw:IntKind.wrap .i64 (row.2.1+1)=t.1[i].2.1+1:=by rw[hrg,w64 (by omega)]
   rw[hw];have hid:=ho.id;have hrow:row=toE t.1[i] x:=hrx;refine⟨rows.set i (toE (taken t.1[i] dir parent) x),[],ms,t.1.set i (taken t.1[i] dir parent),[],i,t.1[i].2.1+1,?_,⟨by rw[hfree];rfl,?_,fun j hj=> ?_,by rw[hg],by omega,fun n hn=>by rw[hg] at hn;cases hn;exact hu,by simp[hi],by omega,by simp;omega⟩,hF.keep (k':=taken t.1[i] dir parent) hr hg ⟨x,rfl⟩ (by rw[hrx];rfl) rfl,ZA2 ..,.inl ⟨rfl,rfl⟩⟩
   ·rw[ZA1];congr 2;rw[hrow];refine Prod.ext ?_ rfl;show t.1[i].1=_;omega
   ·rw[ZA1,jTZ hi];unfold taken;rw[hb.2.1,hb.2.2.2.1,hb.2.2.2.2,hid]
   ·rw[ZA1,ZAg (by omega)]
def madeL(l':List Ino)(d:Int)(n:Ino)(s:List UInt8)(id:Int):List Ino:=l'.set (d-1).toNat (wE n (insE n.2.2.2.2.2.2.2 s id))
theorem qqZ{l:List Ino}{d:Int×Int}{n:Ino}(hn:IsD l d n):isB l d.1 true=true:=by
 unfold isB;rw[hn.1.2.1];simp[hn.1.1,hn.1.2.2.1,hn.2]
section
variable {t : Tree} {d : Int × Int} {n : Ino} {s : List UInt8}
theorem o9Z(h:TreeOK t)(s:List UInt8)(is:Bool)(hb:dirE t.1 d≠0):tree_Make fuel t d s is=some (t.1,(t.2,(0,(0,dirE t.1 d)))):=by
 unfold tree_Make;rw[show((t.1,t.2):Tree)=t from rfl,show((d.1,d.2):Int×Int)=d from rfl,kKZ h hb,ZAA];simp only[ZA5.2 hb,ZAy,ZAK];rw[cDZ h.r.fit,ZAA]
theorem mSZ(h:TreeOK t)(is:Bool)(hn:IsD t.1 d n)(hs:namedB s=false):tree_Make fuel t d s is=some (t.1,(t.2,(0,(0,176)))):=by
 unfold tree_Make;rw[show((t.1,t.2):Tree)=t from rfl,show((d.1,d.2):Int×Int)=d from rfl,ciZ h hn,ZAA];simp only[ZAV,ZAP,ZAE];rw[show idx? 0 [n].length=some 0 from rfl,ZAA,show[n][0]? =some n from rfl,ZAA,h.ent_ok hn,ZAA,d3Z,ZAA,hs];simp only[ZAy,ZAK];rw[cDZ h.r.fit,ZAA]
theorem lNZ(h:TreeOK t)(is:Bool)(hn:IsD t.1 d n)(hs:namedB s=true)(hh:hasN n.2.2.2.2.2.2.2 s=true):tree_Make fuel t d s is=some (t.1,(t.2,(0,(0,172)))):=by
 unfold tree_Make;rw[show((t.1,t.2):Tree)=t from rfl,show((d.1,d.2):Int×Int)=d from rfl,ciZ h hn,ZAA];simp only[ZAV,ZAP,ZAE];rw[show idx? 0 [n].length=some 0 from rfl,ZAA,show[n][0]? =some n from rfl,ZAA,h.ent_ok hn,ZAA,d3Z,ZAA,hs,hh];simp only[ZAP,ZAK,ZAE];rw[cDZ h.r.fit,ZAA]
theorem oiZ(h:TreeOK t)(is:Bool)(hn:IsD t.1 d n)(hs:namedB s=true)(hh:hasN n.2.2.2.2.2.2.2 s=false)(hl:100<=n.2.2.2.2.2.2.2.length):tree_Make fuel t d s is=some (t.1,(t.2,(0,(0,5)))):=by
 unfold tree_Make;rw[show((t.1,t.2):Tree)=t from rfl,show((d.1,d.2):Int×Int)=d from rfl,ciZ h hn,ZAA];simp only[ZAV,ZAP,ZAE];rw[show idx? 0 [n].length=some 0 from rfl,ZAA,show[n][0]? =some n from rfl,ZAA,h.ent_ok hn,ZAA,d3Z,ZAA,hs,hh];simp only[ZAP,ZAE,ZAA];rw[show[n][0]? =some n from rfl,ZAA,ZAJ (show((n.2.2.2.2.2.2.2.length:Nat):Int)>=100 by omega)];simp only[ZAK];rw[cDZ h.r.fit,ZAA]
theorem kOZ(h:TreeOK t)(is:Bool)(hn:IsD t.1 d n)(hs:namedB s=true)(hh:hasN n.2.2.2.2.2.2.2 s=false)(hl:n.2.2.2.2.2.2.2.length<100):
 (noRoom t.1/\tree_Make fuel t d s is=some (t.1,(t.2,(0,(0,5)))))\/
 ∃(l':List Ino) (i:Nat) (g:Int),Alc t.1 is d.1 l' i g/\tree_Make fuel t d s is=some (madeL l' d.1 n s ((i:Int)+1),(t.2,((i:Int)+1,(g,0)))):=by
 have hlen:=h.r.len;have hlt:=(ZAC.1 hn.1.2.1).1;unfold tree_Make;rw[show((t.1,t.2):Tree)=t from rfl,show((d.1,d.2):Int×Int)=d from rfl,ciZ h hn,ZAA];simp only[ZAV,ZAP,ZAE];rw[show idx? 0 [n].length=some 0 from rfl,ZAA,show[n][0]? =some n from rfl,ZAA,h.ent_ok hn,ZAA,d3Z,ZAA,hs,hh];simp only[ZAP,ZAE,ZAA];rw[show[n][0]? =some n from rfl,ZAA,ZAG (show¬((n.2.2.2.2.2.2.2.length:Nat):Int)>=100 by omega)];simp only[ZAE];rcases n3Z h.r is (qqZ hn) with⟨hno,rows,ms,ha,hF⟩|⟨rows,ex,ms,l,le,i,g,ha,hA,hF,hll,hex⟩
 ·left;refine⟨hno,?_⟩;rw[ha,ZAA];simp only;rw[show((5:Int)==0)=false from rfl];simp only[ZAy,ZAK];rw[hF.pure1];erw[ZAA]
 ·right;refine⟨l++le,i,g,hA,?_⟩;rw[ha,ZAA];simp only[ZAV,ZAP,ZAE];have hne:(d.1-1).toNat≠i:=fun hc=>by
   have:=hA.was n (by rw[<-hc];exact hn.1.2.1);rw[hn.1.2.2.1] at this;cases this
  have hln:l[(d.1-1).toNat]? =some n:=by
   have:=hA.old _ hne;rw[ZAL (by omega),hn.1.2.1] at this;exact this
  have hexl:ex.length<=1:=by rcases hex with⟨h1,_⟩|⟨n,h1,_⟩<;>rw[h1]<;>simp
  obtain⟨rows',ms',hput,hF'⟩:=pKZ (ex:=ex) t.2 s ((i:Int)+1) hF (by omega) hn.1.1 hln (h.srt hn.1) (by omega);rw[hput,ZAA];simp only;have hex':unrefL (unrefD [⟨1,ETy,ms'.map frz1⟩] TE) ex=some le:=by
   rcases hex with⟨rfl,rfl⟩|⟨m,rfl,rfl,hm⟩
   ·rfl
   ·obtain⟨m1,m2,m3,m4,m5,m6,m7,m8⟩:=m;simp only at hm;subst hm
    rfl
  have hu:unrefL (unrefD [⟨1,ETy,ms'.map frz1⟩] TE) (rows'++ex)=some (l.set (d.1-1).toNat (wE n (insE n.2.2.2.2.2.2.2 s ((i:Int)+1)))++le):=drZ _ _ _ hF'.pure1 hex';rw[hu];erw[ZAA];unfold madeL;rw[List.set_append_left _ _ (by omega)]
end
end Go.Ab.D
namespace Go.Ab.D
open Go Go.Ab
theorem jKZ:∀{l' l:List Ino},(∀(j:Nat) n',l'[j]? =some n'->n'.2.2.2.2.2.1=[]\/∃n,l[j]? =some n/\n'.2.2.2.2.2.1=n.2.2.2.2.2.1)->(allStripes l').Sublist (allStripes l)
 |[],l,_=>by simp[allStripes]
 |a::r,l,h=>by
  have ea:∀(x:Ino) (y:List Ino),allStripes (x::y)=stripes x.2.2.2.2.2.1++allStripes y:=fun x y=>by simp[allStripes]
  cases l with
  |nil=>
   have h0:=h 0 a rfl;rcases h0 with h0|⟨n,hn,_⟩
   ·have:=jKZ (l':=r) (l:=[]) fun j n' hj=>h (j+1) n' (by simpa using hj);rw[ea,h0];simpa[stripes] using this
   ·simp at hn
  |cons b m=>
   have ih:=jKZ (l':=r) (l:=m) fun j n' hj=>by simpa using h (j+1) n' (by simpa using hj)
   rw[ea,ea];refine List.Sublist.append ?_ ih;rcases h 0 a rfl with h0|⟨n,hn,he⟩
   ·rw[h0];simp[stripes]
   ·simp at hn;subst hn;rw[he];exact List.Sublist.refl _
theorem ffZ{a b:Int}(h:a<=b):∀{l:List Ent} {last:List UInt8},okEnts a last l->okEnts b last l
 |[],last,_=>trivial
 |e::r,last,hl=>by
  rw[b9Z] at hl⊢;exact⟨hl.1,hl.2.1,hl.2.2.1,hl.2.2.2.1,by omega,ffZ h hl.2.2.2.2.2⟩
theorem okIno.wide{a b s s':Int}{i:Nat}{n:Ino}(h:okIno a s i n)(hab:a<=b)(hs:s<=s'):okIno b s' i n:=
 ⟨h.id,h.gen,fun q=>by have:=h.par q;omega,fun q1 q2=>by
  have:=h.dir q1 q2;exact⟨this.1,this.2.1,this.2.2.1,ffZ hab this.2.2.2⟩,fun q1 q2=>by
  have:=h.file q1 q2;exact⟨this.1,this.2.1,this.2.2.1,fun p hp=>by
   rcases this.2.2.2 p hp with h5|h5
   ·exact .inl h5
   ·exact .inr (by omega)⟩,h.bare⟩
theorem RightP.pt{t:Tree}{l':List Ino}{st:Int}(h:RightP t)(hl:t.1.length<=l'.length/\l'.length<=500)(hst:t.2<=st/\st<=1099511627776)
 (hi:∀(j:Nat) n',l'[j]? =some n'->t.1[j]? =some n'\/(okIno l'.length st j n'/\(n'.2.2.2.2.2.1=[]\/∃n,t.1[j]? =some n/\n'.2.2.2.2.2.1=n.2.2.2.2.2.1)/\(j=0->n'.2.2.1=true/\n'.2.2.2.1=true/\n'.2.2.2.2.2.2.1=1))):RightP (l',st):=by
 have hlen:=h.len;have hs:=h.str;refine⟨⟨by simp only;omega,hl.2⟩,⟨by simp only;omega,hst.2⟩,fun j n' hn=> ?_,h.nod.sublist (jKZ fun j n' hn=> ?_),?_⟩
 ·rcases hi j n' hn with h1|h1
  ·exact(h.ino j n' h1).wide (by simp only;omega) hst.1
  ·exact h1.1
 ·rcases hi j n' hn with h1|h1
  ·exact .inr ⟨n',h1,rfl⟩
  ·exact h1.2.1
 ·have h0:0<l'.length:=by omega
  refine⟨l'[0],ZAD h0,?_⟩;rcases hi 0 _ (ZAD h0) with h1|h1
  ·obtain⟨r,hr,h2⟩:=h.root;rw[h1] at hr;cases hr;exact h2
  ·exact h1.2.2 rfl
def modL(l:List Ino)(i:Nat)(f:Ino->Ino):List Ino:=match l[i]? with|some n=>l.set i (f n)|none=>l
theorem ndZ{l:List Ino}{i:Nat}{n:Ino}(f:Ino->Ino)(h:l[i]? =some n):modL l i f=l.set i (f n):=by unfold modL;rw[h]
theorem otZ(l:List Ino)(i:Nat)(f:Ino->Ino):(modL l i f).length=l.length:=by
 unfold modL;cases l[i]? with
 |none=>rfl
 |some n=>exact ZA2 ..
theorem jWZ(l:List Ino)(i:Nat)(f:Ino->Ino)(j:Nat):(modL l i f)[j]? =if j=i then(l[j]?).map f else l[j]? :=by
 unfold modL;cases h:l[i]? with
 |none=>
  by_cases hj:j=i
  ·subst hj;rw[ZAT rfl,h];rfl
  ·rw[ZAQ hj]
 |some n=>
  have hi:=(ZAC.1 h).1;simp only;by_cases hj:j=i
  ·subst hj;rw[ZAT rfl,h,ZAU hi];rfl
  ·rw[ZAQ hj,ZAg (by omega)]
def takeL(l:List Ino)(d:Int)(s:List UInt8):List Ino:=modL l (d-1).toNat fun n=>wE n (delE n.2.2.2.2.2.2.2 s)
def putL(l:List Ino)(d:Int)(s:List UInt8)(id:Int):List Ino:=modL l (d-1).toNat fun n=>wE n (insE n.2.2.2.2.2.2.2 s id)
def parL(l:List Ino)(id p:Int):List Ino:=modL l (id-1).toNat fun n=>wP n p
def dropL(l:List Ino)(id:Int):List Ino:=modL l (id-1).toNat fun n=>emptied n id
theorem mWZ{s:List UInt8}(h:namedB s=true):1<=s.length/\s.length<=30:=by
 unfold namedB at h;simp only[ZAB,ZAd] at h;exact⟨h.1.1.1.1,h.1.1.1.2⟩
theorem l1Z{many st:Int}{i:Nat}{n:Ino}(h:okIno many st i n)(hu:n.2.2.1=true)(hd:n.2.2.2.1=true){l:List Ent}(hl:l.length<=100)(hs:Srt l)(he:∀e∈l,1<=e.1.length/\e.1.length<=30/\1<=e.2/\e.2<=many):okIno many st i (wE n l):=by
 have hdir:=h.dir hu hd;refine⟨h.id,h.gen,h.par,fun _ _=>⟨hdir.1,hdir.2.1,hl,gDZ hs fun e h=>⟨mKZ (he e h).1,he e h⟩⟩,fun _ h2=> ?_,fun h1=> ?_⟩
 ·have h2:n.2.2.2.1=false:=h2;rw[hd] at h2;cases h2
 ·have h1:n.2.2.1=false:=h1;rw[hu] at h1;cases h1
section
variable {t : Tree} {d : Int × Int} {n : Ino} {s : List UInt8}
theorem TreeOK.root_used(h:TreeOK t){r:Ino}(hr:t.1[0]? =some r):r.2.2.1=true/\r.2.2.2.1=true/\r.2.2.2.2.2.2.1=1:=by
 obtain⟨r',hr',h2⟩:=h.r.root;rw[hr] at hr';cases hr';exact h2
theorem TreeOK.ents_ok(h:TreeOK t){i:Nat}(hn:t.1[i]? =some n):∀e∈n.2.2.2.2.2.2.2,1<=e.1.length/\e.1.length<=30/\1<=e.2/\e.2<=t.1.length:=fun e he=>by
 have h1:=cMZ (cJZ (h.r.ino i n hn)).2 e he;exact⟨h1.2.2.1,h1.2.2.2,h1.1,h1.2.1⟩
theorem pOZ(hn:IsD t.1 d n):((d.1-1).toNat:Int)+1=d.1:=by have:=hn.1.1;omega
theorem rHZ(h:TreeOK t)(hn:IsD t.1 d n){is:Bool}{l':List Ino}{i:Nat}{g:Int}(hA:Alc t.1 is d.1 l' i g)(j:Nat):
 (putL l' d.1 s ((i:Int)+1))[j]? =if j=(d.1-1).toNat then some (wE n (insE n.2.2.2.2.2.2.2 s ((i:Int)+1))) else if j=i then some ((i:Int)+1,g,true,is,0,[],d.1,[]) else t.1[j]? :=by
 have hne:(d.1-1).toNat≠i:=fun hc=>by
  have:=hA.was n (by rw[<-hc];exact hn.1.2.1);rw[hn.1.2.2.1] at this;cases this
 unfold putL;rw[jWZ];by_cases h1:j=(d.1-1).toNat
 ·rw[ZAT h1,ZAT h1,h1,hA.old _ hne,hn.1.2.1];rfl
 ·rw[ZAQ h1,ZAQ h1];by_cases h2:j=i
  ·rw[ZAT h2,h2,hA.new]
  ·rw[ZAQ h2,hA.old _ h2]
theorem pjZ(h:TreeOK t)(hn:IsD t.1 d n)(hs:namedB s=true)(hh:hasN n.2.2.2.2.2.2.2 s=false)(hl:n.2.2.2.2.2.2.2.length<100){is:Bool}{l':List Ino}{i:Nat}{g:Int}(hA:Alc t.1 is d.1 l' i g):
 TreeOK (putL l' d.1 s ((i:Int)+1),t.2):=by
 have hlen:=h.r.len;have hdi:=pOZ hn;have hq:=(ZAC.1 hn.1.2.1).1;have hat:=fun j=>rHZ (s:=s) h hn hA j;have hlen':(putL l' d.1 s ((i:Int)+1)).length=l'.length:=otZ ..;have hll:t.1.length<=l'.length/\i<l'.length:=by
  have:=hA.len;have:=hA.le;split at* <;>omega
 have hi0:i≠0:=fun h0=>by
  obtain⟨r,hr,hu,_⟩:=h.r.root;have:=hA.was r (by rw[h0];exact hr);rw[hu] at this;cases this
 have hne:(d.1-1).toNat≠i:=fun hc=>by
  have:=hA.was n (by rw[<-hc];exact hn.1.2.1);rw[hn.1.2.2.1] at this;cases this
 have keep:∀j m,t.1[j]? =some m->m.2.2.1=true->∃m',(putL l' d.1 s ((i:Int)+1))[j]? =some m'/\m'.2.2.1=true/\m'.2.2.2.2.2.2.1=m.2.2.2.2.2.2.1/\∀s' id',(s',id')∈m'.2.2.2.2.2.2.2↔(j=(d.1-1).toNat/\s'=s/\id'=(i:Int)+1)\/(s',id')∈m.2.2.2.2.2.2.2:=by
  intro j m hm hu;have hji:j≠i:=fun hc=>by
   have:=hA.was m (by rw[<-hc];exact hm);rw[hu] at this;cases this
  rw[hat];by_cases h1:j=(d.1-1).toNat
  ·rw[ZAT h1];have:m=n:=by rw[h1,hn.1.2.1] at hm;injection hm with hm;exact hm.symm
   subst this;refine⟨_,rfl,hu,rfl,fun s' id'=> ?_⟩;show(s',id')∈insE _ _ _↔_;rw[htZ];simp[h1]
  ·rw[ZAQ h1,ZAQ hji];exact⟨m,hm,hu,rfl,fun s' id'=>⟨fun h=>.inr h,fun h=>h.elim (fun h=>absurd h.1 h1) id⟩⟩
 have hnew:(putL l' d.1 s ((i:Int)+1))[i]? =some ((i:Int)+1,g,true,is,0,[],d.1,[]):=by
  rw[hat,ZAQ (by omega),ZAT rfl]
 refine⟨?_,fun j m hm s' id' he=> ?_,fun j x hx hu hj=> ?_,fun j x hx hu=> ?_⟩
 ·refine h.r.pt ⟨by omega,by rw[hlen'];exact hA.few⟩ ⟨Int.le_refl _,h.r.str.2⟩ fun j n' hj=> ?_;rw[hat] at hj;by_cases h1:j=(d.1-1).toNat
  ·rw[ZAT h1] at hj;cases hj;subst h1;right;have ho:=h.r.ino _ n hn.1.2.1;refine⟨l1Z (ho.wide (by omega) (Int.le_refl _)) hn.1.2.2.1 hn.2 (by rw[o8Z];omega) (oqZ _ (h.srt hn.1) hh) fun e he=> ?_,.inr ⟨n,hn.1.2.1,rfl⟩,fun h0=> ?_⟩
   ·rcases htZ.1 he with rfl|he
    ·have:=mWZ hs;simp only;omega
    ·have:=h.ents_ok hn.1.2.1 e he;omega
   ·exact h.root_used (r:=n) (by rw[<-h0];exact hn.1.2.1)
  ·rw[ZAQ h1] at hj;by_cases h2:j=i
   ·rw[ZAT h2] at hj;cases hj;subst h2;right;have hg:1<=g:=by
     have:=hA.gen;cases hx:t.1[j]? with
     |none=>have e:g=0+1:=by rw[hx] at this;exact this
            omega
     |some m=>have e:g=m.2.1+1:=by rw[hx] at this;exact this
              have:=(h.r.ino j m hx).gen;omega
    refine⟨⟨by simp,⟨hg,hA.top⟩,fun _=>(⟨hn.1.1,by omega⟩:1<=d.1/\d.1<=_),fun _ _=>⟨rfl,rfl,by simp,trivial⟩,fun _ _=>⟨by simp,rfl,by simp,fun p hp=>by cases hp⟩,fun h=>by cases h⟩,.inl rfl,fun h0=>absurd h0 hi0⟩
   ·rw[ZAQ h2] at hj;exact .inl hj
 ·have hm':=hm;simp only at hm';rw[hat] at hm';have old:∀m0,t.1[j]? =some m0->(s',id')∈m0.2.2.2.2.2.2.2->namedB s'=true/\id'≠1/\∃x,(putL l' d.1 s ((i:Int)+1))[(id'-1).toNat]? =some x/\x.2.2.1=true/\x.2.2.2.2.2.2.1=(j:Int)+1:=fun m0 hm0 he0=>by
   obtain⟨h1,h2,x,h3,h4,h5⟩:=h.e j m0 hm0 s' id' he0;obtain⟨x',g1,g2,g3,_⟩:=keep _ x h3 h4;exact⟨h1,h2,x',g1,g2,by rw[g3,h5]⟩
  by_cases h1:j=(d.1-1).toNat
  ·rw[ZAT h1] at hm';cases hm';rcases htZ.1 he with e1|he
   ·cases e1;exact⟨hs,by omega,_,by rw[show((i:Int)+1-1).toNat=i from by omega];exact hnew,rfl,by rw[h1,hdi]⟩
   ·exact old n (by rw[h1];exact hn.1.2.1) he
  ·rw[ZAQ h1] at hm';by_cases h2:j=i
   ·rw[ZAT h2] at hm';cases hm';cases he
   ·rw[ZAQ h2] at hm';exact old m hm' he
 ·simp only at hx⊢;by_cases h2:j=i
  ·subst h2;rw[hnew] at hx;cases hx;obtain⟨m',g1,g2,g3,g4⟩:=keep _ n hn.1.2.1 hn.1.2.2.1;refine⟨m',s,g1,(g4 _ _).2 (.inl ⟨rfl,rfl,rfl⟩),fun s' hs'=> ?_⟩;rcases(g4 _ _).1 hs' with h1|h1
   ·exact h1.2.1
   ·obtain⟨_,_,x,h3,h4,_⟩:=h.e _ n hn.1.2.1 s' _ h1;rw[show((j:Int)+1-1).toNat=j from by omega] at h3;have:=hA.was x h3;rw[h4] at this;cases this
  ·obtain⟨x0,hx0,hxu,hxp⟩:∃x0,t.1[j]? =some x0/\x0.2.2.1=true/\x0.2.2.2.2.2.2.1=x.2.2.2.2.2.2.1:=by
    rw[hat] at hx;by_cases h1:j=(d.1-1).toNat
    ·rw[ZAT h1] at hx;cases hx;exact⟨n,by rw[h1];exact hn.1.2.1,hn.1.2.2.1,rfl⟩
    ·rw[ZAQ h1,ZAQ h2] at hx;exact⟨x,hx,hu,rfl⟩
   obtain⟨m,s0,h3,h4,h5⟩:=h.u j x0 hx0 hxu hj;have hmu:=(h.r.isdir h3 h4).1;obtain⟨m',g1,g2,g3,g4⟩:=keep _ m h3 hmu;rw[hxp] at g1;refine⟨m',s0,g1,(g4 _ _).2 (.inr h4),fun s' hs'=> ?_⟩;rcases(g4 _ _).1 hs' with h1|h1
   ·omega
   ·exact h5 s' h1
 ·have go:∀id,Rch t.1 id->Rch (putL l' d.1 s ((i:Int)+1)) id:=fun id hr=>by
   induction hr with
   |root=>exact .root
   |step hg hu _ ih=>
    obtain⟨m',g1,g2,g3,_⟩:=keep _ _ hg hu;exact .step g1 g2 (by rw[g3];exact ih)
  simp only at hx⊢;by_cases h2:j=i
  ·subst h2;rw[hnew] at hx;cases hx;refine .step (by rw[show((j:Int)+1-1).toNat=j from by omega];exact hnew) rfl (go _ ?_);have:=h.a _ n hn.1.2.1 hn.1.2.2.1;rw[hdi] at this;exact this
  ·rw[hat] at hx;by_cases h1:j=(d.1-1).toNat
   ·rw[h1];exact go _ (h.a _ n hn.1.2.1 hn.1.2.2.1)
   ·rw[ZAQ h1,ZAQ h2] at hx;exact go _ (h.a j x hx hu)
end
end Go.Ab.D
namespace Go.Ab.D
open Go Go.Ab
def keptP(l:List Part):List Part:=l.filter fun p=> !isGone p
end Go.Ab.D
namespace Go.Ab.D
open Go Go.Ab
section
variable {t : Tree} {d : Int × Int} {n x : Ino} {s : List UInt8} {id : Int}
end
inductive Anc (l:List Ino) (top:Int):Int->Prop
 |refl:Anc l top top
 |step {id:Int} {x:Ino}:id≠1->l[(id-1).toNat]? =some x->x.2.2.1=true->Anc l top x.2.2.2.2.2.2.1->Anc l top id
section
variable {t : Tree} {a b : Int × Int} {na nb x : Ino} {old name : List UInt8} {id : Int}
def mvL(l:List Ino)(a:Int)(old:List UInt8)(b:Int)(name:List UInt8)(id:Int):List Ino:=parL (putL (takeL l a old) b name id) id b
structure MvOk (t:Tree) (a:Int×Int) (old:List UInt8) (b:Int×Int) (name:List UInt8) (id:Int) (na nb x:Ino):Prop where
 da:IsD t.1 a na
 db:IsD t.1 b nb
 ea:(old,id)∈na.2.2.2.2.2.2.2
 x:t.1[(id-1).toNat]? =some x
 nm:namedB name=true
 no:hasN nb.2.2.2.2.2.2.2 name=false
 few:a.1≠b.1->nb.2.2.2.2.2.2.2.length<100
 anc:¬Anc t.1 id b.1
end
end Go.Ab.D
namespace Go.Ab.D
open Go Go.Ab
def misE(dir:Bool)(n:Ino):Int:=if dir=true/\n.2.2.2.1=false then 173 else if dir=false/\n.2.2.2.1=true then 174 else if n.2.2.2.2.2.2.2=[] then 0 else 175
section
variable {t : Tree} {d : Int × Int} {n x : Ino} {s : List UInt8} {id : Int}
end
end Go.Ab.D
