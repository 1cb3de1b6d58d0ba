/- What the functions compute; the plain law. -/
import Derived.Test.YtjngohmkdmdecaaGreatStateFailsD5
set_option linter.all false
open Prod renaming A->PA,B->PB,C->PC,D->PD,E->PE,F->PF,G->PG,I->PI,J->PJ,a->Pa,b->Pb,c->Pc,d->Pd,e->Pe,f->Pf,g->Pg,h->Ph,i->Pi,j->Pj
namespace Go.Ab
theorem ZAW:type_of% @beq_eq_false_iff_ne:=@beq_eq_false_iff_ne
theorem ZAk:type_of% @Bool.not_false:=@Bool.not_false
theorem ZAr:type_of% @List.length_set:=@List.length_set
theorem ZA2:type_of% @List.findIdx?_eq_some_iff_getElem:=@List.findIdx?_eq_some_iff_getElem
theorem ZA9:type_of% @List.take_succ_eq_append_getElem:=@List.take_succ_eq_append_getElem
theorem ZBV:type_of% @List.nodup_append:=@List.nodup_append
theorem ZBc:type_of% @Nat.not_lt_zero:=@Nat.not_lt_zero
theorem ZBd:type_of% @Int.toNat_of_nonneg:=@Int.toNat_of_nonneg
theorem ZBg:type_of% @List.length_filter_le:=@List.length_filter_le
theorem ZBn:type_of% @Nat.sub_self:=@Nat.sub_self
theorem ZBp:type_of% @List.pairwise_iff_getElem:=@List.pairwise_iff_getElem
theorem ZB0:type_of% @Int.le_refl:=@Int.le_refl
theorem ZB8:type_of% @UInt8.not_lt:=@UInt8.not_lt
theorem ZCB:type_of% @Classical.byContradiction:=@Classical.byContradiction
theorem ZCC:type_of% @List.take_succ:=@List.take_succ
theorem ZCD:type_of% @List.findIdx?_eq_none_iff:=@List.findIdx?_eq_none_iff
theorem ZCW:type_of% @UInt8.le_antisymm:=@UInt8.le_antisymm
theorem ZCk:type_of% @List.mem_singleton:=@List.mem_singleton
theorem w64{x}(h: -9223372036854775808<=x/\x<=9223372036854775807):wI x=x:=by
 simp[wI,IntKind.wrap,IntKind.bits,IntKind.signed];grind
theorem wu64{x}(h:0<=x/\x<=18446744073709551615):IntKind.wrap .u64 x=x:=by
 simp[IntKind.wrap,IntKind.bits,IntKind.signed];grind
theorem mVZ(a b:Nat):Int.fdiv (a:Int) (b:Int)=((a/b:Nat):Int):=by
 grind
theorem adZ{i n:Nat}(h:i<n):idx? (i:Int) n=some i:=by grind[idx?]
theorem azZ{x:Int}{n:Nat}(h0:0<=x)(h:x<n):idx? x n=some x.toNat:=by simp_all[idx?]
theorem aKZ{i n:Nat}(h:i<=n):upto? (i:Int) n=some i:=by grind[upto?]
theorem b0Z{x:Int}{n:Nat}(h0:0<=x)(h:x<=n):upto? x n=some x.toNat:=by simp_all[upto?]
theorem joZ{n:Nat}(h:n<256):byte? (n:Int)=some (uO n):=by
 grind[Int,byte?]
theorem aeZ{β}{b}{K:Option β}(h:b=true):need b K=K:=by subst h;rfl
theorem aUZ{a b:Nat}(h:a<=b):Nat.ble a b=true:=ZAh h
theorem cGZ{β}{n}{K:Bool->Option β}(h:n=0->K true=K false):nilQ n K=K false:=by
 simp_all[nilQ]
theorem atZ:room=140737488355328:=rfl
theorem nTo{β}{b}{K:Option β}(h:b=true:=by simp only[Bool.and_eq_true,Nat.ble_eq,atZ];omega):need b K=K:=aeZ h
theorem w6{x:Int}(h: -9223372036854775808<=x/\x<=9223372036854775807:=by omega):wI x=x:=w64 h
theorem gEo{α}{l:List α}{i:Nat}(h:i<l.length:=by omega):l[i]? =some l[i]:=List.getElem?_eq_getElem h
theorem iNo{c}[Decidable c](h:¬c:=by omega){α}{t e:α}:ite c t e=e:=if_neg h
theorem iPo{c}[Decidable c](h:c:=by omega){α}{t e:α}:ite c t e=t:=if_pos h
theorem gNo{α}{l:List α}{i:Nat}(h:l.length<=i:=by omega):l[i]? =none:=List.getElem?_eq_none h
theorem dFo{p}[Decidable p](h:¬p:=by omega):decide p=false:=decide_eq_false h
theorem dTo{p}[Decidable p](h:p:=by omega):decide p=true:=decide_eq_true h
theorem thZ{n}(h:n<4611686018427387904):∃m,fuel=m+(n+1):=⟨4611686018427387903-n,by grind[fuel]⟩
theorem hXZ{τ ο}{f:τ->Option (τ⊕ο)}(S:Nat->τ):∀(n m),(∀k,k<n->f (S k)=some (.inl (S (k+1))))->iter (m+n) f (S 0)=iter m f (S n)
 |0,m,_=>rfl
 |n+1,m,h=>by
  have e:m+(n+1)=(m+1)+n:=by omega
  rw[e,hXZ S n (m+1) λk hk=>h k (by omega)];show(f (S n)).ob _=_;rw[h n (by omega)]
  rfl
theorem aoZ{τ ο}{f}{o:ο}(S:Nat->τ)(n)(hn:n<4611686018427387904)(hs:∀k,k<n->f (S k)=some (.inl (S (k+1))))(he:f (S n)=some (.inr o)):iter fuel f (S 0)=some o:=by
 let⟨m,hm⟩:=thZ hn
 have e:fuel=(m+1)+n:=by omega
 rw[e,hXZ S n (m+1) hs];show(f (S n)).ob _=_;rw[he]
 rfl
theorem dHZ{τ ο}{f:τ->Option (τ⊕ο)}{s s'}{n}(h:f s=some (.inl s')):iter (n+1) f s=iter n f s':=by
 show(f s).ob _=_;rw[h]
 rfl
theorem cqZ{τ ο}{f}{s:τ}{o:ο}{n}(h:f s=some (.inr o)):iter (n+1) f s=some o:=by
 show(f s).ob _=_;rw[h]
 rfl
theorem vZZ(n)(h:n<4611686018427387904):∃m,fuel=m+n+1:=⟨4611686018427387903-n,by grind[fuel]⟩
theorem aAZ{τ ο}{f}(I:Nat->τ->Prop)(Q:ο->Prop)(hs:∀n s,I (n+1) s->(∃s',f s=some (.inl s')/\I n s')\/∃o,f s=some (.inr o)/\Q o)(he:∀s,I 0 s->∃o,f s=some (.inr o)/\Q o):∀(n) (s),n<4611686018427387904->I n s->∃o,iter fuel f s=some o/\Q o:=by
 have aa:∀(n m) (s),n<m->I n s->∃o,iter m f s=some o/\Q o:=λn=>by
  induction n with
  |zero=>
   intro m s hm hi;obtain⟨m,rfl⟩:∃k,m=k+1:=⟨m-1,by omega⟩
   grind[cqZ]
  |succ n ih=>
   intro m s hm hi;obtain⟨m,rfl⟩:∃k,m=k+1:=⟨m-1,by omega⟩
   grind[dHZ,cqZ]
 exact λn s hn hi=>aa n fuel s hn hi
theorem tRZ{α β:Type}{x}{k}(R:Option β->Prop)(P:α->Prop)(h:∃v,x=some v/\P v)(hk:∀v,P v->R (k v)):R (x.bind k):=by
 grind
theorem iyZ{τ ο}{f}{s:τ}{o:ο}(h:f s=some (.inr o)):iter fuel f s=some o:=by
 let⟨n,hn⟩:=vZZ 0 (by omega)
 simp_all[cqZ]
section
variable {τ κ ο γ : Type} {hd : τ → Option (List (κ × Nat))} {f : τ → κ × Nat → Option (τ ⊕ ο)}
end
section
variable {k v : Ty}
def KeyEq(k:Ty):Prop:=∀x a,k.eqb x a=true↔x=a
theorem doZ(i):KeyEq (.int i):=λx a=>by
 show((x:Int)==a)=true↔_
 simp_all
theorem KeyEq.ne(h:KeyEq k){x a}(hn:x≠a):k.eqb x a=false:=by
 cases e:k.eqb x a with
 |false=>rfl
 |true=>exact absurd ((h x a).1 e) hn
theorem KeyEq.self(h:KeyEq k)(x):k.eqb x x=true:=(h x x).2 rfl
theorem fgZ(h:KeyEq k):∀(l) (x) (y:v.den) (n) (z),mfind (l++[((x,y),n)]) z=match mfind l z with|some e=>some e|none=>bif k.eqb z x then some (y,n) else none
 |[],x,y,n,z=>rfl
 |((a,b),m)::l,x,y,n,z=>by
  show(bif k.eqb z a then some (b,m) else mfind (l++[((x,y),n)]) z)=match(bif k.eqb z a then some (b,m) else mfind l z) with|some e=>some e|none=>bif k.eqb z x then some (y,n) else none
  cases k.eqb z a with
  |true=>rfl
  |false=>exact fgZ h l x y n z
theorem igZ(h:KeyEq k):∀(l) (x) (y:v.den) (z:k.den),z≠x->mfind (mset l x y) z=mfind l z
 |[],x,y,z,_=>rfl
 |((a,b),m)::l,x,y,z,hz=>by
  show mfind (bif k.eqb x a then((x,y),m)::l else((a,b),m)::mset l x y) z=bif k.eqb z a then some (b,m) else mfind l z;cases e:k.eqb x a with
  |true=>
   have:=(h x a).1 e;subst this;show(bif k.eqb z x then some (y,m) else mfind l z)=_;rw[h.ne hz]
   rfl
  |false=>
   show(bif k.eqb z a then some (b,m) else mfind (mset l x y) z)=_;rw[igZ h l x y z hz]
theorem diZ(h:KeyEq k):∀(l) (x:k.den) (y:v.den) e,mfind l x=some e->mfind (mset l x y) x=some (y,e.2)
 |[],x,y,e,he=>by cases he
 |((a,b),m)::l,x,y,e,he=>by
  have aa:(bif k.eqb x a then some (b,m) else mfind l x)=some e:=he;show mfind (bif k.eqb x a then((x,y),m)::l else((a,b),m)::mset l x y) x=_;cases ea:k.eqb x a with
  |true=>
   rw[ea] at aa;cases aa;show(bif k.eqb x x then some (y,m) else mfind l x)=_;rw[h.self]
   rfl
  |false=>
   rw[ea] at aa;show(bif k.eqb x a then some (b,m) else mfind (mset l x y) x)=_;rw[ea];exact diZ h l x y e aa
theorem kJZ(h:KeyEq k)(m)(x:k.den)(y:v.den):mget (mput m x y) x=some y:=by
 unfold mget mput;cases e:mfind m.1 x with
 |some e'=>simp_all[diZ]
 |none=>rw[fgZ h,e];rw[h.self];rfl
theorem dkZ(h:KeyEq k)(m)(x)(y:v.den){z:k.den}(hz:z≠x):mget (mput m x y) z=mget m z:=by
 unfold mget mput;cases e:mfind m.1 x with
 |some e'=>simp_all[igZ]
 |none=>
  rw[fgZ h,h.ne hz]
  grind
def keysU(m:GMap k v):Prop:=(m.1.map λe=>e.1.1).Nodup
end
end Go.Ab
namespace Go.Ab.D
open Go Go.Ab
abbrev Part:=Int×Int
abbrev Ent:=List UInt8×Int
abbrev Ino:=Int×Int×Bool×Bool×Int×List Part×Int×List Ent
abbrev Tree:=List Ino×Int
def Ino.sm(n:Ino):Prop:=n.2.2.2.2.2.1.length<=100000/\n.2.2.2.2.2.2.2.length<=100000
structure Fit (l:List Ino):Prop where
 n:l.length<=100000
 s:∀n∈l,Ino.sm n
theorem Fit.at{l}(h:Fit l){i:Nat}{n}(e:l[i]? =some n):Ino.sm n:=h.s n (ZAI e)
theorem cIZ{l:List Part}(h:l.length<=100000):sClo3 fuel l=some l:=by
 unfold sClo3;rw[cGZ]
 ·simp;rw[aeZ];simp[atZ];omega
 ·intro h0;have:=ZAX h0
  simp_all[aeZ,atZ]
theorem d3Z{l:List Ent}(h:l.length<=100000):sClo fuel l=some l:=by
 unfold sClo;rw[cGZ]
 ·simp;rw[aeZ];simp[atZ];omega
 ·intro h0;have:=ZAX h0
  simp_all[aeZ,atZ]
theorem cPZ{l:List Ino}(h:l.length<=100000):sClo2 fuel l=some l:=by
 unfold sClo2;rw[cGZ]
 ·simp;rw[aeZ];simp[atZ];omega
 ·intro h0;have:=ZAX h0
  simp_all[aeZ,atZ]
theorem m7Z{n:Ino}(h:n.sm):inode_own fuel n=some (n.1,n.2.1,n.2.2.1,n.2.2.2.1,n.2.2.2.2.1,n.2.2.2.2.2.2.1,n.2.2.2.2.2.1,n.2.2.2.2.2.2.2):=by
 unfold inode_own;rw[cIZ h.1,ZAA,d3Z h.2,ZAA]
theorem dKZ{α:Type}{l:List α}{i}{x}(h:l[i]? =some x):l.set i x=l:=by
 grind[ZAB,ZCT]
theorem aFZ{i n:Nat}(h:i<n):decide ((i:Int)<((n:Nat):Int))=true:=by simp_all
theorem aBZ{i n:Nat}(h:¬i<n):decide ((i:Int)<((n:Nat):Int))=false:=by simp_all
def isB(l:List Ino)(id:Int)(aa:Bool):Bool:=
 decide (1<=id)&&match l[(id-1).toNat]? with
  |some n=>n.2.2.1&&n.2.2.2.1==aa
  |none=>false
theorem qzZ{t:Tree}(h:Fit t.1)(id)(dir):inode_is fuel t id dir=some (isB t.1 id dir):=by
 unfold inode_is isB;by_cases h1:1<=id
 ·rw[show decide (id>=1)=true from by simp;omega,ZAK,ZBQ];by_cases h2:id<=((t.1.length:Nat):Int)
  ·have hn:=h.n;rw[show decide (id<=((t.1.length:Nat):Int))=true from by simp;omega,w6,azZ (by omega) (by omega),ZAA];have aa:(id-1).toNat<t.1.length:=by omega
   obtain⟨n,hg⟩:∃n,t.1[(id-1).toNat]? =some n:=⟨_,ZAC aa⟩;rw[hg];simp only[ZAA];cases n.2.2.1
   ·rfl
   ·simp only[ZBQ];rw[hg]
    rfl
  ·rw[show decide (id<=((t.1.length:Nat):Int))=false from by simp;omega,ZAD];rw[gNo]
 grind
def most:Int:=1099511627776
def okPart(aa:Int)(p:Part):Prop:=(p.1=0/\p.2=0)\/(1<=p.1/\p.1<=aa/\1<=p.2/\p.2<=1099511627776)
def stripes(l:List Part):List Int:=(l.filter λp=>p.1 !=0).map (·.1)
def okEnts(aa:Int):List UInt8->List Ent->Prop
 |_,[]=>True
 |ab,e::r=>1<=e.1.length/\e.1.length<=30/\Op.bytesLess ab e.1=true/\1<=e.2/\e.2<=aa/\okEnts aa e.1 r
theorem geZ(many)(last)(e)(r):okEnts many last (e::r)=(1<=e.1.length/\e.1.length<=30/\Op.bytesLess last e.1=true/\1<=e.2/\e.2<=many/\okEnts many e.1 r):=rfl
structure okIno (many stripe:Int) (i:Nat) (n:Ino):Prop where
 id:n.1=i+1
 gen:1<=n.2.1/\n.2.1<=1099511627776
 par:n.2.2.1=true->1<=n.2.2.2.2.2.2.1/\n.2.2.2.2.2.2.1<=many
 dir:n.2.2.1=true->n.2.2.2.1=true->n.2.2.2.2.1=0/\n.2.2.2.2.2.1=[]/\n.2.2.2.2.2.2.2.length<=100/\okEnts many [] n.2.2.2.2.2.2.2
 file:n.2.2.1=true->n.2.2.2.1=false->(0<=n.2.2.2.2.1/\n.2.2.2.2.1<=65536)/\n.2.2.2.2.2.2.2=[]/\n.2.2.2.2.2.1.length<=4096/\∀p∈n.2.2.2.2.2.1,okPart stripe p
 bare:n.2.2.1=false->n.2.2.2.1=false/\n.2.2.2.2.1=0/\n.2.2.2.2.2.2.1=0/\n.2.2.2.2.2.1=[]/\n.2.2.2.2.2.2.2=[]
def allStripes(l:List Ino):List Int:=l.flatMap λn=>stripes n.2.2.2.2.2.1
structure RightP (t:Tree):Prop where
 len:1<=t.1.length/\t.1.length<=500
 str:0<=t.2/\t.2<=1099511627776
 ino:∀i n,t.1[i]? =some n->okIno t.1.length t.2 i n
 nod:(allStripes t.1).Nodup
 root:∃r,t.1[0]? =some r/\r.2.2.1=true/\r.2.2.2.1=true/\r.2.2.2.2.2.2.1=1
theorem a1Z(a b):stripes (a++b)=stripes a++stripes b:=by simp[stripes]
theorem dhZ{p}(h:p.1=0):stripes [p]=[]:=by grind[stripes]
theorem cNZ{p}(h:p.1≠0):stripes [p]=[p.1]:=by grind[stripes]
theorem kkZ{l}(h:1<=l.length):Op.bytesLess [] l=true:=by
 cases l with
 |nil=>grind
 |cons a l=>rfl
theorem hzZ:∀(a b),(Op.bytesLess a b||(a==b))= !Op.bytesLess b a
 |[],[]=>rfl
 |[],b::l=>by simp[Op.bytesLess]
 |a::l,[]=>by simp[Op.bytesLess]
 |a::l,b::m=>by
  have ih:=hzZ l m;have ne:(a::l==b::m)=(a==b&&l==m):=rfl;by_cases h:a<b
  ·have h2:¬b<a:=by exact λh2=>absurd (UInt8.lt_trans h h2) (UInt8.lt_irrefl _)
   have h3:b≠a:=λe=>by simp_all
   simp[Op.bytesLess,h,h2,h3]
  ·by_cases h2:b<a
   ·have h3:a≠b:=λe=>by simp_all
    simp[Op.bytesLess,h,h2,h3]
   ·have h3:=ZCW (ZB8.1 h2) (ZB8.1 h);simp[Op.bytesLess,ZBQ]
    simp_all
theorem tPZ(e:Ent)(h)(many):∃w,idir1 fuel e h many=some (w,(e.1,many))/\(w=true↔¬(1<=e.1.length/\e.1.length<=30/\Op.bytesLess h e.1=true/\1<=e.2/\e.2<=many)):=by
 unfold idir1;rw[hzZ];by_cases h1:e.1.length<1
 ·simp_all
 rw[show decide (((e.1.length:Nat):Int)<1)=false from by grind];by_cases h2:e.1.length>30
 ·rw[show decide (((e.1.length:Nat):Int)>30)=true from by simp;omega]
  grind
 rw[show decide (((e.1.length:Nat):Int)>30)=false from by grind];cases h3:Op.bytesLess h e.1 with
 |false=>simp_all
 |true=>
  simp only[ZAO];by_cases h4:e.2<1
  ·rw[show decide (e.2<1)=true from by simp;omega];exact⟨true,rfl,by simp;omega⟩
  rw[show decide (e.2<1)=false from by simp;omega]
  grind
theorem sWZ(l:List Ent)(many)(hl:l.length<=100000):
 ∃o,sIndFun8_l0_it fuel l (0,([],many))=some o/\((∃a b,o= .inl (a,b)/\okEnts many [] l)\/(∃(k:Nat),∃a b,o= .inr ((k:Int),(a,b))/\¬okEnts many [] l)):=by
 refine aAZ (λn s=>∃(k:Nat) (aa:List UInt8),s=((k:Int),(aa,many))/\k+n=l.length/\(okEnts many [] l↔okEnts many aa (l.drop k))) _ (λn s hI=> ?_) (λs hI=> ?_) l.length _ (by omega) ⟨0,[],rfl,by omega,by simp⟩
 ·obtain⟨k,aa,rfl,hk,hi⟩:=hI;have ab:k<l.length:=by omega
  obtain⟨e,hg⟩:∃e,l[k]? =some e:=⟨_,ZAC ab⟩;have hd:l.drop k=e::l.drop (k+1):=by
   rw[ZBT ab];rw[ZAC ab] at hg;simp at hg;rw[hg]
  let⟨w,hw,ac⟩:=tPZ e aa many
  unfold sIndFun8_l0;simp only[aFZ ab];rw[adZ ab,ZAA,hg,ZAA,hw];rw[hd] at hi;cases w with
  |true=>
   right;refine⟨_,rfl,.inr ⟨k,_,_,rfl,λh=> ?_⟩⟩;have h2:=hi.1 h;exact ac.1 rfl ⟨h2.1,h2.2.1,h2.2.2.1,h2.2.2.2.1,h2.2.2.2.2.1⟩
  |false=>
   left;rw[w6];refine⟨_,rfl,k+1,e.1,by simp,by omega,?_⟩;have ad:¬¬(1<=e.1.length/\e.1.length<=30/\Op.bytesLess aa e.1=true/\1<=e.2/\e.2<=many):=λh=>by have:=ac.2 h;cases this
   have hy:=Classical.not_not.1 ad;constructor
   ·intro h;exact(hi.1 h).2.2.2.2.2
   ·intro h;exact hi.2 ⟨hy.1,hy.2.1,hy.2.2.1,hy.2.2.2.1,hy.2.2.2.2,h⟩
 ·obtain⟨k,aa,rfl,hk,hi⟩:=hI;have:k=l.length:=by omega
  subst this;unfold sIndFun8_l0;simp only[aBZ (ZAy _)];exact⟨_,rfl,.inl ⟨_,_,rfl,hi.2 (by simp[okEnts])⟩⟩
theorem v7Z(n:Ino)(many)(hs:n.sm):∃b,idir fuel n many=some b/\(b=true↔n.2.2.2.2.1=0/\n.2.2.2.2.2.1=[]/\n.2.2.2.2.2.2.2.length<=100/\okEnts many [] n.2.2.2.2.2.2.2):=by
 unfold idir;by_cases h1:n.2.2.2.2.1=0
 ·rw[show(n.2.2.2.2.1==0)=true from by grind];by_cases h2:n.2.2.2.2.2.1=[]
  ·rw[show(((n.2.2.2.2.2.1.length:Nat):Int)==0)=true from by grind];by_cases h3:n.2.2.2.2.2.2.2.length<=100
   ·rw[show decide (((n.2.2.2.2.2.2.2.length:Nat):Int)<=100)=true from by simp;omega]
    let⟨o,ho,hq⟩:=sWZ n.2.2.2.2.2.2.2 many hs.2
    unfold sConFun5 sIndFun8;rw[ho];rcases hq with⟨a,b,rfl,hq⟩|⟨k,a,b,rfl,hq⟩<;>simp_all
   ·rw[show decide (((n.2.2.2.2.2.2.2.length:Nat):Int)<=100)=false from by simp;omega]
    grind
  ·rw[show(((n.2.2.2.2.2.1.length:Nat):Int)==0)=false from by simp[h2],ZAD]
   simp_all
 ·rw[show(n.2.2.2.2.1==0)=false from by simp[h1],ZAD]
  simp_all
abbrev GM:=GMap (.int .i64) (.int .i64)
def MS(M:GM)(S:List Int):Prop:=∀k:Int,(((Option.getD (mget (k:=.int .i64) (v:=.int .i64) M k) 0:Int)==1)=true↔k∈S)
theorem MS.nil:MS ([],0) []:=λk=>by simp[mget,mfind]
theorem MS.put{M}{S}(h:MS M S)(x:Int):MS (mput M x 1) (S++[x]):=λk=>by
 by_cases hk:k=x
 ·simp_all[kJZ,doZ]
 ·rw[dkZ (doZ .i64) M x 1 hk,h k]
  grind
theorem sQZ(p:Part)(M)(S)(stripe)(hM:MS M S):∃w M',ifil1 fuel p M stripe=some (w,(M',stripe))/\(w=true↔¬(okPart stripe p/\(p.1≠0->p.1∉S)))/\(w=false->MS M' (S++stripes [p])):=by
 unfold ifil1;by_cases h0:p.1=0/\p.2=0
 ·rw[show((p.1==0)&&(p.2==0))=true from by simp[h0.1,h0.2]];refine⟨false,M,rfl,by simp[okPart,h0],λ_=> ?_⟩
  simp_all[dhZ]
 rw[show((p.1==0)&&(p.2==0))=false from by
  simp_all]
 have aa:=hM.put p.1;cases hq:((Option.getD (mget M p.1) 0:Int)==1) with
 |true=>
  have:=(hM p.1).1 hq;refine⟨true,_,rfl,?_,λh=>by cases h⟩;simp[okPart,true_iff]
  grind
 |false=>
  have hn:p.1∉S:=λh=>by have:=(hM p.1).2 h;rw[hq] at this;cases this
  simp only[ZAD];by_cases h1:p.1<1
  ·rw[show decide (p.1<1)=true from by simp;omega];exact⟨true,_,rfl,by simp only[okPart,true_iff];intro h;omega,λh=>by cases h⟩
  rw[show decide (p.1<1)=false from by simp;omega,ZAD];by_cases h2:p.1>stripe
  ·rw[show decide (p.1>stripe)=true from by simp;omega];exact⟨true,_,rfl,by simp only[okPart,true_iff];intro h;omega,λh=>by cases h⟩
  rw[show decide (p.1>stripe)=false from by simp;omega,ZAD];by_cases h3:p.2<1
  ·rw[show decide (p.2<1)=true from by simp;omega];exact⟨true,_,rfl,by simp only[okPart,true_iff];intro h;omega,λh=>by cases h⟩
  rw[show decide (p.2<1)=false from by simp;omega,ZAD];refine⟨_,_,rfl,?_,λ_=> ?_⟩
  ·simp only[okPart,ZAs];constructor
   ·intro h5 h6;omega
   ·intro h5;exact ZCB λh6=>h5 ⟨.inr (by omega),λ_=>hn⟩
  ·rw[cNZ (by omega)];exact aa
theorem quZ(l:List Part)(M)(S)(stripe)(hM:MS M S)(hS:S.Nodup)(hl:l.length<=100000):
 ∃o,sIndFun6_l0_it fuel l (0,(M,stripe))=some o/\((∃M',o= .inl (M',stripe)/\(∀p∈l,okPart stripe p)/\MS M' (S++stripes l)/\(S++stripes l).Nodup)\/(∃(k:Nat),∃M',o= .inr ((k:Int),(M',stripe))/\¬((∀p∈l,okPart stripe p)/\(S++stripes l).Nodup))):=by
 unfold sIndFun6_l0_it;refine aAZ (λn s=>∃(k:Nat) (M':GM),s=((k:Int),(M',stripe))/\k+n=l.length/\(∀p∈l.take k,okPart stripe p)/\MS M' (S++stripes (l.take k))/\(S++stripes (l.take k)).Nodup) _ (λn s hI=> ?_) (λs hI=> ?_) l.length _ (by omega) ⟨0,M,rfl,by omega,by simp,by simp_all[stripes],by simp_all[stripes]⟩
 ·obtain⟨k,M',rfl,hk,h1,h2,h3⟩:=hI;have hlt:k<l.length:=by omega
  obtain⟨p,hg⟩:∃p,l[k]? =some p:=⟨_,ZAC hlt⟩
  let⟨w,M2,hw,hw2,hw3⟩:=sQZ p M' _ stripe h2
  have ht:l.take (k+1)=l.take k++[p]:=by rw[ZCC,hg];rfl
  unfold sIndFun6_l0;simp only[aFZ hlt];rw[adZ hlt,ZAA,hg,ZAA,hw];cases w with
  |true=>
   right;refine⟨_,rfl,.inr ⟨k,_,rfl,λh=>hw2.1 rfl ⟨h.1 p (ZAI hg),λhp0 hm=> ?_⟩⟩⟩;have h5:=by
    have:l=l.take (k+1)++l.drop (k+1):=(ZBC _ _).symm;have h6:=h.2;rw[this,a1Z,<-List.append_assoc] at h6;exact(ZBV.1 h6).1
   rw[ht,a1Z,<-List.append_assoc,cNZ hp0] at h5;exact(ZBV.1 h5).2.2 _ hm _ (by simp) rfl
  |false=>
   left;have hy:=Classical.not_not.1 λh=>by have:=hw2.2 h;cases this
   rw[w6];refine⟨_,rfl,k+1,M2,by simp,by omega,?_,?_,?_⟩
   ·rw[ht];intro q hq;rcases ZAg.1 hq with hq|hq
    ·exact h1 q hq
    ·simp at hq;subst hq;exact hy.1
   ·rw[ht,a1Z,<-List.append_assoc];exact hw3 rfl
   ·rw[ht,a1Z,<-List.append_assoc];by_cases hp0:p.1=0
    ·rw[dhZ hp0,ZAp];exact h3
    ·rw[cNZ hp0];refine ZBV.2 ⟨h3,by simp,λa ha b hb=> ?_⟩;simp at hb;subst hb;exact λe=>hy.2 hp0 (e▸ha)
 ·obtain⟨k,M',rfl,hk,h1,h2,h3⟩:=hI;have:k=l.length:=by omega
  subst this;rw[ZAv] at h1 h2 h3;unfold sIndFun6_l0;simp only[aBZ (ZAy _),ZAD];exact⟨_,rfl,.inl ⟨_,rfl,h1,h2,h3⟩⟩
def okFile(aa:Int)(n:Ino):Prop:=(0<=n.2.2.2.2.1/\n.2.2.2.2.1<=65536)/\n.2.2.2.2.2.2.2=[]/\n.2.2.2.2.2.1.length<=4096/\∀p∈n.2.2.2.2.2.1,okPart aa p
theorem uMZ(n:Ino)(M)(S)(stripe)(hs:n.sm)(hM:MS M S)(hS:S.Nodup):∃b M',ifilm2 fuel n stripe M=some (b,M')/\(b=true↔okFile stripe n/\(S++stripes n.2.2.2.2.2.1).Nodup)/\(b=true->MS M' (S++stripes n.2.2.2.2.2.1)):=by
 unfold ifilm2 okFile;by_cases h1:n.2.2.2.2.1>=0
 ·rw[show decide (n.2.2.2.2.1>=0)=true from by simp_all];by_cases h2:n.2.2.2.2.1<=65536
  ·rw[show decide (n.2.2.2.2.1<=65536)=true from by simp_all];by_cases h3:n.2.2.2.2.2.2.2=[]
   ·rw[show(((n.2.2.2.2.2.2.2.length:Nat):Int)==0)=true from by simp[h3]];by_cases h4:n.2.2.2.2.2.1.length<=4096
    ·rw[show decide (((n.2.2.2.2.2.1.length:Nat):Int)<=4096)=true from by simp;omega,ZAK]
     let⟨o,ho,hq⟩:=quZ n.2.2.2.2.2.1 M S stripe hM hS hs.1
     unfold sConFun4 sIndFun6;rw[ho,ZAA];rcases hq with⟨M',rfl,q1,q2,q3⟩|⟨k,M',rfl,hq⟩
     ·exact⟨_,_,rfl,by simp[h1,h2,h3,h4,q3];exact λa b aa=>q1 (a,b) aa,λ_=>q2⟩
     ·refine⟨_,_,rfl,?_,?_⟩
      ·constructor
       ·intro h;simp at h
       ·intro h;exact absurd ⟨h.1.2.2.2,h.2⟩ hq
      ·intro h;simp at h
    ·rw[show decide (((n.2.2.2.2.2.1.length:Nat):Int)<=4096)=false from by simp;omega,ZAD];exact⟨_,_,rfl,by simp[h4],λh=>by cases h⟩
   ·rw[show(((n.2.2.2.2.2.2.2.length:Nat):Int)==0)=false from by simp[h3],ZAD];exact⟨_,_,rfl,by simp[h3],λh=>by cases h⟩
  ·rw[show decide (n.2.2.2.2.1<=65536)=false from by simp;omega,ZAD];exact⟨_,_,rfl,by simp;intro h;omega,λh=>by cases h⟩
 ·rw[show decide (n.2.2.2.2.1>=0)=false from by simp;omega,ZAD];exact⟨_,_,rfl,by simp;intro h;omega,λh=>by cases h⟩
theorem bAZ{l:List Ino}{k}{n}(h:l[k]? =some n):allStripes (l.take (k+1))=allStripes (l.take k)++stripes n.2.2.2.2.2.1:=by
 simp_all[ZCC,allStripes]
theorem syZ{l}{k}(h:(allStripes l).Nodup):(allStripes (l.take k)).Nodup:=by
 grind[allStripes,ZBC,ZBV]
theorem tEZ(n:Ino)(hs:n.sm):∃b,ibar fuel n=some b/\(b=true↔n.2.2.1=false/\n.2.2.2.1=false/\n.2.2.2.2.1=0/\n.2.2.2.2.2.2.1=0/\n.2.2.2.2.2.1=[]/\n.2.2.2.2.2.2.2=[]):=by
 unfold ibar;have aa:=hs.1;have ab:=hs.2;cases h1:n.2.2.1 with
 |true=>simp_all
 |false=>
  cases h2:n.2.2.2.1 with
  |true=>simp_all
  |false=>
   by_cases h3:n.2.2.2.2.1=0
   ·by_cases h4:n.2.2.2.2.2.2.1=0
    ·rw[w6];simp[h3,h4,true_and];constructor
     ·intro h;exact⟨ZAX (by omega),ZAX (by omega)⟩
     simp_all
    ·refine⟨false,?_,by simp[h4]⟩
     grind
   ·refine⟨false,?_,by simp[h3]⟩
    grind
theorem oeZ(t:Tree)(b)(k)(n)(M)(hf:Fit t.1)(hg:t.1[k]? =some n)(hM:MS M (allStripes (t.1.take k)))(hS:(allStripes (t.1.take k)).Nodup):
 (∃M',iRig_l0 fuel (b,(t.1,t.2)) t k t.1 t.2 M=some (.inl (((k+1:Nat):Int),(t.1,(t.2,M'))))/\okIno t.1.length t.2 k n/\MS M' (allStripes (t.1.take (k+1)))/\(allStripes (t.1.take (k+1))).Nodup)\/
 (iRig_l0 fuel (b,(t.1,t.2)) t k t.1 t.2 M=some (.inr (.inr false))/\¬(okIno t.1.length t.2 k n/\(allStripes (t.1.take (k+1))).Nodup)):=by
 have hlt:=(ZAB.1 hg).1;have hn:=hf.n
 let⟨b1,hb1,hb1'⟩:=tEZ n (hf.at hg)
 let⟨b2,hb2,hb2'⟩:=v7Z n ((t.1.length:Nat):Int) (hf.at hg)
 let⟨b3,M3,hb3,hb3',hb3''⟩:=uMZ n M _ t.2 (hf.at hg) hM hS
 rw[<-bAZ hg] at hb3' hb3'';have eid:(!(n.1==((k:Int)+1)))= !decide (n.1=(k:Int)+1):=by simp[BEq.beq]
 have main:∀(ok) (M'),(ok=true->MS M' (allStripes (t.1.take (k+1)))/\(allStripes (t.1.take (k+1))).Nodup)->
  ((okIno t.1.length t.2 k n/\(allStripes (t.1.take (k+1))).Nodup)↔(ok=true/\n.1=(k:Int)+1/\(1<=n.2.1/\n.2.1<=1099511627776)/\(n.2.2.1=true->1<=n.2.2.2.2.2.2.1/\n.2.2.2.2.2.2.1<=((t.1.length:Nat):Int))))->
  ∀R,R=(Option.bind (
   bif (!ok) then
    some (true,(t.1,(t.2,M')))
   else
    bif (!(n.1==((k:Int)+1))) then
     some (true,(t.1,(t.2,M')))
    else
     bif (decide (n.2.1<1)) then
      some (true,(t.1,(t.2,M')))
     else
      bif (decide (n.2.1>1099511627776)) then
       some (true,(t.1,(t.2,M')))
      else
       bif n.2.2.1 then
        bif (decide (n.2.2.2.2.2.2.1<1)) then
         some (true,(t.1,(t.2,M')))
        else
         some ((decide (n.2.2.2.2.2.2.1>((t.1.length:Nat):Int))),(t.1,(t.2,M')))
       else
        some (false,(t.1,(t.2,M')))) λo4=>
  bif o4.1 then
   some (.inr (.inr false))
  else
   some (.inl (((k:Int)+1),(o4.2.1,(o4.2.2.1,o4.2.2.2)))):Option ((Int×(List Ino×(Int×GM)))⊕((List Ino×Int)⊕Bool)))->
  (∃M',R=some (.inl (((k+1:Nat):Int),(t.1,(t.2,M'))))/\okIno t.1.length t.2 k n/\MS M' (allStripes (t.1.take (k+1)))/\(allStripes (t.1.take (k+1))).Nodup)\/
  (R=some (.inr (.inr false))/\¬(okIno t.1.length t.2 k n/\(allStripes (t.1.take (k+1))).Nodup)):=by
  intro ok M' hok hiff R hR;rw[hiff];cases ok with
  |false=>simp_all
  |true=>
   grind
 have hsucc:=bAZ hg;have htk:n.2.2.2.2.2.1=[]->(allStripes (t.1.take (k+1)))=allStripes (t.1.take k):=λh=>by grind[stripes]
 generalize hR:iRig_l0 fuel (b,(t.1,t.2)) t k t.1 t.2 M=R;unfold iRig_l0 at hR;simp only[aFZ hlt] at hR;rw[adZ hlt,ZAA,hg,ZAA,w6] at hR
 let⟨id,gen,used,dir,size,parts,parent,ents⟩:=n
 dsimp only at*;cases used with
 |true=>
  cases dir with
  |true=>
   refine main b2 M ?_ ?_ R ?_
   ·intro h;have:=(hb2'.1 h).2.1;rw[htk this];exact⟨hM,hS⟩
   ·constructor
    ·intro h;exact⟨hb2'.2 (h.1.dir rfl rfl),h.1.id,h.1.gen,h.1.par⟩
    ·intro h;have h9:=hb2'.1 h.1;exact⟨⟨h.2.1,h.2.2.1,h.2.2.2,λ_ _=>h9,(λ_ h=>by cases h),(λh=>by cases h)⟩,by rw[htk h9.2.1];exact hS⟩
   ·rw[<-hR,hb1,ZAA];simp only[ZAK,ZAA,hb2]
  |false=>
   refine main b3 M3 (λh=>⟨hb3'' h,(hb3'.1 h).2⟩) ?_ R ?_
   ·constructor
    ·intro h;exact⟨hb3'.2 ⟨h.1.file rfl rfl,h.2⟩,h.1.id,h.1.gen,h.1.par⟩
    ·intro h;have h9:=hb3'.1 h.1;exact⟨⟨h.2.1,h.2.2.1,h.2.2.2,(λ_ h=>by cases h),λ_ _=>h9.1,(λh=>by cases h)⟩,h9.2⟩
   ·rw[<-hR,hb1,ZAA];simp only[ZAK,ZAD,ZAA,hb3]
 |false=>
  refine main b1 M ?_ ?_ R ?_
  ·intro h;have:=(hb1'.1 h).2.2.2.2.1;rw[htk this];exact⟨hM,hS⟩
  ·constructor
   ·intro h;exact⟨hb1'.2 ⟨rfl,h.1.bare rfl⟩,h.1.id,h.1.gen,h.1.par⟩
   ·intro h;have h9:=hb1'.1 h.1;exact⟨⟨h.2.1,h.2.2.1,h.2.2.2,(λh=>by cases h),(λh=>by cases h),λ_=>h9.2⟩,by rw[htk h9.2.2.2.2.1];exact hS⟩
  ·rw[<-hR,hb1,ZAA];simp only[ZAK,ZAD,ZAA]
theorem nvZ{t:Tree}(hf:Fit t.1):∃b,iRig fuel t=some b/\(b=true↔RightP t):=by
 unfold iRig;have hn:=hf.n;by_cases h1:t.1.length<1
 ·rw[show decide (((t.1.length:Nat):Int)<1)=true from by simp_all];exact⟨false,rfl,by simp;intro h;have:=h.len;omega⟩
 rw[show decide (((t.1.length:Nat):Int)<1)=false from by grind,ZAD];by_cases h2:t.1.length>500
 ·rw[show decide (((t.1.length:Nat):Int)>500)=true from by grind];exact⟨false,rfl,by simp;intro h;have:=h.len;omega⟩
 rw[show decide (((t.1.length:Nat):Int)>500)=false from by grind,ZAD];by_cases h3:t.2<0
 ·rw[show decide (t.2<0)=true from by simp_all];exact⟨false,rfl,by simp;intro h;have:=h.str;omega⟩
 rw[show decide (t.2<0)=false from by simp_all,ZAD];by_cases h4:t.2>1099511627776
 ·rw[show decide (t.2>1099511627776)=true from by simp_all];exact⟨false,rfl,by simp;intro h;have:=h.str;omega⟩
 rw[show decide (t.2>1099511627776)=false from by simp_all,ZAA];simp only;have loop:∃o,iRig_l0_it fuel (false,(t.1,t.2)) t (0,(t.1,(t.2,([],0))))=some o/\((o= .inl (t.1,t.2)/\(∀i n,t.1[i]? =some n->okIno t.1.length t.2 i n)/\(allStripes t.1).Nodup)\/(o= .inr false/\¬((∀i n,t.1[i]? =some n->okIno t.1.length t.2 i n)/\(allStripes t.1).Nodup))):=by
  unfold iRig_l0_it;refine aAZ (λm s=>∃(k:Nat) (M:GM),s=((k:Int),(t.1,(t.2,M)))/\k+m=t.1.length/\(∀i n,i<k->t.1[i]? =some n->okIno t.1.length t.2 i n)/\MS M (allStripes (t.1.take k))/\(allStripes (t.1.take k)).Nodup) _ (λm s hI=> ?_) (λs hI=> ?_) t.1.length _ (by omega) ⟨0,([],0),rfl,by omega,λi n h=>absurd h (ZBc _),by grind[allStripes,MS.nil],by simp[allStripes]⟩
  ·obtain⟨k,M,rfl,hk,g1,g2,g3⟩:=hI;have aa:k<t.1.length:=by omega
   obtain⟨n,hg⟩:∃n,t.1[k]? =some n:=⟨_,ZAC aa⟩;rcases oeZ t false k n M hf hg g2 g3 with⟨M',r1,r2,r3,r4⟩|⟨r1,r2⟩
   ·left;refine⟨_,r1,k+1,M',rfl,by omega,λi n' hi ab=> ?_,r3,r4⟩;by_cases ac:i=k
    ·subst ac;rw[hg] at ab;cases ab;exact r2
    ·exact g1 i n' (by omega) ab
   ·right;exact⟨_,r1,.inr ⟨rfl,λh=>r2 ⟨h.1 k n hg,syZ h.2⟩⟩⟩
  ·obtain⟨k,M,rfl,hk,g1,g2,g3⟩:=hI;have:k=t.1.length:=by omega
   subst this;rw[ZAv] at g3;unfold iRig_l0;simp only[aBZ (ZAy _),ZAD];exact⟨_,rfl,.inl ⟨rfl,λi n h=>g1 i n (ZAB.1 h).1 h,g3⟩⟩
 let⟨o,ho,hq⟩:=loop
 rw[ho,ZAA];rcases hq with⟨rfl,q1,q2⟩|⟨rfl,q1⟩
 ·have aa:0<t.1.length:=by omega
  obtain⟨r,hg⟩:∃r,t.1[0]? =some r:=⟨_,ZAC aa⟩;simp only[];rw[show idx? 0 t.1.length=some 0 from adZ aa,ZAA,hg,ZAA];have hR:RightP t↔(r.2.2.1=true/\r.2.2.2.1=true/\r.2.2.2.2.2.2.1=1):=by
   constructor
   ·intro h;let⟨r',h1,h2⟩:=h.root;rw[hg] at h1;cases h1;exact h2
   ·intro h;exact⟨by omega,by omega,q1,q2,r,hg,h⟩
  rw[hR];cases r.2.2.1 with
  |false=>exact⟨false,rfl,by simp⟩
  |true=>cases r.2.2.2.1 with
   |false=>exact⟨false,rfl,by simp⟩
   |true=>exact⟨_,rfl,by simp⟩
 ·exact⟨false,rfl,by simp;exact λh=>q1 ⟨h.ino,h.nod⟩⟩
end Go.Ab.D
namespace Go.Ab
section
variable {τ κ ο γ : Type} {hd : τ → Option (List (κ × Nat))} {f : τ → κ × Nat → Option (τ ⊕ ο)}
end
section
variable {k v : Ty}
theorem ofZ{a b:Ty}(ha:KeyEq a)(hb:KeyEq b):KeyEq (.pair a b):=λx y=>by
 show(a.eqb x.1 y.1&&b.eqb x.2 y.2)=true↔_;rw[ZAF,ha,hb];constructor
 ·rintro⟨h1,h2⟩;exact Prod.ext h1 h2
 ·rintro rfl;exact⟨rfl,rfl⟩
structure MW (m:GMap k v):Prop where
 ks:keysU m
 ns:(m.1.map (·.2)).Nodup
 lo:∀e∈m.1,e.2<m.2
end
end Go.Ab
namespace Go.Ab.D
open Go Go.Ab
def namedB(s:List UInt8):Bool:=decide (1<=s.length)&&decide (s.length<=30)&& !(s==[46])&& !(s==[46,46])&& !Go.Lib.containsAny s [0,47]
theorem a2Z(s):tNam fuel s=some (namedB s):=by
 unfold tNam namedB;by_cases h1:1<=s.length
 ·rw[show decide (((s.length:Nat):Int)>=1)=true from by simp;omega,ZAJ h1];by_cases h2:s.length<=30
  ·rw[show decide (((s.length:Nat):Int)<=30)=true from by simp;omega,ZAJ h2];cases h3:(s==[46]) with
   |true=>rfl
   |false=>
    cases h4:(s==[46,46]) with
    |true=>rfl
    |false=>
     simp[ZBQ];unfold sConAny;rw[aeZ,ZAA];simp;omega
  ·rw[show decide (((s.length:Nat):Int)<=30)=false from by simp;omega,ZAE h2]
   rfl
 simp_all
def reachN(l:List Ino):Nat->Int->Bool
 |0,id=>id==1
 |k+1,id=>bif id==1 then true else match l[(id-1).toNat]? with
  |some n=>n.2.2.1&&reachN l k n.2.2.2.2.2.2.1
  |none=>false
theorem o8Z{t}(hr:RightP t)(id:Int)(h1:1<=id)(h2:id<=t.1.length):trea fuel t id=some (reachN t.1 t.1.length id):=by
 have af:=hr.len;have loop:∃o,trea_l0_it fuel t (id,(0,(t.1,t.2)))=some o/\((∃i,o= .inl i/\reachN t.1 t.1.length id=(i==1))\/(∃b,o= .inr b/\reachN t.1 t.1.length id=b)):=by
  unfold trea_l0_it;refine aAZ (λn s=>∃(k:Nat) (i:Int),s=(i,((k:Int),(t.1,t.2)))/\k+n=t.1.length/\1<=i/\i<=t.1.length/\reachN t.1 t.1.length id=reachN t.1 n i) _ (λn s hI=> ?_) (λs hI=> ?_) t.1.length _ (by omega) ⟨0,id,rfl,by omega,h1,h2,rfl⟩
  ·obtain⟨k,i,rfl,hk,ac,ad,he⟩:=hI;have ae:k<t.1.length:=by omega
   unfold trea_l0;simp only[aFZ ae];rw[he];cases aa:(i==1) with
   |true=>
    right;exact⟨_,rfl,.inr ⟨_,rfl,by unfold reachN;rw[aa];rfl⟩⟩
   |false=>
    simp only[ZAD];have ab:(i-1).toNat<t.1.length:=by omega
    obtain⟨x,hg⟩:∃x,t.1[(i-1).toNat]? =some x:=⟨_,ZAC ab⟩;rw[w6,azZ (by omega) (by omega),ZAA,hg,ZAA];have hx:=hr.ino _ _ hg;cases hu:x.2.2.1 with
    |false=>
     right;exact⟨_,rfl,.inr ⟨_,rfl,by unfold reachN;rw[aa,hg];simp[hu]⟩⟩
    |true=>
     left;simp only[ZAO,ZAD];rw[ZAA,hg,ZAA,w6];have hp:=hx.par hu;refine⟨_,rfl,k+1,_,by simp,by omega,hp.1,hp.2,?_⟩
     conv=>lhs;unfold reachN
     rw[aa,hg];simp[hu]
  ·obtain⟨k,i,rfl,hk,ac,ad,he⟩:=hI;have:k=t.1.length:=by omega
   subst this;unfold trea_l0;simp only[aBZ (ZAy _),ZAD];exact⟨_,rfl,.inl ⟨i,rfl,he⟩⟩
 let⟨o,ho,h⟩:=loop
 unfold trea
 grind
def allEnts(l:List Ino):List Ent:=l.flatMap λn=>n.2.2.2.2.2.2.2
def cnt(l:List Ent)(id:Int):Nat:=(l.filter λe=>e.2==id).length
theorem hKZ(a b)(id):cnt (a++b) id=cnt a id+cnt b id:=by simp[cnt]
theorem tXZ(e)(id):cnt [e] id=if e.2=id then 1 else 0:=by
 grind[cnt,id]
theorem vyZ(l)(id):cnt l id<=l.length:=ZBg _ _
def okE(l:List Ino)(n:Ino)(e:Ent):Prop:=namedB e.1=true/\∃x,l[(e.2-1).toNat]? =some x/\x.2.2.1=true/\x.2.2.2.2.2.2.1=n.1
structure RightT (t:Tree):Prop where
 r:RightP t
 e:∀n∈t.1,∀e∈n.2.2.2.2.2.2.2,okE t.1 n e
 reach:∀n∈t.1,n.2.2.1=true->reachN t.1 t.1.length n.1=true
 cnt:∀n∈t.1,cnt (allEnts t.1) n.1=if n.1=1\/n.2.2.1=false then 0 else 1
theorem cBZ{aa}:∀{l} {ab},okEnts aa ab l->∀e∈l,1<=e.2/\e.2<=aa/\1<=e.1.length/\e.1.length<=30
 |[],_,_,_,h=>by cases h
 |a::r,ab,h,e,he=>by
  rw[geZ] at h;rcases ZAi.1 he with rfl|he
  ·omega
  ·exact cBZ h.2.2.2.2.2 e he
theorem ctZ{aa st}{i}{n}(h:okIno aa st i n):n.2.2.2.2.2.2.2.length<=100/\okEnts aa [] n.2.2.2.2.2.2.2:=by
 cases hu:n.2.2.1 with
 |false=>rw[(h.bare hu).2.2.2.2];exact⟨by simp,trivial⟩
 |true=>
  cases hd:n.2.2.2.1 with
  |false=>rw[(h.file hu hd).2.1];exact⟨by simp,trivial⟩
  |true=>exact(h.dir hu hd).2.2
theorem vKZ{aa st}{i}{n}(h:okIno aa st i n):n.sm:=by
 refine⟨?_,by have:=(ctZ h).1;omega⟩;cases hu:n.2.2.1 with
 |false=>rw[(h.bare hu).2.2.2.1];simp
 |true=>
  cases hd:n.2.2.2.1 with
  |false=>have:=(h.file hu hd).2.2.1;omega
  |true=>rw[(h.dir hu hd).2.1];simp
theorem RightP.fit{t}(h:RightP t):Fit t.1:=by
 refine⟨by have:=h.len;omega,λn hn=> ?_⟩
 let⟨i,hi⟩:=ZAQ hn
 exact vKZ (h.ino i n hi)
theorem cHZ{l:List Ino}{k}{n}(h:l[k]? =some n):allEnts (l.take (k+1))=allEnts (l.take k)++n.2.2.2.2.2.2.2:=by
 simp_all[allEnts,ZCC]
theorem lvZ{l}{c}(h:∀n∈l,n.2.2.2.2.2.2.2.length<=c):(allEnts l).length<=l.length*c:=by
 induction l<;>grind[allEnts,ZCN,ZB4]
structure Cs (M:List Int) (len:Nat) (es:List Ent):Prop where
 n:M.length=len+1
 v:∀i:Nat,i<=len->M[i]? =some ((cnt es (i:Int):Nat):Int)
theorem Cs.zero(len):Cs (List.replicate (len+1) 0) len []:=
 ⟨by simp,λi hi=>by rw[List.getElem?_replicate,iPo];simp[cnt]⟩
theorem Cs.add{M}{aa}{es}(h:Cs M aa es)(e:Ent)(h1:0<=e.2)(h2:e.2<=aa):Cs (M.set e.2.toNat ((cnt es e.2:Nat)+1:Int)) aa (es++[e]):=by
 refine⟨by rw[ZAr];exact h.n,λi hi=> ?_⟩;rw[List.getElem?_set,hKZ,tXZ];have hn:=h.n;by_cases hc:e.2.toNat=i
 ·grind
 ·rw[ZAM hc,iNo,h.v i hi];simp
theorem qOZ(t:Tree)(n:Ino)(e:Ent)(M)(es)(hf:t.1.length<=100000)(hM:Cs M t.1.length es)(hs:es.length<=100000000)(h1:1<=e.2)(h2:e.2<=t.1.length):
 ∃w M',tRig1 fuel e M t.1 t.2 n.1 n.2.1 n.2.2.1 n.2.2.2.1 n.2.2.2.2.1 n.2.2.2.2.2.1 n.2.2.2.2.2.2.1 n.2.2.2.2.2.2.2=some (w,(M',(t.1,(t.2,n))))/\Cs M' t.1.length (es++[e])/\(w=true↔¬okE t.1 n e):=by
 unfold tRig1;have hn:=hM.n;have hv:=hM.v e.2.toNat (by omega);rw[ZBd (by omega)] at hv;have aa:(e.2-1).toNat<t.1.length:=by omega
 obtain⟨x,hx⟩:∃x,t.1[(e.2-1).toNat]? =some x:=⟨_,ZAC aa⟩;have hc:=vyZ es e.2;rw[azZ (by omega) (by omega),ZAA,hv,ZAA,ZAA,hv,ZAA,w6,azZ (by omega) (by omega),ZAA,hx,a2Z,ZAA,w6];have hC:=hM.add e (by omega) h2;have hw:okE t.1 n e↔(namedB e.1=true/\x.2.2.1=true/\x.2.2.2.2.2.2.1=n.1):=by
  unfold okE;constructor
  ·rintro⟨h3,y,h4,h5⟩;rw[hx] at h4;cases h4;exact⟨h3,h5⟩
  ·rintro⟨h3,h5⟩;exact⟨h3,x,hx,h5⟩
 rw[hw];cases h3:namedB e.1 with
 |false=>exact⟨_,_,rfl,hC,by simp⟩
 |true=>
  cases h4:x.2.2.1 with
  |false=>exact⟨_,_,rfl,hC,by simp⟩
  |true=>exact⟨_,_,rfl,hC,by simp⟩
theorem lKZ(t:Tree)(n:Ino)(l:List Ent)(M)(es)(hf:t.1.length<=100000)(hM:Cs M t.1.length es)(hs:es.length<=90000000)(hl:l.length<=100000)(ae:∀e∈l,1<=e.2/\e.2<=t.1.length):
 ∃w M',sConFun fuel l M t.1 t.2 n.1 n.2.1 n.2.2.1 n.2.2.2.1 n.2.2.2.2.1 n.2.2.2.2.2.1 n.2.2.2.2.2.2.1 n.2.2.2.2.2.2.2=some (w,(M',(t.1,(t.2,n))))/\(w=false->Cs M' t.1.length (es++l))/\(w=true↔¬∀e∈l,okE t.1 n e):=by
 have loop:∃o,sIndFun4_l0_it fuel l (0,(M,(t.1,(t.2,n))))=some o/\((∃M',o= .inl (M',(t.1,(t.2,n)))/\Cs M' t.1.length (es++l)/\∀e∈l,okE t.1 n e)\/(∃(k:Nat),∃M',o= .inr ((k:Int),(M',(t.1,(t.2,n))))/\¬∀e∈l,okE t.1 n e)):=by
  unfold sIndFun4_l0_it;refine aAZ (λm s=>∃(k:Nat),∃M',s=((k:Int),(M',(t.1,(t.2,n))))/\k+m=l.length/\Cs M' t.1.length (es++l.take k)/\∀e∈l.take k,okE t.1 n e) _ (λm s hI=> ?_) (λs hI=> ?_) l.length _ (by omega) ⟨0,M,rfl,by omega,by simpa using hM,by simp⟩
  ·obtain⟨k,M',rfl,hk,hC,ha⟩:=hI;have aa:k<l.length:=by omega
   obtain⟨e,hg⟩:∃e,l[k]? =some e:=⟨_,ZAC aa⟩;have ab:=ZAI hg
   let⟨h1,h2⟩:=ae e ab
   let⟨w,M2,hw,af,ac⟩:=qOZ t n e M' (es++l.take k) hf hC (by rw[ZAd,ZAS];omega) h1 h2
   unfold sIndFun4_l0;simp only[aFZ aa,ZAK];rw[adZ aa,ZAA,hg,ZAA,hw,ZAA];cases w with
   |true=>
    right;exact⟨_,rfl,.inr ⟨k,_,rfl,λh=>ac.1 rfl (h e ab)⟩⟩
   |false=>
    left;rw[w6];have ag:=ZCB λh=>by have:=ac.2 h;cases this
    refine⟨_,rfl,k+1,M2,by simp,by omega,?_,?_⟩
    ·rw[ZCC,hg,<-List.append_assoc];exact af
    ·intro e' ad;rw[ZCC,hg] at ad;rcases ZAg.1 ad with h|h
     ·exact ha e' h
     ·simp at h;rw[h];exact ag
  ·obtain⟨k,M',rfl,hk,hC,ha⟩:=hI;have:k=l.length:=by omega
   subst this;unfold sIndFun4_l0;simp only[aBZ (ZAy _),ZAD];rw[ZAv] at hC ha;exact⟨_,rfl,.inl ⟨M',rfl,hC,ha⟩⟩
 let⟨o,ho,h⟩:=loop
 unfold sConFun sIndFun4;rw[show(n.1,(n.2.1,(n.2.2.1,(n.2.2.2.1,(n.2.2.2.2.1,(n.2.2.2.2.2.1,(n.2.2.2.2.2.2.1,n.2.2.2.2.2.2.2)))))))=n from rfl,ho,ZAA];rcases h with⟨M',rfl,hC,ha⟩|⟨k,M',rfl,ha⟩<;>simp_all
theorem tlZ{t}(hr:RightP t):
 ∃o,tRig_l0_it fuel t (0,(t.1,(t.2,List.replicate (t.1.length+1) 0)))=some o/\
  ((∃M,o= .inl (t.1,(t.2,M))/\Cs M t.1.length (allEnts t.1)/\(∀n∈t.1,(∀e∈n.2.2.2.2.2.2.2,okE t.1 n e)/\(n.2.2.1=true->reachN t.1 t.1.length n.1=true)))\/
   (o= .inr false/\¬∀n∈t.1,(∀e∈n.2.2.2.2.2.2.2,okE t.1 n e)/\(n.2.2.1=true->reachN t.1 t.1.length n.1=true))):=by
 have af:=hr.len;unfold tRig_l0_it;refine aAZ (λm s=>∃(k:Nat),∃M,s=((k:Int),(t.1,(t.2,M)))/\k+m=t.1.length/\Cs M t.1.length (allEnts (t.1.take k))/\∀n∈t.1.take k,(∀e∈n.2.2.2.2.2.2.2,okE t.1 n e)/\(n.2.2.1=true->reachN t.1 t.1.length n.1=true)) _ (λm s hI=> ?_) (λs hI=> ?_) t.1.length _ (by omega) ⟨0,_,rfl,by omega,by simp_all[allEnts,Cs.zero],by simp⟩
 ·obtain⟨k,M,rfl,hk,hC,ha⟩:=hI;have ab:k<t.1.length:=by omega
  obtain⟨n,hg⟩:∃n,t.1[k]? =some n:=⟨_,ZAC ab⟩;have ad:=ZAI hg;have hi:=hr.ino k n hg;have hE:=ctZ hi;have ag:=by
   have:=lvZ (l:=t.1.take k) (λn hn=>by
    let⟨i,hi⟩:=ZAQ (ZCF hn)
    exact(ctZ (hr.ino i n hi)).1)
   rw[ZAS] at this;omega
  let⟨w,M',hw,ac,ae⟩:=lKZ t n n.2.2.2.2.2.2.2 M (allEnts (t.1.take k)) (by omega) hC (by omega) (by omega) (λe he=>⟨(cBZ hE.2 e he).1,(cBZ hE.2 e he).2.1⟩)
  unfold tRig_l0;simp only[aFZ ab];rw[adZ ab,ZAA,hg,ZAA,hw,ZAA];cases w with
  |true=>
   grind
  |false=>
   have aa:=ZCB λh=>by have:=ae.2 h;cases this
   simp only[ZAD];cases hu:n.2.2.1 with
   |false=>
    left;simp only[ZAD];rw[ZAA];simp only[ZAD];rw[w6];refine⟨_,rfl,k+1,M',by simp,by omega,?_,?_⟩
    ·rw[cHZ hg];exact ac rfl
    ·intro x hx;rw[ZCC,hg] at hx;rcases ZAg.1 hx with h|h
     ·exact ha x h
     ·simp at h;subst h;exact⟨aa,λh=>by rw[hu] at h;cases h⟩
   |true=>
    simp only[ZAK];rw[hi.id,o8Z hr _ (by omega) (by omega),ZAA,ZAA];cases hq:reachN t.1 t.1.length ((k:Int)+1) with
    |false=>
     right;exact⟨_,rfl,.inr ⟨rfl,λh=>by have:=(h n ad).2 hu;rw[hi.id,hq] at this;cases this⟩⟩
    |true=>
     left;simp only[ZAO,ZAD];rw[w6];refine⟨_,rfl,k+1,M',by simp,by omega,?_,?_⟩
     ·rw[cHZ hg];exact ac rfl
     ·intro x hx;rw[ZCC,hg] at hx;rcases ZAg.1 hx with h|h
      ·exact ha x h
      ·simp at h;subst h;exact⟨aa,λ_=>by rw[hi.id];exact hq⟩
 ·obtain⟨k,M,rfl,hk,hC,ha⟩:=hI;have:k=t.1.length:=by omega
  subst this;unfold tRig_l0;simp only[aBZ (ZAy _),ZAD];rw[ZAv] at hC ha;exact⟨_,rfl,.inl ⟨M,rfl,hC,ha⟩⟩
theorem tiZ{t}(hr:RightP t)(M)(hC:Cs M t.1.length (allEnts t.1)):
 ∃o,tRig_l1_it fuel (t.1,(t.2,M)) (0,M)=some o/\
  ((o= .inl ()/\∀n∈t.1,cnt (allEnts t.1) n.1=if n.1=1\/n.2.2.1=false then 0 else 1)\/
   (o= .inr false/\¬∀n∈t.1,cnt (allEnts t.1) n.1=if n.1=1\/n.2.2.1=false then 0 else 1)):=by
 have af:=hr.len;unfold tRig_l1_it;refine aAZ (λm s=>∃(k:Nat),s=((k:Int),M)/\k+m=t.1.length/\∀n∈t.1.take k,cnt (allEnts t.1) n.1=if n.1=1\/n.2.2.1=false then 0 else 1) _ (λm s hI=> ?_) (λs hI=> ?_) t.1.length _ (by omega) ⟨0,rfl,by omega,by simp⟩
 ·obtain⟨k,rfl,hk,ha⟩:=hI;have ac:k<t.1.length:=by omega
  obtain⟨n,hg⟩:∃n,t.1[k]? =some n:=⟨_,ZAC ac⟩;have ae:=ZAI hg;have hi:=hr.ino k n hg;have hn:=hC.n;have hv:=hC.v (k+1) (by omega);unfold tRig_l1;simp only[aFZ ac];rw[adZ ac,ZAA,hg,ZAA];have fin:∀(aa:Nat),aa=(if n.1=1\/n.2.2.1=false then 0 else 1)->
   (∃s',((idx? n.1 M.length).bind λq3=>(M[q3]?).bind λr5=>bif (!(r5==(aa:Int))) then(some (.inr (.inr false)):Option ((Int×List Int)⊕(Unit⊕Bool))) else some (.inl ((wI ((k:Int)+1)),M)))=some (.inl s')/\∃(j:Nat),s'=((j:Int),M)/\j+m=t.1.length/\∀n∈t.1.take j,cnt (allEnts t.1) n.1=if n.1=1\/n.2.2.1=false then 0 else 1)\/
   ∃o,((idx? n.1 M.length).bind λq3=>(M[q3]?).bind λr5=>bif (!(r5==(aa:Int))) then(some (.inr (.inr false)):Option ((Int×List Int)⊕(Unit⊕Bool))) else some (.inl ((wI ((k:Int)+1)),M)))=some (.inr o)/\((o= .inl ()/\∀n∈t.1,cnt (allEnts t.1) n.1=if n.1=1\/n.2.2.1=false then 0 else 1)\/(o= .inr false/\¬∀n∈t.1,cnt (allEnts t.1) n.1=if n.1=1\/n.2.2.1=false then 0 else 1)):=by
   intro aa ab;have ad:n.1=((k+1:Nat):Int):=by rw[hi.id];simp
   rw[show idx? n.1 M.length=some (k+1) from by rw[ad];exact adZ (by omega),ZAA,hv,ZAA,w6];by_cases hc:cnt (allEnts t.1) ((k+1:Nat):Int)=aa
   ·left;rw[hc,ZAb,ZAO];refine⟨_,rfl,k+1,by simp,by omega,λx hx=> ?_⟩;rw[ZCC,hg] at hx;rcases ZAg.1 hx with h|h
    ·exact ha x h
    ·simp at h;subst h;rw[<-ab,<-hc,ad]
   ·right;rw[(ZAW.2 (by omega)),ZAk,ZAK];refine⟨_,rfl,.inr ⟨rfl,λh=>hc ?_⟩⟩;rw[ab,<-h n ae,ad]
  cases hb:(n.1==1) with
  |true=>
   simp only[ZAK,ZAA];exact fin 0 (by rw[ZAN (.inl (ZB2.1 hb))])
  |false=>
   cases hu:n.2.2.1 with
   |false=>
    simp only[ZAD,ZAK,ZAA,ZAk];exact fin 0 (by rw[ZAN (.inr hu)])
   |true=>
    simp only[ZAD,ZAA,ZAO];exact fin 1 (by rw[ZAM];rintro(h|h);(rw[h] at hb;cases hb);(rw[hu] at h;cases h))
 ·obtain⟨k,rfl,hk,ha⟩:=hI;have:k=t.1.length:=by omega
  subst this;unfold tRig_l1;simp only[aBZ (ZAy _),ZAD];rw[ZAv] at ha;exact⟨_,rfl,.inl ⟨rfl,ha⟩⟩
theorem ioZ{t:Tree}(hf:Fit t.1):∃b,tRig fuel t=some b/\(b=true↔RightT t):=by
 let⟨b,hb,aa⟩:=nvZ hf
 unfold tRig;rw[hb,ZAA];cases b with
 |false=>exact⟨false,rfl,by constructor;(intro h;cases h);(intro h;exact aa.2 h.r)⟩
 |true=>
  have hr:=aa.1 rfl;have ab:=hr.len;rw[w6,show(((t.1.length:Nat):Int)+1)=((t.1.length+1:Nat):Int) from by simp,aKZ (by simp[atZ];omega),ZAA,aKZ (ZAL _),ZAA,aeZ]
  ·let⟨o,ho,h⟩:=tlZ hr
   rw[ho,ZAA];rcases h with⟨M,rfl,hC,h⟩|⟨rfl,h⟩
   ·simp only
    let⟨o,ho,h'⟩:=tiZ hr M hC
    rw[ho];rcases h' with⟨rfl,h'⟩|⟨rfl,h'⟩
    ·exact⟨true,rfl,by simp;exact⟨hr,λn hn=>(h n hn).1,λn hn=>(h n hn).2,h'⟩⟩
    ·exact⟨false,rfl,by simp;exact λhh=>h' hh.cnt⟩
   ·exact⟨false,rfl,by simp;exact λhh=>h λn hn=>⟨hh.e n hn,hh.reach n hn⟩⟩
  grind[ZAl,atZ]
abbrev blt(a b:List UInt8):Bool:=Op.bytesLess a b
theorem bsZ:∀(a),blt a a=false
 |[]=>rfl
 |a::l=>by
  have ih:=bsZ l;simp[Op.bytesLess,ih]
theorem f7Z(a b)(l m):blt (a::l) (b::m)=true↔a<b\/(a=b/\blt l m=true):=by
 simp only[Op.bytesLess]
 simp_all
theorem eDZ:∀{a b c},blt a b=true->blt b c=true->blt a c=true
 |[],[],_,h,_=>by cases h
 |[],_::_,[],_,h=>by cases h
 |[],_::_,_::_,_,_=>rfl
 |_::_,[],_,h,_=>by cases h
 |_::_,_::_,[],_,h=>by cases h
 |x::a,y::b,z::c,h1,h2=>by
  rw[f7Z] at h1 h2⊢;rcases h1 with h1|⟨rfl,h1⟩
  ·rcases h2 with h2|⟨rfl,h2⟩
   ·exact .inl (UInt8.lt_trans h1 h2)
   ·exact .inl h1
  ·rcases h2 with h2|⟨rfl,h2⟩
   ·exact .inl h2
   ·exact .inr ⟨rfl,eDZ h1 h2⟩
theorem kdZ:∀(a b),blt a b=true\/a=b\/blt b a=true
 |[],[]=>.inr (.inl rfl)
 |[],_::_=>.inl rfl
 |_::_,[]=>.inr (.inr rfl)
 |x::a,y::b=>by
  rw[f7Z,f7Z];rcases kdZ a b with h|h|h
  ·by_cases h1:x<y
   ·exact .inl (.inl h1)
   ·by_cases h2:y<x
    ·exact .inr (.inr (.inl h2))
    ·exact .inl (.inr ⟨ZCW (ZB8.1 h2) (ZB8.1 h1),h⟩)
  ·by_cases h1:x<y
   ·exact .inl (.inl h1)
   ·by_cases h2:y<x
    ·exact .inr (.inr (.inl h2))
    ·exact .inr (.inl (by rw[ZCW (ZB8.1 h2) (ZB8.1 h1),h]))
  ·by_cases h1:x<y
   ·exact .inl (.inl h1)
   ·by_cases h2:y<x
    ·exact .inr (.inr (.inl h2))
    ·exact .inr (.inr (.inr ⟨ZCW (ZB8.1 h1) (ZB8.1 h2),h⟩))
theorem rvZ{a b}(h:blt a b=true):blt b a=false:=by
 grind[eDZ,bsZ]
theorem eSZ:∀(a b),(Go.Lib.compareBytes a b<0↔blt a b=true)/\(Go.Lib.compareBytes a b=0↔a=b)
 |[],[]=>by simp[Go.Lib.compareBytes,Op.bytesLess]
 |[],_::_=>by simp[Go.Lib.compareBytes,Op.bytesLess]
 |_::_,[]=>by simp[Go.Lib.compareBytes,Op.bytesLess]
 |x::a,y::b=>by
  have ih:=eSZ a b;rw[f7Z];unfold Go.Lib.compareBytes;by_cases h:x<y
  ·simp[h];intro e;subst e;exact absurd h (UInt8.lt_irrefl _)
  ·by_cases h2:y<x
   ·have:x≠y:=λe=>by subst e;exact h h2
    simp[h,h2,this]
   ·have:=ZCW (ZB8.1 h2) (ZB8.1 h);subst this;simp[ih.1,ih.2]
def Srt(l:List Ent):Prop:=l.Pairwise λa b=>blt a.1 b.1=true
theorem hVZ{ab}:∀{l} {aa},okEnts ab aa l->Srt l/\∀e∈l,blt aa e.1=true
 |[],_,_=>⟨List.Pairwise.nil,λ_ h=>by cases h⟩
 |a::r,aa,h=>by
  have ih:=hVZ h.2.2.2.2.2;refine⟨List.Pairwise.cons ih.2 ih.1,λe he=> ?_⟩;rcases ZAi.1 he with rfl|he
  ·exact h.2.2.1
  ·exact eDZ h.2.2.1 (ih.2 e he)
theorem fcZ{ab}:∀{l} {aa},Srt l->(∀e∈l,blt aa e.1=true/\1<=e.1.length/\e.1.length<=30/\1<=e.2/\e.2<=ab)->okEnts ab aa l
 |[],_,_,_=>trivial
 |a::r,aa,hs,h=>by
  have ha:=h a (by simp);have ac:=ZA3.1 hs;exact⟨ha.2.1,ha.2.2.1,ha.1,ha.2.2.2.1,ha.2.2.2.2,fcZ ac.2 λe he=>⟨ac.1 e he,(h e (by simp[he])).2⟩⟩
def pos(l:List Ent)(s:List UInt8):Nat:=(l.takeWhile λe=>blt e.1 s).length
def hasN(l:List Ent)(s:List UInt8):Bool:=l.any λe=>e.1==s
def insE(l:List Ent)(s:List UInt8)(id:Int):List Ent:=l.take (pos l s)++[(s,id)]++l.drop (pos l s)
def delE(l:List Ent)(s:List UInt8):List Ent:=l.filter λe=> !(e.1==s)
theorem qtZ(l)(s):pos l s<=l.length:=(List.takeWhile_prefix _).length_le
theorem j1Z{l}{s}(h:Srt l):∀(i) e,l[i]? =some e->(i<pos l s↔blt e.1 s=true):=by
 induction l with
 |nil=>simp_all
 |cons a l ih=>
  have h':=ZA3.1 h;intro i e he;unfold pos;rw[List.takeWhile_cons];cases ha:blt a.1 s with
  |false=>
   constructor
   ·intro hh;exact absurd hh (ZBc _)
   grind[ZAI,eDZ]
  |true=>
   simp[ZCN];cases i with
   |zero=>simp_all
   |succ i=>
    have:=ih h'.2 i e (by simpa using he);unfold pos at this;rw[<-this];omega
theorem qSZ{l}{s}(h:Srt l):hasN l s=true↔∃id,l[pos l s]? =some (s,id):=by
 constructor
 ·intro hh;unfold hasN at hh;rw[List.any_eq_true] at hh
  let⟨e,he,hes⟩:=hh
  have hes:=by simpa using hes
  let⟨i,hi⟩:=ZAQ he
  have h1:=j1Z (s:=s) h i e hi;rw[hes,bsZ] at h1;have h2:¬i<pos l s:=λh=>by have:=h1.1 h;cases this
  have h3:¬pos l s<i:=λhlt=>by
   have hil:=(ZAB.1 hi).1;have hg:l[pos l s]? =some (l[pos l s]'(by omega)):=gEo;have h4:=(j1Z (s:=s) h (pos l s) _ hg);have h5:=by
    have:=ZBp.1 h (pos l s) i (by omega) hil hlt;rw[(ZAB.1 hi).2] at this;exact this
   rw[hes] at h5;exact absurd (h4.2 h5) (ZAy _)
  have:i=pos l s:=by omega
  subst this;exact⟨e.2,by rw[hi,<-hes]⟩
 grind[id,hasN,List.any_eq_true,ZAI]
theorem oYZ{l}(s)(h:Srt l)(hl:l.length<=100000):sBinSeaFu2_l0_it fuel l s (0,((l.length:Nat):Int))=some ((pos l s:Nat):Int):=by
 unfold sBinSeaFu2_l0_it;have hp:=qtZ l s;obtain⟨o,ho,h2⟩:∃o,iter fuel (λtt=>sBinSeaFu2_l0 fuel l s tt.1 tt.2) (0,((l.length:Nat):Int))=some o/\o=((pos l s:Nat):Int):=by
  refine aAZ (λn t=>∃i j:Nat,t=((i:Int),(j:Int))/\i<=pos l s/\pos l s<=j/\j<=l.length/\j-i<=n) _ (λn t hI=> ?_) (λt hI=> ?_) l.length _ (by omega) ⟨0,l.length,rfl,by omega,hp,by omega,by omega⟩
  ·obtain⟨i,j,rfl,h1,h2,h3,h4⟩:=hI;unfold sBinSeaFu2_l0;by_cases hij:i<j
   ·have e0:IntKind.wrap .u64 (wI ((i:Int)+(j:Int)))=((i+j:Nat):Int):=by
     rw[w6,wu64 (by omega)];simp
    have e1:wI (Int.fdiv (IntKind.wrap .u64 (wI ((i:Int)+(j:Int)))) 2)=(((i+j)/2:Nat):Int):=by
     rw[e0,show(2:Int)=((2:Nat):Int) from rfl,mVZ,w6]
    have hm:(i+j)/2<l.length:=by omega
    obtain⟨e,hg⟩:∃e,l[(i+j)/2]? =some e:=⟨_,ZAC hm⟩;simp only[aFZ hij,ZAK,e1];rw[adZ hm,ZAA,hg,ZAA];have hc:=eSZ e.1 s;have hlt:=j1Z (s:=s) h _ e hg;have he:tent1 fuel e s=some (Go.Lib.compareBytes e.1 s):=rfl;rw[he,ZAA];left;by_cases hq:Go.Lib.compareBytes e.1 s<0
    ·have hp2:=hlt.2 (hc.1.1 hq);rw[ZAJ hq,ZAK,ZAA,w6];exact⟨_,rfl,(i+j)/2+1,j,by simp,by omega,h2,h3,by omega⟩
    ·have hp2:¬(i+j)/2<pos l s:=λhh=>hq (hc.1.2 (hlt.1 hh));rw[ZAE hq,ZAD,ZAA];exact⟨_,rfl,i,(i+j)/2,rfl,h1,by omega,by omega,by omega⟩
   ·right;simp only[aBZ hij,ZAD];exact⟨_,rfl,by rw[show i=pos l s from by omega]⟩
  ·obtain⟨i,j,rfl,h1,h2,h3,h4⟩:=hI;unfold sBinSeaFu2_l0;have hij:¬i<j:=by omega
   simp only[aBZ hij,ZAD];exact⟨_,rfl,by rw[show i=pos l s from by omega]⟩
 simp_all
theorem iGZ{n:Ino}(s)(h:Srt n.2.2.2.2.2.2.2)(hl:n.2.2.2.2.2.2.2.length<=100000):tent fuel n s=some (((pos n.2.2.2.2.2.2.2 s:Nat):Int),hasN n.2.2.2.2.2.2.2 s):=by
 unfold tent sBinSeaFu2;rw[oYZ s h hl,ZAA];have ab:=qSZ (s:=s) h;by_cases aa:pos n.2.2.2.2.2.2.2 s<n.2.2.2.2.2.2.2.length
 ·obtain⟨e,hg⟩:∃e,n.2.2.2.2.2.2.2[pos n.2.2.2.2.2.2.2 s]? =some e:=⟨_,ZAC aa⟩;rw[aFZ aa,ZAK,adZ aa,ZAA,hg,ZAA,show tent1 fuel e s=some (Go.Lib.compareBytes e.1 s) from rfl,ZAA,ZAA];congr 2;rw[Bool.eq_iff_iff,ab,hg,ZB2,(eSZ e.1 s).2];constructor
  ·rintro rfl;exact⟨_,rfl⟩
  ·rintro⟨id,h⟩;cases h;rfl
 grind
theorem dEZ{l}{s}{id}{e}:e∈insE l s id↔e=(s,id)\/e∈l:=by
 unfold insE
 grind[ZAg,ZBC,ZCk]
theorem bBZ{l}{s}{e}:e∈delE l s↔e∈l/\e.1≠s:=by
 simp_all[delE]
theorem dAZ{l}(s)(h:Srt l):Srt (delE l s):=List.Pairwise.filter _ h
theorem aCZ{l}{s}:hasN l s=true↔∃id,(s,id)∈l:=by
 simp_all[hasN,id]
theorem fHZ{l}{s}(id)(h:Srt l)(hn:hasN l s=false):Srt (insE l s id):=by
 have h1:Srt (l.take (pos l s)++l.drop (pos l s)):=by rw[ZBC];exact h
 have h2:=ZBu.1 h1;have lo:∀e∈l.take (pos l s),blt e.1 s=true:=λe he=>by
  let⟨i,hi⟩:=ZAQ he
  have hl:=(ZAB.1 hi).1;rw[ZAS] at hl;rw[ZAn,iPo] at hi;exact(j1Z h i e hi).1 (by omega)
 have hi:∀e∈l.drop (pos l s),blt s e.1=true:=λe he=>by
  let⟨i,hi⟩:=ZAQ he
  rw[ZA0] at hi;have h3:=j1Z (s:=s) h _ e hi;rcases kdZ e.1 s with h4|h4|h4
  ·have:=h3.2 h4;omega
  ·have:hasN l s=true:=aCZ.2 ⟨e.2,by rw[<-h4];exact ZAI hi⟩;rw[hn] at this;cases this
  ·exact h4
 refine ZBu.2 ⟨ZBu.2 ⟨h2.1,List.pairwise_singleton _ _,λa ha b hb=> ?_⟩,h2.2.1,λa ha b hb=> ?_⟩
 ·rw[ZCk] at hb;subst hb;exact lo a ha
 grind
theorem d8Z{l}(h:Srt l){s}{a b}(h1:(s,a)∈l)(h2:(s,b)∈l):a=b:=by
 induction l with
 |nil=>grind
 |cons x l ih=>
  have h':=ZA3.1 h;rcases ZAi.1 h1 with e1|e1
  ·grind[ZAi,bsZ]
  ·rcases ZAi.1 h2 with e2|e2
   ·grind[bsZ]
   ·exact ih h'.2 e1 e2
theorem rwZ:∀{l m},Srt l->Srt m->(∀e,e∈l↔e∈m)->l=m
 |[],[],_,_,_=>rfl
 |[],b::m,_,_,h=>by have:=(h b).2 (by simp);grind
 |a::l,[],_,_,h=>by have:=(h a).1 (by simp);grind
 |a::l,b::m,h1,h2,h=>by
  have aa:=ZA3.1 h1;have ab:=ZA3.1 h2;have ac:a=b:=by
   rcases ZAi.1 ((h a).1 (by simp)) with e|e
   ·exact e
   ·rcases ZAi.1 ((h b).2 (by simp)) with e'|e'
    ·exact e'.symm
    ·have q1:=ab.1 a e;have q2:=aa.1 b e';rw[rvZ q1] at q2;cases q2
  subst ac;rw[rwZ aa.2 ab.2 λe=> ?_];constructor
  ·intro he;rcases ZAi.1 ((h e).1 (by simp[he])) with e'|e'
   ·subst e';have:=aa.1 _ he;rw[bsZ] at this;cases this
   ·exact e'
  ·intro he;rcases ZAi.1 ((h e).2 (by simp[he])) with e'|e'
   ·subst e';have:=ab.1 _ he;rw[bsZ] at this;cases this
   ·exact e'
theorem fJZ(l)(s)(id):(insE l s id).length=l.length+1:=by
 grind[insE,ZAd,ZAS,ZAu,List.length_singleton]
theorem nrZ{l}{s}{id}(h:Srt l)(hm:(s,id)∈l):(delE l s).length+1=l.length:=by
 have e:=rwZ h (fHZ id (dAZ s h) (by
  cases hh:hasN (delE l s) s with
  |false=>rfl
  |true=>let⟨i,hi⟩:=aCZ.1 hh;exact absurd rfl (bBZ.1 hi).2)) λe=>by
   rw[dEZ,bBZ];constructor
   ·intro he;by_cases hs:e.1=s
    ·left;have:(s,e.2)∈l:=by rw[<-hs];exact he
     rw[d8Z h hm this,<-hs]
    ·exact .inr ⟨he,hs⟩
   ·rintro(rfl|he)
    ·exact hm
    ·exact he.1
 grind[fJZ]
inductive Rch (l:List Ino):Int->Prop
 |root:Rch l 1
 |step {id:Int} {x:Ino}:l[(id-1).toNat]? =some x->x.2.2.1=true->Rch l x.2.2.2.2.2.2.1->Rch l id
structure TreeOK (t:Tree):Prop where
 r:RightP t
 e:∀(i:Nat) n,t.1[i]? =some n->∀s id,(s,id)∈n.2.2.2.2.2.2.2->namedB s=true/\id≠1/\∃x,t.1[(id-1).toNat]? =some x/\x.2.2.1=true/\x.2.2.2.2.2.2.1=(i:Int)+1
 u:∀(j:Nat) x,t.1[j]? =some x->x.2.2.1=true->j≠0->∃n s,t.1[(x.2.2.2.2.2.2.1-1).toNat]? =some n/\(s,(j:Int)+1)∈n.2.2.2.2.2.2.2/\∀s',(s',(j:Int)+1)∈n.2.2.2.2.2.2.2->s'=s
 a:∀(j:Nat) x,t.1[j]? =some x->x.2.2.1=true->Rch t.1 ((j:Int)+1)
theorem enZ(l):∀(k) (id),reachN l k id=true->reachN l (k+1) id=true
 |0,id,h=>by
  simp_all[reachN]
 |k+1,id,h=>by
  unfold reachN at h⊢;cases h1:(id==1) with
  |true=>rfl
  |false=>
   rw[h1] at h;cases hg:l[(id-1).toNat]? with
   |none=>rw[hg] at h;cases h
   |some n=>
    rw[hg] at h;simp at h⊢;exact⟨h.1,enZ l k _ h.2⟩
theorem jFZ(l){k m}(h:k<=m){id}(hr:reachN l k id=true):reachN l m id=true:=by
 induction h<;>grind[enZ]
theorem jVZ{α:Type}{p q}:∀{L:List α},(∀x∈L,p x=true->q x=true)->(∃x∈L,p x=false/\q x=true)->L.countP p+1<=L.countP q
 |[],_,h=>by simp_all
 |a::L,h1,h2=>by
  have aa:=λx hx=>h1 x (ZAc _ hx);rw[List.countP_cons,List.countP_cons];by_cases hL:∃x∈L,p x=false/\q x=true
  ·have:=jVZ aa hL;have h3:=h1 a (by simp);cases hp:p a with
   |false=>simp;split<;>omega
   |true=>simp[h3 hp];exact this
  simp_all[List.countP_mono_left]
theorem fdZ{l}(h0:1<=l.length)(hp:∀(j:Nat) x,l[j]? =some x->x.2.2.1=true->1<=x.2.2.2.2.2.2.1/\x.2.2.2.2.2.2.1<=l.length){id}(h1:1<=id)(h2:id<=l.length)(h:Rch l id):reachN l l.length id=true:=by
 have aa:∀k,(∀i∈List.range l.length,reachN l (k+1) ((i:Int)+1)=true->reachN l k ((i:Int)+1)=true)->∀id,Rch l id->1<=id->id<=l.length->reachN l k id=true:=by
  intro k hk id h;induction h with
  |root=>intro _ _;exact jFZ l (ZBG k) (by rfl)
  | @step id x hg hu _ ih=>
    intro h1 h2;have hx:=hp _ _ hg hu;have hh:=ih hx.1 hx.2;have h3:reachN l (k+1) id=true:=by
     unfold reachN;cases ad:(id==1) with
     |true=>rfl
     |false=>rw[ZAD,hg];simp only[hu,hh];rfl
    have:=hk (id-1).toNat (by rw[ZCO];omega);rw[show(((id-1).toNat:Nat):Int)+1=id from by omega] at this;exact this h3
 have ab:∀k,(∃j,j<=k/\∀i∈List.range l.length,reachN l (j+1) ((i:Int)+1)=true->reachN l j ((i:Int)+1)=true)\/k+1<=(List.range l.length).countP λi:Nat=>reachN l k ((i:Int)+1):=by
  intro k;induction k with
  |zero=>
   right;rw[show 0+1=1 from rfl];refine List.countP_pos_iff.2 ⟨0,by rw[ZCO];omega,by rfl⟩
  |succ k ih=>
   rcases ih with⟨j,hj,h⟩|ih
   ·exact .inl ⟨j,by omega,h⟩
   ·by_cases hs:∀i∈List.range l.length,reachN l (k+1) ((i:Int)+1)=true->reachN l k ((i:Int)+1)=true
    ·exact .inl ⟨k,by omega,hs⟩
    ·right;have:=jVZ (λi _=>enZ l k _) (by
      apply ZCB;intro hn;exact hs λi hi hq=>by
       cases ac:reachN l k ((i:Int)+1) with
       |true=>rfl
       |false=>exact absurd ⟨i,hi,ac,hq⟩ hn)
     omega
 rcases ab l.length with⟨j,hj,hs⟩|hg
 ·exact jFZ l hj (aa j hs id h h1 h2)
 grind[List.countP_le_length,List.length_range]
theorem fBZ{l}{id}:cnt l id=0↔∀s,(s,id)∉l:=by
 grind[cnt,ZCK,List.filter_eq_nil_iff,id]
theorem nHZ{l}(h:Srt l){id}{s}(hm:(s,id)∈l)(hu:∀s',(s',id)∈l->s'=s):cnt l id=1:=by
 unfold cnt;have hs:Srt (l.filter λe=>e.2==id):=List.Pairwise.filter _ h;have hin:∀e∈l.filter λe=>e.2==id,e.1=s:=λe he=>by
  grind
 have hm':(s,id)∈l.filter λe=>e.2==id:=ZCi.2 ⟨hm,by simp⟩;cases hL:l.filter (λe=>e.2==id) with
 |nil=>simp_all
 |cons a r=>
  cases r with
  |nil=>rfl
  |cons b r=>
   rw[hL] at hs hin;have:=(ZA3.1 hs).1 b (by simp)
   simp_all[bsZ]
theorem gUZ{l}{e}:e∈allEnts l↔∃(i:Nat) (n:Ino),l[i]? =some n/\e∈n.2.2.2.2.2.2.2:=by
 grind[allEnts,ZCd,ZAQ,ZAI]
theorem qmZ{id}:∀{l} {p} {n},l[p]? =some n->(∀(i:Nat) m,i≠p->l[i]? =some m->cnt m.2.2.2.2.2.2.2 id=0)->cnt (allEnts l) id=cnt n.2.2.2.2.2.2.2 id
 |[],_,_,h,_=>by grind
 |a::l,p,n,h,h2=>by
  have e1:allEnts (a::l)=a.2.2.2.2.2.2.2++allEnts l:=by simp[allEnts]
  rw[e1,hKZ];cases p with
  |zero=>
   simp at h;subst h;have:=fBZ.2 λs hs=>by
    obtain⟨i,m,hm,he⟩:=gUZ.1 hs;exact fBZ.1 (h2 (i+1) m (by omega) (by simpa using hm)) s he
   omega
  |succ p=>
   have h0:=h2 0 a (by omega) (by simp);have:=qmZ (by simpa using h) λi m hi hm=>h2 (i+1) m (by omega) (by simpa using hm);omega
theorem RightP.id{t}(h:RightP t){i:Nat}{n}(hg:t.1[i]? =some n):n.1=(i:Int)+1:=by
 have:=(h.ino i n hg).id;omega
theorem RightP.srt{t}(h:RightP t){i:Nat}{n}(hg:t.1[i]? =some n):Srt n.2.2.2.2.2.2.2:=(hVZ (ctZ (h.ino i n hg)).2).1
theorem RightP.entid{t}(h:RightP t){i:Nat}{n}(hg:t.1[i]? =some n){s}{id}(he:(s,id)∈n.2.2.2.2.2.2.2):1<=id/\id<=t.1.length:=by
 have:=cBZ (ctZ (h.ino i n hg)).2 _ he;omega
theorem RightP.lt{t}(_h:RightP t){i}{n}(hg:t.1[i]? =some n):i<t.1.length:=(ZAB.1 hg).1
theorem RightP.isdir{t}(h:RightP t){i:Nat}{n}(hg:t.1[i]? =some n){e}(he:e∈n.2.2.2.2.2.2.2):n.2.2.1=true/\n.2.2.2.1=true:=by
 have ho:=h.ino i n hg;cases hu:n.2.2.1 with
 |false=>rw[(ho.bare hu).2.2.2.2] at he;grind
 |true=>
  cases hd:n.2.2.2.1 with
  |false=>rw[(ho.file hu hd).2.1] at he;grind
  |true=>simp_all
theorem prZ{t}(h:TreeOK t):RightT t:=by
 refine⟨h.r,λn hn e he=> ?_,λn hn hu=> ?_,λn hn=> ?_⟩
 ·let⟨i,hi⟩:=ZAQ hn
  let⟨h1,_,x,h2,h3,h4⟩:=h.e i n hi e.1 e.2 he
  exact⟨h1,x,h2,h3,by rw[h4,h.r.id hi]⟩
 ·let⟨i,hi⟩:=ZAQ hn
  have ae:=h.r.lt hi;rw[h.r.id hi];exact fdZ h.r.len.1 (λj x hx ab=>(h.r.ino j x hx).par ab) (by omega) (by omega) (h.a i n hi hu)
 ·let⟨i,hi⟩:=ZAQ hn
  have aa:=h.r.id hi;by_cases hc:n.1=1\/n.2.2.1=false
  ·rw[ZAN hc];refine fBZ.2 λs hs=> ?_
   let⟨k,m,hm,he⟩:=gUZ.1 hs
   let⟨_,h1,x,h2,h3,_⟩:=h.e k m hm _ _ he
   rcases hc with hc|hc
   ·exact h1 hc
   ·rw[aa,show((i:Int)+1-1).toNat=i from by omega,hi] at h2;cases h2;rw[hc] at h3;cases h3
  ·rw[ZAM hc];have hu:n.2.2.1=true:=by
    cases hu:n.2.2.1 with
    |true=>rfl
    |false=>exact absurd (.inr hu) hc
   have ac:i≠0:=λh0=>hc (.inl (by rw[aa,h0];rfl))
   let⟨m,s,hm,hs,hq⟩:=h.u i n hi hu ac
   rw[qmZ hm,aa]
   ·exact nHZ (h.r.srt hm) hs hq
   ·intro k y hk hy;refine fBZ.2 λs' ad=> ?_
    let⟨_,_,x,h2,_,h4⟩:=h.e k y hy _ _ ad
    rw[aa,show((i:Int)+1-1).toNat=i from by omega,hi] at h2;cases h2;rw[h4] at hk;omega
theorem b5Z{t}(h:TreeOK t):tRig fuel t=some true:=by
 let⟨b,hb,hq⟩:=ioZ h.r.fit
 simp_all[prZ]
def IsH(l:List Ino)(h:Int×Int)(n:Ino):Prop:=1<=h.1/\l[(h.1-1).toNat]? =some n/\n.2.2.1=true/\n.2.1=h.2
def IsD(l:List Ino)(h:Int×Int)(n:Ino):Prop:=IsH l h n/\n.2.2.2.1=true
theorem jeZ{t:Tree}(hf:Fit t.1){h}(hn:¬∃n,IsH t.1 h n):inode_Get fuel t h=some (0,0,false,false,0,[],0,[],170):=by
 unfold inode_Get Pd Pe Pf Pg Ph Pi PF PI;have aa:=hf.n;by_cases h1:h.1<1
 ·rw[ZAJ h1,ZAK];rfl
 rw[ZAE h1,ZAD,ZAA];by_cases h2:h.1>((t.1.length:Nat):Int)
 ·simp[ZAJ h2]
 simp only[ZAE h2,ZAD];rw[w6,azZ (by omega) (by omega),ZAA];obtain⟨x,hx⟩:∃x,t.1[(h.1-1).toNat]? =some x:=⟨_,gEo⟩;rw[hx,ZAA];cases hu:x.2.2.1 with
 |false=>simp[ZAA]
 |true=>
  simp only[ZAO,ZAD,ZAA];cases hg:(x.2.1==h.2) with
  |false=>simp[ZAK]
  |true=>exact absurd ⟨x,by omega,hx,hu,by simpa using hg⟩ hn
theorem f8Z{t:Tree}(hf:Fit t.1){h}{n}(hn:IsH t.1 h n):inode_Get fuel t h=some (n.1,n.2.1,n.2.2.1,n.2.2.2.1,n.2.2.2.2.1,n.2.2.2.2.2.1,n.2.2.2.2.2.2.1,n.2.2.2.2.2.2.2,0):=by
 unfold inode_Get Pd Pe Pf Pg Ph Pi PF PI;have aa:=hf.n
 let⟨h1,hx,hu,hg⟩:=hn
 let⟨n1,n2,n3,n4,n5,n6,n7,n8⟩:=n
 subst hu hg;have ab:=(ZAB.1 hx).1;rw[ZAE (show¬h.1<1 by omega),ZAD,ZAA];simp only[ZAE (show¬h.1>((t.1.length:Nat):Int) by omega)];rw[w6,azZ (by omega) (by omega),ZAA,hx];simp[ZAb];rw[m7Z (hf.at hx),ZAA]
def dirE(l:List Ino)(h:Int×Int):Int:=
 if 1<=h.1 then match l[(h.1-1).toNat]? with
  |some n=>if n.2.2.1=true/\n.2.1=h.2 then if n.2.2.2.1 then 0 else 173 else 170
  |none=>170
 else 170
theorem cnZ{l}{h}{n}(a:IsD l h n):dirE l h=0:=by
 let⟨⟨h1,hx,hu,hg⟩,hd⟩:=a
 simp_all[dirE]
theorem bwZ(l)(h):(∃n,IsD l h n)\/(dirE l h≠0/\((¬∃n,IsH l h n)/\dirE l h=170\/∃n,IsH l h n/\n.2.2.2.1=false/\dirE l h=173)):=by
 unfold dirE;by_cases h1:1<=h.1
 ·rw[ZAN h1];cases hx:l[(h.1-1).toNat]? with
  |none=>right;exact⟨by simp,.inl ⟨λ⟨n,hn⟩=>(by have:=hn.2.1;rw[hx] at this;cases this),rfl⟩⟩
  |some n=>
   simp only;by_cases hu:n.2.2.1=true/\n.2.1=h.2
   ·rw[ZAN hu];cases hd:n.2.2.2.1 with
    |true=>left;exact⟨n,⟨h1,hx,hu.1,hu.2⟩,hd⟩
    |false=>right;exact⟨by simp,.inr ⟨n,⟨h1,hx,hu.1,hu.2⟩,hd,by simp⟩⟩
   ·rw[ZAM hu];right;exact⟨by simp,.inl ⟨λ⟨m,hm⟩=>by
     have:=hm.2.1;rw[hx] at this;cases this;exact hu ⟨hm.2.2.1,hm.2.2.2⟩,by rfl⟩⟩
 ·rw[ZAM h1];right;exact⟨by simp,.inl ⟨λ⟨n,hn⟩=>h1 hn.1,rfl⟩⟩
theorem iEZ{t:Tree}(hf:Fit t.1){h}(hb:dirE t.1 h≠0):∃v:Ino,tdir fuel t h=some (v.1,v.2.1,v.2.2.1,v.2.2.2.1,v.2.2.2.2.1,v.2.2.2.2.2.1,v.2.2.2.2.2.2.1,v.2.2.2.2.2.2.2,dirE t.1 h):=by
 rcases bwZ t.1 h with⟨n,hn⟩|⟨_,hn|⟨n,hn,hd,he⟩⟩
 ·grind[cnZ]
 ·unfold tdir;rw[jeZ hf hn.1,hn.2];exact⟨(0,0,false,false,0,[],0,[]),rfl⟩
 ·unfold tdir;rw[f8Z hf hn,he];simp only[hd];exact⟨(0,0,false,false,0,[],0,[]),rfl⟩
theorem hcZ{t:Tree}(hf:Fit t.1){h}{n}(hn:IsD t.1 h n):tdir fuel t h=some (n.1,n.2.1,n.2.2.1,n.2.2.2.1,n.2.2.2.2.1,n.2.2.2.2.2.1,n.2.2.2.2.2.2.1,n.2.2.2.2.2.2.2,0):=by
 unfold tdir;rw[f8Z hf hn.1];simp[hn.2,ZAD]
theorem blZ{t:Tree}(hf:Fit t.1){l}{k:Nat}{d}{n}{aa:List Ino}(hl:l.length<=10)(hk:l[k]? =some d)(hn:IsD t.1 d n)(ho:aa.length<=10):
 task_l0 fuel l (k:Int) t.1 t.2 aa=some (.inl (((k+1:Nat):Int),t.1,t.2,aa++[n])):=by
 have ab:=(ZAB.1 hk).1;unfold task_l0;rw[aFZ ab,adZ ab,ZAA,hk,ZAA,hcZ hf hn,ZAA];rw[aeZ (by simp[atZ];omega),w6]
 rfl
theorem cdZ{t:Tree}(hf:Fit t.1){l}{k:Nat}{d}{ab:List Ino}(hk:l[k]? =some d)(hb:dirE t.1 d≠0):
 task_l0 fuel l (k:Int) t.1 t.2 ab=some (.inr (.inr (dirE t.1 d,[]))):=by
 have aa:=(ZAB.1 hk).1
 let⟨v,hv⟩:=iEZ hf hb
 unfold task_l0;rw[aFZ aa,adZ aa,ZAA,hk,ZAA,hv]
 grind
theorem rdZ{t:Tree}{l}{k:Nat}{aa:List Ino}(hk:l.length=k):task_l0 fuel l (k:Int) t.1 t.2 aa=some (.inr (.inl aa)):=by
 simp_all[task_l0,ZAD]
theorem r6Z:∃m,fuel=m+1+1+1:=⟨4611686018427387901,rfl⟩
theorem dyZ{t}(h:TreeOK t){d}(hb:dirE t.1 d≠0):task fuel t [d]=some (dirE t.1 d,[]):=by
 unfold task task_l0_it;rw[b5Z h,ZAA,ZAO,ZAD]
 let⟨m,hm⟩:=r6Z
 conv=>lhs;arg 1;arg 1;rw[hm]
 rw[cqZ (by exact cdZ h.r.fit rfl hb)]
 rfl
theorem aHZ{t}(h:TreeOK t){d}{n}(hn:IsD t.1 d n):task fuel t [d]=some (0,[n]):=by
 unfold task task_l0_it;rw[b5Z h,ZAA,ZAO,ZAD]
 let⟨m,hm⟩:=r6Z
 conv=>lhs;arg 1;arg 1;rw[hm]
 rw[dHZ (by exact blZ h.r.fit (by simp) rfl hn (by simp))]
 rfl
theorem lbZ{t}(h:TreeOK t){d e}(hb:dirE t.1 d≠0):task fuel t [d,e]=some (dirE t.1 d,[]):=by
 unfold task task_l0_it;rw[b5Z h,ZAA,ZAO,ZAD]
 let⟨m,hm⟩:=r6Z
 conv=>lhs;arg 1;arg 1;rw[hm]
 rw[cqZ (by exact cdZ h.r.fit rfl hb)]
 rfl
theorem moZ{t}(h:TreeOK t){d e}{n}(hn:IsD t.1 d n)(hb:dirE t.1 e≠0):task fuel t [d,e]=some (dirE t.1 e,[]):=by
 unfold task task_l0_it;rw[b5Z h,ZAA,ZAO,ZAD]
 let⟨m,hm⟩:=r6Z
 conv=>lhs;arg 1;arg 1;rw[hm]
 rw[dHZ (by exact blZ h.r.fit (by simp) rfl hn (by simp)),
  cqZ (by exact cdZ h.r.fit rfl hb)]
 rfl
theorem bdZ{t}(h:TreeOK t){d e}{n m}(hn:IsD t.1 d n)(hm:IsD t.1 e m):task fuel t [d,e]=some (0,[n,m]):=by
 unfold task task_l0_it;rw[b5Z h,ZAA,ZAO,ZAD]
 let⟨k,hk⟩:=r6Z
 conv=>lhs;arg 1;arg 1;rw[hk]
 rw[dHZ (by exact blZ h.r.fit (by simp) rfl hn (by simp)),
  dHZ (by exact blZ h.r.fit (by simp) rfl hm (by simp))]
 rfl
theorem TreeOK.ent{t}(h:TreeOK t){d}{n}(hn:IsD t.1 d n){s}{id}(he:(s,id)∈n.2.2.2.2.2.2.2):namedB s=true/\2<=id/\id<=t.1.length/\∃x,t.1[(id-1).toNat]? =some x/\x.2.2.1=true/\x.2.2.2.2.2.2.1=d.1:=by
 let⟨h1,h2,x,h3,h4,h5⟩:=h.e _ n hn.1.2.1 s id he
 have:=h.r.entid hn.1.2.1 he;exact⟨h1,by omega,this.2,x,h3,h4,by have:=hn.1.1;omega⟩
theorem TreeOK.srt{t}(h:TreeOK t){d}{n}(hn:IsH t.1 d n):Srt n.2.2.2.2.2.2.2:=h.r.srt hn.2.1
theorem TreeOK.few{t}(h:TreeOK t){d}{n}(hn:IsH t.1 d n):n.2.2.2.2.2.2.2.length<=100:=(ctZ (h.r.ino _ _ hn.2.1)).1
theorem TreeOK.ent_ok{t}(h:TreeOK t){d}{n}(hn:IsD t.1 d n)(s):tent fuel n s=some (((pos n.2.2.2.2.2.2.2 s:Nat):Int),hasN n.2.2.2.2.2.2.2 s):=
 iGZ s (h.srt hn.1) (by have:=h.few hn.1;omega)
theorem dqZ{l}{s}{id}(h:Srt l)(hm:(s,id)∈l):l[pos l s]? =some (s,id):=by
 let⟨aa,h'⟩:=(qSZ h).1 (aCZ.2 ⟨id,hm⟩)
 grind[d8Z,ZAI]
theorem omZ{t}(h:TreeOK t){d}(s)(hb:dirE t.1 d≠0):tLoo fuel t d s=some (0,0,dirE t.1 d):=by
 unfold tLoo;rw[dyZ h hb]
 grind
theorem l5Z{t}(h:TreeOK t){d}{n}{s}(hn:IsD t.1 d n)(hs:namedB s=false):tLoo fuel t d s=some (0,0,176):=by
 unfold tLoo;rw[aHZ h hn]
 simp_all[a2Z]
theorem lqZ{t}(h:TreeOK t){d}{n}{s}(hn:IsD t.1 d n)(hs:namedB s=true)(hh:hasN n.2.2.2.2.2.2.2 s=false):tLoo fuel t d s=some (0,0,171):=by
 unfold tLoo;rw[aHZ h hn,ZAA];rw[a2Z,ZAA,hs];rw[show idx? 0 [n].length=some 0 from rfl,ZAA,show[n][0]? =some n from rfl,ZAA,h.ent_ok hn,hh]
 rfl
theorem lpZ{t}(h:TreeOK t){d}{n x}{s}{id}(hn:IsD t.1 d n)(he:(s,id)∈n.2.2.2.2.2.2.2)(hx:t.1[(id-1).toNat]? =some x):tLoo fuel t d s=some (id,x.2.1,0):=by
 let⟨h1,h2,h3,y,h4,h5,h6⟩:=h.ent hn he
 have ab:=h.r.len;have hp:=dqZ (h.srt hn.1) he;have aa:=(ZAB.1 hp).1;unfold tLoo;rw[aHZ h hn,ZAA];simp only[ZAb,ZAD];rw[a2Z,ZAA,h1];rw[show idx? 0 [n].length=some 0 from rfl,ZAA,show[n][0]? =some n from rfl,ZAA,h.ent_ok hn,aCZ.2 ⟨id,he⟩];simp only[ZAO,ZAD,ZAA];rw[show[n][0]? =some n from rfl,ZAA,adZ aa,ZAA,hp,ZAA,w6,azZ (by omega) (by omega),ZAA,hx,ZAA]
def behind(l:List Ent)(s:List UInt8):List Ent:=l.drop (pos l s+if hasN l s then 1 else 0)
theorem sXZ{t}(h:TreeOK t){d}(s)(most)(hb:dirE t.1 d≠0):tree_List fuel t d s most=some (false,dirE t.1 d,[]):=by
 unfold tree_List PF;rw[dyZ h hb]
 grind
theorem sKZ{t}(h:TreeOK t){d}{n}(s){most}(hn:IsD t.1 d n)(hm:most<0\/most>4096):tree_List fuel t d s most=some (false,2,[]):=by
 unfold tree_List PF;rw[aHZ h hn]
 grind
theorem pJZ{t}(h:TreeOK t){d}{n}(s){most:Nat}(hn:IsD t.1 d n)(hm:most<=4096):
 tree_List fuel t d s (most:Int)=some (decide ((behind n.2.2.2.2.2.2.2 s).length>most),0,(behind n.2.2.2.2.2.2.2 s).take most):=by
 unfold tree_List PF;rw[aHZ h hn,ZAA];simp only[ZAD];rw[ZAE (show¬((most:Int)<0) by omega)];simp only[ZAD,ZAA];rw[ZAE (show¬((most:Int)>4096) by omega)];simp only[ZAD];rw[show idx? 0 [n].length=some 0 from rfl,ZAA,show[n][0]? =some n from rfl,ZAA,h.ent_ok hn,ZAA];have ab:=h.few hn.1;have aa:=qtZ n.2.2.2.2.2.2.2 s;have hq:pos n.2.2.2.2.2.2.2 s+(if hasN n.2.2.2.2.2.2.2 s=true then 1 else 0)<=n.2.2.2.2.2.2.2.length:=by
  cases hh:hasN n.2.2.2.2.2.2.2 s with
  |false=>simpa using aa
  |true=>
   let⟨id,h'⟩:=(qSZ (h.srt hn.1)).1 hh
   have:=(ZAB.1 h').1;simp;omega
 have e1:(bif hasN n.2.2.2.2.2.2.2 s then some ((wI (((pos n.2.2.2.2.2.2.2 s:Nat):Int)+1)),[n]) else some (((pos n.2.2.2.2.2.2.2 s:Nat):Int),[n]):Option (Int×List Ino))=some (((pos n.2.2.2.2.2.2.2 s+(if hasN n.2.2.2.2.2.2.2 s=true then 1 else 0):Nat):Int),[n]):=by
  cases hh:hasN n.2.2.2.2.2.2.2 s with
  |false=>rfl
  |true=>simp only;rw[w6];simp
 simp only;rw[e1,ZAA];simp only;rw[show idx? 0 [n].length=some 0 from rfl,ZAA,show[n][0]? =some n from rfl,ZAA,aKZ hq,ZAA];show(upto? (if(most:Int)<(((behind n.2.2.2.2.2.2.2 s).length:Nat):Int) then(most:Int) else(((behind n.2.2.2.2.2.2.2 s).length:Nat):Int)) (behind n.2.2.2.2.2.2.2 s).length).bind _=_;rw[show(if(most:Int)<(((behind n.2.2.2.2.2.2.2 s).length:Nat):Int) then(most:Int) else(((behind n.2.2.2.2.2.2.2 s).length:Nat):Int))=((min most (behind n.2.2.2.2.2.2.2 s).length:Nat):Int) from by split<;>omega,aKZ (by omega),ZAA,d3Z (by rw[ZAS];show _<=_;omega),ZAA];show some (decide ((((behind n.2.2.2.2.2.2.2 s).length:Nat):Int)>(most:Int)),(0:Int),(behind n.2.2.2.2.2.2.2 s).take (min most (behind n.2.2.2.2.2.2.2 s).length))=_;congr 2
 ·simp
 ·congr 1;rw[List.take_eq_take_iff];omega
end Go.Ab.D
namespace Go.Ab
theorem aPZ{α:Type}(p)(A)(d:α):(A++[d]).filter p=A.filter p++(if p d=true then[d] else[]):=by
 grind
theorem rXZ{α}(p:α->Bool)(L)(n:Nat)(hn)(hL:L.length<=1000000000000)(h1:p L[n]=true)(h2:∀j (hj:j<n),p L[j]=false)
 (f)
 (hs:∀(i j:Nat) (h:List α) x,i<j->j<h.length->h.length<=1000000000000->h[j]? =some x->f ((i:Int),((j:Int),h))=some (.inl (if p x=true then((i:Int),(((j+1:Nat):Int),h)) else(((i+1:Nat):Int),(((j+1:Nat):Int),h.set i x)))))
 (he:∀(i:Nat) (h:List α),f ((i:Int),(((h.length:Nat):Int),h))=some (.inr ((i:Int),h))):
 ∃h',iter fuel f ((n:Int),(((n+1:Nat):Int),L))=some ((((L.filter λx=> !p x).length:Nat):Int),h')/\h'.length=L.length/\h'.take (L.filter λx=> !p x).length=L.filter λx=> !p x:=by
 have first:(L.take (n+1)).filter (λx=> !p x)=L.take n:=by
  rw[ZA9 hn,aPZ];simp only[h1,ZAO,ZBJ,ZCc,ZAp];rw[ZBz];intro d hd;obtain⟨j,hj,rfl⟩:=List.getElem_of_mem hd;have aa:j<n:=by simp at hj;omega
  have:=h2 j aa;simpa using this
 have:=aAZ (f:=f) (λm s=>∃(i j:Nat) (h:List α),s=((i:Int),((j:Int),h))/\j+m=L.length/\i<j/\h.length=L.length/\i=((L.take j).filter λx=> !p x).length/\h.take i=(L.take j).filter (λx=> !p x)/\∀k,j<=k->h[k]? =L[k]?)
  (λo=>∃h',o=((((L.filter λx=> !p x).length:Nat):Int),h')/\h'.length=L.length/\h'.take (L.filter λx=> !p x).length=L.filter λx=> !p x) (λm s hI=> ?_) (λs hI=> ?_) (L.length-(n+1)) ((n:Int),(((n+1:Nat):Int),L)) (by omega)
  ⟨n,n+1,L,rfl,by omega,by omega,rfl,by grind,by grind,λk _=>rfl⟩
 ·grind
 ·obtain⟨i,j,h,rfl,g1,g2,g3,g4,g5,g6⟩:=hI;have hj:j<L.length:=by omega
  have hx:h[j]? =some L[j]:=by rw[g6 j (ZAL _),ZAC hj]
  left;have ht:L.take (j+1)=L.take j++[L[j]]:=ZA9 hj;rw[hs i j h _ g2 (by omega) (by omega) hx];cases hp:p L[j] with
  |true=>
   rw[ZAN rfl];refine⟨_,rfl,i,j+1,h,rfl,by omega,by omega,g3,?_,?_,λk hk=>g6 k (by omega)⟩
   ·rw[ht,aPZ];simp[hp,g4]
   grind[aPZ]
  |false=>
   rw[ZAM (by simp)];have hi:i<h.length:=by omega
   refine⟨_,rfl,i+1,j+1,h.set i L[j],rfl,by omega,by omega,by simpa using g3,?_,?_,λk hk=>by rw[ZAa (by omega)];exact g6 k (by omega)⟩
   ·rw[ht,aPZ];simp[hp,g4]
   ·rw[ht,aPZ,ZA9 (by simpa using hi),List.getElem_set_self,List.take_set_of_le (ZAL _),g5];simp[hp]
 ·obtain⟨i,j,h,rfl,g1,g2,g3,g4,g5,g6⟩:=hI;have hj:j=h.length:=by omega
  subst hj;have ab:L.take h.length=L:=by rw[g3];exact ZAv
  rw[ab] at g4 g5;subst g4;exact⟨_,he _ h,h,rfl,g3,g5⟩
theorem mXZ{α:Type}(p)(L:List α)(hL:L.length<=1000000000000)(f:Int->Option (Int⊕(Unit⊕Int)))
 (hs:∀(i:Nat) x,L[i]? =some x->f (i:Int)=some (if p x=true then .inr (.inr (i:Int)) else .inl ((i+1:Nat):Int)))
 (he:f ((L.length:Nat):Int)=some (.inr (.inl ()))):
 iter fuel f 0=some (match L.findIdx? p with|some n=>.inr (n:Int)|none=>.inl ()):=by
 have:=aAZ (f:=f) (λm s=>∃(i:Nat),s=(i:Int)/\i+m=L.length/\∀k,k<i->∀x,L[k]? =some x->p x=false)
  (λo=>o=(match L.findIdx? p with|some n=>.inr (n:Int)|none=>.inl ())) (λm s hI=> ?_) (λs hI=> ?_) L.length 0 (by omega) ⟨0,rfl,by omega,λk h=>absurd h (ZBc _)⟩
 ·obtain⟨o,ho,rfl⟩:=this;exact ho
 ·obtain⟨i,rfl,g1,g2⟩:=hI;have hi:i<L.length:=by omega
  have hx:L[i]? =some L[i]:=ZAC hi;rw[hs i _ hx];cases hp:p L[i] with
  |true=>
   right;refine⟨_,by rw[ZAN rfl],?_⟩;have:L.findIdx? p=some i:=ZA2.2 ⟨hi,hp,λj hj=>by simpa using g2 j hj _ (gEo)⟩;rw[this]
  |false=>
   left;refine⟨_,by rw[ZAM (by simp)],i+1,rfl,by omega,λk hk x aa=> ?_⟩;by_cases ab:k=i
   ·subst ab;rw[hx] at aa;cases aa;exact hp
   ·exact g2 k (by omega) x aa
 grind[ZCD,ZAQ,ZAB]
theorem riZ{α γ}(c)(p:α->Bool)(L)(n:Nat)(hn)(hL:L.length<=1000000000000)(h1:p L[n]=true)(h2:∀j (hj:j<n),p L[j]=false)
 (f:Int×(Int×(List α×γ))->Option ((Int×(Int×(List α×γ)))⊕(Int×(List α×γ))))
 (hs:∀(i j) (h:List α) x,i<j->j<h.length->h.length<=1000000000000->h[j]? =some x->f ((i:Int),((j:Int),(h,c)))=some (.inl (if p x=true then((i:Int),(((j+1:Nat):Int),(h,c))) else(((i+1:Nat):Int),(((j+1:Nat):Int),(h.set i x,c))))))
 (he:∀(i:Nat) (h),f ((i:Int),(((h.length:Nat):Int),(h,c)))=some (.inr ((i:Int),(h,c)))):
 ∃h',iter fuel f ((n:Int),(((n+1:Nat):Int),(L,c)))=some ((((L.filter λx=> !p x).length:Nat):Int),(h',c))/\h'.length=L.length/\h'.take (L.filter λx=> !p x).length=L.filter λx=> !p x:=by
 have first:(L.take (n+1)).filter (λx=> !p x)=L.take n:=by
  rw[ZA9 hn,aPZ];simp only[h1,ZAO,ZBJ,ZCc,ZAp];rw[ZBz];intro d hd;obtain⟨j,hj,rfl⟩:=List.getElem_of_mem hd;have aa:j<n:=by simp at hj;omega
  have:=h2 j aa;simpa using this
 have:=aAZ (f:=f) (λm s=>∃(i j:Nat) (h:List α),s=((i:Int),((j:Int),(h,c)))/\j+m=L.length/\i<j/\h.length=L.length/\i=((L.take j).filter λx=> !p x).length/\h.take i=(L.take j).filter (λx=> !p x)/\∀k,j<=k->h[k]? =L[k]?)
  (λo=>∃h',o=((((L.filter λx=> !p x).length:Nat):Int),(h',c))/\h'.length=L.length/\h'.take (L.filter λx=> !p x).length=L.filter λx=> !p x) (λm s hI=> ?_) (λs hI=> ?_) (L.length-(n+1)) ((n:Int),(((n+1:Nat):Int),(L,c))) (by omega)
  ⟨n,n+1,L,rfl,by omega,by omega,rfl,by grind,by grind,λk _=>rfl⟩
 ·grind
 ·obtain⟨i,j,h,rfl,g1,g2,g3,g4,g5,g6⟩:=hI;have hj:j<L.length:=by omega
  have hx:h[j]? =some L[j]:=by rw[g6 j (ZAL _),ZAC hj]
  left;have ht:L.take (j+1)=L.take j++[L[j]]:=ZA9 hj;rw[hs i j h _ g2 (by omega) (by omega) hx];cases hp:p L[j] with
  |true=>
   rw[ZAN rfl];refine⟨_,rfl,i,j+1,h,rfl,by omega,by omega,g3,?_,?_,λk hk=>g6 k (by omega)⟩
   ·rw[ht,aPZ];simp[hp,g4]
   grind[aPZ]
  |false=>
   rw[ZAM (by simp)];have hi:i<h.length:=by omega
   refine⟨_,rfl,i+1,j+1,h.set i L[j],rfl,by omega,by omega,by simp_all,?_,?_,λk hk=>by grind[ZAa]⟩
   ·rw[ht,aPZ];simp_all
   ·rw[ht,aPZ,ZA9 (by simpa using hi),List.getElem_set_self,List.take_set_of_le (ZAL _),g5]
    grind
 ·obtain⟨i,j,h,rfl,g1,g2,g3,g4,g5,g6⟩:=hI<;>grind
theorem q8Z{α γ:Type}(c)(p)(L:List α)(hL:L.length<=1000000000000)(f:Int×γ->Option ((Int×γ)⊕(γ⊕(Int×γ))))
 (hs:∀(i:Nat) x,L[i]? =some x->f ((i:Int),c)=some (if p x=true then .inr (.inr ((i:Int),c)) else .inl (((i+1:Nat):Int),c)))
 (he:f (((L.length:Nat):Int),c)=some (.inr (.inl c))):
 iter fuel f (0,c)=some (match L.findIdx? p with|some n=>.inr ((n:Int),c)|none=>.inl c):=by
 have:=aAZ (f:=f) (λm s=>∃(i:Nat),s=((i:Int),c)/\i+m=L.length/\∀k,k<i->∀x,L[k]? =some x->p x=false)
  (λo=>o=(match L.findIdx? p with|some n=>.inr ((n:Int),c)|none=>.inl c)) (λm s hI=> ?_) (λs hI=> ?_) L.length (0,c) (by omega) ⟨0,rfl,by omega,λk h=>absurd h (ZBc _)⟩
 ·obtain⟨o,ho,rfl⟩:=this;exact ho
 ·obtain⟨i,rfl,g1,g2⟩:=hI;have hi:i<L.length:=by omega
  have hx:L[i]? =some L[i]:=ZAC hi;rw[hs i _ hx];cases hp:p L[i] with
  |true=>
   right;refine⟨_,by rw[ZAN rfl],?_⟩;have:L.findIdx? p=some i:=ZA2.2 ⟨hi,hp,λj hj=>by simpa using g2 j hj _ (gEo)⟩;rw[this]
  |false=>
   left;refine⟨_,by rw[ZAM (by simp)],i+1,rfl,by omega,λk hk x aa=> ?_⟩;by_cases ab:k=i
   ·subst ab;rw[hx] at aa;cases aa;exact hp
   ·exact g2 k (by omega) x aa
 grind[ZCD,ZAQ,ZAB]
abbrev RefT(μ:Type):Type:=List μ⊕Option (Nat×(Nat×Nat))
section
variable {ρ κ μ : Type}
def part(ms:List (Nat×List μ))(x:RefT μ)(l:List μ):Prop:=(x= .inr none/\l=[])\/∃j,x= .inr (some (j,(0,l.length)))/\ms[j]? =some (1,l)
def viewM(ms:List (Nat×List μ))(x:RefT μ):Option (List μ):=
 match x with
 |.inl l=>some l
 |.inr none=>some []
 |.inr (some (k,off,n))=>memb ms k off n
theorem uOZ{ms}{k}{l:List μ}{s}(h:ms[k]? =some (s,l))(hs:2<=s):memb ms k 0 l.length=some l:=by
 unfold memb;have e:(Nat.ble 2 s&&Nat.ble (0+l.length) l.length)=true:=by simpa using hs
 grind[bq_true,ZB9,ZAv]
theorem part.view{ms}{x}{l:List μ}(h:part ms x l):viewM (ms.map frz1) x=some l:=by
 rcases h with⟨rfl,rfl⟩|⟨j,rfl,h⟩
 ·rfl
 ·exact uOZ (by rw[ZAY,h];rfl) (ZAL _)
variable (ref : ρ → RefT μ) (lst : κ → List μ) (same : ρ → κ → Prop)
structure Fam (rows:List ρ) (ms:List (Nat×List μ)) (ks:List κ):Prop where
 len:rows.length=ks.length
 at_:∀(i:Nat) row k,rows[i]? =some row->ks[i]? =some k->same row k/\part ms (ref row) (lst k)
 inj:∀(i i':Nat) row row' j n n',i≠i'->rows[i]? =some row->rows[i']? =some row'->ref row= .inr (some (j,n))->ref row'= .inr (some (j,n'))->False
variable {ref lst same} {rows : List ρ} {ms : List (Nat × List μ)} {ks : List κ}
theorem part.lt{x}{l}(h:part ms x l){j}{n}(hx:x= .inr (some (j,n))):j<ms.length:=by
 rcases h with⟨h,_⟩|⟨j',h,h2⟩<;>grind
theorem Fam.row(h:Fam ref lst same rows ms ks){i:Nat}{k}(hk:ks[i]? =some k):∃aa,rows[i]? =some aa/\same aa k/\part ms (ref aa) (lst k):=by
 have hi:i<rows.length:=by rw[h.len];exact(ZAB.1 hk).1
 exact⟨_,ZAC hi,h.at_ i _ k (ZAC hi) hk⟩
theorem Fam.open_(h:Fam ref lst same rows ms ks){i}{ac}{k}(hr:rows[i]? =some ac)(hk:ks[i]? =some k):
 ∃aa,openM ms (ref ac)=some (lst k,aa)/\aa.length=ms.length/\∀row' k',same row' k'->ref row'= .inr (some (aa.length,(0,(lst k').length)))->Fam ref lst same (rows.set i row') (aa++[(1,lst k')]) (ks.set i k'):=by
 have hi:=(ZAB.1 hr).1
 let⟨hs,hp⟩:=h.at_ i ac k hr hk
 have af:∀aa,aa.length=ms.length->(∀i' row',i'≠i->rows[i']? =some row'->∀j n,ref row'= .inr (some (j,n))->aa[j]? =ms[j]?)->∀row' k',same row' k'->ref row'= .inr (some (aa.length,(0,(lst k').length)))->Fam ref lst same (rows.set i row') (aa++[(1,lst k')]) (ks.set i k'):=by
  intro aa hl ag row' k' aj ab;refine⟨by rw[ZAr,ZAr];exact h.len,λi' x y hx hy=> ?_,λa b x y j n n' ah hx hy ad ae=> ?_⟩
  ·by_cases he:i'=i
   ·subst he;rw[ZAT (by omega)] at hx;rw[ZAT (by rw[<-h.len];omega)] at hy;cases hx;cases hy;exact⟨aj,.inr ⟨_,ab,by rw[ZAU (ZAL _),ZBn];rfl⟩⟩
   ·rw[ZAa (by omega)] at hx hy
    let⟨g1,g2⟩:=h.at_ i' x y hx hy
    refine⟨g1,?_⟩;rcases g2 with g2|⟨j,g2,g3⟩
    ·exact .inl g2
    ·refine .inr ⟨j,g2,?_⟩;have hj:=(ZAB.1 g3).1;rw[ZAR (by omega),ag i' x he hx j _ g2];exact g3
  ·have ai:∀(q) z,rows[q]? =some z->∀n,ref z= .inr (some (j,n))->j<ms.length:=λq z hq n hz=>by
    have ak:=(ZAB.1 hq).1;exact(h.at_ q z _ hq (ZAC (by rw[<-h.len];exact ak))).2.lt hz
   by_cases ha:a=i
   ·subst ha;rw[ZAT (by omega)] at hx;cases hx;rw[ZAa ah] at hy;rw[ab] at ad;injection ad with e;injection e with e;injection e with e _;have:=ai _ _ hy _ ae;omega
   ·rw[ZAa (by omega)] at hx;by_cases hb:b=i
    ·subst hb;rw[ZAT (by omega)] at hy;cases hy;rw[ab] at ae;injection ae with e;injection e with e;injection e with e _;have:=ai _ _ hx _ ad;omega
    ·rw[ZAa (by omega)] at hy;exact h.inj a b x y j n n' ah hx hy ad ae
 rcases hp with⟨h1,h2⟩|⟨j,h1,h2⟩
 ·refine⟨ms,by rw[h1,h2];rfl,rfl,af ms rfl λ_ _ _ _ _ _ _=>rfl⟩
 ·refine⟨ms.set j (0,lst k),?_,ZAr ..,af _ (ZAr ..) λi' row' al ab j' n am=> ?_⟩
  ·rw[h1];show ms[j]?.bind _=_;rw[h2];have e:(Nat.beq 1 1&&Nat.beq 0 0&&Nat.ble (lst k).length (lst k).length)=true:=by simp
   simp only[ZAA,e];show some (List.take (lst k).length (lst k),_)=_;rw[ZAv]
  ·refine ZAa λhc=> ?_;subst hc;exact h.inj i i' ac row' _ _ _ (ZBh al) hr ab h1 am
theorem Fam.insert(h:Fam ref lst same rows ms ks){q}(hq:q<=rows.length){ac}{k}(hs:same ac k)(hr:ref ac= .inr none)(hl:lst k=[]):Fam ref lst same (rows.take q++[ac]++rows.drop q) ms (ks.take q++[k]++ks.drop q):=by
 have ad:∀{α} (l:List α) (x:α),q<=l.length->∀i,(l.take q++[x]++l.drop q)[i]? =if i<q then l[i]? else if i=q then some x else l[i-1]? :=λl x hl i=>by
  have e1:(l.take q).length=q:=by rw[ZAS];omega
  by_cases c1:i<q
  ·grind
  ·rw[ZAM c1];by_cases c2:i=q
   ·simp_all
   ·rw[ZAM c2,ZAU (by simp;omega),ZA0]
    grind
 refine⟨?_,λi x y hx hy=> ?_,λa b x y j n n' af hx hy ab aa=> ?_⟩
 ·simp only[ZAd,ZAS,ZAu,List.length_singleton,h.len]
 ·rw[ad _ _ hq] at hx;rw[ad _ _ (by rw[<-h.len];exact hq)] at hy;by_cases c1:i<q
  ·rw[ZAN c1] at hx hy;exact h.at_ i x y hx hy
  ·rw[ZAM c1] at hx hy;by_cases c2:i=q
   ·rw[ZAN c2] at hx hy;cases hx;cases hy;exact⟨hs,.inl ⟨hr,hl⟩⟩
   ·rw[ZAM c2] at hx hy;exact h.at_ _ x y hx hy
 ·rw[ad _ _ hq] at hx hy;have ae:∀i x,¬i<q->i=q->(if i<q then rows[i]? else if i=q then some ac else rows[i-1]?)=some x->∀n,ref x= .inr (some (j,n))->False:=λi x c1 c2 hx n hj=>by
   rw[ZAM c1,ZAN c2] at hx;cases hx;rw[hr] at hj;cases hj
  by_cases a1:a<q
  ·by_cases b1:b<q
   ·rw[ZAN a1] at hx;rw[ZAN b1] at hy;exact h.inj a b x y j n n' af hx hy ab aa
   ·by_cases b2:b=q
    ·exact ae b y b1 b2 hy n' aa
    ·rw[ZAN a1] at hx;rw[ZAM b1,ZAM b2] at hy;exact h.inj a (b-1) x y j n n' (by omega) hx hy ab aa
  ·by_cases a2:a=q
   ·exact ae a x a1 a2 hx n ab
   ·rw[ZAM a1,ZAM a2] at hx;by_cases b1:b<q
    ·rw[ZAN b1] at hy;exact h.inj (a-1) b x y j n n' (by omega) hx hy ab aa
    ·by_cases b2:b=q
     ·exact ae b y b1 b2 hy n' aa
     ·rw[ZAM b1,ZAM b2] at hy;exact h.inj (a-1) (b-1) x y j n n' (by omega) hx hy ab aa
theorem Fam.keep(h:Fam ref lst same rows ms ks){i}{aa row'}{k k'}(hr:rows[i]? =some aa)(hk:ks[i]? =some k)(hs:same row' k')(he:ref row'=ref aa)(hl:lst k'=lst k):Fam ref lst same (rows.set i row') ms (ks.set i k'):=by
 have hi:=(ZAB.1 hr).1;have hg:∀a x,(rows.set i row')[a]? =some x->∃x0,rows[a]? =some x0/\ref x=ref x0:=λa x hx=>by
  by_cases c:a=i
  ·subst c;rw[ZAT hi] at hx;cases hx;exact⟨aa,hr,he⟩
  grind
 refine⟨by rw[ZAr,ZAr];exact h.len,λa x y hx hy=> ?_,λa b x y j n n' ab hx hy ac ad=> ?_⟩
 ·by_cases c:a=i
  ·subst c;rw[ZAT hi] at hx;rw[ZAT (by rw[<-h.len];exact hi)] at hy;cases hx;cases hy;exact⟨hs,by rw[he,hl];exact(h.at_ a aa k hr hk).2⟩
  ·rw[ZAa (by omega)] at hx hy;exact h.at_ a x y hx hy
 ·let⟨x0,g1,g2⟩:=hg a x hx
  let⟨y0,g3,g4⟩:=hg b y hy
  exact h.inj a b x0 y0 j n n' ab g1 g3 (g2▸ac) (g4▸ad)
theorem gqZ{α γ}(g):∀(l:List α) (l':List γ),l.length=l'.length->(∀(i:Nat) x y,l[i]? =some x->l'[i]? =some y->g x=some y)->unrefL g l=some l'
 |[],[],_,_=>rfl
 |[],_::_,h,_=>by grind
 |_::_,[],h,_=>by grind
 |x::l,y::l',h,hp=>by
  have ih:=gqZ g l l' (by simpa using h) λi a b ha hb=>hp (i+1) a b (by simpa using ha) (by simpa using hb);show(g x).bind _=_;rw[hp 0 x y (by simp) (by simp)];simp[ih]
theorem Fam.pure(h:Fam ref lst same rows ms ks)(g)(hg:∀aa k,same aa k->viewM (ms.map frz1) (ref aa)=some (lst k)->g aa=some k):unrefL g rows=some ks:=
 gqZ g rows ks h.len λi x y hx hy=>hg x y (h.at_ i x y hx hy).1 (h.at_ i x y hx hy).2.view
end
end Go.Ab
namespace Go.Ab.D
open Go Go.Ab
def taken(n:Ino)(ab:Bool)(aa:Int):Ino:=(n.1,n.2.1+1,true,ab,n.2.2.2.2.1,n.2.2.2.2.2.1,aa,n.2.2.2.2.2.2.2)
def freeAt(l:List Ino):Option Nat:=l.findIdx? λn=> !n.2.2.1
theorem usZ{l:List Ino}(hl:l.length<=100000):sIndFun5 fuel l=some (match freeAt l with|some n=>(n:Int)|none=> -1):=by
 unfold sIndFun5 sIndFun5_l0_it;have e:=mXZ (λn:Ino=> !n.2.2.1) l (by omega) (λtt=>sIndFun5_l0 fuel l tt) (λi x hx=>by
  unfold sIndFun5_l0 iAll1;have hlt:=(ZAB.1 hx).1;simp only[aFZ hlt];rw[adZ hlt,ZAA,hx,ZAA,w6];cases x.2.2.1<;>rfl) (by
  unfold sIndFun5_l0;simp[ZAD])
 unfold freeAt
 grind
theorem llZ{α:Type}{l:List α}{i}(h:i<l.length)(x):(l.set i x)[i]? =some x:=by grind
def isGone(p:Part):Bool:=(p.1==0)&&(p.2==0)
theorem qCZ{l:List Part}(hl:l.length<=100000):sDelFun2 fuel l=some (.inl (l.filter λp=> !isGone p))\/sDelFun2 fuel l=some (.inr (l.filter λp=> !isGone p)):=by
 have ab:sIndFun7 fuel l=some (match l.findIdx? isGone with|some n=>(n:Int)|none=> -1):=by
  unfold sIndFun7 sIndFun7_l0_it;have e:=mXZ isGone l (by omega) (λtt=>sIndFun7_l0 fuel l tt) (λi x hx=>by
   unfold sIndFun7_l0 iDro1;have ac:=(ZAB.1 hx).1;simp[aFZ ac,ZAK]
   grind[adZ,ZAA,w64,isGone]) (by
   simp_all[sIndFun7_l0,aBZ,ZAy,ZAD])
  rw[e,ZAA];cases l.findIdx? isGone<;>rfl
 unfold sDelFun2;rw[ab,ZAA];cases hf:l.findIdx? isGone with
 |none=>
  grind[ZBz,ZCD]
 |some n=>
  right
  let⟨hn,h1,h2⟩:=ZA2.1 hf
  simp only[];rw[show((n:Int)== -1)=false from by simp,ZAD,w6];obtain⟨h',e1,e2,e3⟩:=rXZ isGone l n hn (by omega) h1 (λj hj=>by simpa using h2 j hj)
   (λtt=>sDelFun2_l0 fuel tt.1 tt.2.1 tt.2.2) (λi j h x ae hj hh hx=>by
    show sDelFun2_l0 fuel (i:Int) (j:Int) h=_;unfold sDelFun2_l0 iDro1;have hi:i<h.length:=by omega
    obtain⟨y,hy⟩:∃y,h[i]? =some y:=⟨_,ZAC hi⟩;simp only[aFZ hj,ZAK];rw[adZ hj,ZAA,hx,ZAA,ZAA,adZ hi];simp only[ZAA,hy];rw[w6,w6];show(Option.bind (bif !isGone x then _ else _) _)=_;cases isGone x<;>rfl) (λi h=>by
    show sDelFun2_l0 fuel (i:Int) ((h.length:Nat):Int) h=_;unfold sDelFun2_l0;simp only[aBZ (ZAy _),ZAD])
  rw[show sDelFun2_l0_it fuel ((n:Int),((n:Int)+1,l))=_ from e1,ZAA];have aa:(l.filter λp=> !isGone p).length<=h'.length:=by rw[e2];exact ZBg _ _
  rw[aKZ aa,ZAA,aeZ (aUZ (by dsimp only;omega))];have ad:(splice h' (l.filter λp=> !isGone p).length (List.replicate (h'.length-(l.filter λp=> !isGone p).length) ((0:Int),(0:Int)))).length=h'.length:=by
   unfold splice;simp;omega
  dsimp only;rw[ad,aKZ aa,ZAA,aeZ (aUZ aa)];have:(splice h' (l.filter λp=> !isGone p).length (List.replicate (h'.length-(l.filter λp=> !isGone p).length) ((0:Int),(0:Int)))).take (l.filter λp=> !isGone p).length=l.filter λp=> !isGone p:=by
   unfold splice;rw[ZAx,ZBR (by rw[e3];exact ZAL _),List.take_take,Nat.min_self,e3]
  grind
def emptied(n:Ino)(id:Int):Ino:=(id,n.2.1,false,false,0,[],0,[])
end Go.Ab.D
namespace Go.Ab
section
variable {ρ κ μ : Type} {ref : ρ → RefT μ} {lst : κ → List μ} {same : ρ → κ → Prop} {rows : List ρ} {ms : List (Nat × List μ)} {ks : List κ}
theorem Fam.clear(h:Fam ref lst same rows ms ks){i}{row'}{k'}(hs:same row' k')(he:ref row'= .inr none)(hl:lst k'=[]):Fam ref lst same (rows.set i row') ms (ks.set i k'):=by
 refine⟨by rw[ZAr,ZAr];exact h.len,λa x y hx hy=> ?_,λa b x y j n n' ad hx hy aa ab=> ?_⟩
 ·by_cases c:a=i
  ·subst c;have hi:=by have:=(ZAB.1 hx).1;rwa [ZAr] at this
   rw[ZAT hi] at hx;rw[ZAT (by grind)] at hy;cases hx;cases hy;exact⟨hs,.inl ⟨he,hl⟩⟩
  ·rw[ZAa (by omega)] at hx hy;exact h.at_ a x y hx hy
 ·have ac:∀a x n,(rows.set i row')[a]? =some x->ref x= .inr (some (j,n))->rows[a]? =some x:=λa x n hx hj=>by
   by_cases c:a=i
   ·subst c;have hi:=by have:=(ZAB.1 hx).1;rwa [ZAr] at this
    rw[ZAT hi] at hx;cases hx;rw[he] at hj;cases hj
   ·rwa [ZAa (by omega)] at hx
  exact h.inj a b x y j n n' ad (ac a x n hx aa) (ac b y n' hy ab) aa ab
theorem Fam.open_none(h:Fam ref lst same rows ms ks){i}{aa}{k}(hr:rows[i]? =some aa)(hk:ks[i]? =some k):
 ∃ae,openM ms (ref aa)=some (lst k,ae)/\∀row' k',same row' k'->ref row'= .inr none->lst k'=[]->Fam ref lst same (rows.set i row') ae (ks.set i k'):=by
 let⟨hs,hp⟩:=h.at_ i aa k hr hk
 rcases hp with⟨h1,h2⟩|⟨j,h1,h2⟩
 ·exact⟨ms,by rw[h1,h2];rfl,λrow' k' ac ab ad=>h.clear ac ab ad⟩
 ·refine⟨ms.set j (0,lst k),?_,λrow' k' ac ab ad=> ?_⟩
  ·rw[h1];show ms[j]?.bind _=_;rw[h2];have e:(Nat.beq 1 1&&Nat.beq 0 0&&Nat.ble (lst k).length (lst k).length)=true:=by simp
   simp only[ZAA,e];show some (List.take (lst k).length (lst k),_)=_;rw[ZAv]
  ·have hc:=h.clear (i:=i) ac ab ad;refine⟨hc.len,λa x y hx hy=> ?_,hc.inj⟩
   let⟨g1,g2⟩:=hc.at_ a x y hx hy
   refine⟨g1,?_⟩;rcases g2 with g2|⟨j',g2,g3⟩
   ·exact .inl g2
   ·refine .inr ⟨j',g2,?_⟩;rw[ZAa]
    ·exact g3
    ·intro af;subst af;by_cases c:a=i
     ·subst c;rw[ZAT (ZAB.1 hr).1] at hx;cases hx;rw[ab] at g2;cases g2
     ·rw[ZAa (by omega)] at hx;exact h.inj i a aa x j _ _ (by omega) hr hx h1 g2
theorem jxZ{μ}(ms:List (Nat×List μ)):(ms.map frz1).map frz1=ms.map frz1:=by
 rw[List.map_map];refine ZCg λm _=> ?_
 let⟨a,l⟩:=m
 cases a<;>rfl
end
end Go.Ab
namespace Go.Ab.D
open Go Go.Ab
abbrev PTy:Ty:=.pair (.int .i64) (.int .i64)
abbrev ETy:Ty:=.pair .str (.int .i64)
abbrev TE:Ty:=.pair (.int .i64) (.pair (.int .i64) (.pair .bool (.pair .bool (.pair (.int .i64) (.pair (.sl PTy) (.pair (.int .i64) (.ref 1 ETy)))))))
abbrev TP:Ty:=.pair (.int .i64) (.pair (.int .i64) (.pair .bool (.pair .bool (.pair (.int .i64) (.pair (.ref 0 PTy) (.pair (.int .i64) (.sl ETy)))))))
abbrev T2:Ty:=.pair (.int .i64) (.pair (.int .i64) (.pair .bool (.pair .bool (.pair (.int .i64) (.pair (.ref 0 PTy) (.pair (.int .i64) (.ref 2 ETy)))))))
abbrev InoE:=Int×Int×Bool×Bool×Int×List Part×Int×RefT Ent
abbrev InoP:=Int×Int×Bool×Bool×Int×RefT Part×Int×List Ent
abbrev Ino2:=Int×Int×Bool×Bool×Int×RefT Part×Int×RefT Ent
abbrev MsE:=List (Nat×List Ent)
abbrev MsP:=List (Nat×List Part)
def toE(n:Ino)(x:RefT Ent):InoE:=(n.1,n.2.1,n.2.2.1,n.2.2.2.1,n.2.2.2.2.1,n.2.2.2.2.2.1,n.2.2.2.2.2.2.1,x)
def toP(n:Ino)(x:RefT Part):InoP:=(n.1,n.2.1,n.2.2.1,n.2.2.2.1,n.2.2.2.2.1,x,n.2.2.2.2.2.2.1,n.2.2.2.2.2.2.2)
def to2(n:Ino)(x:RefT Part)(y:RefT Ent):Ino2:=(n.1,n.2.1,n.2.2.1,n.2.2.2.1,n.2.2.2.2.1,x,n.2.2.2.2.2.2.1,y)
abbrev FamE(rows:List InoE)(ms:MsE)(ks:List Ino):Prop:=Fam (λr:InoE=>r.2.2.2.2.2.2.2) (λk:Ino=>k.2.2.2.2.2.2.2) (λr k=>∃x,r=toE k x) rows ms ks
abbrev FamP(rows:List InoP)(ms:MsP)(ks:List Ino):Prop:=Fam (λr:InoP=>r.2.2.2.2.2.1) (λk:Ino=>k.2.2.2.2.2.1) (λr k=>∃x,r=toP k x) rows ms ks
abbrev Fam2p(rows:List Ino2)(ms:MsP)(ks:List Ino):Prop:=Fam (λr:Ino2=>r.2.2.2.2.2.1) (λk:Ino=>k.2.2.2.2.2.1) (λr k=>∃x y,r=to2 k x y) rows ms ks
abbrev Fam2e(rows:List Ino2)(ms:MsE)(ks:List Ino):Prop:=Fam (λr:Ino2=>r.2.2.2.2.2.2.2) (λk:Ino=>k.2.2.2.2.2.2.2) (λr k=>∃x y,r=to2 k x y) rows ms ks
theorem FamE.pure1{rows}{ms}{ks}(h:FamE rows ms ks):unrefL (unrefD [⟨1,ETy,ms.map frz1⟩] TE) rows=some ks:=
 h.pure (unrefD [⟨1,ETy,ms.map frz1⟩] TE) λrow k hs hv=>by
  obtain⟨x,rfl⟩:=hs;have e:unrefD [⟨1,ETy,ms.map frz1⟩] (.ref 1 ETy) x=some k.2.2.2.2.2.2.2:=by rw[<-hv];rcases x with l|(_|⟨k,o,n⟩)<;>rfl
  show((some k.1).bind λy=>(((some k.2.1).bind λy=>(((some k.2.2.1).bind λy=>(((some k.2.2.2.1).bind λy=>(((some k.2.2.2.2.1).bind λy=>(((some k.2.2.2.2.2.1).bind λy=>(((some k.2.2.2.2.2.2.1).bind λy=>(unrefD [⟨1,ETy,ms.map frz1⟩] (.ref 1 ETy) x).map λz=>(y,z)).map λz=>(y,z))).map λz=>(y,z))).map λz=>(y,z))).map λz=>(y,z))).map λz=>(y,z))).map λz=>(y,z)))=_;rw[e]
  rfl
theorem FamE.one{rows}{ms}{ks}(h:FamE rows ms ks){i:Nat}{row}{k}(hr:rows[i]? =some row)(hk:ks[i]? =some k):unrefD [⟨1,ETy,ms.map frz1⟩] TE row=some k:=by
 obtain⟨⟨x,rfl⟩,hp⟩:=h.at_ i row k hr hk;have hv:=hp.view;have e:unrefD [⟨1,ETy,ms.map frz1⟩] (.ref 1 ETy) x=some k.2.2.2.2.2.2.2:=by rw[<-hv];rcases x with l|(_|⟨k,o,n⟩)<;>rfl
 show((some k.1).bind λy=>(((some k.2.1).bind λy=>(((some k.2.2.1).bind λy=>(((some k.2.2.2.1).bind λy=>(((some k.2.2.2.2.1).bind λy=>(((some k.2.2.2.2.2.1).bind λy=>(((some k.2.2.2.2.2.2.1).bind λy=>(unrefD [⟨1,ETy,ms.map frz1⟩] (.ref 1 ETy) x).map λz=>(y,z)).map λz=>(y,z))).map λz=>(y,z))).map λz=>(y,z))).map λz=>(y,z))).map λz=>(y,z))).map λz=>(y,z)))=_;rw[e]
 rfl
theorem FamE.pure10{rows}{ms}{ks}(mp:MsP)(h:FamE rows ms ks):unrefL (unrefD [⟨1,ETy,ms.map frz1⟩,⟨0,PTy,mp⟩] TE) rows=some ks:=
 h.pure (unrefD [⟨1,ETy,ms.map frz1⟩,⟨0,PTy,mp⟩] TE) λrow k hs hv=>by
  obtain⟨x,rfl⟩:=hs;have e:unrefD [⟨1,ETy,ms.map frz1⟩,⟨0,PTy,mp⟩] (.ref 1 ETy) x=some k.2.2.2.2.2.2.2:=by rw[<-hv];rcases x with l|(_|⟨k,o,n⟩)<;>rfl
  show((some k.1).bind λy=>(((some k.2.1).bind λy=>(((some k.2.2.1).bind λy=>(((some k.2.2.2.1).bind λy=>(((some k.2.2.2.2.1).bind λy=>(((some k.2.2.2.2.2.1).bind λy=>(((some k.2.2.2.2.2.2.1).bind λy=>(unrefD [⟨1,ETy,ms.map frz1⟩,⟨0,PTy,mp⟩] (.ref 1 ETy) x).map λz=>(y,z)).map λz=>(y,z))).map λz=>(y,z))).map λz=>(y,z))).map λz=>(y,z))).map λz=>(y,z))).map λz=>(y,z)))=_;rw[e]
  rfl
theorem FamE.pure210{rows}{ms}{ks}(m2:MsE)(mp:MsP)(h:FamE rows ms ks):unrefL (unrefD [⟨2,ETy,m2⟩,⟨1,ETy,ms.map frz1⟩,⟨0,PTy,mp⟩] TE) rows=some ks:=
 h.pure (unrefD [⟨2,ETy,m2⟩,⟨1,ETy,ms.map frz1⟩,⟨0,PTy,mp⟩] TE) λrow k hs hv=>by
  obtain⟨x,rfl⟩:=hs;have e:unrefD [⟨2,ETy,m2⟩,⟨1,ETy,ms.map frz1⟩,⟨0,PTy,mp⟩] (.ref 1 ETy) x=some k.2.2.2.2.2.2.2:=by rw[<-hv];rcases x with l|(_|⟨k,o,n⟩)<;>rfl
  show((some k.1).bind λy=>(((some k.2.1).bind λy=>(((some k.2.2.1).bind λy=>(((some k.2.2.2.1).bind λy=>(((some k.2.2.2.2.1).bind λy=>(((some k.2.2.2.2.2.1).bind λy=>(((some k.2.2.2.2.2.2.1).bind λy=>(unrefD [⟨2,ETy,m2⟩,⟨1,ETy,ms.map frz1⟩,⟨0,PTy,mp⟩] (.ref 1 ETy) x).map λz=>(y,z)).map λz=>(y,z))).map λz=>(y,z))).map λz=>(y,z))).map λz=>(y,z))).map λz=>(y,z))).map λz=>(y,z)))=_;rw[e]
  rfl
theorem FamP.pure10{rows}{ms}{ks}(me:MsE)(h:FamP rows ms ks):unrefL (unrefD [⟨1,ETy,me⟩,⟨0,PTy,ms.map frz1⟩] TP) rows=some ks:=
 h.pure (unrefD [⟨1,ETy,me⟩,⟨0,PTy,ms.map frz1⟩] TP) λrow k hs hv=>by
  obtain⟨x,rfl⟩:=hs;have e:unrefD [⟨1,ETy,me⟩,⟨0,PTy,ms.map frz1⟩] (.ref 0 PTy) x=some k.2.2.2.2.2.1:=by rw[<-hv];rcases x with l|(_|⟨k,o,n⟩)<;>rfl
  show((some k.1).bind λy=>(((some k.2.1).bind λy=>(((some k.2.2.1).bind λy=>(((some k.2.2.2.1).bind λy=>(((some k.2.2.2.2.1).bind λy=>(((unrefD [⟨1,ETy,me⟩,⟨0,PTy,ms.map frz1⟩] (.ref 0 PTy) x).bind λy=>(((some k.2.2.2.2.2.2.1).bind λy=>(some k.2.2.2.2.2.2.2).map λz=>(y,z)).map λz=>(y,z))).map λz=>(y,z))).map λz=>(y,z))).map λz=>(y,z))).map λz=>(y,z))).map λz=>(y,z)))=_;rw[e]
  rfl
theorem ryZ{rows}{mp}{me}{ks}(m1:MsE)(hp:Fam2p rows mp ks)(he:Fam2e rows me ks):unrefL (unrefD [⟨2,ETy,me.map frz1⟩,⟨1,ETy,m1⟩,⟨0,PTy,mp.map frz1⟩] T2) rows=some ks:=
 gqZ _ rows ks hp.len λi row k hr hk=>by
  obtain⟨⟨x,w,rfl⟩,h1⟩:=hp.at_ i row k hr hk
  let⟨_,h2⟩:=he.at_ i _ k hr hk
  have v1:=h1.view;have v2:=h2.view;have e1:unrefD [⟨2,ETy,me.map frz1⟩,⟨1,ETy,m1⟩,⟨0,PTy,mp.map frz1⟩] (.ref 0 PTy) x=some k.2.2.2.2.2.1:=by rw[<-v1];rcases x with l|(_|⟨k,o,n⟩)<;>rfl
  have e2:unrefD [⟨2,ETy,me.map frz1⟩,⟨1,ETy,m1⟩,⟨0,PTy,mp.map frz1⟩] (.ref 2 ETy) w=some k.2.2.2.2.2.2.2:=by rw[<-v2];rcases w with l|(_|⟨k,o,n⟩)<;>rfl
  show((some k.1).bind λy=>(((some k.2.1).bind λy=>(((some k.2.2.1).bind λy=>(((some k.2.2.2.1).bind λy=>(((some k.2.2.2.2.1).bind λy=>(((unrefD [⟨2,ETy,me.map frz1⟩,⟨1,ETy,m1⟩,⟨0,PTy,mp.map frz1⟩] (.ref 0 PTy) x).bind λy'=>(((some k.2.2.2.2.2.2.1).bind λy''=>(unrefD [⟨2,ETy,me.map frz1⟩,⟨1,ETy,m1⟩,⟨0,PTy,mp.map frz1⟩] (.ref 2 ETy) w).map λz=>(y'',z)).map λz=>(y',z))).map λz=>(y,z))).map λz=>(y,z))).map λz=>(y,z))).map λz=>(y,z))).map λz=>(y,z)))=_;rw[e1,e2]
  rfl
theorem soZ{rows}{mp}{me}{ks}(hp:Fam2p rows mp ks)(he:Fam2e rows me ks){i:Nat}{row}{k}(hr:rows[i]? =some row)(hk:ks[i]? =some k):unrefD [⟨2,ETy,me.map frz1⟩,⟨0,PTy,mp.map frz1⟩] T2 row=some k:=by
 obtain⟨⟨x,w,rfl⟩,h1⟩:=hp.at_ i row k hr hk
 let⟨_,h2⟩:=he.at_ i _ k hr hk
 have v1:=h1.view;have v2:=h2.view;have e1:unrefD [⟨2,ETy,me.map frz1⟩,⟨0,PTy,mp.map frz1⟩] (.ref 0 PTy) x=some k.2.2.2.2.2.1:=by rw[<-v1];rcases x with l|(_|⟨k,o,n⟩)<;>rfl
 have e2:unrefD [⟨2,ETy,me.map frz1⟩,⟨0,PTy,mp.map frz1⟩] (.ref 2 ETy) w=some k.2.2.2.2.2.2.2:=by rw[<-v2];rcases w with l|(_|⟨k,o,n⟩)<;>rfl
 show((some k.1).bind λy=>(((some k.2.1).bind λy=>(((some k.2.2.1).bind λy=>(((some k.2.2.2.1).bind λy=>(((some k.2.2.2.2.1).bind λy=>(((unrefD [⟨2,ETy,me.map frz1⟩,⟨0,PTy,mp.map frz1⟩] (.ref 0 PTy) x).bind λy'=>(((some k.2.2.2.2.2.2.1).bind λy''=>(unrefD [⟨2,ETy,me.map frz1⟩,⟨0,PTy,mp.map frz1⟩] (.ref 2 ETy) w).map λz=>(y'',z)).map λz=>(y',z))).map λz=>(y,z))).map λz=>(y,z))).map λz=>(y,z))).map λz=>(y,z))).map λz=>(y,z)))=_;rw[e1,e2]
 rfl
end Go.Ab.D
namespace Go.Ab
section
variable {ρ κ μ ν : Type}
structure InvC (mk:κ->RefT μ->ρ) (lst:κ->List μ) (ks:List κ) (n:Nat) (rows:List ρ) (ms:List (Nat×List μ)):Prop where
 len:rows.length=ks.length
 lm:ms.length=n
 at_:∀(i:Nat) k,ks[i]? =some k->(i<n->rows[i]? =some (mk k (.inr (some (i,(0,(lst k).length)))))/\ms[i]? =some (1,lst k))/\(n<=i->rows[i]? =some (mk k (.inl (lst k))))
variable {mk : κ → RefT μ → ρ} {lst : κ → List μ} {ks : List κ} {n : Nat} {rows : List ρ} {ms : List (Nat × List μ)}
theorem InvC.step(h:InvC mk lst ks n rows ms){k}(hk:ks[n]? =some k):InvC mk lst ks (n+1) (rows.set n (mk k (.inr (some (n,(0,(lst k).length)))))) (ms++[(1,lst k)]):=by
 have hn:=(ZAB.1 hk).1;have hl:=h.len;have hm:=h.lm;refine⟨by simp_all,by simp_all,λi k' aa=>⟨λhi=> ?_,λhi=> ?_⟩⟩
 ·by_cases ab:i=n
  ·simp_all
  ·have:=(h.at_ i k' aa).1 (by omega)
   grind
 ·rw[ZAa (by omega)];exact(h.at_ i k' aa).2 (by omega)
theorem InvC.fam(h:InvC mk lst ks ks.length rows ms){ref}{same}(hr:∀k x,ref (mk k x)=x)(hs:∀k x,same (mk k x) k):Fam ref lst same rows ms ks:=by
 refine⟨h.len,λi aa k hg hk=> ?_,λi i' aa row' j p p' ab hg ac hj ad=> ?_⟩
 ·let⟨e1,e2⟩:=(h.at_ i k hk).1 (ZAB.1 hk).1
  rw[e1] at hg;cases hg;exact⟨hs _ _,.inr ⟨i,hr _ _,e2⟩⟩
 ·have look:∀i aa,rows[i]? =some aa->∀p,ref aa= .inr (some (j,p))->j=i:=λi aa hg p hj=>by
   have hi:=(ZAB.1 hg).1;rw[h.len] at hi
   let⟨e1,_⟩:=(h.at_ i _ (ZAC hi)).1 hi
   rw[e1] at hg;cases hg;rw[hr] at hj;cases hj
   rfl
  grind
structure InvC2 (mk:κ->RefT μ->RefT ν->ρ) (lst:κ->List μ) (lst2:κ->List ν) (ks:List κ) (n:Nat) (rows:List ρ) (ms:List (Nat×List μ)) (m2:List (Nat×List ν)):Prop where
 len:rows.length=ks.length
 lm:ms.length=n
 lm2:m2.length=n
 at_:∀(i:Nat) k,ks[i]? =some k->(i<n->rows[i]? =some (mk k (.inr (some (i,(0,(lst k).length)))) (.inr (some (i,(0,(lst2 k).length)))))/\ms[i]? =some (1,lst k)/\m2[i]? =some (1,lst2 k))/\(n<=i->rows[i]? =some (mk k (.inl (lst k)) (.inl (lst2 k))))
variable {mk2 : κ → RefT μ → RefT ν → ρ} {lst2 : κ → List ν} {m2 : List (Nat × List ν)}
theorem InvC2.step(h:InvC2 mk2 lst lst2 ks n rows ms m2){k}(hk:ks[n]? =some k):InvC2 mk2 lst lst2 ks (n+1) (rows.set n (mk2 k (.inr (some (n,(0,(lst k).length)))) (.inr (some (n,(0,(lst2 k).length)))))) (ms++[(1,lst k)]) (m2++[(1,lst2 k)]):=by
 have hn:=(ZAB.1 hk).1;have hl:=h.len;have hm:=h.lm;have ab:=h.lm2;refine⟨by simp_all,by simp_all,by simp_all,λi k' aa=>⟨λhi=> ?_,λhi=> ?_⟩⟩
 ·by_cases ac:i=n
  ·simp_all
  ·have:=(h.at_ i k' aa).1 (by omega)
   grind
 ·rw[ZAa (by omega)];exact(h.at_ i k' aa).2 (by omega)
theorem InvC2.fam1(h:InvC2 mk2 lst lst2 ks ks.length rows ms m2){ref}{same}(hr:∀k x y,ref (mk2 k x y)=x)(hs:∀k x y,same (mk2 k x y) k):Fam ref lst same rows ms ks:=by
 refine⟨h.len,λi aa k hg hk=> ?_,λi i' aa row' j p p' ab hg ac hj ad=> ?_⟩
 ·let⟨e1,e2,_⟩:=(h.at_ i k hk).1 (ZAB.1 hk).1
  rw[e1] at hg;cases hg;exact⟨hs _ _ _,.inr ⟨i,hr _ _ _,e2⟩⟩
 ·have look:∀i aa,rows[i]? =some aa->∀p,ref aa= .inr (some (j,p))->j=i:=λi aa hg p hj=>by
   have hi:=(ZAB.1 hg).1;rw[h.len] at hi
   let⟨e1,_⟩:=(h.at_ i _ (ZAC hi)).1 hi
   rw[e1] at hg;cases hg;rw[hr] at hj;cases hj
   rfl
  grind
theorem InvC2.fam2(h:InvC2 mk2 lst lst2 ks ks.length rows ms m2){ref}{same}(hr:∀k x y,ref (mk2 k x y)=y)(hs:∀k x y,same (mk2 k x y) k):Fam ref lst2 same rows m2 ks:=by
 refine⟨h.len,λi aa k hg hk=> ?_,λi i' aa row' j p p' ab hg ac hj ad=> ?_⟩
 ·let⟨e1,_,e2⟩:=(h.at_ i k hk).1 (ZAB.1 hk).1
  rw[e1] at hg;cases hg;exact⟨hs _ _ _,.inr ⟨i,hr _ _ _,e2⟩⟩
 ·have look:∀i aa,rows[i]? =some aa->∀p,ref aa= .inr (some (j,p))->j=i:=λi aa hg p hj=>by
   have hi:=(ZAB.1 hg).1;rw[h.len] at hi
   let⟨e1,_⟩:=(h.at_ i _ (ZAC hi)).1 hi
   rw[e1] at hg;cases hg;rw[hr] at hj;cases hj
   rfl
  grind
end
end Go.Ab
namespace Go.Ab.D
open Go Go.Ab
abbrev entsI(n:Ino):List Ent:=n.2.2.2.2.2.2.2
abbrev partsI(n:Ino):List Part:=n.2.2.2.2.2.1
theorem t3Z(ks):InvC toE entsI ks 0 (List.map (liftT TE) (show List (TE.unref.den) from ks)) []:=
 ⟨ZAq _,rfl,λi k hg=>⟨λhc=>absurd hc (ZBc _),λ_=>by
  show(List.map (liftT TE) (show List (TE.unref.den) from ks))[i]? =some (liftT TE k);rw[ZAY];show(((ks))[i]?).map _=_
  grind⟩⟩
theorem vmZ(ks):InvC toP partsI ks 0 (List.map (liftT TP) (show List (TP.unref.den) from ks)) []:=
 ⟨ZAq _,rfl,λi k hg=>⟨λhc=>absurd hc (ZBc _),λ_=>by
  show(List.map (liftT TP) (show List (TP.unref.den) from ks))[i]? =some (liftT TP k);rw[ZAY];show(((ks))[i]?).map _=_
  grind⟩⟩
theorem vtZ(ks):InvC2 to2 partsI entsI ks 0 (List.map (liftT T2) (show List (T2.unref.den) from ks)) [] []:=
 ⟨ZAq _,rfl,rfl,λi k hg=>⟨λhc=>absurd hc (ZBc _),λ_=>by
  show(List.map (liftT T2) (show List (T2.unref.den) from ks))[i]? =some (liftT T2 k);rw[ZAY];show(((ks))[i]?).map _=_
  grind⟩⟩
theorem b6Z{t:Tree}(h:Fit t.1):∃rows ms,tcopE fuel t=some (t.2,(rows,ms))/\FamE rows ms t.1:=by
 unfold tcopE;have hn:=h.n;rw[cPZ hn,ZAA];have loop:∃o,tcopE_l0_it fuel t.1 (0,(t.2,((List.map (liftT TE) ((t.1))),(0,[]))))=some o/\∃rows ms,o=(t.2,(rows,(0,ms)))/\InvC toE entsI t.1 t.1.length rows ms:=by
  unfold tcopE_l0_it;refine aAZ (λm s=>∃(n:Nat) (rows:List InoE) (ms:MsE),s=((n:Int),(t.2,(rows,(0,ms))))/\n+m=t.1.length/\InvC toE entsI t.1 n rows ms) _ (λm s hI=> ?_) (λs hI=> ?_) t.1.length _ (by omega) ⟨0,_,[],rfl,by omega,t3Z t.1⟩
  ·obtain⟨n,rows,ms,rfl,hk,hI⟩:=hI;have hlt:n<t.1.length:=by omega
   obtain⟨k,hg⟩:∃k,t.1[n]? =some k:=⟨_,ZAC hlt⟩;have hrow:=(hI.at_ n k hg).2 (ZAL _);have hsm:=h.at hg;left;refine⟨(((n+1:Nat):Int),(t.2,(rows.set n (toE k (.inr (some (n,(0,(entsI k).length))))),(0,ms++[(1,entsI k)])))),?_,n+1,_,_,rfl,by omega,hI.step hg⟩;have hlr:n<rows.length:=by rw[hI.len];exact hlt
   unfold tcopE_l0;simp only[aFZ hlt];rw[adZ hlr];simp only[ZAA,hrow];rw[show(toE k (.inl (entsI k))).2.2.2.2.2.1=k.2.2.2.2.2.1 from rfl,cIZ hsm.1,ZAA];erw[ZAA];rw[d3Z hsm.2];show((rows.set n (toE k (.inl (entsI k))))[n]?.bind _)=_;rw[ZAT hlr,w6,hI.lm,show((n:Int)+1)=((n+1:Nat):Int) from by simp];show some (Sum.inl (_,(t.2,((rows.set n (toE k (.inl (entsI k)))).set n (toE k _),(0,_)))))=_;rw[List.set_set]
  ·obtain⟨n,rows,ms,rfl,hk,hI⟩:=hI;have:n=t.1.length:=by omega
   subst this;unfold tcopE_l0;simp only[aBZ (ZAy _),ZAD];exact⟨_,rfl,rows,ms,rfl,hI⟩
 obtain⟨o,ho,rows,ms,rfl,hI⟩:=loop;exact⟨rows,ms,by rw[(ho)];rfl,hI.fam (λ_ _=>rfl) λk x=>⟨x,rfl⟩⟩
theorem iJZ{t:Tree}(h:Fit t.1):∃rows ms,icopE fuel t=some (t.2,(rows,ms))/\FamE rows ms t.1:=by
 unfold icopE;have hn:=h.n;rw[cPZ hn,ZAA];have loop:∃o,icopE_l0_it fuel t.1 (0,(t.2,((List.map (liftT TE) ((t.1))),(0,[]))))=some o/\∃rows ms,o=(t.2,(rows,(0,ms)))/\InvC toE entsI t.1 t.1.length rows ms:=by
  refine aAZ (λm s=>∃(n:Nat) (rows:List InoE) (ms:MsE),s=((n:Int),(t.2,(rows,(0,ms))))/\n+m=t.1.length/\InvC toE entsI t.1 n rows ms) _ (λm s hI=> ?_) (λs hI=> ?_) t.1.length _ (by omega) ⟨0,_,[],rfl,by omega,t3Z t.1⟩
  ·obtain⟨n,rows,ms,rfl,hk,hI⟩:=hI;have hlt:n<t.1.length:=by omega
   obtain⟨k,hg⟩:∃k,t.1[n]? =some k:=⟨_,ZAC hlt⟩;have hrow:=(hI.at_ n k hg).2 (ZAL _);have hsm:=h.at hg;left;refine⟨(((n+1:Nat):Int),(t.2,(rows.set n (toE k (.inr (some (n,(0,(entsI k).length))))),(0,ms++[(1,entsI k)])))),?_,n+1,_,_,rfl,by omega,hI.step hg⟩;have hlr:n<rows.length:=by rw[hI.len];exact hlt
   unfold icopE_l0;simp only[aFZ hlt];rw[adZ hlr];simp[hrow];rw[show lowD (Ty.ref 1 ETy) (toE k (.inl (entsI k))).2.2.2.2.2.2.2=some (entsI k) from rfl];erw[ZAA];rw[show inode_own fuel ((toE k (.inl (entsI k))).1,((toE k (.inl (entsI k))).2.1,((toE k (.inl (entsI k))).2.2.1,((toE k (.inl (entsI k))).2.2.2.1,((toE k (.inl (entsI k))).2.2.2.2.1,((toE k (.inl (entsI k))).2.2.2.2.2.1,((toE k (.inl (entsI k))).2.2.2.2.2.2.1,entsI k)))))))=_ from m7Z hsm];rw[w6,hI.lm]
   rfl
  ·obtain⟨n,rows,ms,rfl,hk,hI⟩:=hI;have:n=t.1.length:=by omega
   subst this;unfold icopE_l0;simp only[aBZ (ZAy _)];exact⟨_,rfl,rows,ms,rfl,hI⟩
 obtain⟨o,ho,rows,ms,rfl,hI⟩:=loop;exact⟨rows,ms,by rw[(ho)];rfl,hI.fam (λ_ _=>rfl) λk x=>⟨x,rfl⟩⟩
theorem n0Z{rows}{ms}{ks}(st)(hF:FamE rows ms ks)(h:Fit ks):∃rowsP mp,icopPgo0R fuel st rows ms=some (st,(rows,(rowsP,(mp,ms.map frz1))))/\FamP rowsP mp ks:=by
 unfold icopPgo0R;have hn:=h.n;rw[hF.pure1];erw[ZAA];rw[cPZ hn,ZAA];have loop:∃o,icopPgo0R_l0_it fuel ks (st,(0,(rows,(st,((List.map (liftT TP) ((ks))),(0,([],ms.map frz1)))))))=some o/\∃rowsP mp,o=(st,(rows,(st,(rowsP,(0,(mp,ms.map frz1))))))/\InvC toP partsI ks ks.length rowsP mp:=by
  refine aAZ (λm s=>∃(n:Nat) (rowsP:List InoP) (mp:MsP),s=(st,((n:Int),(rows,(st,(rowsP,(0,(mp,ms.map frz1)))))))/\n+m=ks.length/\InvC toP partsI ks n rowsP mp) _ (λm s hI=> ?_) (λs hI=> ?_) ks.length _ (by omega) ⟨0,_,[],rfl,by omega,vmZ ks⟩
  ·obtain⟨n,rowsP,mp,rfl,hk,hI⟩:=hI;have hlt:n<ks.length:=by omega
   obtain⟨k,hg⟩:∃k,ks[n]? =some k:=⟨_,ZAC hlt⟩;have hrow:=(hI.at_ n k hg).2 (ZAL _);have hsm:=h.at hg;left;refine⟨(st,(((n+1:Nat):Int),(rows,(st,(rowsP.set n (toP k (.inr (some (n,(0,(partsI k).length))))),(0,(mp++[(1,partsI k)],ms.map frz1))))))),?_,n+1,_,_,rfl,by omega,hI.step hg⟩;have hlr:n<rowsP.length:=by rw[hI.len];exact hlt
   unfold icopPgo0R_l0;simp only[aFZ hlt];rw[adZ hlr];simp[hrow];rw[show lowD (Ty.ref 0 PTy) (toP k (.inl (partsI k))).2.2.2.2.2.1=some (partsI k) from rfl];erw[ZAA];rw[show inode_own fuel ((toP k (.inl (partsI k))).1,((toP k (.inl (partsI k))).2.1,((toP k (.inl (partsI k))).2.2.1,((toP k (.inl (partsI k))).2.2.2.1,((toP k (.inl (partsI k))).2.2.2.2.1,(partsI k,((toP k (.inl (partsI k))).2.2.2.2.2.2.1,(toP k (.inl (partsI k))).2.2.2.2.2.2.2)))))))=_ from m7Z hsm];rw[w6,hI.lm]
   rfl
  ·obtain⟨n,rowsP,mp,rfl,hk,hI⟩:=hI;have:n=ks.length:=by omega
   subst this;unfold icopPgo0R_l0;simp only[aBZ (ZAy _)];exact⟨_,rfl,rowsP,mp,rfl,hI⟩
 obtain⟨o,ho,rowsP,mp,rfl,hI⟩:=loop;exact⟨rowsP,mp,by rw[(ho)];rfl,hI.fam (λ_ _=>rfl) λk x=>⟨x,rfl⟩⟩
theorem otZ{rows}{ms}{ks}(st)(hF:FamE rows ms ks)(h:Fit ks):∃rows2 mp me,icop2go0R fuel st rows ms=some (st,(rows,(rows2,(mp,(ms.map frz1,me)))))/\Fam2p rows2 mp ks/\Fam2e rows2 me ks:=by
 unfold icop2go0R;have hn:=h.n;rw[hF.pure1];erw[ZAA];rw[cPZ hn,ZAA];have loop:∃o,icop2go0R_l0_it fuel ks (st,(0,(rows,(st,((List.map (liftT T2) ((ks))),(0,([],(ms.map frz1,[]))))))))=some o/\∃rows2 mp me,o=(st,(rows,(st,(rows2,(0,(mp,(ms.map frz1,me)))))))/\InvC2 to2 partsI entsI ks ks.length rows2 mp me:=by
  unfold icop2go0R_l0_it;refine aAZ (λm s=>∃(n:Nat) (rows2:List Ino2) (mp:MsP) (me:MsE),s=(st,((n:Int),(rows,(st,(rows2,(0,(mp,(ms.map frz1,me))))))))/\n+m=ks.length/\InvC2 to2 partsI entsI ks n rows2 mp me) _ (λm s hI=> ?_) (λs hI=> ?_) ks.length _ (by omega) ⟨0,_,[],[],rfl,by omega,vtZ ks⟩
  ·obtain⟨n,rows2,mp,me,rfl,hk,hI⟩:=hI;have hlt:n<ks.length:=by omega
   obtain⟨k,hg⟩:∃k,ks[n]? =some k:=⟨_,ZAC hlt⟩;have hrow:=(hI.at_ n k hg).2 (ZAL _);have hsm:=h.at hg;left;refine⟨(st,(((n+1:Nat):Int),(rows,(st,(rows2.set n (to2 k (.inr (some (n,(0,(partsI k).length)))) (.inr (some (n,(0,(entsI k).length))))),(0,(mp++[(1,partsI k)],(ms.map frz1,me++[(1,entsI k)])))))))),?_,n+1,_,_,_,rfl,by omega,hI.step hg⟩;have hlr:n<rows2.length:=by rw[hI.len];exact hlt
   unfold icop2go0R_l0;simp only[aFZ hlt];rw[adZ hlr];simp[hrow];rw[show lowD (Ty.ref 0 PTy) (to2 k (.inl (partsI k)) (.inl (entsI k))).2.2.2.2.2.1=some (partsI k) from rfl];erw[ZAA];rw[show lowD (Ty.ref 2 ETy) (to2 k (.inl (partsI k)) (.inl (entsI k))).2.2.2.2.2.2.2=some (entsI k) from rfl];erw[ZAA];rw[show inode_own fuel ((to2 k (.inl (partsI k)) (.inl (entsI k))).1,((to2 k (.inl (partsI k)) (.inl (entsI k))).2.1,((to2 k (.inl (partsI k)) (.inl (entsI k))).2.2.1,((to2 k (.inl (partsI k)) (.inl (entsI k))).2.2.2.1,((to2 k (.inl (partsI k)) (.inl (entsI k))).2.2.2.2.1,(partsI k,((to2 k (.inl (partsI k)) (.inl (entsI k))).2.2.2.2.2.2.1,entsI k)))))))=_ from m7Z hsm];rw[w6,hI.lm,hI.lm2]
   rfl
  ·obtain⟨n,rows2,mp,me,rfl,hk,hI⟩:=hI;have:n=ks.length:=by omega
   subst this;unfold icop2go0R_l0;simp only[aBZ (ZAy _),ZAD];exact⟨_,rfl,rows2,mp,me,rfl,hI⟩
 obtain⟨o,ho,rows2,mp,me,rfl,hI⟩:=loop;exact⟨rows2,mp,me,by rw[(ho)];rfl,hI.fam1 (λ_ _ _=>rfl) λk x y=>⟨x,y,rfl⟩,hI.fam2 (λ_ _ _=>rfl) λk x y=>⟨x,y,rfl⟩⟩
theorem aGZ{t:Tree}(h:Fit t.1):tcop fuel t=some (t.2,t.1):=by
 unfold tcop;rw[cPZ h.n];have loop:tcop_l0_it fuel t.1 (0,(t.2,(t.1,0)))=some (t.2,(t.1,0)):=by
  refine aoZ (λk=>((k:Int),(t.2,(t.1,0)))) t.1.length (by have:=h.n;omega) (λk hk=> ?_) ?_
  ·unfold tcop_l0;obtain⟨n,hg⟩:∃n,t.1[k]? =some n:=⟨_,ZAC hk⟩;have aa:=h.at hg;have hs:=dKZ hg;simp only[aFZ hk];rw[adZ hk];simp only[ZAA,hg];rw[cIZ aa.1,d3Z aa.2];show((t.1.set k n)[k]?.bind _)=_;rw[hs,hg,w64 (by have:=h.n;omega)];show some (Sum.inl (_,(t.2,(t.1.set k n,0))))=_;rw[hs]
   rfl
  ·unfold tcop_l0;simp[ZAD]
 simp_all
theorem trZ{l:List Ent}(s)(hl:l.length<=100000):sDelFun fuel l s=some (.inl (delE l s,s))\/sDelFun fuel l s=some (.inr (s,delE l s)):=by
 have hidx:sIndFun2 fuel l s=some (match l.findIdx? (λe=>e.1==s) with|some n=>((n:Int),(l,s))|none=>(-1,(l,s))):=by
  unfold sIndFun2 sIndFun2_l0_it;have e:=q8Z (l,s) (λe:Ent=>e.1==s) l (by omega) (λtt=>sIndFun2_l0 fuel l tt.1 tt.2.1 tt.2.2) (λi x hx=>by
   show sIndFun2_l0 fuel l (i:Int) l s=_;unfold sIndFun2_l0 ttak1;have hlt:=(ZAB.1 hx).1;simp[ZAK]
   grind[adZ,ZAA,w64]) (by
   show sIndFun2_l0 fuel l ((l.length:Nat):Int) l s=_
   simp_all[sIndFun2_l0,ZAD])
  rw[e,ZAA];cases l.findIdx? (λe=>e.1==s)<;>rfl
 unfold sDelFun;rw[hidx,ZAA];cases hf:l.findIdx? (λe=>e.1==s) with
 |none=>
  grind[delE,ZBz,ZCD]
 |some n=>
  right
  let⟨hn,h1,h2⟩:=ZA2.1 hf
  simp only[];rw[show((n:Int)== -1)=false from by simp,ZAD,w6];obtain⟨h',e1,e2,e3⟩:=riZ s (λe:Ent=>e.1==s) l n hn (by omega) h1 (λj hj=>by simpa using h2 j hj)
   (λtt=>sDelFun_l0 fuel tt.1 tt.2.1 tt.2.2.1 tt.2.2.2) (λi j h x hij hj hh hx=>by
    show sDelFun_l0 fuel (i:Int) (j:Int) h s=_;unfold sDelFun_l0 ttak1;have hi:i<h.length:=by omega
    obtain⟨y,hy⟩:∃y,h[i]? =some y:=⟨_,ZAC hi⟩;simp only[aFZ hj,ZAK];rw[adZ hj,ZAA,hx,ZAA,ZAA,adZ hi];simp only[ZAA,hy];rw[w6,w6];cases(x.1==s)<;>rfl) (λi h=>by
    show sDelFun_l0 fuel (i:Int) ((h.length:Nat):Int) h s=_;unfold sDelFun_l0;simp only[aBZ (ZAy _),ZAD])
  have e3:h'.take (delE l s).length=delE l s:=e3;have e1:iter fuel (λtt=>sDelFun_l0 fuel tt.1 tt.2.1 tt.2.2.1 tt.2.2.2) ((n:Int),(((n+1:Nat):Int),(l,s)))=some ((((delE l s).length:Nat):Int),(h',s)):=e1;rw[show sDelFun_l0_it fuel ((n:Int),((n:Int)+1,(l,s)))=_ from e1,ZAA];have hle:(delE l s).length<=h'.length:=by rw[e2];exact ZBg _ _
  simp only;rw[aKZ hle,ZAA,aeZ (aUZ (by omega))];have hsl:(splice h' (delE l s).length (List.replicate (h'.length-(delE l s).length) (([],0):Ent))).length=h'.length:=by
   unfold splice;simp;omega
  rw[hsl,aKZ hle,ZAA,aeZ (aUZ hle)];have:(splice h' (delE l s).length (List.replicate (h'.length-(delE l s).length) (([],0):Ent))).take (delE l s).length=delE l s:=by
   unfold splice;rw[ZAx,ZBR (by rw[e3];exact ZAL _),List.take_take,Nat.min_self,e3]
  grind
def wE(n:Ino)(l:List Ent):Ino:=(n.1,n.2.1,n.2.2.1,n.2.2.2.1,n.2.2.2.2.1,n.2.2.2.2.2.1,n.2.2.2.2.2.2.1,l)
def wP(n:Ino)(p:Int):Ino:=(n.1,n.2.1,n.2.2.1,n.2.2.2.1,n.2.2.2.2.1,n.2.2.2.2.2.1,p,n.2.2.2.2.2.2.2)
theorem kEZ{l}(s)(id)(hl:l.length<=100000):sIns fuel ((pos l s:Nat):Int) l [(s,id)]=some ([(s,id)],insE l s id):=by
 unfold sIns;rw[aKZ (qtZ l s),ZAA,aeZ]
 ·rfl
 ·simp[atZ,ZBb];omega
theorem t7Z{rows ex:List InoE}{ms}{ks}(st){dir}{n}(s)(id)(hF:FamE rows ms ks)(hks:ks.length+ex.length<=100000)(h1:1<=dir)(hn:ks[(dir-1).toNat]? =some n)(hs:Srt n.2.2.2.2.2.2.2)(hl:n.2.2.2.2.2.2.2.length<=100000):
 ∃rows' ms',tput fuel dir s id st (rows++ex) ms=some (st,(rows'++ex,ms'))/\FamE rows' ms' (ks.set (dir-1).toNat (wE n (insE n.2.2.2.2.2.2.2 s id))):=by
 have hlt:=(ZAB.1 hn).1;have hrl:=hF.len
 let⟨row,hr,⟨x,hrx⟩,_⟩:=hF.row hn
 let⟨ms',ho,hml,hset⟩:=hF.open_ hr hn
 refine⟨_,_,?_,hset (toE n (.inr (some (ms'.length,(0,(insE n.2.2.2.2.2.2.2 s id).length))))) (wE n (insE n.2.2.2.2.2.2.2 s id)) ⟨_,rfl⟩ rfl⟩;have hr':(rows++ex)[(dir-1).toNat]? =some row:=by rw[ZAR (by omega)];exact hr
 unfold tput;rw[w6,azZ (by omega) (by rw[ZAd];omega),ZAA,hr',ZAA,hF.one hr hn];erw[ZAA];rw[iGZ s hs hl,ZAA,ZAA];erw[ho];rw[ZAA];simp only;rw[kEZ s id hl,ZAA,ZAA,hrx,List.set_append_left _ _ (by omega)]
 rfl
theorem put_ok{rows}{ms}{ks}(st){ab}{n}(s)(id)(hF:FamE rows ms ks)(ad:ks.length<=100000)(h1:1<=ab)(hn:ks[(ab-1).toNat]? =some n)(hs:Srt n.2.2.2.2.2.2.2)(hl:n.2.2.2.2.2.2.2.length<=100000):
 ∃aa ac,tput fuel ab s id st rows ms=some (st,(aa,ac))/\FamE aa ac (ks.set (ab-1).toNat (wE n (insE n.2.2.2.2.2.2.2 s id))):=by
 let⟨aa,ac,h,hf⟩:=t7Z (ex:=[]) st s id hF (by omega) h1 hn hs hl
 rw[ZAp,ZAp] at h;exact⟨aa,ac,h,hf⟩
theorem dYZ{rows}{ms}{ks}(st){dir}{n}(s)(hF:FamE rows ms ks)(hks:ks.length<=100000)(h1:1<=dir)(hn:ks[(dir-1).toNat]? =some n)(hl:n.2.2.2.2.2.2.2.length<=100000):
 ∃rows' ms',ttak fuel dir s st rows ms=some (st,(rows',ms'))/\FamE rows' ms' (ks.set (dir-1).toNat (wE n (delE n.2.2.2.2.2.2.2 s))):=by
 have hlt:=(ZAB.1 hn).1;have hrl:=hF.len
 let⟨row,hr,⟨x,hrx⟩,_⟩:=hF.row hn
 let⟨ms',ho,hml,hset⟩:=hF.open_ hr hn
 refine⟨_,_,?_,hset (toE n (.inr (some (ms'.length,(0,(delE n.2.2.2.2.2.2.2 s).length))))) (wE n (delE n.2.2.2.2.2.2.2 s)) ⟨_,rfl⟩ rfl⟩;unfold ttak Pb Pc Pd Pe Pf PF;rw[w6,azZ (by omega) (by omega),ZAA,hr,ZAA];erw[ho];rw[ZAA];simp only;rcases trZ s hl with hd|hd
 ·rw[hd,ZAA];simp only;rw[hrx]
  rfl
 ·rw[hd,ZAA];simp only;rw[hrx]
  rfl
theorem uNZ{rows}{mp}{me}{ks}(st){dir}{n}(s)(id)(hP:Fam2p rows mp ks)(hF:Fam2e rows me ks)(hks:ks.length<=100000)(h1:1<=dir)(hn:ks[(dir-1).toNat]? =some n)(hs:Srt n.2.2.2.2.2.2.2)(hl:n.2.2.2.2.2.2.2.length<=100000):
 ∃rows' me',tput2 fuel dir s id st rows mp me=some (st,(rows',(mp,me')))/\Fam2p rows' mp (ks.set (dir-1).toNat (wE n (insE n.2.2.2.2.2.2.2 s id)))/\Fam2e rows' me' (ks.set (dir-1).toNat (wE n (insE n.2.2.2.2.2.2.2 s id))):=by
 have hlt:=(ZAB.1 hn).1;have hrl:=hF.len
 let⟨row,hr,⟨x,y,hrx⟩,_⟩:=hF.row hn
 let⟨me',ho,hml,hset⟩:=hF.open_ hr hn
 refine⟨_,_,?_,hP.keep hr hn ⟨_,_,rfl⟩ (by rw[hrx];rfl) rfl,hset (to2 n x (.inr (some (me'.length,(0,(insE n.2.2.2.2.2.2.2 s id).length))))) (wE n (insE n.2.2.2.2.2.2.2 s id)) ⟨_,_,rfl⟩ rfl⟩;unfold tput2;rw[w6,azZ (by omega) (by omega),ZAA,hr,ZAA,soZ hP hF hr hn];erw[ZAA];rw[iGZ s hs hl,ZAA,ZAA];erw[ho];rw[ZAA];simp only;rw[kEZ s id hl,hrx]
 rfl
theorem rYZ{rows}{mp}{me}{ks}(st){dir}{n}(s)(hP:Fam2p rows mp ks)(hF:Fam2e rows me ks)(hks:ks.length<=100000)(h1:1<=dir)(hn:ks[(dir-1).toNat]? =some n)(hl:n.2.2.2.2.2.2.2.length<=100000):
 ∃rows' me',ttak2 fuel dir s st rows mp me=some (st,(rows',(mp,me')))/\Fam2p rows' mp (ks.set (dir-1).toNat (wE n (delE n.2.2.2.2.2.2.2 s)))/\Fam2e rows' me' (ks.set (dir-1).toNat (wE n (delE n.2.2.2.2.2.2.2 s))):=by
 have hlt:=(ZAB.1 hn).1;have hrl:=hF.len
 let⟨row,hr,⟨x,y,hrx⟩,_⟩:=hF.row hn
 let⟨me',ho,hml,hset⟩:=hF.open_ hr hn
 refine⟨_,_,?_,hP.keep hr hn ⟨_,_,rfl⟩ (by rw[hrx];rfl) rfl,hset (to2 n x (.inr (some (me'.length,(0,(delE n.2.2.2.2.2.2.2 s).length))))) (wE n (delE n.2.2.2.2.2.2.2 s)) ⟨_,_,rfl⟩ rfl⟩;unfold ttak2 Pb Pc Pd Pe Pf PF;rw[w6,azZ (by omega) (by omega),ZAA,hr,ZAA];erw[ho];rw[ZAA];simp only;rcases trZ s hl with hd|hd
 ·rw[hd,ZAA];simp only;rw[hrx]
  rfl
 ·rw[hd,ZAA];simp only;rw[hrx]
  rfl
def noRoom(l:List Ino):Prop:=match freeAt l with|none=>500<=l.length|some i=>∃n,l[i]? =some n/\1099511627776<=n.2.1
structure Alc (l:List Ino) (dir:Bool) (parent:Int) (l':List Ino) (i:Nat) (g:Int):Prop where
 slot:i=(freeAt l).getD l.length
 new:l'[i]? =some ((i:Int)+1,g,true,dir,0,[],parent,[])
 old:∀j:Nat,j≠i->l'[j]? =l[j]?
 gen:g=(match l[i]? with|some n=>n.2.1|none=>0)+1
 top:g<=1099511627776
 was:∀n,l[i]? =some n->n.2.2.1=false
 len:l'.length=if i<l.length then l.length else l.length+1
 le:i<=l.length
 few:l'.length<=500
theorem e4Z{α γ}(g):∀(a b:List α) {x y:List γ},unrefL g a=some x->unrefL g b=some y->unrefL g (a++b)=some (x++y)
 |[],b,x,y,h1,h2=>by
  have:x=[]:=by injection h1 with h1;exact h1.symm
  simp_all
 |c::a,b,x,y,h1,h2=>by
  have h1:(g c).bind (λz=>(unrefL g a).map (z::·))=some x:=h1;show(g c).bind (λz=>(unrefL g (a++b)).map (z::·))=some (x++y);cases hc:g c with
  |none=>rw[hc] at h1;cases h1
  |some z=>
   rw[hc] at h1;cases ha:unrefL g a with
   |none=>rw[ha] at h1;cases h1
   |some w=>
    rw[ha] at h1;have:x=z::w:=by injection h1 with h1;exact h1.symm
    subst this;rw[e4Z g a b ha h2]
    rfl
theorem ecZ{t}(h:RightP t):iRig fuel t=some true:=by
 let⟨b,hb,hq⟩:=nvZ h.fit<;>grind
theorem qyZ{t}(h:RightP t)(dir){parent}(hp:isB t.1 parent true=true):
 (noRoom t.1/\∃rows ms,iAllE fuel t dir parent=some (t.2,(0,(0,(5,(rows,ms)))))/\FamE rows ms t.1)\/
 (∃(rows ex:List InoE) (ms:MsE) (l le:List Ino) (i:Nat) (g:Int),iAllE fuel t dir parent=some (t.2,((i:Int)+1,(g,(0,(rows++ex,ms)))))/\Alc t.1 dir parent (l++le) i g/\FamE rows ms l/\l.length=t.1.length/\((ex=[]/\le=[])\/∃n,ex=[toE n (.inl [])]/\le=[n]/\n.2.2.2.2.2.2.2=[])):=by
 have hlen:=h.len
 let⟨rows,ms,hc,hF⟩:=iJZ h.fit
 have hrl:=hF.len;have hfi:=usZ (l:=t.1) (by omega);unfold iAllE Pa Pb Pc Pd Pe PA PB PC PE PF;rw[hc,ZAA,ecZ h,ZAA];simp only[ZAD];rw[qzZ h.fit,ZAA,hp];simp only[ZAO];rw[hF.pure1];erw[ZAA];rw[hfi,ZAA];cases hfree:freeAt t.1 with
 |none=>
  simp only;rw[show decide ((-1:Int)<0)=true from rfl];simp only[ZAK,ZAA,hrl];by_cases h5:500<=t.1.length
  ·left;rw[ZAJ (show(((t.1.length:Nat):Int)>=500) by omega)];refine⟨by simp_all[noRoom],rows,ms,rfl,hF⟩
  ·right;rw[ZAE (show¬(((t.1.length:Nat):Int)>=500) by omega)];simp only[ZAD];rw[nTo,ZAA];simp only;obtain⟨row0,hrow0⟩:∃r,r=toE (((t.1.length:Nat):Int)+1,0,false,false,0,[],0,[]) (.inl []):=⟨_,rfl⟩;have e0:(List.map (liftT TE) ((([((wI (((t.1.length:Nat):Int)+1)),(0,(false,(false,(0,([],(0,[])))))))]:List Ino))))=[row0]:=by
    rw[w6,hrow0];rfl
   erw[e0];have hlt:rows.length<(rows++[row0]).length:=by simp
   have hg:(rows++[row0])[rows.length]? =some row0:=by simp
   rw[<-hrl,adZ hlt];simp only[ZAA,hg,List.set_set,llZ hlt];refine⟨rows,[toE (((t.1.length:Nat):Int)+1,1,true,dir,0,[],parent,[]) (.inl [])],ms,t.1,[(((t.1.length:Nat):Int)+1,1,true,dir,0,[],parent,[])],t.1.length,1,?_,⟨by rw[hfree];rfl,by simp,λj hj=> ?_,by simp,by omega,λn hn=>by simp at hn,by simp,ZAL _,by simp;omega⟩,hF,hrl.symm,.inr ⟨_,rfl,rfl,rfl⟩⟩
   ·rw[List.set_append_right _ _ (ZAL _),ZBn,hrow0]
    rfl
   grind
 |some i=>
  let⟨hi,hu,_⟩:=ZA2.1 hfree
  have hg:=ZAC hi
  let⟨row,hr,⟨x,hrx⟩,_⟩:=hF.row hg
  have hu:=by simpa using hu
  have ho:=h.ino i _ hg;have hb:=ho.bare hu;have hgen:=ho.gen;simp only;rw[ZAE (show¬((i:Int)<0) by omega)];simp only[ZAD,ZAA];rw[adZ (show i<rows.length by omega)];simp only[ZAA,hr];have hrg:row.2.1=t.1[i].2.1:=by rw[hrx];rfl
  rw[hrg];by_cases h5:t.1[i].2.1>=1099511627776
  ·left;rw[ZAJ h5];refine⟨by unfold noRoom;rw[hfree];exact⟨_,hg,h5⟩,rows,ms,rfl,hF⟩
  ·right;rw[ZAE h5];simp only[ZAD,ZAA];have hlr:i<rows.length:=by omega
   rw[adZ hlr];simp only[ZAA,hr,List.set_set,llZ hlr];have hw:wI (row.2.1+1)=t.1[i].2.1+1:=by rw[hrg,w6]
   rw[hw];have hid:=ho.id;have hrow:=hrx;refine⟨rows.set i (toE (taken t.1[i] dir parent) x),[],ms,t.1.set i (taken t.1[i] dir parent),[],i,t.1[i].2.1+1,?_,⟨by rw[hfree];rfl,?_,λj hj=> ?_,by rw[hg],by omega,λn hn=>by rw[hg] at hn;cases hn;exact hu,by simp[hi],by omega,by simp;omega⟩,hF.keep hr hg ⟨x,rfl⟩ (by rw[hrx];rfl) rfl,ZAr ..,.inl ⟨rfl,rfl⟩⟩
   ·rw[ZAp];congr 2;rw[hrow];refine Prod.ext ?_ rfl;show t.1[i].1=_;omega
   ·rw[ZAp,llZ hi];unfold taken;rw[hb.2.1,hb.2.2.2.1,hb.2.2.2.2,hid]
   ·rw[ZAp,ZAa (by omega)]
def madeL(l':List Ino)(d:Int)(n:Ino)(s:List UInt8)(id:Int):List Ino:=l'.set (d-1).toNat (wE n (insE n.2.2.2.2.2.2.2 s id))
theorem u9Z{l}{d}{n}(hn:IsD l d n):isB l d.1 true=true:=by
 unfold isB;rw[hn.1.2.1];simp[hn.1.1,hn.1.2.2.1,hn.2]
section
variable {t : Tree} {d : Int × Int} {n : Ino} {s : List UInt8}
theorem mEZ(h:TreeOK t)(s)(is)(hb:dirE t.1 d≠0):tree_Make fuel t d s is=some (t.1,(t.2,(0,(0,dirE t.1 d)))):=by
 unfold tree_Make;rw[dyZ h hb,ZAA];simp[ZAW.2 hb,ZAK];rw[aGZ h.r.fit,ZAA]
theorem j2Z(h:TreeOK t)(is)(hn:IsD t.1 d n)(hs:namedB s=false):tree_Make fuel t d s is=some (t.1,(t.2,(0,(0,176)))):=by
 unfold tree_Make;rw[aHZ h hn,ZAA];rw[show idx? 0 [n].length=some 0 from rfl,ZAA,show[n][0]? =some n from rfl,ZAA,h.ent_ok hn,ZAA,a2Z,ZAA,hs];simp[ZAK];rw[aGZ h.r.fit,ZAA]
theorem h4Z(h:TreeOK t)(is)(hn:IsD t.1 d n)(hs:namedB s=true)(hh:hasN n.2.2.2.2.2.2.2 s=true):tree_Make fuel t d s is=some (t.1,(t.2,(0,(0,172)))):=by
 unfold tree_Make;rw[aHZ h hn,ZAA];rw[show idx? 0 [n].length=some 0 from rfl,ZAA,show[n][0]? =some n from rfl,ZAA,h.ent_ok hn,ZAA,a2Z,ZAA,hs,hh];simp[ZAD];rw[aGZ h.r.fit,ZAA]
theorem kSZ(h:TreeOK t)(is)(hn:IsD t.1 d n)(hs:namedB s=true)(hh:hasN n.2.2.2.2.2.2.2 s=false)(hl:100<=n.2.2.2.2.2.2.2.length):tree_Make fuel t d s is=some (t.1,(t.2,(0,(0,5)))):=by
 unfold tree_Make;rw[aHZ h hn,ZAA];rw[show idx? 0 [n].length=some 0 from rfl,ZAA,show[n][0]? =some n from rfl,ZAA,h.ent_ok hn,a2Z,hs,hh];simp only[ZAO,ZAD,ZAA];rw[show[n][0]? =some n from rfl,ZAA,ZAJ (show((n.2.2.2.2.2.2.2.length:Nat):Int)>=100 by omega)];simp;rw[aGZ h.r.fit,ZAA]
theorem hSZ(h:TreeOK t)(is)(hn:IsD t.1 d n)(hs:namedB s=true)(hh:hasN n.2.2.2.2.2.2.2 s=false)(hl:n.2.2.2.2.2.2.2.length<100):
 (noRoom t.1/\tree_Make fuel t d s is=some (t.1,(t.2,(0,(0,5)))))\/
 ∃(l':List Ino) (i:Nat) (g:Int),Alc t.1 is d.1 l' i g/\tree_Make fuel t d s is=some (madeL l' d.1 n s ((i:Int)+1),(t.2,((i:Int)+1,(g,0)))):=by
 have aj:=h.r.len;have al:=(ZAB.1 hn.1.2.1).1;unfold tree_Make;rw[aHZ h hn,ZAA];simp only[ZAb,ZAD];rw[show idx? 0 [n].length=some 0 from rfl,ZAA,show[n][0]? =some n from rfl,ZAA,h.ent_ok hn,a2Z,hs,hh];simp only[ZAO,ZAA];rw[show[n][0]? =some n from rfl,ZAA,ZAE (show¬((n.2.2.2.2.2.2.2.length:Nat):Int)>=100 by omega)];simp only[ZAD];rcases qyZ h.r is (u9Z hn) with⟨af,rows,ms,ha,hF⟩|⟨rows,ex,ms,l,le,i,g,ha,hA,hF,am,ab⟩
 ·left;refine⟨af,?_⟩;rw[ha,ZAA];simp only;rw[show((5:Int)==0)=false from rfl];simp only[ZAk,ZAK];rw[hF.pure1];erw[ZAA]
 ·right;refine⟨l++le,i,g,hA,?_⟩;rw[ha,ZAA];simp only[ZAb,ZAO,ZAD];have ag:(d.1-1).toNat≠i:=λhc=>by
   have:=hA.was n (by rw[<-hc];exact hn.1.2.1);rw[hn.1.2.2.1] at this;cases this
  have ah:=by
   have:=hA.old _ ag;rw[ZAR (by omega),hn.1.2.1] at this;exact this
  have ak:ex.length<=1:=by rcases ab with⟨h1,_⟩|⟨n,h1,_⟩<;>rw[h1]<;>simp
  let⟨aa,ac,ad,ai⟩:=t7Z (ex:=ex) t.2 s ((i:Int)+1) hF (by omega) hn.1.1 ah (h.srt hn.1) (by omega)
  rw[ad,ZAA];simp only;have ae:unrefL (unrefD [⟨1,ETy,ac.map frz1⟩] TE) ex=some le:=by
   rcases ab with⟨rfl,rfl⟩|⟨m,rfl,rfl,hm⟩
   ·rfl
   ·let⟨m1,m2,m3,m4,m5,m6,m7,m8⟩:=m
    simp only at hm;subst hm
    rfl
  have hu:unrefL (unrefD [⟨1,ETy,ac.map frz1⟩] TE) (aa++ex)=some (l.set (d.1-1).toNat (wE n (insE n.2.2.2.2.2.2.2 s ((i:Int)+1)))++le):=e4Z _ _ _ ai.pure1 ae;rw[hu];erw[ZAA];unfold madeL;rw[List.set_append_left _ _ (by omega)]
end
theorem lPZ:∀{l' l},(∀(j:Nat) n',l'[j]? =some n'->n'.2.2.2.2.2.1=[]\/∃n,l[j]? =some n/\n'.2.2.2.2.2.1=n.2.2.2.2.2.1)->(allStripes l').Sublist (allStripes l)
 |[],l,_=>by simp[allStripes]
 |a::r,l,h=>by
  have ea:∀(x) (y),allStripes (x::y)=stripes x.2.2.2.2.2.1++allStripes y:=λx y=>by simp[allStripes]
  cases l with
  |nil=>
   have h0:=h 0 a rfl;rcases h0 with h0|⟨n,hn,_⟩
   ·have:=lPZ (l:=[]) λj n' hj=>h (j+1) n' (by simpa using hj);rw[ea,h0];simpa[stripes] using this
   ·simp at hn
  |cons b m=>
   have ih:=lPZ λj n' hj=>by simpa using h (j+1) n' (by simpa using hj)
   rw[ea];refine List.Sublist.append ?_ ih;rcases h 0 a rfl with h0|⟨n,hn,he⟩
   ·rw[h0];simp[stripes]
   ·simp at hn;subst hn;rw[he];exact List.Sublist.refl _
theorem gjZ{a b}(h:a<=b):∀{l} {aa},okEnts a aa l->okEnts b aa l
 |[],aa,_=>trivial
 |e::r,aa,hl=>by
  rw[geZ] at hl⊢;exact⟨hl.1,hl.2.1,hl.2.2.1,hl.2.2.2.1,by omega,gjZ h hl.2.2.2.2.2⟩
theorem okIno.wide{a b s s'}{i}{n}(h:okIno a s i n)(aa:a<=b)(hs:s<=s'):okIno b s' i n:=
 ⟨h.id,h.gen,λq=>by have:=h.par q;omega,λq1 q2=>by
  have:=h.dir q1 q2
  grind[gjZ],λq1 q2=>by
  have:=h.file q1 q2;exact⟨this.1,this.2.1,this.2.2.1,λp hp=>by
   rcases this.2.2.2 p hp with h5|h5
   ·exact .inl h5
   ·exact .inr (by omega)⟩,h.bare⟩
theorem RightP.pt{t}{l'}{st}(h:RightP t)(hl:t.1.length<=l'.length/\l'.length<=500)(aa:t.2<=st/\st<=1099511627776)
 (hi:∀(j) n',l'[j]? =some n'->t.1[j]? =some n'\/(okIno l'.length st j n'/\(n'.2.2.2.2.2.1=[]\/∃n,t.1[j]? =some n/\n'.2.2.2.2.2.1=n.2.2.2.2.2.1)/\(j=0->n'.2.2.1=true/\n'.2.2.2.1=true/\n'.2.2.2.2.2.2.1=1))):RightP (l',st):=by
 have ab:=h.len;have hs:=h.str;refine⟨⟨by grind,hl.2⟩,⟨by omega,aa.2⟩,λj n' hn=> ?_,h.nod.sublist (lPZ λj n' hn=> ?_),?_⟩
 ·rcases hi j n' hn with h1|h1
  ·exact(h.ino j n' h1).wide (by simp;omega) aa.1
  ·exact h1.1
 ·rcases hi j n' hn with h1|h1
  ·exact .inr ⟨n',h1,rfl⟩
  ·exact h1.2.1
 ·have h0:0<l'.length:=by omega
  refine⟨l'[0],ZAC h0,?_⟩;rcases hi 0 _ (ZAC h0) with h1|h1
  ·let⟨r,hr,h2⟩:=h.root
   rw[h1] at hr;cases hr;exact h2
  ·exact h1.2.2 rfl
def modL(l:List Ino)(i:Nat)(f:Ino->Ino):List Ino:=match l[i]? with|some n=>l.set i (f n)|none=>l
theorem bLZ{l}{i}{n}(f)(h:l[i]? =some n):modL l i f=l.set i (f n):=by simp_all[modL]
theorem aYZ(l)(i)(f):(modL l i f).length=l.length:=by
 grind[modL,ZAr]
theorem biZ(l)(i)(f)(j):(modL l i f)[j]? =if j=i then(l[j]?).map f else l[j]? :=by
 unfold modL
 grind
def takeL(l:List Ino)(d:Int)(s:List UInt8):List Ino:=modL l (d-1).toNat λn=>wE n (delE n.2.2.2.2.2.2.2 s)
def putL(l:List Ino)(d:Int)(s:List UInt8)(id:Int):List Ino:=modL l (d-1).toNat λn=>wE n (insE n.2.2.2.2.2.2.2 s id)
def parL(l:List Ino)(id p:Int):List Ino:=modL l (id-1).toNat λn=>wP n p
def dropL(l:List Ino)(id:Int):List Ino:=modL l (id-1).toNat λn=>emptied n id
theorem kMZ{s}(h:namedB s=true):1<=s.length/\s.length<=30:=by
 simp_all[namedB,ZAs]
theorem eWZ{aa st}{i}{n}(h:okIno aa st i n)(hu:n.2.2.1=true)(hd:n.2.2.2.1=true){l}(hl:l.length<=100)(hs:Srt l)(he:∀e∈l,1<=e.1.length/\e.1.length<=30/\1<=e.2/\e.2<=aa):okIno aa st i (wE n l):=by
 have ab:=h.dir hu hd;refine⟨h.id,h.gen,h.par,λ_ _=>⟨ab.1,ab.2.1,hl,fcZ hs λe h=>⟨kkZ (he e h).1,he e h⟩⟩,λ_ h2=> ?_,λh1=> ?_⟩
 ·have h2:n.2.2.2.1=false:=h2
  simp_all
 ·have h1:n.2.2.1=false:=h1
  simp_all
section
variable {t : Tree} {d : Int × Int} {n : Ino} {s : List UInt8}
theorem TreeOK.root_used(h:TreeOK t){r}(hr:t.1[0]? =some r):r.2.2.1=true/\r.2.2.2.1=true/\r.2.2.2.2.2.2.1=1:=by
 let⟨r',aa,h2⟩:=h.r.root<;>grind
theorem TreeOK.ents_ok(h:TreeOK t){i:Nat}(hn:t.1[i]? =some n):∀e∈n.2.2.2.2.2.2.2,1<=e.1.length/\e.1.length<=30/\1<=e.2/\e.2<=t.1.length:=λe he=>by
 have h1:=cBZ (ctZ (h.r.ino i n hn)).2 e he;omega
theorem eQZ(hn:IsD t.1 d n):((d.1-1).toNat:Int)+1=d.1:=by have:=hn.1.1;omega
theorem vnZ(h:TreeOK t)(hn:IsD t.1 d n){is}{l'}{i}{g}(hA:Alc t.1 is d.1 l' i g)(j):
 (putL l' d.1 s ((i:Int)+1))[j]? =if j=(d.1-1).toNat then some (wE n (insE n.2.2.2.2.2.2.2 s ((i:Int)+1))) else if j=i then some ((i:Int)+1,g,true,is,0,[],d.1,[]) else t.1[j]? :=by
 have aa:(d.1-1).toNat≠i:=λhc=>by
  have:=hA.was n (by rw[<-hc];exact hn.1.2.1);rw[hn.1.2.2.1] at this;grind
 unfold putL;rw[biZ];by_cases h1:j=(d.1-1).toNat
 ·rw[ZAN h1,ZAN h1,h1,hA.old _ aa,hn.1.2.1];rfl
 ·rw[ZAM h1,ZAM h1];by_cases h2:j=i
  ·rw[ZAN h2,h2,hA.new]
  ·rw[ZAM h2,hA.old _ h2]
theorem m6Z(h:TreeOK t)(hn:IsD t.1 d n)(hs:namedB s=true)(hh:hasN n.2.2.2.2.2.2.2 s=false)(hl:n.2.2.2.2.2.2.2.length<100){is}{l'}{i}{g}(hA:Alc t.1 is d.1 l' i g):
 TreeOK (putL l' d.1 s ((i:Int)+1),t.2):=by
 have hlen:=h.r.len;have hdi:=eQZ hn;have hq:=(ZAB.1 hn.1.2.1).1;have hat:=λj=>vnZ (s:=s) h hn hA j;have hlen':(putL l' d.1 s ((i:Int)+1)).length=l'.length:=aYZ ..;have hll:t.1.length<=l'.length/\i<l'.length:=by
  have:=hA.len;have:=hA.le;split at* <;>omega
 have hi0:i≠0:=λh0=>by
  obtain⟨r,hr,hu,_⟩:=h.r.root;have:=hA.was r (by rw[h0];exact hr)
  simp_all
 have hne:(d.1-1).toNat≠i:=λhc=>by
  have:=hA.was n (by rw[<-hc];exact hn.1.2.1);rw[hn.1.2.2.1] at this;grind
 have keep:∀j m,t.1[j]? =some m->m.2.2.1=true->∃m',(putL l' d.1 s ((i:Int)+1))[j]? =some m'/\m'.2.2.1=true/\m'.2.2.2.2.2.2.1=m.2.2.2.2.2.2.1/\∀s' id',(s',id')∈m'.2.2.2.2.2.2.2↔(j=(d.1-1).toNat/\s'=s/\id'=(i:Int)+1)\/(s',id')∈m.2.2.2.2.2.2.2:=by
  intro j m hm hu;have hji:j≠i:=λhc=>by
   have:=hA.was m (by rw[<-hc];exact hm)
   simp_all
  rw[hat];by_cases h1:j=(d.1-1).toNat
  ·rw[ZAN h1];have:m=n:=by rw[h1,hn.1.2.1] at hm;injection hm with hm;exact hm.symm
   subst this;refine⟨_,rfl,hu,rfl,λs' id'=> ?_⟩;show(s',id')∈insE _ _ _↔_
   simp_all[dEZ]
  ·simp_all
 have hnew:(putL l' d.1 s ((i:Int)+1))[i]? =some ((i:Int)+1,g,true,is,0,[],d.1,[]):=by
  rw[hat,iNo,ZAN rfl]
 refine⟨?_,λj m hm s' id' he=> ?_,λj x hx hu hj=> ?_,λj x hx hu=> ?_⟩
 ·refine h.r.pt ⟨by omega,by rw[hlen'];exact hA.few⟩ ⟨ZB0 _,h.r.str.2⟩ λj n' hj=> ?_;rw[hat] at hj;by_cases h1:j=(d.1-1).toNat
  ·rw[ZAN h1] at hj;cases hj;subst h1;right;have ho:=h.r.ino _ n hn.1.2.1;refine⟨eWZ (ho.wide (by omega) (ZB0 _)) hn.1.2.2.1 hn.2 (by rw[fJZ];omega) (fHZ _ (h.srt hn.1) hh) λe he=> ?_,.inr ⟨n,hn.1.2.1,rfl⟩,λh0=> ?_⟩
   ·rcases dEZ.1 he with rfl|he
    ·have:=kMZ hs;simp only;omega
    ·have:=h.ents_ok hn.1.2.1 e he;omega
   ·exact h.root_used (r:=n) (by rw[<-h0];exact hn.1.2.1)
  ·rw[ZAM h1] at hj;by_cases h2:j=i
   ·rw[ZAN h2] at hj;cases hj;subst h2;right;have hg:1<=g:=by
     have:=hA.gen;cases hx:t.1[j]? with
     |none=>have e:g=0+1:=by rw[hx] at this;exact this
            omega
     |some m=>have e:g=m.2.1+1:=by rw[hx] at this;exact this
              have:=(h.r.ino j m hx).gen;omega
    refine⟨⟨by simp,⟨hg,hA.top⟩,λ_=>(⟨hn.1.1,by omega⟩:1<=d.1/\d.1<=_),λ_ _=>⟨rfl,rfl,by simp,trivial⟩,λ_ _=>⟨by simp,rfl,by simp,λp hp=>by cases hp⟩,λh=>by cases h⟩,.inl rfl,λh0=>absurd h0 hi0⟩
   ·rw[ZAM h2] at hj;exact .inl hj
 ·have hm':=hm;simp only at hm';rw[hat] at hm';have old:∀m0,t.1[j]? =some m0->(s',id')∈m0.2.2.2.2.2.2.2->namedB s'=true/\id'≠1/\∃x,(putL l' d.1 s ((i:Int)+1))[(id'-1).toNat]? =some x/\x.2.2.1=true/\x.2.2.2.2.2.2.1=(j:Int)+1:=λm0 hm0 he0=>by
   obtain⟨h1,h2,x,h3,h4,h5⟩:=h.e j m0 hm0 s' id' he0;obtain⟨x',g1,g2,g3,_⟩:=keep _ x h3 h4;exact⟨h1,h2,x',g1,g2,by rw[g3,h5]⟩
  by_cases h1:j=(d.1-1).toNat
  ·rw[ZAN h1] at hm';cases hm';rcases dEZ.1 he with e1|he
   ·cases e1;exact⟨hs,by omega,_,by rw[show((i:Int)+1-1).toNat=i from by omega];exact hnew,rfl,by rw[h1,hdi]⟩
   ·exact old n (by rw[h1];exact hn.1.2.1) he
  ·rw[ZAM h1] at hm';by_cases h2:j=i
   ·rw[ZAN h2] at hm';cases hm';cases he
   ·rw[ZAM h2] at hm';exact old m hm' he
 ·simp only at hx⊢;by_cases h2:j=i
  ·subst h2;rw[hnew] at hx;cases hx;obtain⟨m',g1,g2,g3,g4⟩:=keep _ n hn.1.2.1 hn.1.2.2.1;refine⟨m',s,g1,(g4 _ _).2 (.inl ⟨rfl,rfl,rfl⟩),λs' hs'=> ?_⟩;rcases(g4 _ _).1 hs' with h1|h1
   ·exact h1.2.1
   ·obtain⟨_,_,x,h3,h4,_⟩:=h.e _ n hn.1.2.1 s' _ h1;rw[show((j:Int)+1-1).toNat=j from by omega] at h3;have:=hA.was x h3;rw[h4] at this;cases this
  ·obtain⟨x0,hx0,hxu,hxp⟩:∃x0,t.1[j]? =some x0/\x0.2.2.1=true/\x0.2.2.2.2.2.2.1=x.2.2.2.2.2.2.1:=by
    rw[hat] at hx;by_cases h1:j=(d.1-1).toNat
    ·rw[ZAN h1] at hx;cases hx;exact⟨n,by rw[h1];exact hn.1.2.1,hn.1.2.2.1,rfl⟩
    ·rw[ZAM h1,ZAM h2] at hx;exact⟨x,hx,hu,rfl⟩
   obtain⟨m,s0,h3,h4,h5⟩:=h.u j x0 hx0 hxu hj;have hmu:=(h.r.isdir h3 h4).1;obtain⟨m',g1,g2,g3,g4⟩:=keep _ m h3 hmu;rw[hxp] at g1;refine⟨m',s0,g1,(g4 _ _).2 (.inr h4),λs' hs'=> ?_⟩;rcases(g4 _ _).1 hs' with h1|h1
   ·omega
   ·exact h5 s' h1
 ·have go:∀id,Rch t.1 id->Rch (putL l' d.1 s ((i:Int)+1)) id:=λid hr=>by
   induction hr with
   |root=>exact .root
   |step hg hu _ ih=>
    obtain⟨m',g1,g2,g3,_⟩:=keep _ _ hg hu;exact .step g1 g2 (by rw[g3];exact ih)
  simp only at hx⊢;by_cases h2:j=i
  ·subst h2;rw[hnew] at hx;cases hx;refine .step (by rw[show((j:Int)+1-1).toNat=j from by omega];exact hnew) rfl (go _ ?_);have:=h.a _ n hn.1.2.1 hn.1.2.2.1;rw[hdi] at this;exact this
  ·rw[hat] at hx;by_cases h1:j=(d.1-1).toNat
   ·rw[h1];exact go _ (h.a _ n hn.1.2.1 hn.1.2.2.1)
   ·rw[ZAM h1,ZAM h2] at hx;exact go _ (h.a j x hx hu)
end
theorem b8Z{α β:Type}{x}{a}{f:α->Option β}(h:x=some a):x.bind f=f a:=by simp_all
def keptP(l:List Part):List Part:=l.filter λp=> !isGone p
theorem fEZ{l}{id}{x}(h1:1<=id)(hx:l[(id-1).toNat]? =some x)(b):isB l id b=(x.2.2.1&&x.2.2.2.1==b):=by
 simp_all[isB]
theorem puZ{rows}{ms}{ks}{st id}{x}(hF:FamE rows ms ks)(hr:RightP (ks,st))(h0:id≠1)(h1:1<=id)(hx:ks[(id-1).toNat]? =some x)(hu:x.2.2.1=true):
 iDrogo0R fuel st id rows ms=some (ks.set (id-1).toNat (emptied x id),(st,(keptP x.2.2.2.2.2.1,(0,(rows,ms.map frz1))))):=by
 have hfit:=hr.fit;have hlt:=(ZAB.1 hx).1;have hlen:ks.length<=500:=hr.len.2
 let⟨rowsP,mp,hc,hP⟩:=n0Z st hF hfit
 have hpl:=hP.len;unfold iDrogo0R Pa Pb Pc Pd Pe Pf Pg PC PF PG;rw[hc,ZAA];simp only;rw[jxZ];erw[b8Z (hF.pure10 (mp.map frz1))];rw[ecZ hr,ZAA];simp only[ZAO,ZAD,ZAW.2 h0];erw[b8Z (hF.pure10 (mp.map frz1))];rw[qzZ hfit,ZAA];simp only[fEZ h1 hx,hu,ZBQ]
 let⟨row,hrow,⟨y,hry⟩,_⟩:=hP.row hx
 let⟨mp',ho,hset⟩:=hP.open_none hrow hx
 have hxl:=(hfit.at hx).1;have hd:(bif !(x.2.2.2.1==true) then
  (unrefL (unrefD [⟨1,ETy,ms.map frz1⟩,⟨0,PTy,mp.map frz1⟩] TE) rows).bind λl2=>(inode_is fuel (l2,st) id false).bind λr3=>some (st,((!r3),(rows,((0:Int),(st,(rowsP,(mp,ms.map frz1)))))))
  else some (st,(false,(rows,((0:Int),(st,(rowsP,(mp,ms.map frz1))))))))=some (st,(false,(rows,((0:Int),(st,(rowsP,(mp,ms.map frz1))))))):=by
  cases hd:x.2.2.2.1 with
  |true=>rfl
  |false=>
   simp only[show(false==true)=false from rfl,ZAk,ZAK];erw[b8Z (hF.pure10 (mp.map frz1))];rw[qzZ hfit,fEZ h1 hx,hu,hd]
   rfl
 erw[hd];rw[ZAA];simp only[ZAD];rw[w6,azZ (by omega) (by omega),ZAA,hrow,ZAA];erw[ho];rw[ZAA];have hfin:∀(v:List Part),unrefL (unrefD [⟨1,ETy,ms.map frz1⟩,⟨0,PTy,mp'.map frz1⟩] TP) (rowsP.set (id-1).toNat (id,(row.2.1,(false,(false,(0,(.inr none,(0,[]))))))))=some (ks.set (id-1).toNat (emptied x id)):=λ_=>by
  refine FamP.pure10 _ (hset (id,(row.2.1,(false,(false,(0,(.inr none,(0,[]))))))) (emptied x id) ⟨.inr none,?_⟩ rfl rfl);rw[hry];rfl
 rcases qCZ hxl with hdp|hdp
 ·rw[hdp];simp only[ZAA,hrow];rw[jxZ];erw[b8Z (hfin [])]
  rfl
 ·rw[hdp];simp only[ZAA,hrow];rw[jxZ];erw[b8Z (hfin [])]
  rfl
theorem pmZ{l}{id}(h:Rch l id):∀x,l[(id-1).toNat]? =some x->x.2.2.2.2.2.2.1=id->id=1:=by
 induction h<;>grind
section
variable {t : Tree} {d : Int × Int} {n x : Ino} {s : List UInt8} {id : Int}
theorem pnZ{aa st}{i}{x}(h:okIno aa st i x)(id)(ab:id=(i:Int)+1):okIno aa st i (emptied x id):=
 ⟨ab,h.gen,(λh=>by cases h),(λh=>by cases h),(λh=>by cases h),λ_=>⟨rfl,rfl,rfl,rfl,rfl⟩⟩
theorem sVZ(he:(s,id)∈n.2.2.2.2.2.2.2)(hn:IsD t.1 d n)(hx:t.1[(id-1).toNat]? =some x)(aa:x.2.2.2.2.2.2.2=[]):(id-1).toNat≠(d.1-1).toNat:=λhc=>by
 have:=hn.1.2.1
 simp_all
theorem v2Z(hk:(id-1).toNat≠(d.1-1).toNat)(hn:IsD t.1 d n)(hx:t.1[(id-1).toNat]? =some x)(j):
 (dropL (takeL t.1 d.1 s) id)[j]? =if j=(id-1).toNat then some (emptied x id) else if j=(d.1-1).toNat then some (wE n (delE n.2.2.2.2.2.2.2 s)) else t.1[j]? :=by
 unfold dropL takeL;rw[biZ,biZ];by_cases h1:j=(id-1).toNat
 ·simp_all
 ·rw[ZAM h1,ZAM h1];by_cases h2:j=(d.1-1).toNat
  ·rw[ZAN h2,ZAN h2,h2,hn.1.2.1];rfl
  ·rw[ZAM h2,ZAM h2]
theorem iaZ(h:TreeOK t)(hn:IsD t.1 d n)(s):RightP (takeL t.1 d.1 s,t.2):=by
 have aa:(takeL t.1 d.1 s).length=t.1.length:=aYZ ..;have hl:=h.r.len;refine h.r.pt ⟨by omega,by omega⟩ ⟨ZB0 _,h.r.str.2⟩ λj n' hj=> ?_;unfold takeL at hj;rw[biZ] at hj;by_cases h1:j=(d.1-1).toNat
 ·rw[ZAN h1,h1,hn.1.2.1] at hj;cases hj;right;subst h1;have ho:=h.r.ino _ n hn.1.2.1;have ab:=h.few hn.1;have ac:(delE n.2.2.2.2.2.2.2 s).length<=n.2.2.2.2.2.2.2.length:=ZBg _ _;refine⟨eWZ (by rw[aa];exact ho) hn.1.2.2.1 hn.2 (by omega) (dAZ s (h.srt hn.1)) λe he=> ?_,.inr ⟨n,hn.1.2.1,rfl⟩,λh0=>h.root_used (r:=n) (by rw[<-h0];exact hn.1.2.1)⟩;have:=h.ents_ok hn.1.2.1 e (bBZ.1 he).1;omega
 grind
theorem mKZ(h:TreeOK t)(hn:IsD t.1 d n)(he:(s,id)∈n.2.2.2.2.2.2.2)(hx:t.1[(id-1).toNat]? =some x)(hxe:x.2.2.2.2.2.2.2=[]):TreeOK (dropL (takeL t.1 d.1 s) id,t.2):=by
 have hk:=sVZ he hn hx hxe;have hat:=λj=>v2Z (s:=s) hk hn hx j;have hdi:=eQZ hn
 let⟨hs,hid2,hidl,y,hy,hxu,hxp⟩:=h.ent hn he
 rw[hx] at hy;cases hy;have hid:(((id-1).toNat:Nat):Int)+1=id:=by omega
 have hlen:(dropL (takeL t.1 d.1 s) id).length=t.1.length:=(aYZ ..).trans (aYZ ..);have hl:=h.r.len;have only:∀(j) m s',t.1[j]? =some m->(s',id)∈m.2.2.2.2.2.2.2->j=(d.1-1).toNat/\s'=s:=λj m s' hm hs'=>by
  let⟨_,_,z,h3,_,h5⟩:=h.e j m hm s' id hs'
  rw[hx] at h3;cases h3;have hj:j=(d.1-1).toNat:=by omega
  subst hj
  let⟨m2,s2,g1,g2,g3⟩:=h.u _ x hx hxu (by omega)
  rw[hxp,hn.1.2.1] at g1;cases g1;rw[hn.1.2.1] at hm;cases hm;rw[hid] at g3;exact⟨rfl,(g3 s' hs').trans (g3 s he).symm⟩
 have keep:∀j m,t.1[j]? =some m->j≠(id-1).toNat->∃m',(dropL (takeL t.1 d.1 s) id)[j]? =some m'/\m'.2.2.1=m.2.2.1/\m'.2.2.2.2.2.2.1=m.2.2.2.2.2.2.1/\∀s' id',(s',id')∈m'.2.2.2.2.2.2.2↔((s',id')∈m.2.2.2.2.2.2.2/\¬(j=(d.1-1).toNat/\s'=s)):=by
  intro j m hm hjk;rw[hat,ZAM hjk];by_cases h1:j=(d.1-1).toNat
  ·rw[ZAN h1];have:m=n:=by rw[h1,hn.1.2.1] at hm;injection hm with hm;exact hm.symm
   subst this;refine⟨_,rfl,rfl,rfl,λs' id'=> ?_⟩;show(s',id')∈delE _ _↔_;rw[bBZ];simp[h1]
  ·rw[ZAM h1];exact⟨m,hm,rfl,rfl,λs' id'=>⟨λhh=>⟨hh,λhc=>h1 hc.1⟩,λhh=>hh.1⟩⟩
 have back:∀j m',(dropL (takeL t.1 d.1 s) id)[j]? =some m'->j≠(id-1).toNat->∃m,t.1[j]? =some m:=λj m' hj hjk=>by
  have:=(ZAB.1 hj).1;exact⟨_,gEo⟩
 have hdead:(dropL (takeL t.1 d.1 s) id)[(id-1).toNat]? =some (emptied x id):=by rw[hat,ZAN rfl]
 refine⟨?_,λj m hm s' id' he'=> ?_,λj z hz hu hj=> ?_,λj z hz hu=> ?_⟩
 ·refine h.r.pt ⟨by omega,by omega⟩ ⟨ZB0 _,h.r.str.2⟩ λj n' hj=> ?_;rw[hlen];rw[hat] at hj;by_cases h1:j=(id-1).toNat
  ·rw[ZAN h1] at hj;cases hj;subst h1;exact .inr ⟨pnZ (h.r.ino _ x hx) id hid.symm,.inl rfl,λh0=>by omega⟩
  ·rw[ZAM h1] at hj;by_cases h2:j=(d.1-1).toNat
   ·rw[ZAN h2] at hj;cases hj;right;subst h2;have ho:=h.r.ino _ n hn.1.2.1;have hfew:=h.few hn.1;have hle:(delE n.2.2.2.2.2.2.2 s).length<=n.2.2.2.2.2.2.2.length:=ZBg _ _;refine⟨eWZ ho hn.1.2.2.1 hn.2 (by omega) (dAZ s (h.srt hn.1)) λe he=> ?_,.inr ⟨n,hn.1.2.1,rfl⟩,λh0=>h.root_used (r:=n) (by rw[<-h0];exact hn.1.2.1)⟩;exact h.ents_ok hn.1.2.1 e (bBZ.1 he).1
   ·rw[ZAM h2] at hj;exact .inl hj
 ·simp only at hm⊢;have hjk:j≠(id-1).toNat:=λhc=>by
   rw[hc,hdead] at hm;cases hm;cases he'
  let⟨m0,hm0⟩:=back j m hm hjk
  let⟨m',g1,g2,g3,g4⟩:=keep j m0 hm0 hjk
  rw[g1] at hm;cases hm
  let⟨q1,q2⟩:=(g4 _ _).1 he'
  let⟨h1,h2,w,h3,h4,h5⟩:=h.e j m0 hm0 s' id' q1
  have hne:(id'-1).toNat≠(id-1).toNat:=λhc=>by
   have:=h.r.entid hm0 q1;have:id'=id:=by omega
   subst this;exact q2 (only j m0 s' hm0 q1)
  let⟨w',e1,e2,e3,_⟩:=keep _ w h3 hne
  exact⟨h1,h2,w',e1,by rw[e2,h4],by rw[e3,h5]⟩
 ·simp only at hz⊢;have hjk:j≠(id-1).toNat:=λhc=>by
   rw[hc,hdead] at hz;cases hz;cases hu
  let⟨z0,hz0⟩:=back j z hz hjk
  let⟨z',g1,g2,g3,g4⟩:=keep j z0 hz0 hjk
  rw[g1] at hz;cases hz
  let⟨m,s0,h3,h4,h5⟩:=h.u j z0 hz0 (by rw[<-g2];exact hu) hj
  have hpk:(z0.2.2.2.2.2.2.1-1).toNat≠(id-1).toNat:=λhc=>by
   rw[hc,hx] at h3;cases h3;rw[hxe] at h4;cases h4
  let⟨m',e1,e2,e3,e4⟩:=keep _ m h3 hpk
  rw[<-g3] at e1;refine⟨m',s0,e1,(e4 _ _).2 ⟨h4,λhc=> ?_⟩,λs' hs'=>h5 s' ((e4 _ _).1 hs').1⟩;rw[hc.1,hn.1.2.1] at h3;cases h3;rw[hc.2] at h4;have:=d8Z (h.srt hn.1) h4 he;omega
 ·have go:∀i,Rch t.1 i->1<=i->i≠id->Rch (dropL (takeL t.1 d.1 s) id) i:=λi hr=>by
   induction hr with
   |root=>intro _ _;exact .root
   | @step i w hg hu _ ih=>
     intro h1 h2;by_cases hi1:i=1
     ·rw[hi1];exact .root
     have hik:(i-1).toNat≠(id-1).toNat:=by omega
     let⟨m',g1,g2,g3,_⟩:=keep _ w hg hik
     refine .step g1 (by rw[g2];exact hu) ?_;rw[g3];refine ih ((h.r.ino _ w hg).par hu).1 λhp=> ?_
     let⟨m,s0,h3,h4,_⟩:=h.u _ w hg hu (by omega)
     rw[hp,hx] at h3;cases h3;rw[hxe] at h4;cases h4
  simp only at hz⊢;have hjk:j≠(id-1).toNat:=λhc=>by
   rw[hc,hdead] at hz;cases hz;cases hu
  let⟨z0,hz0⟩:=back j z hz hjk
  let⟨z',g1,g2,g3,g4⟩:=keep j z0 hz0 hjk
  rw[g1] at hz;cases hz;exact go _ (h.a j z0 hz0 (by rw[<-g2];exact hu)) (by omega) (by omega)
end
inductive Anc (l:List Ino) (top:Int):Int->Prop
 |refl:Anc l top top
 |step {id:Int} {x:Ino}:id≠1->l[(id-1).toNat]? =some x->x.2.2.1=true->Anc l top x.2.2.2.2.2.2.1->Anc l top id
section
variable {t : Tree} {a b : Int × Int} {na nb x : Ino} {old name : List UInt8} {id : Int}
def mvL(l:List Ino)(a:Int)(ab:List UInt8)(b:Int)(aa:List UInt8)(id:Int):List Ino:=parL (putL (takeL l a ab) b aa id) id b
structure MvOk (t:Tree) (a:Int×Int) (old:List UInt8) (b:Int×Int) (name:List UInt8) (id:Int) (na nb x:Ino):Prop where
 da:IsD t.1 a na
 db:IsD t.1 b nb
 ea:(old,id)∈na.2.2.2.2.2.2.2
 x:t.1[(id-1).toNat]? =some x
 nm:namedB name=true
 no:hasN nb.2.2.2.2.2.2.2 name=false
 few:a.1≠b.1->nb.2.2.2.2.2.2.2.length<100
 anc:¬Anc t.1 id b.1
theorem MvOk.ne(h:TreeOK t)(m:MvOk t a old b name id na nb x):(id-1).toNat≠(a.1-1).toNat/\(id-1).toNat≠(b.1-1).toNat/\2<=id/\id<=t.1.length/\x.2.2.1=true/\x.2.2.2.2.2.2.1=a.1:=by
 let⟨hs,aa,ab,y,hy,ac,ad⟩:=h.ent m.da m.ea
 rw[m.x] at hy;cases hy;refine⟨λhc=> ?_,λhc=> ?_,aa,ab,ac,ad⟩
 ·have hr:=h.a _ x m.x ac;rw[show(((id-1).toNat:Nat):Int)+1=id from by omega] at hr;have:=pmZ hr x m.x (by omega);omega
 ·have:id=b.1:=by omega
  exact m.anc (by rw[this];exact .refl)
theorem htZ(h:TreeOK t)(m:MvOk t a old b name id na nb x){j}{y}(hy:t.1[j]? =some y):
 ∃y',(mvL t.1 a.1 old b.1 name id)[j]? =some y'/\(y'.1=y.1/\y'.2.1=y.2.1/\y'.2.2.1=y.2.2.1/\y'.2.2.2.1=y.2.2.2.1/\y'.2.2.2.2.1=y.2.2.2.2.1/\y'.2.2.2.2.2.1=y.2.2.2.2.2.1)/\
  y'.2.2.2.2.2.2.1=(if j=(id-1).toNat then b.1 else y.2.2.2.2.2.2.1)/\Srt y'.2.2.2.2.2.2.2/\y'.2.2.2.2.2.2.2.length<=100/\(j≠(a.1-1).toNat->j≠(b.1-1).toNat->y'.2.2.2.2.2.2.2=y.2.2.2.2.2.2.2)/\
  ∀s' ab,(s',ab)∈y'.2.2.2.2.2.2.2↔(j=(b.1-1).toNat/\s'=name/\ab=id)\/((s',ab)∈y.2.2.2.2.2.2.2/\¬(j=(a.1-1).toNat/\s'=old)):=by
 let⟨k1,k2,ah,ai,ak,al⟩:=m.ne h
 have ha:=m.da.1.1;have hb:=m.db.1.1;have am:=h.few m.da.1;have an:=h.few m.db.1;have aj:=nrZ (h.srt m.da.1) m.ea;unfold mvL parL putL takeL;rw[biZ,biZ,biZ];have ad:=(ctZ (h.r.ino _ _ hy)).1;by_cases hk:j=(id-1).toNat
 ·rw[ZAN hk,iNo,iNo,hy];rw[hk,m.x] at hy;cases hy;refine⟨_,rfl,⟨rfl,rfl,rfl,rfl,rfl,rfl⟩,by rw[ZAN hk];rfl,(h.r.srt (n:=x) m.x),ad,λ_ _=>rfl,λs' ab=> ?_⟩;constructor
  ·intro h';exact .inr ⟨h',λhc=>k1 (by omega)⟩
  ·rintro(h'|h')
   ·omega
   ·exact h'.1
 ·rw[ZAM hk];by_cases ac:j=(b.1-1).toNat
  ·have af:y=nb:=by rw[ac,m.db.1.2.1] at hy;injection hy with hy;exact hy.symm
   subst af;rw[ZAN ac];by_cases aa:j=(a.1-1).toNat
   ·have ae:y=na:=by rw[aa,m.da.1.2.1] at hy;injection hy with hy;exact hy.symm
    subst ae;rw[ZAN aa,hy];have ag:hasN (delE y.2.2.2.2.2.2.2 old) name=false:=by
     cases hh:hasN (delE y.2.2.2.2.2.2.2 old) name with
     |false=>rfl
     |true=>
      let⟨i,hi⟩:=aCZ.1 hh
      rw[<-m.no];exact(aCZ.2 ⟨i,(bBZ.1 hi).1⟩).symm
    refine⟨_,rfl,⟨rfl,rfl,rfl,rfl,rfl,rfl⟩,by rw[ZAM hk];rfl,fHZ _ (dAZ old (h.srt m.da.1)) ag,?_,λhc _=>absurd aa hc,λs' ab=> ?_⟩
    ·show(insE (delE _ _) _ _).length<=100;rw[fJZ];omega
    ·show(s',ab)∈insE (delE _ _) _ _↔_;rw[dEZ,bBZ];constructor
     ·rintro(h'|h')
      ·cases h';exact .inl ⟨ac,rfl,rfl⟩
      ·exact .inr ⟨h'.1,λhc=>h'.2 hc.2⟩
     ·rintro(h'|h')
      ·rw[h'.2.1,h'.2.2];exact .inl rfl
      ·exact .inr ⟨h'.1,λhc=>h'.2 ⟨aa,hc⟩⟩
   ·rw[ZAM aa,hy];refine⟨_,rfl,⟨rfl,rfl,rfl,rfl,rfl,rfl⟩,by rw[ZAM hk];rfl,fHZ _ (h.srt m.db.1) m.no,?_,λ_ hc=>absurd ac hc,λs' ab=> ?_⟩
    ·show(insE _ _ _).length<=100;rw[fJZ];have:=m.few (by omega);omega
    ·show(s',ab)∈insE _ _ _↔_;rw[dEZ];constructor
     ·rintro(h'|h')
      ·cases h';exact .inl ⟨ac,rfl,rfl⟩
      ·exact .inr ⟨h',λhc=>aa hc.1⟩
     ·rintro(h'|h')
      ·rw[h'.2.1,h'.2.2];exact .inl rfl
      ·exact .inr h'.1
  ·rw[ZAM ac];by_cases aa:j=(a.1-1).toNat
   ·have ae:y=na:=by rw[aa,m.da.1.2.1] at hy;injection hy with hy;exact hy.symm
    subst ae;rw[ZAN aa,hy];refine⟨_,rfl,⟨rfl,rfl,rfl,rfl,rfl,rfl⟩,by rw[ZAM hk];rfl,dAZ old (h.srt m.da.1),?_,λhc _=>absurd aa hc,λs' ab=> ?_⟩
    ·show(delE _ _).length<=100;omega
    ·show(s',ab)∈delE _ _↔_;rw[bBZ];constructor
     ·intro h';exact .inr ⟨h'.1,λhc=>h'.2 hc.2⟩
     ·rintro(h'|h')
      ·exact absurd h'.1 ac
      ·exact⟨h'.1,λhc=>h'.2 ⟨aa,hc⟩⟩
   ·rw[ZAM aa,hy];refine⟨_,rfl,⟨rfl,rfl,rfl,rfl,rfl,rfl⟩,by rw[ZAM hk],h.r.srt hy,ad,λ_ _=>rfl,λs' ab=> ?_⟩;constructor
    ·intro h';exact .inr ⟨h',λhc=>aa hc.1⟩
    ·rintro(h'|h')
     ·exact absurd h'.1 ac
     ·exact h'.1
theorem vGZ(l)(a)(old)(b)(name)(id):(mvL l a old b name id).length=l.length:=(aYZ ..).trans ((aYZ ..).trans (aYZ ..))
theorem niZ(h:TreeOK t)(m:MvOk t a old b name id na nb x):TreeOK (mvL t.1 a.1 old b.1 name id,t.2):=by
 let⟨k1,k2,hid2,hidl,hxu,hxp⟩:=m.ne h
 have ha:=m.da.1.1;have hb:=m.db.1.1;have hlen:=vGZ t.1 a.1 old b.1 name id;have hl:=h.r.len;have hid:(((id-1).toNat:Nat):Int)+1=id:=by omega
 have hdb:=eQZ m.db;have hda:=eQZ m.da;have back:∀j m',(mvL t.1 a.1 old b.1 name id)[j]? =some m'->∃y,t.1[j]? =some y:=λj m' hj=>by
  have:=(ZAB.1 hj).1;exact⟨_,gEo⟩
 have only:∀(j) y s',t.1[j]? =some y->(s',id)∈y.2.2.2.2.2.2.2->j=(a.1-1).toNat/\s'=old:=λj y s' hy hs'=>by
  let⟨_,_,z,h3,_,h5⟩:=h.e j y hy s' id hs'
  rw[m.x] at h3;cases h3;have hj:j=(a.1-1).toNat:=by omega
  subst hj
  let⟨m2,s2,g1,g2,g3⟩:=h.u _ x m.x hxu (by omega)
  rw[hxp,m.da.1.2.1] at g1;cases g1;rw[m.da.1.2.1] at hy;cases hy;rw[hid] at g3;exact⟨rfl,(g3 s' hs').trans (g3 old m.ea).symm⟩
 refine⟨?_,λj y' hy' s' id' he'=> ?_,λj z hz hu hj=> ?_,λj z hz hu=> ?_⟩
 ·refine h.r.pt ⟨by omega,by omega⟩ ⟨ZB0 _,h.r.str.2⟩ λj y' hj=> ?_;rw[hlen]
  let⟨y,hy⟩:=back j y' hj
  let⟨y2,g1,⟨q1,q2,q3,q4,q5,q6⟩,g3,g4,g5,g6,g7⟩:=htZ h m hy
  rw[g1] at hj;cases hj;right;have ho:=h.r.ino j y hy;have hpar:y'.2.2.1=true->1<=y'.2.2.2.2.2.2.1/\y'.2.2.2.2.2.2.1<=(t.1.length:Int):=λhu=>by
   rw[g3];have hbl:=(ZAB.1 m.db.1.2.1).1;split
   ·omega
   ·exact ho.par (by grind)
  have ekeep:y.2.2.1=false\/y.2.2.2.1=false->y'.2.2.2.2.2.2.2=y.2.2.2.2.2.2.2:=λhc=>g6 (λhja=>by
   rw[hja,m.da.1.2.1] at hy;cases hy;rcases hc with hc|hc
   ·rw[m.da.1.2.2.1] at hc;cases hc
   ·rw[m.da.2] at hc;cases hc) (λhjb=>by
   rw[hjb,m.db.1.2.1] at hy;cases hy;rcases hc with hc|hc
   ·rw[m.db.1.2.2.1] at hc;cases hc
   ·rw[m.db.2] at hc;cases hc)
  refine⟨⟨by rw[q1];exact ho.id,by rw[q2];exact ho.gen,hpar,λhu hd=> ?_,λhu hd=> ?_,λhu=> ?_⟩,.inr ⟨y,hy,q6⟩,λh0=> ?_⟩
  ·have:=ho.dir (by rw[<-q3];exact hu) (by rw[<-q4];exact hd);refine⟨by rw[q5];exact this.1,by rw[q6];exact this.2.1,g5,fcZ g4 λe he=> ?_⟩;have hen:1<=e.1.length/\e.1.length<=30/\1<=e.2/\e.2<=(t.1.length:Int):=by
    rcases(g7 e.1 e.2).1 he with h'|h'
    ·have:=kMZ m.nm;rw[h'.2.1,h'.2.2];omega
    ·exact h.ents_ok hy e h'.1
   exact⟨kkZ hen.1,hen⟩
  ·have:=ho.file (by rw[<-q3];exact hu) (by rw[<-q4];exact hd);rw[q5,q6,ekeep (.inr (by rw[<-q4];exact hd))];exact this
  ·have:=ho.bare (by rw[<-q3];exact hu);rw[q4,q5,q6,ekeep (.inl (by rw[<-q3];exact hu)),g3,ZAM]
   ·exact this
   ·intro hc;rw[hc,m.x] at hy;cases hy;rw[q3,hxu] at hu;cases hu
  ·rw[q3,q4,g3,iNo];rw[h0] at hy;exact h.root_used hy
 ·simp only at hy'⊢
  let⟨y,hy⟩:=back j y' hy'
  let⟨y2,g1,⟨q1,q2,q3,q4,q5,q6⟩,g3,g4,g5,g6,g7⟩:=htZ h m hy
  rw[g1] at hy';cases hy';rcases(g7 s' id').1 he' with h'|h'
  ·let⟨x',e1,⟨_,_,e2,_⟩,e3,_⟩:=htZ h m m.x
   rw[h'.2.1,h'.2.2];exact⟨m.nm,by omega,x',e1,by rw[e2];exact hxu,by rw[e3,ZAN rfl];omega⟩
  ·let⟨h1,h2,w,h3,h4,h5⟩:=h.e j y hy s' id' h'.1
   let⟨w',e1,⟨_,_,e2,_⟩,e3,_⟩:=htZ h m h3
   refine⟨h1,h2,w',e1,by rw[e2];exact h4,?_⟩;rw[e3,ZAM,h5];intro hc;have:=h.r.entid hy h'.1;have:id'=id:=by omega
   subst this;exact h'.2 (only j y s' hy h'.1)
 ·simp only at hz⊢
  let⟨z0,hz0⟩:=back j z hz
  let⟨z2,g1,⟨q1,q2,q3,q4,q5,q6⟩,g3,g4,g5,g6,g7⟩:=htZ h m hz0
  rw[g1] at hz;cases hz;rw[g3];by_cases hjk:j=(id-1).toNat
  ·rw[ZAN hjk]
   let⟨b',e1,_,_,_,_,_,e7⟩:=htZ h m m.db.1.2.1
   refine⟨b',name,e1,(e7 _ _).2 (.inl ⟨rfl,rfl,by omega⟩),λs' hs'=> ?_⟩;rcases(e7 _ _).1 hs' with h'|h'
   ·exact h'.2.1
   ·have h'':=h'.1;rw[show(j:Int)+1=id from by omega] at h'';exact absurd (only _ nb s' m.db.1.2.1 h'') h'.2
  ·rw[ZAM hjk]
   let⟨p,s0,h3,h4,h5⟩:=h.u j z0 hz0 (by rw[<-q3];exact hu) hj
   let⟨p',e1,_,_,_,_,_,e7⟩:=htZ h m h3
   refine⟨p',s0,e1,(e7 _ _).2 (.inr ⟨h4,λhc=> ?_⟩),λs' hs'=> ?_⟩
   ·rw[hc.1,m.da.1.2.1] at h3;cases h3;rw[hc.2] at h4;have:=d8Z (h.srt m.da.1) h4 m.ea;omega
   ·rcases(e7 _ _).1 hs' with h'|h'
    ·omega
    ·exact h5 s' h'.1
 ·have up:∀i,Rch t.1 i->1<=i->¬Anc t.1 id i->Rch (mvL t.1 a.1 old b.1 name id) i:=λi hr=>by
   induction hr with
   |root=>intro _ _;exact .root
   | @step i w hg hu _ ih=>
     intro h1 h2;by_cases hi1:i=1
     ·rw[hi1];exact .root
     have hne:i≠id:=λhc=>h2 (by rw[hc];exact .refl)
     let⟨w',e1,⟨_,_,e2,_⟩,e3,_⟩:=htZ h m hg
     refine .step e1 (by rw[e2];exact hu) ?_;rw[e3,iNo];exact ih ((h.r.ino _ w hg).par hu).1 λhc=>h2 (.step hi1 hg hu hc)
  have rb:=up _ (by have:=h.a _ nb m.db.1.2.1 m.db.1.2.2.1;rw[hdb] at this;exact this) hb m.anc;have go:∀i,Rch t.1 i->1<=i->Rch (mvL t.1 a.1 old b.1 name id) i:=λi hr=>by
   induction hr with
   |root=>intro _;exact .root
   | @step i w hg hu _ ih=>
     intro h1
     let⟨w',e1,⟨_,_,e2,_⟩,e3,_⟩:=htZ h m hg
     refine .step e1 (by rw[e2];exact hu) ?_;rw[e3];split
     ·exact rb
     ·exact ih ((h.r.ino _ w hg).par hu).1
  simp only at hz⊢
  let⟨z0,hz0⟩:=back j z hz
  let⟨z2,g1,⟨q1,q2,q3,q4,q5,q6⟩,_⟩:=htZ h m hz0
  rw[g1] at hz;cases hz;exact go _ (h.a j z0 hz0 (by rw[<-q3];exact hu)) (by omega)
end
theorem oZZ{rows}{ms}{ks}{st id}{x}(hF:FamE rows ms ks)(hr:RightP (ks,st))(h0:id≠1)(h1:1<=id)(hx:ks[(id-1).toNat]? =some x)(hu:x.2.2.1=true):
 ∃rows2 mp me,iDro2go0R fuel st id rows ms=some (st,(keptP x.2.2.2.2.2.1,(0,(rows,(rows2,(mp,(ms.map frz1,me)))))))/\Fam2p rows2 mp (ks.set (id-1).toNat (emptied x id))/\Fam2e rows2 me (ks.set (id-1).toNat (emptied x id)):=by
 have hfit:=hr.fit;have hlt:=(ZAB.1 hx).1;have hlen:ks.length<=500:=hr.len.2
 let⟨rows2,mp,me,hc,hP,hE⟩:=otZ st hF hfit
 have hpl:=hP.len
 let⟨row,hrow,⟨y,z,hry⟩,_⟩:=hP.row hx
 let⟨mp',ho,hset⟩:=hP.open_none hrow hx
 refine⟨rows2.set (id-1).toNat (id,(row.2.1,(false,(false,(0,(.inr none,(0,.inr none))))))),mp',me,?_,?_,?_⟩
 rotate_left
 ·refine hset (id,(row.2.1,(false,(false,(0,(.inr none,(0,.inr none))))))) (emptied x id) ⟨.inr none,.inr none,?_⟩ rfl rfl;rw[hry];rfl
 ·refine hE.clear ⟨.inr none,.inr none,?_⟩ rfl rfl;rw[hry];rfl
 unfold iDro2go0R Pa Pb Pc Pd Pe Pf PD PF;rw[hc,ZAA];simp only;rw[jxZ];erw[b8Z (hF.pure210 (me.map frz1) (mp.map frz1))];rw[ecZ hr,ZAA];simp only[ZAW.2 h0];erw[b8Z (hF.pure210 (me.map frz1) (mp.map frz1))];rw[qzZ hfit];simp only[fEZ h1 hx,hu];have hxl:=(hfit.at hx).1;have hd:(bif !(x.2.2.2.1==true) then
  (unrefL (unrefD [⟨2,ETy,me.map frz1⟩,⟨1,ETy,ms.map frz1⟩,⟨0,PTy,mp.map frz1⟩] TE) rows).bind λl2=>(inode_is fuel (l2,st) id false).bind λr3=>some (st,((!r3),(rows,((0:Int),(st,(rows2,(mp,(ms.map frz1,me))))))))
  else some (st,(false,(rows,((0:Int),(st,(rows2,(mp,(ms.map frz1,me)))))))))=some (st,(false,(rows,((0:Int),(st,(rows2,(mp,(ms.map frz1,me)))))))):=by
  cases hd:x.2.2.2.1 with
  |true=>rfl
  |false=>
   simp[ZAK];erw[b8Z (hF.pure210 (me.map frz1) (mp.map frz1))];rw[qzZ hfit,fEZ h1 hx,hu,hd]
   rfl
 erw[hd];rw[ZAA];simp only;rw[w6,azZ (by omega) (by omega),ZAA,hrow,ZAA];erw[ho];rw[ZAA];rcases qCZ hxl with hdp|hdp
 ·rw[hdp];simp only[ZAA,hrow]
  rfl
 ·rw[hdp];simp only[ZAA,hrow]
  rfl
def misE(aa:Bool)(n:Ino):Int:=if aa=true/\n.2.2.2.1=false then 173 else if aa=false/\n.2.2.2.1=true then 174 else if n.2.2.2.2.2.2.2=[] then 0 else 175
theorem ejZ(dir)(n:Ino):tmis fuel dir n=some (misE dir n):=by
 unfold tmis misE;have hl:∀l:List Ent,(bif decide (0<l.length) then some (175:Int) else some 0)=some (if l=[] then 0 else 175):=λl=>by
  cases l with
  |nil=>rfl
  |cons a l=>simp
 grind
section
variable {t : Tree} {d : Int × Int} {n x : Ino} {s : List UInt8} {id : Int}
theorem dzZ(hn:IsD t.1 d n)(s):takeL t.1 d.1 s=t.1.set (d.1-1).toNat (wE n (delE n.2.2.2.2.2.2.2 s)):=bLZ _ hn.1.2.1
theorem oWZ(h:TreeOK t)(hn:IsD t.1 d n)(he:(s,id)∈n.2.2.2.2.2.2.2)(hx:t.1[(id-1).toNat]? =some x)(ab:x.2.2.2.2.2.2.2=[]):
 twit fuel t d.1 s id=some (dropL (takeL t.1 d.1 s) id,(t.2,(keptP x.2.2.2.2.2.1,0))):=by
 let⟨hs,af,ag,y,hy,ac,ah⟩:=h.ent hn he
 rw[hx] at hy;cases hy;have hk:=sVZ he hn hx ab;have hl:=h.r.len
 let⟨rows,ms,hc,hF⟩:=b6Z h.r.fit
 let⟨ad,ai,ht,ae⟩:=dYZ t.2 s hF (by omega) hn.1.1 hn.1.2.1 (by have:=h.few hn.1;omega)
 have hr:=iaZ h hn s;rw[dzZ hn] at hr⊢;have aa:(t.1.set (d.1-1).toNat (wE n (delE n.2.2.2.2.2.2.2 s)))[(id-1).toNat]? =some x:=by rw[ZAa (by omega)];exact hx
 unfold twit;rw[hc,ZAA];rw[ht,ZAA];rw[puZ ae hr (by omega) (by omega) aa ac,ZAA];unfold dropL;rw[bLZ _ aa]
theorem lIZ(h:TreeOK t)(hn:IsD t.1 d n)(he:(s,id)∈n.2.2.2.2.2.2.2)(hx:t.1[(id-1).toNat]? =some x)(ac:x.2.2.2.2.2.2.2=[]):
 ∃aa mp me,twit2 fuel t d.1 s id=some (t.2,(keptP x.2.2.2.2.2.1,(0,(aa,(mp,me)))))/\Fam2p aa mp (dropL (takeL t.1 d.1 s) id)/\Fam2e aa me (dropL (takeL t.1 d.1 s) id):=by
 let⟨hs,ag,ah,y,hy,ad,ai⟩:=h.ent hn he
 rw[hx] at hy;cases hy;have hk:=sVZ he hn hx ac;have hl:=h.r.len
 let⟨rows,ms,hc,hF⟩:=b6Z h.r.fit
 let⟨ae,aj,ht,af⟩:=dYZ t.2 s hF (by omega) hn.1.1 hn.1.2.1 (by have:=h.few hn.1;omega)
 have hr:=iaZ h hn s;rw[dzZ hn] at hr⊢;have ab:(t.1.set (d.1-1).toNat (wE n (delE n.2.2.2.2.2.2.2 s)))[(id-1).toNat]? =some x:=by rw[ZAa (by omega)];exact hx
 let⟨aa,mp,me,hd,hP,hE⟩:=oZZ af hr (by omega) (by omega) ab ad
 unfold dropL;rw[bLZ _ ab];refine⟨aa,mp,me,?_,hP,hE⟩;unfold twit2;rw[hc,ZAA];rw[ht,ZAA];simp;rw[hd,ZAA]
theorem nAZ(h:TreeOK t)(s)(is)(hb:dirE t.1 d≠0):tRem fuel t d s is=some (t.1,(t.2,([],dirE t.1 d))):=by
 unfold tRem;rw[dyZ h hb,ZAA];simp[ZAW.2 hb,ZAK];rw[aGZ h.r.fit,ZAA]
theorem mrZ(h:TreeOK t)(is)(hn:IsD t.1 d n)(hs:namedB s=false):tRem fuel t d s is=some (t.1,(t.2,([],176))):=by
 unfold tRem;rw[aHZ h hn,ZAA];rw[a2Z,ZAA,hs];simp[ZAK];rw[aGZ h.r.fit,ZAA]
theorem lfZ(h:TreeOK t)(is)(hn:IsD t.1 d n)(hs:namedB s=true)(hh:hasN n.2.2.2.2.2.2.2 s=false):tRem fuel t d s is=some (t.1,(t.2,([],171))):=by
 unfold tRem;rw[aHZ h hn,ZAA];rw[a2Z,ZAA,hs];rw[show idx? 0 [n].length=some 0 from rfl,ZAA,show[n][0]? =some n from rfl,ZAA,h.ent_ok hn,ZAA,hh];simp[ZAK];rw[aGZ h.r.fit,ZAA]
theorem l1Z(h:TreeOK t)(is)(hn:IsD t.1 d n)(he:(s,id)∈n.2.2.2.2.2.2.2)(hx:t.1[(id-1).toNat]? =some x):
 tRem fuel t d s is=if misE is x=0 then some (dropL (takeL t.1 d.1 s) id,(t.2,(keptP x.2.2.2.2.2.1,0))) else some (t.1,(t.2,([],misE is x))):=by
 let⟨h1,h2,h3,y,h4,h5,h6⟩:=h.ent hn he
 have ac:=h.r.len;have hp:=dqZ (h.srt hn.1) he;have aa:=(ZAB.1 hp).1;unfold tRem;rw[aHZ h hn,ZAA];simp only[ZAb,ZAD];rw[a2Z,ZAA,h1];simp only[ZAO];rw[show idx? 0 [n].length=some 0 from rfl,ZAA,show[n][0]? =some n from rfl,ZAA,h.ent_ok hn,aCZ.2 ⟨id,he⟩];simp only[ZAO,ZAD,ZAA];rw[show[n][0]? =some n from rfl,ZAA,adZ aa,ZAA,hp,ZAA,w6,azZ (by omega) (by omega),ZAA,hx,ZAA,ejZ,ZAA];by_cases hm:misE is x=0
 ·rw[ZAN hm,show(misE is x==0)=true from by simp[hm]];simp only[ZAO,ZAD];have ab:x.2.2.2.2.2.2.2=[]:=by
   unfold misE at hm;split at hm
   ·cases hm
   ·split at hm
    ·cases hm
    ·split at hm
     ·assumption
     ·cases hm
  rw[oWZ h hn he hx ab,ZAA]
 ·rw[ZAM hm,ZAW.2 hm];simp only[ZAk,ZAK];rw[aGZ h.r.fit,ZAA]
theorem dLZ(h:TreeOK t){b}{m}(hb:IsD t.1 b m)(top):∃r,tbel fuel t b.1 top=some r/\(r=true↔Anc t.1 top b.1):=by
 have ab:=h.r.len;have ah:=(ZAB.1 hb.1.2.1).1;have ae:=eQZ hb;have ac:=hb.1.1;have af:=fdZ ab.1 (λj x hx ag=>(h.r.ino j x hx).par ag) ac (by omega) (by have:=h.a _ m hb.1.2.1 hb.1.2.2.1;rw[ae] at this;exact this);have loop:∃o,tbel_l0_it fuel top (b.1,(t.1,t.2))=some o/\(o=top↔Anc t.1 top b.1):=by
  unfold tbel_l0_it;have aa:∀i,i=top\/i=1->(i=top↔Anc t.1 top i):=λi hi=>by
   constructor
   ·rintro rfl;exact .refl
   ·intro ha;cases ha with
    |refl=>rfl
    |step h1 _ _ _=>
     rcases hi with hi|hi
     ·exact hi
     ·exact absurd hi h1
  refine aAZ (λk s=>∃i:Int,s=(i,(t.1,t.2))/\1<=i/\i<=t.1.length/\reachN t.1 k i=true/\(Anc t.1 top b.1↔Anc t.1 top i)) _ (λk s hI=> ?_) (λs hI=> ?_) t.1.length _ (by omega) ⟨b.1,rfl,ac,by omega,af,Iff.rfl⟩
  ·obtain⟨i,rfl,h1,h2,h3,h4⟩:=hI;unfold tbel_l0;by_cases e1:i=top
   ·right;simp only[e1,ZAb,ZAA];exact⟨_,rfl,by rw[h4,e1];exact aa top (.inl rfl)⟩
   ·simp only[ZAW.2 e1,ZAk,ZAK,ZAA];by_cases e2:i=1
    ·right;simp only[e2,ZAD];exact⟨_,rfl,by rw[h4,e2];exact aa 1 (.inr rfl)⟩
    ·left;simp only[ZAW.2 e2,ZAk,ZAK];have ad:(i-1).toNat<t.1.length:=by omega
     obtain⟨y,hy⟩:∃y,t.1[(i-1).toNat]? =some y:=⟨_,ZAC ad⟩;rw[w6,azZ (by omega) (by omega),ZAA,hy,ZAA];unfold reachN at h3;rw[ZAW.2 e2] at h3;simp only[ZAD] at h3;rw[hy] at h3;simp only[ZAF] at h3;have hp:=(h.r.ino _ y hy).par h3.1;refine⟨_,rfl,_,rfl,hp.1,hp.2,h3.2,h4.trans ⟨λha=> ?_,λha=>.step e2 hy h3.1 ha⟩⟩;cases ha with
     |refl=>exact absurd rfl e1
     |step _ g _ ha=>rw[hy] at g;cases g;exact ha
  ·obtain⟨i,rfl,h1,h2,h3,h4⟩:=hI;have e2:=by unfold reachN at h3;simpa using h3
   unfold tbel_l0;by_cases e1:i=top
   ·simp only[e1,ZAb,ZAO,ZAD,ZAA];exact⟨_,rfl,by rw[h4,e1];exact aa top (.inl rfl)⟩
   ·simp only[ZAW.2 e1,ZAk,ZAK,ZAA];simp only[e2,ZAb,ZAO,ZAD];exact⟨_,rfl,by rw[h4,e2];exact aa 1 (.inr rfl)⟩
 let⟨o,ho,hq⟩:=loop
 unfold tbel;rw[ho,ZAA];exact⟨_,rfl,by rw[ZB2];exact hq⟩
theorem sbZ(h:TreeOK t)(hx:t.1[(id-1).toNat]? =some x)(h2:2<=id)(aa:x.2.2.2.2.2.2.2=[]){i}(ha:Anc t.1 id i)(hi:1<=i):i=id:=by
 induction ha with
 |refl=>rfl
 | @step i y h1 hy hu _ ih=>
   have hp:=(h.r.ino _ y hy).par hu
   let⟨m,s0,h3,h4,_⟩:=h.u _ y hy hu (by omega)<;>simp_all
end
section
variable {t : Tree} {a b : Int × Int} {na nb x z : Ino} {old name : List UInt8} {id other : Int}
theorem lmZ(h:TreeOK t)(hb:dirE t.1 a≠0):tRen fuel t a old b name=some (t.1,(t.2,([],dirE t.1 a))):=by
 unfold tRen Pc Pd Pe Pf Pg Pi Pj PF PG PJ;rw[lbZ h hb,ZAA];simp[ZAW.2 hb,ZAK];rw[aGZ h.r.fit,ZAA]
theorem mjZ(h:TreeOK t)(ha:IsD t.1 a na)(hb:dirE t.1 b≠0):tRen fuel t a old b name=some (t.1,(t.2,([],dirE t.1 b))):=by
 unfold tRen Pc Pd Pe Pf Pg Pi Pj PF PG PJ;rw[moZ h ha hb,ZAA];simp[ZAW.2 hb,ZAK];rw[aGZ h.r.fit,ZAA]
theorem mcZ(h:TreeOK t)(ha:IsD t.1 a na)(hb:IsD t.1 b nb)(hs:(namedB old&&namedB name)=false):tRen fuel t a old b name=some (t.1,(t.2,([],176))):=by
 unfold tRen Pc Pd Pe Pf Pg Pi Pj PF PG PJ;rw[bdZ h ha hb,ZAA];simp only[ZAb,ZAO,ZAD];rw[a2Z,ZAA];cases h1:namedB old with
 |false=>
  simp[ZAA];rw[aGZ h.r.fit,ZAA]
 |true=>
  rw[h1,ZBQ] at hs;simp only[ZAO,ZAD];rw[a2Z,ZAA,hs];simp only[ZAk,ZAK,ZAA];rw[show((t.1,t.2):Tree)=t from rfl,aGZ h.r.fit,ZAA]
theorem lOZ(h:TreeOK t)(ha:IsD t.1 a na)(hb:IsD t.1 b nb)(h1:namedB old=true)(hs:namedB name=true)(hh:hasN na.2.2.2.2.2.2.2 old=false):tRen fuel t a old b name=some (t.1,(t.2,([],171))):=by
 unfold tRen Pc Pd Pe Pf Pg Pi Pj PF PG PJ;rw[bdZ h ha hb,ZAA];simp only[ZAb,ZAD];rw[a2Z,h1];simp only[ZAO];rw[a2Z,hs];simp only[ZAO,ZAD,ZAA];rw[show idx? 0 [na,nb].length=some 0 from rfl,ZAA,show[na,nb][0]? =some na from rfl,ZAA,h.ent_ok ha,ZAA,hh];simp only[ZAk,ZAK];rw[show((t.1,t.2):Tree)=t from rfl,aGZ h.r.fit,ZAA]
theorem l8Z(h:TreeOK t)(ha:IsD t.1 a na)(hb:IsD t.1 b nb)(hs:namedB name=true)(aa:(old,id)∈na.2.2.2.2.2.2.2)(hx:t.1[(id-1).toNat]? =some x)(hd:x.2.2.2.1=true)(ab:Anc t.1 id b.1):tRen fuel t a old b name=some (t.1,(t.2,([],178))):=by
 let⟨g1,g2,g3,y,g4,g5,g6⟩:=h.ent ha aa
 rw[hx] at g4;cases g4;have ae:=h.r.len;have ac:=dqZ (h.srt ha.1) aa;have ad:=(ZAB.1 ac).1;unfold tRen Pc Pd Pe Pf Pg Pi Pj PF PG PJ;rw[bdZ h ha hb,ZAA];simp only[ZAb,ZAD];rw[a2Z,g1];simp[ZAD];rw[a2Z,hs];simp only[ZAA];rw[show idx? 0 [na,nb].length=some 0 from rfl,ZAA,show[na,nb][0]? =some na from rfl,ZAA,h.ent_ok ha,ZAA,aCZ.2 ⟨id,aa⟩];simp only[ZAO,ZAD,ZAA];rw[show[na,nb][0]? =some na from rfl,ZAA,adZ ad,ZAA,ac,ZAA,w6,azZ (by omega) (by omega),ZAA,hx,ZAA];rw[hd];simp only[ZAK]
 let⟨r,hr,hq⟩:=dLZ h hb id
 rw[show((t.1,t.2):Tree)=t from rfl,hr,hq.2 ab,ZAA,ZAA];simp only[ZAK];rw[show((t.1,t.2):Tree)=t from rfl,aGZ h.r.fit,ZAA]
theorem l3Z(h:TreeOK t)(ha:IsD t.1 a na)(hb:IsD t.1 b nb)(hs:namedB name=true)(hea:(old,id)∈na.2.2.2.2.2.2.2)(hx:t.1[(id-1).toNat]? =some x)(hanc:x.2.2.2.1=true->¬Anc t.1 id b.1)(heb:(name,id)∈nb.2.2.2.2.2.2.2):tRen fuel t a old b name=some (t.1,(t.2,([],0))):=by
 let⟨g1,g2,g3,y,g4,g5,g6⟩:=h.ent ha hea
 rw[hx] at g4;cases g4;have hlen:=h.r.len;have hpa:=dqZ (h.srt ha.1) hea;have hpal:=(ZAB.1 hpa).1;unfold tRen Pc Pd Pe Pf Pg Pi Pj PF PG PJ;rw[bdZ h ha hb,ZAA];simp only[ZAb,ZAD];rw[a2Z,g1];simp[ZAD];rw[a2Z,ZAA,hs];simp only[ZAO,ZAD,ZAA];rw[show idx? 0 [na,nb].length=some 0 from rfl,ZAA,show[na,nb][0]? =some na from rfl,ZAA,h.ent_ok ha,ZAA,aCZ.2 ⟨id,hea⟩];simp only[ZAO,ZAD,ZAA];rw[show[na,nb][0]? =some na from rfl,ZAA,adZ hpal,ZAA,hpa,ZAA,w6,azZ (by omega) (by omega),ZAA,hx,ZAA];have hbel:(bif x.2.2.2.1 then(tbel fuel (t.1,t.2) b.1 id).bind λr11=>some (r11,(t.1,(t.2,(a.1,(a.2,(b.1,(b.2,((0:Int),[na,nb]))))))))
  else some (false,(t.1,(t.2,(a.1,(a.2,(b.1,(b.2,(0,[na,nb])))))))))=some (false,(t.1,(t.2,(a.1,(a.2,(b.1,(b.2,(0,[na,nb])))))))):=by
  cases hd:x.2.2.2.1 with
  |false=>rfl
  |true=>
   simp only[ZAK]
   let⟨r,hr,hq⟩:=dLZ h hb id<;>simp_all
 rw[hbel,ZAA];simp only[ZAD]
 let⟨rows,ms,hc,hF⟩:=b6Z h.r.fit
 rw[show idx? 1 [na,nb].length=some 1 from rfl,ZAA,show[na,nb][1]? =some nb from rfl,ZAA,h.ent_ok hb,ZAA,show((t.1,t.2):Tree)=t from rfl,hc,ZAA];have hpb:=dqZ (h.srt hb.1) heb;have hpbl:=(ZAB.1 hpb).1;simp only[aCZ.2 ⟨_,heb⟩,ZAK];rw[ZAA,show[na,nb][1]? =some nb from rfl,ZAA,adZ hpbl,ZAA,hpb,ZAA,ZAA];simp only[ZAb,ZAK];erw[b8Z hF.pure1]
theorem n1Z(h:TreeOK t)(ha:IsD t.1 a na)(hb:IsD t.1 b nb)(hs:namedB name=true)(hea:(old,id)∈na.2.2.2.2.2.2.2)(hx:t.1[(id-1).toNat]? =some x)(hanc:x.2.2.2.1=true->¬Anc t.1 id b.1)(heb:(name,other)∈nb.2.2.2.2.2.2.2)(hne:other≠id)(hz:t.1[(other-1).toNat]? =some z)(hm:misE x.2.2.2.1 z≠0):tRen fuel t a old b name=some (t.1,(t.2,([],misE x.2.2.2.1 z))):=by
 let⟨g1,g2,g3,y,g4,g5,g6⟩:=h.ent ha hea
 rw[hx] at g4;cases g4;have hlen:=h.r.len;have hpa:=dqZ (h.srt ha.1) hea;have hpal:=(ZAB.1 hpa).1;unfold tRen Pc Pd Pe Pf Pg Pi Pj PF PG PJ;rw[show((t.1,t.2):Tree)=t from rfl,show((a.1,a.2):Int×Int)=a from rfl,show((b.1,b.2):Int×Int)=b from rfl,bdZ h ha hb,ZAA];simp only[ZAb,ZAO,ZAD];rw[a2Z,ZAA,g1];simp only[ZAO,ZAD];rw[a2Z,ZAA,hs];simp only[ZAO,ZAD,ZAA];rw[show idx? 0 [na,nb].length=some 0 from rfl,ZAA,show[na,nb][0]? =some na from rfl,ZAA,h.ent_ok ha,ZAA,aCZ.2 ⟨id,hea⟩];simp only[ZAO,ZAD,ZAA];rw[show[na,nb][0]? =some na from rfl,ZAA,adZ hpal,ZAA,hpa,ZAA,w6,azZ (by omega) (by omega),ZAA,hx,ZAA];have hbel:(bif x.2.2.2.1 then(tbel fuel (t.1,t.2) b.1 id).bind λr11=>some (r11,(t.1,(t.2,(a.1,(a.2,(b.1,(b.2,((0:Int),[na,nb]))))))))
  else some (false,(t.1,(t.2,(a.1,(a.2,(b.1,(b.2,(0,[na,nb])))))))))=some (false,(t.1,(t.2,(a.1,(a.2,(b.1,(b.2,(0,[na,nb])))))))):=by
  cases hd:x.2.2.2.1 with
  |false=>rfl
  |true=>
   simp only[ZAK]
   let⟨r,hr,hq⟩:=dLZ h hb id<;>simp_all
 rw[hbel,ZAA];simp only[ZAD]
 let⟨rows,ms,hc,hF⟩:=b6Z h.r.fit
 rw[show idx? 1 [na,nb].length=some 1 from rfl,ZAA,show[na,nb][1]? =some nb from rfl,ZAA,h.ent_ok hb,ZAA,show((t.1,t.2):Tree)=t from rfl,hc,ZAA]
 let⟨q1,q2,q3,z',q4,q5,q6⟩:=h.ent hb heb
 rw[hz] at q4;cases q4;have hpb:=dqZ (h.srt hb.1) heb;have hpbl:=(ZAB.1 hpb).1;simp only[aCZ.2 ⟨_,heb⟩,ZAK];rw[ZAA,show[na,nb][1]? =some nb from rfl,ZAA,adZ hpbl,ZAA,hpb,ZAA,ZAA];simp only[ZAW.2 hne,ZAD];rw[show idx? 1 [na,nb].length=some 1 from rfl,ZAA,show[na,nb][1]? =some nb from rfl,ZAA,adZ hpbl,ZAA,hpb,ZAA,w6,azZ (by omega) (by omega),ZAA,hz,ZAA,ejZ,ZAA];simp only[ZAW.2 hm,ZAk,ZAK];erw[b8Z hF.pure1]
theorem lZZ(h:TreeOK t)(ha:IsD t.1 a na)(hb:IsD t.1 b nb)(hs:namedB name=true)(hea:(old,id)∈na.2.2.2.2.2.2.2)(hx:t.1[(id-1).toNat]? =some x)(hanc:x.2.2.2.1=true->¬Anc t.1 id b.1)(hno:hasN nb.2.2.2.2.2.2.2 name=false)(hab:a.1≠b.1)(hl:100<=nb.2.2.2.2.2.2.2.length):tRen fuel t a old b name=some (t.1,(t.2,([],5))):=by
 let⟨g1,g2,g3,y,g4,g5,g6⟩:=h.ent ha hea
 rw[hx] at g4;cases g4;have hlen:=h.r.len;have hpa:=dqZ (h.srt ha.1) hea;have hpal:=(ZAB.1 hpa).1;unfold tRen Pc Pd Pe Pf Pg Pi Pj PF PG PJ;rw[bdZ h ha hb,ZAA];simp only[ZAb,ZAD];rw[a2Z,ZAA,g1];simp only[ZAO,ZAD];rw[a2Z,ZAA,hs];simp only[ZAO,ZAD,ZAA];rw[show idx? 0 [na,nb].length=some 0 from rfl,ZAA,show[na,nb][0]? =some na from rfl,ZAA,h.ent_ok ha,ZAA,aCZ.2 ⟨id,hea⟩];simp only[ZAO,ZAD,ZAA];rw[show[na,nb][0]? =some na from rfl,ZAA,adZ hpal,ZAA,hpa,ZAA,w6,azZ (by omega) (by omega),ZAA,hx,ZAA];have hbel:(bif x.2.2.2.1 then(tbel fuel (t.1,t.2) b.1 id).bind λr11=>some (r11,(t.1,(t.2,(a.1,(a.2,(b.1,(b.2,((0:Int),[na,nb]))))))))
  else some (false,(t.1,(t.2,(a.1,(a.2,(b.1,(b.2,(0,[na,nb])))))))))=some (false,(t.1,(t.2,(a.1,(a.2,(b.1,(b.2,(0,[na,nb])))))))):=by
  cases hd:x.2.2.2.1 with
  |false=>rfl
  |true=>
   simp only[ZAK]
   let⟨r,hr,hq⟩:=dLZ h hb id<;>simp_all
 rw[hbel,ZAA];simp only[ZAD]
 let⟨rows,ms,hc,hF⟩:=b6Z h.r.fit
 rw[show idx? 1 [na,nb].length=some 1 from rfl,ZAA,show[na,nb][1]? =some nb from rfl,ZAA,h.ent_ok hb,ZAA,show((t.1,t.2):Tree)=t from rfl,hc,ZAA];simp only[hno,ZAD,ZAA,ZAW.2 hab,ZAk,ZAK];rw[show idx? 1 [na,nb].length=some 1 from rfl,ZAA,show[na,nb][1]? =some nb from rfl,ZAA,ZAA,ZAJ (show((nb.2.2.2.2.2.2.2.length:Nat):Int)>=100 by omega)];simp only[ZAK];erw[b8Z hF.pure1]
theorem nkZ(h:TreeOK t)(m:MvOk t a old b name id na nb x):∃b1 x1,(takeL t.1 a.1 old)[(b.1-1).toNat]? =some b1/\Srt b1.2.2.2.2.2.2.2/\b1.2.2.2.2.2.2.2.length<=100/\(putL (takeL t.1 a.1 old) b.1 name id)[(id-1).toNat]? =some x1:=by
 let⟨k1,k2,ac,ad,ae,af⟩:=m.ne h
 have aa:=h.few m.db.1;have ab:∃b1,(takeL t.1 a.1 old)[(b.1-1).toNat]? =some b1/\Srt b1.2.2.2.2.2.2.2/\b1.2.2.2.2.2.2.2.length<=100:=by
  unfold takeL;rw[biZ,m.db.1.2.1];split
  ·refine⟨_,rfl,dAZ old (h.srt m.db.1),?_⟩;have:(delE nb.2.2.2.2.2.2.2 old).length<=nb.2.2.2.2.2.2.2.length:=ZBg _ _;show(delE _ _).length<=100;omega
  ·exact⟨_,rfl,h.srt m.db.1,aa⟩
 let⟨b1,h1,h2,h3⟩:=ab
 refine⟨b1,x,h1,h2,h3,?_⟩;unfold putL takeL;rw[biZ,biZ,ZAM k2,ZAM k1];exact m.x
theorem lNZ(h:TreeOK t)(m:MvOk t a old b name id na nb x)(hanc:x.2.2.2.1=true->¬Anc t.1 id b.1):tRen fuel t a old b name=some (mvL t.1 a.1 old b.1 name id,(t.2,([],0))):=by
 have ha:=m.da;have hb:=m.db;have hs:=m.nm;have hea:=m.ea;have hx:=m.x;have hno:=m.no;obtain⟨g1,g2,g3,y,g4,g5,g6⟩:=h.ent ha hea;rw[hx] at g4;cases g4;have hlen:=h.r.len;have hpa:=dqZ (h.srt ha.1) hea;have hpal:=(ZAB.1 hpa).1;unfold tRen Pc Pd Pe Pf Pg Pi Pj PF PG PJ;rw[show((t.1,t.2):Tree)=t from rfl,show((a.1,a.2):Int×Int)=a from rfl,show((b.1,b.2):Int×Int)=b from rfl,bdZ h ha hb,ZAA];simp only[ZAb,ZAO,ZAD];rw[a2Z,ZAA,g1];simp only[ZAO,ZAD];rw[a2Z,ZAA,hs];simp only[ZAO,ZAD,ZAA];rw[show idx? 0 [na,nb].length=some 0 from rfl,ZAA,show[na,nb][0]? =some na from rfl,ZAA,h.ent_ok ha,ZAA,aCZ.2 ⟨id,hea⟩];simp only[ZAO,ZAD,ZAA];rw[show[na,nb][0]? =some na from rfl,ZAA,adZ hpal,ZAA,hpa,ZAA,w6,azZ (by omega) (by omega),ZAA,hx,ZAA];have hbel:(bif x.2.2.2.1 then(tbel fuel (t.1,t.2) b.1 id).bind λr11=>some (r11,(t.1,(t.2,(a.1,(a.2,(b.1,(b.2,((0:Int),[na,nb]))))))))
  else some (false,(t.1,(t.2,(a.1,(a.2,(b.1,(b.2,(0,[na,nb])))))))))=some (false,(t.1,(t.2,(a.1,(a.2,(b.1,(b.2,(0,[na,nb])))))))):=by
  cases hd:x.2.2.2.1 with
  |false=>rfl
  |true=>
   simp only[ZAK];obtain⟨r,hr,hq⟩:=dLZ h hb id;have:r=false:=by
    cases r with
    |false=>rfl
    |true=>exact absurd (hq.1 rfl) (hanc hd)
   rw[show((t.1,t.2):Tree)=t from rfl,hr,this]
   rfl
 rw[hbel,ZAA];simp only[ZAD];obtain⟨rows,ms,hc,hF⟩:=b6Z h.r.fit;rw[show idx? 1 [na,nb].length=some 1 from rfl,ZAA,show[na,nb][1]? =some nb from rfl,ZAA,h.ent_ok hb,ZAA,show((t.1,t.2):Tree)=t from rfl,hc,ZAA];simp only[hno,ZAD,ZAA];have hfull:(bif !(a.1==b.1) then
  (idx? 1 [na,nb].length).bind λq10=>([na,nb])[q10]?.bind λr24=>some ((decide (((r24.2.2.2.2.2.2.2.length:Nat):Int)>=100)),(a.1,(a.2,(b.1,(b.2,((0:Int),(t.2,(rows,ms))))))))
  else some (false,(a.1,(a.2,(b.1,(b.2,(0,(t.2,(rows,ms)))))))))=some (false,(a.1,(a.2,(b.1,(b.2,(0,(t.2,(rows,ms)))))))):=by
  by_cases hab:a.1=b.1
  ·rw[show(a.1==b.1)=true from by simp[hab]]
   rfl
  ·rw[ZAW.2 hab];have:=m.few hab;simp only[ZAk,ZAK];rw[show idx? 1 [na,nb].length=some 1 from rfl,ZAA,show[na,nb][1]? =some nb from rfl,ZAA,ZAE (show¬((nb.2.2.2.2.2.2.2.length:Nat):Int)>=100 by omega)]
 rw[hfull,ZAA];simp only[ZAD];obtain⟨b1,x1,p1,p2,p3,p4⟩:=nkZ h m;obtain⟨rows1,ms1,ht,hF1⟩:=dYZ t.2 old hF (by omega) ha.1.1 ha.1.2.1 (by have:=h.few ha.1;omega);rw[<-dzZ ha] at hF1;have hl1:(takeL t.1 a.1 old).length=t.1.length:=aYZ ..;obtain⟨rows2,ms2,hp2,hF2⟩:=put_ok t.2 name id hF1 (by omega) hb.1.1 p1 p2 (by omega);have e2:putL (takeL t.1 a.1 old) b.1 name id=(takeL t.1 a.1 old).set (b.1-1).toNat (wE b1 (insE b1.2.2.2.2.2.2.2 name id)):=bLZ _ p1;rw[<-e2] at hF2;have hl2:(putL (takeL t.1 a.1 old) b.1 name id).length=t.1.length:=(aYZ ..).trans hl1;have hrl:=hF2.len;rw[ht,ZAA];simp only;rw[hp2,ZAA];simp only;obtain⟨row,hr,⟨y,hry⟩,_⟩:=hF2.row p4;have hF3:=hF2.keep (k':=wP x1 b.1) hr p4 ⟨y,rfl⟩ (by rw[hry];rfl) rfl;have e3:parL (putL (takeL t.1 a.1 old) b.1 name id) id b.1=(putL (takeL t.1 a.1 old) b.1 name id).set (id-1).toNat (wP x1 b.1):=bLZ _ p4;rw[<-e3] at hF3;rw[azZ (by omega) (by omega),ZAA,hr,ZAA];have e4:(row.1,(row.2.1,(row.2.2.1,(row.2.2.2.1,(row.2.2.2.2.1,(row.2.2.2.2.2.1,(b.1,row.2.2.2.2.2.2.2)))))))=toE (wP x1 b.1) y:=by rw[hry];rfl
 rw[e4];erw[b8Z (FamE.pure1 hF3)]
 rfl
theorem loZ(h:TreeOK t)(ha:IsD t.1 a na)(hb:IsD t.1 b nb)(hs:namedB name=true)(hea:(old,id)∈na.2.2.2.2.2.2.2)(hx:t.1[(id-1).toNat]? =some x)(hanc:x.2.2.2.1=true->¬Anc t.1 id b.1)(heb:(name,other)∈nb.2.2.2.2.2.2.2)(hne:other≠id)(hz:t.1[(other-1).toNat]? =some z)(hm:misE x.2.2.2.1 z=0)
 {na' nb' x'}(h0:TreeOK (dropL (takeL t.1 b.1 name) other,t.2))(m:MvOk (dropL (takeL t.1 b.1 name) other,t.2) a old b name id na' nb' x'):
 tRen fuel t a old b name=some (mvL (dropL (takeL t.1 b.1 name) other) a.1 old b.1 name id,(t.2,(keptP z.2.2.2.2.2.1,0))):=by
 obtain⟨q1,q2,q3,z',q4,q5,q6⟩:=h.ent hb heb;rw[hz] at q4;cases q4;obtain⟨g1,g2,g3,y,g4,g5,g6⟩:=h.ent ha hea;rw[hx] at g4;cases g4;have hlen:=h.r.len;have hpa:=dqZ (h.srt ha.1) hea;have hpal:=(ZAB.1 hpa).1;unfold tRen Pc Pd Pe Pf Pg Pi Pj PF PG PJ;rw[show((t.1,t.2):Tree)=t from rfl,show((a.1,a.2):Int×Int)=a from rfl,show((b.1,b.2):Int×Int)=b from rfl,bdZ h ha hb,ZAA];simp only[ZAb,ZAO,ZAD];rw[a2Z,ZAA,g1];simp only[ZAO,ZAD];rw[a2Z,ZAA,hs];simp only[ZAO,ZAD,ZAA];rw[show idx? 0 [na,nb].length=some 0 from rfl,ZAA,show[na,nb][0]? =some na from rfl,ZAA,h.ent_ok ha,ZAA,aCZ.2 ⟨id,hea⟩];simp only[ZAO,ZAD,ZAA];rw[show[na,nb][0]? =some na from rfl,ZAA,adZ hpal,ZAA,hpa,ZAA,w6,azZ (by omega) (by omega),ZAA,hx,ZAA];have hbel:(bif x.2.2.2.1 then(tbel fuel (t.1,t.2) b.1 id).bind λr11=>some (r11,(t.1,(t.2,(a.1,(a.2,(b.1,(b.2,((0:Int),[na,nb]))))))))
  else some (false,(t.1,(t.2,(a.1,(a.2,(b.1,(b.2,(0,[na,nb])))))))))=some (false,(t.1,(t.2,(a.1,(a.2,(b.1,(b.2,(0,[na,nb])))))))):=by
  cases hd:x.2.2.2.1 with
  |false=>rfl
  |true=>
   simp only[ZAK];obtain⟨r,hr,hq⟩:=dLZ h hb id;have:r=false:=by
    cases r with
    |false=>rfl
    |true=>exact absurd (hq.1 rfl) (hanc hd)
   rw[show((t.1,t.2):Tree)=t from rfl,hr,this]
   rfl
 rw[hbel,ZAA];simp only[ZAD];obtain⟨rows,ms,hc,hF⟩:=b6Z h.r.fit;rw[show idx? 1 [na,nb].length=some 1 from rfl,ZAA,show[na,nb][1]? =some nb from rfl,ZAA,h.ent_ok hb,ZAA,show((t.1,t.2):Tree)=t from rfl,hc,ZAA];have hpb:=dqZ (h.srt hb.1) heb;have hpbl:=(ZAB.1 hpb).1;simp only[aCZ.2 ⟨_,heb⟩,ZAK];rw[ZAA,show[na,nb][1]? =some nb from rfl,ZAA,adZ hpbl,ZAA,hpb,ZAA,ZAA];simp only[ZAW.2 hne,ZAD];rw[show idx? 1 [na,nb].length=some 1 from rfl,ZAA,show[na,nb][1]? =some nb from rfl,ZAA,adZ hpbl,ZAA,hpb,ZAA,w6,azZ (by omega) (by omega),ZAA,hz,ZAA,ejZ,ZAA,hm];simp only[ZAb,ZAO,ZAD];have hze:z.2.2.2.2.2.2.2=[]:=by
  unfold misE at hm;split at hm
  ·cases hm
  ·split at hm
   ·cases hm
   ·split at hm
    ·assumption
    ·cases hm
 obtain⟨rows0,mp,me,hw,hP0,hE0⟩:=lIZ h hb heb hz hze;rw[show((t.1,t.2):Tree)=t from rfl,hw,ZAA];simp only[ZAb,ZAO,ZAD];obtain⟨b1,x1,p1,p2,p3,p4⟩:=nkZ h0 m;simp only at p1 p4;have hl0:(dropL (takeL t.1 b.1 name) other).length=t.1.length:=(aYZ ..).trans (aYZ ..);have hna':=h0.few m.da.1;obtain⟨rows1,me1,ht,hP1,hE1⟩:=rYZ t.2 old hP0 hE0 (by omega) m.da.1.1 m.da.1.2.1 (by omega);rw[<-dzZ (t:=(dropL (takeL t.1 b.1 name) other,t.2)) m.da] at hP1 hE1;simp only at hP1 hE1;have hl1:(takeL (dropL (takeL t.1 b.1 name) other) a.1 old).length=t.1.length:=(aYZ ..).trans hl0;obtain⟨rows2,me2,hp2,hP2,hE2⟩:=uNZ t.2 name id hP1 hE1 (by omega) hb.1.1 p1 p2 (by omega);have e2:putL (takeL (dropL (takeL t.1 b.1 name) other) a.1 old) b.1 name id=(takeL (dropL (takeL t.1 b.1 name) other) a.1 old).set (b.1-1).toNat (wE b1 (insE b1.2.2.2.2.2.2.2 name id)):=bLZ _ p1;rw[<-e2] at hP2 hE2;have hl2:(putL (takeL (dropL (takeL t.1 b.1 name) other) a.1 old) b.1 name id).length=t.1.length:=(aYZ ..).trans hl1;have hrl:=hP2.len;rw[ht,ZAA];simp only;rw[hp2,ZAA];simp only;obtain⟨row,hr,⟨y,w,hry⟩,_⟩:=hP2.row p4;have hP3:=hP2.keep (row':=to2 (wP x1 b.1) y w) (k':=wP x1 b.1) hr p4 ⟨y,w,rfl⟩ (by rw[hry];rfl) rfl;have hE3:=hE2.keep (row':=to2 (wP x1 b.1) y w) (k':=wP x1 b.1) hr p4 ⟨y,w,rfl⟩ (by rw[hry];rfl) rfl;have e3:parL (putL (takeL (dropL (takeL t.1 b.1 name) other) a.1 old) b.1 name id) id b.1=(putL (takeL (dropL (takeL t.1 b.1 name) other) a.1 old) b.1 name id).set (id-1).toNat (wP x1 b.1):=bLZ _ p4;rw[<-e3] at hP3 hE3;rw[azZ (by omega) (by omega),ZAA,hr,ZAA];have e4:(row.1,(row.2.1,(row.2.2.1,(row.2.2.2.1,(row.2.2.2.2.1,(row.2.2.2.2.2.1,(b.1,row.2.2.2.2.2.2.2)))))))=to2 (wP x1 b.1) y w:=by rw[hry];rfl
 rw[e4];erw[b8Z (ryZ (ms.map frz1) hP3 hE3)]
 rfl
end
end Go.Ab.D
