/- What the functions compute; the plain law. -/
import Derived.Test.YtjngohmkdmdecaaGreatStateDeadD5
set_option linter.all false
open Prod renaming A->PA,B->PB,C->PC,D->PD,E->PE,F->PF,G->PG,I->PI,J->PJ,a->Pa,b->Pb,c->Pc,d->Pd,e->Pe,f->Pf,g->Pg,h->Ph,i->Pi,j->Pj
namespace Go.Ab
theorem ZAW:type_of% @beq_eq_false_iff_ne:=@beq_eq_false_iff_ne
theorem ZAn:type_of% @Bool.not_false:=@Bool.not_false
theorem ZAv:type_of% @List.length_set:=@List.length_set
theorem ZA2:type_of% @List.findIdx?_eq_some_iff_getElem:=@List.findIdx?_eq_some_iff_getElem
theorem ZBF:type_of% @List.take_succ_eq_append_getElem:=@List.take_succ_eq_append_getElem
theorem ZBP:type_of% @List.nodup_append:=@List.nodup_append
theorem ZBe:type_of% @List.length_filter_le:=@List.length_filter_le
theorem ZBj:type_of% @Classical.byContradiction:=@Classical.byContradiction
theorem ZBk:type_of% @Nat.not_lt_zero:=@Nat.not_lt_zero
theorem ZBn:type_of% @Int.toNat_of_nonneg:=@Int.toNat_of_nonneg
theorem ZBv:type_of% @Nat.sub_self:=@Nat.sub_self
theorem ZBx:type_of% @List.findIdx?_eq_none_iff:=@List.findIdx?_eq_none_iff
theorem ZB6:type_of% @Int.le_refl:=@Int.le_refl
theorem ZCI:type_of% @UInt8.not_lt:=@UInt8.not_lt
theorem ZCJ:type_of% @List.mem_singleton:=@List.mem_singleton
theorem ZCN:type_of% @List.take_succ:=@List.take_succ
theorem ZCd:type_of% @UInt8.le_antisymm:=@UInt8.le_antisymm
theorem w64{x}(h: -9223372036854775808<=x/\x<=9223372036854775807):wI x=x:=by
 simp[wI,IntKind.wrap,IntKind.bits,IntKind.signed];grind
theorem wu64{x}(h:0<=x/\x<=18446744073709551615):IntKind.wrap .u64 x=x:=by
 simp[IntKind.wrap,IntKind.bits,IntKind.signed];grind
theorem m3Z(a b:Nat):Int.fdiv (a:Int) (b:Int)=((a/b:Nat):Int):=by
 grind
theorem acZ{i n:Nat}(h:i<n):aK (i:Int) n=some i:=by grind[aK]
theorem a0Z{x:Int}{n:Nat}(h0:0<=x)(h:x<n):aK x n=some x.toNat:=by simp_all[aK]
theorem aGZ{i n:Nat}(h:i<=n):bL (i:Int) n=some i:=by grind[bL]
theorem b1Z{x:Int}{n:Nat}(h0:0<=x)(h:x<=n):bL x n=some x.toNat:=by simp_all[bL]
theorem iOZ{n:Nat}(h:n<256):oA (n:Int)=some (uO n):=by
 grind[Int,oA]
theorem aeZ{β}{b}{K:Option β}(h:b=true):aP b K=K:=by subst h;rfl
theorem aNZ{a b:Nat}(h:a<=b):Nat.ble a b=true:=ZAi h
theorem cBZ{β}{n}{K:Bool->Option β}(h:n=0->K true=K false):qP n K=K false:=by
 simp_all[qP]
theorem asZ:bG=140737488355328:=rfl
theorem sqZ{n}(h:n<4611686018427387904):∃m,aB=m+(n+1):=⟨4611686018427387903-n,by grind[aB]⟩
theorem hOZ{τ ο}{f:τ->Option (τ⊕ο)}(S:Nat->τ):∀(n m),(∀k,k<n->f (S k)=some (.inl (S (k+1))))->iter (m+n) f (S 0)=iter m f (S n)
 |0,m,_=>rfl
 |n+1,m,h=>by
  have e:m+(n+1)=(m+1)+n:=by omega
  rw[e,hOZ S n (m+1) fun k hk=>h k (by omega)];show(f (S n)).ob _=_;rw[h n (by omega)]
  rfl
theorem aoZ{τ ο}{f}{o:ο}(S:Nat->τ)(n)(hn:n<4611686018427387904)(hs:∀k,k<n->f (S k)=some (.inl (S (k+1))))(he:f (S n)=some (.inr o)):iter aB f (S 0)=some o:=by
 let⟨m,hm⟩:=sqZ hn
 have e:aB=(m+1)+n:=by omega
 rw[e,hOZ S n (m+1) hs];show(f (S n)).ob _=_;rw[he]
 rfl
theorem dSZ{τ ο}{f:τ->Option (τ⊕ο)}{s s'}{n}(h:f s=some (.inl s')):iter (n+1) f s=iter n f s':=by
 show(f s).ob _=_;rw[h]
 rfl
theorem c3Z{τ ο}{f}{s:τ}{o:ο}{n}(h:f s=some (.inr o)):iter (n+1) f s=some o:=by
 show(f s).ob _=_;rw[h]
 rfl
theorem vYZ(n)(h:n<4611686018427387904):∃m,aB=m+n+1:=⟨4611686018427387903-n,by grind[aB]⟩
theorem a5Z{τ ο}{f}(I:Nat->τ->Prop)(Q:ο->Prop)(hs:∀n s,I (n+1) s->(∃s',f s=some (.inl s')/\I n s')\/∃o,f s=some (.inr o)/\Q o)(he:∀s,I 0 s->∃o,f s=some (.inr o)/\Q o):∀(n) (s),n<4611686018427387904->I n s->∃o,iter aB f s=some o/\Q o:=by
 have main:∀(n m) (s),n<m->I n s->∃o,iter m f s=some o/\Q o:=fun n=>by
  induction n with
  |zero=>
   intro m s hm hi;obtain⟨m,rfl⟩:∃k,m=k+1:=⟨m-1,by omega⟩
   grind[c3Z]
  |succ n ih=>
   intro m s hm hi;obtain⟨m,rfl⟩:∃k,m=k+1:=⟨m-1,by omega⟩
   grind[dSZ,c3Z]
 exact fun n s hn hi=>main n aB s hn hi
theorem uTZ{α β:Type}{x}{k}(R:Option β->Prop)(P:α->Prop)(h:∃v,x=some v/\P v)(hk:∀v,P v->R (k v)):R (x.bind k):=by
 grind
theorem imZ{τ ο}{f}{s:τ}{o:ο}(h:f s=some (.inr o)):iter aB f s=some o:=by
 let⟨n,hn⟩:=vYZ 0 (by omega)
 simp_all[c3Z]
section
variable {τ κ ο γ : Type} {hd : τ → Option (List (κ × Nat))} {f : τ → κ × Nat → Option (τ ⊕ ο)}
theorem mRZ{Q Q':τ⊕ο->Prop}:∀(n n':Nat) (seen:List Nat) (t:τ),MOk hd f Q n seen t->MOk hd f Q' n' seen t->∃o,Q o/\Q' o
 |0,_,_,_,h,_=>h.elim
 |_+1,0,_,_,_,h=>h.elim
 |n+1,n'+1,seen,t,h,h'=>by
  obtain⟨l,h1,h2,h3⟩:=h;obtain⟨l',h1',h2',h3'⟩:=h';rw[h1] at h1';simp only[ZAO] at h1';subst h1';cases hm:xA seen l with
  |nil=>exact⟨_,h2 hm,h2' hm⟩
  |cons e r=>
   have he:e∈xA seen l:=by rw[hm];exact ZAk
   rcases h3 e he with⟨t1,p1,p2⟩|⟨o,p1,p2⟩<;>rcases h3' e he with⟨t2,q1,q2⟩|⟨o',q1,q2⟩
   ·rw[p1] at q1;simp only[ZAO,Sum.inl.injEq] at q1;subst q1;exact mRZ n n' _ _ p2 q2
   ·rw[p1] at q1;simp at q1
   ·rw[p1] at q1;simp at q1
   ·rw[p1] at q1;simp only[ZAO,Sum.inr.injEq] at q1;subst q1;exact⟨_,p2,q2⟩
theorem uhZ{t0:τ}{F:τ⊕ο->Option γ}{r:γ}{n:Nat}(h:MOk hd f (fun o=>F o=some r) n [] t0):CU hd f t0 F=some r:=by
 unfold CU;split
 ·rename_i hx;obtain⟨n',hn'⟩:=Classical.choose_spec hx;obtain⟨o,h1,h2⟩:=mRZ _ _ _ _ h hn';rw[h1] at h2;exact h2.symm
 ·rename_i hx;exact absurd ⟨r,n,h⟩ hx
end
section
variable {k v : Ty}
def lI(k:Ty):Prop:=∀x a,k.eqb x a=true↔x=a
theorem d2Z(i):lI (.int i):=fun x a=>by
 show((x:Int)==a)=true↔_
 simp_all
theorem lI.ne(h:lI k){x a}(hn:x≠a):k.eqb x a=false:=by
 cases e:k.eqb x a with
 |false=>rfl
 |true=>exact absurd ((h x a).1 e) hn
theorem lI.self(h:lI k)(x):k.eqb x x=true:=(h x x).2 rfl
theorem fdZ(h:lI k):∀(l) (x) (y:v.den) (n) (z),dF (l++[((x,y),n)]) z=match dF l z with|some e=>some e|none=>bif k.eqb z x then some (y,n) else none
 |[],x,y,n,z=>rfl
 |((a,b),m)::l,x,y,n,z=>by
  show(bif k.eqb z a then some (b,m) else dF (l++[((x,y),n)]) z)=match(bif k.eqb z a then some (b,m) else dF l z) with|some e=>some e|none=>bif k.eqb z x then some (y,n) else none
  cases k.eqb z a with
  |true=>rfl
  |false=>exact fdZ h l x y n z
theorem hrZ(h:lI k):∀(l) (x) (y:v.den) (z:k.den),z≠x->dF (sV l x y) z=dF l z
 |[],x,y,z,_=>rfl
 |((a,b),m)::l,x,y,z,hz=>by
  show dF (bif k.eqb x a then((x,y),m)::l else((a,b),m)::sV l x y) z=bif k.eqb z a then some (b,m) else dF l z;cases e:k.eqb x a with
  |true=>
   have:=(h x a).1 e;subst this;show(bif k.eqb z x then some (y,m) else dF l z)=_;rw[h.ne hz]
   rfl
  |false=>
   show(bif k.eqb z a then some (b,m) else dF (sV l x y) z)=_;rw[hrZ h l x y z hz]
theorem d1Z(h:lI k):∀(l) (x:k.den) (y:v.den) e,dF l x=some e->dF (sV l x y) x=some (y,e.2)
 |[],x,y,e,he=>by cases he
 |((a,b),m)::l,x,y,e,he=>by
  have he':(bif k.eqb x a then some (b,m) else dF l x)=some e:=he;show dF (bif k.eqb x a then((x,y),m)::l else((a,b),m)::sV l x y) x=_;cases ea:k.eqb x a with
  |true=>
   rw[ea] at he';cases he';show(bif k.eqb x x then some (y,m) else dF l x)=_;rw[h.self]
   rfl
  |false=>
   rw[ea] at he';show(bif k.eqb x a then some (b,m) else dF (sV l x y) x)=_;rw[ea];exact d1Z h l x y e he'
theorem j9Z(h:lI k)(m)(x:k.den)(y:v.den):gX (iM m x y) x=some y:=by
 unfold gX iM;cases e:dF m.1 x with
 |some e'=>simp_all[d1Z]
 |none=>rw[fdZ h,e];rw[h.self];rfl
theorem duZ(h:lI k)(m)(x)(y:v.den){z:k.den}(hz:z≠x):gX (iM m x y) z=gX m z:=by
 unfold gX iM;cases e:dF m.1 x with
 |some e'=>simp_all[hrZ]
 |none=>
  rw[fdZ h,h.ne hz]
  grind
def UD(m:nZ k v):Prop:=(m.1.map fun e=>e.1.1).Nodup
end
end Go.Ab
namespace Go.Ab.D
open Go Go.Ab
abbrev bP:=Int×Int
abbrev Ent:=List UInt8×Int
abbrev Ino:=Int×Int×Bool×Bool×Int×List bP×Int×List Ent
abbrev cI:=List Ino×Int
def Ino.sm(n:Ino):Prop:=n.2.2.2.2.2.1.length<=100000/\n.2.2.2.2.2.2.2.length<=100000
structure Fit (l:List Ino):Prop where
 n:l.length<=100000
 s:∀n∈l,Ino.sm n
theorem Fit.at{l}(h:Fit l){i:Nat}{n}(e:l[i]? =some n):Ino.sm n:=h.s n (ZAG e)
theorem cLZ{l:List bP}(h:l.length<=100000):tO aB l=some l:=by
 unfold tO;rw[cBZ]
 ·simp;rw[aeZ];simp[asZ];omega
 ·intro h0;have:=ZAX h0
  simp_all[aeZ,asZ]
theorem d7Z{l:List Ent}(h:l.length<=100000):vV aB l=some l:=by
 unfold vV;rw[cBZ]
 ·simp;rw[aeZ];simp[asZ];omega
 ·intro h0;have:=ZAX h0
  simp_all[aeZ,asZ]
theorem cVZ{l:List Ino}(h:l.length<=100000):rE aB l=some l:=by
 unfold rE;rw[cBZ]
 ·simp;rw[aeZ];simp[asZ];omega
 ·intro h0;have:=ZAX h0
  simp_all[aeZ,asZ]
theorem mnZ{n:Ino}(h:n.sm):eW aB n=some (n.1,n.2.1,n.2.2.1,n.2.2.2.1,n.2.2.2.2.1,n.2.2.2.2.2.2.1,n.2.2.2.2.2.1,n.2.2.2.2.2.2.2):=by
 unfold eW;rw[cLZ h.1,ZAA,d7Z h.2,ZAA]
theorem dNZ{α:Type}{l:List α}{i}{x}(h:l[i]? =some x):l.set i x=l:=by
 grind[ZAB,ZCc]
theorem aEZ{i n:Nat}(h:i<n):decide ((i:Int)<((n:Nat):Int))=true:=by simp_all
theorem aCZ{i n:Nat}(h:¬i<n):decide ((i:Int)<((n:Nat):Int))=false:=by simp_all
def isB(l:List Ino)(id:Int)(dir:Bool):Bool:=
 decide (1<=id)&&match l[(id-1).toNat]? with
  |some n=>n.2.2.1&&n.2.2.2.1==dir
  |none=>false
theorem rCZ{t:cI}(h:Fit t.1)(id)(dir):gD aB t id dir=some (isB t.1 id dir):=by
 unfold gD isB;by_cases h1:1<=id
 ·rw[show decide (id>=1)=true from by simp;omega,ZAK,ZBT];by_cases h2:id<=((t.1.length:Nat):Int)
  ·have hn:=h.n;rw[show decide (id<=((t.1.length:Nat):Int))=true from by simp;omega,w64 (by omega),a0Z (by omega) (by omega),ZAA];have hlt:(id-1).toNat<t.1.length:=by omega
   obtain⟨n,hg⟩:∃n,t.1[(id-1).toNat]? =some n:=⟨_,ZAC hlt⟩;rw[hg];simp only[ZAA];cases n.2.2.1
   ·rfl
   ·simp only[ZBT];rw[hg]
    rfl
  ·rw[show decide (id<=((t.1.length:Nat):Int))=false from by simp;omega,ZAD];rw[ZAw (by omega)]
 grind
def most:Int:=1099511627776
def cV(stripe:Int)(p:bP):Prop:=(p.1=0/\p.2=0)\/(1<=p.1/\p.1<=stripe/\1<=p.2/\p.2<=1099511627776)
def aO(l:List bP):List Int:=(l.filter fun p=>p.1 !=0).map (·.1)
def fZ(many:Int):List UInt8->List Ent->Prop
 |_,[]=>True
 |last,e::r=>1<=e.1.length/\e.1.length<=30/\Op.bytesLess last e.1=true/\1<=e.2/\e.2<=many/\fZ many e.1 r
theorem gjZ(many)(last)(e)(r):fZ many last (e::r)=(1<=e.1.length/\e.1.length<=30/\Op.bytesLess last e.1=true/\1<=e.2/\e.2<=many/\fZ many e.1 r):=rfl
structure gV (many stripe:Int) (i:Nat) (n:Ino):Prop where
 id:n.1=i+1
 gen:1<=n.2.1/\n.2.1<=1099511627776
 par:n.2.2.1=true->1<=n.2.2.2.2.2.2.1/\n.2.2.2.2.2.2.1<=many
 dir:n.2.2.1=true->n.2.2.2.1=true->n.2.2.2.2.1=0/\n.2.2.2.2.2.1=[]/\n.2.2.2.2.2.2.2.length<=100/\fZ many [] n.2.2.2.2.2.2.2
 file:n.2.2.1=true->n.2.2.2.1=false->(0<=n.2.2.2.2.1/\n.2.2.2.2.1<=65536)/\n.2.2.2.2.2.2.2=[]/\n.2.2.2.2.2.1.length<=4096/\∀p∈n.2.2.2.2.2.1,cV stripe p
 bare:n.2.2.1=false->n.2.2.2.1=false/\n.2.2.2.2.1=0/\n.2.2.2.2.2.2.1=0/\n.2.2.2.2.2.1=[]/\n.2.2.2.2.2.2.2=[]
def aD(l:List Ino):List Int:=l.flatMap fun n=>aO n.2.2.2.2.2.1
structure dD (t:cI):Prop where
 len:1<=t.1.length/\t.1.length<=500
 str:0<=t.2/\t.2<=1099511627776
 ino:∀i n,t.1[i]? =some n->gV t.1.length t.2 i n
 nod:(aD t.1).Nodup
 root:∃r,t.1[0]? =some r/\r.2.2.1=true/\r.2.2.2.1=true/\r.2.2.2.2.2.2.1=1
theorem axZ(a b):aO (a++b)=aO a++aO b:=by simp[aO]
theorem c0Z{p}(h:p.1=0):aO [p]=[]:=by grind[aO]
theorem cjZ{p}(h:p.1≠0):aO [p]=[p.1]:=by grind[aO]
theorem jzZ{l}(h:1<=l.length):Op.bytesLess [] l=true:=by
 cases l with
 |nil=>grind
 |cons a l=>rfl
theorem hTZ:∀(a b),(Op.bytesLess a b||(a==b))= !Op.bytesLess b a
 |[],[]=>rfl
 |[],b::l=>by simp[Op.bytesLess]
 |a::l,[]=>by simp[Op.bytesLess]
 |a::l,b::m=>by
  have ih:=hTZ l m;have ne:(a::l==b::m)=(a==b&&l==m):=rfl;by_cases h:a<b
  ·have h2:¬b<a:=by exact fun h2=>absurd (UInt8.lt_trans h h2) (UInt8.lt_irrefl _)
   have h3:b≠a:=fun e=>by simp_all
   simp[Op.bytesLess,h,h2,h3]
  ·by_cases h2:b<a
   ·have h3:a≠b:=fun e=>by simp_all
    simp[Op.bytesLess,h,h2,h3]
   ·have h3:=ZCd (ZCI.1 h2) (ZCI.1 h);simp[Op.bytesLess,ZBT]
    simp_all
theorem tWZ(e:Ent)(h)(many):∃w,HC aB e h many=some (w,(e.1,many))/\(w=true↔¬(1<=e.1.length/\e.1.length<=30/\Op.bytesLess h e.1=true/\1<=e.2/\e.2<=many)):=by
 unfold HC;rw[hTZ];by_cases h1:e.1.length<1
 ·simp_all
 rw[show decide (((e.1.length:Nat):Int)<1)=false from by grind];by_cases h2:e.1.length>30
 ·rw[show decide (((e.1.length:Nat):Int)>30)=true from by simp;omega]
  grind
 rw[show decide (((e.1.length:Nat):Int)>30)=false from by grind];cases h3:Op.bytesLess h e.1 with
 |false=>simp_all
 |true=>
  simp only[ZAQ];by_cases h4:e.2<1
  ·rw[show decide (e.2<1)=true from by simp;omega];exact⟨true,rfl,by simp;omega⟩
  rw[show decide (e.2<1)=false from by simp;omega]
  grind
theorem srZ(l:List Ent)(many)(hl:l.length<=100000):
 ∃o,oP aB l (0,([],many))=some o/\((∃a b,o= .inl (a,b)/\fZ many [] l)\/(∃(k:Nat),∃a b,o= .inr ((k:Int),(a,b))/\¬fZ many [] l)):=by
 refine a5Z (fun n s=>∃(k:Nat) (last:List UInt8),s=((k:Int),(last,many))/\k+n=l.length/\(fZ many [] l↔fZ many last (l.drop k))) _ (fun n s hI=> ?_) (fun s hI=> ?_) l.length _ (by omega) ⟨0,[],rfl,by omega,by simp⟩
 ·obtain⟨k,last,rfl,hk,hi⟩:=hI;have hlt:k<l.length:=by omega
  obtain⟨e,hg⟩:∃e,l[k]? =some e:=⟨_,ZAC hlt⟩;have hd:l.drop k=e::l.drop (k+1):=by
   rw[ZBV hlt];rw[ZAC hlt] at hg;simp at hg;rw[hg]
  let⟨w,hw,hw2⟩:=tWZ e last many
  unfold oO;simp only[aEZ hlt];rw[acZ hlt,ZAA,hg,ZAA,hw];rw[hd] at hi;cases w with
  |true=>
   right;refine⟨_,rfl,.inr ⟨k,_,_,rfl,fun h=> ?_⟩⟩;have h2:=hi.1 h;exact hw2.1 rfl ⟨h2.1,h2.2.1,h2.2.2.1,h2.2.2.2.1,h2.2.2.2.2.1⟩
  |false=>
   left;rw[w64 (by omega)];refine⟨_,rfl,k+1,e.1,by simp,by omega,?_⟩;have hne:¬¬(1<=e.1.length/\e.1.length<=30/\Op.bytesLess last e.1=true/\1<=e.2/\e.2<=many):=fun h=>by have:=hw2.2 h;cases this
   have hy:=Classical.not_not.1 hne;constructor
   ·intro h;exact(hi.1 h).2.2.2.2.2
   ·intro h;exact hi.2 ⟨hy.1,hy.2.1,hy.2.2.1,hy.2.2.2.1,hy.2.2.2.2,h⟩
 ·obtain⟨k,last,rfl,hk,hi⟩:=hI;have:k=l.length:=by omega
  subst this;unfold oO;simp only[aCZ (ZA1 _)];exact⟨_,rfl,.inl ⟨_,_,rfl,hi.2 (by simp[fZ])⟩⟩
theorem vJZ(n:Ino)(many)(hs:n.sm):∃b,OS aB n many=some b/\(b=true↔n.2.2.2.2.1=0/\n.2.2.2.2.2.1=[]/\n.2.2.2.2.2.2.2.length<=100/\fZ many [] n.2.2.2.2.2.2.2):=by
 unfold OS;by_cases h1:n.2.2.2.2.1=0
 ·rw[show(n.2.2.2.2.1==0)=true from by grind];by_cases h2:n.2.2.2.2.2.1=[]
  ·rw[show(((n.2.2.2.2.2.1.length:Nat):Int)==0)=true from by grind];by_cases h3:n.2.2.2.2.2.2.2.length<=100
   ·rw[show decide (((n.2.2.2.2.2.2.2.length:Nat):Int)<=100)=true from by simp;omega]
    let⟨o,ho,hq⟩:=srZ n.2.2.2.2.2.2.2 many hs.2
    unfold xR xQ;rw[ho];rcases hq with⟨a,b,rfl,hq⟩|⟨k,a,b,rfl,hq⟩<;>simp_all
   ·rw[show decide (((n.2.2.2.2.2.2.2.length:Nat):Int)<=100)=false from by simp;omega]
    grind
  ·rw[show(((n.2.2.2.2.2.1.length:Nat):Int)==0)=false from by simp[h2],ZAD]
   simp_all
 ·rw[show(n.2.2.2.2.1==0)=false from by simp[h1],ZAD]
  simp_all
abbrev GM:=nZ (.int .i64) (.int .i64)
def MS(M:GM)(S:List Int):Prop:=∀k:Int,(((Option.getD (gX (k:=.int .i64) (v:=.int .i64) M k) 0:Int)==1)=true↔k∈S)
theorem MS.nil:MS ([],0) []:=fun k=>by simp[gX,dF]
theorem MS.put{M}{S}(h:MS M S)(x:Int):MS (iM M x 1) (S++[x]):=fun k=>by
 by_cases hk:k=x
 ·simp_all[j9Z,d2Z]
 ·rw[duZ (d2Z .i64) M x 1 hk,h k]
  grind
theorem sQZ(p:bP)(M)(S)(stripe)(hM:MS M S):∃w M',HD aB p M stripe=some (w,(M',stripe))/\(w=true↔¬(cV stripe p/\(p.1≠0->p.1∉S)))/\(w=false->MS M' (S++aO [p])):=by
 unfold HD;by_cases h0:p.1=0/\p.2=0
 ·rw[show((p.1==0)&&(p.2==0))=true from by simp[h0.1,h0.2]];refine⟨false,M,rfl,by simp[cV,h0],fun _=> ?_⟩
  simp_all[c0Z]
 rw[show((p.1==0)&&(p.2==0))=false from by
  simp_all]
 have hMp:=hM.put p.1;cases hq:((Option.getD (gX M p.1) 0:Int)==1) with
 |true=>
  have:=(hM p.1).1 hq;refine⟨true,_,rfl,?_,fun h=>by cases h⟩;simp[cV,true_iff]
  grind
 |false=>
  have hn:p.1∉S:=fun h=>by have:=(hM p.1).2 h;rw[hq] at this;cases this
  simp only[ZAD];by_cases h1:p.1<1
  ·rw[show decide (p.1<1)=true from by simp;omega];exact⟨true,_,rfl,by simp only[cV,true_iff];intro h;omega,fun h=>by cases h⟩
  rw[show decide (p.1<1)=false from by simp;omega,ZAD];by_cases h2:p.1>stripe
  ·rw[show decide (p.1>stripe)=true from by simp;omega];exact⟨true,_,rfl,by simp only[cV,true_iff];intro h;omega,fun h=>by cases h⟩
  rw[show decide (p.1>stripe)=false from by simp;omega,ZAD];by_cases h3:p.2<1
  ·rw[show decide (p.2<1)=true from by simp;omega];exact⟨true,_,rfl,by simp only[cV,true_iff];intro h;omega,fun h=>by cases h⟩
  rw[show decide (p.2<1)=false from by simp;omega,ZAD];refine⟨_,_,rfl,?_,fun _=> ?_⟩
  ·simp only[cV,ZAt];constructor
   ·intro h5 h6;omega
   ·intro h5;exact ZBj fun h6=>h5 ⟨.inr (by omega),fun _=>hn⟩
  ·rw[cjZ (by omega)];exact hMp
theorem pBZ(l:List bP)(M)(S)(stripe)(hM:MS M S)(hS:S.Nodup)(hl:l.length<=100000):
 ∃o,kO aB l (0,(M,stripe))=some o/\((∃M',o= .inl (M',stripe)/\(∀p∈l,cV stripe p)/\MS M' (S++aO l)/\(S++aO l).Nodup)\/(∃(k:Nat),∃M',o= .inr ((k:Int),(M',stripe))/\¬((∀p∈l,cV stripe p)/\(S++aO l).Nodup))):=by
 unfold kO;refine a5Z (fun n s=>∃(k:Nat) (M':GM),s=((k:Int),(M',stripe))/\k+n=l.length/\(∀p∈l.take k,cV stripe p)/\MS M' (S++aO (l.take k))/\(S++aO (l.take k)).Nodup) _ (fun n s hI=> ?_) (fun s hI=> ?_) l.length _ (by omega) ⟨0,M,rfl,by omega,by simp,by simp_all[aO],by simp_all[aO]⟩
 ·obtain⟨k,M',rfl,hk,h1,h2,h3⟩:=hI;have hlt:k<l.length:=by omega
  obtain⟨p,hg⟩:∃p,l[k]? =some p:=⟨_,ZAC hlt⟩
  let⟨w,M2,hw,hw2,hw3⟩:=sQZ p M' _ stripe h2
  have ht:l.take (k+1)=l.take k++[p]:=by rw[ZCN,hg];rfl
  unfold oQ;simp only[aEZ hlt];rw[acZ hlt,ZAA,hg,ZAA,hw];cases w with
  |true=>
   right;refine⟨_,rfl,.inr ⟨k,_,rfl,fun h=>hw2.1 rfl ⟨h.1 p (ZAG hg),fun hp0 hm=> ?_⟩⟩⟩;have h5:=by
    have:l=l.take (k+1)++l.drop (k+1):=(ZBA _ _).symm;have h6:=h.2;rw[this,axZ,<-List.append_assoc] at h6;exact(ZBP.1 h6).1
   rw[ht,axZ,<-List.append_assoc,cjZ hp0] at h5;exact(ZBP.1 h5).2.2 _ hm _ (by simp) rfl
  |false=>
   left;have hy:=Classical.not_not.1 fun h=>by have:=hw2.2 h;cases this
   rw[w64 (by omega)];refine⟨_,rfl,k+1,M2,by simp,by omega,?_,?_,?_⟩
   ·rw[ht];intro q hq;rcases ZAc.1 hq with hq|hq
    ·exact h1 q hq
    ·simp at hq;subst hq;exact hy.1
   ·rw[ht,axZ,<-List.append_assoc];exact hw3 rfl
   ·rw[ht,axZ,<-List.append_assoc];by_cases hp0:p.1=0
    ·rw[c0Z hp0,ZAo];exact h3
    ·rw[cjZ hp0];refine ZBP.2 ⟨h3,by simp,fun a ha b hb=> ?_⟩;simp at hb;subst hb;exact fun e=>hy.2 hp0 (e▸ha)
 ·obtain⟨k,M',rfl,hk,h1,h2,h3⟩:=hI;have:k=l.length:=by omega
  subst this;rw[ZAu] at h1 h2 h3;unfold oQ;simp only[aCZ (ZA1 _),ZAD];exact⟨_,rfl,.inl ⟨_,rfl,h1,h2,h3⟩⟩
def NE(stripe:Int)(n:Ino):Prop:=(0<=n.2.2.2.2.1/\n.2.2.2.2.1<=65536)/\n.2.2.2.2.2.2.2=[]/\n.2.2.2.2.2.1.length<=4096/\∀p∈n.2.2.2.2.2.1,cV stripe p
theorem uIZ(n:Ino)(M)(S)(stripe)(hs:n.sm)(hM:MS M S)(hS:S.Nodup):∃b M',AZ aB n stripe M=some (b,M')/\(b=true↔NE stripe n/\(S++aO n.2.2.2.2.2.1).Nodup)/\(b=true->MS M' (S++aO n.2.2.2.2.2.1)):=by
 unfold AZ NE;by_cases h1:n.2.2.2.2.1>=0
 ·rw[show decide (n.2.2.2.2.1>=0)=true from by simp_all];by_cases h2:n.2.2.2.2.1<=65536
  ·rw[show decide (n.2.2.2.2.1<=65536)=true from by simp_all];by_cases h3:n.2.2.2.2.2.2.2=[]
   ·rw[show(((n.2.2.2.2.2.2.2.length:Nat):Int)==0)=true from by simp[h3]];by_cases h4:n.2.2.2.2.2.1.length<=4096
    ·rw[show decide (((n.2.2.2.2.2.1.length:Nat):Int)<=4096)=true from by simp;omega,ZAK]
     let⟨o,ho,hq⟩:=pBZ n.2.2.2.2.2.1 M S stripe hM hS hs.1
     unfold xT xS;rw[ho,ZAA];rcases hq with⟨M',rfl,q1,q2,q3⟩|⟨k,M',rfl,hq⟩
     ·exact⟨_,_,rfl,by simp[h1,h2,h3,h4,q3];exact fun a b hab=>q1 (a,b) hab,fun _=>q2⟩
     ·refine⟨_,_,rfl,?_,?_⟩
      ·constructor
       ·intro h;simp at h
       ·intro h;exact absurd ⟨h.1.2.2.2,h.2⟩ hq
      ·intro h;simp at h
    ·rw[show decide (((n.2.2.2.2.2.1.length:Nat):Int)<=4096)=false from by simp;omega,ZAD];exact⟨_,_,rfl,by simp[h4],fun h=>by cases h⟩
   ·rw[show(((n.2.2.2.2.2.2.2.length:Nat):Int)==0)=false from by simp[h3],ZAD];exact⟨_,_,rfl,by simp[h3],fun h=>by cases h⟩
  ·rw[show decide (n.2.2.2.2.1<=65536)=false from by simp;omega,ZAD];exact⟨_,_,rfl,by simp;intro h;omega,fun h=>by cases h⟩
 ·rw[show decide (n.2.2.2.2.1>=0)=false from by simp;omega,ZAD];exact⟨_,_,rfl,by simp;intro h;omega,fun h=>by cases h⟩
theorem bjZ{l:List Ino}{k}{n}(h:l[k]? =some n):aD (l.take (k+1))=aD (l.take k)++aO n.2.2.2.2.2.1:=by
 simp_all[ZCN,aD]
theorem sxZ{l}{k}(h:(aD l).Nodup):(aD (l.take k)).Nodup:=by
 grind[aD,ZBA,ZBP]
theorem u1Z(n:Ino)(hs:n.sm):∃b,OQ aB n=some b/\(b=true↔n.2.2.1=false/\n.2.2.2.1=false/\n.2.2.2.2.1=0/\n.2.2.2.2.2.2.1=0/\n.2.2.2.2.2.1=[]/\n.2.2.2.2.2.2.2=[]):=by
 unfold OQ;have hs1:=hs.1;have hs2:=hs.2;cases h1:n.2.2.1 with
 |true=>simp_all
 |false=>
  cases h2:n.2.2.2.1 with
  |true=>simp_all
  |false=>
   by_cases h3:n.2.2.2.2.1=0
   ·by_cases h4:n.2.2.2.2.2.2.1=0
    ·rw[w64 (by omega)];simp[h3,h4,true_and];constructor
     ·intro h;exact⟨ZAX (by omega),ZAX (by omega)⟩
     simp_all
    ·refine⟨false,?_,by simp[h4]⟩
     grind
   ·refine⟨false,?_,by simp[h3]⟩
    grind
theorem n5Z(t:cI)(b)(k)(n)(M)(hf:Fit t.1)(hg:t.1[k]? =some n)(hM:MS M (aD (t.1.take k)))(hS:(aD (t.1.take k)).Nodup):
 (∃M',qB aB (b,(t.1,t.2)) t k t.1 t.2 M=some (.inl (((k+1:Nat):Int),(t.1,(t.2,M'))))/\gV t.1.length t.2 k n/\MS M' (aD (t.1.take (k+1)))/\(aD (t.1.take (k+1))).Nodup)\/
 (qB aB (b,(t.1,t.2)) t k t.1 t.2 M=some (.inr (.inr false))/\¬(gV t.1.length t.2 k n/\(aD (t.1.take (k+1))).Nodup)):=by
 have hlt:=(ZAB.1 hg).1;have hn:=hf.n
 let⟨b1,hb1,hb1'⟩:=u1Z n (hf.at hg)
 let⟨b2,hb2,hb2'⟩:=vJZ n ((t.1.length:Nat):Int) (hf.at hg)
 let⟨b3,M3,hb3,hb3',hb3''⟩:=uIZ n M _ t.2 (hf.at hg) hM hS
 rw[<-bjZ hg] at hb3' hb3'';have eid:(!(n.1==((k:Int)+1)))= !decide (n.1=(k:Int)+1):=by simp[BEq.beq]
 have main:∀(ok) (M'),(ok=true->MS M' (aD (t.1.take (k+1)))/\(aD (t.1.take (k+1))).Nodup)->
  ((gV t.1.length t.2 k n/\(aD (t.1.take (k+1))).Nodup)↔(ok=true/\n.1=(k:Int)+1/\(1<=n.2.1/\n.2.1<=1099511627776)/\(n.2.2.1=true->1<=n.2.2.2.2.2.2.1/\n.2.2.2.2.2.2.1<=((t.1.length:Nat):Int))))->
  ∀R,R=(Option.bind (
   bif (!ok) then
    some (true,(t.1,(t.2,M')))
   else
    bif (!(n.1==((k:Int)+1))) then
     some (true,(t.1,(t.2,M')))
    else
     bif (decide (n.2.1<1)) then
      some (true,(t.1,(t.2,M')))
     else
      bif (decide (n.2.1>1099511627776)) then
       some (true,(t.1,(t.2,M')))
      else
       bif n.2.2.1 then
        bif (decide (n.2.2.2.2.2.2.1<1)) then
         some (true,(t.1,(t.2,M')))
        else
         some ((decide (n.2.2.2.2.2.2.1>((t.1.length:Nat):Int))),(t.1,(t.2,M')))
       else
        some (false,(t.1,(t.2,M')))) fun o4=>
  bif o4.1 then
   some (.inr (.inr false))
  else
   some (.inl (((k:Int)+1),(o4.2.1,(o4.2.2.1,o4.2.2.2)))):Option ((Int×(List Ino×(Int×GM)))⊕((List Ino×Int)⊕Bool)))->
  (∃M',R=some (.inl (((k+1:Nat):Int),(t.1,(t.2,M'))))/\gV t.1.length t.2 k n/\MS M' (aD (t.1.take (k+1)))/\(aD (t.1.take (k+1))).Nodup)\/
  (R=some (.inr (.inr false))/\¬(gV t.1.length t.2 k n/\(aD (t.1.take (k+1))).Nodup)):=by
  intro ok M' hok hiff R hR;rw[hiff];cases ok with
  |false=>simp_all
  |true=>
   grind
 have hsucc:=bjZ hg;have htk:n.2.2.2.2.2.1=[]->(aD (t.1.take (k+1)))=aD (t.1.take k):=fun h=>by grind[aO]
 generalize hR:qB aB (b,(t.1,t.2)) t k t.1 t.2 M=R;unfold qB at hR;simp only[aEZ hlt] at hR;rw[acZ hlt,ZAA,hg,ZAA,w64 (by omega)] at hR
 let⟨id,gen,used,dir,size,parts,parent,ents⟩:=n
 dsimp only at*;cases used with
 |true=>
  cases dir with
  |true=>
   refine main b2 M ?_ ?_ R ?_
   ·intro h;have:=(hb2'.1 h).2.1;rw[htk this];exact⟨hM,hS⟩
   ·constructor
    ·intro h;exact⟨hb2'.2 (h.1.dir rfl rfl),h.1.id,h.1.gen,h.1.par⟩
    ·intro h;have h9:=hb2'.1 h.1;exact⟨⟨h.2.1,h.2.2.1,h.2.2.2,fun _ _=>h9,(fun _ h=>by cases h),(fun h=>by cases h)⟩,by rw[htk h9.2.1];exact hS⟩
   ·rw[<-hR,hb1,ZAA];simp only[ZAK,ZAA,hb2]
  |false=>
   refine main b3 M3 (fun h=>⟨hb3'' h,(hb3'.1 h).2⟩) ?_ R ?_
   ·constructor
    ·intro h;exact⟨hb3'.2 ⟨h.1.file rfl rfl,h.2⟩,h.1.id,h.1.gen,h.1.par⟩
    ·intro h;have h9:=hb3'.1 h.1;exact⟨⟨h.2.1,h.2.2.1,h.2.2.2,(fun _ h=>by cases h),fun _ _=>h9.1,(fun h=>by cases h)⟩,h9.2⟩
   ·rw[<-hR,hb1,ZAA];simp only[ZAK,ZAD,ZAA,hb3]
 |false=>
  refine main b1 M ?_ ?_ R ?_
  ·intro h;have:=(hb1'.1 h).2.2.2.2.1;rw[htk this];exact⟨hM,hS⟩
  ·constructor
   ·intro h;exact⟨hb1'.2 ⟨rfl,h.1.bare rfl⟩,h.1.id,h.1.gen,h.1.par⟩
   ·intro h;have h9:=hb1'.1 h.1;exact⟨⟨h.2.1,h.2.2.1,h.2.2.2,(fun h=>by cases h),(fun h=>by cases h),fun _=>h9.2⟩,by rw[htk h9.2.2.2.2.1];exact hS⟩
  ·rw[<-hR,hb1,ZAA];simp only[ZAK,ZAD,ZAA]
theorem mPZ{t:cI}(hf:Fit t.1):∃b,DN aB t=some b/\(b=true↔dD t):=by
 unfold DN;have hn:=hf.n;by_cases h1:t.1.length<1
 ·rw[show decide (((t.1.length:Nat):Int)<1)=true from by simp_all];exact⟨false,rfl,by simp;intro h;have:=h.len;omega⟩
 rw[show decide (((t.1.length:Nat):Int)<1)=false from by grind,ZAD];by_cases h2:t.1.length>500
 ·rw[show decide (((t.1.length:Nat):Int)>500)=true from by grind];exact⟨false,rfl,by simp;intro h;have:=h.len;omega⟩
 rw[show decide (((t.1.length:Nat):Int)>500)=false from by grind,ZAD];by_cases h3:t.2<0
 ·rw[show decide (t.2<0)=true from by simp_all];exact⟨false,rfl,by simp;intro h;have:=h.str;omega⟩
 rw[show decide (t.2<0)=false from by simp_all,ZAD];by_cases h4:t.2>1099511627776
 ·rw[show decide (t.2>1099511627776)=true from by simp_all];exact⟨false,rfl,by simp;intro h;have:=h.str;omega⟩
 rw[show decide (t.2>1099511627776)=false from by simp_all,ZAA];simp only;have loop:∃o,rW aB (false,(t.1,t.2)) t (0,(t.1,(t.2,([],0))))=some o/\((o= .inl (t.1,t.2)/\(∀i n,t.1[i]? =some n->gV t.1.length t.2 i n)/\(aD t.1).Nodup)\/(o= .inr false/\¬((∀i n,t.1[i]? =some n->gV t.1.length t.2 i n)/\(aD t.1).Nodup))):=by
  unfold rW;refine a5Z (fun m s=>∃(k:Nat) (M:GM),s=((k:Int),(t.1,(t.2,M)))/\k+m=t.1.length/\(∀i n,i<k->t.1[i]? =some n->gV t.1.length t.2 i n)/\MS M (aD (t.1.take k))/\(aD (t.1.take k)).Nodup) _ (fun m s hI=> ?_) (fun s hI=> ?_) t.1.length _ (by omega) ⟨0,([],0),rfl,by omega,fun i n h=>absurd h (ZBk _),by grind[aD,MS.nil],by simp[aD]⟩
  ·obtain⟨k,M,rfl,hk,g1,g2,g3⟩:=hI;have hlt:k<t.1.length:=by omega
   obtain⟨n,hg⟩:∃n,t.1[k]? =some n:=⟨_,ZAC hlt⟩;rcases n5Z t false k n M hf hg g2 g3 with⟨M',r1,r2,r3,r4⟩|⟨r1,r2⟩
   ·left;refine⟨_,r1,k+1,M',rfl,by omega,fun i n' hi hgi=> ?_,r3,r4⟩;by_cases hik:i=k
    ·subst hik;rw[hg] at hgi;cases hgi;exact r2
    ·exact g1 i n' (by omega) hgi
   ·right;exact⟨_,r1,.inr ⟨rfl,fun h=>r2 ⟨h.1 k n hg,sxZ h.2⟩⟩⟩
  ·obtain⟨k,M,rfl,hk,g1,g2,g3⟩:=hI;have:k=t.1.length:=by omega
   subst this;rw[ZAu] at g3;unfold qB;simp only[aCZ (ZA1 _),ZAD];exact⟨_,rfl,.inl ⟨rfl,fun i n h=>g1 i n (ZAB.1 h).1 h,g3⟩⟩
 let⟨o,ho,hq⟩:=loop
 rw[ho,ZAA];rcases hq with⟨rfl,q1,q2⟩|⟨rfl,q1⟩
 ·have hlt:0<t.1.length:=by omega
  obtain⟨r,hg⟩:∃r,t.1[0]? =some r:=⟨_,ZAC hlt⟩;simp only[];rw[show aK 0 t.1.length=some 0 from acZ hlt,ZAA,hg,ZAA];have hR:dD t↔(r.2.2.1=true/\r.2.2.2.1=true/\r.2.2.2.2.2.2.1=1):=by
   constructor
   ·intro h;let⟨r',h1,h2⟩:=h.root;rw[hg] at h1;cases h1;exact h2
   ·intro h;exact⟨by omega,by omega,q1,q2,r,hg,h⟩
  rw[hR];cases r.2.2.1 with
  |false=>exact⟨false,rfl,by simp⟩
  |true=>cases r.2.2.2.1 with
   |false=>exact⟨false,rfl,by simp⟩
   |true=>exact⟨_,rfl,by simp⟩
 ·exact⟨false,rfl,by simp;exact fun h=>q1 ⟨h.ino,h.nod⟩⟩
end Go.Ab.D
namespace Go.Ab
section
variable {τ κ ο γ : Type} {hd : τ → Option (List (κ × Nat))} {f : τ → κ × Nat → Option (τ ⊕ ο)}
theorem tlZ{l0:List (κ×Nat)}{t0:τ}{F:τ⊕ο->Option γ}{r:γ}(I:List Nat->τ->Prop)(h0:I [] t0)
 (hhd:∀d t,I d t->∃l,hd t=some l/\∀e,e.2∉d->(e∈l↔e∈l0))
 (hs:∀d t e,I d t->e∈l0->e.2∉d->∃t',f t e=some (.inl t')/\I (e.2::d) t')
 (hf:∀d t,I d t->(∀e∈l0,e.2∈d)->F (.inl t)=some r):CU hd f t0 F=some r:=by
 classical
 have main:∀(n:Nat) (d:List Nat) (t:τ),(l0.filter fun e=>decide (e.2∉d)).length<=n->I d t->MOk hd f (fun o=>F o=some r) (n+1) d t:=by
  intro n;induction n with
  |zero=>
   intro d t hn hi;have hnil:l0.filter (fun e=>decide (e.2∉d))=[]:=ZAX (by omega);have hall:∀e∈l0,e.2∈d:=fun e he=>ZBj fun hc=>by
    have:e∈l0.filter (fun e=>decide (e.2∉d)):=ZBi.2 ⟨he,by simpa using hc⟩;rw[hnil] at this;cases this
   obtain⟨l,hl,hl2⟩:=hhd d t hi;refine⟨l,hl,fun _=>hf d t hi hall,fun e he=> ?_⟩;exfalso;obtain⟨h1,h2⟩:=ZBi.1 he;have h3:e.2∉d:=fun hc=>by simp[aiZ.2 hc] at h2
   exact h3 (hall e ((hl2 e h3).1 h1))
  |succ n ih=>
   intro d t hn hi;obtain⟨l,hl,hl2⟩:=hhd d t hi;refine⟨l,hl,fun hm=>hf d t hi fun e he=>ZBj fun hc=> ?_,fun e he=> ?_⟩
   ·have:e∈xA d l:=ZBi.2 ⟨(hl2 e hc).2 he,by
     cases hq:bA e.2 d with
     |false=>rfl
     |true=>exact absurd (aiZ.1 hq) hc⟩
    rw[hm] at this;cases this
   ·obtain⟨h1,h2⟩:=ZBi.1 he;have h3:e.2∉d:=fun hc=>by simp[aiZ.2 hc] at h2
    have h4:=(hl2 e h3).1 h1;obtain⟨t',ht,hi'⟩:=hs d t e hi h4 h3;refine .inl ⟨t',ht,ih (e.2::d) t' ?_ hi'⟩;have hlt:(l0.filter fun x=>decide (x.2∉e.2::d)).length<(l0.filter fun x=>decide (x.2∉d)).length:=by
     have e1:l0.filter (fun x=>decide (x.2∉e.2::d))=(l0.filter fun x=>decide (x.2∉d)).filter fun x=>decide (x.2≠e.2):=by
      rw[List.filter_filter];congr 1;funext x;by_cases hx:x.2=e.2<;>by_cases hx2:x.2∈d<;>simp[hx,hx2]
     rw[e1];refine List.length_filter_lt_length_iff_exists.2 ⟨e,ZBi.2 ⟨h4,by simpa using h3⟩,by simp⟩
    omega
 exact uhZ (main _ [] t0 (ZAL _) h0)
theorem r7Z{l0:List (κ×Nat)}{t0:τ}{F:τ⊕ο->Option γ}{r:γ}(hhd:hd t0=some l0)(hs:∀e∈l0,f t0 e=some (.inl t0))(hf:F (.inl t0)=some r):CU hd f t0 F=some r:=
 tlZ (l0:=l0) (fun _ t=>t=t0) rfl (fun d t h=>⟨l0,by rw[h];exact hhd,fun e _=>Iff.rfl⟩) (fun d t e h he _=>⟨t0,by rw[h];exact hs e he,rfl⟩) (fun d t h _=>by rw[h];exact hf)
end
section
variable {k v : Ty}
theorem nNZ{a b:Ty}(ha:lI a)(hb:lI b):lI (.pair a b):=fun x y=>by
 show(a.eqb x.1 y.1&&b.eqb x.2 y.2)=true↔_;rw[ZAF,ha,hb];constructor
 ·rintro⟨h1,h2⟩;exact Prod.ext h1 h2
 ·rintro rfl;exact⟨rfl,rfl⟩
structure MW (m:nZ k v):Prop where
 ks:UD m
 ns:(m.1.map (·.2)).Nodup
 lo:∀e∈m.1,e.2<m.2
end
end Go.Ab
namespace Go.Ab.D
open Go Go.Ab
def bQ(s:List UInt8):Bool:=decide (1<=s.length)&&decide (s.length<=30)&& !(s==[46])&& !(s==[46,46])&& !Go.Lib.containsAny s [0,47]
theorem a3Z(s):BB aB s=some (bQ s):=by
 unfold BB bQ;by_cases h1:1<=s.length
 ·rw[show decide (((s.length:Nat):Int)>=1)=true from by simp;omega,ZAJ h1];by_cases h2:s.length<=30
  ·rw[show decide (((s.length:Nat):Int)<=30)=true from by simp;omega,ZAJ h2];cases h3:(s==[46]) with
   |true=>rfl
   |false=>
    cases h4:(s==[46,46]) with
    |true=>rfl
    |false=>
     simp[ZBT];unfold BA;rw[aeZ,ZAA];simp;omega
  ·rw[show decide (((s.length:Nat):Int)<=30)=false from by simp;omega,ZAE h2]
   rfl
 simp_all
def bV(l:List Ino):Nat->Int->Bool
 |0,id=>id==1
 |k+1,id=>bif id==1 then true else match l[(id-1).toNat]? with
  |some n=>n.2.2.1&&bV l k n.2.2.2.2.2.2.1
  |none=>false
theorem nOZ{t}(hr:dD t)(id:Int)(h1:1<=id)(h2:id<=t.1.length):OW aB t id=some (bV t.1 t.1.length id):=by
 have hlen:=hr.len;have loop:∃o,rX aB t (id,(0,(t.1,t.2)))=some o/\((∃i,o= .inl i/\bV t.1 t.1.length id=(i==1))\/(∃b,o= .inr b/\bV t.1 t.1.length id=b)):=by
  unfold rX;refine a5Z (fun n s=>∃(k:Nat) (i:Int),s=(i,((k:Int),(t.1,t.2)))/\k+n=t.1.length/\1<=i/\i<=t.1.length/\bV t.1 t.1.length id=bV t.1 n i) _ (fun n s hI=> ?_) (fun s hI=> ?_) t.1.length _ (by omega) ⟨0,id,rfl,by omega,h1,h2,rfl⟩
  ·obtain⟨k,i,rfl,hk,hi1,hi2,he⟩:=hI;have hlt:k<t.1.length:=by omega
   unfold BC;simp only[aEZ hlt];rw[he];cases hid:(i==1) with
   |true=>
    right;exact⟨_,rfl,.inr ⟨_,rfl,by unfold bV;rw[hid];rfl⟩⟩
   |false=>
    simp only[ZAD];have hlt2:(i-1).toNat<t.1.length:=by omega
    obtain⟨x,hg⟩:∃x,t.1[(i-1).toNat]? =some x:=⟨_,ZAC hlt2⟩;rw[w64 (by omega),a0Z (by omega) (by omega),ZAA,hg,ZAA];have hx:=hr.ino _ _ hg;cases hu:x.2.2.1 with
    |false=>
     right;exact⟨_,rfl,.inr ⟨_,rfl,by unfold bV;rw[hid,hg];simp[hu]⟩⟩
    |true=>
     left;simp only[ZAQ,ZAD];rw[ZAA,hg,ZAA,w64 (by omega)];have hp:=hx.par hu;refine⟨_,rfl,k+1,_,by simp,by omega,hp.1,hp.2,?_⟩
     conv=>lhs;unfold bV
     rw[hid,hg];simp[hu]
  ·obtain⟨k,i,rfl,hk,hi1,hi2,he⟩:=hI;have:k=t.1.length:=by omega
   subst this;unfold BC;simp only[aCZ (ZA1 _),ZAD];exact⟨_,rfl,.inl ⟨i,rfl,he⟩⟩
 let⟨o,ho,h⟩:=loop
 unfold OW
 grind
def cL(l:List Ino):List Ent:=l.flatMap fun n=>n.2.2.2.2.2.2.2
def cnt(l:List Ent)(id:Int):Nat:=(l.filter fun e=>e.2==id).length
theorem htZ(a b)(id):cnt (a++b) id=cnt a id+cnt b id:=by simp[cnt]
theorem uAZ(e)(id):cnt [e] id=if e.2=id then 1 else 0:=by
 grind[cnt,id]
theorem vSZ(l)(id):cnt l id<=l.length:=ZBe _ _
def okE(l:List Ino)(n:Ino)(e:Ent):Prop:=bQ e.1=true/\∃x,l[(e.2-1).toNat]? =some x/\x.2.2.1=true/\x.2.2.2.2.2.2.1=n.1
structure NF (t:cI):Prop where
 r:dD t
 e:∀n∈t.1,∀e∈n.2.2.2.2.2.2.2,okE t.1 n e
 reach:∀n∈t.1,n.2.2.1=true->bV t.1 t.1.length n.1=true
 cnt:∀n∈t.1,cnt (cL t.1) n.1=if n.1=1\/n.2.2.1=false then 0 else 1
theorem cEZ{many}:∀{l} {last},fZ many last l->∀e∈l,1<=e.2/\e.2<=many/\1<=e.1.length/\e.1.length<=30
 |[],_,_,_,h=>by cases h
 |a::r,last,h,e,he=>by
  rw[gjZ] at h;rcases ZAg.1 he with rfl|he
  ·omega
  ·exact cEZ h.2.2.2.2.2 e he
theorem c5Z{many st}{i}{n}(h:gV many st i n):n.2.2.2.2.2.2.2.length<=100/\fZ many [] n.2.2.2.2.2.2.2:=by
 cases hu:n.2.2.1 with
 |false=>rw[(h.bare hu).2.2.2.2];exact⟨by simp,trivial⟩
 |true=>
  cases hd:n.2.2.2.1 with
  |false=>rw[(h.file hu hd).2.1];exact⟨by simp,trivial⟩
  |true=>exact(h.dir hu hd).2.2
theorem vmZ{many st}{i}{n}(h:gV many st i n):n.sm:=by
 refine⟨?_,by have:=(c5Z h).1;omega⟩;cases hu:n.2.2.1 with
 |false=>rw[(h.bare hu).2.2.2.1];simp
 |true=>
  cases hd:n.2.2.2.1 with
  |false=>have:=(h.file hu hd).2.2.1;omega
  |true=>rw[(h.dir hu hd).2.1];simp
theorem dD.fit{t}(h:dD t):Fit t.1:=by
 refine⟨by have:=h.len;omega,fun n hn=> ?_⟩
 let⟨i,hi⟩:=ZAP hn
 exact vmZ (h.ino i n hi)
theorem cQZ{l:List Ino}{k}{n}(h:l[k]? =some n):cL (l.take (k+1))=cL (l.take k)++n.2.2.2.2.2.2.2:=by
 simp_all[cL,ZCN]
theorem lbZ{l}{c}(h:∀n∈l,n.2.2.2.2.2.2.2.length<=c):(cL l).length<=l.length*c:=by
 induction l<;>grind[cL,ZBl,ZCB]
structure Cs (M:List Int) (len:Nat) (es:List Ent):Prop where
 n:M.length=len+1
 v:∀i:Nat,i<=len->M[i]? =some ((cnt es (i:Int):Nat):Int)
theorem Cs.zero(len):Cs (List.replicate (len+1) 0) len []:=
 ⟨by simp,fun i hi=>by rw[List.getElem?_replicate,ZAN (by omega)];simp[cnt]⟩
theorem Cs.add{M}{len}{es}(h:Cs M len es)(e:Ent)(h1:0<=e.2)(h2:e.2<=len):Cs (M.set e.2.toNat ((cnt es e.2:Nat)+1:Int)) len (es++[e]):=by
 refine⟨by rw[ZAv];exact h.n,fun i hi=> ?_⟩;rw[List.getElem?_set,htZ,uAZ];have hn:=h.n;by_cases hc:e.2.toNat=i
 ·grind
 ·rw[ZAM hc,ZAM (by omega),h.v i hi];simp
theorem qMZ(t:cI)(n:Ino)(e:Ent)(M)(es)(hf:t.1.length<=100000)(hM:Cs M t.1.length es)(hs:es.length<=100000000)(h1:1<=e.2)(h2:e.2<=t.1.length):
 ∃w M',HE aB e M t.1 t.2 n.1 n.2.1 n.2.2.1 n.2.2.2.1 n.2.2.2.2.1 n.2.2.2.2.2.1 n.2.2.2.2.2.2.1 n.2.2.2.2.2.2.2=some (w,(M',(t.1,(t.2,n))))/\Cs M' t.1.length (es++[e])/\(w=true↔¬okE t.1 n e):=by
 unfold HE;have hn:=hM.n;have hv:=hM.v e.2.toNat (by omega);rw[ZBn (by omega)] at hv;have hlt2:(e.2-1).toNat<t.1.length:=by omega
 obtain⟨x,hx⟩:∃x,t.1[(e.2-1).toNat]? =some x:=⟨_,ZAC hlt2⟩;have hc:=vSZ es e.2;rw[a0Z (by omega) (by omega),ZAA,hv,ZAA,ZAA,hv,ZAA,w64 (by omega),a0Z (by omega) (by omega),ZAA,hx,a3Z,ZAA,w64 (by omega)];have hC:=hM.add e (by omega) h2;have hw:okE t.1 n e↔(bQ e.1=true/\x.2.2.1=true/\x.2.2.2.2.2.2.1=n.1):=by
  unfold okE;constructor
  ·rintro⟨h3,y,h4,h5⟩;rw[hx] at h4;cases h4;exact⟨h3,h5⟩
  ·rintro⟨h3,h5⟩;exact⟨h3,x,hx,h5⟩
 rw[hw];cases h3:bQ e.1 with
 |false=>exact⟨_,_,rfl,hC,by simp⟩
 |true=>
  cases h4:x.2.2.1 with
  |false=>exact⟨_,_,rfl,hC,by simp⟩
  |true=>exact⟨_,_,rfl,hC,by simp⟩
theorem mfZ(t:cI)(n:Ino)(l:List Ent)(M)(es)(hf:t.1.length<=100000)(hM:Cs M t.1.length es)(hs:es.length<=90000000)(hl:l.length<=100000)(hl2:∀e∈l,1<=e.2/\e.2<=t.1.length):
 ∃w M',wG aB l M t.1 t.2 n.1 n.2.1 n.2.2.1 n.2.2.2.1 n.2.2.2.2.1 n.2.2.2.2.2.1 n.2.2.2.2.2.2.1 n.2.2.2.2.2.2.2=some (w,(M',(t.1,(t.2,n))))/\(w=false->Cs M' t.1.length (es++l))/\(w=true↔¬∀e∈l,okE t.1 n e):=by
 have loop:∃o,kQ aB l (0,(M,(t.1,(t.2,n))))=some o/\((∃M',o= .inl (M',(t.1,(t.2,n)))/\Cs M' t.1.length (es++l)/\∀e∈l,okE t.1 n e)\/(∃(k:Nat),∃M',o= .inr ((k:Int),(M',(t.1,(t.2,n))))/\¬∀e∈l,okE t.1 n e)):=by
  unfold kQ;refine a5Z (fun m s=>∃(k:Nat),∃M',s=((k:Int),(M',(t.1,(t.2,n))))/\k+m=l.length/\Cs M' t.1.length (es++l.take k)/\∀e∈l.take k,okE t.1 n e) _ (fun m s hI=> ?_) (fun s hI=> ?_) l.length _ (by omega) ⟨0,M,rfl,by omega,by simpa using hM,by simp⟩
  ·obtain⟨k,M',rfl,hk,hC,ha⟩:=hI;have hlt:k<l.length:=by omega
   obtain⟨e,hg⟩:∃e,l[k]? =some e:=⟨_,ZAC hlt⟩;have hem:=ZAG hg
   let⟨h1,h2⟩:=hl2 e hem
   let⟨w,M2,hw,hC2,hw2⟩:=qMZ t n e M' (es++l.take k) hf hC (by rw[ZAe,ZAS];omega) h1 h2
   unfold oR;simp only[aEZ hlt,ZAK];rw[acZ hlt,ZAA,hg,ZAA,hw,ZAA];cases w with
   |true=>
    right;exact⟨_,rfl,.inr ⟨k,_,rfl,fun h=>hw2.1 rfl (h e hem)⟩⟩
   |false=>
    left;rw[w64 (by omega)];have hoe:=ZBj fun h=>by have:=hw2.2 h;cases this
    refine⟨_,rfl,k+1,M2,by simp,by omega,?_,?_⟩
    ·rw[ZCN,hg,<-List.append_assoc];exact hC2
    ·intro e' he';rw[ZCN,hg] at he';rcases ZAc.1 he' with h|h
     ·exact ha e' h
     ·simp at h;rw[h];exact hoe
  ·obtain⟨k,M',rfl,hk,hC,ha⟩:=hI;have:k=l.length:=by omega
   subst this;unfold oR;simp only[aCZ (ZA1 _),ZAD];rw[ZAu] at hC ha;exact⟨_,rfl,.inl ⟨M',rfl,hC,ha⟩⟩
 let⟨o,ho,h⟩:=loop
 unfold wG xU;rw[show(n.1,(n.2.1,(n.2.2.1,(n.2.2.2.1,(n.2.2.2.2.1,(n.2.2.2.2.2.1,(n.2.2.2.2.2.2.1,n.2.2.2.2.2.2.2)))))))=n from rfl,ho,ZAA];rcases h with⟨M',rfl,hC,ha⟩|⟨k,M',rfl,ha⟩<;>simp_all
theorem s9Z{t}(hr:dD t):
 ∃o,rY aB t (0,(t.1,(t.2,List.replicate (t.1.length+1) 0)))=some o/\
  ((∃M,o= .inl (t.1,(t.2,M))/\Cs M t.1.length (cL t.1)/\(∀n∈t.1,(∀e∈n.2.2.2.2.2.2.2,okE t.1 n e)/\(n.2.2.1=true->bV t.1 t.1.length n.1=true)))\/
   (o= .inr false/\¬∀n∈t.1,(∀e∈n.2.2.2.2.2.2.2,okE t.1 n e)/\(n.2.2.1=true->bV t.1 t.1.length n.1=true))):=by
 have hlen:=hr.len;unfold rY;refine a5Z (fun m s=>∃(k:Nat),∃M,s=((k:Int),(t.1,(t.2,M)))/\k+m=t.1.length/\Cs M t.1.length (cL (t.1.take k))/\∀n∈t.1.take k,(∀e∈n.2.2.2.2.2.2.2,okE t.1 n e)/\(n.2.2.1=true->bV t.1 t.1.length n.1=true)) _ (fun m s hI=> ?_) (fun s hI=> ?_) t.1.length _ (by omega) ⟨0,_,rfl,by omega,by simp_all[cL,Cs.zero],by simp⟩
 ·obtain⟨k,M,rfl,hk,hC,ha⟩:=hI;have hlt:k<t.1.length:=by omega
  obtain⟨n,hg⟩:∃n,t.1[k]? =some n:=⟨_,ZAC hlt⟩;have hnm:=ZAG hg;have hi:=hr.ino k n hg;have hE:=c5Z hi;have hpre:=by
   have:=lbZ (l:=t.1.take k) (fun n hn=>by
    let⟨i,hi⟩:=ZAP (ZCP hn)
    exact(c5Z (hr.ino i n hi)).1)
   rw[ZAS] at this;omega
  let⟨w,M',hw,hC',hw2⟩:=mfZ t n n.2.2.2.2.2.2.2 M (cL (t.1.take k)) (by omega) hC (by omega) (by omega) (fun e he=>⟨(cEZ hE.2 e he).1,(cEZ hE.2 e he).2.1⟩)
  unfold BD;simp only[aEZ hlt];rw[acZ hlt,ZAA,hg,ZAA,hw,ZAA];cases w with
  |true=>
   grind
  |false=>
   have hall:=ZBj fun h=>by have:=hw2.2 h;cases this
   simp only[ZAD];cases hu:n.2.2.1 with
   |false=>
    left;simp only[ZAD];rw[ZAA];simp only[ZAD];rw[w64 (by omega)];refine⟨_,rfl,k+1,M',by simp,by omega,?_,?_⟩
    ·rw[cQZ hg];exact hC' rfl
    ·intro x hx;rw[ZCN,hg] at hx;rcases ZAc.1 hx with h|h
     ·exact ha x h
     ·simp at h;subst h;exact⟨hall,fun h=>by rw[hu] at h;cases h⟩
   |true=>
    simp only[ZAK];rw[hi.id,nOZ hr _ (by omega) (by omega),ZAA,ZAA];cases hq:bV t.1 t.1.length ((k:Int)+1) with
    |false=>
     right;exact⟨_,rfl,.inr ⟨rfl,fun h=>by have:=(h n hnm).2 hu;rw[hi.id,hq] at this;cases this⟩⟩
    |true=>
     left;simp only[ZAQ,ZAD];rw[w64 (by omega)];refine⟨_,rfl,k+1,M',by simp,by omega,?_,?_⟩
     ·rw[cQZ hg];exact hC' rfl
     ·intro x hx;rw[ZCN,hg] at hx;rcases ZAc.1 hx with h|h
      ·exact ha x h
      ·simp at h;subst h;exact⟨hall,fun _=>by rw[hi.id];exact hq⟩
 ·obtain⟨k,M,rfl,hk,hC,ha⟩:=hI;have:k=t.1.length:=by omega
  subst this;unfold BD;simp only[aCZ (ZA1 _),ZAD];rw[ZAu] at hC ha;exact⟨_,rfl,.inl ⟨M,rfl,hC,ha⟩⟩
theorem sBZ{t}(hr:dD t)(M)(hC:Cs M t.1.length (cL t.1)):
 ∃o,rZ aB (t.1,(t.2,M)) (0,M)=some o/\
  ((o= .inl ()/\∀n∈t.1,cnt (cL t.1) n.1=if n.1=1\/n.2.2.1=false then 0 else 1)\/
   (o= .inr false/\¬∀n∈t.1,cnt (cL t.1) n.1=if n.1=1\/n.2.2.1=false then 0 else 1)):=by
 have hlen:=hr.len;unfold rZ;refine a5Z (fun m s=>∃(k:Nat),s=((k:Int),M)/\k+m=t.1.length/\∀n∈t.1.take k,cnt (cL t.1) n.1=if n.1=1\/n.2.2.1=false then 0 else 1) _ (fun m s hI=> ?_) (fun s hI=> ?_) t.1.length _ (by omega) ⟨0,rfl,by omega,by simp⟩
 ·obtain⟨k,rfl,hk,ha⟩:=hI;have hlt:k<t.1.length:=by omega
  obtain⟨n,hg⟩:∃n,t.1[k]? =some n:=⟨_,ZAC hlt⟩;have hnm:=ZAG hg;have hi:=hr.ino k n hg;have hn:=hC.n;have hv:=hC.v (k+1) (by omega);unfold BE;simp only[aEZ hlt];rw[acZ hlt,ZAA,hg,ZAA];have fin:∀(want:Nat),want=(if n.1=1\/n.2.2.1=false then 0 else 1)->
   (∃s',((aK n.1 M.length).bind fun q3=>(M[q3]?).bind fun r5=>bif (!(r5==(want:Int))) then(some (.inr (.inr false)):Option ((Int×List Int)⊕(Unit⊕Bool))) else some (.inl ((wI ((k:Int)+1)),M)))=some (.inl s')/\∃(j:Nat),s'=((j:Int),M)/\j+m=t.1.length/\∀n∈t.1.take j,cnt (cL t.1) n.1=if n.1=1\/n.2.2.1=false then 0 else 1)\/
   ∃o,((aK n.1 M.length).bind fun q3=>(M[q3]?).bind fun r5=>bif (!(r5==(want:Int))) then(some (.inr (.inr false)):Option ((Int×List Int)⊕(Unit⊕Bool))) else some (.inl ((wI ((k:Int)+1)),M)))=some (.inr o)/\((o= .inl ()/\∀n∈t.1,cnt (cL t.1) n.1=if n.1=1\/n.2.2.1=false then 0 else 1)\/(o= .inr false/\¬∀n∈t.1,cnt (cL t.1) n.1=if n.1=1\/n.2.2.1=false then 0 else 1)):=by
   intro want hwant;have hid:n.1=((k+1:Nat):Int):=by rw[hi.id];simp
   rw[show aK n.1 M.length=some (k+1) from by rw[hid];exact acZ (by omega),ZAA,hv,ZAA,w64 (by omega)];by_cases hc:cnt (cL t.1) ((k+1:Nat):Int)=want
   ·left;rw[hc,ZAd,ZAQ];refine⟨_,rfl,k+1,by simp,by omega,fun x hx=> ?_⟩;rw[ZCN,hg] at hx;rcases ZAc.1 hx with h|h
    ·exact ha x h
    ·simp at h;subst h;rw[<-hwant,<-hc,hid]
   ·right;rw[(ZAW.2 (by omega)),ZAn,ZAK];refine⟨_,rfl,.inr ⟨rfl,fun h=>hc ?_⟩⟩;rw[hwant,<-h n hnm,hid]
  cases hb:(n.1==1) with
  |true=>
   simp only[ZAK,ZAA];exact fin 0 (by rw[ZAN (.inl (ZBz.1 hb))])
  |false=>
   cases hu:n.2.2.1 with
   |false=>
    simp only[ZAD,ZAK,ZAA,ZAn];exact fin 0 (by rw[ZAN (.inr hu)])
   |true=>
    simp only[ZAD,ZAA,ZAQ];exact fin 1 (by rw[ZAM];rintro(h|h);(rw[h] at hb;cases hb);(rw[hu] at h;cases h))
 ·obtain⟨k,rfl,hk,ha⟩:=hI;have:k=t.1.length:=by omega
  subst this;unfold BE;simp only[aCZ (ZA1 _),ZAD];rw[ZAu] at ha;exact⟨_,rfl,.inl ⟨rfl,ha⟩⟩
theorem i1Z{t:cI}(hf:Fit t.1):∃b,FM aB t=some b/\(b=true↔NF t):=by
 let⟨b,hb,hb2⟩:=mPZ hf
 unfold FM;rw[hb,ZAA];cases b with
 |false=>exact⟨false,rfl,by constructor;(intro h;cases h);(intro h;exact hb2.2 h.r)⟩
 |true=>
  have hr:=hb2.1 rfl;have hlen:=hr.len;rw[w64 (by omega),show(((t.1.length:Nat):Int)+1)=((t.1.length+1:Nat):Int) from by simp,aGZ (by simp[asZ];omega),ZAA,aGZ (ZAL _),ZAA,aeZ]
  ·let⟨o,ho,h⟩:=s9Z hr
   rw[ho,ZAA];rcases h with⟨M,rfl,hC,h⟩|⟨rfl,h⟩
   ·simp only
    let⟨o,ho,h'⟩:=sBZ hr M hC
    rw[ho];rcases h' with⟨rfl,h'⟩|⟨rfl,h'⟩
    ·exact⟨true,rfl,by simp;exact⟨hr,fun n hn=>(h n hn).1,fun n hn=>(h n hn).2,h'⟩⟩
    ·exact⟨false,rfl,by simp;exact fun hh=>h' hh.cnt⟩
   ·exact⟨false,rfl,by simp;exact fun hh=>h fun n hn=>⟨hh.e n hn,hh.reach n hn⟩⟩
  grind[ZAm,asZ]
abbrev blt(a b:List UInt8):Bool:=Op.bytesLess a b
theorem bsZ:∀(a),blt a a=false
 |[]=>rfl
 |a::l=>by
  have ih:=bsZ l;simp[Op.bytesLess,ih]
theorem f0Z(a b)(l m):blt (a::l) (b::m)=true↔a<b\/(a=b/\blt l m=true):=by
 simp only[Op.bytesLess]
 simp_all
theorem e1Z:∀{a b c},blt a b=true->blt b c=true->blt a c=true
 |[],[],_,h,_=>by cases h
 |[],_::_,[],_,h=>by cases h
 |[],_::_,_::_,_,_=>rfl
 |_::_,[],_,h,_=>by cases h
 |_::_,_::_,[],_,h=>by cases h
 |x::a,y::b,z::c,h1,h2=>by
  rw[f0Z] at h1 h2⊢;rcases h1 with h1|⟨rfl,h1⟩
  ·rcases h2 with h2|⟨rfl,h2⟩
   ·exact .inl (UInt8.lt_trans h1 h2)
   ·exact .inl h1
  ·rcases h2 with h2|⟨rfl,h2⟩
   ·exact .inl h2
   ·exact .inr ⟨rfl,e1Z h1 h2⟩
theorem kjZ:∀(a b),blt a b=true\/a=b\/blt b a=true
 |[],[]=>.inr (.inl rfl)
 |[],_::_=>.inl rfl
 |_::_,[]=>.inr (.inr rfl)
 |x::a,y::b=>by
  rw[f0Z,f0Z];rcases kjZ a b with h|h|h
  ·by_cases h1:x<y
   ·exact .inl (.inl h1)
   ·by_cases h2:y<x
    ·exact .inr (.inr (.inl h2))
    ·exact .inl (.inr ⟨ZCd (ZCI.1 h2) (ZCI.1 h1),h⟩)
  ·by_cases h1:x<y
   ·exact .inl (.inl h1)
   ·by_cases h2:y<x
    ·exact .inr (.inr (.inl h2))
    ·exact .inr (.inl (by rw[ZCd (ZCI.1 h2) (ZCI.1 h1),h]))
  ·by_cases h1:x<y
   ·exact .inl (.inl h1)
   ·by_cases h2:y<x
    ·exact .inr (.inr (.inl h2))
    ·exact .inr (.inr (.inr ⟨ZCd (ZCI.1 h1) (ZCI.1 h2),h⟩))
theorem qUZ{a b}(h:blt a b=true):blt b a=false:=by
 grind[e1Z,bsZ]
theorem fgZ:∀(a b),(Go.Lib.compareBytes a b<0↔blt a b=true)/\(Go.Lib.compareBytes a b=0↔a=b)
 |[],[]=>by simp[Go.Lib.compareBytes,Op.bytesLess]
 |[],_::_=>by simp[Go.Lib.compareBytes,Op.bytesLess]
 |_::_,[]=>by simp[Go.Lib.compareBytes,Op.bytesLess]
 |x::a,y::b=>by
  have ih:=fgZ a b;rw[f0Z];unfold Go.Lib.compareBytes;by_cases h:x<y
  ·simp[h];intro e;subst e;exact absurd h (UInt8.lt_irrefl _)
  ·by_cases h2:y<x
   ·have:x≠y:=fun e=>by subst e;exact h h2
    simp[h,h2,this]
   ·have:=ZCd (ZCI.1 h2) (ZCI.1 h);subst this;simp[ih.1,ih.2]
def Srt(l:List Ent):Prop:=l.Pairwise fun a b=>blt a.1 b.1=true
theorem hpZ{many}:∀{l} {last},fZ many last l->Srt l/\∀e∈l,blt last e.1=true
 |[],_,_=>⟨List.Pairwise.nil,fun _ h=>by cases h⟩
 |a::r,last,h=>by
  have ih:=hpZ h.2.2.2.2.2;refine⟨List.Pairwise.cons ih.2 ih.1,fun e he=> ?_⟩;rcases ZAg.1 he with rfl|he
  ·exact h.2.2.1
  ·exact e1Z h.2.2.1 (ih.2 e he)
theorem ffZ{many}:∀{l} {last},Srt l->(∀e∈l,blt last e.1=true/\1<=e.1.length/\e.1.length<=30/\1<=e.2/\e.2<=many)->fZ many last l
 |[],_,_,_=>trivial
 |a::r,last,hs,h=>by
  have ha:=h a (by simp);have hs':=ZA6.1 hs;exact⟨ha.2.1,ha.2.2.1,ha.1,ha.2.2.2.1,ha.2.2.2.2,ffZ hs'.2 fun e he=>⟨hs'.1 e he,(h e (by simp[he])).2⟩⟩
def pos(l:List Ent)(s:List UInt8):Nat:=(l.takeWhile fun e=>blt e.1 s).length
def eB(l:List Ent)(s:List UInt8):Bool:=l.any fun e=>e.1==s
def jS(l:List Ent)(s:List UInt8)(id:Int):List Ent:=l.take (pos l s)++[(s,id)]++l.drop (pos l s)
def dS(l:List Ent)(s:List UInt8):List Ent:=l.filter fun e=> !(e.1==s)
theorem qfZ(l)(s):pos l s<=l.length:=(List.takeWhile_prefix _).length_le
theorem kfZ{l}{s}(h:Srt l):∀(i) e,l[i]? =some e->(i<pos l s↔blt e.1 s=true):=by
 induction l with
 |nil=>simp_all
 |cons a l ih=>
  have h':=ZA6.1 h;intro i e he;unfold pos;rw[List.takeWhile_cons];cases ha:blt a.1 s with
  |false=>
   constructor
   ·intro hh;exact absurd hh (ZBk _)
   grind[ZAG,e1Z]
  |true=>
   simp[ZBl];cases i with
   |zero=>simp_all
   |succ i=>
    have:=ih h'.2 i e (by simpa using he);unfold pos at this;rw[<-this];omega
theorem pIZ{l}{s}(h:Srt l):eB l s=true↔∃id,l[pos l s]? =some (s,id):=by
 constructor
 ·intro hh;unfold eB at hh;rw[List.any_eq_true] at hh
  let⟨e,he,hes⟩:=hh
  have hes:=by simpa using hes
  let⟨i,hi⟩:=ZAP he
  have h1:=kfZ (s:=s) h i e hi;rw[hes,bsZ] at h1;have h2:¬i<pos l s:=fun h=>by have:=h1.1 h;cases this
  have h3:¬pos l s<i:=fun hlt=>by
   have hil:=(ZAB.1 hi).1;have hg:l[pos l s]? =some (l[pos l s]'(by omega)):=ZAC (by omega);have h4:=(kfZ (s:=s) h (pos l s) _ hg);have h5:=by
    have:=ZBa.1 h (pos l s) i (by omega) hil hlt;rw[(ZAB.1 hi).2] at this;exact this
   rw[hes] at h5;exact absurd (h4.2 h5) (ZA1 _)
  have:i=pos l s:=by omega
  subst this;exact⟨e.2,by rw[hi,<-hes]⟩
 grind[id,eB,List.any_eq_true,ZAG]
theorem n2Z{l}(s)(h:Srt l)(hl:l.length<=100000):iR aB l s (0,((l.length:Nat):Int))=some ((pos l s:Nat):Int):=by
 unfold iR;have hp:=qfZ l s;obtain⟨o,ho,h2⟩:∃o,iter aB (fun tt=>iX aB l s tt.1 tt.2) (0,((l.length:Nat):Int))=some o/\o=((pos l s:Nat):Int):=by
  refine a5Z (fun n t=>∃i j:Nat,t=((i:Int),(j:Int))/\i<=pos l s/\pos l s<=j/\j<=l.length/\j-i<=n) _ (fun n t hI=> ?_) (fun t hI=> ?_) l.length _ (by omega) ⟨0,l.length,rfl,by omega,hp,by omega,by omega⟩
  ·obtain⟨i,j,rfl,h1,h2,h3,h4⟩:=hI;unfold iX;by_cases hij:i<j
   ·have e0:IntKind.wrap .u64 (wI ((i:Int)+(j:Int)))=((i+j:Nat):Int):=by
     rw[w64 (by omega),wu64 (by omega)];simp
    have e1:wI (Int.fdiv (IntKind.wrap .u64 (wI ((i:Int)+(j:Int)))) 2)=(((i+j)/2:Nat):Int):=by
     rw[e0,show(2:Int)=((2:Nat):Int) from rfl,m3Z,w64 (by omega)]
    have hm:(i+j)/2<l.length:=by omega
    obtain⟨e,hg⟩:∃e,l[(i+j)/2]? =some e:=⟨_,ZAC hm⟩;simp only[aEZ hij,ZAK,e1];rw[acZ hm,ZAA,hg,ZAA];have hc:=fgZ e.1 s;have hlt:=kfZ (s:=s) h _ e hg;have he:DR aB e s=some (Go.Lib.compareBytes e.1 s):=rfl;rw[he,ZAA];left;by_cases hq:Go.Lib.compareBytes e.1 s<0
    ·have hp2:=hlt.2 (hc.1.1 hq);rw[ZAJ hq,ZAK,ZAA,w64 (by omega)];exact⟨_,rfl,(i+j)/2+1,j,by simp,by omega,h2,h3,by omega⟩
    ·have hp2:¬(i+j)/2<pos l s:=fun hh=>hq (hc.1.2 (hlt.1 hh));rw[ZAE hq,ZAD,ZAA];exact⟨_,rfl,i,(i+j)/2,rfl,h1,by omega,by omega,by omega⟩
   ·right;simp only[aCZ hij,ZAD];exact⟨_,rfl,by rw[show i=pos l s from by omega]⟩
  ·obtain⟨i,j,rfl,h1,h2,h3,h4⟩:=hI;unfold iX;have hij:¬i<j:=by omega
   simp only[aCZ hij,ZAD];exact⟨_,rfl,by rw[show i=pos l s from by omega]⟩
 simp_all
theorem i7Z{n:Ino}(s)(h:Srt n.2.2.2.2.2.2.2)(hl:n.2.2.2.2.2.2.2.length<=100000):vW aB n s=some (((pos n.2.2.2.2.2.2.2 s:Nat):Int),eB n.2.2.2.2.2.2.2 s):=by
 unfold vW sB;rw[n2Z s h hl,ZAA];have hat:=pIZ (s:=s) h;by_cases hlt:pos n.2.2.2.2.2.2.2 s<n.2.2.2.2.2.2.2.length
 ·obtain⟨e,hg⟩:∃e,n.2.2.2.2.2.2.2[pos n.2.2.2.2.2.2.2 s]? =some e:=⟨_,ZAC hlt⟩;rw[aEZ hlt,ZAK,acZ hlt,ZAA,hg,ZAA,show DR aB e s=some (Go.Lib.compareBytes e.1 s) from rfl,ZAA,ZAA];congr 2;rw[Bool.eq_iff_iff,hat,hg,ZBz,(fgZ e.1 s).2];constructor
  ·rintro rfl;exact⟨_,rfl⟩
  ·rintro⟨id,h⟩;cases h;rfl
 grind
theorem d9Z{l}{s}{id}{e}:e∈jS l s id↔e=(s,id)\/e∈l:=by
 unfold jS
 grind[ZAc,ZBA,ZCJ]
theorem bHZ{l}{s}{e}:e∈dS l s↔e∈l/\e.1≠s:=by
 simp_all[dS]
theorem dEZ{l}(s)(h:Srt l):Srt (dS l s):=List.Pairwise.filter _ h
theorem aBZ{l}{s}:eB l s=true↔∃id,(s,id)∈l:=by
 simp_all[eB,id]
theorem fFZ{l}{s}(id)(h:Srt l)(hn:eB l s=false):Srt (jS l s id):=by
 have h1:Srt (l.take (pos l s)++l.drop (pos l s)):=by rw[ZBA];exact h
 have h2:=ZB3.1 h1;have lo:∀e∈l.take (pos l s),blt e.1 s=true:=fun e he=>by
  let⟨i,hi⟩:=ZAP he
  have hl:=(ZAB.1 hi).1;rw[ZAS] at hl;rw[ZAq,ZAN (by omega)] at hi;exact(kfZ h i e hi).1 (by omega)
 have hi:∀e∈l.drop (pos l s),blt s e.1=true:=fun e he=>by
  let⟨i,hi⟩:=ZAP he
  rw[ZA4] at hi;have h3:=kfZ (s:=s) h _ e hi;rcases kjZ e.1 s with h4|h4|h4
  ·have:=h3.2 h4;omega
  ·have:eB l s=true:=aBZ.2 ⟨e.2,by rw[<-h4];exact ZAG hi⟩;rw[hn] at this;cases this
  ·exact h4
 refine ZB3.2 ⟨ZB3.2 ⟨h2.1,List.pairwise_singleton _ _,fun a ha b hb=> ?_⟩,h2.2.1,fun a ha b hb=> ?_⟩
 ·rw[ZCJ] at hb;subst hb;exact lo a ha
 grind
theorem dHZ{l}(h:Srt l){s}{a b}(h1:(s,a)∈l)(h2:(s,b)∈l):a=b:=by
 induction l with
 |nil=>grind
 |cons x l ih=>
  have h':=ZA6.1 h;rcases ZAg.1 h1 with e1|e1
  ·grind[ZAg,bsZ]
  ·rcases ZAg.1 h2 with e2|e2
   ·grind[bsZ]
   ·exact ih h'.2 e1 e2
theorem qNZ:∀{l m},Srt l->Srt m->(∀e,e∈l↔e∈m)->l=m
 |[],[],_,_,_=>rfl
 |[],b::m,_,_,h=>by have:=(h b).2 (by simp);grind
 |a::l,[],_,_,h=>by have:=(h a).1 (by simp);grind
 |a::l,b::m,h1,h2,h=>by
  have h1':=ZA6.1 h1;have h2':=ZA6.1 h2;have hab:a=b:=by
   rcases ZAg.1 ((h a).1 (by simp)) with e|e
   ·exact e
   ·rcases ZAg.1 ((h b).2 (by simp)) with e'|e'
    ·exact e'.symm
    ·have q1:=h2'.1 a e;have q2:=h1'.1 b e';rw[qUZ q1] at q2;cases q2
  subst hab;rw[qNZ h1'.2 h2'.2 fun e=> ?_];constructor
  ·intro he;rcases ZAg.1 ((h e).1 (by simp[he])) with e'|e'
   ·subst e';have:=h1'.1 _ he;rw[bsZ] at this;cases this
   ·exact e'
  ·intro he;rcases ZAg.1 ((h e).2 (by simp[he])) with e'|e'
   ·subst e';have:=h2'.1 _ he;rw[bsZ] at this;cases this
   ·exact e'
theorem f7Z(l)(s)(id):(jS l s id).length=l.length+1:=by
 grind[jS,ZAe,ZAS,ZAx,List.length_singleton]
theorem mYZ{l}{s}{id}(h:Srt l)(hm:(s,id)∈l):(dS l s).length+1=l.length:=by
 have e:=qNZ h (fFZ id (dEZ s h) (by
  cases hh:eB (dS l s) s with
  |false=>rfl
  |true=>let⟨i,hi⟩:=aBZ.1 hh;exact absurd rfl (bHZ.1 hi).2)) fun e=>by
   rw[d9Z,bHZ];constructor
   ·intro he;by_cases hs:e.1=s
    ·left;have:(s,e.2)∈l:=by rw[<-hs];exact he
     rw[dHZ h hm this,<-hs]
    ·exact .inr ⟨he,hs⟩
   ·rintro(rfl|he)
    ·exact hm
    ·exact he.1
 grind[f7Z]
inductive Rch (l:List Ino):Int->Prop
 |root:Rch l 1
 |step {id:Int} {x:Ino}:l[(id-1).toNat]? =some x->x.2.2.1=true->Rch l x.2.2.2.2.2.2.1->Rch l id
structure aM (t:cI):Prop where
 r:dD t
 e:∀(i:Nat) n,t.1[i]? =some n->∀s id,(s,id)∈n.2.2.2.2.2.2.2->bQ s=true/\id≠1/\∃x,t.1[(id-1).toNat]? =some x/\x.2.2.1=true/\x.2.2.2.2.2.2.1=(i:Int)+1
 u:∀(j:Nat) x,t.1[j]? =some x->x.2.2.1=true->j≠0->∃n s,t.1[(x.2.2.2.2.2.2.1-1).toNat]? =some n/\(s,(j:Int)+1)∈n.2.2.2.2.2.2.2/\∀s',(s',(j:Int)+1)∈n.2.2.2.2.2.2.2->s'=s
 a:∀(j:Nat) x,t.1[j]? =some x->x.2.2.1=true->Rch t.1 ((j:Int)+1)
theorem erZ(l):∀(k) (id),bV l k id=true->bV l (k+1) id=true
 |0,id,h=>by
  simp_all[bV]
 |k+1,id,h=>by
  unfold bV at h⊢;cases h1:(id==1) with
  |true=>rfl
  |false=>
   rw[h1] at h;cases hg:l[(id-1).toNat]? with
   |none=>rw[hg] at h;cases h
   |some n=>
    rw[hg] at h;simp at h⊢;exact⟨h.1,erZ l k _ h.2⟩
theorem k1Z(l){k m}(h:k<=m){id}(hr:bV l k id=true):bV l m id=true:=by
 induction h<;>grind[erZ]
theorem jZZ{α:Type}{p q}:∀{L:List α},(∀x∈L,p x=true->q x=true)->(∃x∈L,p x=false/\q x=true)->L.countP p+1<=L.countP q
 |[],_,h=>by simp_all
 |a::L,h1,h2=>by
  have h1':=fun x hx=>h1 x (ZAb _ hx);rw[List.countP_cons,List.countP_cons];by_cases hL:∃x∈L,p x=false/\q x=true
  ·have:=jZZ h1' hL;have h3:=h1 a (by simp);cases hp:p a with
   |false=>simp;split<;>omega
   |true=>simp[h3 hp];exact this
  simp_all[List.countP_mono_left]
theorem eVZ{l}(h0:1<=l.length)(hp:∀(j:Nat) x,l[j]? =some x->x.2.2.1=true->1<=x.2.2.2.2.2.2.1/\x.2.2.2.2.2.2.1<=l.length){id}(h1:1<=id)(h2:id<=l.length)(h:Rch l id):bV l l.length id=true:=by
 have stable:∀k,(∀i∈List.range l.length,bV l (k+1) ((i:Int)+1)=true->bV l k ((i:Int)+1)=true)->∀id,Rch l id->1<=id->id<=l.length->bV l k id=true:=by
  intro k hk id h;induction h with
  |root=>intro _ _;exact k1Z l (ZBI k) (by rfl)
  | @step id x hg hu _ ih=>
    intro h1 h2;have hx:=hp _ _ hg hu;have hh:=ih hx.1 hx.2;have h3:bV l (k+1) id=true:=by
     unfold bV;cases hid:(id==1) with
     |true=>rfl
     |false=>rw[ZAD,hg];simp only[hu,hh];rfl
    have:=hk (id-1).toNat (by rw[ZCM];omega);rw[show(((id-1).toNat:Nat):Int)+1=id from by omega] at this;exact this h3
 have grow:∀k,(∃j,j<=k/\∀i∈List.range l.length,bV l (j+1) ((i:Int)+1)=true->bV l j ((i:Int)+1)=true)\/k+1<=(List.range l.length).countP fun i:Nat=>bV l k ((i:Int)+1):=by
  intro k;induction k with
  |zero=>
   right;rw[show 0+1=1 from rfl];refine List.countP_pos_iff.2 ⟨0,by rw[ZCM];omega,by rfl⟩
  |succ k ih=>
   rcases ih with⟨j,hj,h⟩|ih
   ·exact .inl ⟨j,by omega,h⟩
   ·by_cases hs:∀i∈List.range l.length,bV l (k+1) ((i:Int)+1)=true->bV l k ((i:Int)+1)=true
    ·exact .inl ⟨k,by omega,hs⟩
    ·right;have:=jZZ (fun i _=>erZ l k _) (by
      apply ZBj;intro hn;exact hs fun i hi hq=>by
       cases hpp:bV l k ((i:Int)+1) with
       |true=>rfl
       |false=>exact absurd ⟨i,hi,hpp,hq⟩ hn)
     omega
 rcases grow l.length with⟨j,hj,hs⟩|hg
 ·exact k1Z l hj (stable j hs id h h1 h2)
 grind[List.countP_le_length,List.length_range]
theorem fEZ{l}{id}:cnt l id=0↔∀s,(s,id)∉l:=by
 grind[cnt,ZCT,List.filter_eq_nil_iff,id]
theorem n7Z{l}(h:Srt l){id}{s}(hm:(s,id)∈l)(hu:∀s',(s',id)∈l->s'=s):cnt l id=1:=by
 unfold cnt;have hs:Srt (l.filter fun e=>e.2==id):=List.Pairwise.filter _ h;have hin:∀e∈l.filter fun e=>e.2==id,e.1=s:=fun e he=>by
  grind
 have hm':(s,id)∈l.filter fun e=>e.2==id:=ZBi.2 ⟨hm,by simp⟩;cases hL:l.filter (fun e=>e.2==id) with
 |nil=>simp_all
 |cons a r=>
  cases r with
  |nil=>rfl
  |cons b r=>
   rw[hL] at hs hin;have:=(ZA6.1 hs).1 b (by simp)
   simp_all[bsZ]
theorem fSZ{l}{e}:e∈cL l↔∃(i:Nat) (n:Ino),l[i]? =some n/\e∈n.2.2.2.2.2.2.2:=by
 grind[cL,ZCj,ZAP,ZAG]
theorem r3Z{id}:∀{l} {p} {n},l[p]? =some n->(∀(i:Nat) m,i≠p->l[i]? =some m->cnt m.2.2.2.2.2.2.2 id=0)->cnt (cL l) id=cnt n.2.2.2.2.2.2.2 id
 |[],_,_,h,_=>by grind
 |a::l,p,n,h,h2=>by
  have e1:cL (a::l)=a.2.2.2.2.2.2.2++cL l:=by simp[cL]
  rw[e1,htZ];cases p with
  |zero=>
   simp at h;subst h;have:=fEZ.2 fun s hs=>by
    obtain⟨i,m,hm,he⟩:=fSZ.1 hs;exact fEZ.1 (h2 (i+1) m (by omega) (by simpa using hm)) s he
   omega
  |succ p=>
   have h0:=h2 0 a (by omega) (by simp);have:=r3Z (by simpa using h) fun i m hi hm=>h2 (i+1) m (by omega) (by simpa using hm);omega
theorem dD.id{t}(h:dD t){i:Nat}{n}(hg:t.1[i]? =some n):n.1=(i:Int)+1:=by
 have:=(h.ino i n hg).id;omega
theorem dD.srt{t}(h:dD t){i:Nat}{n}(hg:t.1[i]? =some n):Srt n.2.2.2.2.2.2.2:=(hpZ (c5Z (h.ino i n hg)).2).1
theorem dD.entid{t}(h:dD t){i:Nat}{n}(hg:t.1[i]? =some n){s}{id}(he:(s,id)∈n.2.2.2.2.2.2.2):1<=id/\id<=t.1.length:=by
 have:=cEZ (c5Z (h.ino i n hg)).2 _ he;omega
theorem dD.lt{t}(_h:dD t){i}{n}(hg:t.1[i]? =some n):i<t.1.length:=(ZAB.1 hg).1
theorem dD.isdir{t}(h:dD t){i:Nat}{n}(hg:t.1[i]? =some n){e}(he:e∈n.2.2.2.2.2.2.2):n.2.2.1=true/\n.2.2.2.1=true:=by
 have ho:=h.ino i n hg;cases hu:n.2.2.1 with
 |false=>rw[(ho.bare hu).2.2.2.2] at he;grind
 |true=>
  cases hd:n.2.2.2.1 with
  |false=>rw[(ho.file hu hd).2.1] at he;grind
  |true=>simp_all
theorem r9Z{t}(h:aM t):NF t:=by
 refine⟨h.r,fun n hn e he=> ?_,fun n hn hu=> ?_,fun n hn=> ?_⟩
 ·let⟨i,hi⟩:=ZAP hn
  let⟨h1,_,x,h2,h3,h4⟩:=h.e i n hi e.1 e.2 he
  exact⟨h1,x,h2,h3,by rw[h4,h.r.id hi]⟩
 ·let⟨i,hi⟩:=ZAP hn
  have hlt:=h.r.lt hi;rw[h.r.id hi];exact eVZ h.r.len.1 (fun j x hx hxu=>(h.r.ino j x hx).par hxu) (by omega) (by omega) (h.a i n hi hu)
 ·let⟨i,hi⟩:=ZAP hn
  have hid:=h.r.id hi;by_cases hc:n.1=1\/n.2.2.1=false
  ·rw[ZAN hc];refine fEZ.2 fun s hs=> ?_
   let⟨k,m,hm,he⟩:=fSZ.1 hs
   let⟨_,h1,x,h2,h3,_⟩:=h.e k m hm _ _ he
   rcases hc with hc|hc
   ·exact h1 hc
   ·rw[hid,show((i:Int)+1-1).toNat=i from by omega,hi] at h2;cases h2;rw[hc] at h3;cases h3
  ·rw[ZAM hc];have hu:n.2.2.1=true:=by
    cases hu:n.2.2.1 with
    |true=>rfl
    |false=>exact absurd (.inr hu) hc
   have hi0:i≠0:=fun h0=>hc (.inl (by rw[hid,h0];rfl))
   let⟨m,s,hm,hs,hq⟩:=h.u i n hi hu hi0
   rw[r3Z hm,hid]
   ·exact n7Z (h.r.srt hm) hs hq
   ·intro k y hk hy;refine fEZ.2 fun s' hs'=> ?_
    let⟨_,_,x,h2,_,h4⟩:=h.e k y hy _ _ hs'
    rw[hid,show((i:Int)+1-1).toNat=i from by omega,hi] at h2;cases h2;rw[h4] at hk;omega
theorem bBZ{t}(h:aM t):FM aB t=some true:=by
 let⟨b,hb,hq⟩:=i1Z h.r.fit
 simp_all[r9Z]
def IsH(l:List Ino)(h:Int×Int)(n:Ino):Prop:=1<=h.1/\l[(h.1-1).toNat]? =some n/\n.2.2.1=true/\n.2.1=h.2
def IsD(l:List Ino)(h:Int×Int)(n:Ino):Prop:=IsH l h n/\n.2.2.2.1=true
theorem icZ{t:cI}(hf:Fit t.1){h}(hn:¬∃n,IsH t.1 h n):gR aB t h=some (0,0,false,false,0,[],0,[],170):=by
 unfold gR Pd Pe Pf Pg Ph Pi PF PI;have hlen:=hf.n;by_cases h1:h.1<1
 ·rw[ZAJ h1,ZAK];rfl
 rw[ZAE h1,ZAD,ZAA];by_cases h2:h.1>((t.1.length:Nat):Int)
 ·simp[ZAJ h2]
 simp only[ZAE h2,ZAD];rw[w64 (by omega),a0Z (by omega) (by omega),ZAA];obtain⟨x,hx⟩:∃x,t.1[(h.1-1).toNat]? =some x:=⟨_,ZAC (by omega)⟩;rw[hx,ZAA];cases hu:x.2.2.1 with
 |false=>simp[ZAA]
 |true=>
  simp only[ZAQ,ZAD,ZAA];cases hg:(x.2.1==h.2) with
  |false=>simp[ZAK]
  |true=>exact absurd ⟨x,by omega,hx,hu,by simpa using hg⟩ hn
theorem f5Z{t:cI}(hf:Fit t.1){h}{n}(hn:IsH t.1 h n):gR aB t h=some (n.1,n.2.1,n.2.2.1,n.2.2.2.1,n.2.2.2.2.1,n.2.2.2.2.2.1,n.2.2.2.2.2.2.1,n.2.2.2.2.2.2.2,0):=by
 unfold gR Pd Pe Pf Pg Ph Pi PF PI;have hlen:=hf.n
 let⟨h1,hx,hu,hg⟩:=hn
 let⟨n1,n2,n3,n4,n5,n6,n7,n8⟩:=n
 subst hu hg;have hlt:=(ZAB.1 hx).1;rw[ZAE (show¬h.1<1 by omega),ZAD,ZAA];simp only[ZAE (show¬h.1>((t.1.length:Nat):Int) by omega)];rw[w64 (by omega),a0Z (by omega) (by omega),ZAA,hx];simp[ZAd];rw[mnZ (hf.at hx),ZAA]
def eD(l:List Ino)(h:Int×Int):Int:=
 if 1<=h.1 then match l[(h.1-1).toNat]? with
  |some n=>if n.2.2.1=true/\n.2.1=h.2 then if n.2.2.2.1 then 0 else 173 else 170
  |none=>170
 else 170
theorem ceZ{l}{h}{n}(a:IsD l h n):eD l h=0:=by
 let⟨⟨h1,hx,hu,hg⟩,hd⟩:=a
 simp_all[eD]
theorem btZ(l)(h):(∃n,IsD l h n)\/(eD l h≠0/\((¬∃n,IsH l h n)/\eD l h=170\/∃n,IsH l h n/\n.2.2.2.1=false/\eD l h=173)):=by
 unfold eD;by_cases h1:1<=h.1
 ·rw[ZAN h1];cases hx:l[(h.1-1).toNat]? with
  |none=>right;exact⟨by simp,.inl ⟨fun⟨n,hn⟩=>(by have:=hn.2.1;rw[hx] at this;cases this),rfl⟩⟩
  |some n=>
   simp only;by_cases hu:n.2.2.1=true/\n.2.1=h.2
   ·rw[ZAN hu];cases hd:n.2.2.2.1 with
    |true=>left;exact⟨n,⟨h1,hx,hu.1,hu.2⟩,hd⟩
    |false=>right;exact⟨by simp,.inr ⟨n,⟨h1,hx,hu.1,hu.2⟩,hd,by simp⟩⟩
   ·rw[ZAM hu];right;exact⟨by simp,.inl ⟨fun⟨m,hm⟩=>by
     have:=hm.2.1;rw[hx] at this;cases this;exact hu ⟨hm.2.2.1,hm.2.2.2⟩,by rfl⟩⟩
 ·rw[ZAM h1];right;exact⟨by simp,.inl ⟨fun⟨n,hn⟩=>h1 hn.1,rfl⟩⟩
theorem iTZ{t:cI}(hf:Fit t.1){h}(hb:eD t.1 h≠0):∃v:Ino,FQ aB t h=some (v.1,v.2.1,v.2.2.1,v.2.2.2.1,v.2.2.2.2.1,v.2.2.2.2.2.1,v.2.2.2.2.2.2.1,v.2.2.2.2.2.2.2,eD t.1 h):=by
 rcases btZ t.1 h with⟨n,hn⟩|⟨_,hn|⟨n,hn,hd,he⟩⟩
 ·grind[ceZ]
 ·unfold FQ;rw[icZ hf hn.1,hn.2];exact⟨(0,0,false,false,0,[],0,[]),rfl⟩
 ·unfold FQ;rw[f5Z hf hn,he];simp only[hd];exact⟨(0,0,false,false,0,[],0,[]),rfl⟩
theorem hkZ{t:cI}(hf:Fit t.1){h}{n}(hn:IsD t.1 h n):FQ aB t h=some (n.1,n.2.1,n.2.2.1,n.2.2.2.1,n.2.2.2.2.1,n.2.2.2.2.2.1,n.2.2.2.2.2.2.1,n.2.2.2.2.2.2.2,0):=by
 unfold FQ;rw[f5Z hf hn.1];simp[hn.2,ZAD]
theorem bmZ{t:cI}(hf:Fit t.1){l}{k:Nat}{d}{n}{out:List Ino}(hl:l.length<=10)(hk:l[k]? =some d)(hn:IsD t.1 d n)(ho:out.length<=10):
 nF aB l (k:Int) t.1 t.2 out=some (.inl (((k+1:Nat):Int),t.1,t.2,out++[n])):=by
 have hlt:=(ZAB.1 hk).1;unfold nF;rw[aEZ hlt,acZ hlt,ZAA,hk,ZAA,hkZ hf hn,ZAA];rw[aeZ (by simp[asZ];omega),w64 (by omega)]
 rfl
theorem cqZ{t:cI}(hf:Fit t.1){l}{k:Nat}{d}{out:List Ino}(hk:l[k]? =some d)(hb:eD t.1 d≠0):
 nF aB l (k:Int) t.1 t.2 out=some (.inr (.inr (eD t.1 d,[]))):=by
 have hlt:=(ZAB.1 hk).1
 let⟨v,hv⟩:=iTZ hf hb
 unfold nF;rw[aEZ hlt,acZ hlt,ZAA,hk,ZAA,hv]
 grind
theorem rlZ{t:cI}{l}{k:Nat}{out:List Ino}(hk:l.length=k):nF aB l (k:Int) t.1 t.2 out=some (.inr (.inl out)):=by
 simp_all[nF,ZAD]
theorem pWZ:∃m,aB=m+1+1+1:=⟨4611686018427387901,rfl⟩
theorem dBZ{t}(h:aM t){d}(hb:eD t.1 d≠0):qV aB t [d]=some (eD t.1 d,[]):=by
 unfold qV iQ;rw[bBZ h,ZAA,ZAQ,ZAD]
 let⟨m,hm⟩:=pWZ
 conv=>lhs;arg 1;arg 1;rw[hm]
 rw[c3Z (by exact cqZ h.r.fit rfl hb)]
 rfl
theorem aHZ{t}(h:aM t){d}{n}(hn:IsD t.1 d n):qV aB t [d]=some (0,[n]):=by
 unfold qV iQ;rw[bBZ h,ZAA,ZAQ,ZAD]
 let⟨m,hm⟩:=pWZ
 conv=>lhs;arg 1;arg 1;rw[hm]
 rw[dSZ (by exact bmZ h.r.fit (by simp) rfl hn (by simp))]
 rfl
theorem lEZ{t}(h:aM t){d e}(hb:eD t.1 d≠0):qV aB t [d,e]=some (eD t.1 d,[]):=by
 unfold qV iQ;rw[bBZ h,ZAA,ZAQ,ZAD]
 let⟨m,hm⟩:=pWZ
 conv=>lhs;arg 1;arg 1;rw[hm]
 rw[c3Z (by exact cqZ h.r.fit rfl hb)]
 rfl
theorem mkZ{t}(h:aM t){d e}{n}(hn:IsD t.1 d n)(hb:eD t.1 e≠0):qV aB t [d,e]=some (eD t.1 e,[]):=by
 unfold qV iQ;rw[bBZ h,ZAA,ZAQ,ZAD]
 let⟨m,hm⟩:=pWZ
 conv=>lhs;arg 1;arg 1;rw[hm]
 rw[dSZ (by exact bmZ h.r.fit (by simp) rfl hn (by simp)),
  c3Z (by exact cqZ h.r.fit rfl hb)]
 rfl
theorem bbZ{t}(h:aM t){d e}{n m}(hn:IsD t.1 d n)(hm:IsD t.1 e m):qV aB t [d,e]=some (0,[n,m]):=by
 unfold qV iQ;rw[bBZ h,ZAA,ZAQ,ZAD]
 let⟨k,hk⟩:=pWZ
 conv=>lhs;arg 1;arg 1;rw[hk]
 rw[dSZ (by exact bmZ h.r.fit (by simp) rfl hn (by simp)),
  dSZ (by exact bmZ h.r.fit (by simp) rfl hm (by simp))]
 rfl
theorem aM.ent{t}(h:aM t){d}{n}(hn:IsD t.1 d n){s}{id}(he:(s,id)∈n.2.2.2.2.2.2.2):bQ s=true/\2<=id/\id<=t.1.length/\∃x,t.1[(id-1).toNat]? =some x/\x.2.2.1=true/\x.2.2.2.2.2.2.1=d.1:=by
 let⟨h1,h2,x,h3,h4,h5⟩:=h.e _ n hn.1.2.1 s id he
 have:=h.r.entid hn.1.2.1 he;exact⟨h1,by omega,this.2,x,h3,h4,by have:=hn.1.1;omega⟩
theorem aM.srt{t}(h:aM t){d}{n}(hn:IsH t.1 d n):Srt n.2.2.2.2.2.2.2:=h.r.srt hn.2.1
theorem aM.few{t}(h:aM t){d}{n}(hn:IsH t.1 d n):n.2.2.2.2.2.2.2.length<=100:=(c5Z (h.r.ino _ _ hn.2.1)).1
theorem aM.ent_ok{t}(h:aM t){d}{n}(hn:IsD t.1 d n)(s):vW aB n s=some (((pos n.2.2.2.2.2.2.2 s:Nat):Int),eB n.2.2.2.2.2.2.2 s):=
 i7Z s (h.srt hn.1) (by have:=h.few hn.1;omega)
theorem dqZ{l}{s}{id}(h:Srt l)(hm:(s,id)∈l):l[pos l s]? =some (s,id):=by
 let⟨id',h'⟩:=(pIZ h).1 (aBZ.2 ⟨id,hm⟩)
 grind[dHZ,ZAG]
theorem nXZ{t}(h:aM t){d}(s)(hb:eD t.1 d≠0):xV aB t d s=some (0,0,eD t.1 d):=by
 unfold xV;rw[dBZ h hb]
 grind
theorem lvZ{t}(h:aM t){d}{n}{s}(hn:IsD t.1 d n)(hs:bQ s=false):xV aB t d s=some (0,0,176):=by
 unfold xV;rw[aHZ h hn]
 simp_all[a3Z]
theorem mjZ{t}(h:aM t){d}{n}{s}(hn:IsD t.1 d n)(hs:bQ s=true)(hh:eB n.2.2.2.2.2.2.2 s=false):xV aB t d s=some (0,0,171):=by
 unfold xV;rw[aHZ h hn,ZAA];rw[a3Z,ZAA,hs];rw[show aK 0 [n].length=some 0 from rfl,ZAA,show[n][0]? =some n from rfl,ZAA,h.ent_ok hn,hh]
 rfl
theorem laZ{t}(h:aM t){d}{n x}{s}{id}(hn:IsD t.1 d n)(he:(s,id)∈n.2.2.2.2.2.2.2)(hx:t.1[(id-1).toNat]? =some x):xV aB t d s=some (id,x.2.1,0):=by
 let⟨h1,h2,h3,y,h4,h5,h6⟩:=h.ent hn he
 have hlen:=h.r.len;have hp:=dqZ (h.srt hn.1) he;have hpl:=(ZAB.1 hp).1;unfold xV;rw[aHZ h hn,ZAA];simp only[ZAd,ZAD];rw[a3Z,ZAA,h1];rw[show aK 0 [n].length=some 0 from rfl,ZAA,show[n][0]? =some n from rfl,ZAA,h.ent_ok hn,aBZ.2 ⟨id,he⟩];simp only[ZAQ,ZAD,ZAA];rw[show[n][0]? =some n from rfl,ZAA,acZ hpl,ZAA,hp,ZAA,w64 (by omega),a0Z (by omega) (by omega),ZAA,hx,ZAA]
def iH(l:List Ent)(s:List UInt8):List Ent:=l.drop (pos l s+if eB l s then 1 else 0)
theorem sAZ{t}(h:aM t){d}(s)(most)(hb:eD t.1 d≠0):fR aB t d s most=some (false,eD t.1 d,[]):=by
 unfold fR PF;rw[dBZ h hb]
 grind
theorem s8Z{t}(h:aM t){d}{n}(s){most}(hn:IsD t.1 d n)(hm:most<0\/most>4096):fR aB t d s most=some (false,2,[]):=by
 unfold fR PF;rw[aHZ h hn]
 grind
theorem pYZ{t}(h:aM t){d}{n}(s){most:Nat}(hn:IsD t.1 d n)(hm:most<=4096):
 fR aB t d s (most:Int)=some (decide ((iH n.2.2.2.2.2.2.2 s).length>most),0,(iH n.2.2.2.2.2.2.2 s).take most):=by
 unfold fR PF;rw[aHZ h hn,ZAA];simp only[ZAD];rw[ZAE (show¬((most:Int)<0) by omega)];simp only[ZAD,ZAA];rw[ZAE (show¬((most:Int)>4096) by omega)];simp only[ZAD];rw[show aK 0 [n].length=some 0 from rfl,ZAA,show[n][0]? =some n from rfl,ZAA,h.ent_ok hn,ZAA];have hfew:=h.few hn.1;have hpl:=qfZ n.2.2.2.2.2.2.2 s;have hq:pos n.2.2.2.2.2.2.2 s+(if eB n.2.2.2.2.2.2.2 s=true then 1 else 0)<=n.2.2.2.2.2.2.2.length:=by
  cases hh:eB n.2.2.2.2.2.2.2 s with
  |false=>simpa using hpl
  |true=>
   let⟨id,h'⟩:=(pIZ (h.srt hn.1)).1 hh
   have:=(ZAB.1 h').1;simp;omega
 have e1:(bif eB n.2.2.2.2.2.2.2 s then some ((wI (((pos n.2.2.2.2.2.2.2 s:Nat):Int)+1)),[n]) else some (((pos n.2.2.2.2.2.2.2 s:Nat):Int),[n]):Option (Int×List Ino))=some (((pos n.2.2.2.2.2.2.2 s+(if eB n.2.2.2.2.2.2.2 s=true then 1 else 0):Nat):Int),[n]):=by
  cases hh:eB n.2.2.2.2.2.2.2 s with
  |false=>rfl
  |true=>simp only;rw[w64 (by omega)];simp
 simp only;rw[e1,ZAA];simp only;rw[show aK 0 [n].length=some 0 from rfl,ZAA,show[n][0]? =some n from rfl,ZAA,aGZ hq,ZAA];show(bL (if(most:Int)<(((iH n.2.2.2.2.2.2.2 s).length:Nat):Int) then(most:Int) else(((iH n.2.2.2.2.2.2.2 s).length:Nat):Int)) (iH n.2.2.2.2.2.2.2 s).length).bind _=_;rw[show(if(most:Int)<(((iH n.2.2.2.2.2.2.2 s).length:Nat):Int) then(most:Int) else(((iH n.2.2.2.2.2.2.2 s).length:Nat):Int))=((min most (iH n.2.2.2.2.2.2.2 s).length:Nat):Int) from by split<;>omega,aGZ (by omega),ZAA,d7Z (by rw[ZAS];show _<=_;omega),ZAA];show some (decide ((((iH n.2.2.2.2.2.2.2 s).length:Nat):Int)>(most:Int)),(0:Int),(iH n.2.2.2.2.2.2.2 s).take (min most (iH n.2.2.2.2.2.2.2 s).length))=_;congr 2
 ·simp
 ·congr 1;rw[List.take_eq_take_iff];omega
end Go.Ab.D
namespace Go.Ab
theorem aRZ{α:Type}(p)(A)(d:α):(A++[d]).filter p=A.filter p++(if p d=true then[d] else[]):=by
 grind
theorem taZ{α}(p:α->Bool)(L)(n:Nat)(hn)(hL:L.length<=1000000000000)(h1:p L[n]=true)(h2:∀j (hj:j<n),p L[j]=false)
 (f)
 (hs:∀(i j:Nat) (h:List α) x,i<j->j<h.length->h.length<=1000000000000->h[j]? =some x->f ((i:Int),((j:Int),h))=some (.inl (if p x=true then((i:Int),(((j+1:Nat):Int),h)) else(((i+1:Nat):Int),(((j+1:Nat):Int),h.set i x)))))
 (he:∀(i:Nat) (h:List α),f ((i:Int),(((h.length:Nat):Int),h))=some (.inr ((i:Int),h))):
 ∃h',iter aB f ((n:Int),(((n+1:Nat):Int),L))=some ((((L.filter fun x=> !p x).length:Nat):Int),h')/\h'.length=L.length/\h'.take (L.filter fun x=> !p x).length=L.filter fun x=> !p x:=by
 have first:(L.take (n+1)).filter (fun x=> !p x)=L.take n:=by
  rw[ZBF hn,aRZ];simp only[h1,ZAQ,ZA7,ZCR,ZAo];rw[ZBm];intro d hd;obtain⟨j,hj,rfl⟩:=List.getElem_of_mem hd;have hj':j<n:=by simp at hj;omega
  have:=h2 j hj';simpa using this
 have:=a5Z (f:=f) (fun m s=>∃(i j:Nat) (h:List α),s=((i:Int),((j:Int),h))/\j+m=L.length/\i<j/\h.length=L.length/\i=((L.take j).filter fun x=> !p x).length/\h.take i=(L.take j).filter (fun x=> !p x)/\∀k,j<=k->h[k]? =L[k]?)
  (fun o=>∃h',o=((((L.filter fun x=> !p x).length:Nat):Int),h')/\h'.length=L.length/\h'.take (L.filter fun x=> !p x).length=L.filter fun x=> !p x) (fun m s hI=> ?_) (fun s hI=> ?_) (L.length-(n+1)) ((n:Int),(((n+1:Nat):Int),L)) (by omega)
  ⟨n,n+1,L,rfl,by omega,by omega,rfl,by grind,by grind,fun k _=>rfl⟩
 ·grind
 ·obtain⟨i,j,h,rfl,g1,g2,g3,g4,g5,g6⟩:=hI;have hj:j<L.length:=by omega
  have hx:h[j]? =some L[j]:=by rw[g6 j (ZAL _),ZAC hj]
  left;have ht:L.take (j+1)=L.take j++[L[j]]:=ZBF hj;rw[hs i j h _ g2 (by omega) (by omega) hx];cases hp:p L[j] with
  |true=>
   rw[ZAN rfl];refine⟨_,rfl,i,j+1,h,rfl,by omega,by omega,g3,?_,?_,fun k hk=>g6 k (by omega)⟩
   ·rw[ht,aRZ];simp[hp,g4]
   grind[aRZ]
  |false=>
   rw[ZAM (by simp)];have hi:i<h.length:=by omega
   refine⟨_,rfl,i+1,j+1,h.set i L[j],rfl,by omega,by omega,by simpa using g3,?_,?_,fun k hk=>by rw[ZAa (by omega)];exact g6 k (by omega)⟩
   ·rw[ht,aRZ];simp[hp,g4]
   ·rw[ht,aRZ,ZBF (by simpa using hi),List.getElem_set_self,List.take_set_of_le (ZAL _),g5];simp[hp]
 ·obtain⟨i,j,h,rfl,g1,g2,g3,g4,g5,g6⟩:=hI;have hj:j=h.length:=by omega
  subst hj;have htk:L.take h.length=L:=by rw[g3];exact ZAu
  rw[htk] at g4 g5;subst g4;exact⟨_,he _ h,h,rfl,g3,g5⟩
theorem sTZ{α:Type}(p)(L:List α)(hL:L.length<=1000000000000)(f:Int->Option (Int⊕(Unit⊕Int)))
 (hs:∀(i:Nat) x,L[i]? =some x->f (i:Int)=some (if p x=true then .inr (.inr (i:Int)) else .inl ((i+1:Nat):Int)))
 (he:f ((L.length:Nat):Int)=some (.inr (.inl ()))):
 iter aB f 0=some (match L.findIdx? p with|some n=>.inr (n:Int)|none=>.inl ()):=by
 have:=a5Z (f:=f) (fun m s=>∃(i:Nat),s=(i:Int)/\i+m=L.length/\∀k,k<i->∀x,L[k]? =some x->p x=false)
  (fun o=>o=(match L.findIdx? p with|some n=>.inr (n:Int)|none=>.inl ())) (fun m s hI=> ?_) (fun s hI=> ?_) L.length 0 (by omega) ⟨0,rfl,by omega,fun k h=>absurd h (ZBk _)⟩
 ·obtain⟨o,ho,rfl⟩:=this;exact ho
 ·obtain⟨i,rfl,g1,g2⟩:=hI;have hi:i<L.length:=by omega
  have hx:L[i]? =some L[i]:=ZAC hi;rw[hs i _ hx];cases hp:p L[i] with
  |true=>
   right;refine⟨_,by rw[ZAN rfl],?_⟩;have:L.findIdx? p=some i:=ZA2.2 ⟨hi,hp,fun j hj=>by simpa using g2 j hj _ (ZAC (by omega))⟩;rw[this]
  |false=>
   left;refine⟨_,by rw[ZAM (by simp)],i+1,rfl,by omega,fun k hk x hx'=> ?_⟩;by_cases hki:k=i
   ·subst hki;rw[hx] at hx';cases hx';exact hp
   ·exact g2 k (by omega) x hx'
 grind[ZBx,ZAP,ZAB]
theorem jBZ{α γ}(c)(p:α->Bool)(L)(n:Nat)(hn)(hL:L.length<=1000000000000)(h1:p L[n]=true)(h2:∀j (hj:j<n),p L[j]=false)
 (f:Int×(Int×(List α×γ))->Option ((Int×(Int×(List α×γ)))⊕(Int×(List α×γ))))
 (hs:∀(i j) (h:List α) x,i<j->j<h.length->h.length<=1000000000000->h[j]? =some x->f ((i:Int),((j:Int),(h,c)))=some (.inl (if p x=true then((i:Int),(((j+1:Nat):Int),(h,c))) else(((i+1:Nat):Int),(((j+1:Nat):Int),(h.set i x,c))))))
 (he:∀(i:Nat) (h),f ((i:Int),(((h.length:Nat):Int),(h,c)))=some (.inr ((i:Int),(h,c)))):
 ∃h',iter aB f ((n:Int),(((n+1:Nat):Int),(L,c)))=some ((((L.filter fun x=> !p x).length:Nat):Int),(h',c))/\h'.length=L.length/\h'.take (L.filter fun x=> !p x).length=L.filter fun x=> !p x:=by
 have first:(L.take (n+1)).filter (fun x=> !p x)=L.take n:=by
  rw[ZBF hn,aRZ];simp only[h1,ZAQ,ZA7,ZCR,ZAo];rw[ZBm];intro d hd;obtain⟨j,hj,rfl⟩:=List.getElem_of_mem hd;have hj':j<n:=by simp at hj;omega
  have:=h2 j hj';simpa using this
 have:=a5Z (f:=f) (fun m s=>∃(i j:Nat) (h:List α),s=((i:Int),((j:Int),(h,c)))/\j+m=L.length/\i<j/\h.length=L.length/\i=((L.take j).filter fun x=> !p x).length/\h.take i=(L.take j).filter (fun x=> !p x)/\∀k,j<=k->h[k]? =L[k]?)
  (fun o=>∃h',o=((((L.filter fun x=> !p x).length:Nat):Int),(h',c))/\h'.length=L.length/\h'.take (L.filter fun x=> !p x).length=L.filter fun x=> !p x) (fun m s hI=> ?_) (fun s hI=> ?_) (L.length-(n+1)) ((n:Int),(((n+1:Nat):Int),(L,c))) (by omega)
  ⟨n,n+1,L,rfl,by omega,by omega,rfl,by grind,by grind,fun k _=>rfl⟩
 ·grind
 ·obtain⟨i,j,h,rfl,g1,g2,g3,g4,g5,g6⟩:=hI;have hj:j<L.length:=by omega
  have hx:h[j]? =some L[j]:=by rw[g6 j (ZAL _),ZAC hj]
  left;have ht:L.take (j+1)=L.take j++[L[j]]:=ZBF hj;rw[hs i j h _ g2 (by omega) (by omega) hx];cases hp:p L[j] with
  |true=>
   rw[ZAN rfl];refine⟨_,rfl,i,j+1,h,rfl,by omega,by omega,g3,?_,?_,fun k hk=>g6 k (by omega)⟩
   ·rw[ht,aRZ];simp[hp,g4]
   grind[aRZ]
  |false=>
   rw[ZAM (by simp)];have hi:i<h.length:=by omega
   refine⟨_,rfl,i+1,j+1,h.set i L[j],rfl,by omega,by omega,by simp_all,?_,?_,fun k hk=>by grind[ZAa]⟩
   ·rw[ht,aRZ];simp_all
   ·rw[ht,aRZ,ZBF (by simpa using hi),List.getElem_set_self,List.take_set_of_le (ZAL _),g5]
    grind
 ·obtain⟨i,j,h,rfl,g1,g2,g3,g4,g5,g6⟩:=hI<;>grind
theorem gOZ{α γ:Type}(c)(p)(L:List α)(hL:L.length<=1000000000000)(f:Int×γ->Option ((Int×γ)⊕(γ⊕(Int×γ))))
 (hs:∀(i:Nat) x,L[i]? =some x->f ((i:Int),c)=some (if p x=true then .inr (.inr ((i:Int),c)) else .inl (((i+1:Nat):Int),c)))
 (he:f (((L.length:Nat):Int),c)=some (.inr (.inl c))):
 iter aB f (0,c)=some (match L.findIdx? p with|some n=>.inr ((n:Int),c)|none=>.inl c):=by
 have:=a5Z (f:=f) (fun m s=>∃(i:Nat),s=((i:Int),c)/\i+m=L.length/\∀k,k<i->∀x,L[k]? =some x->p x=false)
  (fun o=>o=(match L.findIdx? p with|some n=>.inr ((n:Int),c)|none=>.inl c)) (fun m s hI=> ?_) (fun s hI=> ?_) L.length (0,c) (by omega) ⟨0,rfl,by omega,fun k h=>absurd h (ZBk _)⟩
 ·obtain⟨o,ho,rfl⟩:=this;exact ho
 ·obtain⟨i,rfl,g1,g2⟩:=hI;have hi:i<L.length:=by omega
  have hx:L[i]? =some L[i]:=ZAC hi;rw[hs i _ hx];cases hp:p L[i] with
  |true=>
   right;refine⟨_,by rw[ZAN rfl],?_⟩;have:L.findIdx? p=some i:=ZA2.2 ⟨hi,hp,fun j hj=>by simpa using g2 j hj _ (ZAC (by omega))⟩;rw[this]
  |false=>
   left;refine⟨_,by rw[ZAM (by simp)],i+1,rfl,by omega,fun k hk x hx'=> ?_⟩;by_cases hki:k=i
   ·subst hki;rw[hx] at hx';cases hx';exact hp
   ·exact g2 k (by omega) x hx'
 grind[ZBx,ZAP,ZAB]
abbrev mO(μ:Type):Type:=List μ⊕Option (Nat×(Nat×Nat))
section
variable {ρ κ μ : Type}
def part(ms:List (Nat×List μ))(x:mO μ)(l:List μ):Prop:=(x= .inr none/\l=[])\/∃j,x= .inr (some (j,(0,l.length)))/\ms[j]? =some (1,l)
def NG(ms:List (Nat×List μ))(x:mO μ):Option (List μ):=
 match x with
 |.inl l=>some l
 |.inr none=>some []
 |.inr (some (k,off,n))=>ET ms k off n
theorem vdZ{ms}{k}{l:List μ}{s}(h:ms[k]? =some (s,l))(hs:2<=s):ET ms k 0 l.length=some l:=by
 unfold ET;have e:(Nat.ble 2 s&&Nat.ble (0+l.length) l.length)=true:=by simpa using hs
 grind[bq_true,ZCK,ZAu]
theorem part.view{ms}{x}{l:List μ}(h:part ms x l):NG (ms.map aV) x=some l:=by
 rcases h with⟨rfl,rfl⟩|⟨j,rfl,h⟩
 ·rfl
 ·exact vdZ (by rw[ZAY,h];rfl) (ZAL _)
variable (ref : ρ → mO μ) (lst : κ → List μ) (same : ρ → κ → Prop)
structure Fam (rows:List ρ) (ms:List (Nat×List μ)) (ks:List κ):Prop where
 len:rows.length=ks.length
 at_:∀(i:Nat) row k,rows[i]? =some row->ks[i]? =some k->same row k/\part ms (ref row) (lst k)
 inj:∀(i i':Nat) row row' j n n',i≠i'->rows[i]? =some row->rows[i']? =some row'->ref row= .inr (some (j,n))->ref row'= .inr (some (j,n'))->False
variable {ref lst same} {rows : List ρ} {ms : List (Nat × List μ)} {ks : List κ}
theorem part.lt{x}{l}(h:part ms x l){j}{n}(hx:x= .inr (some (j,n))):j<ms.length:=by
 rcases h with⟨h,_⟩|⟨j',h,h2⟩<;>grind
theorem Fam.row(h:Fam ref lst same rows ms ks){i:Nat}{k}(hk:ks[i]? =some k):∃row,rows[i]? =some row/\same row k/\part ms (ref row) (lst k):=by
 have hi:i<rows.length:=by rw[h.len];exact(ZAB.1 hk).1
 exact⟨_,ZAC hi,h.at_ i _ k (ZAC hi) hk⟩
theorem Fam.open_(h:Fam ref lst same rows ms ks){i}{row}{k}(hr:rows[i]? =some row)(hk:ks[i]? =some k):
 ∃ms',oE ms (ref row)=some (lst k,ms')/\ms'.length=ms.length/\∀row' k',same row' k'->ref row'= .inr (some (ms'.length,(0,(lst k').length)))->Fam ref lst same (rows.set i row') (ms'++[(1,lst k')]) (ks.set i k'):=by
 have hi:=(ZAB.1 hr).1
 let⟨hs,hp⟩:=h.at_ i row k hr hk
 have main:∀ms',ms'.length=ms.length->(∀i' row',i'≠i->rows[i']? =some row'->∀j n,ref row'= .inr (some (j,n))->ms'[j]? =ms[j]?)->∀row' k',same row' k'->ref row'= .inr (some (ms'.length,(0,(lst k').length)))->Fam ref lst same (rows.set i row') (ms'++[(1,lst k')]) (ks.set i k'):=by
  intro ms' hl hsame row' k' hs' hr';refine⟨by rw[ZAv,ZAv];exact h.len,fun i' x y hx hy=> ?_,fun a b x y j n n' hab hx hy hjx hjy=> ?_⟩
  ·by_cases he:i'=i
   ·subst he;rw[ZAU (by omega)] at hx;rw[ZAU (by rw[<-h.len];omega)] at hy;cases hx;cases hy;exact⟨hs',.inr ⟨_,hr',by rw[ZAV (ZAL _),ZBv];rfl⟩⟩
   ·rw[ZAa (by omega)] at hx hy
    let⟨g1,g2⟩:=h.at_ i' x y hx hy
    refine⟨g1,?_⟩;rcases g2 with g2|⟨j,g2,g3⟩
    ·exact .inl g2
    ·refine .inr ⟨j,g2,?_⟩;have hj:=(ZAB.1 g3).1;rw[ZAT (by omega),hsame i' x he hx j _ g2];exact g3
  ·have hlt:∀(q) z,rows[q]? =some z->∀n,ref z= .inr (some (j,n))->j<ms.length:=fun q z hq n hz=>by
    have hq':=(ZAB.1 hq).1;exact(h.at_ q z _ hq (ZAC (by rw[<-h.len];exact hq'))).2.lt hz
   by_cases ha:a=i
   ·subst ha;rw[ZAU (by omega)] at hx;cases hx;rw[ZAa hab] at hy;rw[hr'] at hjx;injection hjx with e;injection e with e;injection e with e _;have:=hlt _ _ hy _ hjy;omega
   ·rw[ZAa (by omega)] at hx;by_cases hb:b=i
    ·subst hb;rw[ZAU (by omega)] at hy;cases hy;rw[hr'] at hjy;injection hjy with e;injection e with e;injection e with e _;have:=hlt _ _ hx _ hjx;omega
    ·rw[ZAa (by omega)] at hy;exact h.inj a b x y j n n' hab hx hy hjx hjy
 rcases hp with⟨h1,h2⟩|⟨j,h1,h2⟩
 ·refine⟨ms,by rw[h1,h2];rfl,rfl,main ms rfl fun _ _ _ _ _ _ _=>rfl⟩
 ·refine⟨ms.set j (0,lst k),?_,ZAv ..,main _ (ZAv ..) fun i' row' hi' hr' j' n hj'=> ?_⟩
  ·rw[h1];show ms[j]?.bind _=_;rw[h2];have e:(Nat.beq 1 1&&Nat.beq 0 0&&Nat.ble (lst k).length (lst k).length)=true:=by simp
   simp only[ZAA,e];show some (List.take (lst k).length (lst k),_)=_;rw[ZAu]
  ·refine ZAa fun hc=> ?_;subst hc;exact h.inj i i' row row' _ _ _ (ZBf hi') hr hr' h1 hj'
theorem Fam.insert(h:Fam ref lst same rows ms ks){q}(hq:q<=rows.length){row}{k}(hs:same row k)(hr:ref row= .inr none)(hl:lst k=[]):Fam ref lst same (rows.take q++[row]++rows.drop q) ms (ks.take q++[k]++ks.drop q):=by
 have get:∀{α} (l:List α) (x:α),q<=l.length->∀i,(l.take q++[x]++l.drop q)[i]? =if i<q then l[i]? else if i=q then some x else l[i-1]? :=fun l x hl i=>by
  have e1:(l.take q).length=q:=by rw[ZAS];omega
  by_cases c1:i<q
  ·grind
  ·rw[ZAM c1];by_cases c2:i=q
   ·simp_all
   ·rw[ZAM c2,ZAV (by simp;omega),ZA4]
    grind
 refine⟨?_,fun i x y hx hy=> ?_,fun a b x y j n n' hab hx hy hjx hjy=> ?_⟩
 ·simp only[ZAe,ZAS,ZAx,List.length_singleton,h.len]
 ·rw[get _ _ hq] at hx;rw[get _ _ (by rw[<-h.len];exact hq)] at hy;by_cases c1:i<q
  ·rw[ZAN c1] at hx hy;exact h.at_ i x y hx hy
  ·rw[ZAM c1] at hx hy;by_cases c2:i=q
   ·rw[ZAN c2] at hx hy;cases hx;cases hy;exact⟨hs,.inl ⟨hr,hl⟩⟩
   ·rw[ZAM c2] at hx hy;exact h.at_ _ x y hx hy
 ·rw[get _ _ hq] at hx hy;have noq:∀i x,¬i<q->i=q->(if i<q then rows[i]? else if i=q then some row else rows[i-1]?)=some x->∀n,ref x= .inr (some (j,n))->False:=fun i x c1 c2 hx n hj=>by
   rw[ZAM c1,ZAN c2] at hx;cases hx;rw[hr] at hj;cases hj
  by_cases a1:a<q
  ·by_cases b1:b<q
   ·rw[ZAN a1] at hx;rw[ZAN b1] at hy;exact h.inj a b x y j n n' hab hx hy hjx hjy
   ·by_cases b2:b=q
    ·exact noq b y b1 b2 hy n' hjy
    ·rw[ZAN a1] at hx;rw[ZAM b1,ZAM b2] at hy;exact h.inj a (b-1) x y j n n' (by omega) hx hy hjx hjy
  ·by_cases a2:a=q
   ·exact noq a x a1 a2 hx n hjx
   ·rw[ZAM a1,ZAM a2] at hx;by_cases b1:b<q
    ·rw[ZAN b1] at hy;exact h.inj (a-1) b x y j n n' (by omega) hx hy hjx hjy
    ·by_cases b2:b=q
     ·exact noq b y b1 b2 hy n' hjy
     ·rw[ZAM b1,ZAM b2] at hy;exact h.inj (a-1) (b-1) x y j n n' (by omega) hx hy hjx hjy
theorem Fam.keep(h:Fam ref lst same rows ms ks){i}{row row'}{k k'}(hr:rows[i]? =some row)(hk:ks[i]? =some k)(hs:same row' k')(he:ref row'=ref row)(hl:lst k'=lst k):Fam ref lst same (rows.set i row') ms (ks.set i k'):=by
 have hi:=(ZAB.1 hr).1;have hg:∀a x,(rows.set i row')[a]? =some x->∃x0,rows[a]? =some x0/\ref x=ref x0:=fun a x hx=>by
  by_cases c:a=i
  ·subst c;rw[ZAU hi] at hx;cases hx;exact⟨row,hr,he⟩
  grind
 refine⟨by rw[ZAv,ZAv];exact h.len,fun a x y hx hy=> ?_,fun a b x y j n n' hab hx hy hjx hjy=> ?_⟩
 ·by_cases c:a=i
  ·subst c;rw[ZAU hi] at hx;rw[ZAU (by rw[<-h.len];exact hi)] at hy;cases hx;cases hy;exact⟨hs,by rw[he,hl];exact(h.at_ a row k hr hk).2⟩
  ·rw[ZAa (by omega)] at hx hy;exact h.at_ a x y hx hy
 ·let⟨x0,g1,g2⟩:=hg a x hx
  let⟨y0,g3,g4⟩:=hg b y hy
  exact h.inj a b x0 y0 j n n' hab g1 g3 (g2▸hjx) (g4▸hjy)
theorem fWZ{α γ}(g):∀(l:List α) (l':List γ),l.length=l'.length->(∀(i:Nat) x y,l[i]? =some x->l'[i]? =some y->g x=some y)->bE g l=some l'
 |[],[],_,_=>rfl
 |[],_::_,h,_=>by grind
 |_::_,[],h,_=>by grind
 |x::l,y::l',h,hp=>by
  have ih:=fWZ g l l' (by simpa using h) fun i a b ha hb=>hp (i+1) a b (by simpa using ha) (by simpa using hb);show(g x).bind _=_;rw[hp 0 x y (by simp) (by simp)];simp[ih]
theorem Fam.pure(h:Fam ref lst same rows ms ks)(g)(hg:∀row k,same row k->NG (ms.map aV) (ref row)=some (lst k)->g row=some k):bE g rows=some ks:=
 fWZ g rows ks h.len fun i x y hx hy=>hg x y (h.at_ i x y hx hy).1 (h.at_ i x y hx hy).2.view
end
end Go.Ab
namespace Go.Ab.D
open Go Go.Ab
def NH(n:Ino)(dir:Bool)(parent:Int):Ino:=(n.1,n.2.1+1,true,dir,n.2.2.2.2.1,n.2.2.2.2.2.1,parent,n.2.2.2.2.2.2.2)
def nL(l:List Ino):Option Nat:=l.findIdx? fun n=> !n.2.2.1
theorem uoZ{l:List Ino}(hl:l.length<=100000):tP aB l=some (match nL l with|some n=>(n:Int)|none=> -1):=by
 unfold tP oU;have e:=sTZ (fun n:Ino=> !n.2.2.1) l (by omega) (fun tt=>lH aB l tt) (fun i x hx=>by
  unfold lH LJ;have hlt:=(ZAB.1 hx).1;simp only[aEZ hlt];rw[acZ hlt,ZAA,hx,ZAA,w64 (by omega)];cases x.2.2.1<;>rfl) (by
  unfold lH;simp[ZAD])
 unfold nL
 grind
theorem miZ{α:Type}{l:List α}{i}(h:i<l.length)(x):(l.set i x)[i]? =some x:=by grind
def eM(p:bP):Bool:=(p.1==0)&&(p.2==0)
theorem p6Z{l:List bP}(hl:l.length<=100000):mJ aB l=some (.inl (l.filter fun p=> !eM p))\/mJ aB l=some (.inr (l.filter fun p=> !eM p)):=by
 have hidx:tT aB l=some (match l.findIdx? eM with|some n=>((n:Int),l)|none=>(-1,l)):=by
  unfold tT oX;have e:iter aB (fun tt=>fJ aB l tt.1 tt.2) (0,l)=_:=gOZ l eM l (by omega) (fun tt=>fJ aB l tt.1 tt.2) (fun i x hx=>by
   show fJ aB l (i:Int) l=_;unfold fJ EA;have hlt:=(ZAB.1 hx).1;simp only[aEZ hlt,ZAK];rw[acZ hlt,ZAA,hx,ZAA,ZAA,w64 (by omega)];show(bif eM x then _ else _)=_;cases eM x<;>rfl) (by
   show fJ aB l ((l.length:Nat):Int) l=_;unfold fJ;simp only[aCZ (ZA1 _),ZAD])
  rw[e,ZAA];cases l.findIdx? eM<;>rfl
 unfold mJ;rw[hidx,ZAA];cases hf:l.findIdx? eM with
 |none=>
  left;have:l.filter (fun p=> !eM p)=l:=ZBm.2 fun x hx=>by
   have:=ZBx.1 hf x hx;simpa using this
  rw[this]
  rfl
 |some n=>
  right;obtain⟨hn,h1,h2⟩:=ZA2.1 hf;simp only[];rw[show((n:Int)== -1)=false from by simp,ZAD,w64 (by omega)];obtain⟨h',e1,e2,e3⟩:=taZ eM l n hn (by omega) h1 (fun j hj=>by simpa using h2 j hj)
   (fun(tt:Int×Int×List bP)=>gT aB tt.1 tt.2.1 tt.2.2) (fun i j (h:List bP) x hij hj hh hx=>by
    show gT aB (i:Int) (j:Int) h=_;unfold gT EA;have hi:i<h.length:=by omega
    obtain⟨y,hy⟩:∃y,h[i]? =some y:=⟨_,ZAC hi⟩;simp only[aEZ hj,ZAK];rw[acZ hj,ZAA,hx,ZAA,ZAA,acZ hi];simp only[ZAA,hy];rw[w64 (by omega),w64 (by omega)];show(Option.bind (bif !eM x then _ else _) _)=_;cases eM x<;>rfl) (fun i (h:List bP)=>by
    show gT aB (i:Int) ((h.length:Nat):Int) h=_;unfold gT;simp only[aCZ (ZA1 _),ZAD])
  rw[show oY aB ((n:Int),((n:Int)+1,l))=_ from e1,ZAA];have hle:(l.filter fun p=> !eM p).length<=h'.length:=by rw[e2];exact ZBe _ _
  rw[aGZ hle,ZAA,aeZ (aNZ (by dsimp only;omega))];have hsl:(aW h' (l.filter fun p=> !eM p).length (List.replicate (h'.length-(l.filter fun p=> !eM p).length) ((0:Int),(0:Int)))).length=h'.length:=by
   unfold aW;simp;omega
  dsimp only;rw[hsl,aGZ hle,ZAA,aeZ (aNZ hle)];have:(aW h' (l.filter fun p=> !eM p).length (List.replicate (h'.length-(l.filter fun p=> !eM p).length) ((0:Int),(0:Int)))).take (l.filter fun p=> !eM p).length=l.filter fun p=> !eM p:=by
   unfold aW;rw[ZAp,ZBJ (by rw[e3];exact ZAL _),ZCv,Nat.min_self,e3]
  rw[this]
def iZ(n:Ino)(id:Int):Ino:=(id,n.2.1,false,false,0,[],0,[])
end Go.Ab.D
namespace Go.Ab
section
variable {ρ κ μ : Type} {ref : ρ → mO μ} {lst : κ → List μ} {same : ρ → κ → Prop} {rows : List ρ} {ms : List (Nat × List μ)} {ks : List κ}
theorem Fam.clear(h:Fam ref lst same rows ms ks){i}{row'}{k'}(hs:same row' k')(he:ref row'= .inr none)(hl:lst k'=[]):Fam ref lst same (rows.set i row') ms (ks.set i k'):=by
 refine⟨by rw[ZAv,ZAv];exact h.len,fun a x y hx hy=> ?_,fun a b x y j n n' hab hx hy hjx hjy=> ?_⟩
 ·by_cases c:a=i
  ·subst c;have hi:=by have:=(ZAB.1 hx).1;rwa [ZAv] at this
   rw[ZAU hi] at hx;rw[ZAU (by grind)] at hy;cases hx;cases hy;exact⟨hs,.inl ⟨he,hl⟩⟩
  ·rw[ZAa (by omega)] at hx hy;exact h.at_ a x y hx hy
 ·have hne:∀a x n,(rows.set i row')[a]? =some x->ref x= .inr (some (j,n))->rows[a]? =some x:=fun a x n hx hj=>by
   by_cases c:a=i
   ·subst c;have hi:=by have:=(ZAB.1 hx).1;rwa [ZAv] at this
    rw[ZAU hi] at hx;cases hx;rw[he] at hj;cases hj
   ·rwa [ZAa (by omega)] at hx
  exact h.inj a b x y j n n' hab (hne a x n hx hjx) (hne b y n' hy hjy) hjx hjy
theorem Fam.open_none(h:Fam ref lst same rows ms ks){i}{row}{k}(hr:rows[i]? =some row)(hk:ks[i]? =some k):
 ∃ms',oE ms (ref row)=some (lst k,ms')/\∀row' k',same row' k'->ref row'= .inr none->lst k'=[]->Fam ref lst same (rows.set i row') ms' (ks.set i k'):=by
 let⟨hs,hp⟩:=h.at_ i row k hr hk
 rcases hp with⟨h1,h2⟩|⟨j,h1,h2⟩
 ·exact⟨ms,by rw[h1,h2];rfl,fun row' k' hs' hr' hl'=>h.clear hs' hr' hl'⟩
 ·refine⟨ms.set j (0,lst k),?_,fun row' k' hs' hr' hl'=> ?_⟩
  ·rw[h1];show ms[j]?.bind _=_;rw[h2];have e:(Nat.beq 1 1&&Nat.beq 0 0&&Nat.ble (lst k).length (lst k).length)=true:=by simp
   simp only[ZAA,e];show some (List.take (lst k).length (lst k),_)=_;rw[ZAu]
  ·have hc:=h.clear (i:=i) hs' hr' hl';refine⟨hc.len,fun a x y hx hy=> ?_,hc.inj⟩
   let⟨g1,g2⟩:=hc.at_ a x y hx hy
   refine⟨g1,?_⟩;rcases g2 with g2|⟨j',g2,g3⟩
   ·exact .inl g2
   ·refine .inr ⟨j',g2,?_⟩;rw[ZAa]
    ·exact g3
    ·intro hjj;subst hjj;by_cases c:a=i
     ·subst c;rw[ZAU (ZAB.1 hr).1] at hx;cases hx;rw[hr'] at g2;cases g2
     ·rw[ZAa (by omega)] at hx;exact h.inj i a row x j _ _ (by omega) hr hx h1 g2
theorem jhZ{μ}(ms:List (Nat×List μ)):(ms.map aV).map aV=ms.map aV:=by
 rw[List.map_map];refine ZCm fun m _=> ?_
 let⟨a,l⟩:=m
 cases a<;>rfl
end
end Go.Ab
namespace Go.Ab.D
open Go Go.Ab
abbrev PTy:Ty:=.pair (.int .i64) (.int .i64)
abbrev ETy:Ty:=.pair .str (.int .i64)
abbrev TE:Ty:=.pair (.int .i64) (.pair (.int .i64) (.pair .bool (.pair .bool (.pair (.int .i64) (.pair (.sl PTy) (.pair (.int .i64) (.ref 1 ETy)))))))
abbrev TP:Ty:=.pair (.int .i64) (.pair (.int .i64) (.pair .bool (.pair .bool (.pair (.int .i64) (.pair (.ref 0 PTy) (.pair (.int .i64) (.sl ETy)))))))
abbrev T2:Ty:=.pair (.int .i64) (.pair (.int .i64) (.pair .bool (.pair .bool (.pair (.int .i64) (.pair (.ref 0 PTy) (.pair (.int .i64) (.ref 2 ETy)))))))
abbrev GO:=Int×Int×Bool×Bool×Int×List bP×Int×mO Ent
abbrev SB:=Int×Int×Bool×Bool×Int×mO bP×Int×List Ent
abbrev JF:=Int×Int×Bool×Bool×Int×mO bP×Int×mO Ent
abbrev MsE:=List (Nat×List Ent)
abbrev MsP:=List (Nat×List bP)
def toE(n:Ino)(x:mO Ent):GO:=(n.1,n.2.1,n.2.2.1,n.2.2.2.1,n.2.2.2.2.1,n.2.2.2.2.2.1,n.2.2.2.2.2.2.1,x)
def toP(n:Ino)(x:mO bP):SB:=(n.1,n.2.1,n.2.2.1,n.2.2.2.1,n.2.2.2.2.1,x,n.2.2.2.2.2.2.1,n.2.2.2.2.2.2.2)
def to2(n:Ino)(x:mO bP)(y:mO Ent):JF:=(n.1,n.2.1,n.2.2.1,n.2.2.2.1,n.2.2.2.2.1,x,n.2.2.2.2.2.2.1,y)
abbrev kW(rows:List GO)(ms:MsE)(ks:List Ino):Prop:=Fam (fun r:GO=>r.2.2.2.2.2.2.2) (fun k:Ino=>k.2.2.2.2.2.2.2) (fun r k=>∃x,r=toE k x) rows ms ks
abbrev SC(rows:List SB)(ms:MsP)(ks:List Ino):Prop:=Fam (fun r:SB=>r.2.2.2.2.2.1) (fun k:Ino=>k.2.2.2.2.2.1) (fun r k=>∃x,r=toP k x) rows ms ks
abbrev uF(rows:List JF)(ms:MsP)(ks:List Ino):Prop:=Fam (fun r:JF=>r.2.2.2.2.2.1) (fun k:Ino=>k.2.2.2.2.2.1) (fun r k=>∃x y,r=to2 k x y) rows ms ks
abbrev uG(rows:List JF)(ms:MsE)(ks:List Ino):Prop:=Fam (fun r:JF=>r.2.2.2.2.2.2.2) (fun k:Ino=>k.2.2.2.2.2.2.2) (fun r k=>∃x y,r=to2 k x y) rows ms ks
theorem kW.pure1{rows}{ms}{ks}(h:kW rows ms ks):bE (aT [⟨1,ETy,ms.map aV⟩] TE) rows=some ks:=
 h.pure (aT [⟨1,ETy,ms.map aV⟩] TE) fun row k hs hv=>by
  obtain⟨x,rfl⟩:=hs;have e:aT [⟨1,ETy,ms.map aV⟩] (.ref 1 ETy) x=some k.2.2.2.2.2.2.2:=by rw[<-hv];rcases x with l|(_|⟨k,o,n⟩)<;>rfl
  show((some k.1).bind fun y=>(((some k.2.1).bind fun y=>(((some k.2.2.1).bind fun y=>(((some k.2.2.2.1).bind fun y=>(((some k.2.2.2.2.1).bind fun y=>(((some k.2.2.2.2.2.1).bind fun y=>(((some k.2.2.2.2.2.2.1).bind fun y=>(aT [⟨1,ETy,ms.map aV⟩] (.ref 1 ETy) x).map fun z=>(y,z)).map fun z=>(y,z))).map fun z=>(y,z))).map fun z=>(y,z))).map fun z=>(y,z))).map fun z=>(y,z))).map fun z=>(y,z)))=_;rw[e]
  rfl
theorem kW.one{rows}{ms}{ks}(h:kW rows ms ks){i:Nat}{row}{k}(hr:rows[i]? =some row)(hk:ks[i]? =some k):aT [⟨1,ETy,ms.map aV⟩] TE row=some k:=by
 obtain⟨⟨x,rfl⟩,hp⟩:=h.at_ i row k hr hk;have hv:=hp.view;have e:aT [⟨1,ETy,ms.map aV⟩] (.ref 1 ETy) x=some k.2.2.2.2.2.2.2:=by rw[<-hv];rcases x with l|(_|⟨k,o,n⟩)<;>rfl
 show((some k.1).bind fun y=>(((some k.2.1).bind fun y=>(((some k.2.2.1).bind fun y=>(((some k.2.2.2.1).bind fun y=>(((some k.2.2.2.2.1).bind fun y=>(((some k.2.2.2.2.2.1).bind fun y=>(((some k.2.2.2.2.2.2.1).bind fun y=>(aT [⟨1,ETy,ms.map aV⟩] (.ref 1 ETy) x).map fun z=>(y,z)).map fun z=>(y,z))).map fun z=>(y,z))).map fun z=>(y,z))).map fun z=>(y,z))).map fun z=>(y,z))).map fun z=>(y,z)))=_;rw[e]
 rfl
theorem kW.pure10{rows}{ms}{ks}(mp:MsP)(h:kW rows ms ks):bE (aT [⟨1,ETy,ms.map aV⟩,⟨0,PTy,mp⟩] TE) rows=some ks:=
 h.pure (aT [⟨1,ETy,ms.map aV⟩,⟨0,PTy,mp⟩] TE) fun row k hs hv=>by
  obtain⟨x,rfl⟩:=hs;have e:aT [⟨1,ETy,ms.map aV⟩,⟨0,PTy,mp⟩] (.ref 1 ETy) x=some k.2.2.2.2.2.2.2:=by rw[<-hv];rcases x with l|(_|⟨k,o,n⟩)<;>rfl
  show((some k.1).bind fun y=>(((some k.2.1).bind fun y=>(((some k.2.2.1).bind fun y=>(((some k.2.2.2.1).bind fun y=>(((some k.2.2.2.2.1).bind fun y=>(((some k.2.2.2.2.2.1).bind fun y=>(((some k.2.2.2.2.2.2.1).bind fun y=>(aT [⟨1,ETy,ms.map aV⟩,⟨0,PTy,mp⟩] (.ref 1 ETy) x).map fun z=>(y,z)).map fun z=>(y,z))).map fun z=>(y,z))).map fun z=>(y,z))).map fun z=>(y,z))).map fun z=>(y,z))).map fun z=>(y,z)))=_;rw[e]
  rfl
theorem kW.pure210{rows}{ms}{ks}(m2:MsE)(mp:MsP)(h:kW rows ms ks):bE (aT [⟨2,ETy,m2⟩,⟨1,ETy,ms.map aV⟩,⟨0,PTy,mp⟩] TE) rows=some ks:=
 h.pure (aT [⟨2,ETy,m2⟩,⟨1,ETy,ms.map aV⟩,⟨0,PTy,mp⟩] TE) fun row k hs hv=>by
  obtain⟨x,rfl⟩:=hs;have e:aT [⟨2,ETy,m2⟩,⟨1,ETy,ms.map aV⟩,⟨0,PTy,mp⟩] (.ref 1 ETy) x=some k.2.2.2.2.2.2.2:=by rw[<-hv];rcases x with l|(_|⟨k,o,n⟩)<;>rfl
  show((some k.1).bind fun y=>(((some k.2.1).bind fun y=>(((some k.2.2.1).bind fun y=>(((some k.2.2.2.1).bind fun y=>(((some k.2.2.2.2.1).bind fun y=>(((some k.2.2.2.2.2.1).bind fun y=>(((some k.2.2.2.2.2.2.1).bind fun y=>(aT [⟨2,ETy,m2⟩,⟨1,ETy,ms.map aV⟩,⟨0,PTy,mp⟩] (.ref 1 ETy) x).map fun z=>(y,z)).map fun z=>(y,z))).map fun z=>(y,z))).map fun z=>(y,z))).map fun z=>(y,z))).map fun z=>(y,z))).map fun z=>(y,z)))=_;rw[e]
  rfl
theorem SC.pure10{rows}{ms}{ks}(me:MsE)(h:SC rows ms ks):bE (aT [⟨1,ETy,me⟩,⟨0,PTy,ms.map aV⟩] TP) rows=some ks:=
 h.pure (aT [⟨1,ETy,me⟩,⟨0,PTy,ms.map aV⟩] TP) fun row k hs hv=>by
  obtain⟨x,rfl⟩:=hs;have e:aT [⟨1,ETy,me⟩,⟨0,PTy,ms.map aV⟩] (.ref 0 PTy) x=some k.2.2.2.2.2.1:=by rw[<-hv];rcases x with l|(_|⟨k,o,n⟩)<;>rfl
  show((some k.1).bind fun y=>(((some k.2.1).bind fun y=>(((some k.2.2.1).bind fun y=>(((some k.2.2.2.1).bind fun y=>(((some k.2.2.2.2.1).bind fun y=>(((aT [⟨1,ETy,me⟩,⟨0,PTy,ms.map aV⟩] (.ref 0 PTy) x).bind fun y=>(((some k.2.2.2.2.2.2.1).bind fun y=>(some k.2.2.2.2.2.2.2).map fun z=>(y,z)).map fun z=>(y,z))).map fun z=>(y,z))).map fun z=>(y,z))).map fun z=>(y,z))).map fun z=>(y,z))).map fun z=>(y,z)))=_;rw[e]
  rfl
theorem p2Z{rows}{mp}{me}{ks}(m1:MsE)(hp:uF rows mp ks)(he:uG rows me ks):bE (aT [⟨2,ETy,me.map aV⟩,⟨1,ETy,m1⟩,⟨0,PTy,mp.map aV⟩] T2) rows=some ks:=
 fWZ _ rows ks hp.len fun i row k hr hk=>by
  obtain⟨⟨x,w,rfl⟩,h1⟩:=hp.at_ i row k hr hk
  let⟨_,h2⟩:=he.at_ i _ k hr hk
  have v1:=h1.view;have v2:=h2.view;have e1:aT [⟨2,ETy,me.map aV⟩,⟨1,ETy,m1⟩,⟨0,PTy,mp.map aV⟩] (.ref 0 PTy) x=some k.2.2.2.2.2.1:=by rw[<-v1];rcases x with l|(_|⟨k,o,n⟩)<;>rfl
  have e2:aT [⟨2,ETy,me.map aV⟩,⟨1,ETy,m1⟩,⟨0,PTy,mp.map aV⟩] (.ref 2 ETy) w=some k.2.2.2.2.2.2.2:=by rw[<-v2];rcases w with l|(_|⟨k,o,n⟩)<;>rfl
  show((some k.1).bind fun y=>(((some k.2.1).bind fun y=>(((some k.2.2.1).bind fun y=>(((some k.2.2.2.1).bind fun y=>(((some k.2.2.2.2.1).bind fun y=>(((aT [⟨2,ETy,me.map aV⟩,⟨1,ETy,m1⟩,⟨0,PTy,mp.map aV⟩] (.ref 0 PTy) x).bind fun y'=>(((some k.2.2.2.2.2.2.1).bind fun y''=>(aT [⟨2,ETy,me.map aV⟩,⟨1,ETy,m1⟩,⟨0,PTy,mp.map aV⟩] (.ref 2 ETy) w).map fun z=>(y'',z)).map fun z=>(y',z))).map fun z=>(y,z))).map fun z=>(y,z))).map fun z=>(y,z))).map fun z=>(y,z))).map fun z=>(y,z)))=_;rw[e1,e2]
  rfl
theorem sMZ{rows}{mp}{me}{ks}(hp:uF rows mp ks)(he:uG rows me ks){i:Nat}{row}{k}(hr:rows[i]? =some row)(hk:ks[i]? =some k):aT [⟨2,ETy,me.map aV⟩,⟨0,PTy,mp.map aV⟩] T2 row=some k:=by
 obtain⟨⟨x,w,rfl⟩,h1⟩:=hp.at_ i row k hr hk
 let⟨_,h2⟩:=he.at_ i _ k hr hk
 have v1:=h1.view;have v2:=h2.view;have e1:aT [⟨2,ETy,me.map aV⟩,⟨0,PTy,mp.map aV⟩] (.ref 0 PTy) x=some k.2.2.2.2.2.1:=by rw[<-v1];rcases x with l|(_|⟨k,o,n⟩)<;>rfl
 have e2:aT [⟨2,ETy,me.map aV⟩,⟨0,PTy,mp.map aV⟩] (.ref 2 ETy) w=some k.2.2.2.2.2.2.2:=by rw[<-v2];rcases w with l|(_|⟨k,o,n⟩)<;>rfl
 show((some k.1).bind fun y=>(((some k.2.1).bind fun y=>(((some k.2.2.1).bind fun y=>(((some k.2.2.2.1).bind fun y=>(((some k.2.2.2.2.1).bind fun y=>(((aT [⟨2,ETy,me.map aV⟩,⟨0,PTy,mp.map aV⟩] (.ref 0 PTy) x).bind fun y'=>(((some k.2.2.2.2.2.2.1).bind fun y''=>(aT [⟨2,ETy,me.map aV⟩,⟨0,PTy,mp.map aV⟩] (.ref 2 ETy) w).map fun z=>(y'',z)).map fun z=>(y',z))).map fun z=>(y,z))).map fun z=>(y,z))).map fun z=>(y,z))).map fun z=>(y,z))).map fun z=>(y,z)))=_;rw[e1,e2]
 rfl
end Go.Ab.D
namespace Go.Ab
section
variable {ρ κ μ ν : Type}
structure vC (mk:κ->mO μ->ρ) (lst:κ->List μ) (ks:List κ) (n:Nat) (rows:List ρ) (ms:List (Nat×List μ)):Prop where
 len:rows.length=ks.length
 lm:ms.length=n
 at_:∀(i:Nat) k,ks[i]? =some k->(i<n->rows[i]? =some (mk k (.inr (some (i,(0,(lst k).length)))))/\ms[i]? =some (1,lst k))/\(n<=i->rows[i]? =some (mk k (.inl (lst k))))
variable {mk : κ → mO μ → ρ} {lst : κ → List μ} {ks : List κ} {n : Nat} {rows : List ρ} {ms : List (Nat × List μ)}
theorem vC.step(h:vC mk lst ks n rows ms){k}(hk:ks[n]? =some k):vC mk lst ks (n+1) (rows.set n (mk k (.inr (some (n,(0,(lst k).length)))))) (ms++[(1,lst k)]):=by
 have hn:=(ZAB.1 hk).1;have hl:=h.len;have hm:=h.lm;refine⟨by simp_all,by simp_all,fun i k' hg'=>⟨fun hi=> ?_,fun hi=> ?_⟩⟩
 ·by_cases hin:i=n
  ·simp_all
  ·have:=(h.at_ i k' hg').1 (by omega)
   grind
 ·rw[ZAa (by omega)];exact(h.at_ i k' hg').2 (by omega)
theorem vC.fam(h:vC mk lst ks ks.length rows ms){ref}{same}(hr:∀k x,ref (mk k x)=x)(hs:∀k x,same (mk k x) k):Fam ref lst same rows ms ks:=by
 refine⟨h.len,fun i row k hg hk=> ?_,fun i i' row row' j p p' hii hg hg' hj hj'=> ?_⟩
 ·let⟨e1,e2⟩:=(h.at_ i k hk).1 (ZAB.1 hk).1
  rw[e1] at hg;cases hg;exact⟨hs _ _,.inr ⟨i,hr _ _,e2⟩⟩
 ·have look:∀i row,rows[i]? =some row->∀p,ref row= .inr (some (j,p))->j=i:=fun i row hg p hj=>by
   have hi:=(ZAB.1 hg).1;rw[h.len] at hi
   let⟨e1,_⟩:=(h.at_ i _ (ZAC hi)).1 hi
   rw[e1] at hg;cases hg;rw[hr] at hj;cases hj
   rfl
  grind
structure rI (mk:κ->mO μ->mO ν->ρ) (lst:κ->List μ) (lst2:κ->List ν) (ks:List κ) (n:Nat) (rows:List ρ) (ms:List (Nat×List μ)) (m2:List (Nat×List ν)):Prop where
 len:rows.length=ks.length
 lm:ms.length=n
 lm2:m2.length=n
 at_:∀(i:Nat) k,ks[i]? =some k->(i<n->rows[i]? =some (mk k (.inr (some (i,(0,(lst k).length)))) (.inr (some (i,(0,(lst2 k).length)))))/\ms[i]? =some (1,lst k)/\m2[i]? =some (1,lst2 k))/\(n<=i->rows[i]? =some (mk k (.inl (lst k)) (.inl (lst2 k))))
variable {mk2 : κ → mO μ → mO ν → ρ} {lst2 : κ → List ν} {m2 : List (Nat × List ν)}
theorem rI.step(h:rI mk2 lst lst2 ks n rows ms m2){k}(hk:ks[n]? =some k):rI mk2 lst lst2 ks (n+1) (rows.set n (mk2 k (.inr (some (n,(0,(lst k).length)))) (.inr (some (n,(0,(lst2 k).length)))))) (ms++[(1,lst k)]) (m2++[(1,lst2 k)]):=by
 have hn:=(ZAB.1 hk).1;have hl:=h.len;have hm:=h.lm;have hm2:=h.lm2;refine⟨by simp_all,by simp_all,by simp_all,fun i k' hg'=>⟨fun hi=> ?_,fun hi=> ?_⟩⟩
 ·by_cases hin:i=n
  ·simp_all
  ·have:=(h.at_ i k' hg').1 (by omega)
   grind
 ·rw[ZAa (by omega)];exact(h.at_ i k' hg').2 (by omega)
theorem rI.fam1(h:rI mk2 lst lst2 ks ks.length rows ms m2){ref}{same}(hr:∀k x y,ref (mk2 k x y)=x)(hs:∀k x y,same (mk2 k x y) k):Fam ref lst same rows ms ks:=by
 refine⟨h.len,fun i row k hg hk=> ?_,fun i i' row row' j p p' hii hg hg' hj hj'=> ?_⟩
 ·let⟨e1,e2,_⟩:=(h.at_ i k hk).1 (ZAB.1 hk).1
  rw[e1] at hg;cases hg;exact⟨hs _ _ _,.inr ⟨i,hr _ _ _,e2⟩⟩
 ·have look:∀i row,rows[i]? =some row->∀p,ref row= .inr (some (j,p))->j=i:=fun i row hg p hj=>by
   have hi:=(ZAB.1 hg).1;rw[h.len] at hi
   let⟨e1,_⟩:=(h.at_ i _ (ZAC hi)).1 hi
   rw[e1] at hg;cases hg;rw[hr] at hj;cases hj
   rfl
  grind
theorem rI.fam2(h:rI mk2 lst lst2 ks ks.length rows ms m2){ref}{same}(hr:∀k x y,ref (mk2 k x y)=y)(hs:∀k x y,same (mk2 k x y) k):Fam ref lst2 same rows m2 ks:=by
 refine⟨h.len,fun i row k hg hk=> ?_,fun i i' row row' j p p' hii hg hg' hj hj'=> ?_⟩
 ·let⟨e1,_,e2⟩:=(h.at_ i k hk).1 (ZAB.1 hk).1
  rw[e1] at hg;cases hg;exact⟨hs _ _ _,.inr ⟨i,hr _ _ _,e2⟩⟩
 ·have look:∀i row,rows[i]? =some row->∀p,ref row= .inr (some (j,p))->j=i:=fun i row hg p hj=>by
   have hi:=(ZAB.1 hg).1;rw[h.len] at hi
   let⟨e1,_⟩:=(h.at_ i _ (ZAC hi)).1 hi
   rw[e1] at hg;cases hg;rw[hr] at hj;cases hj
   rfl
  grind
end
end Go.Ab
namespace Go.Ab.D
open Go Go.Ab
abbrev dB(n:Ino):List Ent:=n.2.2.2.2.2.2.2
abbrev cM(n:Ino):List bP:=n.2.2.2.2.2.1
theorem ttZ(ks):vC toE dB ks 0 (List.map (bY TE) (show List (TE.unref.den) from ks)) []:=
 ⟨ZAl _,rfl,fun i k hg=>⟨fun hc=>absurd hc (ZBk _),fun _=>by
  show(List.map (bY TE) (show List (TE.unref.den) from ks))[i]? =some (bY TE k);rw[ZAY];show(((ks))[i]?).map _=_
  grind⟩⟩
theorem vPZ(ks):vC toP cM ks 0 (List.map (bY TP) (show List (TP.unref.den) from ks)) []:=
 ⟨ZAl _,rfl,fun i k hg=>⟨fun hc=>absurd hc (ZBk _),fun _=>by
  show(List.map (bY TP) (show List (TP.unref.den) from ks))[i]? =some (bY TP k);rw[ZAY];show(((ks))[i]?).map _=_
  grind⟩⟩
theorem vrZ(ks):rI to2 cM dB ks 0 (List.map (bY T2) (show List (T2.unref.den) from ks)) [] []:=
 ⟨ZAl _,rfl,rfl,fun i k hg=>⟨fun hc=>absurd hc (ZBk _),fun _=>by
  show(List.map (bY T2) (show List (T2.unref.den) from ks))[i]? =some (bY T2 k);rw[ZAY];show(((ks))[i]?).map _=_
  grind⟩⟩
theorem b4Z{t:cI}(h:Fit t.1):∃rows ms,zS aB t=some (t.2,(rows,ms))/\kW rows ms t.1:=by
 unfold zS;have hn:=h.n;rw[cVZ hn,ZAA];have loop:∃o,oV aB t.1 (0,(t.2,((List.map (bY TE) ((t.1))),(0,[]))))=some o/\∃rows ms,o=(t.2,(rows,(0,ms)))/\vC toE dB t.1 t.1.length rows ms:=by
  unfold oV;refine a5Z (fun m s=>∃(n:Nat) (rows:List GO) (ms:MsE),s=((n:Int),(t.2,(rows,(0,ms))))/\n+m=t.1.length/\vC toE dB t.1 n rows ms) _ (fun m s hI=> ?_) (fun s hI=> ?_) t.1.length _ (by omega) ⟨0,_,[],rfl,by omega,ttZ t.1⟩
  ·obtain⟨n,rows,ms,rfl,hk,hI⟩:=hI;have hlt:n<t.1.length:=by omega
   obtain⟨k,hg⟩:∃k,t.1[n]? =some k:=⟨_,ZAC hlt⟩;have hrow:=(hI.at_ n k hg).2 (ZAL _);have hsm:=h.at hg;left;refine⟨(((n+1:Nat):Int),(t.2,(rows.set n (toE k (.inr (some (n,(0,(dB k).length))))),(0,ms++[(1,dB k)])))),?_,n+1,_,_,rfl,by omega,hI.step hg⟩;have hlr:n<rows.length:=by rw[hI.len];exact hlt
   unfold yA;simp only[aEZ hlt];rw[acZ hlr];simp only[ZAA,hrow];rw[show(toE k (.inl (dB k))).2.2.2.2.2.1=k.2.2.2.2.2.1 from rfl,cLZ hsm.1,ZAA];erw[ZAA];rw[d7Z hsm.2];show((rows.set n (toE k (.inl (dB k))))[n]?.bind _)=_;rw[ZAU hlr,w64 (by omega),hI.lm,show((n:Int)+1)=((n+1:Nat):Int) from by simp];show some (Sum.inl (_,(t.2,((rows.set n (toE k (.inl (dB k)))).set n (toE k _),(0,_)))))=_;rw[List.set_set]
  ·obtain⟨n,rows,ms,rfl,hk,hI⟩:=hI;have:n=t.1.length:=by omega
   subst this;unfold yA;simp only[aCZ (ZA1 _),ZAD];exact⟨_,rfl,rows,ms,rfl,hI⟩
 obtain⟨o,ho,rows,ms,rfl,hI⟩:=loop;exact⟨rows,ms,by rw[(ho)];rfl,hI.fam (fun _ _=>rfl) fun k x=>⟨x,rfl⟩⟩
theorem igZ{t:cI}(h:Fit t.1):∃rows ms,HG aB t=some (t.2,(rows,ms))/\kW rows ms t.1:=by
 unfold HG;have hn:=h.n;rw[cVZ hn,ZAA];have loop:∃o,vL aB t.1 (0,(t.2,((List.map (bY TE) ((t.1))),(0,[]))))=some o/\∃rows ms,o=(t.2,(rows,(0,ms)))/\vC toE dB t.1 t.1.length rows ms:=by
  refine a5Z (fun m s=>∃(n:Nat) (rows:List GO) (ms:MsE),s=((n:Int),(t.2,(rows,(0,ms))))/\n+m=t.1.length/\vC toE dB t.1 n rows ms) _ (fun m s hI=> ?_) (fun s hI=> ?_) t.1.length _ (by omega) ⟨0,_,[],rfl,by omega,ttZ t.1⟩
  ·obtain⟨n,rows,ms,rfl,hk,hI⟩:=hI;have hlt:n<t.1.length:=by omega
   obtain⟨k,hg⟩:∃k,t.1[n]? =some k:=⟨_,ZAC hlt⟩;have hrow:=(hI.at_ n k hg).2 (ZAL _);have hsm:=h.at hg;left;refine⟨(((n+1:Nat):Int),(t.2,(rows.set n (toE k (.inr (some (n,(0,(dB k).length))))),(0,ms++[(1,dB k)])))),?_,n+1,_,_,rfl,by omega,hI.step hg⟩;have hlr:n<rows.length:=by rw[hI.len];exact hlt
   unfold xX;simp only[aEZ hlt];rw[acZ hlr];simp[hrow];rw[show lY (Ty.ref 1 ETy) (toE k (.inl (dB k))).2.2.2.2.2.2.2=some (dB k) from rfl];erw[ZAA];rw[show eW aB ((toE k (.inl (dB k))).1,((toE k (.inl (dB k))).2.1,((toE k (.inl (dB k))).2.2.1,((toE k (.inl (dB k))).2.2.2.1,((toE k (.inl (dB k))).2.2.2.2.1,((toE k (.inl (dB k))).2.2.2.2.2.1,((toE k (.inl (dB k))).2.2.2.2.2.2.1,dB k)))))))=_ from mnZ hsm];rw[w64 (by omega),hI.lm]
   rfl
  ·obtain⟨n,rows,ms,rfl,hk,hI⟩:=hI;have:n=t.1.length:=by omega
   subst this;unfold xX;simp only[aCZ (ZA1 _)];exact⟨_,rfl,rows,ms,rfl,hI⟩
 obtain⟨o,ho,rows,ms,rfl,hI⟩:=loop;exact⟨rows,ms,by rw[(ho)];rfl,hI.fam (fun _ _=>rfl) fun k x=>⟨x,rfl⟩⟩
theorem nIZ{rows}{ms}{ks}(st)(hF:kW rows ms ks)(h:Fit ks):∃rowsP mp,qE aB st rows ms=some (st,(rows,(rowsP,(mp,ms.map aV))))/\SC rowsP mp ks:=by
 unfold qE;have hn:=h.n;rw[hF.pure1];erw[ZAA];rw[cVZ hn,ZAA];have loop:∃o,nR aB ks (st,(0,(rows,(st,((List.map (bY TP) ((ks))),(0,([],ms.map aV)))))))=some o/\∃rowsP mp,o=(st,(rows,(st,(rowsP,(0,(mp,ms.map aV))))))/\vC toP cM ks ks.length rowsP mp:=by
  refine a5Z (fun m s=>∃(n:Nat) (rowsP:List SB) (mp:MsP),s=(st,((n:Int),(rows,(st,(rowsP,(0,(mp,ms.map aV)))))))/\n+m=ks.length/\vC toP cM ks n rowsP mp) _ (fun m s hI=> ?_) (fun s hI=> ?_) ks.length _ (by omega) ⟨0,_,[],rfl,by omega,vPZ ks⟩
  ·obtain⟨n,rowsP,mp,rfl,hk,hI⟩:=hI;have hlt:n<ks.length:=by omega
   obtain⟨k,hg⟩:∃k,ks[n]? =some k:=⟨_,ZAC hlt⟩;have hrow:=(hI.at_ n k hg).2 (ZAL _);have hsm:=h.at hg;left;refine⟨(st,(((n+1:Nat):Int),(rows,(st,(rowsP.set n (toP k (.inr (some (n,(0,(cM k).length))))),(0,(mp++[(1,cM k)],ms.map aV))))))),?_,n+1,_,_,rfl,by omega,hI.step hg⟩;have hlr:n<rowsP.length:=by rw[hI.len];exact hlt
   unfold nG;simp only[aEZ hlt];rw[acZ hlr];simp[hrow];rw[show lY (Ty.ref 0 PTy) (toP k (.inl (cM k))).2.2.2.2.2.1=some (cM k) from rfl];erw[ZAA];rw[show eW aB ((toP k (.inl (cM k))).1,((toP k (.inl (cM k))).2.1,((toP k (.inl (cM k))).2.2.1,((toP k (.inl (cM k))).2.2.2.1,((toP k (.inl (cM k))).2.2.2.2.1,(cM k,((toP k (.inl (cM k))).2.2.2.2.2.2.1,(toP k (.inl (cM k))).2.2.2.2.2.2.2)))))))=_ from mnZ hsm];rw[w64 (by omega),hI.lm]
   rfl
  ·obtain⟨n,rowsP,mp,rfl,hk,hI⟩:=hI;have:n=ks.length:=by omega
   subst this;unfold nG;simp only[aCZ (ZA1 _)];exact⟨_,rfl,rowsP,mp,rfl,hI⟩
 obtain⟨o,ho,rowsP,mp,rfl,hI⟩:=loop;exact⟨rowsP,mp,by rw[(ho)];rfl,hI.fam (fun _ _=>rfl) fun k x=>⟨x,rfl⟩⟩
theorem oPZ{rows}{ms}{ks}(st)(hF:kW rows ms ks)(h:Fit ks):∃rows2 mp me,qF aB st rows ms=some (st,(rows,(rows2,(mp,(ms.map aV,me)))))/\uF rows2 mp ks/\uG rows2 me ks:=by
 unfold qF;have hn:=h.n;rw[hF.pure1];erw[ZAA];rw[cVZ hn,ZAA];have loop:∃o,jL aB ks (st,(0,(rows,(st,((List.map (bY T2) ((ks))),(0,([],(ms.map aV,[]))))))))=some o/\∃rows2 mp me,o=(st,(rows,(st,(rows2,(0,(mp,(ms.map aV,me)))))))/\rI to2 cM dB ks ks.length rows2 mp me:=by
  unfold jL;refine a5Z (fun m s=>∃(n:Nat) (rows2:List JF) (mp:MsP) (me:MsE),s=(st,((n:Int),(rows,(st,(rows2,(0,(mp,(ms.map aV,me))))))))/\n+m=ks.length/\rI to2 cM dB ks n rows2 mp me) _ (fun m s hI=> ?_) (fun s hI=> ?_) ks.length _ (by omega) ⟨0,_,[],[],rfl,by omega,vrZ ks⟩
  ·obtain⟨n,rows2,mp,me,rfl,hk,hI⟩:=hI;have hlt:n<ks.length:=by omega
   obtain⟨k,hg⟩:∃k,ks[n]? =some k:=⟨_,ZAC hlt⟩;have hrow:=(hI.at_ n k hg).2 (ZAL _);have hsm:=h.at hg;left;refine⟨(st,(((n+1:Nat):Int),(rows,(st,(rows2.set n (to2 k (.inr (some (n,(0,(cM k).length)))) (.inr (some (n,(0,(dB k).length))))),(0,(mp++[(1,cM k)],(ms.map aV,me++[(1,dB k)])))))))),?_,n+1,_,_,_,rfl,by omega,hI.step hg⟩;have hlr:n<rows2.length:=by rw[hI.len];exact hlt
   unfold nH;simp only[aEZ hlt];rw[acZ hlr];simp[hrow];rw[show lY (Ty.ref 0 PTy) (to2 k (.inl (cM k)) (.inl (dB k))).2.2.2.2.2.1=some (cM k) from rfl];erw[ZAA];rw[show lY (Ty.ref 2 ETy) (to2 k (.inl (cM k)) (.inl (dB k))).2.2.2.2.2.2.2=some (dB k) from rfl];erw[ZAA];rw[show eW aB ((to2 k (.inl (cM k)) (.inl (dB k))).1,((to2 k (.inl (cM k)) (.inl (dB k))).2.1,((to2 k (.inl (cM k)) (.inl (dB k))).2.2.1,((to2 k (.inl (cM k)) (.inl (dB k))).2.2.2.1,((to2 k (.inl (cM k)) (.inl (dB k))).2.2.2.2.1,(cM k,((to2 k (.inl (cM k)) (.inl (dB k))).2.2.2.2.2.2.1,dB k)))))))=_ from mnZ hsm];rw[w64 (by omega),hI.lm,hI.lm2]
   rfl
  ·obtain⟨n,rows2,mp,me,rfl,hk,hI⟩:=hI;have:n=ks.length:=by omega
   subst this;unfold nH;simp only[aCZ (ZA1 _),ZAD];exact⟨_,rfl,rows2,mp,me,rfl,hI⟩
 obtain⟨o,ho,rows2,mp,me,rfl,hI⟩:=loop;exact⟨rows2,mp,me,by rw[(ho)];rfl,hI.fam1 (fun _ _ _=>rfl) fun k x y=>⟨x,y,rfl⟩,hI.fam2 (fun _ _ _=>rfl) fun k x y=>⟨x,y,rfl⟩⟩
theorem aFZ{t:cI}(h:Fit t.1):qW aB t=some (t.2,t.1):=by
 unfold qW;rw[cVZ h.n];have loop:xW aB t.1 (0,(t.2,(t.1,0)))=some (t.2,(t.1,0)):=by
  refine aoZ (fun k=>((k:Int),(t.2,(t.1,0)))) t.1.length (by have:=h.n;omega) (fun k hk=> ?_) ?_
  ·unfold BK;obtain⟨n,hg⟩:∃n,t.1[k]? =some n:=⟨_,ZAC hk⟩;have hsm:=h.at hg;have hs:=dNZ hg;simp only[aEZ hk];rw[acZ hk];simp only[ZAA,hg];rw[cLZ hsm.1,d7Z hsm.2];show((t.1.set k n)[k]?.bind _)=_;rw[hs,hg,w64 (by have:=h.n;omega)];show some (Sum.inl (_,(t.2,(t.1.set k n,0))))=_;rw[hs]
   rfl
  ·unfold BK;simp[ZAD]
 simp_all
theorem tBZ{l:List Ent}(s)(hl:l.length<=100000):qD aB l s=some (.inl (dS l s,s))\/qD aB l s=some (.inr (s,dS l s)):=by
 have hidx:tS aB l s=some (match l.findIdx? (fun e=>e.1==s) with|some n=>((n:Int),(l,s))|none=>(-1,(l,s))):=by
  unfold tS oW;have e:=gOZ (l,s) (fun e:Ent=>e.1==s) l (by omega) (fun tt=>gS aB l tt.1 tt.2.1 tt.2.2) (fun i x hx=>by
   show gS aB l (i:Int) l s=_;unfold gS DY;have hlt:=(ZAB.1 hx).1;simp[ZAK]
   grind[acZ,ZAA,w64]) (by
   show gS aB l ((l.length:Nat):Int) l s=_
   simp_all[gS,ZAD])
  rw[e,ZAA];cases l.findIdx? (fun e=>e.1==s)<;>rfl
 unfold qD;rw[hidx,ZAA];cases hf:l.findIdx? (fun e=>e.1==s) with
 |none=>
  grind[dS,ZBm,ZBx]
 |some n=>
  right
  let⟨hn,h1,h2⟩:=ZA2.1 hf
  simp only[];rw[show((n:Int)== -1)=false from by simp,ZAD,w64 (by omega)];obtain⟨h',e1,e2,e3⟩:=jBZ s (fun e:Ent=>e.1==s) l n hn (by omega) h1 (fun j hj=>by simpa using h2 j hj)
   (fun tt=>gN aB tt.1 tt.2.1 tt.2.2.1 tt.2.2.2) (fun i j h x hij hj hh hx=>by
    show gN aB (i:Int) (j:Int) h s=_;unfold gN DY;have hi:i<h.length:=by omega
    obtain⟨y,hy⟩:∃y,h[i]? =some y:=⟨_,ZAC hi⟩;simp only[aEZ hj,ZAK];rw[acZ hj,ZAA,hx,ZAA,ZAA,acZ hi];simp only[ZAA,hy];rw[w64 (by omega),w64 (by omega)];cases(x.1==s)<;>rfl) (fun i h=>by
    show gN aB (i:Int) ((h.length:Nat):Int) h s=_;unfold gN;simp only[aCZ (ZA1 _),ZAD])
  have e3:h'.take (dS l s).length=dS l s:=e3;have e1:iter aB (fun tt=>gN aB tt.1 tt.2.1 tt.2.2.1 tt.2.2.2) ((n:Int),(((n+1:Nat):Int),(l,s)))=some ((((dS l s).length:Nat):Int),(h',s)):=e1;rw[show rH aB ((n:Int),((n:Int)+1,(l,s)))=_ from e1,ZAA];have hle:(dS l s).length<=h'.length:=by rw[e2];exact ZBe _ _
  simp only;rw[aGZ hle,ZAA,aeZ (aNZ (by omega))];have hsl:(aW h' (dS l s).length (List.replicate (h'.length-(dS l s).length) (([],0):Ent))).length=h'.length:=by
   unfold aW;simp;omega
  rw[hsl,aGZ hle,ZAA,aeZ (aNZ hle)];have:(aW h' (dS l s).length (List.replicate (h'.length-(dS l s).length) (([],0):Ent))).take (dS l s).length=dS l s:=by
   unfold aW;rw[ZAp,ZBJ (by rw[e3];exact ZAL _),ZCv,Nat.min_self,e3]
  grind
def wE(n:Ino)(l:List Ent):Ino:=(n.1,n.2.1,n.2.2.1,n.2.2.2.1,n.2.2.2.2.1,n.2.2.2.2.2.1,n.2.2.2.2.2.2.1,l)
def wP(n:Ino)(p:Int):Ino:=(n.1,n.2.1,n.2.2.1,n.2.2.2.1,n.2.2.2.2.1,n.2.2.2.2.2.1,p,n.2.2.2.2.2.2.2)
theorem jvZ{l}(s)(id)(hl:l.length<=100000):LM aB ((pos l s:Nat):Int) l [(s,id)]=some ([(s,id)],jS l s id):=by
 unfold LM;rw[aGZ (qfZ l s),ZAA,aeZ]
 ·rfl
 ·simp[asZ,ZBX];omega
theorem t0Z{rows ex:List GO}{ms}{ks}(st){dir}{n}(s)(id)(hF:kW rows ms ks)(hks:ks.length+ex.length<=100000)(h1:1<=dir)(hn:ks[(dir-1).toNat]? =some n)(hs:Srt n.2.2.2.2.2.2.2)(hl:n.2.2.2.2.2.2.2.length<=100000):
 ∃rows' ms',IU aB dir s id st (rows++ex) ms=some (st,(rows'++ex,ms'))/\kW rows' ms' (ks.set (dir-1).toNat (wE n (jS n.2.2.2.2.2.2.2 s id))):=by
 have hlt:=(ZAB.1 hn).1;have hrl:=hF.len
 let⟨row,hr,⟨x,hrx⟩,_⟩:=hF.row hn
 let⟨ms',ho,hml,aS⟩:=hF.open_ hr hn
 refine⟨_,_,?_,aS (toE n (.inr (some (ms'.length,(0,(jS n.2.2.2.2.2.2.2 s id).length))))) (wE n (jS n.2.2.2.2.2.2.2 s id)) ⟨_,rfl⟩ rfl⟩;have hr':(rows++ex)[(dir-1).toNat]? =some row:=by rw[ZAT (by omega)];exact hr
 unfold IU;rw[w64 (by omega),a0Z (by omega) (by rw[ZAe];omega),ZAA,hr',ZAA,hF.one hr hn];erw[ZAA];rw[i7Z s hs hl,ZAA,ZAA];erw[ho];rw[ZAA];simp only;rw[jvZ s id hl,ZAA,ZAA,hrx,List.set_append_left _ _ (by omega)]
 rfl
theorem put_ok{rows}{ms}{ks}(st){dir}{n}(s)(id)(hF:kW rows ms ks)(hks:ks.length<=100000)(h1:1<=dir)(hn:ks[(dir-1).toNat]? =some n)(hs:Srt n.2.2.2.2.2.2.2)(hl:n.2.2.2.2.2.2.2.length<=100000):
 ∃rows' ms',IU aB dir s id st rows ms=some (st,(rows',ms'))/\kW rows' ms' (ks.set (dir-1).toNat (wE n (jS n.2.2.2.2.2.2.2 s id))):=by
 let⟨rows',ms',h,hf⟩:=t0Z (ex:=[]) st s id hF (by omega) h1 hn hs hl
 rw[ZAo,ZAo] at h;exact⟨rows',ms',h,hf⟩
theorem ebZ{rows}{ms}{ks}(st){dir}{n}(s)(hF:kW rows ms ks)(hks:ks.length<=100000)(h1:1<=dir)(hn:ks[(dir-1).toNat]? =some n)(hl:n.2.2.2.2.2.2.2.length<=100000):
 ∃rows' ms',IV aB dir s st rows ms=some (st,(rows',ms'))/\kW rows' ms' (ks.set (dir-1).toNat (wE n (dS n.2.2.2.2.2.2.2 s))):=by
 have hlt:=(ZAB.1 hn).1;have hrl:=hF.len
 let⟨row,hr,⟨x,hrx⟩,_⟩:=hF.row hn
 let⟨ms',ho,hml,aS⟩:=hF.open_ hr hn
 refine⟨_,_,?_,aS (toE n (.inr (some (ms'.length,(0,(dS n.2.2.2.2.2.2.2 s).length))))) (wE n (dS n.2.2.2.2.2.2.2 s)) ⟨_,rfl⟩ rfl⟩;unfold IV Pb Pc Pd Pe Pf PF;rw[w64 (by omega),a0Z (by omega) (by omega),ZAA,hr,ZAA];erw[ho];rw[ZAA];simp only;rcases tBZ s hl with hd|hd
 ·rw[hd,ZAA];simp only;rw[hrx]
  rfl
 ·rw[hd,ZAA];simp only;rw[hrx]
  rfl
theorem tRZ{rows}{mp}{me}{ks}(st){dir}{n}(s)(id)(hP:uF rows mp ks)(hF:uG rows me ks)(hks:ks.length<=100000)(h1:1<=dir)(hn:ks[(dir-1).toNat]? =some n)(hs:Srt n.2.2.2.2.2.2.2)(hl:n.2.2.2.2.2.2.2.length<=100000):
 ∃rows' me',HJ aB dir s id st rows mp me=some (st,(rows',(mp,me')))/\uF rows' mp (ks.set (dir-1).toNat (wE n (jS n.2.2.2.2.2.2.2 s id)))/\uG rows' me' (ks.set (dir-1).toNat (wE n (jS n.2.2.2.2.2.2.2 s id))):=by
 have hlt:=(ZAB.1 hn).1;have hrl:=hF.len
 let⟨row,hr,⟨x,y,hrx⟩,_⟩:=hF.row hn
 let⟨me',ho,hml,aS⟩:=hF.open_ hr hn
 refine⟨_,_,?_,hP.keep hr hn ⟨_,_,rfl⟩ (by rw[hrx];rfl) rfl,aS (to2 n x (.inr (some (me'.length,(0,(jS n.2.2.2.2.2.2.2 s id).length))))) (wE n (jS n.2.2.2.2.2.2.2 s id)) ⟨_,_,rfl⟩ rfl⟩;unfold HJ;rw[w64 (by omega),a0Z (by omega) (by omega),ZAA,hr,ZAA,sMZ hP hF hr hn];erw[ZAA];rw[i7Z s hs hl,ZAA,ZAA];erw[ho];rw[ZAA];simp only;rw[jvZ s id hl,hrx]
 rfl
theorem sKZ{rows}{mp}{me}{ks}(st){dir}{n}(s)(hP:uF rows mp ks)(hF:uG rows me ks)(hks:ks.length<=100000)(h1:1<=dir)(hn:ks[(dir-1).toNat]? =some n)(hl:n.2.2.2.2.2.2.2.length<=100000):
 ∃rows' me',HI aB dir s st rows mp me=some (st,(rows',(mp,me')))/\uF rows' mp (ks.set (dir-1).toNat (wE n (dS n.2.2.2.2.2.2.2 s)))/\uG rows' me' (ks.set (dir-1).toNat (wE n (dS n.2.2.2.2.2.2.2 s))):=by
 have hlt:=(ZAB.1 hn).1;have hrl:=hF.len
 let⟨row,hr,⟨x,y,hrx⟩,_⟩:=hF.row hn
 let⟨me',ho,hml,aS⟩:=hF.open_ hr hn
 refine⟨_,_,?_,hP.keep hr hn ⟨_,_,rfl⟩ (by rw[hrx];rfl) rfl,aS (to2 n x (.inr (some (me'.length,(0,(dS n.2.2.2.2.2.2.2 s).length))))) (wE n (dS n.2.2.2.2.2.2.2 s)) ⟨_,_,rfl⟩ rfl⟩;unfold HI Pb Pc Pd Pe Pf PF;rw[w64 (by omega),a0Z (by omega) (by omega),ZAA,hr,ZAA];erw[ho];rw[ZAA];simp only;rcases tBZ s hl with hd|hd
 ·rw[hd,ZAA];simp only;rw[hrx]
  rfl
 ·rw[hd,ZAA];simp only;rw[hrx]
  rfl
def vD(l:List Ino):Prop:=match nL l with|none=>500<=l.length|some i=>∃n,l[i]? =some n/\1099511627776<=n.2.1
structure Alc (l:List Ino) (dir:Bool) (parent:Int) (l':List Ino) (i:Nat) (g:Int):Prop where
 slot:i=(nL l).getD l.length
 new:l'[i]? =some ((i:Int)+1,g,true,dir,0,[],parent,[])
 old:∀j:Nat,j≠i->l'[j]? =l[j]?
 gen:g=(match l[i]? with|some n=>n.2.1|none=>0)+1
 top:g<=1099511627776
 was:∀n,l[i]? =some n->n.2.2.1=false
 len:l'.length=if i<l.length then l.length else l.length+1
 le:i<=l.length
 few:l'.length<=500
theorem exZ{α γ}(g):∀(a b:List α) {x y:List γ},bE g a=some x->bE g b=some y->bE g (a++b)=some (x++y)
 |[],b,x,y,h1,h2=>by
  have:x=[]:=by injection h1 with h1;exact h1.symm
  simp_all
 |c::a,b,x,y,h1,h2=>by
  have h1:(g c).bind (fun z=>(bE g a).map (z::·))=some x:=h1;show(g c).bind (fun z=>(bE g (a++b)).map (z::·))=some (x++y);cases hc:g c with
  |none=>rw[hc] at h1;cases h1
  |some z=>
   rw[hc] at h1;cases ha:bE g a with
   |none=>rw[ha] at h1;cases h1
   |some w=>
    rw[ha] at h1;have:x=z::w:=by injection h1 with h1;exact h1.symm
    subst this;rw[exZ g a b ha h2]
    rfl
theorem eqZ{t}(h:dD t):DN aB t=some true:=by
 let⟨b,hb,hq⟩:=mPZ h.fit<;>grind
theorem qDZ{t}(h:dD t)(dir){parent}(hp:isB t.1 parent true=true):
 (vD t.1/\∃rows ms,DU aB t dir parent=some (t.2,(0,(0,(5,(rows,ms)))))/\kW rows ms t.1)\/
 (∃(rows ex:List GO) (ms:MsE) (l le:List Ino) (i:Nat) (g:Int),DU aB t dir parent=some (t.2,((i:Int)+1,(g,(0,(rows++ex,ms)))))/\Alc t.1 dir parent (l++le) i g/\kW rows ms l/\l.length=t.1.length/\((ex=[]/\le=[])\/∃n,ex=[toE n (.inl [])]/\le=[n]/\n.2.2.2.2.2.2.2=[])):=by
 have hlen:=h.len
 let⟨rows,ms,hc,hF⟩:=igZ h.fit
 have hrl:=hF.len;have hfi:=uoZ (l:=t.1) (by omega);unfold DU Pa Pb Pc Pd Pe PA PB PC PE PF;rw[hc,ZAA,eqZ h,ZAA];simp only[ZAD];rw[rCZ h.fit,ZAA,hp];simp only[ZAQ];rw[hF.pure1];erw[ZAA];rw[hfi,ZAA];cases hfree:nL t.1 with
 |none=>
  simp only;rw[show decide ((-1:Int)<0)=true from rfl];simp only[ZAK,ZAA,hrl];by_cases h5:500<=t.1.length
  ·left;rw[ZAJ (show(((t.1.length:Nat):Int)>=500) by omega)];refine⟨by simp_all[vD],rows,ms,rfl,hF⟩
  ·right;rw[ZAE (show¬(((t.1.length:Nat):Int)>=500) by omega)];simp only[ZAD];rw[aeZ (by simp only[ZAF,ZAm,asZ];omega),ZAA];simp only;obtain⟨row0,hrow0⟩:∃r,r=toE (((t.1.length:Nat):Int)+1,0,false,false,0,[],0,[]) (.inl []):=⟨_,rfl⟩;have e0:(List.map (bY TE) ((([((wI (((t.1.length:Nat):Int)+1)),(0,(false,(false,(0,([],(0,[])))))))]:List Ino))))=[row0]:=by
    rw[w64 (by omega),hrow0];rfl
   erw[e0];have hlt:rows.length<(rows++[row0]).length:=by simp
   have hg:(rows++[row0])[rows.length]? =some row0:=by simp
   rw[<-hrl,acZ hlt];simp only[ZAA,hg,List.set_set,miZ hlt];refine⟨rows,[toE (((t.1.length:Nat):Int)+1,1,true,dir,0,[],parent,[]) (.inl [])],ms,t.1,[(((t.1.length:Nat):Int)+1,1,true,dir,0,[],parent,[])],t.1.length,1,?_,⟨by rw[hfree];rfl,by simp,fun j hj=> ?_,by simp,by omega,fun n hn=>by simp at hn,by simp,ZAL _,by simp;omega⟩,hF,hrl.symm,.inr ⟨_,rfl,rfl,rfl⟩⟩
   ·rw[List.set_append_right _ _ (ZAL _),ZBv,hrow0]
    rfl
   grind
 |some i=>
  let⟨hi,hu,_⟩:=ZA2.1 hfree
  have hg:=ZAC hi
  let⟨row,hr,⟨x,hrx⟩,_⟩:=hF.row hg
  have hu:=by simpa using hu
  have ho:=h.ino i _ hg;have hb:=ho.bare hu;have hgen:=ho.gen;simp only;rw[ZAE (show¬((i:Int)<0) by omega)];simp only[ZAD,ZAA];rw[acZ (show i<rows.length by omega)];simp only[ZAA,hr];have hrg:row.2.1=t.1[i].2.1:=by rw[hrx];rfl
  rw[hrg];by_cases h5:t.1[i].2.1>=1099511627776
  ·left;rw[ZAJ h5];refine⟨by unfold vD;rw[hfree];exact⟨_,hg,h5⟩,rows,ms,rfl,hF⟩
  ·right;rw[ZAE h5];simp only[ZAD,ZAA];have hlr:i<rows.length:=by omega
   rw[acZ hlr];simp only[ZAA,hr,List.set_set,miZ hlr];have hw:wI (row.2.1+1)=t.1[i].2.1+1:=by rw[hrg,w64 (by omega)]
   rw[hw];have hid:=ho.id;have hrow:=hrx;refine⟨rows.set i (toE (NH t.1[i] dir parent) x),[],ms,t.1.set i (NH t.1[i] dir parent),[],i,t.1[i].2.1+1,?_,⟨by rw[hfree];rfl,?_,fun j hj=> ?_,by rw[hg],by omega,fun n hn=>by rw[hg] at hn;cases hn;exact hu,by simp[hi],by omega,by simp;omega⟩,hF.keep hr hg ⟨x,rfl⟩ (by rw[hrx];rfl) rfl,ZAv ..,.inl ⟨rfl,rfl⟩⟩
   ·rw[ZAo];congr 2;rw[hrow];refine Prod.ext ?_ rfl;show t.1[i].1=_;omega
   ·rw[ZAo,miZ hi];unfold NH;rw[hb.2.1,hb.2.2.2.1,hb.2.2.2.2,hid]
   ·rw[ZAo,ZAa (by omega)]
def HT(l':List Ino)(d:Int)(n:Ino)(s:List UInt8)(id:Int):List Ino:=l'.set (d-1).toNat (wE n (jS n.2.2.2.2.2.2.2 s id))
theorem veZ{l}{d}{n}(hn:IsD l d n):isB l d.1 true=true:=by
 unfold isB;rw[hn.1.2.1];simp[hn.1.1,hn.1.2.2.1,hn.2]
section
variable {t : cI} {d : Int × Int} {n : Ino} {s : List UInt8}
theorem m9Z(h:aM t)(s)(is)(hb:eD t.1 d≠0):cO aB t d s is=some (t.1,(t.2,(0,(0,eD t.1 d)))):=by
 unfold cO;rw[dBZ h hb,ZAA];simp[ZAW.2 hb,ZAK];rw[aFZ h.r.fit,ZAA]
theorem jYZ(h:aM t)(is)(hn:IsD t.1 d n)(hs:bQ s=false):cO aB t d s is=some (t.1,(t.2,(0,(0,176)))):=by
 unfold cO;rw[aHZ h hn,ZAA];rw[show aK 0 [n].length=some 0 from rfl,ZAA,show[n][0]? =some n from rfl,ZAA,h.ent_ok hn,ZAA,a3Z,ZAA,hs];simp[ZAK];rw[aFZ h.r.fit,ZAA]
theorem h3Z(h:aM t)(is)(hn:IsD t.1 d n)(hs:bQ s=true)(hh:eB n.2.2.2.2.2.2.2 s=true):cO aB t d s is=some (t.1,(t.2,(0,(0,172)))):=by
 unfold cO;rw[aHZ h hn,ZAA];rw[show aK 0 [n].length=some 0 from rfl,ZAA,show[n][0]? =some n from rfl,ZAA,h.ent_ok hn,ZAA,a3Z,ZAA,hs,hh];simp[ZAD];rw[aFZ h.r.fit,ZAA]
theorem k9Z(h:aM t)(is)(hn:IsD t.1 d n)(hs:bQ s=true)(hh:eB n.2.2.2.2.2.2.2 s=false)(hl:100<=n.2.2.2.2.2.2.2.length):cO aB t d s is=some (t.1,(t.2,(0,(0,5)))):=by
 unfold cO;rw[aHZ h hn,ZAA];rw[show aK 0 [n].length=some 0 from rfl,ZAA,show[n][0]? =some n from rfl,ZAA,h.ent_ok hn,a3Z,hs,hh];simp only[ZAQ,ZAD,ZAA];rw[show[n][0]? =some n from rfl,ZAA,ZAJ (show((n.2.2.2.2.2.2.2.length:Nat):Int)>=100 by omega)];simp;rw[aFZ h.r.fit,ZAA]
theorem hDZ(h:aM t)(is)(hn:IsD t.1 d n)(hs:bQ s=true)(hh:eB n.2.2.2.2.2.2.2 s=false)(hl:n.2.2.2.2.2.2.2.length<100):
 (vD t.1/\cO aB t d s is=some (t.1,(t.2,(0,(0,5)))))\/
 ∃(l':List Ino) (i:Nat) (g:Int),Alc t.1 is d.1 l' i g/\cO aB t d s is=some (HT l' d.1 n s ((i:Int)+1),(t.2,((i:Int)+1,(g,0)))):=by
 have hlen:=h.r.len;have hlt:=(ZAB.1 hn.1.2.1).1;unfold cO;rw[aHZ h hn,ZAA];simp only[ZAd,ZAD];rw[show aK 0 [n].length=some 0 from rfl,ZAA,show[n][0]? =some n from rfl,ZAA,h.ent_ok hn,a3Z,hs,hh];simp only[ZAQ,ZAA];rw[show[n][0]? =some n from rfl,ZAA,ZAE (show¬((n.2.2.2.2.2.2.2.length:Nat):Int)>=100 by omega)];simp only[ZAD];rcases qDZ h.r is (veZ hn) with⟨hno,rows,ms,ha,hF⟩|⟨rows,ex,ms,l,le,i,g,ha,hA,hF,hll,hex⟩
 ·left;refine⟨hno,?_⟩;rw[ha,ZAA];simp only;rw[show((5:Int)==0)=false from rfl];simp only[ZAn,ZAK];rw[hF.pure1];erw[ZAA]
 ·right;refine⟨l++le,i,g,hA,?_⟩;rw[ha,ZAA];simp only[ZAd,ZAQ,ZAD];have hne:(d.1-1).toNat≠i:=fun hc=>by
   have:=hA.was n (by rw[<-hc];exact hn.1.2.1);rw[hn.1.2.2.1] at this;cases this
  have hln:=by
   have:=hA.old _ hne;rw[ZAT (by omega),hn.1.2.1] at this;exact this
  have hexl:ex.length<=1:=by rcases hex with⟨h1,_⟩|⟨n,h1,_⟩<;>rw[h1]<;>simp
  let⟨rows',ms',hput,hF'⟩:=t0Z (ex:=ex) t.2 s ((i:Int)+1) hF (by omega) hn.1.1 hln (h.srt hn.1) (by omega)
  rw[hput,ZAA];simp only;have hex':bE (aT [⟨1,ETy,ms'.map aV⟩] TE) ex=some le:=by
   rcases hex with⟨rfl,rfl⟩|⟨m,rfl,rfl,hm⟩
   ·rfl
   ·let⟨m1,m2,m3,m4,m5,m6,m7,m8⟩:=m
    simp only at hm;subst hm
    rfl
  have hu:bE (aT [⟨1,ETy,ms'.map aV⟩] TE) (rows'++ex)=some (l.set (d.1-1).toNat (wE n (jS n.2.2.2.2.2.2.2 s ((i:Int)+1)))++le):=exZ _ _ _ hF'.pure1 hex';rw[hu];erw[ZAA];unfold HT;rw[List.set_append_left _ _ (by omega)]
end
theorem luZ:∀{l' l},(∀(j:Nat) n',l'[j]? =some n'->n'.2.2.2.2.2.1=[]\/∃n,l[j]? =some n/\n'.2.2.2.2.2.1=n.2.2.2.2.2.1)->(aD l').Sublist (aD l)
 |[],l,_=>by simp[aD]
 |a::r,l,h=>by
  have ea:∀(x) (y),aD (x::y)=aO x.2.2.2.2.2.1++aD y:=fun x y=>by simp[aD]
  cases l with
  |nil=>
   have h0:=h 0 a rfl;rcases h0 with h0|⟨n,hn,_⟩
   ·have:=luZ (l:=[]) fun j n' hj=>h (j+1) n' (by simpa using hj);rw[ea,h0];simpa[aO] using this
   ·simp at hn
  |cons b m=>
   have ih:=luZ fun j n' hj=>by simpa using h (j+1) n' (by simpa using hj)
   rw[ea];refine List.Sublist.append ?_ ih;rcases h 0 a rfl with h0|⟨n,hn,he⟩
   ·rw[h0];simp[aO]
   ·simp at hn;subst hn;rw[he];exact List.Sublist.refl _
theorem gaZ{a b}(h:a<=b):∀{l} {last},fZ a last l->fZ b last l
 |[],last,_=>trivial
 |e::r,last,hl=>by
  rw[gjZ] at hl⊢;exact⟨hl.1,hl.2.1,hl.2.2.1,hl.2.2.2.1,by omega,gaZ h hl.2.2.2.2.2⟩
theorem gV.wide{a b s s'}{i}{n}(h:gV a s i n)(hab:a<=b)(hs:s<=s'):gV b s' i n:=
 ⟨h.id,h.gen,fun q=>by have:=h.par q;omega,fun q1 q2=>by
  have:=h.dir q1 q2
  grind[gaZ],fun q1 q2=>by
  have:=h.file q1 q2;exact⟨this.1,this.2.1,this.2.2.1,fun p hp=>by
   rcases this.2.2.2 p hp with h5|h5
   ·exact .inl h5
   ·exact .inr (by omega)⟩,h.bare⟩
theorem dD.pt{t}{l'}{st}(h:dD t)(hl:t.1.length<=l'.length/\l'.length<=500)(hst:t.2<=st/\st<=1099511627776)
 (hi:∀(j) n',l'[j]? =some n'->t.1[j]? =some n'\/(gV l'.length st j n'/\(n'.2.2.2.2.2.1=[]\/∃n,t.1[j]? =some n/\n'.2.2.2.2.2.1=n.2.2.2.2.2.1)/\(j=0->n'.2.2.1=true/\n'.2.2.2.1=true/\n'.2.2.2.2.2.2.1=1))):dD (l',st):=by
 have hlen:=h.len;have hs:=h.str;refine⟨⟨by grind,hl.2⟩,⟨by omega,hst.2⟩,fun j n' hn=> ?_,h.nod.sublist (luZ fun j n' hn=> ?_),?_⟩
 ·rcases hi j n' hn with h1|h1
  ·exact(h.ino j n' h1).wide (by simp;omega) hst.1
  ·exact h1.1
 ·rcases hi j n' hn with h1|h1
  ·exact .inr ⟨n',h1,rfl⟩
  ·exact h1.2.1
 ·have h0:0<l'.length:=by omega
  refine⟨l'[0],ZAC h0,?_⟩;rcases hi 0 _ (ZAC h0) with h1|h1
  ·let⟨r,hr,h2⟩:=h.root
   rw[h1] at hr;cases hr;exact h2
  ·exact h1.2.2 rfl
def vX(l:List Ino)(i:Nat)(f:Ino->Ino):List Ino:=match l[i]? with|some n=>l.set i (f n)|none=>l
theorem bJZ{l}{i}{n}(f)(h:l[i]? =some n):vX l i f=l.set i (f n):=by simp_all[vX]
theorem aXZ(l)(i)(f):(vX l i f).length=l.length:=by
 grind[vX,ZAv]
theorem bnZ(l)(i)(f)(j):(vX l i f)[j]? =if j=i then(l[j]?).map f else l[j]? :=by
 unfold vX
 grind
def bO(l:List Ino)(d:Int)(s:List UInt8):List Ino:=vX l (d-1).toNat fun n=>wE n (dS n.2.2.2.2.2.2.2 s)
def iT(l:List Ino)(d:Int)(s:List UInt8)(id:Int):List Ino:=vX l (d-1).toNat fun n=>wE n (jS n.2.2.2.2.2.2.2 s id)
def NI(l:List Ino)(id p:Int):List Ino:=vX l (id-1).toNat fun n=>wP n p
def cR(l:List Ino)(id:Int):List Ino:=vX l (id-1).toNat fun n=>iZ n id
theorem jAZ{s}(h:bQ s=true):1<=s.length/\s.length<=30:=by
 simp_all[bQ,ZAt]
theorem feZ{many st}{i}{n}(h:gV many st i n)(hu:n.2.2.1=true)(hd:n.2.2.2.1=true){l}(hl:l.length<=100)(hs:Srt l)(he:∀e∈l,1<=e.1.length/\e.1.length<=30/\1<=e.2/\e.2<=many):gV many st i (wE n l):=by
 have hdir:=h.dir hu hd;refine⟨h.id,h.gen,h.par,fun _ _=>⟨hdir.1,hdir.2.1,hl,ffZ hs fun e h=>⟨jzZ (he e h).1,he e h⟩⟩,fun _ h2=> ?_,fun h1=> ?_⟩
 ·have h2:n.2.2.2.1=false:=h2
  simp_all
 ·have h1:n.2.2.1=false:=h1
  simp_all
section
variable {t : cI} {d : Int × Int} {n : Ino} {s : List UInt8}
theorem aM.root_used(h:aM t){r}(hr:t.1[0]? =some r):r.2.2.1=true/\r.2.2.2.1=true/\r.2.2.2.2.2.2.1=1:=by
 let⟨r',hr',h2⟩:=h.r.root<;>grind
theorem aM.ents_ok(h:aM t){i:Nat}(hn:t.1[i]? =some n):∀e∈n.2.2.2.2.2.2.2,1<=e.1.length/\e.1.length<=30/\1<=e.2/\e.2<=t.1.length:=fun e he=>by
 have h1:=cEZ (c5Z (h.r.ino i n hn)).2 e he;omega
theorem fkZ(hn:IsD t.1 d n):((d.1-1).toNat:Int)+1=d.1:=by have:=hn.1.1;omega
theorem v8Z(h:aM t)(hn:IsD t.1 d n){is}{l'}{i}{g}(hA:Alc t.1 is d.1 l' i g)(j):
 (iT l' d.1 s ((i:Int)+1))[j]? =if j=(d.1-1).toNat then some (wE n (jS n.2.2.2.2.2.2.2 s ((i:Int)+1))) else if j=i then some ((i:Int)+1,g,true,is,0,[],d.1,[]) else t.1[j]? :=by
 have hne:(d.1-1).toNat≠i:=fun hc=>by
  have:=hA.was n (by rw[<-hc];exact hn.1.2.1);rw[hn.1.2.2.1] at this;grind
 unfold iT;rw[bnZ];by_cases h1:j=(d.1-1).toNat
 ·rw[ZAN h1,ZAN h1,h1,hA.old _ hne,hn.1.2.1];rfl
 ·rw[ZAM h1,ZAM h1];by_cases h2:j=i
  ·rw[ZAN h2,h2,hA.new]
  ·rw[ZAM h2,hA.old _ h2]
theorem m5Z(h:aM t)(hn:IsD t.1 d n)(hs:bQ s=true)(hh:eB n.2.2.2.2.2.2.2 s=false)(hl:n.2.2.2.2.2.2.2.length<100){is}{l'}{i}{g}(hA:Alc t.1 is d.1 l' i g):
 aM (iT l' d.1 s ((i:Int)+1),t.2):=by
 have hlen:=h.r.len;have hdi:=fkZ hn;have hq:=(ZAB.1 hn.1.2.1).1;have hat:=fun j=>v8Z (s:=s) h hn hA j;have hlen':(iT l' d.1 s ((i:Int)+1)).length=l'.length:=aXZ ..;have hll:t.1.length<=l'.length/\i<l'.length:=by
  have:=hA.len;have:=hA.le;split at* <;>omega
 have hi0:i≠0:=fun h0=>by
  obtain⟨r,hr,hu,_⟩:=h.r.root;have:=hA.was r (by rw[h0];exact hr)
  simp_all
 have hne:(d.1-1).toNat≠i:=fun hc=>by
  have:=hA.was n (by rw[<-hc];exact hn.1.2.1);rw[hn.1.2.2.1] at this;grind
 have keep:∀j m,t.1[j]? =some m->m.2.2.1=true->∃m',(iT l' d.1 s ((i:Int)+1))[j]? =some m'/\m'.2.2.1=true/\m'.2.2.2.2.2.2.1=m.2.2.2.2.2.2.1/\∀s' id',(s',id')∈m'.2.2.2.2.2.2.2↔(j=(d.1-1).toNat/\s'=s/\id'=(i:Int)+1)\/(s',id')∈m.2.2.2.2.2.2.2:=by
  intro j m hm hu;have hji:j≠i:=fun hc=>by
   have:=hA.was m (by rw[<-hc];exact hm)
   simp_all
  rw[hat];by_cases h1:j=(d.1-1).toNat
  ·rw[ZAN h1];have:m=n:=by rw[h1,hn.1.2.1] at hm;injection hm with hm;exact hm.symm
   subst this;refine⟨_,rfl,hu,rfl,fun s' id'=> ?_⟩;show(s',id')∈jS _ _ _↔_
   simp_all[d9Z]
  ·simp_all
 have hnew:(iT l' d.1 s ((i:Int)+1))[i]? =some ((i:Int)+1,g,true,is,0,[],d.1,[]):=by
  rw[hat,ZAM (by omega),ZAN rfl]
 refine⟨?_,fun j m hm s' id' he=> ?_,fun j x hx hu hj=> ?_,fun j x hx hu=> ?_⟩
 ·refine h.r.pt ⟨by omega,by rw[hlen'];exact hA.few⟩ ⟨ZB6 _,h.r.str.2⟩ fun j n' hj=> ?_;rw[hat] at hj;by_cases h1:j=(d.1-1).toNat
  ·rw[ZAN h1] at hj;cases hj;subst h1;right;have ho:=h.r.ino _ n hn.1.2.1;refine⟨feZ (ho.wide (by omega) (ZB6 _)) hn.1.2.2.1 hn.2 (by rw[f7Z];omega) (fFZ _ (h.srt hn.1) hh) fun e he=> ?_,.inr ⟨n,hn.1.2.1,rfl⟩,fun h0=> ?_⟩
   ·rcases d9Z.1 he with rfl|he
    ·have:=jAZ hs;simp only;omega
    ·have:=h.ents_ok hn.1.2.1 e he;omega
   ·exact h.root_used (r:=n) (by rw[<-h0];exact hn.1.2.1)
  ·rw[ZAM h1] at hj;by_cases h2:j=i
   ·rw[ZAN h2] at hj;cases hj;subst h2;right;have hg:1<=g:=by
     have:=hA.gen;cases hx:t.1[j]? with
     |none=>have e:g=0+1:=by rw[hx] at this;exact this
            omega
     |some m=>have e:g=m.2.1+1:=by rw[hx] at this;exact this
              have:=(h.r.ino j m hx).gen;omega
    refine⟨⟨by simp,⟨hg,hA.top⟩,fun _=>(⟨hn.1.1,by omega⟩:1<=d.1/\d.1<=_),fun _ _=>⟨rfl,rfl,by simp,trivial⟩,fun _ _=>⟨by simp,rfl,by simp,fun p hp=>by cases hp⟩,fun h=>by cases h⟩,.inl rfl,fun h0=>absurd h0 hi0⟩
   ·rw[ZAM h2] at hj;exact .inl hj
 ·have hm':=hm;simp only at hm';rw[hat] at hm';have old:∀m0,t.1[j]? =some m0->(s',id')∈m0.2.2.2.2.2.2.2->bQ s'=true/\id'≠1/\∃x,(iT l' d.1 s ((i:Int)+1))[(id'-1).toNat]? =some x/\x.2.2.1=true/\x.2.2.2.2.2.2.1=(j:Int)+1:=fun m0 hm0 he0=>by
   obtain⟨h1,h2,x,h3,h4,h5⟩:=h.e j m0 hm0 s' id' he0;obtain⟨x',g1,g2,g3,_⟩:=keep _ x h3 h4;exact⟨h1,h2,x',g1,g2,by rw[g3,h5]⟩
  by_cases h1:j=(d.1-1).toNat
  ·rw[ZAN h1] at hm';cases hm';rcases d9Z.1 he with e1|he
   ·cases e1;exact⟨hs,by omega,_,by rw[show((i:Int)+1-1).toNat=i from by omega];exact hnew,rfl,by rw[h1,hdi]⟩
   ·exact old n (by rw[h1];exact hn.1.2.1) he
  ·rw[ZAM h1] at hm';by_cases h2:j=i
   ·rw[ZAN h2] at hm';cases hm';cases he
   ·rw[ZAM h2] at hm';exact old m hm' he
 ·simp only at hx⊢;by_cases h2:j=i
  ·subst h2;rw[hnew] at hx;cases hx;obtain⟨m',g1,g2,g3,g4⟩:=keep _ n hn.1.2.1 hn.1.2.2.1;refine⟨m',s,g1,(g4 _ _).2 (.inl ⟨rfl,rfl,rfl⟩),fun s' hs'=> ?_⟩;rcases(g4 _ _).1 hs' with h1|h1
   ·exact h1.2.1
   ·obtain⟨_,_,x,h3,h4,_⟩:=h.e _ n hn.1.2.1 s' _ h1;rw[show((j:Int)+1-1).toNat=j from by omega] at h3;have:=hA.was x h3;rw[h4] at this;cases this
  ·obtain⟨x0,hx0,hxu,hxp⟩:∃x0,t.1[j]? =some x0/\x0.2.2.1=true/\x0.2.2.2.2.2.2.1=x.2.2.2.2.2.2.1:=by
    rw[hat] at hx;by_cases h1:j=(d.1-1).toNat
    ·rw[ZAN h1] at hx;cases hx;exact⟨n,by rw[h1];exact hn.1.2.1,hn.1.2.2.1,rfl⟩
    ·rw[ZAM h1,ZAM h2] at hx;exact⟨x,hx,hu,rfl⟩
   obtain⟨m,s0,h3,h4,h5⟩:=h.u j x0 hx0 hxu hj;have hmu:=(h.r.isdir h3 h4).1;obtain⟨m',g1,g2,g3,g4⟩:=keep _ m h3 hmu;rw[hxp] at g1;refine⟨m',s0,g1,(g4 _ _).2 (.inr h4),fun s' hs'=> ?_⟩;rcases(g4 _ _).1 hs' with h1|h1
   ·omega
   ·exact h5 s' h1
 ·have go:∀id,Rch t.1 id->Rch (iT l' d.1 s ((i:Int)+1)) id:=fun id hr=>by
   induction hr with
   |root=>exact .root
   |step hg hu _ ih=>
    obtain⟨m',g1,g2,g3,_⟩:=keep _ _ hg hu;exact .step g1 g2 (by rw[g3];exact ih)
  simp only at hx⊢;by_cases h2:j=i
  ·subst h2;rw[hnew] at hx;cases hx;refine .step (by rw[show((j:Int)+1-1).toNat=j from by omega];exact hnew) rfl (go _ ?_);have:=h.a _ n hn.1.2.1 hn.1.2.2.1;rw[hdi] at this;exact this
  ·rw[hat] at hx;by_cases h1:j=(d.1-1).toNat
   ·rw[h1];exact go _ (h.a _ n hn.1.2.1 hn.1.2.2.1)
   ·rw[ZAM h1,ZAM h2] at hx;exact go _ (h.a j x hx hu)
end
theorem b5Z{α β:Type}{x}{a}{f:α->Option β}(h:x=some a):x.bind f=f a:=by simp_all
def rJ(l:List bP):List bP:=l.filter fun p=> !eM p
theorem f9Z{l}{id}{x}(h1:1<=id)(hx:l[(id-1).toNat]? =some x)(b):isB l id b=(x.2.2.1&&x.2.2.2.1==b):=by
 simp_all[isB]
theorem pTZ{rows}{ms}{ks}{st id}{x}(hF:kW rows ms ks)(hr:dD (ks,st))(h0:id≠1)(h1:1<=id)(hx:ks[(id-1).toNat]? =some x)(hu:x.2.2.1=true):
 tU aB st id rows ms=some (ks.set (id-1).toNat (iZ x id),(st,(rJ x.2.2.2.2.2.1,(0,(rows,ms.map aV))))):=by
 have hfit:=hr.fit;have hlt:=(ZAB.1 hx).1;have hlen:ks.length<=500:=hr.len.2
 let⟨rowsP,mp,hc,hP⟩:=nIZ st hF hfit
 have hpl:=hP.len;unfold tU Pa Pb Pc Pd Pe Pf Pg PC PF PG;rw[hc,ZAA];simp only;rw[jhZ];erw[b5Z (hF.pure10 (mp.map aV))];rw[eqZ hr,ZAA];simp only[ZAQ,ZAD,ZAW.2 h0];erw[b5Z (hF.pure10 (mp.map aV))];rw[rCZ hfit,ZAA];simp only[f9Z h1 hx,hu,ZBT]
 let⟨row,hrow,⟨y,hry⟩,_⟩:=hP.row hx
 let⟨mp',ho,aS⟩:=hP.open_none hrow hx
 have hxl:=(hfit.at hx).1;have hd:(bif !(x.2.2.2.1==true) then
  (bE (aT [⟨1,ETy,ms.map aV⟩,⟨0,PTy,mp.map aV⟩] TE) rows).bind fun l2=>(gD aB (l2,st) id false).bind fun r3=>some (st,((!r3),(rows,((0:Int),(st,(rowsP,(mp,ms.map aV)))))))
  else some (st,(false,(rows,((0:Int),(st,(rowsP,(mp,ms.map aV))))))))=some (st,(false,(rows,((0:Int),(st,(rowsP,(mp,ms.map aV))))))):=by
  cases hd:x.2.2.2.1 with
  |true=>rfl
  |false=>
   simp only[show(false==true)=false from rfl,ZAn,ZAK];erw[b5Z (hF.pure10 (mp.map aV))];rw[rCZ hfit,f9Z h1 hx,hu,hd]
   rfl
 erw[hd];rw[ZAA];simp only[ZAD];rw[w64 (by omega),a0Z (by omega) (by omega),ZAA,hrow,ZAA];erw[ho];rw[ZAA];have hfin:∀(v:List bP),bE (aT [⟨1,ETy,ms.map aV⟩,⟨0,PTy,mp'.map aV⟩] TP) (rowsP.set (id-1).toNat (id,(row.2.1,(false,(false,(0,(.inr none,(0,[]))))))))=some (ks.set (id-1).toNat (iZ x id)):=fun _=>by
  refine SC.pure10 _ (aS (id,(row.2.1,(false,(false,(0,(.inr none,(0,[]))))))) (iZ x id) ⟨.inr none,?_⟩ rfl rfl);rw[hry];rfl
 rcases p6Z hxl with hdp|hdp
 ·rw[hdp];simp only[ZAA,hrow];rw[jhZ];erw[b5Z (hfin [])]
  rfl
 ·rw[hdp];simp only[ZAA,hrow];rw[jhZ];erw[b5Z (hfin [])]
  rfl
theorem o1Z{l}{id}(h:Rch l id):∀x,l[(id-1).toNat]? =some x->x.2.2.2.2.2.2.1=id->id=1:=by
 induction h<;>grind
section
variable {t : cI} {d : Int × Int} {n x : Ino} {s : List UInt8} {id : Int}
theorem o3Z{many st}{i}{x}(h:gV many st i x)(id)(hid:id=(i:Int)+1):gV many st i (iZ x id):=
 ⟨hid,h.gen,(fun h=>by cases h),(fun h=>by cases h),(fun h=>by cases h),fun _=>⟨rfl,rfl,rfl,rfl,rfl⟩⟩
theorem thZ(he:(s,id)∈n.2.2.2.2.2.2.2)(hn:IsD t.1 d n)(hx:t.1[(id-1).toNat]? =some x)(hxe:x.2.2.2.2.2.2.2=[]):(id-1).toNat≠(d.1-1).toNat:=fun hc=>by
 have:=hn.1.2.1
 simp_all
theorem vjZ(hk:(id-1).toNat≠(d.1-1).toNat)(hn:IsD t.1 d n)(hx:t.1[(id-1).toNat]? =some x)(j):
 (cR (bO t.1 d.1 s) id)[j]? =if j=(id-1).toNat then some (iZ x id) else if j=(d.1-1).toNat then some (wE n (dS n.2.2.2.2.2.2.2 s)) else t.1[j]? :=by
 unfold cR bO;rw[bnZ,bnZ];by_cases h1:j=(id-1).toNat
 ·simp_all
 ·rw[ZAM h1,ZAM h1];by_cases h2:j=(d.1-1).toNat
  ·rw[ZAN h2,ZAN h2,h2,hn.1.2.1];rfl
  ·rw[ZAM h2,ZAM h2]
theorem h0Z(h:aM t)(hn:IsD t.1 d n)(s):dD (bO t.1 d.1 s,t.2):=by
 have hlen:(bO t.1 d.1 s).length=t.1.length:=aXZ ..;have hl:=h.r.len;refine h.r.pt ⟨by omega,by omega⟩ ⟨ZB6 _,h.r.str.2⟩ fun j n' hj=> ?_;unfold bO at hj;rw[bnZ] at hj;by_cases h1:j=(d.1-1).toNat
 ·rw[ZAN h1,h1,hn.1.2.1] at hj;cases hj;right;subst h1;have ho:=h.r.ino _ n hn.1.2.1;have hfew:=h.few hn.1;have hle:(dS n.2.2.2.2.2.2.2 s).length<=n.2.2.2.2.2.2.2.length:=ZBe _ _;refine⟨feZ (by rw[hlen];exact ho) hn.1.2.2.1 hn.2 (by omega) (dEZ s (h.srt hn.1)) fun e he=> ?_,.inr ⟨n,hn.1.2.1,rfl⟩,fun h0=>h.root_used (r:=n) (by rw[<-h0];exact hn.1.2.1)⟩;have:=h.ents_ok hn.1.2.1 e (bHZ.1 he).1;omega
 grind
theorem mUZ(h:aM t)(hn:IsD t.1 d n)(he:(s,id)∈n.2.2.2.2.2.2.2)(hx:t.1[(id-1).toNat]? =some x)(hxe:x.2.2.2.2.2.2.2=[]):aM (cR (bO t.1 d.1 s) id,t.2):=by
 have hk:=thZ he hn hx hxe;have hat:=fun j=>vjZ (s:=s) hk hn hx j;have hdi:=fkZ hn
 let⟨hs,hid2,hidl,y,hy,hxu,hxp⟩:=h.ent hn he
 rw[hx] at hy;cases hy;have hid:(((id-1).toNat:Nat):Int)+1=id:=by omega
 have hlen:(cR (bO t.1 d.1 s) id).length=t.1.length:=(aXZ ..).trans (aXZ ..);have hl:=h.r.len;have only:∀(j) m s',t.1[j]? =some m->(s',id)∈m.2.2.2.2.2.2.2->j=(d.1-1).toNat/\s'=s:=fun j m s' hm hs'=>by
  let⟨_,_,z,h3,_,h5⟩:=h.e j m hm s' id hs'
  rw[hx] at h3;cases h3;have hj:j=(d.1-1).toNat:=by omega
  subst hj
  let⟨m2,s2,g1,g2,g3⟩:=h.u _ x hx hxu (by omega)
  rw[hxp,hn.1.2.1] at g1;cases g1;rw[hn.1.2.1] at hm;cases hm;rw[hid] at g3;exact⟨rfl,(g3 s' hs').trans (g3 s he).symm⟩
 have keep:∀j m,t.1[j]? =some m->j≠(id-1).toNat->∃m',(cR (bO t.1 d.1 s) id)[j]? =some m'/\m'.2.2.1=m.2.2.1/\m'.2.2.2.2.2.2.1=m.2.2.2.2.2.2.1/\∀s' id',(s',id')∈m'.2.2.2.2.2.2.2↔((s',id')∈m.2.2.2.2.2.2.2/\¬(j=(d.1-1).toNat/\s'=s)):=by
  intro j m hm hjk;rw[hat,ZAM hjk];by_cases h1:j=(d.1-1).toNat
  ·rw[ZAN h1];have:m=n:=by rw[h1,hn.1.2.1] at hm;injection hm with hm;exact hm.symm
   subst this;refine⟨_,rfl,rfl,rfl,fun s' id'=> ?_⟩;show(s',id')∈dS _ _↔_;rw[bHZ];simp[h1]
  ·rw[ZAM h1];exact⟨m,hm,rfl,rfl,fun s' id'=>⟨fun hh=>⟨hh,fun hc=>h1 hc.1⟩,fun hh=>hh.1⟩⟩
 have back:∀j m',(cR (bO t.1 d.1 s) id)[j]? =some m'->j≠(id-1).toNat->∃m,t.1[j]? =some m:=fun j m' hj hjk=>by
  have:=(ZAB.1 hj).1;exact⟨_,ZAC (by omega)⟩
 have hdead:(cR (bO t.1 d.1 s) id)[(id-1).toNat]? =some (iZ x id):=by rw[hat,ZAN rfl]
 refine⟨?_,fun j m hm s' id' he'=> ?_,fun j z hz hu hj=> ?_,fun j z hz hu=> ?_⟩
 ·refine h.r.pt ⟨by omega,by omega⟩ ⟨ZB6 _,h.r.str.2⟩ fun j n' hj=> ?_;rw[hlen];rw[hat] at hj;by_cases h1:j=(id-1).toNat
  ·rw[ZAN h1] at hj;cases hj;subst h1;exact .inr ⟨o3Z (h.r.ino _ x hx) id hid.symm,.inl rfl,fun h0=>by omega⟩
  ·rw[ZAM h1] at hj;by_cases h2:j=(d.1-1).toNat
   ·rw[ZAN h2] at hj;cases hj;right;subst h2;have ho:=h.r.ino _ n hn.1.2.1;have hfew:=h.few hn.1;have hle:(dS n.2.2.2.2.2.2.2 s).length<=n.2.2.2.2.2.2.2.length:=ZBe _ _;refine⟨feZ ho hn.1.2.2.1 hn.2 (by omega) (dEZ s (h.srt hn.1)) fun e he=> ?_,.inr ⟨n,hn.1.2.1,rfl⟩,fun h0=>h.root_used (r:=n) (by rw[<-h0];exact hn.1.2.1)⟩;exact h.ents_ok hn.1.2.1 e (bHZ.1 he).1
   ·rw[ZAM h2] at hj;exact .inl hj
 ·simp only at hm⊢;have hjk:j≠(id-1).toNat:=fun hc=>by
   rw[hc,hdead] at hm;cases hm;cases he'
  let⟨m0,hm0⟩:=back j m hm hjk
  let⟨m',g1,g2,g3,g4⟩:=keep j m0 hm0 hjk
  rw[g1] at hm;cases hm
  let⟨q1,q2⟩:=(g4 _ _).1 he'
  let⟨h1,h2,w,h3,h4,h5⟩:=h.e j m0 hm0 s' id' q1
  have hne:(id'-1).toNat≠(id-1).toNat:=fun hc=>by
   have:=h.r.entid hm0 q1;have:id'=id:=by omega
   subst this;exact q2 (only j m0 s' hm0 q1)
  let⟨w',e1,e2,e3,_⟩:=keep _ w h3 hne
  exact⟨h1,h2,w',e1,by rw[e2,h4],by rw[e3,h5]⟩
 ·simp only at hz⊢;have hjk:j≠(id-1).toNat:=fun hc=>by
   rw[hc,hdead] at hz;cases hz;cases hu
  let⟨z0,hz0⟩:=back j z hz hjk
  let⟨z',g1,g2,g3,g4⟩:=keep j z0 hz0 hjk
  rw[g1] at hz;cases hz
  let⟨m,s0,h3,h4,h5⟩:=h.u j z0 hz0 (by rw[<-g2];exact hu) hj
  have hpk:(z0.2.2.2.2.2.2.1-1).toNat≠(id-1).toNat:=fun hc=>by
   rw[hc,hx] at h3;cases h3;rw[hxe] at h4;cases h4
  let⟨m',e1,e2,e3,e4⟩:=keep _ m h3 hpk
  rw[<-g3] at e1;refine⟨m',s0,e1,(e4 _ _).2 ⟨h4,fun hc=> ?_⟩,fun s' hs'=>h5 s' ((e4 _ _).1 hs').1⟩;rw[hc.1,hn.1.2.1] at h3;cases h3;rw[hc.2] at h4;have:=dHZ (h.srt hn.1) h4 he;omega
 ·have go:∀i,Rch t.1 i->1<=i->i≠id->Rch (cR (bO t.1 d.1 s) id) i:=fun i hr=>by
   induction hr with
   |root=>intro _ _;exact .root
   | @step i w hg hu _ ih=>
     intro h1 h2;by_cases hi1:i=1
     ·rw[hi1];exact .root
     have hik:(i-1).toNat≠(id-1).toNat:=by omega
     let⟨m',g1,g2,g3,_⟩:=keep _ w hg hik
     refine .step g1 (by rw[g2];exact hu) ?_;rw[g3];refine ih ((h.r.ino _ w hg).par hu).1 fun hp=> ?_
     let⟨m,s0,h3,h4,_⟩:=h.u _ w hg hu (by omega)
     rw[hp,hx] at h3;cases h3;rw[hxe] at h4;cases h4
  simp only at hz⊢;have hjk:j≠(id-1).toNat:=fun hc=>by
   rw[hc,hdead] at hz;cases hz;cases hu
  let⟨z0,hz0⟩:=back j z hz hjk
  let⟨z',g1,g2,g3,g4⟩:=keep j z0 hz0 hjk
  rw[g1] at hz;cases hz;exact go _ (h.a j z0 hz0 (by rw[<-g2];exact hu)) (by omega) (by omega)
end
inductive Anc (l:List Ino) (top:Int):Int->Prop
 |refl:Anc l top top
 |step {id:Int} {x:Ino}:id≠1->l[(id-1).toNat]? =some x->x.2.2.1=true->Anc l top x.2.2.2.2.2.2.1->Anc l top id
section
variable {t : cI} {a b : Int × Int} {na nb x : Ino} {old name : List UInt8} {id : Int}
def mvL(l:List Ino)(a:Int)(old:List UInt8)(b:Int)(name:List UInt8)(id:Int):List Ino:=NI (iT (bO l a old) b name id) id b
structure yK (t:cI) (a:Int×Int) (old:List UInt8) (b:Int×Int) (name:List UInt8) (id:Int) (na nb x:Ino):Prop where
 da:IsD t.1 a na
 db:IsD t.1 b nb
 ea:(old,id)∈na.2.2.2.2.2.2.2
 x:t.1[(id-1).toNat]? =some x
 nm:bQ name=true
 no:eB nb.2.2.2.2.2.2.2 name=false
 few:a.1≠b.1->nb.2.2.2.2.2.2.2.length<100
 anc:¬Anc t.1 id b.1
theorem yK.ne(h:aM t)(m:yK t a old b name id na nb x):(id-1).toNat≠(a.1-1).toNat/\(id-1).toNat≠(b.1-1).toNat/\2<=id/\id<=t.1.length/\x.2.2.1=true/\x.2.2.2.2.2.2.1=a.1:=by
 let⟨hs,hid2,hidl,y,hy,hxu,hxp⟩:=h.ent m.da m.ea
 rw[m.x] at hy;cases hy;refine⟨fun hc=> ?_,fun hc=> ?_,hid2,hidl,hxu,hxp⟩
 ·have hr:=h.a _ x m.x hxu;rw[show(((id-1).toNat:Nat):Int)+1=id from by omega] at hr;have:=o1Z hr x m.x (by omega);omega
 ·have:id=b.1:=by omega
  exact m.anc (by rw[this];exact .refl)
theorem gYZ(h:aM t)(m:yK t a old b name id na nb x){j}{y}(hy:t.1[j]? =some y):
 ∃y',(mvL t.1 a.1 old b.1 name id)[j]? =some y'/\(y'.1=y.1/\y'.2.1=y.2.1/\y'.2.2.1=y.2.2.1/\y'.2.2.2.1=y.2.2.2.1/\y'.2.2.2.2.1=y.2.2.2.2.1/\y'.2.2.2.2.2.1=y.2.2.2.2.2.1)/\
  y'.2.2.2.2.2.2.1=(if j=(id-1).toNat then b.1 else y.2.2.2.2.2.2.1)/\Srt y'.2.2.2.2.2.2.2/\y'.2.2.2.2.2.2.2.length<=100/\(j≠(a.1-1).toNat->j≠(b.1-1).toNat->y'.2.2.2.2.2.2.2=y.2.2.2.2.2.2.2)/\
  ∀s' id',(s',id')∈y'.2.2.2.2.2.2.2↔(j=(b.1-1).toNat/\s'=name/\id'=id)\/((s',id')∈y.2.2.2.2.2.2.2/\¬(j=(a.1-1).toNat/\s'=old)):=by
 let⟨k1,k2,hid2,hidl,hxu,hxp⟩:=m.ne h
 have ha:=m.da.1.1;have hb:=m.db.1.1;have hfa:=h.few m.da.1;have hfb:=h.few m.db.1;have hlea:=mYZ (h.srt m.da.1) m.ea;unfold mvL NI iT bO;rw[bnZ,bnZ,bnZ];have fewy:=(c5Z (h.r.ino _ _ hy)).1;by_cases hk:j=(id-1).toNat
 ·rw[ZAN hk,ZAM (by omega),ZAM (by omega),hy];rw[hk,m.x] at hy;cases hy;refine⟨_,rfl,⟨rfl,rfl,rfl,rfl,rfl,rfl⟩,by rw[ZAN hk];rfl,(h.r.srt (n:=x) m.x),fewy,fun _ _=>rfl,fun s' id'=> ?_⟩;constructor
  ·intro h';exact .inr ⟨h',fun hc=>k1 (by omega)⟩
  ·rintro(h'|h')
   ·omega
   ·exact h'.1
 ·rw[ZAM hk];by_cases hjb:j=(b.1-1).toNat
  ·have hyb:y=nb:=by rw[hjb,m.db.1.2.1] at hy;injection hy with hy;exact hy.symm
   subst hyb;rw[ZAN hjb];by_cases hja:j=(a.1-1).toNat
   ·have hya:y=na:=by rw[hja,m.da.1.2.1] at hy;injection hy with hy;exact hy.symm
    subst hya;rw[ZAN hja,hy];have hno:eB (dS y.2.2.2.2.2.2.2 old) name=false:=by
     cases hh:eB (dS y.2.2.2.2.2.2.2 old) name with
     |false=>rfl
     |true=>
      let⟨i,hi⟩:=aBZ.1 hh
      rw[<-m.no];exact(aBZ.2 ⟨i,(bHZ.1 hi).1⟩).symm
    refine⟨_,rfl,⟨rfl,rfl,rfl,rfl,rfl,rfl⟩,by rw[ZAM hk];rfl,fFZ _ (dEZ old (h.srt m.da.1)) hno,?_,fun hc _=>absurd hja hc,fun s' id'=> ?_⟩
    ·show(jS (dS _ _) _ _).length<=100;rw[f7Z];omega
    ·show(s',id')∈jS (dS _ _) _ _↔_;rw[d9Z,bHZ];constructor
     ·rintro(h'|h')
      ·cases h';exact .inl ⟨hjb,rfl,rfl⟩
      ·exact .inr ⟨h'.1,fun hc=>h'.2 hc.2⟩
     ·rintro(h'|h')
      ·rw[h'.2.1,h'.2.2];exact .inl rfl
      ·exact .inr ⟨h'.1,fun hc=>h'.2 ⟨hja,hc⟩⟩
   ·rw[ZAM hja,hy];refine⟨_,rfl,⟨rfl,rfl,rfl,rfl,rfl,rfl⟩,by rw[ZAM hk];rfl,fFZ _ (h.srt m.db.1) m.no,?_,fun _ hc=>absurd hjb hc,fun s' id'=> ?_⟩
    ·show(jS _ _ _).length<=100;rw[f7Z];have:=m.few (by omega);omega
    ·show(s',id')∈jS _ _ _↔_;rw[d9Z];constructor
     ·rintro(h'|h')
      ·cases h';exact .inl ⟨hjb,rfl,rfl⟩
      ·exact .inr ⟨h',fun hc=>hja hc.1⟩
     ·rintro(h'|h')
      ·rw[h'.2.1,h'.2.2];exact .inl rfl
      ·exact .inr h'.1
  ·rw[ZAM hjb];by_cases hja:j=(a.1-1).toNat
   ·have hya:y=na:=by rw[hja,m.da.1.2.1] at hy;injection hy with hy;exact hy.symm
    subst hya;rw[ZAN hja,hy];refine⟨_,rfl,⟨rfl,rfl,rfl,rfl,rfl,rfl⟩,by rw[ZAM hk];rfl,dEZ old (h.srt m.da.1),?_,fun hc _=>absurd hja hc,fun s' id'=> ?_⟩
    ·show(dS _ _).length<=100;omega
    ·show(s',id')∈dS _ _↔_;rw[bHZ];constructor
     ·intro h';exact .inr ⟨h'.1,fun hc=>h'.2 hc.2⟩
     ·rintro(h'|h')
      ·exact absurd h'.1 hjb
      ·exact⟨h'.1,fun hc=>h'.2 ⟨hja,hc⟩⟩
   ·rw[ZAM hja,hy];refine⟨_,rfl,⟨rfl,rfl,rfl,rfl,rfl,rfl⟩,by rw[ZAM hk],h.r.srt hy,fewy,fun _ _=>rfl,fun s' id'=> ?_⟩;constructor
    ·intro h';exact .inr ⟨h',fun hc=>hja hc.1⟩
    ·rintro(h'|h')
     ·exact absurd h'.1 hjb
     ·exact h'.1
theorem vNZ(l)(a)(old)(b)(name)(id):(mvL l a old b name id).length=l.length:=(aXZ ..).trans ((aXZ ..).trans (aXZ ..))
theorem naZ(h:aM t)(m:yK t a old b name id na nb x):aM (mvL t.1 a.1 old b.1 name id,t.2):=by
 let⟨k1,k2,hid2,hidl,hxu,hxp⟩:=m.ne h
 have ha:=m.da.1.1;have hb:=m.db.1.1;have hlen:=vNZ t.1 a.1 old b.1 name id;have hl:=h.r.len;have hid:(((id-1).toNat:Nat):Int)+1=id:=by omega
 have hdb:=fkZ m.db;have hda:=fkZ m.da;have back:∀j m',(mvL t.1 a.1 old b.1 name id)[j]? =some m'->∃y,t.1[j]? =some y:=fun j m' hj=>by
  have:=(ZAB.1 hj).1;exact⟨_,ZAC (by omega)⟩
 have only:∀(j) y s',t.1[j]? =some y->(s',id)∈y.2.2.2.2.2.2.2->j=(a.1-1).toNat/\s'=old:=fun j y s' hy hs'=>by
  let⟨_,_,z,h3,_,h5⟩:=h.e j y hy s' id hs'
  rw[m.x] at h3;cases h3;have hj:j=(a.1-1).toNat:=by omega
  subst hj
  let⟨m2,s2,g1,g2,g3⟩:=h.u _ x m.x hxu (by omega)
  rw[hxp,m.da.1.2.1] at g1;cases g1;rw[m.da.1.2.1] at hy;cases hy;rw[hid] at g3;exact⟨rfl,(g3 s' hs').trans (g3 old m.ea).symm⟩
 refine⟨?_,fun j y' hy' s' id' he'=> ?_,fun j z hz hu hj=> ?_,fun j z hz hu=> ?_⟩
 ·refine h.r.pt ⟨by omega,by omega⟩ ⟨ZB6 _,h.r.str.2⟩ fun j y' hj=> ?_;rw[hlen]
  let⟨y,hy⟩:=back j y' hj
  let⟨y2,g1,⟨q1,q2,q3,q4,q5,q6⟩,g3,g4,g5,g6,g7⟩:=gYZ h m hy
  rw[g1] at hj;cases hj;right;have ho:=h.r.ino j y hy;have hpar:y'.2.2.1=true->1<=y'.2.2.2.2.2.2.1/\y'.2.2.2.2.2.2.1<=(t.1.length:Int):=fun hu=>by
   rw[g3];have hbl:=(ZAB.1 m.db.1.2.1).1;split
   ·omega
   ·exact ho.par (by grind)
  have ekeep:y.2.2.1=false\/y.2.2.2.1=false->y'.2.2.2.2.2.2.2=y.2.2.2.2.2.2.2:=fun hc=>g6 (fun hja=>by
   rw[hja,m.da.1.2.1] at hy;cases hy;rcases hc with hc|hc
   ·rw[m.da.1.2.2.1] at hc;cases hc
   ·rw[m.da.2] at hc;cases hc) (fun hjb=>by
   rw[hjb,m.db.1.2.1] at hy;cases hy;rcases hc with hc|hc
   ·rw[m.db.1.2.2.1] at hc;cases hc
   ·rw[m.db.2] at hc;cases hc)
  refine⟨⟨by rw[q1];exact ho.id,by rw[q2];exact ho.gen,hpar,fun hu hd=> ?_,fun hu hd=> ?_,fun hu=> ?_⟩,.inr ⟨y,hy,q6⟩,fun h0=> ?_⟩
  ·have:=ho.dir (by rw[<-q3];exact hu) (by rw[<-q4];exact hd);refine⟨by rw[q5];exact this.1,by rw[q6];exact this.2.1,g5,ffZ g4 fun e he=> ?_⟩;have hen:1<=e.1.length/\e.1.length<=30/\1<=e.2/\e.2<=(t.1.length:Int):=by
    rcases(g7 e.1 e.2).1 he with h'|h'
    ·have:=jAZ m.nm;rw[h'.2.1,h'.2.2];omega
    ·exact h.ents_ok hy e h'.1
   exact⟨jzZ hen.1,hen⟩
  ·have:=ho.file (by rw[<-q3];exact hu) (by rw[<-q4];exact hd);rw[q5,q6,ekeep (.inr (by rw[<-q4];exact hd))];exact this
  ·have:=ho.bare (by rw[<-q3];exact hu);rw[q4,q5,q6,ekeep (.inl (by rw[<-q3];exact hu)),g3,ZAM]
   ·exact this
   ·intro hc;rw[hc,m.x] at hy;cases hy;rw[q3,hxu] at hu;cases hu
  ·rw[q3,q4,g3,ZAM (by omega)];rw[h0] at hy;exact h.root_used hy
 ·simp only at hy'⊢
  let⟨y,hy⟩:=back j y' hy'
  let⟨y2,g1,⟨q1,q2,q3,q4,q5,q6⟩,g3,g4,g5,g6,g7⟩:=gYZ h m hy
  rw[g1] at hy';cases hy';rcases(g7 s' id').1 he' with h'|h'
  ·let⟨x',e1,⟨_,_,e2,_⟩,e3,_⟩:=gYZ h m m.x
   rw[h'.2.1,h'.2.2];exact⟨m.nm,by omega,x',e1,by rw[e2];exact hxu,by rw[e3,ZAN rfl];omega⟩
  ·let⟨h1,h2,w,h3,h4,h5⟩:=h.e j y hy s' id' h'.1
   let⟨w',e1,⟨_,_,e2,_⟩,e3,_⟩:=gYZ h m h3
   refine⟨h1,h2,w',e1,by rw[e2];exact h4,?_⟩;rw[e3,ZAM,h5];intro hc;have:=h.r.entid hy h'.1;have:id'=id:=by omega
   subst this;exact h'.2 (only j y s' hy h'.1)
 ·simp only at hz⊢
  let⟨z0,hz0⟩:=back j z hz
  let⟨z2,g1,⟨q1,q2,q3,q4,q5,q6⟩,g3,g4,g5,g6,g7⟩:=gYZ h m hz0
  rw[g1] at hz;cases hz;rw[g3];by_cases hjk:j=(id-1).toNat
  ·rw[ZAN hjk]
   let⟨b',e1,_,_,_,_,_,e7⟩:=gYZ h m m.db.1.2.1
   refine⟨b',name,e1,(e7 _ _).2 (.inl ⟨rfl,rfl,by omega⟩),fun s' hs'=> ?_⟩;rcases(e7 _ _).1 hs' with h'|h'
   ·exact h'.2.1
   ·have h'':=h'.1;rw[show(j:Int)+1=id from by omega] at h'';exact absurd (only _ nb s' m.db.1.2.1 h'') h'.2
  ·rw[ZAM hjk]
   let⟨p,s0,h3,h4,h5⟩:=h.u j z0 hz0 (by rw[<-q3];exact hu) hj
   let⟨p',e1,_,_,_,_,_,e7⟩:=gYZ h m h3
   refine⟨p',s0,e1,(e7 _ _).2 (.inr ⟨h4,fun hc=> ?_⟩),fun s' hs'=> ?_⟩
   ·rw[hc.1,m.da.1.2.1] at h3;cases h3;rw[hc.2] at h4;have:=dHZ (h.srt m.da.1) h4 m.ea;omega
   ·rcases(e7 _ _).1 hs' with h'|h'
    ·omega
    ·exact h5 s' h'.1
 ·have up:∀i,Rch t.1 i->1<=i->¬Anc t.1 id i->Rch (mvL t.1 a.1 old b.1 name id) i:=fun i hr=>by
   induction hr with
   |root=>intro _ _;exact .root
   | @step i w hg hu _ ih=>
     intro h1 h2;by_cases hi1:i=1
     ·rw[hi1];exact .root
     have hne:i≠id:=fun hc=>h2 (by rw[hc];exact .refl)
     let⟨w',e1,⟨_,_,e2,_⟩,e3,_⟩:=gYZ h m hg
     refine .step e1 (by rw[e2];exact hu) ?_;rw[e3,ZAM (by omega)];exact ih ((h.r.ino _ w hg).par hu).1 fun hc=>h2 (.step hi1 hg hu hc)
  have rb:=up _ (by have:=h.a _ nb m.db.1.2.1 m.db.1.2.2.1;rw[hdb] at this;exact this) hb m.anc;have go:∀i,Rch t.1 i->1<=i->Rch (mvL t.1 a.1 old b.1 name id) i:=fun i hr=>by
   induction hr with
   |root=>intro _;exact .root
   | @step i w hg hu _ ih=>
     intro h1
     let⟨w',e1,⟨_,_,e2,_⟩,e3,_⟩:=gYZ h m hg
     refine .step e1 (by rw[e2];exact hu) ?_;rw[e3];split
     ·exact rb
     ·exact ih ((h.r.ino _ w hg).par hu).1
  simp only at hz⊢
  let⟨z0,hz0⟩:=back j z hz
  let⟨z2,g1,⟨q1,q2,q3,q4,q5,q6⟩,_⟩:=gYZ h m hz0
  rw[g1] at hz;cases hz;exact go _ (h.a j z0 hz0 (by rw[<-q3];exact hu)) (by omega)
end
theorem nEZ{rows}{ms}{ks}{st id}{x}(hF:kW rows ms ks)(hr:dD (ks,st))(h0:id≠1)(h1:1<=id)(hx:ks[(id-1).toNat]? =some x)(hu:x.2.2.1=true):
 ∃rows2 mp me,qG aB st id rows ms=some (st,(rJ x.2.2.2.2.2.1,(0,(rows,(rows2,(mp,(ms.map aV,me)))))))/\uF rows2 mp (ks.set (id-1).toNat (iZ x id))/\uG rows2 me (ks.set (id-1).toNat (iZ x id)):=by
 have hfit:=hr.fit;have hlt:=(ZAB.1 hx).1;have hlen:ks.length<=500:=hr.len.2
 let⟨rows2,mp,me,hc,hP,hE⟩:=oPZ st hF hfit
 have hpl:=hP.len
 let⟨row,hrow,⟨y,z,hry⟩,_⟩:=hP.row hx
 let⟨mp',ho,aS⟩:=hP.open_none hrow hx
 refine⟨rows2.set (id-1).toNat (id,(row.2.1,(false,(false,(0,(.inr none,(0,.inr none))))))),mp',me,?_,?_,?_⟩
 rotate_left
 ·refine aS (id,(row.2.1,(false,(false,(0,(.inr none,(0,.inr none))))))) (iZ x id) ⟨.inr none,.inr none,?_⟩ rfl rfl;rw[hry];rfl
 ·refine hE.clear ⟨.inr none,.inr none,?_⟩ rfl rfl;rw[hry];rfl
 unfold qG Pa Pb Pc Pd Pe Pf PD PF;rw[hc,ZAA];simp only;rw[jhZ];erw[b5Z (hF.pure210 (me.map aV) (mp.map aV))];rw[eqZ hr,ZAA];simp only[ZAW.2 h0];erw[b5Z (hF.pure210 (me.map aV) (mp.map aV))];rw[rCZ hfit];simp only[f9Z h1 hx,hu];have hxl:=(hfit.at hx).1;have hd:(bif !(x.2.2.2.1==true) then
  (bE (aT [⟨2,ETy,me.map aV⟩,⟨1,ETy,ms.map aV⟩,⟨0,PTy,mp.map aV⟩] TE) rows).bind fun l2=>(gD aB (l2,st) id false).bind fun r3=>some (st,((!r3),(rows,((0:Int),(st,(rows2,(mp,(ms.map aV,me))))))))
  else some (st,(false,(rows,((0:Int),(st,(rows2,(mp,(ms.map aV,me)))))))))=some (st,(false,(rows,((0:Int),(st,(rows2,(mp,(ms.map aV,me)))))))):=by
  cases hd:x.2.2.2.1 with
  |true=>rfl
  |false=>
   simp[ZAK];erw[b5Z (hF.pure210 (me.map aV) (mp.map aV))];rw[rCZ hfit,f9Z h1 hx,hu,hd]
   rfl
 erw[hd];rw[ZAA];simp only;rw[w64 (by omega),a0Z (by omega) (by omega),ZAA,hrow,ZAA];erw[ho];rw[ZAA];rcases p6Z hxl with hdp|hdp
 ·rw[hdp];simp only[ZAA,hrow]
  rfl
 ·rw[hdp];simp only[ZAA,hrow]
  rfl
def kD(dir:Bool)(n:Ino):Int:=if dir=true/\n.2.2.2.1=false then 173 else if dir=false/\n.2.2.2.1=true then 174 else if n.2.2.2.2.2.2.2=[] then 0 else 175
theorem efZ(dir)(n:Ino):LO aB dir n=some (kD dir n):=by
 unfold LO kD;have hl:∀l:List Ent,(bif decide (0<l.length) then some (175:Int) else some 0)=some (if l=[] then 0 else 175):=fun l=>by
  cases l with
  |nil=>rfl
  |cons a l=>simp
 grind
section
variable {t : cI} {d : Int × Int} {n x : Ino} {s : List UInt8} {id : Int}
theorem dFZ(hn:IsD t.1 d n)(s):bO t.1 d.1 s=t.1.set (d.1-1).toNat (wE n (dS n.2.2.2.2.2.2.2 s)):=bJZ _ hn.1.2.1
theorem n3Z(h:aM t)(hn:IsD t.1 d n)(he:(s,id)∈n.2.2.2.2.2.2.2)(hx:t.1[(id-1).toNat]? =some x)(hxe:x.2.2.2.2.2.2.2=[]):
 QO aB t d.1 s id=some (cR (bO t.1 d.1 s) id,(t.2,(rJ x.2.2.2.2.2.1,0))):=by
 let⟨hs,hid2,hidl,y,hy,hxu,hxp⟩:=h.ent hn he
 rw[hx] at hy;cases hy;have hk:=thZ he hn hx hxe;have hl:=h.r.len
 let⟨rows,ms,hc,hF⟩:=b4Z h.r.fit
 let⟨rows',ms',ht,hF'⟩:=ebZ t.2 s hF (by omega) hn.1.1 hn.1.2.1 (by have:=h.few hn.1;omega)
 have hr:=h0Z h hn s;rw[dFZ hn] at hr⊢;have hx':(t.1.set (d.1-1).toNat (wE n (dS n.2.2.2.2.2.2.2 s)))[(id-1).toNat]? =some x:=by rw[ZAa (by omega)];exact hx
 unfold QO;rw[hc,ZAA];rw[ht,ZAA];rw[pTZ hF' hr (by omega) (by omega) hx' hxu,ZAA];unfold cR;rw[bJZ _ hx']
theorem lAZ(h:aM t)(hn:IsD t.1 d n)(he:(s,id)∈n.2.2.2.2.2.2.2)(hx:t.1[(id-1).toNat]? =some x)(hxe:x.2.2.2.2.2.2.2=[]):
 ∃rows2 mp me,HH aB t d.1 s id=some (t.2,(rJ x.2.2.2.2.2.1,(0,(rows2,(mp,me)))))/\uF rows2 mp (cR (bO t.1 d.1 s) id)/\uG rows2 me (cR (bO t.1 d.1 s) id):=by
 let⟨hs,hid2,hidl,y,hy,hxu,hxp⟩:=h.ent hn he
 rw[hx] at hy;cases hy;have hk:=thZ he hn hx hxe;have hl:=h.r.len
 let⟨rows,ms,hc,hF⟩:=b4Z h.r.fit
 let⟨rows',ms',ht,hF'⟩:=ebZ t.2 s hF (by omega) hn.1.1 hn.1.2.1 (by have:=h.few hn.1;omega)
 have hr:=h0Z h hn s;rw[dFZ hn] at hr⊢;have hx':(t.1.set (d.1-1).toNat (wE n (dS n.2.2.2.2.2.2.2 s)))[(id-1).toNat]? =some x:=by rw[ZAa (by omega)];exact hx
 let⟨rows2,mp,me,hd,hP,hE⟩:=nEZ hF' hr (by omega) (by omega) hx' hxu
 unfold cR;rw[bJZ _ hx'];refine⟨rows2,mp,me,?_,hP,hE⟩;unfold HH;rw[hc,ZAA];rw[ht,ZAA];simp;rw[hd,ZAA]
theorem o6Z(h:aM t)(s)(is)(hb:eD t.1 d≠0):yB aB t d s is=some (t.1,(t.2,([],eD t.1 d))):=by
 unfold yB;rw[dBZ h hb,ZAA];simp[ZAW.2 hb,ZAK];rw[aFZ h.r.fit,ZAA]
theorem lWZ(h:aM t)(is)(hn:IsD t.1 d n)(hs:bQ s=false):yB aB t d s is=some (t.1,(t.2,([],176))):=by
 unfold yB;rw[aHZ h hn,ZAA];rw[a3Z,ZAA,hs];simp[ZAK];rw[aFZ h.r.fit,ZAA]
theorem lOZ(h:aM t)(is)(hn:IsD t.1 d n)(hs:bQ s=true)(hh:eB n.2.2.2.2.2.2.2 s=false):yB aB t d s is=some (t.1,(t.2,([],171))):=by
 unfold yB;rw[aHZ h hn,ZAA];rw[a3Z,ZAA,hs];rw[show aK 0 [n].length=some 0 from rfl,ZAA,show[n][0]? =some n from rfl,ZAA,h.ent_ok hn,ZAA,hh];simp[ZAK];rw[aFZ h.r.fit,ZAA]
theorem lrZ(h:aM t)(is)(hn:IsD t.1 d n)(he:(s,id)∈n.2.2.2.2.2.2.2)(hx:t.1[(id-1).toNat]? =some x):
 yB aB t d s is=if kD is x=0 then some (cR (bO t.1 d.1 s) id,(t.2,(rJ x.2.2.2.2.2.1,0))) else some (t.1,(t.2,([],kD is x))):=by
 let⟨h1,h2,h3,y,h4,h5,h6⟩:=h.ent hn he
 have hlen:=h.r.len;have hp:=dqZ (h.srt hn.1) he;have hpl:=(ZAB.1 hp).1;unfold yB;rw[aHZ h hn,ZAA];simp only[ZAd,ZAD];rw[a3Z,ZAA,h1];simp only[ZAQ];rw[show aK 0 [n].length=some 0 from rfl,ZAA,show[n][0]? =some n from rfl,ZAA,h.ent_ok hn,aBZ.2 ⟨id,he⟩];simp only[ZAQ,ZAD,ZAA];rw[show[n][0]? =some n from rfl,ZAA,acZ hpl,ZAA,hp,ZAA,w64 (by omega),a0Z (by omega) (by omega),ZAA,hx,ZAA,efZ,ZAA];by_cases hm:kD is x=0
 ·rw[ZAN hm,show(kD is x==0)=true from by simp[hm]];simp only[ZAQ,ZAD];have hxe:x.2.2.2.2.2.2.2=[]:=by
   unfold kD at hm;split at hm
   ·cases hm
   ·split at hm
    ·cases hm
    ·split at hm
     ·assumption
     ·cases hm
  rw[n3Z h hn he hx hxe,ZAA]
 ·rw[ZAM hm,ZAW.2 hm];simp only[ZAn,ZAK];rw[aFZ h.r.fit,ZAA]
theorem dQZ(h:aM t){b}{m}(hb:IsD t.1 b m)(top):∃r,BR aB t b.1 top=some r/\(r=true↔Anc t.1 top b.1):=by
 have hlen:=h.r.len;have hlt:=(ZAB.1 hb.1.2.1).1;have hdb:=fkZ hb;have hb1:=hb.1.1;have hr0:=eVZ hlen.1 (fun j x hx hxu=>(h.r.ino j x hx).par hxu) hb1 (by omega) (by have:=h.a _ m hb.1.2.1 hb.1.2.2.1;rw[hdb] at this;exact this);have loop:∃o,sC aB top (b.1,(t.1,t.2))=some o/\(o=top↔Anc t.1 top b.1):=by
  unfold sC;have stop:∀i,i=top\/i=1->(i=top↔Anc t.1 top i):=fun i hi=>by
   constructor
   ·rintro rfl;exact .refl
   ·intro ha;cases ha with
    |refl=>rfl
    |step h1 _ _ _=>
     rcases hi with hi|hi
     ·exact hi
     ·exact absurd hi h1
  refine a5Z (fun k s=>∃i:Int,s=(i,(t.1,t.2))/\1<=i/\i<=t.1.length/\bV t.1 k i=true/\(Anc t.1 top b.1↔Anc t.1 top i)) _ (fun k s hI=> ?_) (fun s hI=> ?_) t.1.length _ (by omega) ⟨b.1,rfl,hb1,by omega,hr0,Iff.rfl⟩
  ·obtain⟨i,rfl,h1,h2,h3,h4⟩:=hI;unfold BQ;by_cases e1:i=top
   ·right;simp only[e1,ZAd,ZAA];exact⟨_,rfl,by rw[h4,e1];exact stop top (.inl rfl)⟩
   ·simp only[ZAW.2 e1,ZAn,ZAK,ZAA];by_cases e2:i=1
    ·right;simp only[e2,ZAD];exact⟨_,rfl,by rw[h4,e2];exact stop 1 (.inr rfl)⟩
    ·left;simp only[ZAW.2 e2,ZAn,ZAK];have hlt2:(i-1).toNat<t.1.length:=by omega
     obtain⟨y,hy⟩:∃y,t.1[(i-1).toNat]? =some y:=⟨_,ZAC hlt2⟩;rw[w64 (by omega),a0Z (by omega) (by omega),ZAA,hy,ZAA];unfold bV at h3;rw[ZAW.2 e2] at h3;simp only[ZAD] at h3;rw[hy] at h3;simp only[ZAF] at h3;have hp:=(h.r.ino _ y hy).par h3.1;refine⟨_,rfl,_,rfl,hp.1,hp.2,h3.2,h4.trans ⟨fun ha=> ?_,fun ha=>.step e2 hy h3.1 ha⟩⟩;cases ha with
     |refl=>exact absurd rfl e1
     |step _ g _ ha=>rw[hy] at g;cases g;exact ha
  ·obtain⟨i,rfl,h1,h2,h3,h4⟩:=hI;have e2:=by unfold bV at h3;simpa using h3
   unfold BQ;by_cases e1:i=top
   ·simp only[e1,ZAd,ZAQ,ZAD,ZAA];exact⟨_,rfl,by rw[h4,e1];exact stop top (.inl rfl)⟩
   ·simp only[ZAW.2 e1,ZAn,ZAK,ZAA];simp only[e2,ZAd,ZAQ,ZAD];exact⟨_,rfl,by rw[h4,e2];exact stop 1 (.inr rfl)⟩
 let⟨o,ho,hq⟩:=loop
 unfold BR;rw[ho,ZAA];exact⟨_,rfl,by rw[ZBz];exact hq⟩
theorem sYZ(h:aM t)(hx:t.1[(id-1).toNat]? =some x)(h2:2<=id)(hxe:x.2.2.2.2.2.2.2=[]){i}(ha:Anc t.1 id i)(hi:1<=i):i=id:=by
 induction ha with
 |refl=>rfl
 | @step i y h1 hy hu _ ih=>
   have hp:=(h.r.ino _ y hy).par hu
   let⟨m,s0,h3,h4,_⟩:=h.u _ y hy hu (by omega)<;>simp_all
end
section
variable {t : cI} {a b : Int × Int} {na nb x z : Ino} {old name : List UInt8} {id other : Int}
theorem kWZ(h:aM t)(hb:eD t.1 a≠0):kR aB t a old b name=some (t.1,(t.2,([],eD t.1 a))):=by
 unfold kR Pc Pd Pe Pf Pg Pi Pj PF PG PJ;rw[lEZ h hb,ZAA];simp[ZAW.2 hb,ZAK];rw[aFZ h.r.fit,ZAA]
theorem lYZ(h:aM t)(ha:IsD t.1 a na)(hb:eD t.1 b≠0):kR aB t a old b name=some (t.1,(t.2,([],eD t.1 b))):=by
 unfold kR Pc Pd Pe Pf Pg Pi Pj PF PG PJ;rw[mkZ h ha hb,ZAA];simp[ZAW.2 hb,ZAK];rw[aFZ h.r.fit,ZAA]
theorem l5Z(h:aM t)(ha:IsD t.1 a na)(hb:IsD t.1 b nb)(hs:(bQ old&&bQ name)=false):kR aB t a old b name=some (t.1,(t.2,([],176))):=by
 unfold kR Pc Pd Pe Pf Pg Pi Pj PF PG PJ;rw[bbZ h ha hb,ZAA];simp only[ZAd,ZAQ,ZAD];rw[a3Z,ZAA];cases h1:bQ old with
 |false=>
  simp[ZAA];rw[aFZ h.r.fit,ZAA]
 |true=>
  rw[h1,ZBT] at hs;simp only[ZAQ,ZAD];rw[a3Z,ZAA,hs];simp only[ZAn,ZAK,ZAA];rw[show((t.1,t.2):cI)=t from rfl,aFZ h.r.fit,ZAA]
theorem l9Z(h:aM t)(ha:IsD t.1 a na)(hb:IsD t.1 b nb)(h1:bQ old=true)(hs:bQ name=true)(hh:eB na.2.2.2.2.2.2.2 old=false):kR aB t a old b name=some (t.1,(t.2,([],171))):=by
 unfold kR Pc Pd Pe Pf Pg Pi Pj PF PG PJ;rw[bbZ h ha hb,ZAA];simp only[ZAd,ZAD];rw[a3Z,h1];simp only[ZAQ];rw[a3Z,hs];simp only[ZAQ,ZAD,ZAA];rw[show aK 0 [na,nb].length=some 0 from rfl,ZAA,show[na,nb][0]? =some na from rfl,ZAA,h.ent_ok ha,ZAA,hh];simp only[ZAn,ZAK];rw[show((t.1,t.2):cI)=t from rfl,aFZ h.r.fit,ZAA]
theorem kQZ(h:aM t)(ha:IsD t.1 a na)(hb:IsD t.1 b nb)(hs:bQ name=true)(hea:(old,id)∈na.2.2.2.2.2.2.2)(hx:t.1[(id-1).toNat]? =some x)(hd:x.2.2.2.1=true)(hanc:Anc t.1 id b.1):kR aB t a old b name=some (t.1,(t.2,([],178))):=by
 let⟨g1,g2,g3,y,g4,g5,g6⟩:=h.ent ha hea
 rw[hx] at g4;cases g4;have hlen:=h.r.len;have hpa:=dqZ (h.srt ha.1) hea;have hpal:=(ZAB.1 hpa).1;unfold kR Pc Pd Pe Pf Pg Pi Pj PF PG PJ;rw[bbZ h ha hb,ZAA];simp only[ZAd,ZAD];rw[a3Z,g1];simp[ZAD];rw[a3Z,hs];simp only[ZAA];rw[show aK 0 [na,nb].length=some 0 from rfl,ZAA,show[na,nb][0]? =some na from rfl,ZAA,h.ent_ok ha,ZAA,aBZ.2 ⟨id,hea⟩];simp only[ZAQ,ZAD,ZAA];rw[show[na,nb][0]? =some na from rfl,ZAA,acZ hpal,ZAA,hpa,ZAA,w64 (by omega),a0Z (by omega) (by omega),ZAA,hx,ZAA];rw[hd];simp only[ZAK]
 let⟨r,hr,hq⟩:=dQZ h hb id
 rw[show((t.1,t.2):cI)=t from rfl,hr,hq.2 hanc,ZAA,ZAA];simp only[ZAK];rw[show((t.1,t.2):cI)=t from rfl,aFZ h.r.fit,ZAA]
theorem l1Z(h:aM t)(ha:IsD t.1 a na)(hb:IsD t.1 b nb)(hs:bQ name=true)(hea:(old,id)∈na.2.2.2.2.2.2.2)(hx:t.1[(id-1).toNat]? =some x)(hanc:x.2.2.2.1=true->¬Anc t.1 id b.1)(heb:(name,id)∈nb.2.2.2.2.2.2.2):kR aB t a old b name=some (t.1,(t.2,([],0))):=by
 let⟨g1,g2,g3,y,g4,g5,g6⟩:=h.ent ha hea
 rw[hx] at g4;cases g4;have hlen:=h.r.len;have hpa:=dqZ (h.srt ha.1) hea;have hpal:=(ZAB.1 hpa).1;unfold kR Pc Pd Pe Pf Pg Pi Pj PF PG PJ;rw[bbZ h ha hb,ZAA];simp only[ZAd,ZAD];rw[a3Z,g1];simp[ZAD];rw[a3Z,ZAA,hs];simp only[ZAQ,ZAD,ZAA];rw[show aK 0 [na,nb].length=some 0 from rfl,ZAA,show[na,nb][0]? =some na from rfl,ZAA,h.ent_ok ha,ZAA,aBZ.2 ⟨id,hea⟩];simp only[ZAQ,ZAD,ZAA];rw[show[na,nb][0]? =some na from rfl,ZAA,acZ hpal,ZAA,hpa,ZAA,w64 (by omega),a0Z (by omega) (by omega),ZAA,hx,ZAA];have hbel:(bif x.2.2.2.1 then(BR aB (t.1,t.2) b.1 id).bind fun r11=>some (r11,(t.1,(t.2,(a.1,(a.2,(b.1,(b.2,((0:Int),[na,nb]))))))))
  else some (false,(t.1,(t.2,(a.1,(a.2,(b.1,(b.2,(0,[na,nb])))))))))=some (false,(t.1,(t.2,(a.1,(a.2,(b.1,(b.2,(0,[na,nb])))))))):=by
  cases hd:x.2.2.2.1 with
  |false=>rfl
  |true=>
   simp only[ZAK]
   let⟨r,hr,hq⟩:=dQZ h hb id<;>simp_all
 rw[hbel,ZAA];simp only[ZAD]
 let⟨rows,ms,hc,hF⟩:=b4Z h.r.fit
 rw[show aK 1 [na,nb].length=some 1 from rfl,ZAA,show[na,nb][1]? =some nb from rfl,ZAA,h.ent_ok hb,ZAA,show((t.1,t.2):cI)=t from rfl,hc,ZAA];have hpb:=dqZ (h.srt hb.1) heb;have hpbl:=(ZAB.1 hpb).1;simp only[aBZ.2 ⟨_,heb⟩,ZAK];rw[ZAA,show[na,nb][1]? =some nb from rfl,ZAA,acZ hpbl,ZAA,hpb,ZAA,ZAA];simp only[ZAd,ZAK];erw[b5Z hF.pure1]
theorem oVZ(h:aM t)(ha:IsD t.1 a na)(hb:IsD t.1 b nb)(hs:bQ name=true)(hea:(old,id)∈na.2.2.2.2.2.2.2)(hx:t.1[(id-1).toNat]? =some x)(hanc:x.2.2.2.1=true->¬Anc t.1 id b.1)(heb:(name,other)∈nb.2.2.2.2.2.2.2)(hne:other≠id)(hz:t.1[(other-1).toNat]? =some z)(hm:kD x.2.2.2.1 z≠0):kR aB t a old b name=some (t.1,(t.2,([],kD x.2.2.2.1 z))):=by
 let⟨g1,g2,g3,y,g4,g5,g6⟩:=h.ent ha hea
 rw[hx] at g4;cases g4;have hlen:=h.r.len;have hpa:=dqZ (h.srt ha.1) hea;have hpal:=(ZAB.1 hpa).1;unfold kR Pc Pd Pe Pf Pg Pi Pj PF PG PJ;rw[show((t.1,t.2):cI)=t from rfl,show((a.1,a.2):Int×Int)=a from rfl,show((b.1,b.2):Int×Int)=b from rfl,bbZ h ha hb,ZAA];simp only[ZAd,ZAQ,ZAD];rw[a3Z,ZAA,g1];simp only[ZAQ,ZAD];rw[a3Z,ZAA,hs];simp only[ZAQ,ZAD,ZAA];rw[show aK 0 [na,nb].length=some 0 from rfl,ZAA,show[na,nb][0]? =some na from rfl,ZAA,h.ent_ok ha,ZAA,aBZ.2 ⟨id,hea⟩];simp only[ZAQ,ZAD,ZAA];rw[show[na,nb][0]? =some na from rfl,ZAA,acZ hpal,ZAA,hpa,ZAA,w64 (by omega),a0Z (by omega) (by omega),ZAA,hx,ZAA];have hbel:(bif x.2.2.2.1 then(BR aB (t.1,t.2) b.1 id).bind fun r11=>some (r11,(t.1,(t.2,(a.1,(a.2,(b.1,(b.2,((0:Int),[na,nb]))))))))
  else some (false,(t.1,(t.2,(a.1,(a.2,(b.1,(b.2,(0,[na,nb])))))))))=some (false,(t.1,(t.2,(a.1,(a.2,(b.1,(b.2,(0,[na,nb])))))))):=by
  cases hd:x.2.2.2.1 with
  |false=>rfl
  |true=>
   simp only[ZAK]
   let⟨r,hr,hq⟩:=dQZ h hb id<;>simp_all
 rw[hbel,ZAA];simp only[ZAD]
 let⟨rows,ms,hc,hF⟩:=b4Z h.r.fit
 rw[show aK 1 [na,nb].length=some 1 from rfl,ZAA,show[na,nb][1]? =some nb from rfl,ZAA,h.ent_ok hb,ZAA,show((t.1,t.2):cI)=t from rfl,hc,ZAA]
 let⟨q1,q2,q3,z',q4,q5,q6⟩:=h.ent hb heb
 rw[hz] at q4;cases q4;have hpb:=dqZ (h.srt hb.1) heb;have hpbl:=(ZAB.1 hpb).1;simp only[aBZ.2 ⟨_,heb⟩,ZAK];rw[ZAA,show[na,nb][1]? =some nb from rfl,ZAA,acZ hpbl,ZAA,hpb,ZAA,ZAA];simp only[ZAW.2 hne,ZAD];rw[show aK 1 [na,nb].length=some 1 from rfl,ZAA,show[na,nb][1]? =some nb from rfl,ZAA,acZ hpbl,ZAA,hpb,ZAA,w64 (by omega),a0Z (by omega) (by omega),ZAA,hz,ZAA,efZ,ZAA];simp only[ZAW.2 hm,ZAn,ZAK];erw[b5Z hF.pure1]
theorem l4Z(h:aM t)(ha:IsD t.1 a na)(hb:IsD t.1 b nb)(hs:bQ name=true)(hea:(old,id)∈na.2.2.2.2.2.2.2)(hx:t.1[(id-1).toNat]? =some x)(hanc:x.2.2.2.1=true->¬Anc t.1 id b.1)(hno:eB nb.2.2.2.2.2.2.2 name=false)(hab:a.1≠b.1)(hl:100<=nb.2.2.2.2.2.2.2.length):kR aB t a old b name=some (t.1,(t.2,([],5))):=by
 let⟨g1,g2,g3,y,g4,g5,g6⟩:=h.ent ha hea
 rw[hx] at g4;cases g4;have hlen:=h.r.len;have hpa:=dqZ (h.srt ha.1) hea;have hpal:=(ZAB.1 hpa).1;unfold kR Pc Pd Pe Pf Pg Pi Pj PF PG PJ;rw[bbZ h ha hb,ZAA];simp only[ZAd,ZAD];rw[a3Z,ZAA,g1];simp only[ZAQ,ZAD];rw[a3Z,ZAA,hs];simp only[ZAQ,ZAD,ZAA];rw[show aK 0 [na,nb].length=some 0 from rfl,ZAA,show[na,nb][0]? =some na from rfl,ZAA,h.ent_ok ha,ZAA,aBZ.2 ⟨id,hea⟩];simp only[ZAQ,ZAD,ZAA];rw[show[na,nb][0]? =some na from rfl,ZAA,acZ hpal,ZAA,hpa,ZAA,w64 (by omega),a0Z (by omega) (by omega),ZAA,hx,ZAA];have hbel:(bif x.2.2.2.1 then(BR aB (t.1,t.2) b.1 id).bind fun r11=>some (r11,(t.1,(t.2,(a.1,(a.2,(b.1,(b.2,((0:Int),[na,nb]))))))))
  else some (false,(t.1,(t.2,(a.1,(a.2,(b.1,(b.2,(0,[na,nb])))))))))=some (false,(t.1,(t.2,(a.1,(a.2,(b.1,(b.2,(0,[na,nb])))))))):=by
  cases hd:x.2.2.2.1 with
  |false=>rfl
  |true=>
   simp only[ZAK]
   let⟨r,hr,hq⟩:=dQZ h hb id<;>simp_all
 rw[hbel,ZAA];simp only[ZAD]
 let⟨rows,ms,hc,hF⟩:=b4Z h.r.fit
 rw[show aK 1 [na,nb].length=some 1 from rfl,ZAA,show[na,nb][1]? =some nb from rfl,ZAA,h.ent_ok hb,ZAA,show((t.1,t.2):cI)=t from rfl,hc,ZAA];simp only[hno,ZAD,ZAA,ZAW.2 hab,ZAn,ZAK];rw[show aK 1 [na,nb].length=some 1 from rfl,ZAA,show[na,nb][1]? =some nb from rfl,ZAA,ZAA,ZAJ (show((nb.2.2.2.2.2.2.2.length:Nat):Int)>=100 by omega)];simp only[ZAK];erw[b5Z hF.pure1]
theorem mWZ(h:aM t)(m:yK t a old b name id na nb x):∃b1 x1,(bO t.1 a.1 old)[(b.1-1).toNat]? =some b1/\Srt b1.2.2.2.2.2.2.2/\b1.2.2.2.2.2.2.2.length<=100/\(iT (bO t.1 a.1 old) b.1 name id)[(id-1).toNat]? =some x1:=by
 let⟨k1,k2,hid2,hidl,hxu,hxp⟩:=m.ne h
 have hfb:=h.few m.db.1;have hb1:∃b1,(bO t.1 a.1 old)[(b.1-1).toNat]? =some b1/\Srt b1.2.2.2.2.2.2.2/\b1.2.2.2.2.2.2.2.length<=100:=by
  unfold bO;rw[bnZ,m.db.1.2.1];split
  ·refine⟨_,rfl,dEZ old (h.srt m.db.1),?_⟩;have:(dS nb.2.2.2.2.2.2.2 old).length<=nb.2.2.2.2.2.2.2.length:=ZBe _ _;show(dS _ _).length<=100;omega
  ·exact⟨_,rfl,h.srt m.db.1,hfb⟩
 let⟨b1,h1,h2,h3⟩:=hb1
 refine⟨b1,x,h1,h2,h3,?_⟩;unfold iT bO;rw[bnZ,bnZ,ZAM k2,ZAM k1];exact m.x
theorem kSZ(h:aM t)(m:yK t a old b name id na nb x)(hanc:x.2.2.2.1=true->¬Anc t.1 id b.1):kR aB t a old b name=some (mvL t.1 a.1 old b.1 name id,(t.2,([],0))):=by
 have ha:=m.da;have hb:=m.db;have hs:=m.nm;have hea:=m.ea;have hx:=m.x;have hno:=m.no;obtain⟨g1,g2,g3,y,g4,g5,g6⟩:=h.ent ha hea;rw[hx] at g4;cases g4;have hlen:=h.r.len;have hpa:=dqZ (h.srt ha.1) hea;have hpal:=(ZAB.1 hpa).1;unfold kR Pc Pd Pe Pf Pg Pi Pj PF PG PJ;rw[show((t.1,t.2):cI)=t from rfl,show((a.1,a.2):Int×Int)=a from rfl,show((b.1,b.2):Int×Int)=b from rfl,bbZ h ha hb,ZAA];simp only[ZAd,ZAQ,ZAD];rw[a3Z,ZAA,g1];simp only[ZAQ,ZAD];rw[a3Z,ZAA,hs];simp only[ZAQ,ZAD,ZAA];rw[show aK 0 [na,nb].length=some 0 from rfl,ZAA,show[na,nb][0]? =some na from rfl,ZAA,h.ent_ok ha,ZAA,aBZ.2 ⟨id,hea⟩];simp only[ZAQ,ZAD,ZAA];rw[show[na,nb][0]? =some na from rfl,ZAA,acZ hpal,ZAA,hpa,ZAA,w64 (by omega),a0Z (by omega) (by omega),ZAA,hx,ZAA];have hbel:(bif x.2.2.2.1 then(BR aB (t.1,t.2) b.1 id).bind fun r11=>some (r11,(t.1,(t.2,(a.1,(a.2,(b.1,(b.2,((0:Int),[na,nb]))))))))
  else some (false,(t.1,(t.2,(a.1,(a.2,(b.1,(b.2,(0,[na,nb])))))))))=some (false,(t.1,(t.2,(a.1,(a.2,(b.1,(b.2,(0,[na,nb])))))))):=by
  cases hd:x.2.2.2.1 with
  |false=>rfl
  |true=>
   simp only[ZAK];obtain⟨r,hr,hq⟩:=dQZ h hb id;have:r=false:=by
    cases r with
    |false=>rfl
    |true=>exact absurd (hq.1 rfl) (hanc hd)
   rw[show((t.1,t.2):cI)=t from rfl,hr,this]
   rfl
 rw[hbel,ZAA];simp only[ZAD];obtain⟨rows,ms,hc,hF⟩:=b4Z h.r.fit;rw[show aK 1 [na,nb].length=some 1 from rfl,ZAA,show[na,nb][1]? =some nb from rfl,ZAA,h.ent_ok hb,ZAA,show((t.1,t.2):cI)=t from rfl,hc,ZAA];simp only[hno,ZAD,ZAA];have hfull:(bif !(a.1==b.1) then
  (aK 1 [na,nb].length).bind fun q10=>([na,nb])[q10]?.bind fun r24=>some ((decide (((r24.2.2.2.2.2.2.2.length:Nat):Int)>=100)),(a.1,(a.2,(b.1,(b.2,((0:Int),(t.2,(rows,ms))))))))
  else some (false,(a.1,(a.2,(b.1,(b.2,(0,(t.2,(rows,ms)))))))))=some (false,(a.1,(a.2,(b.1,(b.2,(0,(t.2,(rows,ms)))))))):=by
  by_cases hab:a.1=b.1
  ·rw[show(a.1==b.1)=true from by simp[hab]]
   rfl
  ·rw[ZAW.2 hab];have:=m.few hab;simp only[ZAn,ZAK];rw[show aK 1 [na,nb].length=some 1 from rfl,ZAA,show[na,nb][1]? =some nb from rfl,ZAA,ZAE (show¬((nb.2.2.2.2.2.2.2.length:Nat):Int)>=100 by omega)]
 rw[hfull,ZAA];simp only[ZAD];obtain⟨b1,x1,p1,p2,p3,p4⟩:=mWZ h m;obtain⟨rows1,ms1,ht,hF1⟩:=ebZ t.2 old hF (by omega) ha.1.1 ha.1.2.1 (by have:=h.few ha.1;omega);rw[<-dFZ ha] at hF1;have hl1:(bO t.1 a.1 old).length=t.1.length:=aXZ ..;obtain⟨rows2,ms2,hp2,hF2⟩:=put_ok t.2 name id hF1 (by omega) hb.1.1 p1 p2 (by omega);have e2:iT (bO t.1 a.1 old) b.1 name id=(bO t.1 a.1 old).set (b.1-1).toNat (wE b1 (jS b1.2.2.2.2.2.2.2 name id)):=bJZ _ p1;rw[<-e2] at hF2;have hl2:(iT (bO t.1 a.1 old) b.1 name id).length=t.1.length:=(aXZ ..).trans hl1;have hrl:=hF2.len;rw[ht,ZAA];simp only;rw[hp2,ZAA];simp only;obtain⟨row,hr,⟨y,hry⟩,_⟩:=hF2.row p4;have hF3:=hF2.keep (k':=wP x1 b.1) hr p4 ⟨y,rfl⟩ (by rw[hry];rfl) rfl;have e3:NI (iT (bO t.1 a.1 old) b.1 name id) id b.1=(iT (bO t.1 a.1 old) b.1 name id).set (id-1).toNat (wP x1 b.1):=bJZ _ p4;rw[<-e3] at hF3;rw[a0Z (by omega) (by omega),ZAA,hr,ZAA];have e4:(row.1,(row.2.1,(row.2.2.1,(row.2.2.2.1,(row.2.2.2.2.1,(row.2.2.2.2.2.1,(b.1,row.2.2.2.2.2.2.2)))))))=toE (wP x1 b.1) y:=by rw[hry];rfl
 rw[e4];erw[b5Z (kW.pure1 hF3)]
 rfl
theorem l6Z(h:aM t)(ha:IsD t.1 a na)(hb:IsD t.1 b nb)(hs:bQ name=true)(hea:(old,id)∈na.2.2.2.2.2.2.2)(hx:t.1[(id-1).toNat]? =some x)(hanc:x.2.2.2.1=true->¬Anc t.1 id b.1)(heb:(name,other)∈nb.2.2.2.2.2.2.2)(hne:other≠id)(hz:t.1[(other-1).toNat]? =some z)(hm:kD x.2.2.2.1 z=0)
 {na' nb' x'}(h0:aM (cR (bO t.1 b.1 name) other,t.2))(m:yK (cR (bO t.1 b.1 name) other,t.2) a old b name id na' nb' x'):
 kR aB t a old b name=some (mvL (cR (bO t.1 b.1 name) other) a.1 old b.1 name id,(t.2,(rJ z.2.2.2.2.2.1,0))):=by
 obtain⟨q1,q2,q3,z',q4,q5,q6⟩:=h.ent hb heb;rw[hz] at q4;cases q4;obtain⟨g1,g2,g3,y,g4,g5,g6⟩:=h.ent ha hea;rw[hx] at g4;cases g4;have hlen:=h.r.len;have hpa:=dqZ (h.srt ha.1) hea;have hpal:=(ZAB.1 hpa).1;unfold kR Pc Pd Pe Pf Pg Pi Pj PF PG PJ;rw[show((t.1,t.2):cI)=t from rfl,show((a.1,a.2):Int×Int)=a from rfl,show((b.1,b.2):Int×Int)=b from rfl,bbZ h ha hb,ZAA];simp only[ZAd,ZAQ,ZAD];rw[a3Z,ZAA,g1];simp only[ZAQ,ZAD];rw[a3Z,ZAA,hs];simp only[ZAQ,ZAD,ZAA];rw[show aK 0 [na,nb].length=some 0 from rfl,ZAA,show[na,nb][0]? =some na from rfl,ZAA,h.ent_ok ha,ZAA,aBZ.2 ⟨id,hea⟩];simp only[ZAQ,ZAD,ZAA];rw[show[na,nb][0]? =some na from rfl,ZAA,acZ hpal,ZAA,hpa,ZAA,w64 (by omega),a0Z (by omega) (by omega),ZAA,hx,ZAA];have hbel:(bif x.2.2.2.1 then(BR aB (t.1,t.2) b.1 id).bind fun r11=>some (r11,(t.1,(t.2,(a.1,(a.2,(b.1,(b.2,((0:Int),[na,nb]))))))))
  else some (false,(t.1,(t.2,(a.1,(a.2,(b.1,(b.2,(0,[na,nb])))))))))=some (false,(t.1,(t.2,(a.1,(a.2,(b.1,(b.2,(0,[na,nb])))))))):=by
  cases hd:x.2.2.2.1 with
  |false=>rfl
  |true=>
   simp only[ZAK];obtain⟨r,hr,hq⟩:=dQZ h hb id;have:r=false:=by
    cases r with
    |false=>rfl
    |true=>exact absurd (hq.1 rfl) (hanc hd)
   rw[show((t.1,t.2):cI)=t from rfl,hr,this]
   rfl
 rw[hbel,ZAA];simp only[ZAD];obtain⟨rows,ms,hc,hF⟩:=b4Z h.r.fit;rw[show aK 1 [na,nb].length=some 1 from rfl,ZAA,show[na,nb][1]? =some nb from rfl,ZAA,h.ent_ok hb,ZAA,show((t.1,t.2):cI)=t from rfl,hc,ZAA];have hpb:=dqZ (h.srt hb.1) heb;have hpbl:=(ZAB.1 hpb).1;simp only[aBZ.2 ⟨_,heb⟩,ZAK];rw[ZAA,show[na,nb][1]? =some nb from rfl,ZAA,acZ hpbl,ZAA,hpb,ZAA,ZAA];simp only[ZAW.2 hne,ZAD];rw[show aK 1 [na,nb].length=some 1 from rfl,ZAA,show[na,nb][1]? =some nb from rfl,ZAA,acZ hpbl,ZAA,hpb,ZAA,w64 (by omega),a0Z (by omega) (by omega),ZAA,hz,ZAA,efZ,ZAA,hm];simp only[ZAd,ZAQ,ZAD];have hze:z.2.2.2.2.2.2.2=[]:=by
  unfold kD at hm;split at hm
  ·cases hm
  ·split at hm
   ·cases hm
   ·split at hm
    ·assumption
    ·cases hm
 obtain⟨rows0,mp,me,hw,hP0,hE0⟩:=lAZ h hb heb hz hze;rw[show((t.1,t.2):cI)=t from rfl,hw,ZAA];simp only[ZAd,ZAQ,ZAD];obtain⟨b1,x1,p1,p2,p3,p4⟩:=mWZ h0 m;simp only at p1 p4;have hl0:(cR (bO t.1 b.1 name) other).length=t.1.length:=(aXZ ..).trans (aXZ ..);have hna':=h0.few m.da.1;obtain⟨rows1,me1,ht,hP1,hE1⟩:=sKZ t.2 old hP0 hE0 (by omega) m.da.1.1 m.da.1.2.1 (by omega);rw[<-dFZ (t:=(cR (bO t.1 b.1 name) other,t.2)) m.da] at hP1 hE1;simp only at hP1 hE1;have hl1:(bO (cR (bO t.1 b.1 name) other) a.1 old).length=t.1.length:=(aXZ ..).trans hl0;obtain⟨rows2,me2,hp2,hP2,hE2⟩:=tRZ t.2 name id hP1 hE1 (by omega) hb.1.1 p1 p2 (by omega);have e2:iT (bO (cR (bO t.1 b.1 name) other) a.1 old) b.1 name id=(bO (cR (bO t.1 b.1 name) other) a.1 old).set (b.1-1).toNat (wE b1 (jS b1.2.2.2.2.2.2.2 name id)):=bJZ _ p1;rw[<-e2] at hP2 hE2;have hl2:(iT (bO (cR (bO t.1 b.1 name) other) a.1 old) b.1 name id).length=t.1.length:=(aXZ ..).trans hl1;have hrl:=hP2.len;rw[ht,ZAA];simp only;rw[hp2,ZAA];simp only;obtain⟨row,hr,⟨y,w,hry⟩,_⟩:=hP2.row p4;have hP3:=hP2.keep (row':=to2 (wP x1 b.1) y w) (k':=wP x1 b.1) hr p4 ⟨y,w,rfl⟩ (by rw[hry];rfl) rfl;have hE3:=hE2.keep (row':=to2 (wP x1 b.1) y w) (k':=wP x1 b.1) hr p4 ⟨y,w,rfl⟩ (by rw[hry];rfl) rfl;have e3:NI (iT (bO (cR (bO t.1 b.1 name) other) a.1 old) b.1 name id) id b.1=(iT (bO (cR (bO t.1 b.1 name) other) a.1 old) b.1 name id).set (id-1).toNat (wP x1 b.1):=bJZ _ p4;rw[<-e3] at hP3 hE3;rw[a0Z (by omega) (by omega),ZAA,hr,ZAA];have e4:(row.1,(row.2.1,(row.2.2.1,(row.2.2.2.1,(row.2.2.2.2.1,(row.2.2.2.2.2.1,(b.1,row.2.2.2.2.2.2.2)))))))=to2 (wP x1 b.1) y w:=by rw[hry];rfl
 rw[e4];erw[b5Z (p2Z (ms.map aV) hP3 hE3)]
 rfl
end
end Go.Ab.D
