/- What the functions compute; the plain law. -/
import Derived.Test.YtjngohmkdmdecaaGreatStateFailsQ1
import Derived.KernelRfl
set_option linter.all false
open Prod renaming A->PA,B->PB,C->PC,D->PD,E->PE,F->PF,H->PH,I->PI,J->PJ,O->PO,P->PP,Q->PQ,V->PV,W->PW,X->PX,Y->PY,ZA->PZA,ZC->PZC,ZX->PZX,a->Pa,b->Pb,c->Pc,d->Pd,e->Pe,f->Pf,g->Pg,h->Ph,i->Pi,j->Pj,k->Pk,l->Pl,m->Pm,n->Pn,o->Po,p->Pp,q->Pq,r->Pr,s->Ps,t->Pt,u->Pu,v->Pv,w->Pw,x->Px,y->Py,z->Pz,za->Pza,zb->Pzb,zc->Pzc,zd->Pzd,ze->Pze,zf->Pzf,zg->Pzg,zh->Pzh,zi->Pzi,zj->Pzj,zk->Pzk,zl->Pzl,zm->Pzm,zn->Pzn,zo->Pzo,zp->Pzp,zq->Pzq,zr->Pzr,zs->Pzs,zt->Pzt,zu->Pzu,zv->Pzv,zw->Pzw,zx->Pzx
namespace Go.Ab
theorem ZAP:type_of% @List.getElem?_cons_zero:=@List.getElem?_cons_zero
theorem ZBo:type_of% @Int.toNat_natCast:=@Int.toNat_natCast
theorem ZBs:type_of% @List.find?_eq_none:=@List.find?_eq_none
theorem ZB1:type_of% @Nat.mul_le_mul_left:=@Nat.mul_le_mul_left
theorem ZCE:type_of% @List.mem_of_find?_eq_some:=@List.mem_of_find?_eq_some
theorem ZCJ:type_of% @List.map_append:=@List.map_append
theorem ZCP:type_of% @Bool.and_assoc:=@Bool.and_assoc
theorem ZCQ:type_of% @Nat.mul_le_mul:=@Nat.mul_le_mul
theorem ZCY:type_of% @List.getElem?_mapIdx:=@List.getElem?_mapIdx
theorem ZCl:type_of% @List.find?_some:=@List.find?_some
end Go.Ab
namespace Go.Ab.D
open Go Go.Ab
theorem dQZ(l:List Part)(hl:l.length<=100000):kSamPar fuel l l=some true:=by
 unfold kSamPar kSamPar_l0_it;have e:iter fuel (λtt=>kSamPar_l0 fuel l l tt) 0=some (.inl ()):=by
  refine aoZ (λk=>(k:Int)) l.length (by omega) (λk hk=> ?_) ?_
  ·unfold kSamPar_l0;obtain⟨x,hg⟩:∃x,l[k]? =some x:=⟨_,ZAC hk⟩;rw[aFZ hk,adZ hk,ZAA,hg,ZAA,ZAA,hg,w6];simp
  ·unfold kSamPar_l0;rw[aBZ (ZAy _),ZAD]
 simp_all
theorem dgZ(l:List Ent)(hl:l.length<=100000):kSamEnt fuel l l=some true:=by
 unfold kSamEnt kSamEnt_l0_it;have e:iter fuel (λtt=>kSamEnt_l0 fuel l l tt) 0=some (.inl ()):=by
  refine aoZ (λk=>(k:Int)) l.length (by omega) (λk hk=> ?_) ?_
  ·unfold kSamEnt_l0;obtain⟨x,hg⟩:∃x,l[k]? =some x:=⟨_,ZAC hk⟩;rw[aFZ hk,adZ hk,ZAA,hg,ZAA,ZAA,hg,w6];simp
  ·unfold kSamEnt_l0;rw[aBZ (ZAy _),ZAD]
 simp_all
theorem hfZ(n:Ino)(h:n.sm):kSamIno fuel n n=some true:=by
 unfold kSamIno Pb Pc Pd Pe Pf PF;simp only[ZAb];rw[dQZ _ h.1,ZAA];simp only[ZAK];rw[dgZ _ h.2,ZAA]
theorem iiZ(t:Tree)(h:Fit t.1):kSamTre fuel t t=some true:=by
 have hn:=h.n;unfold kSamTre kSamTre_l0_it;have e:iter fuel (λtt:Int×(List Ino×(Int×(List Ino×Int)))=>kSamTre_l0 fuel (false,t.1,t.2,t.1,t.2) tt.1 tt.2.1 tt.2.2.1 tt.2.2.2.1 tt.2.2.2.2) (0,(t.1,(t.2,(t.1,t.2))))=some (.inl ()):=by
  refine aoZ (λk=>((k:Int),(t.1,(t.2,(t.1,t.2))))) t.1.length (by omega) (λk hk=> ?_) ?_
  ·unfold kSamTre_l0;obtain⟨n,hg⟩:∃n,t.1[k]? =some n:=⟨_,ZAC hk⟩;rw[aFZ hk,adZ hk,ZAA,hg,ZAA,ZAA,hg,ZAA,hfZ n (h.at hg),w6];simp
  ·unfold kSamTre_l0;rw[aBZ (ZAy _),ZAD]
 simp_all
def pickI(x n:Int):Int:=if Int.tmod x n<0 then wI (Int.tmod x n+n) else Int.tmod x n
theorem jbZ(x n)(hn:1<=n):kit_Pick fuel x n=some (pickI x n):=by
 unfold kit_Pick pickI;rw[show decide (n<1)=false from by simp;omega,aeZ (by simp;omega)]
 grind
theorem iBZ(x){n}(hn:1<=n)(aa:n<=1000000):0<=pickI x n/\pickI x n<n:=by
 unfold pickI;have h1:=Int.tmod_lt_of_pos x (show 0<n by omega);have h2:=by
  have:=Int.tmod_lt_of_pos (-x) (show 0<n by omega);rw[Int.neg_tmod] at this;omega
 grind[w64]
theorem jIZ{aa}{x}(h:misE aa x=0):x.2.2.2.2.2.2.2=[]/\x.2.2.2.1=aa:=by
 grind[misE]
section
variable {t : Tree} {a b d : Int × Int} {na nb n x z : Ino} {old name s : List UInt8} {id other : Int}
def Found(t:Tree)(d:Int×Int)(s:List UInt8)(h:Int×Int):Prop:=∃n x,IsD t.1 d n/\(s,h.1)∈n.2.2.2.2.2.2.2/\t.1[(h.1-1).toNat]? =some x/\x.2.1=h.2/\x.2.2.1=true
structure MadeOk (t:Tree) (d:Int×Int) (s:List UInt8) (is:Bool) (T:Tree) (f:Int×Int) (n:Ino) (l':List Ino) (i:Nat):Prop where
 dir:IsD t.1 d n
 nm:namedB s=true
 no:hasN n.2.2.2.2.2.2.2 s=false
 few:n.2.2.2.2.2.2.2.length<100
 alc:Alc t.1 is d.1 l' i f.2
 T:T=(putL l' d.1 s ((i:Int)+1),t.2)
 f:f.1=(i:Int)+1
theorem myZ{l'}{i}{g}{is}(hn:IsD t.1 d n)(hA:Alc t.1 is d.1 l' i g)(id):madeL l' d.1 n s id=putL l' d.1 s id:=by
 have aa:(d.1-1).toNat≠i:=λhc=>by
  have:=hA.was n (by rw[<-hc];exact hn.1.2.1);rw[hn.1.2.2.1] at this;grind
 unfold madeL putL;rw[bLZ _ (by rw[hA.old _ aa];exact hn.1.2.1)]
theorem oRZ(h:TreeOK t)(d)(s)(is):(∃e,e≠0/\tree_Make fuel t d s is=some (t.1,(t.2,(0,(0,e)))))\/∃T f n l' i,tree_Make fuel t d s is=some (T.1,(T.2,(f.1,(f.2,0))))/\MadeOk t d s is T f n l' i:=by
 rcases bwZ t.1 d with⟨n,hn⟩|⟨hb,aa⟩
 ·cases hs:namedB s with
  |false=>exact .inl ⟨176,by decide,j2Z h is hn hs⟩
  |true=>
   cases hh:hasN n.2.2.2.2.2.2.2 s with
   |true=>exact .inl ⟨172,by decide,h4Z h is hn hs hh⟩
   |false=>
    by_cases hl:n.2.2.2.2.2.2.2.length<100
    ·rcases hSZ h is hn hs hh hl with⟨_,hm⟩|⟨l',i,g,hA,hm⟩
     ·exact .inl ⟨5,by decide,hm⟩
     ·refine .inr ⟨(putL l' d.1 s ((i:Int)+1),t.2),((i:Int)+1,g),n,l',i,?_,⟨hn,hs,hh,hl,hA,rfl,rfl⟩⟩;rw[hm,myZ hn hA]
    ·exact .inl ⟨5,by decide,kSZ h is hn hs hh (by omega)⟩
 ·exact .inl ⟨_,hb,mEZ h s is hb⟩
theorem MadeOk.tree{is}{T}{f}{l'}{i}(h:TreeOK t)(m:MadeOk t d s is T f n l' i):TreeOK T:=by
 rw[m.T];exact m6Z h m.dir m.nm m.no m.few m.alc
theorem MadeOk.new{is}{T}{f}{l'}{i}(h:TreeOK t)(m:MadeOk t d s is T f n l' i):T.1[(f.1-1).toNat]? =some (f.1,f.2,true,is,0,[],d.1,[]):=by
 rw[m.T,m.f];rw[show((i:Int)+1-1).toNat=i from by omega,vnZ h m.dir m.alc,ZAM,ZAN rfl];intro hc;have:=m.alc.was n (by rw[hc];exact m.dir.1.2.1);rw[m.dir.1.2.2.1] at this;grind
structure RmOk (t:Tree) (d:Int×Int) (s:List UInt8) (is:Bool) (T:Tree) (gone:List Part) (n:Ino) (id:Int) (x:Ino):Prop where
 dir:IsD t.1 d n
 e:(s,id)∈n.2.2.2.2.2.2.2
 at_:t.1[(id-1).toNat]? =some x
 mis:misE is x=0
 T:T=(dropL (takeL t.1 d.1 s) id,t.2)
 gone:gone=keptP x.2.2.2.2.2.1
theorem vXZ(h:TreeOK t)(ha:IsD t.1 a na)(hb:IsD t.1 b nb)(aa:(old,id)∈na.2.2.2.2.2.2.2)(hx:t.1[(id-1).toNat]? =some x)(ac:x.2.2.2.1=true->¬Anc t.1 id b.1):¬Anc t.1 id b.1:=by
 cases hd:x.2.2.2.1 with
 |true=>simp_all
 |false=>
  intro hc
  let⟨_,h2,_,y,hy,hu,_⟩:=h.ent ha aa
  rw[hx] at hy;cases hy;have ab:=((h.r.ino _ x hx).file hu hd).2.1;have:=sbZ h hx h2 ab hc hb.1.1;have hn:=hb.1.2.1;rw[this,hx] at hn;cases hn;rw[hb.2] at hd;cases hd
theorem ufZ(h:TreeOK t)(ha:IsD t.1 a na)(hb:IsD t.1 b nb)(hs:namedB name=true)(hea:(old,id)∈na.2.2.2.2.2.2.2)(hx:t.1[(id-1).toNat]? =some x)(hanc:¬Anc t.1 id b.1)(heb:(name,other)∈nb.2.2.2.2.2.2.2)(hne:other≠id)(hz:t.1[(other-1).toNat]? =some z)(hze:z.2.2.2.2.2.2.2=[]):
 ∃na' nb',MvOk (dropL (takeL t.1 b.1 name) other,t.2) a old b name id na' nb' x/\nb'=wE nb (delE nb.2.2.2.2.2.2.2 name):=by
 let⟨_,i2,i3,y,hy,hu,hp⟩:=h.ent ha hea
 rw[hx] at hy;cases hy
 let⟨_,o2,o3,w,hw,hzu,hzp⟩:=h.ent hb heb
 rw[hz] at hw;cases hw;have hk:=sVZ heb hb hz hze;have hka:(other-1).toNat≠(a.1-1).toNat:=λhc=>by
  have:=ha.1.2.1;rw[<-hc,hz] at this;cases this;rw[hze] at hea;cases hea
 have hat:=λj=>v2Z (s:=name) hk hb hz j;have hb1:=hb.1.1;have hfb:=h.few hb.1;have hdl:=nrZ (h.srt hb.1) heb;have hkb:(id-1).toNat≠(b.1-1).toNat:=λhc=>by
  have:id=b.1:=by omega
  exact hanc (by rw[this];exact .refl)
 have hno:hasN (delE nb.2.2.2.2.2.2.2 name) name=false:=by
  cases hh:hasN (delE nb.2.2.2.2.2.2.2 name) name with
  |false=>rfl
  |true=>let⟨i,hi⟩:=aCZ.1 hh;exact absurd rfl (bBZ.1 hi).2
 have hdb:IsD (dropL (takeL t.1 b.1 name) other) b (wE nb (delE nb.2.2.2.2.2.2.2 name)):=⟨⟨hb1,by rw[hat,iNo,ZAN rfl],hb.1.2.2.1,hb.1.2.2.2⟩,hb.2⟩;have hda:∃na',IsD (dropL (takeL t.1 b.1 name) other) a na'/\(old,id)∈na'.2.2.2.2.2.2.2:=by
  by_cases hab:(a.1-1).toNat=(b.1-1).toNat
  ·have hnn:na=nb:=by
    have:=ha.1.2.1;rw[hab,hb.1.2.1] at this;injection this with this;exact this.symm
   subst hnn;refine⟨wE na (delE na.2.2.2.2.2.2.2 name),⟨⟨ha.1.1,by rw[hat,iNo,ZAN hab],ha.1.2.2.1,ha.1.2.2.2⟩,ha.2⟩,bBZ.2 ⟨hea,λhc=> ?_⟩⟩;have hc:=hc;subst hc;exact hne (d8Z (h.srt hb.1) heb hea)
  ·exact⟨na,⟨⟨ha.1.1,by rw[hat,iNo,ZAM hab];exact ha.1.2.1,ha.1.2.2.1,ha.1.2.2.2⟩,ha.2⟩,hea⟩
 let⟨na',hda,hea'⟩:=hda
 refine⟨na',_,⟨hda,hdb,hea',?_,hs,hno,λ_=> ?_,λhc=>hanc ?_⟩,rfl⟩
 ·show(dropL (takeL t.1 b.1 name) other)[(id-1).toNat]? =_;rw[hat,iNo,ZAM hkb];exact hx
 ·show(delE _ _).length<100;omega
 ·have go:∀i,Anc (dropL (takeL t.1 b.1 name) other) id i->1<=i->Anc t.1 id i:=λi hi=>by
   induction hi with
   |refl=>intro _;exact .refl
   | @step i y h1 hy hyu _ ih=>
     intro hi1;rw[hat] at hy;by_cases c1:(i-1).toNat=(other-1).toNat
     ·rw[ZAN c1] at hy;cases hy;cases hyu
     ·rw[ZAM c1] at hy;by_cases c2:(i-1).toNat=(b.1-1).toNat
      ·rw[ZAN c2] at hy;cases hy;exact .step h1 (by rw[c2];exact hb.1.2.1) hb.1.2.2.1 (ih ((h.r.ino _ nb hb.1.2.1).par hb.1.2.2.1).1)
      ·rw[ZAM c2] at hy;exact .step h1 hy hyu (ih ((h.r.ino _ y hy).par hyu).1)
  exact go _ hc hb1
inductive Moved (t:Tree) (a:Int×Int) (old:List UInt8) (b:Int×Int) (name:List UInt8) (T:Tree) (gone:List Part) (id:Int) (x:Ino):Prop
 |same {na nb:Ino}:T=t->gone=[]->IsD t.1 a na->IsD t.1 b nb->(old,id)∈na.2.2.2.2.2.2.2->(name,id)∈nb.2.2.2.2.2.2.2->t.1[(id-1).toNat]? =some x->Moved t a old b name T gone id x
 |move {na nb:Ino}:T=(mvL t.1 a.1 old b.1 name id,t.2)->gone=[]->MvOk t a old b name id na nb x->Moved t a old b name T gone id x
 |over {na nb na' nb' z:Ino} {other:Int}:T=(mvL (dropL (takeL t.1 b.1 name) other) a.1 old b.1 name id,t.2)->gone=keptP z.2.2.2.2.2.1->IsD t.1 a na->IsD t.1 b nb->(old,id)∈na.2.2.2.2.2.2.2->t.1[(id-1).toNat]? =some x->(name,other)∈nb.2.2.2.2.2.2.2->other≠id->t.1[(other-1).toNat]? =some z->misE x.2.2.2.1 z=0->TreeOK (dropL (takeL t.1 b.1 name) other,t.2)->MvOk (dropL (takeL t.1 b.1 name) other,t.2) a old b name id na' nb' x->Moved t a old b name T gone id x
end
theorem tCZ:TreeOK ([(1,1,true,true,0,[],1,[])],0):=by
 refine⟨⟨by simp,by simp,λi n hn=> ?_,by simp[allStripes,stripes],_,rfl,rfl,rfl,rfl⟩,λi n hn s id he=> ?_,λj x hx hu hj=> ?_,λj x hx hu=> ?_⟩
 ·cases i with
  |zero=>simp at hn;subst hn;exact⟨rfl,by simp,by simp,λ_ _=>⟨rfl,rfl,by simp,trivial⟩,by simp,by simp⟩
  |succ i=>grind
 ·cases i<;>grind
 ·simp_all
 ·cases j with
  |zero=>exact .root
  |succ i=>grind
def allocF(l:List Ino)(ab:Bool)(aa:Int):Option (List Ino×Nat×Int):=
 match freeAt l with
 |none=>if l.length<500 then some (l++[((l.length:Int)+1,1,true,ab,0,[],aa,[])],l.length,1) else none
 |some i=>match l[i]? with
  |none=>none
  |some n=>if n.2.1<1099511627776 then some (l.set i ((i:Int)+1,n.2.1+1,true,ab,0,[],aa,[]),i,n.2.1+1) else none
theorem uWZ{l l'}{ac}{aa g}{i}(h:Alc l ac aa l' i g):allocF l ac aa=some (l',i,g):=by
 unfold allocF;have hs:=h.slot;have ad:=h.len;cases hf:freeAt l with
 |none=>
  rw[hf] at hs;have hs:i=l.length:=hs;rw[iNo] at ad;have:=h.few;have hg:=by
   have:=h.gen;rw[gNo] at this;exact this
  rw[iPo];subst hs hg;show some (l++[((l.length:Int)+1,1,true,ac,0,[],aa,[])],l.length,(1:Int))=some (l',l.length,0+1);have e:l++[((l.length:Int)+1,1,true,ac,0,[],aa,[])]=l':= ?_
  ·rw[e];rfl
  refine ZBU λj=> ?_;by_cases hj:j=l.length
  ·subst hj;rw[h.new];simp
  ·rw[h.old j hj];by_cases ae:j<l.length
   ·rw[ZAR ae]
   ·rw[ZAt (by simp;omega),gNo]
 |some k=>
  rw[hf] at hs;have hs:=hs;subst hs
  let⟨hk,_,_⟩:=ZA2.1 hf
  have hg:=ZAC hk;have ab:=h.gen;rw[hg] at ab;have ab:g=l[i].2.1+1:=ab;have:=h.top;simp only[hg];rw[iPo,<-ab];congr 2;refine ZBU λj=> ?_;by_cases hj:j=i
  ·subst hj;rw[h.new,ZAT hk]
  ·rw[h.old j hj,ZAa (by omega)]
theorem o9Z{l}(h:noRoom l)(dir)(parent):allocF l dir parent=none:=by
 unfold noRoom at h;unfold allocF
 grind
def findE(l:List Ent)(s:List UInt8):Option Int:=(l.find? λe=>e.1==s).map (·.2)
theorem d0Z{l}(h:Srt l){s}{id}(hm:(s,id)∈l):findE l s=some id:=by
 unfold findE;cases hf:l.find? (λe=>e.1==s)<;>grind[ZBs,ZCE,ZCl,d8Z]
theorem d9Z{l}{s}(h:hasN l s=false):findE l s=none:=by
 grind[findE,ZBs,aCZ]
def ancB(l:List Ino)(aa:Int):Nat->Int->Bool
 |0,id=>id==aa
 |k+1,id=>bif id==aa then true else bif id==1 then false else match l[(id-1).toNat]? with
  |some n=>n.2.2.1&&ancB l aa k n.2.2.2.2.2.2.1
  |none=>false
theorem rcZ{l}(top):∀(k) (id),reachN l k id=true->(ancB l top k id=true↔Anc l top id)
 |0,id,h=>by
  have h:=by unfold reachN at h;simpa using h
  unfold ancB;rw[ZB2];constructor
  ·rintro rfl;exact .refl
  ·intro ha;cases ha<;>grind
 |k+1,id,h=>by
  unfold ancB;cases h1:(id==top) with
  |true=>rw[ZB2] at h1;subst h1;simp;exact .refl
  |false=>
   cases h2:(id==1) with
   |true=>
    simp only[ZAK];constructor
    ·simp_all
    ·intro ha;cases ha<;>grind
   |false=>
    unfold reachN at h;rw[h2] at h;simp only[ZAD] at h⊢;cases hg:l[(id-1).toNat]? with
    |none=>simp_all
    |some n=>
     rw[hg] at h;simp at h⊢;rw[rcZ top k _ h.2];constructor
     ·rintro⟨h3,h4⟩;exact .step (by simpa using h2) hg h3 h4
     ·intro ha;cases ha with
      |refl=>rw[ZAb] at h1;cases h1
      |step _ h4 h5 h6=>rw[hg] at h4;cases h4;exact⟨h5,h6⟩
theorem mFZ{t}(h:TreeOK t){b}{nb}(hb:IsD t.1 b nb)(top):ancB t.1 top t.1.length b.1=true↔Anc t.1 top b.1:=by
 have ac:=(ZAB.1 hb.1.2.1).1;have ad:=eQZ hb;have aa:=hb.1.1;exact rcZ top _ _ (fdZ h.r.len.1 (λj x hx ab=>(h.r.ino j x hx).par ab) aa (by omega) (by have:=h.a _ nb hb.1.2.1 hb.1.2.2.1;simp_all))
def makeF(t:Tree)(d:Int×Int)(s:List UInt8)(is:Bool):Tree×(Int×Int)×Int:=
 if dirE t.1 d=0 then
  if namedB s=true then
   match t.1[(d.1-1).toNat]? with
   |none=>(t,(0,0),170)
   |some n=>if hasN n.2.2.2.2.2.2.2 s=true then(t,(0,0),172) else if 100<=n.2.2.2.2.2.2.2.length then(t,(0,0),5) else
    match allocF t.1 is d.1 with
    |none=>(t,(0,0),5)
    |some (l',i,g)=>((putL l' d.1 s ((i:Int)+1),t.2),((i:Int)+1,g),0)
  else(t,(0,0),176)
 else(t,(0,0),dirE t.1 d)
theorem iVZ{t}(h:TreeOK t)(d)(s)(is):tree_Make fuel t d s is=some ((makeF t d s is).1.1,((makeF t d s is).1.2,((makeF t d s is).2.1.1,((makeF t d s is).2.1.2,(makeF t d s is).2.2))))/\TreeOK (makeF t d s is).1:=by
 unfold makeF;rcases bwZ t.1 d with⟨n,hn⟩|⟨hb,_⟩
 ·rw[ZAN (cnZ hn),hn.1.2.1];simp;cases hs:namedB s with
  |false=>exact⟨j2Z h is hn hs,h⟩
  |true=>
   rw[ZAN rfl];cases hh:hasN n.2.2.2.2.2.2.2 s with
   |true=>exact⟨h4Z h is hn hs hh,h⟩
   |false=>
    by_cases hl:100<=n.2.2.2.2.2.2.2.length
    ·rw[ZAN hl];exact⟨kSZ h is hn hs hh hl,h⟩
    ·rw[ZAM hl];rcases hSZ h is hn hs hh (by omega) with⟨aa,hm⟩|⟨l',i,g,hA,hm⟩
     ·rw[o9Z aa];exact⟨hm,h⟩
     ·rw[uWZ hA,hm,myZ hn hA];exact⟨rfl,m6Z h hn hs hh (by omega) hA⟩
 ·rw[ZAM hb];exact⟨mEZ h s is hb,h⟩
def removeF(t:Tree)(d:Int×Int)(s:List UInt8)(is:Bool):Tree×List Part×Int:=
 if dirE t.1 d=0 then
  if namedB s=true then
   match t.1[(d.1-1).toNat]? with
   |none=>(t,[],170)
   |some n=>match findE n.2.2.2.2.2.2.2 s with
    |none=>(t,[],171)
    |some id=>match t.1[(id-1).toNat]? with
     |none=>(t,[],170)
     |some x=>if misE is x=0 then((dropL (takeL t.1 d.1 s) id,t.2),keptP x.2.2.2.2.2.1,0) else(t,[],misE is x)
  else(t,[],176)
 else(t,[],dirE t.1 d)
theorem kVZ{t}(h:TreeOK t)(d)(s)(is):tRem fuel t d s is=some ((removeF t d s is).1.1,((removeF t d s is).1.2,((removeF t d s is).2.1,(removeF t d s is).2.2)))/\TreeOK (removeF t d s is).1:=by
 unfold removeF;rcases bwZ t.1 d with⟨n,hn⟩|⟨hb,_⟩
 ·rw[ZAN (cnZ hn),hn.1.2.1];simp only;cases hs:namedB s with
  |false=>exact⟨mrZ h is hn hs,h⟩
  |true=>
   cases hh:hasN n.2.2.2.2.2.2.2 s with
   |false=>rw[d9Z hh];exact⟨lfZ h is hn hs hh,h⟩
   |true=>
    let⟨id,he⟩:=aCZ.1 hh
    let⟨_,_,_,x,hx,hu,_⟩:=h.ent hn he
    rw[d0Z (h.srt hn.1) he];simp only[hx];have hr:=l1Z h is hn he hx;by_cases hm:misE is x=0
    ·rw[ZAN hm] at hr⊢;exact⟨hr,mKZ h hn he hx (jIZ hm).1⟩
    ·rw[ZAM hm] at hr⊢;exact⟨hr,h⟩
 ·rw[ZAM hb];exact⟨nAZ h s is hb,h⟩
def renameF(t:Tree)(a:Int×Int)(ac:List UInt8)(b:Int×Int)(aa:List UInt8):Tree×List Part×Int:=
 if dirE t.1 a=0 then
  if dirE t.1 b=0 then
   if(namedB ac&&namedB aa)=true then
    match t.1[(a.1-1).toNat]? with
    |none=>(t,[],170)
    |some na=>match t.1[(b.1-1).toNat]? with
     |none=>(t,[],170)
     |some nb=>match findE na.2.2.2.2.2.2.2 ac with
      |none=>(t,[],171)
      |some id=>match t.1[(id-1).toNat]? with
       |none=>(t,[],170)
       |some x=>if(x.2.2.2.1&&ancB t.1 id t.1.length b.1)=true then(t,[],178) else
        match findE nb.2.2.2.2.2.2.2 aa with
        |none=>if a.1≠b.1/\100<=nb.2.2.2.2.2.2.2.length then(t,[],5) else((mvL t.1 a.1 ac b.1 aa id,t.2),[],0)
        |some ab=>if ab=id then(t,[],0) else match t.1[(ab-1).toNat]? with
         |none=>(t,[],170)
         |some z=>if misE x.2.2.2.1 z=0 then((mvL (dropL (takeL t.1 b.1 aa) ab) a.1 ac b.1 aa id,t.2),keptP z.2.2.2.2.2.1,0) else(t,[],misE x.2.2.2.1 z)
   else(t,[],176)
  else(t,[],dirE t.1 b)
 else(t,[],dirE t.1 a)
theorem k9Z{t}(h:TreeOK t)(a)(old)(b)(name):tRen fuel t a old b name=some ((renameF t a old b name).1.1,((renameF t a old b name).1.2,((renameF t a old b name).2.1,(renameF t a old b name).2.2)))/\TreeOK (renameF t a old b name).1:=by
 unfold renameF;rcases bwZ t.1 a with⟨na,ha⟩|⟨hb,_⟩
 ·rw[ZAN (cnZ ha)];rcases bwZ t.1 b with⟨nb,hb⟩|⟨hb,_⟩
  ·rw[ZAN (cnZ hb)];cases ai:(namedB old&&namedB name) with
   |false=>grind[mcZ]
   |true=>
    rw[ha.1.2.1,hb.1.2.1];simp only;rw[ZAF] at ai
    let⟨ak,hs⟩:=ai
    cases hh:hasN na.2.2.2.2.2.2.2 old with
    |false=>rw[d9Z hh];exact⟨lOZ h ha hb ak hs hh,h⟩
    |true=>
     let⟨id,ab⟩:=aCZ.1 hh
     let⟨_,_,_,x,hx,hu,hp⟩:=h.ent ha ab
     rw[d0Z (h.srt ha.1) ab];simp only[hx];by_cases hl:(x.2.2.2.1&&ancB t.1 id t.1.length b.1)=true
     ·rw[ZAN hl];rw[ZAF] at hl;exact⟨l8Z h ha hb hs ab hx hl.1 ((mFZ h hb id).1 hl.2),h⟩
     ·rw[ZAM hl];have ac:x.2.2.2.1=true->¬Anc t.1 id b.1:=λh1 h2=>hl (by rw[h1,(mFZ h hb id).2 h2];rfl);have ae:=vXZ h ha hb ab hx ac;cases ag:hasN nb.2.2.2.2.2.2.2 name with
      |false=>
       rw[d9Z ag];simp;by_cases aa:a.1≠b.1/\100<=nb.2.2.2.2.2.2.2.length
       ·rw[ZAN aa];exact⟨lZZ h ha hb hs ab hx ac ag aa.1 aa.2,h⟩
       ·rw[ZAM aa];have al:a.1≠b.1->nb.2.2.2.2.2.2.2.length<100:=λhc=>by
         have:=λhh=>aa ⟨hc,hh⟩;omega
        have m:MvOk t a old b name id na nb x:=⟨ha,hb,ab,hx,hs,ag,al,ae⟩;exact⟨lNZ h m ac,niZ h m⟩
      |true=>
       let⟨ah,ad⟩:=aCZ.1 ag
       let⟨_,_,_,z,hz,am,an⟩:=h.ent hb ad
       rw[d0Z (h.srt hb.1) ad];simp only;by_cases af:ah=id
       ·subst af;rw[ZAN rfl];exact⟨l3Z h ha hb hs ab hx ac ad,h⟩
       ·rw[ZAM af,hz];simp;by_cases hm:misE x.2.2.2.1 z=0
        ·rw[ZAN hm];have aj:=(jIZ hm).1;have h0:=mKZ h hb ad hz aj
         let⟨ao,ap,m,_⟩:=ufZ h ha hb hs ab hx ae ad af hz aj
         exact⟨loZ h ha hb hs ab hx ac ad af hz hm h0 m,niZ h0 m⟩
        ·rw[ZAM hm];exact⟨n1Z h ha hb hs ab hx ac ad af hz hm,h⟩
  ·rw[ZAM hb];exact⟨mjZ h ha hb,h⟩
 ·rw[ZAM hb];exact⟨lmZ h hb,h⟩
abbrev CallT:Type:=Int×(Int×(UInt8×((Int×Int)×(List UInt8×((Int×Int)×(List UInt8×(Int×(Int×List UInt8))))))))
abbrev Has:Type:=Bool×(Bool×(Bool×(Bool×(Int×(Bool×Bool)))))
instance hasD1:DecidableEq (Int×(Bool×Bool)):=instDecidableEqProd
instance hasD2:DecidableEq (Bool×(Int×(Bool×Bool))):=instDecidableEqProd
instance hasD3:DecidableEq (Bool×(Bool×(Int×(Bool×Bool)))):=instDecidableEqProd
instance hasD4:DecidableEq (Bool×(Bool×(Bool×(Int×(Bool×Bool))))):=instDecidableEqProd
instance hasD5:DecidableEq Has:=instDecidableEqProd
def shapeN(o:Nat):Has:=
 if o=1\/o=2\/o=3\/o=7\/o=8 then(true,(true,(false,(false,(0,(false,true))))))
 else if o=4 then(true,(false,(false,(true,(4096,(false,true))))))
 else if o=5 then(true,(false,(false,(true,(0,(true,true))))))
 else if o=6 then(true,(false,(false,(false,(2147483648,(false,true))))))
 else if o=9 then(true,(true,(true,(false,(0,(false,true))))))
 else if o=10 then(true,(true,(false,(false,(4096,(false,true))))))
 else if o=11 then(true,(false,(false,(false,(0,(false,true))))))
 else if o=12 then(false,(false,(false,(false,(0,(false,true))))))
 else(false,(false,(false,(false,(0,(false,false))))))
theorem rKZ:∀n,n<256->csha fuel ((n:Nat):Int)=some (shapeN n):=by decide+kernel
theorem sJZ(o:UInt8):csha fuel ((o.toNat:Nat):Int)=some (shapeN o.toNat):=rKZ _ o.toNat_lt
def whoseB(a b:Int):Bool:=decide (0<=a/\a<16/\1<=b/\b<=1099511627776)
theorem sMZ(a b):cwho fuel a b=some (whoseB a b):=by
 grind[cwho,whoseB]
def handleB(h:Int×Int):Bool:=decide (1<=h.1/\h.1<=500/\1<=h.2/\h.2<=1099511627776)
theorem rIZ(h):hRig fuel h=some (handleB h):=by
 grind[hRig,handleB]
def ofB(is:Bool)(h:Int×Int):Bool:=bif is then handleB h else((h.1==0)&&(h.2==0))
theorem vsZ(is)(h):cRigCal1 fuel is h=some (ofB is h):=by
 unfold cRigCal1 ofB;cases is with
 |true=>
  grind[rIZ,ZAA]
 |false=>rfl
def saidB(is:Bool)(l:List UInt8):Bool:=(l==[])||(is&&decide (l.length<=100))
theorem qRZ(is)(l):cRigCal2 fuel is l=some (saidB is l):=by
 unfold cRigCal2 saidB
 grind[ZAJ,ZAE]
def rightS(s:Has)(c:CallT):Bool:=
 s.2.2.2.2.2.2&&(whoseB c.1 c.2.1&&(ofB s.1 c.2.2.2.1&&(ofB s.2.2.1 c.2.2.2.2.2.1&&(saidB s.2.1 c.2.2.2.2.1&&(saidB s.2.2.1 c.2.2.2.2.2.2.1&&
  (decide (0<=c.2.2.2.2.2.2.2.1/\c.2.2.2.2.2.2.2.1<=2147483648)&&((s.2.2.2.1||(c.2.2.2.2.2.2.2.1==0))&&(decide (0<=c.2.2.2.2.2.2.2.2.1/\c.2.2.2.2.2.2.2.2.1<=s.2.2.2.2.1)&&
   (decide (c.2.2.2.2.2.2.2.2.2.length=0)||(s.2.2.2.2.2.1&&decide (c.2.2.2.2.2.2.2.2.2.length<=4096)))))))))))
def rightCall(c:CallT):Bool:=rightS (shapeN c.2.2.1.toNat) c
theorem axZ(c:CallT):cRigCal fuel c=some (rightCall c):=by
 let⟨c1,c2,c3,⟨h1,h2⟩,nm,⟨t1,t2⟩,nw,off,n,bs⟩:=c
 unfold cRigCal rightCall Pa Pb Pc Pd Pe Pf Pg Ph Pi Pj Pk Pl Pm Pn Po Pp Pq PE PH PQ;simp only;rw[sJZ];generalize shapeN c3.toNat=s
 let⟨sh,sn,st,so,sN,sb,ok⟩:=s
 unfold rightS;simp only[ZAA];cases ok with
 |false=>rfl
 |true=>
  simp only[ZAO];rw[sMZ];generalize whoseB c1 c2=w;cases w with
  |false=>rfl
  |true=>
   simp only[ZAA,ZAD];rw[vsZ];generalize ofB sh (h1,h2)=a1;cases a1 with
   |false=>rfl
   |true=>
    simp only[ZAO];rw[vsZ];generalize ofB st (t1,t2)=a2;cases a2 with
    |false=>rfl
    |true=>
     simp only[ZAD];rw[qRZ];generalize saidB sn nm=a3;cases a3 with
     |false=>rfl
     |true=>
      simp only[ZAA,ZAD];rw[qRZ];generalize saidB st nw=a4;cases a4 with
      |false=>rfl
      |true=>
       simp only[ZAA,ZAO,ZAD];by_cases o1:off<0
       ·rw[ZAJ o1,ZAE (show¬(0<=off/\off<=2147483648) by omega)];rfl
       by_cases o2:off>2147483648
       ·rw[ZAE o1,ZAJ o2,ZAE (show¬(0<=off/\off<=2147483648) by omega)];rfl
       rw[ZAE o1,ZAE o2,ZAJ (show 0<=off/\off<=2147483648 by omega)];have eb:decide (((bs.length:Nat):Int)<=4096)=decide (bs.length<=4096):=by
        by_cases h:bs.length<=4096
        ·rw[ZAJ h,dTo]
        ·rw[ZAE h,dFo]
       have e0:(((bs.length:Nat):Int)==0)=decide (bs.length=0):=by
        by_cases h:bs.length=0
        ·rw[ZAJ h,h];rfl
        ·rw[ZAE h,ZAW.2 (by omega)]
       by_cases n1:n<0
       ·rw[ZAJ n1,ZAE (show¬(0<=n/\n<=sN) by omega)];cases so<;>cases(off==0)<;>rfl
       by_cases n2:n>sN
       ·rw[ZAE n1,ZAJ n2,ZAE (show¬(0<=n/\n<=sN) by omega)];cases so<;>cases(off==0)<;>rfl
       rw[ZAE n1,ZAE n2,ZAJ (show 0<=n/\n<=sN by omega),<-e0,<-eb];cases so<;>cases(off==0)<;>simp only[ZAK,ZAD,ZAO,ZAk,ZAA,ZBQ,Bool.or_false,Bool.or_true,Bool.false_and,e0,eb]<;>
        (generalize decide (bs.length=0)=x0)<;>(generalize decide (bs.length<=4096)=x1)<;>cases x0<;>cases sb<;>cases x1<;>rfl
abbrev Byt:=List UInt8
abbrev Mod:=Tree×List Byt
structure ModelOK (m:Mod):Prop where
 t:TreeOK m.1
 n:m.2.length=m.1.1.length
 p:∀(i:Nat) x,m.1.1[i]? =some x->x.2.2.2.2.2.1=[]
 s:∀(i:Nat) x b,m.1.1[i]? =some x->m.2[i]? =some b->((b.length:Nat):Int)=x.2.2.2.2.1
theorem dZZ{t}(h:TreeOK t){i:Nat}{x}(hx:t.1[i]? =some x):0<=x.2.2.2.2.1/\x.2.2.2.2.1<=65536/\(x.2.2.1=false->x.2.2.2.2.1=0)/\(x.2.2.2.1=true->x.2.2.2.2.1=0):=by
 have o:=h.r.ino i x hx;cases hu:x.2.2.1 with
 |false=>have:=o.bare hu;omega
 |true=>
  cases hd:x.2.2.2.1 with
  |true=>have:=o.dir hu hd;omega
  |false=>have:=o.file hu hd;simp_all
theorem ModelOK.at{m}(h:ModelOK m){i:Nat}{x}(hx:m.1.1[i]? =some x):∃b,m.2[i]? =some b/\((b.length:Nat):Int)=x.2.2.2.2.1/\b.length<=65536:=by
 have aa:=(ZAB.1 hx).1;obtain⟨b,hb⟩:∃b,m.2[i]? =some b:=⟨_,ZAC (by rw[h.n];exact aa)⟩;have h1:=h.s i x b hx hb;have h2:=dZZ h.t hx
 grind
theorem ModelOK.byt{m}(h:ModelOK m){i:Nat}{b}(hb:m.2[i]? =some b):b.length<=65536:=by
 have aa:=(ZAB.1 hb).1;obtain⟨x,hx⟩:∃x,m.1.1[i]? =some x:=⟨_,ZAC (by rw[<-h.n];exact aa)⟩
 let⟨b',ab,_,h2⟩:=h.at hx<;>grind
theorem ModelOK.len{m}(h:ModelOK m):1<=m.1.1.length/\m.1.1.length<=500:=h.t.r.len
theorem ModelOK.fit{m}(h:ModelOK m):Fit m.1.1:=h.t.r.fit
theorem a3Z{m}(h:ModelOK m):mRig fuel m=some true:=by
 unfold mRig;have hl:=h.len;rw[b5Z h.t];simp[ZAA];rw[h.n,ZAb];simp[ZAD];have loop:mRig_l0_it fuel (false,(m.1.1,(m.1.2,m.2))) (0,(m.1.1,(m.1.2,m.2)))=some (.inl ()):=by
  unfold mRig_l0_it;refine aoZ (λk=>((k:Int),(m.1.1,(m.1.2,m.2)))) m.1.1.length (by omega) (λk hk=> ?_) ?_
  ·unfold mRig_l0;obtain⟨x,hx⟩:∃x,m.1.1[k]? =some x:=⟨_,ZAC hk⟩
   let⟨b,hb,hs,_⟩:=h.at hx
   simp only[aFZ hk];rw[adZ hk];simp[hx];rw[h.p k x hx];simp[ZAD];rw[adZ (by rw[h.n];exact hk)];simp[hb];rw[hs,ZAb,w6]
   rfl
  ·unfold mRig_l0;simp[ZAD]
 simp_all
theorem d2Z{t:Tree}(h:Fit t.1):mcop fuel t=some (t.2,t.1):=by
 unfold mcop;rw[cPZ h.n];have loop:mcop_l0_it fuel t.1 (0,(t.2,(t.1,0)))=some (t.2,(t.1,0)):=by
  refine aoZ (λk=>((k:Int),(t.2,(t.1,0)))) t.1.length (by have:=h.n;omega) (λk hk=> ?_) ?_
  ·unfold mcop_l0 Pb Pc Pd Pe PE;obtain⟨n,hg⟩:∃n,t.1[k]? =some n:=⟨_,ZAC hk⟩;have aa:=h.at hg;have hs:=dKZ hg;simp only[aFZ hk];rw[adZ hk];simp only[ZAA,hg];rw[cIZ aa.1,d3Z aa.2];show((idx? ((k:Nat):Int) (t.1.set k n).length).bind λq3=>((t.1.set k n)[q3]?.bind _))=_;rw[hs,adZ hk,ZAA,hg,w64 (by have:=h.n;omega)];show some (Sum.inl (_,(t.2,(t.1.set k n,0))))=_;rw[hs]
   rfl
  ·unfold mcop_l0 Pb Pc Pd Pe PE;simp[ZAD]
 simp_all
theorem i6Z{l:Byt}(h:l.length<=100000):sClo4 fuel l=some l:=by
 unfold sClo4;rw[cGZ]
 ·simp;rw[aeZ (by simp[atZ];omega)]
 ·intro h0;obtain rfl:=ZAX h0
  rfl
theorem kRZ{l:List Byt}(h:l.length<=100000):sClo8 fuel l=some l:=by
 unfold sClo8;rw[cGZ]
 ·simp;rw[aeZ (by simp[atZ];omega)]
 ·intro h0;obtain rfl:=ZAX h0
  rfl
abbrev Rep:=(Int×Int)×Bool×Int×Byt×List Ent×Bool×Int
abbrev DoR:=Int×Mod×Rep
def rep0:Rep:=((0,0),false,0,[],[],false,0)
def stO(q:DoR)(c:CallT):Int×(List Ino×(Int×(List Byt×(Int×(Int×(Int×(Int×(Int×(Byt×(Int×(Int×(Byt×(Int×(Int×(Byt×qT89))))))))))))))):=(q.1,(q.2.1.1.1,(q.2.1.1.2,(q.2.1.2,(c.1,(c.2.1,(((c.2.2.1.toNat:Nat):Int),(c.2.2.2.1.1,(c.2.2.2.1.2,(c.2.2.2.2.1,(c.2.2.2.2.2.1.1,(c.2.2.2.2.2.1.2,(c.2.2.2.2.2.2.1,(c.2.2.2.2.2.2.2.1,(c.2.2.2.2.2.2.2.2.1,(c.2.2.2.2.2.2.2.2.2,(c.1,(c.2.1,(0,(q.2.2.1.1,(q.2.2.1.2,(q.2.2.2.1,(q.2.2.2.2.1,(q.2.2.2.2.2.2.2.1,q.2.2.2.2.2.2.2.2))))))))))))))))))))))))
def stB(q:DoR)(c:CallT):Int×(List Ino×(Int×(List Byt×(Int×(Int×(Int×(Int×(Int×(Byt×(Int×(Int×(Byt×(Int×(Int×(Byt×(Int×(Int×(Int×(Int×(Int×(Bool×(Int×(Byt×(Bool×Int)))))))))))))))))))))))):=(q.1,(q.2.1.1.1,(q.2.1.1.2,(q.2.1.2,(c.1,(c.2.1,(((c.2.2.1.toNat:Nat):Int),(c.2.2.2.1.1,(c.2.2.2.1.2,(c.2.2.2.2.1,(c.2.2.2.2.2.1.1,(c.2.2.2.2.2.1.2,(c.2.2.2.2.2.2.1,(c.2.2.2.2.2.2.2.1,(c.2.2.2.2.2.2.2.2.1,(c.2.2.2.2.2.2.2.2.2,(c.1,(c.2.1,(0,(q.2.2.1.1,(q.2.2.1.2,(q.2.2.2.1,(q.2.2.2.2.1,(q.2.2.2.2.2.1,(q.2.2.2.2.2.2.2.1,q.2.2.2.2.2.2.2.2)))))))))))))))))))))))))
def stE(q:DoR)(c:CallT):Int×(List Ino×(Int×(List Byt×(Int×(Int×(Int×(Int×(Int×(Byt×(Int×(Int×(Byt×(Int×(Int×(Byt×(Int×(Int×(Int×(Int×(Int×(Bool×(Int×(List Ent×(Bool×Int)))))))))))))))))))))))):=(q.1,(q.2.1.1.1,(q.2.1.1.2,(q.2.1.2,(c.1,(c.2.1,(((c.2.2.1.toNat:Nat):Int),(c.2.2.2.1.1,(c.2.2.2.1.2,(c.2.2.2.2.1,(c.2.2.2.2.2.1.1,(c.2.2.2.2.2.1.2,(c.2.2.2.2.2.2.1,(c.2.2.2.2.2.2.2.1,(c.2.2.2.2.2.2.2.2.1,(c.2.2.2.2.2.2.2.2.2,(c.1,(c.2.1,(0,(q.2.2.1.1,(q.2.2.1.2,(q.2.2.2.1,(q.2.2.2.2.1,(q.2.2.2.2.2.2.1,(q.2.2.2.2.2.2.2.1,q.2.2.2.2.2.2.2.2)))))))))))))))))))))))))
def lookF(t:Tree)(d:Int×Int)(s:Byt):Int×(Int×Int):=
 if dirE t.1 d=0 then
  if namedB s=true then
   match t.1[(d.1-1).toNat]? with
   |none=>(170,(0,0))
   |some n=>match findE n.2.2.2.2.2.2.2 s with
    |none=>(171,(0,0))
    |some id=>match t.1[(id-1).toNat]? with
     |none=>(170,(0,0))
     |some x=>(0,(id,x.2.1))
  else(176,(0,0))
 else(dirE t.1 d,(0,0))
theorem tOZ{t}(h:TreeOK t)(d)(s:Byt):tLoo fuel t d s=some ((lookF t d s).2.1,((lookF t d s).2.2,(lookF t d s).1))/\((lookF t d s).1=0->1<=(lookF t d s).2.1/\(lookF t d s).2.1<=t.1.length/\∃x,t.1[((lookF t d s).2.1-1).toNat]? =some x):=by
 unfold lookF;rcases bwZ t.1 d with⟨n,hn⟩|⟨hb,_⟩
 ·rw[ZAN (cnZ hn),hn.1.2.1];simp only;cases hs:namedB s with
  |false=>exact⟨l5Z h hn hs,λh0=>by cases h0⟩
  |true=>
   rw[ZAN rfl];cases hh:hasN n.2.2.2.2.2.2.2 s with
   |false=>rw[d9Z hh];exact⟨lqZ h hn hs hh,λh0=>by cases h0⟩
   |true=>
    let⟨id,he⟩:=aCZ.1 hh
    let⟨_,q1,q2,x,hx,hu,_⟩:=h.ent hn he
    rw[d0Z (h.srt hn.1) he];simp only[hx];exact⟨lpZ h hn he hx,λ_=>⟨by omega,q2,x,rfl⟩⟩
 ·rw[ZAM hb];exact⟨omZ h s hb,λh0=>absurd h0 hb⟩
def getF(l:List Ino)(h:Int×Int):Option Ino:=
 if 1<=h.1 then match l[(h.1-1).toNat]? with
  |some n=>if n.2.2.1=true/\n.2.1=h.2 then some n else none
  |none=>none
 else none
theorem cLZ{l}{h}{n}:getF l h=some n↔IsH l h n:=by
 unfold getF IsH;by_cases h1:1<=h.1
 ·rw[ZAN h1];cases hx:l[(h.1-1).toNat]? with
  |none=>simp
  |some x=>
   simp only;by_cases hc:x.2.2.1=true/\x.2.1=h.2
   ·rw[ZAN hc];constructor
    ·rintro⟨⟩;exact⟨h1,rfl,hc.1,hc.2⟩
    ·rintro⟨_,⟨⟩,_,_⟩;rfl
   ·rw[ZAM hc];constructor
    ·intro h;cases h
    ·rintro⟨_,⟨⟩,h2,h3⟩;exact absurd ⟨h2,h3⟩ hc
 grind
theorem ktZ{l}{h}(hn:getF l h=none):¬∃n,IsH l h n:=λ⟨n,h1⟩=>by rw[cLZ.2 h1] at hn;grind
theorem rmZ{t}(ht:TreeOK t){h}{n}(hn:IsH t.1 h n):n.1=h.1/\1<=h.1/\(h.1-1).toNat<t.1.length:=by
 have h1:=ht.r.id hn.2.1;have h2:=hn.1;exact⟨by omega,h2,(ZAB.1 hn.2.1).1⟩
def listF(t:Tree)(d:Int×Int)(s:Byt)(most:Int):Int×Bool×List Ent:=
 if dirE t.1 d=0 then
  if most<0\/most>4096 then(2,false,[])
  else match t.1[(d.1-1).toNat]? with
   |none=>(170,false,[])
   |some n=>(0,decide ((behind n.2.2.2.2.2.2.2 s).length>most.toNat),(behind n.2.2.2.2.2.2.2 s).take most.toNat)
 else(dirE t.1 d,false,[])
theorem uGZ{t}(h:TreeOK t)(d)(s:Byt)(most):tree_List fuel t d s most=some ((listF t d s most).2.1,((listF t d s most).1,(listF t d s most).2.2)):=by
 unfold listF;rcases bwZ t.1 d with⟨n,hn⟩|⟨hb,_⟩
 ·rw[ZAN (cnZ hn)];by_cases hm:most<0\/most>4096
  ·grind[sKZ]
  ·rw[ZAM hm,hn.1.2.1];have:=pJZ h s (most:=most.toNat) hn (by omega);rw[show((most.toNat:Nat):Int)=most by omega] at this;exact this
 ·rw[ZAM hb];exact sXZ h s most hb
def lookA(m:Mod)(c:CallT):DoR:=
 if(lookF m.1 c.2.2.2.1 c.2.2.2.2.1).1=0 then match m.1.1[((lookF m.1 c.2.2.2.1 c.2.2.2.2.1).2.1-1).toNat]? with
  |some x=>(0,m,((lookF m.1 c.2.2.2.1 c.2.2.2.2.1).2,x.2.2.2.1,x.2.2.2.2.1,[],[],false,0))
  |none=>(170,m,rep0)
 else((lookF m.1 c.2.2.2.1 c.2.2.2.2.1).1,m,rep0)
def makeA(m:Mod)(c:CallT):DoR:=
 if(makeF m.1 c.2.2.2.1 c.2.2.2.2.1 (((c.2.2.1.toNat:Nat):Int)==3)).2.2=0 then
  (0,((makeF m.1 c.2.2.2.1 c.2.2.2.2.1 (((c.2.2.1.toNat:Nat):Int)==3)).1,m.2),((makeF m.1 c.2.2.2.1 c.2.2.2.2.1 (((c.2.2.1.toNat:Nat):Int)==3)).2.1,(((c.2.2.1.toNat:Nat):Int)==3),0,[],[],false,0))
 else((makeF m.1 c.2.2.2.1 c.2.2.2.2.1 (((c.2.2.1.toNat:Nat):Int)==3)).2.2,m,rep0)
def removeA(m:Mod)(c:CallT):DoR:=
 if(removeF m.1 c.2.2.2.1 c.2.2.2.2.1 (((c.2.2.1.toNat:Nat):Int)==8)).2.2=0 then
  (0,((removeF m.1 c.2.2.2.1 c.2.2.2.2.1 (((c.2.2.1.toNat:Nat):Int)==8)).1,m.2),rep0)
 else((removeF m.1 c.2.2.2.1 c.2.2.2.2.1 (((c.2.2.1.toNat:Nat):Int)==8)).2.2,m,rep0)
def renameA(m:Mod)(c:CallT):DoR:=
 if(renameF m.1 c.2.2.2.1 c.2.2.2.2.1 c.2.2.2.2.2.1 c.2.2.2.2.2.2.1).2.2=0 then
  (0,((renameF m.1 c.2.2.2.1 c.2.2.2.2.1 c.2.2.2.2.2.1 c.2.2.2.2.2.2.1).1,m.2),rep0)
 else((renameF m.1 c.2.2.2.1 c.2.2.2.2.1 c.2.2.2.2.2.1 c.2.2.2.2.2.2.1).2.2,m,rep0)
def listA(m:Mod)(c:CallT):DoR:=
 ((listF m.1 c.2.2.2.1 c.2.2.2.2.1 c.2.2.2.2.2.2.2.2.1).1,m,((0,0),false,0,[],(listF m.1 c.2.2.2.1 c.2.2.2.2.1 c.2.2.2.2.2.2.2.2.1).2.2,(listF m.1 c.2.2.2.1 c.2.2.2.2.1 c.2.2.2.2.2.2.2.2.1).2.1,0))
def getA(m:Mod)(c:CallT):DoR:=
 match getF m.1.1 c.2.2.2.1 with
 |some x=>(0,m,(c.2.2.2.1,x.2.2.2.1,x.2.2.2.2.1,[],[],false,0))
 |none=>(170,m,rep0)
def usedN(l:List Ino):Nat:=l.countP (·.2.2.1)
def statA(m:Mod):DoR:=(0,m,((0,0),false,0,[],[],false,500-((usedN m.1.1:Nat):Int)))
theorem s9Z{m}(h:ModelOK m)(c):mdoeloo fuel m.1.1 m.1.2 m.2 c.1 c.2.1 ((c.2.2.1.toNat:Nat):Int) c.2.2.2.1.1 c.2.2.2.1.2 c.2.2.2.2.1 c.2.2.2.2.2.1.1 c.2.2.2.2.2.1.2 c.2.2.2.2.2.2.1 c.2.2.2.2.2.2.2.1 c.2.2.2.2.2.2.2.2.1 c.2.2.2.2.2.2.2.2.2 c.1 c.2.1 0 0 0 false 0 false 0=some (stO (lookA m c) c):=by
 unfold mdoeloo lookA
 let⟨h1,h2⟩:=tOZ h.t c.2.2.2.1 c.2.2.2.2.1
 rw[h1,ZAA];by_cases h0:(lookF m.1 c.2.2.2.1 c.2.2.2.2.1).1=0
 ·let⟨q1,q2,x,hx⟩:=h2 h0
  have hl:=h.len;rw[h0];rw[w6,azZ (by omega) (by omega),ZAA,hx]
  rfl
 ·rw[ZAM h0,ZAW.2 h0]
  rfl
theorem tAZ{m}(h:ModelOK m)(c):mdoemak fuel m.1.1 m.1.2 m.2 c.1 c.2.1 ((c.2.2.1.toNat:Nat):Int) c.2.2.2.1.1 c.2.2.2.1.2 c.2.2.2.2.1 c.2.2.2.2.2.1.1 c.2.2.2.2.2.1.2 c.2.2.2.2.2.2.1 c.2.2.2.2.2.2.2.1 c.2.2.2.2.2.2.2.2.1 c.2.2.2.2.2.2.2.2.2 c.1 c.2.1 0 0 0 false 0 false 0=some (stO (makeA m c) c):=by
 unfold mdoemak makeA;rw[(iVZ h.t c.2.2.2.1 c.2.2.2.2.1 _).1,ZAA];by_cases h0:(makeF m.1 c.2.2.2.1 c.2.2.2.2.1 (((c.2.2.1.toNat:Nat):Int)==3)).2.2=0
 ·rw[h0];rfl
 ·rw[ZAM h0,ZAW.2 h0];rfl
theorem mZZ{m}(h:ModelOK m)(c):mdoerem fuel m.1.1 m.1.2 m.2 c.1 c.2.1 ((c.2.2.1.toNat:Nat):Int) c.2.2.2.1.1 c.2.2.2.1.2 c.2.2.2.2.1 c.2.2.2.2.2.1.1 c.2.2.2.2.2.1.2 c.2.2.2.2.2.2.1 c.2.2.2.2.2.2.2.1 c.2.2.2.2.2.2.2.2.1 c.2.2.2.2.2.2.2.2.2 c.1 c.2.1 0 0 0 false 0 false 0=some (stO (removeA m c) c):=by
 unfold mdoerem removeA;rw[(kVZ h.t c.2.2.2.1 c.2.2.2.2.1 _).1,ZAA];by_cases h0:(removeF m.1 c.2.2.2.1 c.2.2.2.2.1 (((c.2.2.1.toNat:Nat):Int)==8)).2.2=0
 ·rw[h0];rfl
 ·rw[ZAM h0,ZAW.2 h0];rfl
theorem taZ{m}(h:ModelOK m)(c):mdoeren fuel m.1.1 m.1.2 m.2 c.1 c.2.1 ((c.2.2.1.toNat:Nat):Int) c.2.2.2.1.1 c.2.2.2.1.2 c.2.2.2.2.1 c.2.2.2.2.2.1.1 c.2.2.2.2.2.1.2 c.2.2.2.2.2.2.1 c.2.2.2.2.2.2.2.1 c.2.2.2.2.2.2.2.2.1 c.2.2.2.2.2.2.2.2.2 c.1 c.2.1 0 0 0 false 0 false 0=some (stO (renameA m c) c):=by
 unfold mdoeren renameA;rw[(k9Z h.t _ _ _ _).1,ZAA];by_cases h0:(renameF m.1 c.2.2.2.1 c.2.2.2.2.1 c.2.2.2.2.2.1 c.2.2.2.2.2.2.1).2.2=0
 ·rw[h0];rfl
 ·rw[ZAM h0,ZAW.2 h0];rfl
theorem v5Z{m}(h:ModelOK m)(c):mdoelis fuel m.1.1 m.1.2 m.2 c.1 c.2.1 ((c.2.2.1.toNat:Nat):Int) c.2.2.2.1.1 c.2.2.2.1.2 c.2.2.2.2.1 c.2.2.2.2.2.1.1 c.2.2.2.2.2.1.2 c.2.2.2.2.2.2.1 c.2.2.2.2.2.2.2.1 c.2.2.2.2.2.2.2.2.1 c.2.2.2.2.2.2.2.2.2 c.1 c.2.1 0 0 0 false 0 false 0=some (stE (listA m c) c):=by
 unfold mdoelis listA;rw[uGZ h.t]
 rfl
theorem vQZ{m}(h:ModelOK m)(c):mdoeget fuel m.1.1 m.1.2 m.2 c.1 c.2.1 ((c.2.2.1.toNat:Nat):Int) c.2.2.2.1.1 c.2.2.2.1.2 c.2.2.2.2.1 c.2.2.2.2.2.1.1 c.2.2.2.2.2.1.2 c.2.2.2.2.2.2.1 c.2.2.2.2.2.2.2.1 c.2.2.2.2.2.2.2.2.1 c.2.2.2.2.2.2.2.2.2 c.1 c.2.1 0 0 0 false 0 false 0=some (stO (getA m c) c):=by
 unfold mdoeget getA;cases hg:getF m.1.1 c.2.2.2.1 with
 |none=>rw[jeZ h.fit (ktZ hg)];rfl
 |some x=>rw[f8Z h.fit (cLZ.1 hg)];rfl
def fileF(m:Mod)(h:Int×Int):Int×Byt×Int:=
 match getF m.1.1 h with
 |none=>(0,[],170)
 |some x=>bif x.2.2.2.1 then(0,[],174) else match m.2[(h.1-1).toNat]? with
  |some b=>(h.1,b,0)
  |none=>(0,[],170)
abbrev stF(q:Int×Byt×Int)(m:Mod)(c:CallT):Int×(Byt×(Int×(List Ino×(Int×(List Byt×(Int×(Int×(Int×(Int×(Int×(Byt×(Int×(Int×(Byt×(Int×(Int×(Byt×qT89))))))))))))))))):=(q.1,(q.2.1,(q.2.2,(m.1.1,(m.1.2,(m.2,(c.1,(c.2.1,(((c.2.2.1.toNat:Nat):Int),(c.2.2.2.1.1,(c.2.2.2.1.2,(c.2.2.2.2.1,(c.2.2.2.2.2.1.1,(c.2.2.2.2.2.1.2,(c.2.2.2.2.2.2.1,(c.2.2.2.2.2.2.2.1,(c.2.2.2.2.2.2.2.2.1,(c.2.2.2.2.2.2.2.2.2,(c.1,(c.2.1,(0,(0,(0,(false,(0,(false,0))))))))))))))))))))))))))
def IsF(m:Mod)(h:Int×Int)(x:Ino)(b:Byt):Prop:=IsH m.1.1 h x/\x.2.2.2.1=false/\m.2[(h.1-1).toNat]? =some b
theorem d1Z{m}{h}(h0:(fileF m h).2.2=0):∃x,IsF m h x (fileF m h).2.1/\(fileF m h).1=h.1:=by
 unfold fileF at h0⊢;cases hg:getF m.1.1 h with
 |none=>simp_all
 |some x=>
  rw[hg] at h0;simp only at h0⊢;cases hd:x.2.2.2.1 with
  |true=>rw[hd] at h0;cases h0
  |false=>
   rw[hd] at h0;cases hb:m.2[(h.1-1).toNat]? with
   |none=>rw[hb] at h0;cases h0
   |some b=>exact⟨x,⟨cLZ.1 hg,hd,hb⟩,rfl⟩
theorem p1Z{m}(h:ModelOK m)(c):mdoefil fuel m.1.1 m.1.2 m.2 c.1 c.2.1 ((c.2.2.1.toNat:Nat):Int) c.2.2.2.1.1 c.2.2.2.1.2 c.2.2.2.2.1 c.2.2.2.2.2.1.1 c.2.2.2.2.2.1.2 c.2.2.2.2.2.2.1 c.2.2.2.2.2.2.2.1 c.2.2.2.2.2.2.2.2.1 c.2.2.2.2.2.2.2.2.2 c.1 c.2.1 0 0 0 false 0 false 0=some (stF (fileF m c.2.2.2.1) m c):=by
 unfold mdoefil fileF;cases hg:getF m.1.1 c.2.2.2.1 with
 |none=>rw[jeZ h.fit (ktZ hg)];rfl
 |some x=>
  have hx:=cLZ.1 hg
  let⟨q1,q2,q3⟩:=rmZ h.t hx
  rw[f8Z h.fit hx,ZAA];simp only[ZAb,ZAO];cases hd:x.2.2.2.1 with
  |true=>rfl
  |false=>
   simp only[ZAD];have hl:=h.len
   let⟨b,hb,_⟩:=h.at hx.2.1
   rw[q1,w6,azZ (by omega) (by rw[h.n];omega),ZAA,hb,ZAA]
def readL(b:Byt)(off n:Int):Byt:=(b.take (max (min off.toNat b.length) (min (off+n).toNat b.length))).drop (min off.toNat b.length)
def readA(m:Mod)(c:CallT):DoR:=
 if(fileF m c.2.2.2.1).2.2=0 then
  (0,m,((0,0),false,(((fileF m c.2.2.2.1).2.1.length:Nat):Int),readL (fileF m c.2.2.2.1).2.1 c.2.2.2.2.2.2.2.1 c.2.2.2.2.2.2.2.2.1,[],decide (c.2.2.2.2.2.2.2.1+c.2.2.2.2.2.2.2.2.1<(((fileF m c.2.2.2.1).2.1.length:Nat):Int)),0))
 else((fileF m c.2.2.2.1).2.2,m,rep0)
theorem vHZ{m}(h:ModelOK m)(c)(ho:0<=c.2.2.2.2.2.2.2.1/\c.2.2.2.2.2.2.2.1<=2147483648)(hn:0<=c.2.2.2.2.2.2.2.2.1/\c.2.2.2.2.2.2.2.2.1<=2147483648):
 mdoerea fuel m.1.1 m.1.2 m.2 c.1 c.2.1 ((c.2.2.1.toNat:Nat):Int) c.2.2.2.1.1 c.2.2.2.1.2 c.2.2.2.2.1 c.2.2.2.2.2.1.1 c.2.2.2.2.2.1.2 c.2.2.2.2.2.2.1 c.2.2.2.2.2.2.2.1 c.2.2.2.2.2.2.2.2.1 c.2.2.2.2.2.2.2.2.2 c.1 c.2.1 0 0 0 false 0 false 0=some (stB (readA m c) c):=by
 unfold mdoerea readA Pa Pb Pc Pd Pe Pf Pg Ph Pi Pj Pk Pl Pm Pn Po Pp Pq Pr Ps Pt Pu Pv Pw Px PX PY;rw[p1Z h c,ZAA];by_cases h0:(fileF m c.2.2.2.1).2.2=0
 ·rw[ZAN h0]
  let⟨x,hx,aa⟩:=d1Z h0
  have ab:=h.byt hx.2.2;simp;rw[h0];simp[ZAD];rw[w6];rw[show(if(((fileF m c.2.2.2.1).2.1.length:Nat):Int)<c.2.2.2.2.2.2.2.1+c.2.2.2.2.2.2.2.2.1 then(((fileF m c.2.2.2.1).2.1.length:Nat):Int) else c.2.2.2.2.2.2.2.1+c.2.2.2.2.2.2.2.2.1)=((min (c.2.2.2.2.2.2.2.1+c.2.2.2.2.2.2.2.2.1).toNat (fileF m c.2.2.2.1).2.1.length:Nat):Int) from by split<;>omega,
   show(if(((fileF m c.2.2.2.1).2.1.length:Nat):Int)<c.2.2.2.2.2.2.2.1 then(((fileF m c.2.2.2.1).2.1.length:Nat):Int) else c.2.2.2.2.2.2.2.1)=((min c.2.2.2.2.2.2.2.1.toNat (fileF m c.2.2.2.1).2.1.length:Nat):Int) from by split<;>omega]
  rw[show(if((min (c.2.2.2.2.2.2.2.1+c.2.2.2.2.2.2.2.2.1).toNat (fileF m c.2.2.2.1).2.1.length:Nat):Int)>((min c.2.2.2.2.2.2.2.1.toNat (fileF m c.2.2.2.1).2.1.length:Nat):Int) then((min (c.2.2.2.2.2.2.2.1+c.2.2.2.2.2.2.2.2.1).toNat (fileF m c.2.2.2.1).2.1.length:Nat):Int) else((min c.2.2.2.2.2.2.2.1.toNat (fileF m c.2.2.2.1).2.1.length:Nat):Int))=((max (min c.2.2.2.2.2.2.2.1.toNat (fileF m c.2.2.2.1).2.1.length) (min (c.2.2.2.2.2.2.2.1+c.2.2.2.2.2.2.2.2.1).toNat (fileF m c.2.2.2.1).2.1.length):Nat):Int) from by split<;>omega];rw[aKZ (by omega),ZAA,aKZ (by omega),ZAA,i6Z (by rw[ZAu,ZAS];omega)]
  rfl
 ·rw[ZAM h0];simp[ZAW.2 h0,ZAk,ZAK]
  rfl
def sizedL(b:Byt)(n:Nat):Byt:=b.take n++List.replicate (n-b.length) 0
theorem bqZ(b)(n):(sizedL b n).length=n:=by grind[sizedL]
theorem qoZ(b:Byt)(n):splice (List.replicate n 0) 0 (List.take (List.replicate (α:=UInt8) n 0).length b)=sizedL b n:=by
 unfold splice sizedL
 grind
def setSize(l:List Ino)(h:Int×Int)(n:Int):List Ino:=
 match l[(h.1-1).toNat]? with
 |some x=>l.set (h.1-1).toNat (x.1,x.2.1,x.2.2.1,x.2.2.2.1,n,x.2.2.2.2.2)
 |none=>l
def putB(m:Mod)(h:Int×Int)(b:Byt):Mod:=((setSize m.1.1 h ((b.length:Nat):Int),m.1.2),m.2.set (h.1-1).toNat b)
def sizeA(m:Mod)(c:CallT):DoR:=
 if(fileF m c.2.2.2.1).2.2=0 then
  if c.2.2.2.2.2.2.2.2.1>65536 then(177,m,rep0)
  else(0,putB m c.2.2.2.1 (sizedL (fileF m c.2.2.2.1).2.1 c.2.2.2.2.2.2.2.2.1.toNat),(c.2.2.2.1,false,c.2.2.2.2.2.2.2.2.1,[],[],false,0))
 else((fileF m c.2.2.2.1).2.2,m,rep0)
theorem vzZ{m}(h:ModelOK m)(c)(hn:0<=c.2.2.2.2.2.2.2.2.1):
 mdoesiz fuel m.1.1 m.1.2 m.2 c.1 c.2.1 ((c.2.2.1.toNat:Nat):Int) c.2.2.2.1.1 c.2.2.2.1.2 c.2.2.2.2.1 c.2.2.2.2.2.1.1 c.2.2.2.2.2.1.2 c.2.2.2.2.2.2.1 c.2.2.2.2.2.2.2.1 c.2.2.2.2.2.2.2.2.1 c.2.2.2.2.2.2.2.2.2 c.1 c.2.1 0 0 0 false 0 false 0=some (stO (sizeA m c) c):=by
 unfold mdoesiz sizeA Pb Pc Pd Pe Pf Pg Ph Pi Pj Pk Pl Pm Pn Po Pp Pq Pr Ps Pt Pu Pv Pw Px Py PW PY;rw[p1Z h c,ZAA];by_cases h0:(fileF m c.2.2.2.1).2.2=0
 ·rw[ZAN h0]
  let⟨x,hx,aa⟩:=d1Z h0
  have ab:=h.byt hx.2.2;have hl:=h.len
  let⟨q1,q2,q3⟩:=rmZ h.t hx.1
  simp only;rw[h0];simp[ZAD];by_cases hb:c.2.2.2.2.2.2.2.2.1>65536
  ·rw[ZAN hb,ZAJ hb];rfl
  ·rw[ZAM hb,ZAE hb];simp;unfold mdoesiz2;rw[aa,b0Z hn (by rw[atZ];omega),ZAA,b0Z hn (by omega),ZAA,nTo,w6,azZ (by omega) (by rw[h.n];omega),ZAA,hx.2.2,ZAA,
    kRZ (by rw[h.n];omega),ZAA,azZ (by omega) (by rw[h.n];omega),ZAA,hx.2.2,ZAA,d2Z h.fit,ZAA]
   simp only;rw[azZ (by omega) (by omega),ZAA,hx.1.2.1,ZAA,ZAA,qoZ];simp only[stO,putB,setSize,hx.1.2.1,bqZ];rw[show((c.2.2.2.2.2.2.2.2.1.toNat:Nat):Int)=c.2.2.2.2.2.2.2.2.1 by omega]
 ·rw[ZAM h0];simp only[stF,ZAW.2 h0,ZAk,ZAK]
  rfl
def writeN(b:Byt)(off:Int)(bs:Byt):Nat:=max b.length (if bs.length=0 then 0 else off.toNat+bs.length)
def writeL(b:Byt)(off:Int)(bs:Byt):Byt:=splice (sizedL b (writeN b off bs)) (min off.toNat (writeN b off bs)) bs
def writeA(m:Mod)(c:CallT):DoR:=
 if(fileF m c.2.2.2.1).2.2=0 then
  if c.2.2.2.2.2.2.2.1+((c.2.2.2.2.2.2.2.2.2.length:Nat):Int)>65536 then(177,m,rep0)
  else(0,putB m c.2.2.2.1 (writeL (fileF m c.2.2.2.1).2.1 c.2.2.2.2.2.2.2.1 c.2.2.2.2.2.2.2.2.2),(c.2.2.2.1,false,((writeN (fileF m c.2.2.2.1).2.1 c.2.2.2.2.2.2.2.1 c.2.2.2.2.2.2.2.2.2:Nat):Int),[],[],false,0))
 else((fileF m c.2.2.2.1).2.2,m,rep0)
theorem dGZ(b)(off)(bs):(writeL b off bs).length=writeN b off bs:=by
 unfold writeL splice;rw[ZAd,ZAd,ZAS,ZAu,bqZ];unfold writeN
 grind
theorem hPZ(g)(hg:∀b,g (.inl b)=some b)(y:Byt⊕Option (Nat×(Nat×Nat)))(v)(hy:g y=some v):∀(l:List Byt) (i),i<l.length->unrefL g ((l.map Sum.inl).set i y)=some (l.set i v)
 |[],i,h=>by grind
 |a::l,0,_=>by
  have e:unrefL g (l.map Sum.inl)=some l:=by
   induction l with
   |nil=>rfl
   |cons x l ih=>simp[unrefL,hg,ih]
  simp_all[unrefL]
 |a::l,i+1,h=>by
  have:=hPZ g hg y v hy l i (by simpa using h);simp[unrefL,hg,this]
theorem owZ(l:Byt)(k):splice l k []=l:=by simp_all[splice]
theorem tcZ(aa bs:Byt)(q)(hq:q<=aa.length)(hb:bs=[]\/q+bs.length<=aa.length):
 ∃k,refPut [(1,aa)] (refSub (.inr (some (0,(0,aa.length)))) q (aa.length-q)) bs=some ([(1,splice aa q bs)],k):=by
 unfold refSub;by_cases h0:aa.length-q=0
 ·have ab:bs=[]:=by
   rcases hb with h|h
   ·exact h
   ·exact ZAX (by omega)
  subst ab;rw[h0,owZ];exact⟨0,rfl⟩
 ·rw[(ahZ h0)];unfold refPut;simp[ZAA];rw[aeZ (by simp;omega)];have:bs.take (aa.length-q)=bs:=ZAw (by
   rcases hb with h|h
   ·simp[h]
   ·omega)
  simp_all
theorem scZ(w:Byt)(n)(hn:n=w.length):unrefD [⟨3,.byte,List.map frz1 [(1,w)]⟩] (.ref 3 .byte) (.inr (some (0,(0,n))))=some w:=by
 subst hn;show memb [(2,w)] 0 0 w.length=some w;unfold memb
 simp_all[aUZ]
theorem tYZ{m}(h:ModelOK m)(c)(ho:0<=c.2.2.2.2.2.2.2.1/\c.2.2.2.2.2.2.2.1<=2147483648)(af:c.2.2.2.2.2.2.2.2.2.length<=4096):
 mdoewri fuel m.1.1 m.1.2 m.2 c.1 c.2.1 ((c.2.2.1.toNat:Nat):Int) c.2.2.2.1.1 c.2.2.2.1.2 c.2.2.2.2.1 c.2.2.2.2.2.1.1 c.2.2.2.2.2.1.2 c.2.2.2.2.2.2.1 c.2.2.2.2.2.2.2.1 c.2.2.2.2.2.2.2.2.1 c.2.2.2.2.2.2.2.2.2 c.1 c.2.1 0 0 0 false 0 false 0=some (stO (writeA m c) c):=by
 unfold mdoewri writeA Pa Pb Pc Pd Pe Pf Pg Ph Pi Pj Pk Pl Pm Pn Po Pp Pq Pr Ps Pt Pu Pv Pw Px PB PW PX;rw[p1Z h c,ZAA];by_cases h0:(fileF m c.2.2.2.1).2.2=0
 ·rw[ZAN h0];obtain⟨x,hx,ac⟩:=d1Z h0;have ad:=h.byt hx.2.2;have hl:=h.len;obtain⟨q1,q2,q3⟩:=rmZ h.t hx.1;simp only[stF];rw[h0,ac];simp only[ZAb,ZAO,ZAD];have aa:=hx.2.2;generalize (fileF m c.2.2.2.1).2.1=b at ad aa⊢;rw[w6];by_cases hb:c.2.2.2.2.2.2.2.1+((c.2.2.2.2.2.2.2.2.2.length:Nat):Int)>65536
  ·rw[ZAN hb,ZAJ hb];rfl
  ·rw[ZAM hb,ZAE hb];simp only[ZAD];have hN:writeN b c.2.2.2.2.2.2.2.1 c.2.2.2.2.2.2.2.2.2<=65536:=by unfold writeN;split<;>omega
   have key:∀(e),(if e>((b.length:Nat):Int) then e else((b.length:Nat):Int))=((writeN b c.2.2.2.2.2.2.2.1 c.2.2.2.2.2.2.2.2.2:Nat):Int)->
    ((mdoesizW fuel c.2.2.2.1.1 (if e>((b.length:Nat):Int) then e else((b.length:Nat):Int)) m.1.1 m.1.2 m.2 c.1 c.2.1 ((c.2.2.1.toNat:Nat):Int) c.2.2.2.1.1 c.2.2.2.1.2 c.2.2.2.2.1 c.2.2.2.2.2.1.1 c.2.2.2.2.2.1.2 c.2.2.2.2.2.2.1 c.2.2.2.2.2.2.2.1 c.2.2.2.2.2.2.2.2.1 c.2.2.2.2.2.2.2.2.2 c.1 c.2.1 0 0 0 false 0 false 0).bind λr1=>
      (upto? (if(((refLen (s:=.byte) r1.1):Nat):Int)<r1.2.2.2.2.2.2.2.2.2.2.2.1 then(((refLen (s:=.byte) r1.1):Nat):Int) else r1.2.2.2.2.2.2.2.2.2.2.2.1) (refLen (s:=.byte) r1.1)).bind λq=>
      (refPut r1.2.2.2.2.2.2.2.2.2.2.2.2.2.2.2.2.2.2.2.2.2.2.2.2.2 (refSub r1.1 q ((refLen (s:=.byte) r1.1)-q)) r1.2.2.2.2.2.2.2.2.2.2.2.2.2.1).bind λm=>
      (unrefL (unrefD [⟨3,.byte,(List.map frz1 m.1)⟩] (.ref 3 .byte)) r1.2.2.2.2.2.2.2.2.2.2.2.2.2.2.2.2.2.2.2.2.2.2.2.2.1).bind λl=>
      some ((0:Int),(r1.2.2.2.2.2.2.2.2.2.2.2.2.2.2.2.2.2.2.2.2.2.2.2.1,(r1.2.1,(l,(r1.2.2.1,(r1.2.2.2.1,(r1.2.2.2.2.1,(r1.2.2.2.2.2.1,(r1.2.2.2.2.2.2.1,(r1.2.2.2.2.2.2.2.1,(r1.2.2.2.2.2.2.2.2.1,(r1.2.2.2.2.2.2.2.2.2.1,(r1.2.2.2.2.2.2.2.2.2.2.1,(r1.2.2.2.2.2.2.2.2.2.2.2.1,(r1.2.2.2.2.2.2.2.2.2.2.2.2.1,(r1.2.2.2.2.2.2.2.2.2.2.2.2.2.1,(r1.2.2.2.2.2.2.2.2.2.2.2.2.2.2.1,(r1.2.2.2.2.2.2.2.2.2.2.2.2.2.2.2.1,(r1.2.2.2.2.2.2.2.2.2.2.2.2.2.2.2.2.1,(r1.2.2.2.2.2.2.2.2.2.2.2.2.2.2.2.2.2.1,(r1.2.2.2.2.2.2.2.2.2.2.2.2.2.2.2.2.2.2.1,(r1.2.2.2.2.2.2.2.2.2.2.2.2.2.2.2.2.2.2.2.1,(r1.2.2.2.2.2.2.2.2.2.2.2.2.2.2.2.2.2.2.2.2.1,(r1.2.2.2.2.2.2.2.2.2.2.2.2.2.2.2.2.2.2.2.2.2.1,r1.2.2.2.2.2.2.2.2.2.2.2.2.2.2.2.2.2.2.2.2.2.2.1)))))))))))))))))))))))))=
    some (stO (0,putB m c.2.2.2.1 (writeL b c.2.2.2.2.2.2.2.1 c.2.2.2.2.2.2.2.2.2),(c.2.2.2.1,false,((writeN b c.2.2.2.2.2.2.2.1 c.2.2.2.2.2.2.2.2.2:Nat):Int),[],[],false,0)) c):=by
    intro e he;rw[he];have ab:=(show(List.map (liftT (.ref 3 .byte)) m.2).length=m.2.length from ZAq _).trans h.n;have hget:(List.map (liftT (.ref 3 .byte)) m.2)[(c.2.2.2.1.1-1).toNat]? =some (.inl b):=((ZAY)).trans (congrArg (Option.map (liftT (.ref 3 .byte))) aa);unfold mdoesizW;rw[aKZ (by rw[atZ];omega),ZAA,aKZ (ZAL _),ZAA,nTo,w6,azZ (by omega) (by rw[h.n];omega),ZAA,aa,ZAA,
     kRZ (by rw[h.n];omega),ZAA,azZ (by omega) (by rw[ab];omega),ZAA,hget,ZAA,show((m.1.1,m.1.2):Tree)=m.1 from rfl,d2Z h.fit,ZAA]
    simp only;rw[azZ (by omega) (by omega),ZAA,hx.1.2.1,ZAA,ZAA,qoZ,bqZ];simp only[ZBX];have hR:refLen (s:=.byte) (.inr (some (0,(0,writeN b c.2.2.2.2.2.2.2.1 c.2.2.2.2.2.2.2.2.2))))=writeN b c.2.2.2.2.2.2.2.1 c.2.2.2.2.2.2.2.2.2:=rfl;rw[hR,show(if((writeN b c.2.2.2.2.2.2.2.1 c.2.2.2.2.2.2.2.2.2:Nat):Int)<c.2.2.2.2.2.2.2.1 then((writeN b c.2.2.2.2.2.2.2.1 c.2.2.2.2.2.2.2.2.2:Nat):Int) else c.2.2.2.2.2.2.2.1)=((min c.2.2.2.2.2.2.2.1.toNat (writeN b c.2.2.2.2.2.2.2.1 c.2.2.2.2.2.2.2.2.2):Nat):Int) from by split<;>omega,
     aKZ (by omega),ZAA]
    obtain⟨k,hk⟩:=tcZ (sizedL b (writeN b c.2.2.2.2.2.2.2.1 c.2.2.2.2.2.2.2.2.2)) c.2.2.2.2.2.2.2.2.2 (min c.2.2.2.2.2.2.2.1.toNat (writeN b c.2.2.2.2.2.2.2.1 c.2.2.2.2.2.2.2.2.2)) (by rw[bqZ];omega) (by
     by_cases hz:c.2.2.2.2.2.2.2.2.2.length=0
     ·exact .inl (ZAX hz)
     ·right;rw[bqZ];unfold writeN;rw[ZAM hz];omega)
    rw[bqZ] at hk;rw[hk,ZAA];have hu:=hPZ (unrefD [⟨3,.byte,List.map frz1 [(1,writeL b c.2.2.2.2.2.2.2.1 c.2.2.2.2.2.2.2.2.2)]⟩] (.ref 3 .byte)) (λ_=>rfl) (.inr (some (0,(0,writeN b c.2.2.2.2.2.2.2.1 c.2.2.2.2.2.2.2.2.2)))) _ (scZ _ _ (dGZ b _ _).symm) m.2 (c.2.2.2.1.1-1).toNat (by rw[h.n];omega);have ae:=hu;refine(congrArg (λo=>Option.bind o _) ae).trans ?_;have hset:putB m c.2.2.2.1 (writeL b c.2.2.2.2.2.2.2.1 c.2.2.2.2.2.2.2.2.2)=((m.1.1.set (c.2.2.2.1.1-1).toNat (x.1,x.2.1,x.2.2.1,x.2.2.2.1,((writeN b c.2.2.2.2.2.2.2.1 c.2.2.2.2.2.2.2.2.2:Nat):Int),x.2.2.2.2.2),m.1.2),m.2.set (c.2.2.2.1.1-1).toNat (writeL b c.2.2.2.2.2.2.2.1 c.2.2.2.2.2.2.2.2.2)):=by
     unfold putB setSize;rw[hx.1.2.1,dGZ]
    rw[hset]
    rfl
   by_cases hz:c.2.2.2.2.2.2.2.2.2.length=0
   ·rw[show(((c.2.2.2.2.2.2.2.2.2.length:Nat):Int)==0)=true from by rw[hz];rfl];simp only[ZAK,ZAA];exact key 0 (by unfold writeN;rw[ZAN hz];split<;>omega)
   ·rw[(ZAW.2 (by omega))];simp only[ZAD,ZAA];exact key _ (by unfold writeN;rw[ZAM hz];split<;>omega)
 ·rw[ZAM h0];simp only[stF,ZAW.2 h0,ZAk,ZAK]
  rfl
def statS(m:Mod)(c:CallT)(k:Nat):Int×(List Ino×(Int×(List Byt×(Int×(Int×(Int×(Int×(Int×(Byt×(Int×(Int×(Byt×(Int×(Int×(Byt×qT89))))))))))))))):=(λfr:Int=>((k:Int),(m.1.1,(m.1.2,(m.2,(c.1,(c.2.1,(((c.2.2.1.toNat:Nat):Int),(c.2.2.2.1.1,(c.2.2.2.1.2,(c.2.2.2.2.1,(c.2.2.2.2.2.1.1,(c.2.2.2.2.2.1.2,(c.2.2.2.2.2.2.1,(c.2.2.2.2.2.2.2.1,(c.2.2.2.2.2.2.2.2.1,(c.2.2.2.2.2.2.2.2.2,(c.1,(c.2.1,(0,(0,(0,(false,(0,(false,fr))))))))))))))))))))))))) (500-((usedN (m.1.1.take k):Nat):Int))
theorem vMZ{m}(h:ModelOK m)(c):mdoesta fuel m.1.1 m.1.2 m.2 c.1 c.2.1 ((c.2.2.1.toNat:Nat):Int) c.2.2.2.1.1 c.2.2.2.1.2 c.2.2.2.2.1 c.2.2.2.2.2.1.1 c.2.2.2.2.2.1.2 c.2.2.2.2.2.2.1 c.2.2.2.2.2.2.2.1 c.2.2.2.2.2.2.2.2.1 c.2.2.2.2.2.2.2.2.2 c.1 c.2.1 0 0 0 false 0 false 0=some (stO (statA m) c):=by
 unfold mdoesta;have hl:=h.len;have hS:∀k,usedN (m.1.1.take k)<=500:=λk=>by
  unfold usedN
  grind[List.countP_le_length,ZAS]
 have loop:mdoesta_l0_it fuel m.1.1 (statS m c 0)=some ((λfr=>(m.1.1,(m.1.2,(m.2,(c.1,(c.2.1,(((c.2.2.1.toNat:Nat):Int),(c.2.2.2.1.1,(c.2.2.2.1.2,(c.2.2.2.2.1,(c.2.2.2.2.2.1.1,(c.2.2.2.2.2.1.2,(c.2.2.2.2.2.2.1,(c.2.2.2.2.2.2.2.1,(c.2.2.2.2.2.2.2.2.1,(c.2.2.2.2.2.2.2.2.2,(c.1,(c.2.1,(0,(0,(0,(false,(0,(false,fr)))))))))))))))))))))))) (500-((usedN m.1.1:Nat):Int))):=by
  unfold mdoesta_l0_it;refine aoZ (statS m c) m.1.1.length (by omega) (λk hk=> ?_) ?_
  ·simp only[statS];unfold mdoesta_l0 Ph Pi Pj Pk Pl Pm Pn Po Pp Pq Pr Ps Pt Pu Pv PV;obtain⟨x,hx⟩:∃x,m.1.1[k]? =some x:=⟨_,ZAC hk⟩;have hk1:=hS k;simp only[aFZ hk];rw[adZ hk,ZAA,hx,ZAA];have ht:m.1.1.take (k+1)=m.1.1.take k++[x]:=by rw[List.take_add_one,hx];rfl
   have hu:usedN (m.1.1.take (k+1))=usedN (m.1.1.take k)+(if x.2.2.1=true then 1 else 0):=by
    rw[ht];unfold usedN;rw[List.countP_append];cases hb:x.2.2.1<;>simp[hb]
   cases hb:x.2.2.1 with
   |true=>
    rw[hb,ZAN rfl] at hu;simp only[ZAK];rw[w6,w6,show(500:Int)-((usedN (m.1.1.take k):Nat):Int)-1=500-((usedN (m.1.1.take (k+1)):Nat):Int) by omega]
    rfl
   |false=>
    rw[hb,ZAM (by simp)] at hu;simp only[ZAD,ZAA];rw[w6,hu]
    rfl
  ·simp only[statS];unfold mdoesta_l0 Ph Pi Pj Pk Pl Pm Pn Po Pp Pq Pr Ps Pt Pu Pv PV;simp only[aBZ (ZAy _),ZAD];rw[ZAv]
 refine(congrArg (λo=>Option.bind o _) loop).trans ?_
 rfl
def madeD(l:List Ino)(d:List Byt):List Byt:=l.mapIdx λi x=>bif x.2.2.1 then(d[i]?).getD [] else[]
theorem jBZ(l)(d):(madeD l d).length=l.length:=by simp_all[madeD]
theorem j7Z{l}(d){i:Nat}{x}(h:l[i]? =some x):(madeD l d)[i]? =some (bif x.2.2.1 then(d[i]?).getD [] else[]):=by
 simp_all[madeD]
theorem aWZ{α:Type}{l:List α}{k}{x}(h:l[k]? =some x):l.take (k+1)=l.take k++[x]:=by simp_all[List.take_add_one]
def madeS(l:List Ino)(s:Int)(d:List Byt)(x3:Int)(x4:Int)(x5:Int)(x6:Int)(x7:Int)(x8:Byt)(x9:Int)(aa:Int)(ab:Byt)(ac:Int)(ad:Int)(ae:Byt)(af:Int)(ag:Int)(ah:Int)(ai:Int)(aj:Int)(ak:Bool)(al:Int)(am:Byt)(an:List Ent)(ao:Bool)(ap:Int)(k:Nat):Int×(List Ino×(Int×(List Byt×(Int×(Int×(Int×(Int×(Int×(Byt×(Int×(Int×(Byt×(Int×(Int×(Byt×(Int×(Int×(Int×(Int×(Int×(Bool×(Int×(Byt×(List Ent×(Bool×(Int×(Int×(Int×(List Ino×(List Byt)))))))))))))))))))))))))))))):=((k:Int),(l,(s,(d,(x3,(x4,(x5,(x6,(x7,(x8,(x9,(aa,(ab,(ac,(ad,(ae,(af,(ag,(ah,(ai,(aj,(ak,(al,(am,(an,(ao,(ap,(0,(s,(l,(madeD l d).take k))))))))))))))))))))))))))))))
theorem vEZ(l)(s)(d:List Byt)(x3)(x4)(x5)(x6)(x7)(x8:Byt)(x9)(x10)(aa:Byt)(x12)(x13)(ab:Byt)(x15)(x16)(x17)(x18)(x19)(x20)(x21)(ac:Byt)(ad:List Ent)(x24)(x25)(hf:Fit l)(hl:l.length<=500)(hd:∀(i:Nat) b,d[i]? =some b->b.length<=65536):
 mdoemad fuel l s d x3 x4 x5 x6 x7 x8 x9 x10 aa x12 x13 ab x15 x16 x17 x18 x19 x20 x21 ac ad x24 x25=some (s,(l,(s,(d,(x3,(x4,(x5,(x6,(x7,(x8,(x9,(x10,(aa,(x12,(x13,(ab,(x15,(x16,(x17,(x18,(x19,(x20,(x21,(ac,(ad,(x24,(x25,(l,madeD l d)))))))))))))))))))))))))))):=by
 unfold mdoemad Pd Pe Pf Pg Ph Pi Pj Pk Pl Pm Pn Po Pp Pq Pr Ps Pt Pu Pv Pw Px Py Pza PZA;rw[d2Z hf];have loop:mdoemad_l0_it fuel (s,l) (madeS l s d x3 x4 x5 x6 x7 x8 x9 x10 aa x12 x13 ab x15 x16 x17 x18 x19 x20 x21 ac ad x24 x25 0)=some (l,(s,(d,(x3,(x4,(x5,(x6,(x7,(x8,(x9,(x10,(aa,(x12,(x13,(ab,(x15,(x16,(x17,(x18,(x19,(x20,(x21,(ac,(ad,(x24,(x25,(0,(s,(l,madeD l d))))))))))))))))))))))))))))):=by
  unfold mdoemad_l0_it;refine aoZ (madeS l s d x3 x4 x5 x6 x7 x8 x9 x10 aa x12 x13 ab x15 x16 x17 x18 x19 x20 x21 ac ad x24 x25) l.length (by omega) (λk hk=> ?_) ?_
  ·simp only[madeS];unfold mdoemad_l0 Pb Pc Pd Pe Pf Pg Ph Pi Pj Pk Pl Pm Pn Po Pp Pq Pr Ps Pt Pu Pv Pw Px Py Pz Pza Pzb Pzc PZC;obtain⟨x,hx⟩:∃x,l[k]? =some x:=⟨_,ZAC hk⟩;have hm:=j7Z d hx;have af:((madeD l d).take k).length<=500:=by rw[ZAS];omega
   simp only[aFZ hk];rw[adZ hk,ZAA,hx,aWZ hm];by_cases ae:k<d.length
   ·obtain⟨b,hb⟩:∃b,d[k]? =some b:=⟨_,ZAC ae⟩;have ag:=hd k b hb;rw[aFZ ae];simp only[ZAK,ZAA];cases hu:x.2.2.1 with
    |true=>
     simp only[ZAK];rw[adZ ae,ZAA,hb,ZAA,i6Z (by omega),ZAA,ZAA];simp only;rw[nTo,w6]
     rfl
    |false=>
     simp only[ZAD,ZAA];rw[nTo,w6]
     rfl
   ·rw[aBZ ae,ZAt (show d.length<=k by omega)];simp only[ZAD,ZAA];rw[nTo,w6];cases hu:x.2.2.1<;>rfl
  ·simp only[madeS];unfold mdoemad_l0 Pb Pc Pd Pe Pf Pg Ph Pi Pj Pk Pl Pm Pn Po Pp Pq Pr Ps Pt Pu Pv Pw Px Py Pz Pza Pzb Pzc PZC;simp only[aBZ (ZAy _),ZAD];rw[ZAw (by rw[jBZ];exact ZAL _)]
 refine(congrArg (λo=>Option.bind o _) loop).trans ?_
 rfl
def doS(y1:Int)(y2:Int)(y3:Int)(y4:Int)(y5:Int)(y6:Byt)(y7:Int)(y8:Int)(y9:Byt)(aa:Int)(ab:Int)(ac:Byt)(ad:Int)(ae:Int)(af:Int)(ag:Int)(ah:Int)(ai:Int)(aj:Bool)(ak:Int)(al:Bool)(am:Int)(st:Int)(l:List Ino)(d:List Byt)(k:Nat):Int×(Int×(Int×(Int×(Int×(Int×(Byt×(Int×(Int×(Byt×(Int×(Int×(Byt×(Int×(Int×(Int×(Int×(Int×(Int×(Bool×(Int×(Bool×(Int×(Int×(List Ino×(List Byt))))))))))))))))))))))))):=((k:Int),(y1,(y2,(y3,(y4,(y5,(y6,(y7,(y8,(y9,(aa,(ab,(ac,(ad,(ae,(af,(ag,(ah,(ai,(aj,(ak,(al,(am,(st,(l,d.take k)))))))))))))))))))))))))
theorem vTZ(o1:Int×(List Ino×(Int×(List Byt×(Int×(Int×(Int×(Int×(Int×(Byt×(Int×(Int×(Byt×(Int×(Int×(Byt×(Int×(Int×(Int×(Int×(Int×(Int×(Bool×(Int×(Bool×(Int×(List Ino×(Int×(List Byt×(Int×(Int×(Int×(Int×(Int×(Byt×(Int×(Int×(Byt×(Int×(Int×(Byt×(Int×(Int×(Int×(Int×(Int×(Bool×(Int×(Byt×(List Ent×(Bool×Int)))))))))))))))))))))))))))))))))))))))))))))))))))(y1)(y2)(y3)(y4)(y5)(y6)(y7)(y8)(y9)(y10)(y11)(y12)(y13)(y14)(y15)(y16)(y17)(y18)(y19)(y20)(y21)(y22)(st)(l)(d)(ho:o1.2.2.2.1=d)(hl:d.length<=501)(hd:∀(i:Nat) b,d[i]? =some b->b.length<=65536):
 model_Do_l0_it fuel o1 (doS y1 y2 y3 y4 y5 y6 y7 y8 y9 y10 y11 y12 y13 y14 y15 y16 y17 y18 y19 y20 y21 y22 st l d 0)=some (y1,(y2,(y3,(y4,(y5,(y6,(y7,(y8,(y9,(y10,(y11,(y12,(y13,(y14,(y15,(y16,(y17,(y18,(y19,(y20,(y21,(y22,(st,(l,d)))))))))))))))))))))))):=by
 subst ho;unfold model_Do_l0_it;refine aoZ (doS y1 y2 y3 y4 y5 y6 y7 y8 y9 y10 y11 y12 y13 y14 y15 y16 y17 y18 y19 y20 y21 y22 st l o1.2.2.2.1) o1.2.2.2.1.length (by omega) (λk hk=> ?_) ?_
 ·simp only[doS];unfold model_Do_l0;obtain⟨b,hb⟩:∃b,o1.2.2.2.1[k]? =some b:=⟨_,ZAC hk⟩;have ab:=hd k b hb;have aa:(o1.2.2.2.1.take k).length<=501:=by rw[ZAS];omega
  simp only[aFZ hk];rw[adZ hk,ZAA,hb,ZAA,i6Z (by omega),ZAA,aeZ (by simp[atZ];omega),w6,aWZ hb]
  rfl
 ·simp only[doS];unfold model_Do_l0;simp only[aBZ (ZAy _),ZAD];rw[ZAv]
theorem vxZ(o1:Int×(List Ino×(Int×(List Byt×(Int×(Int×(Int×(Int×(Int×(Byt×(Int×(Int×(Byt×(Int×(Int×(Byt×(Int×(Int×(Int×(Int×(Int×(Int×(Bool×(Int×(Bool×(Int×(List Ino×(Int×(List Byt×(Int×(Int×(Int×(Int×(Int×(Byt×(Int×(Int×(Byt×(Int×(Int×(Byt×(Int×(Int×(Int×(Int×(Int×(Bool×(Int×(Byt×(List Ent×(Bool×Int)))))))))))))))))))))))))))))))))))))))))))))))))))(y1)(y2)(y3)(y4)(y5)(y6:Byt)(y7)(y8)(y9:Byt)(y10)(y11)(aa:Byt)(y13)(y14)(y15)(y16)(y17)(y18)(y19)(y20)(y21)(y22)(st)(l:List Ino)(d)(ho:o1.2.2.2.1=d)(hl:d.length<=501)(hd:∀(i:Nat) b,d[i]? =some b->b.length<=65536):
 model_Do_l0_it fuel o1 (0,(y1,(y2,(y3,(y4,(y5,(y6,(y7,(y8,(y9,(y10,(y11,(aa,(y13,(y14,(y15,(y16,(y17,(y18,(y19,(y20,(y21,(y22,(st,(l,[])))))))))))))))))))))))))=some (y1,(y2,(y3,(y4,(y5,(y6,(y7,(y8,(y9,(y10,(y11,(aa,(y13,(y14,(y15,(y16,(y17,(y18,(y19,(y20,(y21,(y22,(st,(l,d)))))))))))))))))))))))):=vTZ o1 y1 y2 y3 y4 y5 y6 y7 y8 y9 y10 y11 aa y13 y14 y15 y16 y17 y18 y19 y20 y21 y22 st l d ho hl hd
def Kept(l:List Ino)(d:List Byt):Prop:=∀(i:Nat) x,l[i]? =some x->x.2.2.1=true->x.2.2.2.2.2.1=[]/\((((d[i]?).getD []).length:Nat):Int)=x.2.2.2.2.1
theorem ModelOK.kept{m}(h:ModelOK m):Kept m.1.1 m.2:=λi x hx _=>by
 let⟨b,hb,hs,_⟩:=h.at hx
 rw[hb];exact⟨h.p i x hx,hs⟩
theorem Kept.model{t}{d}(h:TreeOK t)(k:Kept t.1 d):ModelOK (t,madeD t.1 d):=by
 refine⟨h,jBZ _ _,λi x hx=> ?_,λi x b hx hb=> ?_⟩
 ·cases hu:x.2.2.1 with
  |true=>exact(k i x hx hu).1
  |false=>exact((h.r.ino i x hx).bare hu).2.2.2.1
 ·rw[j7Z d hx] at hb;simp at hb;subst hb;cases hu:x.2.2.1 with
  |true=>exact(k i x hx hu).2
  |false=>rw[((h.r.ino i x hx).bare hu).2.1];rfl
theorem e5Z{l}{d}(k:Kept l d)(i)(f)(hf:∀n,(f n).2.2.1=true->n.2.2.1=true/\(f n).2.2.2.2.2.1=n.2.2.2.2.2.1/\(f n).2.2.2.2.1=n.2.2.2.2.1):Kept (modL l i f) d:=by
 intro j x hx hu;rw[biZ] at hx;split at hx
 ·cases hn:l[j]? with
  |none=>rw[hn] at hx;cases hx
  |some n=>
   rw[hn] at hx;simp[ZAV] at hx;subst hx
   let⟨q1,q2,q3⟩:=hf n hu
   rw[q2,q3];exact k j n hn q1
 ·exact k j x hx hu
theorem jGZ{l}{d}(k:Kept l d)(a)(s)(id):Kept (putL l a s id) d:=e5Z k _ _ λ_ h=>⟨h,rfl,rfl⟩
theorem fkZ{l}{d}(k:Kept l d)(a)(s):Kept (takeL l a s) d:=e5Z k _ _ λ_ h=>⟨h,rfl,rfl⟩
theorem p8Z{l}{d}(k:Kept l d)(a p):Kept (parL l a p) d:=e5Z k _ _ λ_ h=>⟨h,rfl,rfl⟩
theorem hWZ{l}{d}(k:Kept l d)(a):Kept (dropL l a) d:=e5Z k _ _ λ_ h=>by cases h
theorem nnZ{l}{d}(k:Kept l d)(a)(old)(b)(name)(id):Kept (mvL l a old b name id) d:=p8Z (jGZ (fkZ k _ _) _ _ _) _ _
theorem oXZ{m}(h:ModelOK m){ac}{aa g}{l'}{i}(ha:allocF m.1.1 ac aa=some (l',i,g)):Kept l' m.2:=by
 unfold allocF at ha;cases hf:freeAt m.1.1 with
 |none=>
  rw[hf] at ha;simp only at ha;split at ha
  ·obtain⟨rfl,rfl,rfl⟩:=ha;intro j x hx hu;by_cases hj:j<m.1.1.length
   ·rw[ZAR hj] at hx;exact h.kept j x hx hu
   ·rw[ZAU (by omega)] at hx;have ad:j-m.1.1.length=0:=by
     cases hq:j-m.1.1.length with
     |zero=>rfl
     |succ q=>rw[hq] at hx;simp at hx
    rw[ad] at hx;simp[ZAV] at hx;subst hx;rw[ZAt (by rw[h.n];omega)];exact⟨rfl,rfl⟩
  simp_all
 |some k=>
  rw[hf] at ha;simp at ha
  let⟨hk,ab,_⟩:=ZA2.1 hf
  have hg:=ZAC hk;rw[hg] at ha;simp only at ha;split at ha
  ·simp[ZA1] at ha;obtain⟨rfl,rfl,rfl⟩:=ha;intro j x hx hu;by_cases hj:j=k
   ·subst hj;rw[ZAT hk] at hx;simp at hx;subst hx
    let⟨b,hb,hs,_⟩:=h.at hg
    have ae:=by simpa using ab
    rw[((h.t.r.ino j _ hg).bare ae).2.1] at hs;rw[hb];exact⟨rfl,hs⟩
   ·rw[ZAa (λe=>hj e.symm)] at hx;exact h.kept j x hx hu
  ·cases ha
theorem qvZ{m}(h:ModelOK m)(d)(s)(is):Kept (makeF m.1 d s is).1.1 m.2:=by
 unfold makeF;have k:=h.kept;split
 ·split
  ·split
   ·exact k
   ·split
    ·exact k
    ·split
     ·exact k
     ·split
      ·exact k
      ·rename_i l' i g ha;exact jGZ (oXZ h ha) _ _ _
  ·exact k
 ·exact k
theorem ltZ{m}(h:ModelOK m)(d)(s)(is):Kept (removeF m.1 d s is).1.1 m.2:=by
 unfold removeF;have k:=h.kept;split
 ·split
  ·split
   ·exact k
   ·split
    ·exact k
    ·split
     ·exact k
     ·split
      ·exact hWZ (fkZ k _ _) _
      ·exact k
  ·exact k
 ·exact k
theorem lAZ{m}(h:ModelOK m)(a)(old)(b)(name):Kept (renameF m.1 a old b name).1.1 m.2:=by
 unfold renameF;have k:=h.kept;split
 ·split
  ·split
   ·split
    ·exact k
    ·split
     ·exact k
     ·split
      ·exact k
      ·split
       ·exact k
       ·split
        ·exact k
        ·split
         ·split
          ·exact k
          ·exact nnZ k _ _ _ _ _
         ·split
          ·exact k
          ·split
           ·exact k
           ·split
            ·exact nnZ (hWZ (fkZ k _ _) _) _ _ _ _ _
            ·exact k
   ·exact k
  ·exact k
 omega
def wS(x:Ino)(n:Int):Ino:=(x.1,x.2.1,x.2.2.1,x.2.2.2.1,n,x.2.2.2.2.2)
theorem neZ{l:List Ino}{i}{x}(hx:l[i]? =some x)(n){j:Nat}{y}(hy:l[j]? =some y):∃y',(l.set i (wS x n))[j]? =some y'/\y'=wS y y'.2.2.2.2.1:=by
 by_cases hj:j=i
 ·subst hj;rw[hx] at hy;cases hy;exact⟨_,ZAT (ZAB.1 hx).1,rfl⟩
 ·exact⟨y,by rw[ZAa (λe=>hj e.symm)];exact hy,rfl⟩
theorem j0Z{l:List Ino}{i}{x}(hx:l[i]? =some x)(n){j}{y'}(hy:(l.set i (wS x n))[j]? =some y'):∃y,l[j]? =some y/\y'=wS y y'.2.2.2.2.1/\(j≠i->y'=y)/\(j=i->y=x/\y'=wS x n):=by
 by_cases hj:j=i
 ·subst hj;rw[ZAT (ZAB.1 hx).1] at hy;simp at hy;subst hy;exact⟨x,hx,rfl,λh=>absurd rfl h,λ_=>⟨rfl,rfl⟩⟩
 ·rw[ZAa (λe=>hj e.symm)] at hy;exact⟨y',hy,rfl,λ_=>rfl,λh=>absurd h hj⟩
theorem vkZ{l}{i}{x}(hx:l[i]? =some x)(n){id}(h:Rch l id):Rch (l.set i (wS x n)) id:=by
 induction h with
 |root=>exact .root
 |step hy hu _ ih=>
  let⟨y',h1,h2⟩:=neZ hx n hy
  have aa:y'.2.2.1=true:=by rw[h2];exact hu
  have:=Rch.step h1 aa;rw[h2] at this;exact this ih
theorem nNZ{t}(h:TreeOK t){i}{x}(hx:t.1[i]? =some x)(hu:x.2.2.1=true)(hd:x.2.2.2.1=false){n}(hn:0<=n/\n<=65536):TreeOK (t.1.set i (wS x n),t.2):=by
 have ab:(t.1.set i (wS x n)).length=t.1.length:=ZAr;refine⟨⟨by rw[ab];exact h.r.len,h.r.str,λj y' hy=> ?_,?_,?_⟩,λj y' hy s id he=> ?_,λj y' hy aa hj=> ?_,λj y' hy aa=> ?_⟩
 ·let⟨y,h1,h2,h3,h4⟩:=j0Z hx n hy
  have o:=h.r.ino j y h1;show okIno (t.1.set i (wS x n)).length t.2 j y';rw[ab];by_cases hj:j=i
  ·obtain⟨rfl,h5⟩:=h4 hj;have f:=o.file hu hd;subst h5;exact⟨o.id,o.gen,o.par,λ_ hq=>(by have hq:y.2.2.2.1=true:=hq;rw[hd] at hq;cases hq),λ_ _=>⟨hn,f.2.1,f.2.2.1,f.2.2.2⟩,λhq=>(by have hq:y.2.2.1=false:=hq;rw[hu] at hq;cases hq)⟩
  grind
 ·have e:allStripes (t.1.set i (wS x n))=allStripes t.1:=by
   unfold allStripes;rw[show(t.1.set i (wS x n)).flatMap (λn=>stripes n.2.2.2.2.2.1)=((t.1.set i (wS x n)).map λn=>n.2.2.2.2.2.1).flatMap stripes from by rw[List.flatMap_map],
    show t.1.flatMap (λn=>stripes n.2.2.2.2.2.1)=(t.1.map λn=>n.2.2.2.2.2.1).flatMap stripes from by rw[List.flatMap_map],List.map_set]
   congr 1;exact dKZ (by rw[ZAY,hx];rfl)
  show(allStripes (t.1.set i (wS x n))).Nodup;rw[e];exact h.r.nod
 ·let⟨r,q1,q2,q3,q4⟩:=h.r.root
  let⟨r',h1,h2⟩:=neZ hx n q1
  refine⟨r',h1,?_,?_,?_⟩<;>rw[h2]
  ·exact q2
  ·exact q3
  ·exact q4
 ·let⟨y,h1,h2,_⟩:=j0Z hx n hy
  rw[h2] at he
  let⟨q1,q2,z,q3,q4,q5⟩:=h.e j y h1 s id he
  let⟨z',h3,h4⟩:=neZ hx n q3
  exact⟨q1,q2,z',h3,by rw[h4];exact q4,by rw[h4];exact q5⟩
 ·let⟨y,h1,h2,_⟩:=j0Z hx n hy
  rw[h2] at aa
  let⟨z,s,q1,q2,q3⟩:=h.u j y h1 aa hj
  let⟨z',h3,h4⟩:=neZ hx n q1
  refine⟨z',s,by rw[h2];exact h3,by rw[h4];exact q2,λs' hs=> ?_⟩;rw[h4] at hs;exact q3 s' hs
 ·let⟨y,h1,h2,_⟩:=j0Z hx n hy
  rw[h2] at aa;exact vkZ hx n (h.a j y h1 aa)
theorem pMZ{m}(h:ModelOK m){hd}{x}{b}(hx:IsF m hd x b){c}(hc:c.length<=65536):TreeOK (putB m hd c).1/\Kept (putB m hd c).1.1 (putB m hd c).2/\(putB m hd c).1.1.length=m.1.1.length/\(putB m hd c).2.length=m.2.length/\
 ∀(i:Nat) z,(putB m hd c).2[i]? =some z->z.length<=65536:=by
 let⟨⟨h1,hg,hu,ad⟩,aa,hb⟩:=hx
 have e:putB m hd c=((m.1.1.set (hd.1-1).toNat (wS x ((c.length:Nat):Int)),m.1.2),m.2.set (hd.1-1).toNat c):=by
  unfold putB setSize;rw[hg]
  rfl
 rw[e];have ab:=(ZAB.1 hg).1;refine⟨nNZ h.t hg hu aa (by omega),λj y' hy ac=> ?_,ZAr,ZAr,λi z hz=> ?_⟩
 ·let⟨y,q1,q2,q3,q4⟩:=j0Z hg _ hy
  by_cases hj:j=(hd.1-1).toNat
  ·obtain⟨rfl,q5⟩:=q4 hj;subst q5 hj;rw[ZAT (by rw[h.n];exact ab)];exact⟨h.p _ y q1,rfl⟩
  ·rw[q3 hj] at ac⊢;rw[ZAa (λe=>hj e.symm)];exact h.kept j y q1 ac
 ·by_cases hi:i=(hd.1-1).toNat
  ·subst hi;rw[ZAT (by rw[h.n];exact ab)] at hz;cases hz;exact hc
  ·have hz:=hz;rw[ZAa (λe=>hi e.symm)] at hz;exact h.byt hz
def actF(m:Mod)(c:CallT):DoR:=if c.2.2.1=uO 1 then lookA m c else if c.2.2.1=uO 2 then makeA m c else if c.2.2.1=uO 3 then makeA m c else if c.2.2.1=uO 4 then readA m c else if c.2.2.1=uO 5 then writeA m c else if c.2.2.1=uO 6 then sizeA m c else if c.2.2.1=uO 7 then removeA m c else if c.2.2.1=uO 8 then removeA m c else if c.2.2.1=uO 9 then renameA m c else if c.2.2.1=uO 10 then listA m c else if c.2.2.1=uO 11 then getA m c else if c.2.2.1=uO 12 then statA m else(179,m,rep0)
structure Sane (q:DoR):Prop where
 t:TreeOK q.2.1.1
 k:Kept q.2.1.1.1 q.2.1.2
 n:q.2.1.2.length<=501
 b:∀(i:Nat) z,q.2.1.2[i]? =some z->z.length<=65536
theorem Sane.same{m}(h:ModelOK m){q}(e:q.2.1=m):Sane q:=by
 subst e;exact⟨h.t,h.kept,by have:=h.len;have:=h.n;grind,λi z hz=>h.byt hz⟩
section
variable {m : Mod} (h : ModelOK m) (c : CallT)
include h
theorem dlen:m.2.length<=501:=by have:=h.len;have:=h.n;omega
theorem rjZ:Sane (lookA m c):=.same h (by unfold lookA;split<;>first|rfl|(split<;>rfl))
theorem qLZ:Sane (readA m c):=.same h (by grind[readA])
theorem skZ:Sane (getA m c):=.same h (by grind[getA])
theorem k3Z:Sane (makeA m c):=by
 unfold makeA;split
 ·exact⟨(iVZ h.t _ _ _).2,qvZ h _ _ _,dlen (m:=m) h,λi z hz=>h.byt hz⟩
 ·exact .same h rfl
theorem fZZ:Sane (removeA m c):=by
 unfold removeA;split
 ·exact⟨(kVZ h.t _ _ _).2,ltZ h _ _ _,dlen (m:=m) h,λi z hz=>h.byt hz⟩
 ·exact .same h rfl
theorem lLZ:Sane (renameA m c):=by
 unfold renameA;split
 ·exact⟨(k9Z h.t _ _ _ _).2,lAZ h _ _ _ _,dlen (m:=m) h,λi z hz=>h.byt hz⟩
 ·exact .same h rfl
theorem rGZ(hn:0<=c.2.2.2.2.2.2.2.2.1/\c.2.2.2.2.2.2.2.2.1<=2147483648):Sane (sizeA m c):=by
 unfold sizeA;split
 ·rename_i h0
  let⟨x,hx,_⟩:=d1Z h0
  split
  ·exact .same h rfl
  ·let⟨q1,q2,q3,q4,q5⟩:=pMZ h hx (c:=sizedL (fileF m c.2.2.2.1).2.1 c.2.2.2.2.2.2.2.2.1.toNat) (by rw[bqZ];omega)
   exact⟨q1,q2,by have:=dlen h;show(putB m _ _).2.length<=501;omega,q5⟩
 ·exact .same h rfl
theorem oqZ(aa:c.2.2.2.2.2.2.2.2.2.length<=4096):Sane (writeA m c):=by
 unfold writeA;split
 ·rename_i h0
  let⟨x,hx,_⟩:=d1Z h0
  have ab:=h.byt hx.2.2;split
  ·exact .same h rfl
  ·let⟨q1,q2,q3,q4,q5⟩:=pMZ h hx (c:=writeL (fileF m c.2.2.2.1).2.1 c.2.2.2.2.2.2.2.1 c.2.2.2.2.2.2.2.2.2) (by rw[dGZ];unfold writeN;split<;>omega)
   exact⟨q1,q2,by have:=dlen h;show(putB m _ _).2.length<=501;omega,q5⟩
 ·exact .same h rfl
theorem beZ(hn:0<=c.2.2.2.2.2.2.2.2.1/\c.2.2.2.2.2.2.2.2.1<=2147483648)(ad:c.2.2.2.2.2.2.2.2.2.length<=4096):Sane (actF m c):=by
 unfold actF;by_cases h1:c.2.2.1=uO 1
 ·rw[ZAN h1];exact rjZ h c
 rw[ZAM h1];by_cases h2:c.2.2.1=uO 2
 ·rw[ZAN h2];exact k3Z h c
 rw[ZAM h2];by_cases h3:c.2.2.1=uO 3
 ·rw[ZAN h3];exact k3Z h c
 rw[ZAM h3];by_cases h4:c.2.2.1=uO 4
 ·rw[ZAN h4];exact qLZ h c
 rw[ZAM h4];by_cases h5:c.2.2.1=uO 5
 ·rw[ZAN h5];exact oqZ h c ad
 rw[ZAM h5];by_cases h6:c.2.2.1=uO 6
 ·rw[ZAN h6];exact rGZ h c hn
 rw[ZAM h6];by_cases h7:c.2.2.1=uO 7
 ·rw[ZAN h7];exact fZZ h c
 rw[ZAM h7];by_cases h8:c.2.2.1=uO 8
 ·rw[ZAN h8];exact fZZ h c
 rw[ZAM h8];by_cases h9:c.2.2.1=uO 9
 ·rw[ZAN h9];exact lLZ h c
 rw[ZAM h9];by_cases aa:c.2.2.1=uO 10
 ·rw[ZAN aa];exact .same h rfl
 rw[ZAM aa];by_cases ab:c.2.2.1=uO 11
 ·rw[ZAN ab];exact skZ h c
 rw[ZAM ab];by_cases ac:c.2.2.1=uO 12
 ·rw[ZAN ac];exact .same h rfl
 rw[ZAM ac];exact .same h rfl
end
theorem qWZ(o):(shapeN o).2.2.2.2.1<=2147483648:=by grind[shapeN]
theorem a5Z{c}(hr:rightCall c=true):(0<=c.2.2.2.2.2.2.2.1/\c.2.2.2.2.2.2.2.1<=2147483648)/\(0<=c.2.2.2.2.2.2.2.2.1/\c.2.2.2.2.2.2.2.2.1<=2147483648)/\c.2.2.2.2.2.2.2.2.2.length<=4096:=by
 unfold rightCall rightS at hr;have hs:=qWZ c.2.2.1.toNat
 grind
theorem uJZ:∀n,n<256->(shapeN n).2.2.2.2.2.2=true->uO n=uO 1\/uO n=uO 2\/uO n=uO 3\/uO n=uO 4\/uO n=uO 5\/uO n=uO 6\/uO n=uO 7\/uO n=uO 8\/uO n=uO 9\/uO n=uO 10\/uO n=uO 11\/uO n=uO 12:=by decide+kernel
theorem iZZ{c}(hr:rightCall c=true):c.2.2.1=uO 1\/c.2.2.1=uO 2\/c.2.2.1=uO 3\/c.2.2.1=uO 4\/c.2.2.1=uO 5\/c.2.2.1=uO 6\/c.2.2.1=uO 7\/c.2.2.1=uO 8\/c.2.2.1=uO 9\/c.2.2.1=uO 10\/c.2.2.1=uO 11\/c.2.2.1=uO 12:=by
 unfold rightCall rightS at hr;simp at hr;have:=uJZ c.2.2.1.toNat c.2.2.1.toNat_lt hr.1
 simp_all
theorem qcZ(m)(c):(lookA m c).2.2.2.2.2.1=[]/\(lookA m c).2.2.2.2.2.2.1=[]:=by unfold lookA;(repeat' split)<;>exact⟨rfl,rfl⟩
theorem jgZ(m)(c):(makeA m c).2.2.2.2.2.1=[]/\(makeA m c).2.2.2.2.2.2.1=[]:=by unfold makeA;(repeat' split)<;>exact⟨rfl,rfl⟩
theorem exZ(m)(c):(removeA m c).2.2.2.2.2.1=[]/\(removeA m c).2.2.2.2.2.2.1=[]:=by unfold removeA;(repeat' split)<;>exact⟨rfl,rfl⟩
theorem kaZ(m)(c):(renameA m c).2.2.2.2.2.1=[]/\(renameA m c).2.2.2.2.2.2.1=[]:=by unfold renameA;(repeat' split)<;>exact⟨rfl,rfl⟩
theorem qfZ(m)(c):(sizeA m c).2.2.2.2.2.1=[]/\(sizeA m c).2.2.2.2.2.2.1=[]:=by unfold sizeA;(repeat' split)<;>exact⟨rfl,rfl⟩
theorem mDZ(m)(c):(writeA m c).2.2.2.2.2.1=[]/\(writeA m c).2.2.2.2.2.2.1=[]:=by unfold writeA;(repeat' split)<;>exact⟨rfl,rfl⟩
theorem tpZ(m)(c):(getA m c).2.2.2.2.2.1=[]/\(getA m c).2.2.2.2.2.2.1=[]:=by unfold getA;(repeat' split)<;>exact⟨rfl,rfl⟩
theorem u4Z(m)(c):(readA m c).2.2.2.2.2.2.1=[]:=by unfold readA;(repeat' split)<;>rfl
def resF(m:Mod)(c:CallT):Mod×Int×Rep:=
 if rightCall c=true then
  if(actF m c).1=0 then(((actF m c).2.1.1,madeD (actF m c).2.1.1.1 (actF m c).2.1.2),0,(actF m c).2.2)
  else(m,(actF m c).1,rep0)
 else(m,179,rep0)
def doT(r:Mod×Int×Rep)(c:CallT):Int×(Int×(Int×(Int×(Int×(Int×(Bool×(Int×(Byt×(List Ent×(Bool×(Int×(List Ino×List Byt)))))))))))):=(r.1.1.2,(c.1,(c.2.1,(r.2.1,(r.2.2.1.1,(r.2.2.1.2,(r.2.2.2.1,(r.2.2.2.2.1,(r.2.2.2.2.2.1,(r.2.2.2.2.2.2.1,(r.2.2.2.2.2.2.2.1,(r.2.2.2.2.2.2.2.2,(r.1.1.1,r.1.2)))))))))))))
theorem keZ{m}(h:ModelOK m)(c):ModelOK (resF m c).1:=by
 unfold resF;by_cases hr:rightCall c=true
 ·rw[ZAN hr]
  let⟨ho,hn,aa⟩:=a5Z hr
  have s:=beZ h c hn aa;by_cases h0:(actF m c).1=0
  ·rw[ZAN h0];exact s.k.model s.t
  ·rw[ZAM h0];exact h
 simp_all
set_option maxHeartbeats 4000000
set_option maxRecDepth 100000
theorem aRZ(u):byte? ((u.toNat:Nat):Int)=some u:=by rw[joZ u.toNat_lt];simp
def finF(m:Mod)(q:DoR):Mod×Int×Rep:=
 if q.1=0 then((q.2.1.1,madeD q.2.1.1.1 q.2.1.2),0,q.2.2) else(m,q.1,rep0)
theorem bPZ{m}{c}(hr:rightCall c=true):resF m c=finF m (actF m c):=by simp_all[resF,finF]
def mkO(q:DoR)(aa:Byt)(en:List Ent)(m:Mod)(c:CallT):qT21:=(q.1,(m.1.1,(m.1.2,(m.2,(c.1,(c.2.1,(((c.2.2.1.toNat:Nat):Int),(c.2.2.2.1.1,(c.2.2.2.1.2,(c.2.2.2.2.1,(c.2.2.2.2.2.1.1,(c.2.2.2.2.2.1.2,(c.2.2.2.2.2.2.1,(c.2.2.2.2.2.2.2.1,(c.2.2.2.2.2.2.2.2.1,(c.2.2.2.2.2.2.2.2.2,(0,(0,(0,(0,(0,(0,(false,(0,(false,(0,(q.2.1.1.1,(q.2.1.1.2,(q.2.1.2,(c.1,(c.2.1,(((c.2.2.1.toNat:Nat):Int),(c.2.2.2.1.1,(c.2.2.2.1.2,(c.2.2.2.2.1,(c.2.2.2.2.2.1.1,(c.2.2.2.2.2.1.2,(c.2.2.2.2.2.2.1,(c.2.2.2.2.2.2.2.1,(c.2.2.2.2.2.2.2.2.1,(c.2.2.2.2.2.2.2.2.2,(c.1,(c.2.1,(0,(q.2.2.1.1,(q.2.2.1.2,(q.2.2.2.1,(q.2.2.2.2.1,(aa,(en,(q.2.2.2.2.2.2.2.1,q.2.2.2.2.2.2.2.2)))))))))))))))))))))))))))))))))))))))))))))))))))
noncomputable def doTail (o1 : qT21) : Option (Int × (Int × (Int × (Int × (Int × (Int × (Bool × (Int × (Byt × (List Ent × (Bool × (Int × (List Ino × List Byt))))))))))))) :=
 bif (!(o1.1==0)) then
  (mcop fuel (o1.2.1,o1.2.2.1)).bind λr14=>
  (model_Do_l0_it fuel o1 (0,(o1.2.2.2.2.1,(o1.2.2.2.2.2.1,(o1.2.2.2.2.2.2.1,(o1.2.2.2.2.2.2.2.1,(o1.2.2.2.2.2.2.2.2.1,(o1.2.2.2.2.2.2.2.2.2.1,(o1.2.2.2.2.2.2.2.2.2.2.1,(o1.2.2.2.2.2.2.2.2.2.2.2.1,(o1.2.2.2.2.2.2.2.2.2.2.2.2.1,(o1.2.2.2.2.2.2.2.2.2.2.2.2.2.1,(o1.2.2.2.2.2.2.2.2.2.2.2.2.2.2.1,(o1.2.2.2.2.2.2.2.2.2.2.2.2.2.2.2.1,(o1.2.2.2.2.2.2.2.2.2.2.2.2.2.2.2.2.1,(o1.2.2.2.2.2.2.2.2.2.2.2.2.2.2.2.2.2.1,(o1.2.2.2.2.2.2.2.2.2.2.2.2.2.2.2.2.2.2.1,(o1.2.2.2.2.2.2.2.2.2.2.2.2.2.2.2.2.2.2.2.1,(o1.2.2.2.2.2.2.2.2.2.2.2.2.2.2.2.2.2.2.2.2.1,(o1.2.2.2.2.2.2.2.2.2.2.2.2.2.2.2.2.2.2.2.2.2.1,(o1.2.2.2.2.2.2.2.2.2.2.2.2.2.2.2.2.2.2.2.2.2.2.1,(o1.2.2.2.2.2.2.2.2.2.2.2.2.2.2.2.2.2.2.2.2.2.2.2.1,(o1.2.2.2.2.2.2.2.2.2.2.2.2.2.2.2.2.2.2.2.2.2.2.2.2.1,(o1.2.2.2.2.2.2.2.2.2.2.2.2.2.2.2.2.2.2.2.2.2.2.2.2.2.1,(r14.1,(r14.2,[])))))))))))))))))))))))))).bind λo2=>
  some (o2.2.2.2.2.2.2.2.2.2.2.2.2.2.2.2.2.2.2.2.2.2.2.1,(o2.1,(o2.2.1,(o1.1,(0,(0,(false,(0,([],([],(false,(0,(o2.2.2.2.2.2.2.2.2.2.2.2.2.2.2.2.2.2.2.2.2.2.2.2.1,o2.2.2.2.2.2.2.2.2.2.2.2.2.2.2.2.2.2.2.2.2.2.2.2.2)))))))))))))
 else
  (mdoemad fuel o1.2.2.2.2.2.2.2.2.2.2.2.2.2.2.2.2.2.2.2.2.2.2.2.2.2.2.1 o1.2.2.2.2.2.2.2.2.2.2.2.2.2.2.2.2.2.2.2.2.2.2.2.2.2.2.2.1 o1.2.2.2.2.2.2.2.2.2.2.2.2.2.2.2.2.2.2.2.2.2.2.2.2.2.2.2.2.1 o1.2.2.2.2.2.2.2.2.2.2.2.2.2.2.2.2.2.2.2.2.2.2.2.2.2.2.2.2.2.1 o1.2.2.2.2.2.2.2.2.2.2.2.2.2.2.2.2.2.2.2.2.2.2.2.2.2.2.2.2.2.2.1 o1.2.2.2.2.2.2.2.2.2.2.2.2.2.2.2.2.2.2.2.2.2.2.2.2.2.2.2.2.2.2.2.1 o1.2.2.2.2.2.2.2.2.2.2.2.2.2.2.2.2.2.2.2.2.2.2.2.2.2.2.2.2.2.2.2.2.1 o1.2.2.2.2.2.2.2.2.2.2.2.2.2.2.2.2.2.2.2.2.2.2.2.2.2.2.2.2.2.2.2.2.2.1 o1.2.2.2.2.2.2.2.2.2.2.2.2.2.2.2.2.2.2.2.2.2.2.2.2.2.2.2.2.2.2.2.2.2.2.1 o1.2.2.2.2.2.2.2.2.2.2.2.2.2.2.2.2.2.2.2.2.2.2.2.2.2.2.2.2.2.2.2.2.2.2.2.1 o1.2.2.2.2.2.2.2.2.2.2.2.2.2.2.2.2.2.2.2.2.2.2.2.2.2.2.2.2.2.2.2.2.2.2.2.2.1 o1.2.2.2.2.2.2.2.2.2.2.2.2.2.2.2.2.2.2.2.2.2.2.2.2.2.2.2.2.2.2.2.2.2.2.2.2.2.1 o1.2.2.2.2.2.2.2.2.2.2.2.2.2.2.2.2.2.2.2.2.2.2.2.2.2.2.2.2.2.2.2.2.2.2.2.2.2.2.1 o1.2.2.2.2.2.2.2.2.2.2.2.2.2.2.2.2.2.2.2.2.2.2.2.2.2.2.2.2.2.2.2.2.2.2.2.2.2.2.2.1 o1.2.2.2.2.2.2.2.2.2.2.2.2.2.2.2.2.2.2.2.2.2.2.2.2.2.2.2.2.2.2.2.2.2.2.2.2.2.2.2.2.1 o1.2.2.2.2.2.2.2.2.2.2.2.2.2.2.2.2.2.2.2.2.2.2.2.2.2.2.2.2.2.2.2.2.2.2.2.2.2.2.2.2.2.1 o1.2.2.2.2.2.2.2.2.2.2.2.2.2.2.2.2.2.2.2.2.2.2.2.2.2.2.2.2.2.2.2.2.2.2.2.2.2.2.2.2.2.2.1 o1.2.2.2.2.2.2.2.2.2.2.2.2.2.2.2.2.2.2.2.2.2.2.2.2.2.2.2.2.2.2.2.2.2.2.2.2.2.2.2.2.2.2.2.1 o1.2.2.2.2.2.2.2.2.2.2.2.2.2.2.2.2.2.2.2.2.2.2.2.2.2.2.2.2.2.2.2.2.2.2.2.2.2.2.2.2.2.2.2.2.1 o1.2.2.2.2.2.2.2.2.2.2.2.2.2.2.2.2.2.2.2.2.2.2.2.2.2.2.2.2.2.2.2.2.2.2.2.2.2.2.2.2.2.2.2.2.2.1 o1.2.2.2.2.2.2.2.2.2.2.2.2.2.2.2.2.2.2.2.2.2.2.2.2.2.2.2.2.2.2.2.2.2.2.2.2.2.2.2.2.2.2.2.2.2.2.1 o1.2.2.2.2.2.2.2.2.2.2.2.2.2.2.2.2.2.2.2.2.2.2.2.2.2.2.2.2.2.2.2.2.2.2.2.2.2.2.2.2.2.2.2.2.2.2.2.1 o1.2.2.2.2.2.2.2.2.2.2.2.2.2.2.2.2.2.2.2.2.2.2.2.2.2.2.2.2.2.2.2.2.2.2.2.2.2.2.2.2.2.2.2.2.2.2.2.2.1 o1.2.2.2.2.2.2.2.2.2.2.2.2.2.2.2.2.2.2.2.2.2.2.2.2.2.2.2.2.2.2.2.2.2.2.2.2.2.2.2.2.2.2.2.2.2.2.2.2.2.1 o1.2.2.2.2.2.2.2.2.2.2.2.2.2.2.2.2.2.2.2.2.2.2.2.2.2.2.2.2.2.2.2.2.2.2.2.2.2.2.2.2.2.2.2.2.2.2.2.2.2.2.1 o1.2.2.2.2.2.2.2.2.2.2.2.2.2.2.2.2.2.2.2.2.2.2.2.2.2.2.2.2.2.2.2.2.2.2.2.2.2.2.2.2.2.2.2.2.2.2.2.2.2.2.2).bind λr17=>
  some (r17.1,(o1.2.2.2.2.2.2.2.2.2.2.2.2.2.2.2.2.2.2.2.2.2.2.2.2.2.2.2.2.2.2.2.2.2.2.2.2.2.2.2.2.2.1,(o1.2.2.2.2.2.2.2.2.2.2.2.2.2.2.2.2.2.2.2.2.2.2.2.2.2.2.2.2.2.2.2.2.2.2.2.2.2.2.2.2.2.2.1,(o1.2.2.2.2.2.2.2.2.2.2.2.2.2.2.2.2.2.2.2.2.2.2.2.2.2.2.2.2.2.2.2.2.2.2.2.2.2.2.2.2.2.2.2.1,(o1.2.2.2.2.2.2.2.2.2.2.2.2.2.2.2.2.2.2.2.2.2.2.2.2.2.2.2.2.2.2.2.2.2.2.2.2.2.2.2.2.2.2.2.2.1,(o1.2.2.2.2.2.2.2.2.2.2.2.2.2.2.2.2.2.2.2.2.2.2.2.2.2.2.2.2.2.2.2.2.2.2.2.2.2.2.2.2.2.2.2.2.2.1,(o1.2.2.2.2.2.2.2.2.2.2.2.2.2.2.2.2.2.2.2.2.2.2.2.2.2.2.2.2.2.2.2.2.2.2.2.2.2.2.2.2.2.2.2.2.2.2.1,(o1.2.2.2.2.2.2.2.2.2.2.2.2.2.2.2.2.2.2.2.2.2.2.2.2.2.2.2.2.2.2.2.2.2.2.2.2.2.2.2.2.2.2.2.2.2.2.2.1,(o1.2.2.2.2.2.2.2.2.2.2.2.2.2.2.2.2.2.2.2.2.2.2.2.2.2.2.2.2.2.2.2.2.2.2.2.2.2.2.2.2.2.2.2.2.2.2.2.2.1,(o1.2.2.2.2.2.2.2.2.2.2.2.2.2.2.2.2.2.2.2.2.2.2.2.2.2.2.2.2.2.2.2.2.2.2.2.2.2.2.2.2.2.2.2.2.2.2.2.2.2.1,(o1.2.2.2.2.2.2.2.2.2.2.2.2.2.2.2.2.2.2.2.2.2.2.2.2.2.2.2.2.2.2.2.2.2.2.2.2.2.2.2.2.2.2.2.2.2.2.2.2.2.2.1,(o1.2.2.2.2.2.2.2.2.2.2.2.2.2.2.2.2.2.2.2.2.2.2.2.2.2.2.2.2.2.2.2.2.2.2.2.2.2.2.2.2.2.2.2.2.2.2.2.2.2.2.2,(r17.2.2.2.2.2.2.2.2.2.2.2.2.2.2.2.2.2.2.2.2.2.2.2.2.2.2.2.1,r17.2.2.2.2.2.2.2.2.2.2.2.2.2.2.2.2.2.2.2.2.2.2.2.2.2.2.2.2)))))))))))))
theorem b4Z{m}(h:ModelOK m)(c){q}(s:Sane q){by_}{en}(n1:q.2.2.2.2.2.1=by_)(n2:q.2.2.2.2.2.2.1=en):doTail (mkO q by_ en m c)=some (doT (finF m q) c):=by
 have hl:=h.len;unfold finF doTail;by_cases h0:q.1=0
 ·rw[ZAN h0];simp[mkO,h0,ZAD];rw[vEZ (hf:=s.t.r.fit) (hl:=s.t.r.len.2) (hd:=s.b),ZAA];simp[doT,n1,n2]
 ·rw[ZAM h0];simp[mkO,ZAW.2 h0,ZAk,ZAK];rw[show((m.1.1,m.1.2):Tree)=m.1 from rfl,d2Z h.fit,ZAA,vxZ _ _ _ _ _ _ _ _ _ _ _ _ _ _ _ _ _ _ _ _ _ _ _ _ _ m.2 rfl (dlen h) (λi z hz=>h.byt hz),ZAA]
  rfl
theorem do_1{m}(h:ModelOK m)(c)(hr:rightCall c=true)(hk:c.2.2.1=uO 1):model_Do fuel m c=some (doT (resF m c) c):=by
 let⟨ho,hn,hbs⟩:=a5Z hr
 have s:=beZ h c hn hbs;have hA:actF m c=lookA m c:=by unfold actF;rw[hk];rfl
 have e1:(c.2.2.1==uO 1)=true:=by rw[hk];rfl
 rw[bPZ hr,hA];rw[hA] at s;unfold model_Do Pa Pb Pc Pd Pe Pf Pg Ph Pi Pj Pk Pl Pm Pn Po Pp Pq Pr Ps Pt Pu Pv Pw Px Py Pz Pza Pzb Pzc Pzd Pze Pzf Pzg Pzh Pzi Pzj Pzk Pzl Pzm Pzn Pzo Pzp Pzq Pzr Pzs Pzt Pzu Pzv Pzw Pzx PH PW PX PZX;rw[aeZ (by decide)];rw[a3Z h,ZAA,ZAK,aRZ,ZAA,axZ,ZAA,hr,ZAK];rw[ZAA,e1,ZAK,s9Z h c,ZAA];exact b4Z h c s (qcZ m c).1 (qcZ m c).2
theorem do_2{m}(h:ModelOK m)(c)(hr:rightCall c=true)(hk:c.2.2.1=uO 2):model_Do fuel m c=some (doT (resF m c) c):=by
 let⟨ho,hn,hbs⟩:=a5Z hr
 have s:=beZ h c hn hbs;have hA:actF m c=makeA m c:=by unfold actF;rw[hk];rfl
 have e1:(c.2.2.1==uO 1)=false:=by rw[hk];rfl
 have e2:(c.2.2.1==uO 2)=true:=by rw[hk];rfl
 rw[bPZ hr,hA];rw[hA] at s;unfold model_Do Pa Pb Pc Pd Pe Pf Pg Ph Pi Pj Pk Pl Pm Pn Po Pp Pq Pr Ps Pt Pu Pv Pw Px Py Pz Pza Pzb Pzc Pzd Pze Pzf Pzg Pzh Pzi Pzj Pzk Pzl Pzm Pzn Pzo Pzp Pzq Pzr Pzs Pzt Pzu Pzv Pzw Pzx PH PW PX PZX;rw[aeZ (by decide)];rw[a3Z h,ZAA,ZAK,aRZ,ZAA,axZ,ZAA,hr,ZAK];rw[ZAA,e1,ZAD,e2,ZAK,tAZ h c,ZAA];exact b4Z h c s (jgZ m c).1 (jgZ m c).2
theorem do_3{m}(h:ModelOK m)(c)(hr:rightCall c=true)(hk:c.2.2.1=uO 3):model_Do fuel m c=some (doT (resF m c) c):=by
 let⟨ho,hn,hbs⟩:=a5Z hr
 have s:=beZ h c hn hbs;have hA:actF m c=makeA m c:=by unfold actF;rw[hk];rfl
 have e1:(c.2.2.1==uO 1)=false:=by rw[hk];rfl
 have e2:(c.2.2.1==uO 2)=false:=by rw[hk];rfl
 have e3:(c.2.2.1==uO 3)=true:=by rw[hk];rfl
 rw[bPZ hr,hA];rw[hA] at s;unfold model_Do Pa Pb Pc Pd Pe Pf Pg Ph Pi Pj Pk Pl Pm Pn Po Pp Pq Pr Ps Pt Pu Pv Pw Px Py Pz Pza Pzb Pzc Pzd Pze Pzf Pzg Pzh Pzi Pzj Pzk Pzl Pzm Pzn Pzo Pzp Pzq Pzr Pzs Pzt Pzu Pzv Pzw Pzx PH PW PX PZX;rw[aeZ (by decide)];rw[a3Z h,ZAA,ZAK,aRZ,ZAA,axZ,ZAA,hr,ZAK];rw[ZAA,e1,ZAD,e2,ZAD,e3,ZAK,tAZ h c,ZAA,ZAA];exact b4Z h c s (jgZ m c).1 (jgZ m c).2
theorem do_4{m}(h:ModelOK m)(c)(hr:rightCall c=true)(hk:c.2.2.1=uO 4):model_Do fuel m c=some (doT (resF m c) c):=by
 let⟨ho,hn,hbs⟩:=a5Z hr
 have s:=beZ h c hn hbs;have hA:actF m c=readA m c:=by unfold actF;rw[hk];rfl
 have e1:(c.2.2.1==uO 1)=false:=by rw[hk];rfl
 have e2:(c.2.2.1==uO 2)=false:=by rw[hk];rfl
 have e3:(c.2.2.1==uO 3)=false:=by rw[hk];rfl
 have e4:(c.2.2.1==uO 4)=true:=by rw[hk];rfl
 rw[bPZ hr,hA];rw[hA] at s;unfold model_Do Pa Pb Pc Pd Pe Pf Pg Ph Pi Pj Pk Pl Pm Pn Po Pp Pq Pr Ps Pt Pu Pv Pw Px Py Pz Pza Pzb Pzc Pzd Pze Pzf Pzg Pzh Pzi Pzj Pzk Pzl Pzm Pzn Pzo Pzp Pzq Pzr Pzs Pzt Pzu Pzv Pzw Pzx PH PW PX PZX;rw[aeZ (by decide)];rw[a3Z h,ZAA,ZAK,aRZ,ZAA,axZ,ZAA,hr,ZAK];rw[ZAA,e1,ZAD,e2,ZAD,e3,ZAD,e4,ZAK,vHZ h c ho hn,ZAA,ZAA,ZAA];exact b4Z h c s rfl (u4Z m c)
theorem do_5{m}(h:ModelOK m)(c)(hr:rightCall c=true)(hk:c.2.2.1=uO 5):model_Do fuel m c=some (doT (resF m c) c):=by
 let⟨ho,hn,hbs⟩:=a5Z hr
 have s:=beZ h c hn hbs;have hA:actF m c=writeA m c:=by unfold actF;rw[hk];rfl
 have e1:(c.2.2.1==uO 1)=false:=by rw[hk];rfl
 have e2:(c.2.2.1==uO 2)=false:=by rw[hk];rfl
 have e3:(c.2.2.1==uO 3)=false:=by rw[hk];rfl
 have e4:(c.2.2.1==uO 4)=false:=by rw[hk];rfl
 have e5:(c.2.2.1==uO 5)=true:=by rw[hk];rfl
 rw[bPZ hr,hA];rw[hA] at s;unfold model_Do Pa Pb Pc Pd Pe Pf Pg Ph Pi Pj Pk Pl Pm Pn Po Pp Pq Pr Ps Pt Pu Pv Pw Px Py Pz Pza Pzb Pzc Pzd Pze Pzf Pzg Pzh Pzi Pzj Pzk Pzl Pzm Pzn Pzo Pzp Pzq Pzr Pzs Pzt Pzu Pzv Pzw Pzx PH PW PX PZX;rw[aeZ (by decide)];rw[a3Z h,ZAA,ZAK,aRZ,ZAA,axZ,ZAA,hr,ZAK];rw[ZAA,e1,ZAD,e2,ZAD,e3,ZAD,e4,ZAD,e5,ZAK,tYZ h c ho hbs,ZAA,ZAA,ZAA];exact b4Z h c s (mDZ m c).1 (mDZ m c).2
theorem do_6{m}(h:ModelOK m)(c)(hr:rightCall c=true)(hk:c.2.2.1=uO 6):model_Do fuel m c=some (doT (resF m c) c):=by
 let⟨ho,hn,hbs⟩:=a5Z hr
 have s:=beZ h c hn hbs;have hA:actF m c=sizeA m c:=by unfold actF;rw[hk];rfl
 have e1:(c.2.2.1==uO 1)=false:=by rw[hk];rfl
 have e2:(c.2.2.1==uO 2)=false:=by rw[hk];rfl
 have e3:(c.2.2.1==uO 3)=false:=by rw[hk];rfl
 have e4:(c.2.2.1==uO 4)=false:=by rw[hk];rfl
 have e5:(c.2.2.1==uO 5)=false:=by rw[hk];rfl
 have e6:(c.2.2.1==uO 6)=true:=by rw[hk];rfl
 rw[bPZ hr,hA];rw[hA] at s;unfold model_Do Pa Pb Pc Pd Pe Pf Pg Ph Pi Pj Pk Pl Pm Pn Po Pp Pq Pr Ps Pt Pu Pv Pw Px Py Pz Pza Pzb Pzc Pzd Pze Pzf Pzg Pzh Pzi Pzj Pzk Pzl Pzm Pzn Pzo Pzp Pzq Pzr Pzs Pzt Pzu Pzv Pzw Pzx PH PW PX PZX;rw[aeZ (by decide)];rw[a3Z h,ZAA,ZAK,aRZ,ZAA,axZ,ZAA,hr,ZAK];rw[ZAA,e1,ZAD,e2,ZAD,e3,ZAD,e4,ZAD,e5,ZAD,e6,ZAK,vzZ h c hn.1,ZAA,ZAA,ZAA];exact b4Z h c s (qfZ m c).1 (qfZ m c).2
theorem do_7{m}(h:ModelOK m)(c)(hr:rightCall c=true)(hk:c.2.2.1=uO 7):model_Do fuel m c=some (doT (resF m c) c):=by
 let⟨ho,hn,hbs⟩:=a5Z hr
 have s:=beZ h c hn hbs;have hA:actF m c=removeA m c:=by unfold actF;rw[hk];rfl
 have e1:(c.2.2.1==uO 1)=false:=by rw[hk];rfl
 have e2:(c.2.2.1==uO 2)=false:=by rw[hk];rfl
 have e3:(c.2.2.1==uO 3)=false:=by rw[hk];rfl
 have e4:(c.2.2.1==uO 4)=false:=by rw[hk];rfl
 have e5:(c.2.2.1==uO 5)=false:=by rw[hk];rfl
 have e6:(c.2.2.1==uO 6)=false:=by rw[hk];rfl
 have e7:(c.2.2.1==uO 7)=true:=by rw[hk];rfl
 rw[bPZ hr,hA];rw[hA] at s;unfold model_Do Pa Pb Pc Pd Pe Pf Pg Ph Pi Pj Pk Pl Pm Pn Po Pp Pq Pr Ps Pt Pu Pv Pw Px Py Pz Pza Pzb Pzc Pzd Pze Pzf Pzg Pzh Pzi Pzj Pzk Pzl Pzm Pzn Pzo Pzp Pzq Pzr Pzs Pzt Pzu Pzv Pzw Pzx PH PW PX PZX;rw[aeZ (by decide)];rw[a3Z h,ZAA,ZAK,aRZ,ZAA,axZ,ZAA,hr,ZAK];rw[ZAA,e1,ZAD,e2,ZAD,e3,ZAD,e4,ZAD,e5,ZAD,e6,ZAD,e7,ZAK,mZZ h c,ZAA,ZAA,ZAA];exact b4Z h c s (exZ m c).1 (exZ m c).2
theorem do_8{m}(h:ModelOK m)(c)(hr:rightCall c=true)(hk:c.2.2.1=uO 8):model_Do fuel m c=some (doT (resF m c) c):=by
 let⟨ho,hn,hbs⟩:=a5Z hr
 have s:=beZ h c hn hbs;have hA:actF m c=removeA m c:=by unfold actF;rw[hk];rfl
 have e1:(c.2.2.1==uO 1)=false:=by rw[hk];rfl
 have e2:(c.2.2.1==uO 2)=false:=by rw[hk];rfl
 have e3:(c.2.2.1==uO 3)=false:=by rw[hk];rfl
 have e4:(c.2.2.1==uO 4)=false:=by rw[hk];rfl
 have e5:(c.2.2.1==uO 5)=false:=by rw[hk];rfl
 have e6:(c.2.2.1==uO 6)=false:=by rw[hk];rfl
 have e7:(c.2.2.1==uO 7)=false:=by rw[hk];rfl
 have e8:(c.2.2.1==uO 8)=true:=by rw[hk];rfl
 rw[bPZ hr,hA];rw[hA] at s;unfold model_Do Pa Pb Pc Pd Pe Pf Pg Ph Pi Pj Pk Pl Pm Pn Po Pp Pq Pr Ps Pt Pu Pv Pw Px Py Pz Pza Pzb Pzc Pzd Pze Pzf Pzg Pzh Pzi Pzj Pzk Pzl Pzm Pzn Pzo Pzp Pzq Pzr Pzs Pzt Pzu Pzv Pzw Pzx PH PW PX PZX;rw[aeZ (by decide)];rw[a3Z h,ZAA,ZAK,aRZ,ZAA,axZ,ZAA,hr,ZAK];rw[ZAA,e1,ZAD,e2,ZAD,e3,ZAD,e4,ZAD,e5,ZAD,e6,ZAD,e7,ZAD,e8,ZAK,mZZ h c,ZAA,ZAA,ZAA];exact b4Z h c s (exZ m c).1 (exZ m c).2
theorem do_9{m}(h:ModelOK m)(c)(hr:rightCall c=true)(hk:c.2.2.1=uO 9):model_Do fuel m c=some (doT (resF m c) c):=by
 let⟨ho,hn,hbs⟩:=a5Z hr
 have s:=beZ h c hn hbs;have hA:actF m c=renameA m c:=by unfold actF;rw[hk];rfl
 have e1:(c.2.2.1==uO 1)=false:=by rw[hk];rfl
 have e2:(c.2.2.1==uO 2)=false:=by rw[hk];rfl
 have e3:(c.2.2.1==uO 3)=false:=by rw[hk];rfl
 have e4:(c.2.2.1==uO 4)=false:=by rw[hk];rfl
 have e5:(c.2.2.1==uO 5)=false:=by rw[hk];rfl
 have e6:(c.2.2.1==uO 6)=false:=by rw[hk];rfl
 have e7:(c.2.2.1==uO 7)=false:=by rw[hk];rfl
 have e8:(c.2.2.1==uO 8)=false:=by rw[hk];rfl
 have e9:(c.2.2.1==uO 9)=true:=by rw[hk];rfl
 rw[bPZ hr,hA];rw[hA] at s;unfold model_Do Pa Pb Pc Pd Pe Pf Pg Ph Pi Pj Pk Pl Pm Pn Po Pp Pq Pr Ps Pt Pu Pv Pw Px Py Pz Pza Pzb Pzc Pzd Pze Pzf Pzg Pzh Pzi Pzj Pzk Pzl Pzm Pzn Pzo Pzp Pzq Pzr Pzs Pzt Pzu Pzv Pzw Pzx PH PW PX PZX;rw[aeZ (by decide)];rw[a3Z h,ZAA,ZAK,aRZ,ZAA,axZ,ZAA,hr,ZAK];rw[ZAA,e1,ZAD,e2,ZAD,e3,ZAD,e4,ZAD,e5,ZAD,e6,ZAD,e7,ZAD,e8,ZAD,e9,ZAK,taZ h c,ZAA,ZAA,ZAA];exact b4Z h c s (kaZ m c).1 (kaZ m c).2
theorem vYZ{m}(h:ModelOK m)(c)(hr:rightCall c=true)(hk:c.2.2.1=uO 10):model_Do fuel m c=some (doT (resF m c) c):=by
 let⟨ho,hn,hbs⟩:=a5Z hr
 have s:=beZ h c hn hbs;have hA:actF m c=listA m c:=by unfold actF;rw[hk];rfl
 have e1:(c.2.2.1==uO 1)=false:=by rw[hk];rfl
 have e2:(c.2.2.1==uO 2)=false:=by rw[hk];rfl
 have e3:(c.2.2.1==uO 3)=false:=by rw[hk];rfl
 have e4:(c.2.2.1==uO 4)=false:=by rw[hk];rfl
 have e5:(c.2.2.1==uO 5)=false:=by rw[hk];rfl
 have e6:(c.2.2.1==uO 6)=false:=by rw[hk];rfl
 have e7:(c.2.2.1==uO 7)=false:=by rw[hk];rfl
 have e8:(c.2.2.1==uO 8)=false:=by rw[hk];rfl
 have e9:(c.2.2.1==uO 9)=false:=by rw[hk];rfl
 have e10:(c.2.2.1==uO 10)=true:=by rw[hk];rfl
 rw[bPZ hr,hA];rw[hA] at s;unfold model_Do Pa Pb Pc Pd Pe Pf Pg Ph Pi Pj Pk Pl Pm Pn Po Pp Pq Pr Ps Pt Pu Pv Pw Px Py Pz Pza Pzb Pzc Pzd Pze Pzf Pzg Pzh Pzi Pzj Pzk Pzl Pzm Pzn Pzo Pzp Pzq Pzr Pzs Pzt Pzu Pzv Pzw Pzx PH PW PX PZX;rw[aeZ (by decide)];rw[a3Z h,ZAA,ZAK,aRZ,ZAA,axZ,ZAA,hr,ZAK];rw[ZAA,e1,ZAD,e2,ZAD,e3,ZAD,e4,ZAD,e5,ZAD,e6,ZAD,e7,ZAD,e8,ZAD,e9,ZAD,e10,ZAK,v5Z h c,ZAA,ZAA,ZAA];exact b4Z h c s rfl rfl
theorem vPZ{m}(h:ModelOK m)(c)(hr:rightCall c=true)(hk:c.2.2.1=uO 11):model_Do fuel m c=some (doT (resF m c) c):=by
 let⟨ho,hn,hbs⟩:=a5Z hr
 have s:=beZ h c hn hbs;have hA:actF m c=getA m c:=by unfold actF;rw[hk];rfl
 have e1:(c.2.2.1==uO 1)=false:=by rw[hk];rfl
 have e2:(c.2.2.1==uO 2)=false:=by rw[hk];rfl
 have e3:(c.2.2.1==uO 3)=false:=by rw[hk];rfl
 have e4:(c.2.2.1==uO 4)=false:=by rw[hk];rfl
 have e5:(c.2.2.1==uO 5)=false:=by rw[hk];rfl
 have e6:(c.2.2.1==uO 6)=false:=by rw[hk];rfl
 have e7:(c.2.2.1==uO 7)=false:=by rw[hk];rfl
 have e8:(c.2.2.1==uO 8)=false:=by rw[hk];rfl
 have e9:(c.2.2.1==uO 9)=false:=by rw[hk];rfl
 have e10:(c.2.2.1==uO 10)=false:=by rw[hk];rfl
 have e11:(c.2.2.1==uO 11)=true:=by rw[hk];rfl
 rw[bPZ hr,hA];rw[hA] at s;unfold model_Do Pa Pb Pc Pd Pe Pf Pg Ph Pi Pj Pk Pl Pm Pn Po Pp Pq Pr Ps Pt Pu Pv Pw Px Py Pz Pza Pzb Pzc Pzd Pze Pzf Pzg Pzh Pzi Pzj Pzk Pzl Pzm Pzn Pzo Pzp Pzq Pzr Pzs Pzt Pzu Pzv Pzw Pzx PH PW PX PZX;rw[aeZ (by decide)];rw[a3Z h,ZAA,ZAK,aRZ,ZAA,axZ,ZAA,hr,ZAK];rw[ZAA,e1,ZAD,e2,ZAD,e3,ZAD,e4,ZAD,e5,ZAD,e6,ZAD,e7,ZAD,e8,ZAD,e9,ZAD,e10,ZAD,e11,ZAK,vQZ h c,ZAA,ZAA,ZAA];exact b4Z h c s (tpZ m c).1 (tpZ m c).2
theorem vWZ{m}(h:ModelOK m)(c)(hr:rightCall c=true)(hk:c.2.2.1=uO 12):model_Do fuel m c=some (doT (resF m c) c):=by
 let⟨ho,hn,hbs⟩:=a5Z hr
 have s:=beZ h c hn hbs;have hA:actF m c=statA m:=by unfold actF;rw[hk];rfl
 have e1:(c.2.2.1==uO 1)=false:=by rw[hk];rfl
 have e2:(c.2.2.1==uO 2)=false:=by rw[hk];rfl
 have e3:(c.2.2.1==uO 3)=false:=by rw[hk];rfl
 have e4:(c.2.2.1==uO 4)=false:=by rw[hk];rfl
 have e5:(c.2.2.1==uO 5)=false:=by rw[hk];rfl
 have e6:(c.2.2.1==uO 6)=false:=by rw[hk];rfl
 have e7:(c.2.2.1==uO 7)=false:=by rw[hk];rfl
 have e8:(c.2.2.1==uO 8)=false:=by rw[hk];rfl
 have e9:(c.2.2.1==uO 9)=false:=by rw[hk];rfl
 have e10:(c.2.2.1==uO 10)=false:=by rw[hk];rfl
 have e11:(c.2.2.1==uO 11)=false:=by rw[hk];rfl
 have e12:(c.2.2.1==uO 12)=true:=by rw[hk];rfl
 rw[bPZ hr,hA];rw[hA] at s;unfold model_Do Pa Pb Pc Pd Pe Pf Pg Ph Pi Pj Pk Pl Pm Pn Po Pp Pq Pr Ps Pt Pu Pv Pw Px Py Pz Pza Pzb Pzc Pzd Pze Pzf Pzg Pzh Pzi Pzj Pzk Pzl Pzm Pzn Pzo Pzp Pzq Pzr Pzs Pzt Pzu Pzv Pzw Pzx PH PW PX PZX;rw[aeZ (by decide)];rw[a3Z h,ZAA,ZAK,aRZ,ZAA,axZ,ZAA,hr,ZAK];rw[ZAA,e1,ZAD,e2,ZAD,e3,ZAD,e4,ZAD,e5,ZAD,e6,ZAD,e7,ZAD,e8,ZAD,e9,ZAD,e10,ZAD,e11,ZAD,e12,ZAK,vMZ h c,ZAA,ZAA,ZAA];exact b4Z h c s rfl rfl
theorem pfZ{m}(h:ModelOK m)(c:CallT):model_Do fuel m c=some (doT (resF m c) c):=by
 cases hr:rightCall c with
 |true=>
  rcases iZZ hr with hk|hk|hk|hk|hk|hk|hk|hk|hk|hk|hk|hk
  ·exact do_1 h c hr hk
  ·exact do_2 h c hr hk
  ·exact do_3 h c hr hk
  ·exact do_4 h c hr hk
  ·exact do_5 h c hr hk
  ·exact do_6 h c hr hk
  ·exact do_7 h c hr hk
  ·exact do_8 h c hr hk
  ·exact do_9 h c hr hk
  ·exact vYZ h c hr hk
  ·exact vPZ h c hr hk
  simp_all[vWZ]
 |false=>
  have e:resF m c=finF m (179,m,rep0):=by unfold resF finF;rw[hr,ZAM (by simp),ZAM (show¬((179:Int)=0) by decide)]
  rw[e];unfold model_Do Pa Pb Pc Pd Pe Pf Pg Ph Pi Pj Pk Pl Pm Pn Po Pp Pq Pr Ps Pt Pu Pv Pw Px Py Pz Pza Pzb Pzc Pzd Pze Pzf Pzg Pzh Pzi Pzj Pzk Pzl Pzm Pzn Pzo Pzp Pzq Pzr Pzs Pzt Pzu Pzv Pzw Pzx PH PW PX PZX;rw[aeZ (by decide)];rw[a3Z h,ZAA,aRZ,ZAA,axZ,ZAA,hr,ZAD,ZAA];exact b4Z h c (q:=(179,m,rep0)) (.same h rfl) rfl rfl
abbrev EntT:Type:=List UInt8×Int
abbrev ReplyT:Type:=Int×(Int×(Int×((Int×Int)×(Bool×(Int×(List UInt8×(List EntT×(Bool×Int))))))))
def whoseB3(a b:Int):Bool:=decide (0<=a/\a<16/\1<=b/\b<=1099511627776)
theorem qeZ(a b):cwho fuel a b=some (whoseB3 a b):=by
 grind[cwho,whoseB3]
def handleB3(h:Int×Int):Bool:=decide (1<=h.1/\h.1<=500/\1<=h.2/\h.2<=1099511627776)
theorem oPZ(h):hRig fuel h=some (handleB3 h):=by
 grind[hRig,handleB3]
def entOk(e:EntT):Bool:=decide (1<=e.1.length/\e.1.length<=100/\1<=e.2/\e.2<=500)
def noneB(h:Int×Int):Bool:=(h.1==0)&&(h.2==0)
def rightReply(r:ReplyT):Bool:=
 whoseB3 r.1 r.2.1&&(decide (0<=r.2.2.1/\r.2.2.1<=1000)&&(if r.2.2.1≠0 then
  noneB r.2.2.2.1&&(!r.2.2.2.2.1&&(!r.2.2.2.2.2.2.2.2.1&&((r.2.2.2.2.2.1==0)&&((r.2.2.2.2.2.2.2.2.2==0)&&decide (r.2.2.2.2.2.2.1=[]/\r.2.2.2.2.2.2.2.1=[])))))
 else(noneB r.2.2.2.1||handleB3 r.2.2.2.1)&&(decide (0<=r.2.2.2.2.2.1/\r.2.2.2.2.2.1<=65536)&&(decide (0<=r.2.2.2.2.2.2.2.2.2/\r.2.2.2.2.2.2.2.2.2<=1099511627776)&&
  (r.2.2.2.2.2.2.2.1.all entOk&&(decide (r.2.2.2.2.2.2.1.length<=4096)&&decide (r.2.2.2.2.2.2.2.1.length<=100)))))))
theorem tWZ{b0}{x1 x2 x3 h1 h2}{d}{sz}{bs}{es:List EntT}{mo}{fr}(ad:es.length<4611686018427387904):
 cRigRep_l0_it fuel (b0,(x1,(x2,(x3,(h1,(h2,(d,(sz,(bs,(es,(mo,fr))))))))))) (0,(x1,(x2,(x3,(h1,(h2,(d,(sz,(bs,(es,(mo,fr)))))))))))=some (if es.all entOk=true then .inl (x1,(x2,(x3,(h1,(h2,(d,(sz,(bs,(es,(mo,fr)))))))))) else .inr false):=by
 unfold cRigRep_l0_it;have:=aAZ (f:=λtt:Int×(Int×(Int×(Int×(Int×(Int×(Bool×(Int×(List UInt8×(List EntT×(Bool×Int))))))))))=>cRigRep_l0 fuel (b0,(x1,(x2,(x3,(h1,(h2,(d,(sz,(bs,(es,(mo,fr))))))))))) tt.1 tt.2.1 tt.2.2.1 tt.2.2.2.1 tt.2.2.2.2.1 tt.2.2.2.2.2.1 tt.2.2.2.2.2.2.1 tt.2.2.2.2.2.2.2.1 tt.2.2.2.2.2.2.2.2.1 tt.2.2.2.2.2.2.2.2.2.1 tt.2.2.2.2.2.2.2.2.2.2.1 tt.2.2.2.2.2.2.2.2.2.2.2)
  (λn s=>∃k:Nat,s=((k:Int),(x1,(x2,(x3,(h1,(h2,(d,(sz,(bs,(es,(mo,fr)))))))))))/\k+n=es.length/\(es.take k).all entOk=true)
  (λo=>o=if es.all entOk=true then .inl (x1,(x2,(x3,(h1,(h2,(d,(sz,(bs,(es,(mo,fr)))))))))) else .inr false)
  (λn s ⟨k,hs,hk,ha⟩=>by
   subst hs;have aa:k<es.length:=by omega
   show(∃s',cRigRep_l0 fuel _ (k:Int) x1 x2 x3 h1 h2 d sz bs es mo fr=_/\_)\/∃o,cRigRep_l0 fuel _ (k:Int) x1 x2 x3 h1 h2 d sz bs es mo fr=_/\_;unfold cRigRep_l0;simp only;rw[ZAJ (show(k:Int)<((es.length:Nat):Int) by omega),adZ aa,w64 ⟨by omega,by omega⟩];simp only[ZAK,ZAA,ZAC aa];have ac:(es.take (k+1)).all entOk=((es.take k).all entOk&&entOk es[k]):=by rw[ZA9 aa,List.all_append];simp
   have ab:entOk es[k]=false->es.all entOk=false:=λh=>by
    rw[List.all_eq_false];exact⟨es[k],ZBK aa,by rw[h];simp⟩
   generalize es[k]=en at ac ab⊢
   let⟨nm,id⟩:=en
   by_cases g:entOk (nm,id)=true
   ·left;have g':=g;unfold entOk at g';simp only[ZAs] at g';rw[ZAE (show¬((nm.length:Nat):Int)<1 by omega),ZAE (show¬((nm.length:Nat):Int)>100 by omega),ZAE (show¬id<1 by omega),ZAE (show¬id>500 by omega)];exact⟨_,rfl,k+1,rfl,by omega,by rw[ac,ha,g];rfl⟩
   ·right;have g0:=by simpa using g
    rw[ab g0];refine⟨_,?_,rfl⟩;have g':=g0;unfold entOk at g';simp only[ZBA] at g';by_cases q1:((nm.length:Nat):Int)<1
    ·rw[ZAJ q1];rfl
    ·by_cases q2:((nm.length:Nat):Int)>100
     ·rw[ZAE q1,ZAJ q2];rfl
     ·by_cases q3:id<1
      ·rw[ZAE q1,ZAE q2,ZAJ q3];rfl
      ·have q4:id>500:=by omega
       rw[ZAE q1,ZAE q2,ZAE q3,ZAJ q4];rfl)
  (λs ⟨k,hs,hk,ha⟩=>by
   subst hs;have:k=es.length:=by omega
   subst this;rw[ZAv] at ha;rw[ha];refine⟨_,?_,rfl⟩;show cRigRep_l0 fuel _ ((es.length:Nat):Int) x1 x2 x3 h1 h2 d sz bs es mo fr=_;unfold cRigRep_l0;simp only;rw[dFo]
   rfl)
  es.length (0,(x1,(x2,(x3,(h1,(h2,(d,(sz,(bs,(es,(mo,fr))))))))))) ad ⟨0,rfl,by omega,by simp⟩
 simp_all
theorem eCZ{r:ReplyT}(hb:r.2.2.2.2.2.2.1.length<1000000000000000000)(he:r.2.2.2.2.2.2.2.1.length<1000000000000000000):cRigRep fuel r=some (rightReply r):=by
 let⟨x1,x2,x3,⟨h1,h2⟩,d,sz,bs,es,mo,fr⟩:=r
 simp only at hb he;unfold cRigRep rightReply Pa Pb Pc Pd Pe Pf Pg Ph Pi Pj PC PJ;simp only;rw[qeZ];simp only[ZAA];cases whoseB3 x1 x2 with
 |false=>rfl
 |true=>
  simp only[ZAO,ZAD,ZBQ];by_cases e1:x3<0
  ·grind
  by_cases e2:x3>1000
  ·grind
  rw[ZAE e1,ZAE e2,ZAJ (show 0<=x3/\x3<=1000 by omega)];simp only[ZAD,ZAA,ZBQ];by_cases e3:x3=0
  ·rw[iNo,ZB2.2 e3];simp only[ZAO,ZAD];have hn:((h1==0)&&(h2==0))=noneB (h1,h2):=rfl;rw[hn];have tail:∀b0,(bif b0 then some false else(cRigRep_l0_it fuel (b0,(x1,(x2,(x3,(h1,(h2,(d,(sz,(bs,(es,(mo,fr))))))))))) (0,(x1,(x2,(x3,(h1,(h2,(d,(sz,(bs,(es,(mo,fr)))))))))))).bind λo4=>
    match o4 with
    |.inl s=>
     bif (decide (((s.2.2.2.2.2.2.2.1.length:Nat):Int)<=4096)) then
      some (decide (((s.2.2.2.2.2.2.2.2.1.length:Nat):Int)<=100))
     else
      some false
    |.inr o5=>
     some o5)=some (!b0&&(es.all entOk&&(decide (bs.length<=4096)&&decide (es.length<=100)))):=by
    intro b0;cases b0 with
    |true=>rfl
    |false=>
     simp only[ZAD,ZAk,ZBQ];rw[tWZ (by omega)];simp only[ZAA];cases es.all entOk with
     |false=>rfl
     |true=>
      simp only[ZCn,ZBQ]
      grind[ZAJ,ZAE]
   have aa:∀z:Bool,(bif decide (sz<0) then some (true,(x1,(x2,(x3,(h1,(h2,(d,(sz,(bs,(es,(mo,fr))))))))))) else bif decide (sz>65536) then some (true,(x1,(x2,(x3,(h1,(h2,(d,(sz,(bs,(es,(mo,fr))))))))))) else bif decide (fr<0) then some (true,(x1,(x2,(x3,(h1,(h2,(d,(sz,(bs,(es,(mo,fr))))))))))) else some (decide (fr>1099511627776),(x1,(x2,(x3,(h1,(h2,(d,(sz,(bs,(es,(mo,fr))))))))))))=some (!(decide (0<=sz/\sz<=65536)&&decide (0<=fr/\fr<=1099511627776)),(x1,(x2,(x3,(h1,(h2,(d,(sz,(bs,(es,(mo,fr))))))))))):=by
    intro _;by_cases q1:sz<0
    ·simp_all
    by_cases q2:sz>65536
    ·simp_all
    rw[ZAE q1,ZAE q2,ZAJ (show 0<=sz/\sz<=65536 by omega)];by_cases q3:fr<0
    ·simp_all
    by_cases q4:fr>1099511627776
    ·simp_all
    rw[ZAE q3,ZAE q4,ZAJ (show 0<=fr/\fr<=1099511627776 by omega)];rfl
   cases ab:noneB (h1,h2) with
   |true=>
    simp only[ZAO,ZAD,Bool.true_or,ZBQ];rw[aa true];simp only[ZAA];refine(tail _).trans ?_
    grind
   |false=>
    simp only[ZAk,ZAK,Bool.false_or];rw[oPZ];simp only[ZAA];cases handleB3 (h1,h2) with
    |false=>rfl
    |true=>
     simp only[ZAO,ZAD,ZBQ];rw[aa true];simp only[ZAA];refine(tail _).trans ?_;simp only[Bool.not_not,ZCP]
  ·rw[ZAN e3,ZAW.2 e3];simp only[ZAk,ZAK];have hn:((h1==0)&&(h2==0))=noneB (h1,h2):=rfl;rw[hn,w64 ⟨by omega,by omega⟩];have hl:((((bs.length:Nat):Int)+((es.length:Nat):Int))==0)=decide (bs=[]/\es=[]):=by
    by_cases q:bs=[]/\es=[]
    ·obtain⟨rfl,rfl⟩:=q
     rfl
    ·rw[ZAE q,ZAW];intro hc;apply q;exact⟨ZAX (by omega),ZAX (by omega)⟩
   rw[hl];cases noneB (h1,h2)<;>cases d<;>cases mo<;>cases(sz==0)<;>cases(fr==0)<;>rfl
theorem orK{α:Type}(a b)(S:α):(bif a then some (true,S) else some (b,S))=some (a||b,S):=by grind
theorem andK2(a b):(bif a then some b else some false)=some (a&&b):=by grind
end Go.Ab.D
namespace Go.Ab
def runL{α σ ο:Type}(step:Nat->σ->α->σ⊕ο)(fin:σ->ο):Nat->σ->List α->ο
 |_,a,[]=>fin a
 |k,a,x::l=>match step k a x with
  |.inl a'=>runL step fin (k+1) a' l
  |.inr o=>o
section
variable {α σ τ ο : Type}
theorem mtZ(l:List α)(f)(S:Nat->σ->τ)(step)(fin:σ->ο)(I:Nat->σ->Prop)(hl:l.length<4611686018427387904)
 (hs:∀k x a,l[k]? =some x->I k a->f (S k a)=some (match step k a x with|.inl a'=>.inl (S (k+1) a')|.inr o=>.inr o)/\∀a',step k a x= .inl a'->I (k+1) a')
 (he:∀a,I l.length a->f (S l.length a)=some (.inr (fin a)))(k0)(hk:k0<=l.length)(a0)(h0:I k0 a0):iter fuel f (S k0 a0)=some (runL step fin k0 a0 (l.drop k0)):=by
 have aa:∀(n m k:Nat) (a:σ),k+n=l.length->n<m->I k a->iter m f (S k a)=some (runL step fin k a (l.drop k)):=by
  intro n;induction n with
  |zero=>
   intro m k a hk hm hi;obtain rfl:k=l.length:=by omega
   obtain⟨m,rfl⟩:∃q,m=q+1:=⟨m-1,by omega⟩;rw[cqZ (he a hi),List.drop_length]
   rfl
  |succ n ih=>
   intro m k a hk hm hi;have ab:k<l.length:=by omega
   obtain⟨m,rfl⟩:∃q,m=q+1:=⟨m-1,by omega⟩;obtain⟨h1,h2⟩:=hs k _ a (ZAC ab) hi;rw[ZBT ab];show _=some (match step k a l[k] with|.inl a'=>runL step fin (k+1) a' (l.drop (k+1))|.inr o=>o);cases hq:step k a l[k] with
   |inl a'=>
    rw[hq] at h1;rw[dHZ h1];exact ih m (k+1) a' (by omega) (by omega) (h2 a' hq)
   |inr o=>
    rw[hq] at h1;rw[cqZ h1]
 exact aa (l.length-k0) fuel k0 a0 (by omega) (by unfold fuel;omega) h0
theorem mzZ(l)(f)(S:Nat->σ->τ)(step:Nat->σ->α->σ⊕ο)(fin)(I:Nat->σ->Prop)(hl:l.length<4611686018427387904)
 (hs:∀k x a,l[k]? =some x->I k a->f (S k a)=some (match step k a x with|.inl a'=>.inl (S (k+1) a')|.inr o=>.inr o)/\∀a',step k a x= .inl a'->I (k+1) a')
 (he:∀a,I l.length a->f (S l.length a)=some (.inr (fin a)))(a0)(h0:I 0 a0):iter fuel f (S 0 a0)=some (runL step fin 0 a0 l):=
 mtZ l f S step fin I hl hs he 0 (ZBG _) a0 h0
theorem pyZ(f)(n N)(hn:n<=N)(hN:N<=1000000000000)
 (hs:∀i j:Nat,i<j->j<=N->f ((i:Int),(j:Int))=some (.inl (if(i+j)/2<n then((((i+j)/2+1:Nat):Int),(j:Int)) else((i:Int),(((i+j)/2:Nat):Int)))))
 (he:∀i:Nat,f ((i:Int),(i:Int))=some (.inr (i:Int))):iter fuel f (0,(N:Int))=some (n:Int):=by
 have:=aAZ (f:=f) (λm s=>∃i j:Nat,s=((i:Int),(j:Int))/\i<=n/\n<=j/\j<=N/\j-i<=m) (λo=>o=(n:Int)) (λm s hI=> ?_) (λs hI=> ?_) N (0,(N:Int)) (by omega) ⟨0,N,rfl,by omega,hn,by omega,by omega⟩
 ·let⟨o,h1,h2⟩:=this;rw[h1,h2]
 ·obtain⟨i,j,rfl,h1,h2,h3,h4⟩:=hI;by_cases aa:i<j
  ·left;rw[hs i j aa h3];by_cases hc:(i+j)/2<n
   ·rw[ZAN hc];exact⟨_,rfl,(i+j)/2+1,j,rfl,by omega,by omega,h3,by omega⟩
   ·rw[ZAM hc];exact⟨_,rfl,i,(i+j)/2,rfl,by omega,by omega,by omega,by omega⟩
  ·right;obtain rfl:i=j:=by omega
   exact⟨_,he i,by omega⟩
 grind
end
theorem r3Z{i j:Nat}(h:i+j<=4000000000000):wI (Int.fdiv (IntKind.wrap .u64 (wI ((i:Int)+(j:Int)))) 2)=(((i+j)/2:Nat):Int):=by
 grind[w64,wu64,mVZ]
def pre{α:Type}(p:α->Bool):List α->Nat
 |[]=>0
 |x::l=>if p x=true then pre p l+1 else 0
theorem gdZ{α}(p):∀l:List α,pre p l<=l.length
 |[]=>ZAL _
 |x::l=>by
  unfold pre;split
  ·have:=gdZ p l;simp;omega
  ·omega
theorem qQZ{α}(p):∀(l) (k) (x:α),k<pre p l->l[k]? =some x->p x=true
 |[],k,x,h,hx=>by grind
 |y::l,0,x,h,hx=>by
  grind[pre]
 |y::l,k+1,x,h,hx=>by
  unfold pre at h;split at h
  ·exact qQZ p l k x (by omega) (by simpa using hx)
  ·omega
theorem tyZ{α}(p):∀(l) (x:α),l[pre p l]? =some x->p x=false
 |[],x,hx=>by grind
 |y::l,x,hx=>by
  unfold pre at hx;split at hx
  ·exact tyZ p l x (by simpa using hx)
  ·rename_i hp;simp at hx;subst hx;simpa using hp
theorem s0Z{α}(p):∀(l:List α),∀x∈l.take (pre p l),p x=true:=λl x hx=>by
 grind[ZAQ,ZAn,qQZ]
end Go.Ab
namespace Go.Ab.D
open Go Go.Ab
abbrev KeptT:Type:=Int×(Int×List ReplyT)
abbrev CacheT:Type:=Int×List KeptT
theorem hMZ{α}{l:List α}{c}(hc:c=true):(nilQ l.length λisNil=>bif isNil then some [] else need c<|some l)=some l:=by
 subst hc;rw[cGZ (λh0=>by
  have:=ZAX h0;subst this
  rfl)]
 rfl
theorem tmZ{l}(h:l.length<=1000000000):sClo4 fuel l=some l:=hMZ (by grind[aUZ,atZ])
theorem tuZ{l:List EntT}(h:l.length<=1000000000):sClo fuel l=some l:=hMZ (by grind[aUZ,atZ])
theorem t6Z{l:List KeptT}(h:l.length<=1000000000):sClo6 fuel l=some l:=hMZ (by grind[aUZ,atZ])
theorem t2Z{l:List ReplyT}(h:l.length<=1000000000):sClo5 fuel l=some l:=hMZ (by grind[aUZ,atZ])
def smallR(r:ReplyT):Prop:=r.2.2.2.2.2.2.1.length<=100000/\r.2.2.2.2.2.2.2.1.length<=100000
def smallK(k:KeptT):Prop:=k.2.2.length<=1000/\∀r∈k.2.2,smallR r
def smallC(c:CacheT):Prop:=c.2.length<=1000/\∀k∈c.2,smallK k
def ownO(r:ReplyT):Int×(Int×(Int×(Int×(Int×(Bool×(Int×(Bool×(Int×(List UInt8×List EntT))))))))):=
 (r.1,(r.2.1,(r.2.2.1,(r.2.2.2.1.1,(r.2.2.2.1.2,(r.2.2.2.2.1,(r.2.2.2.2.2.1,(r.2.2.2.2.2.2.2.2.1,(r.2.2.2.2.2.2.2.2.2,(r.2.2.2.2.2.2.1,r.2.2.2.2.2.2.2.1))))))))))
theorem rDZ{r}(h:smallR r):rown fuel r=some (ownO r):=by
 unfold rown;rw[tmZ (by have:=h.1;omega),tuZ (by have:=h.2;omega)]
 rfl
def rightOf(cl:Int):Int->List ReplyT->Bool
 |_,[]=>true
 |aa,r::l=>(r.1==cl)&&(decide (aa<r.2.1)&&(rightReply r&&rightOf cl r.2.1 l))
def keptB(w:Int)(k:KeptT):Bool:=decide (0<=k.2.1)&&(decide (k.2.1<=1099511627776)&&(decide (((k.2.2.length:Nat):Int)<=w)&&rightOf k.1 k.2.1 k.2.2))
def clientsB(w:Int):Int->List KeptT->Bool
 |_,[]=>true
 |aa,k::l=>decide (aa<k.1)&&(decide (k.1<16)&&(keptB w k&&clientsB w k.1 l))
def rightC(c:CacheT):Bool:=clientsB c.1 (-1) c.2&&decide (1<=c.1/\c.1<=100)
theorem sxZ(r)(last cl gone)(l:List ReplyT)(h:smallR r):rkep1 fuel r last cl gone l=some (!((r.1==cl)&&(decide (last<r.2.1)&&rightReply r)),(r.2.1,(cl,(gone,l)))):=by
 unfold rkep1;have e:=eCZ (r:=r) (by have:=h.1;omega) (by have:=h.2;omega)
 grind
theorem l4Z(cl gone)(l:List ReplyT)(hl:l.length<=1000)(h:∀r∈l,smallR r):∃st,sConFun3 fuel l gone cl gone l=some (!rightOf cl gone l,st):=by
 unfold sConFun3 sIndFun3 sIndFun3_l0_it;have:=mzZ l (λtt:Int×(Int×(Int×(Int×List ReplyT)))=>sIndFun3_l0 fuel l tt.1 tt.2.1 tt.2.2.1 tt.2.2.2.1 tt.2.2.2.2)
  (λk last=>((k:Int),(last,(cl,(gone,l)))))
  (λk last r=>if((r.1==cl)&&(decide (last<r.2.1)&&rightReply r))=true then .inl r.2.1 else .inr (.inr ((k:Int),(r.2.1,(cl,(gone,l))))))
  (λlast=>.inl (last,(cl,(gone,l)))) (λ_ _=>True) (by omega)
  (λk r last hr _=>by
   have hk:=(ZAB.1 hr).1;refine⟨?_,λ_ _=>trivial⟩;show sIndFun3_l0 fuel l (k:Int) last cl gone l=_;unfold sIndFun3_l0;rw[dTo,adZ hk];simp only[ZAA,hr];rw[sxZ r last cl gone l (h r (ZAI hr)),w64 ⟨by omega,by omega⟩];cases(r.1==cl)&&(decide (last<r.2.1)&&rightReply r)<;>rfl)
  (λlast _=>by
   show sIndFun3_l0 fuel l ((l.length:Nat):Int) last cl gone l=_;unfold sIndFun3_l0;rw[dFo]
   rfl) gone trivial
 have this':iter fuel (λtt:Int×(Int×(Int×(Int×List ReplyT)))=>sIndFun3_l0 fuel l tt.1 tt.2.1 tt.2.2.1 tt.2.2.2.1 tt.2.2.2.2) (0,(gone,(cl,(gone,l))))=_:=this;rw[this'];have g:∀(m) (k) (last),(∃s,runL (λk last r=>if((r.1==cl)&&(decide (last<r.2.1)&&rightReply r))=true then .inl r.2.1 else .inr (.inr ((k:Int),(r.2.1,(cl,(gone,l)))))) (λlast=>(.inl (last,(cl,(gone,l))):(Int×(Int×(Int×List ReplyT)))⊕(Int×(Int×(Int×(Int×List ReplyT)))))) k last m= .inl s/\rightOf cl last m=true)\/∃(n:Nat) (s:_),runL (λk last r=>if((r.1==cl)&&(decide (last<r.2.1)&&rightReply r))=true then .inl r.2.1 else .inr (.inr ((k:Int),(r.2.1,(cl,(gone,l)))))) (λlast=>(.inl (last,(cl,(gone,l))):(Int×(Int×(Int×List ReplyT)))⊕(Int×(Int×(Int×(Int×List ReplyT)))))) k last m= .inr ((n:Int),s)/\rightOf cl last m=false:=by
  intro m;induction m with
  |nil=>intro k last;exact .inl ⟨_,rfl,rfl⟩
  |cons r m ih=>
   intro k last;unfold runL rightOf;by_cases q:((r.1==cl)&&(decide (last<r.2.1)&&rightReply r))=true
   ·simp only[q];simp only[ZAF] at q;simp only[q.1,q.2.1,q.2.2];exact ih (k+1) r.2.1
   ·simp only[q];refine .inr ⟨k,_,rfl,?_⟩;rw[<-Bool.and_assoc,<-Bool.and_assoc,ZCP (r.1==cl)];simp only[q,Bool.false_and]
 rcases g l 0 gone with⟨s,h1,h2⟩|⟨n,s,h1,h2⟩
 ·rw[h1,h2];exact⟨_,rfl⟩
 ·rw[h1,h2];simp only[ZAA];rw[ZAJ (show(n:Int)>=0 by omega)];exact⟨_,rfl⟩
theorem uEZ(k)(w)(h:smallK k):rkep fuel k w=some (keptB w k):=by
 unfold rkep keptB
 let⟨st,aa⟩:=l4Z k.1 k.2.1 k.2.2 h.1 h.2<;>grind
theorem iSZ(c)(h:smallC c):rRig fuel c=some (rightC c):=by
 let⟨w,ks⟩:=c
 unfold rRig rRig_l0_it rightC;have:=mzZ ks (λtt:Int×(Int×(Int×List KeptT))=>rRig_l0 fuel (w,ks) tt.1 tt.2.1 tt.2.2.1 tt.2.2.2)
  (λk last=>(last,((k:Int),(w,ks))))
  (λ_ last k=>if(decide (last<k.1)&&(decide (k.1<16)&&keptB w k))=true then .inl k.1 else .inr (.inr false))
  (λ_=>.inl (w,ks)) (λ_ _=>True) (by have:=h.1;simp at this;omega)
  (λn k last hk _=>by
   have hn:=(ZAB.1 hk).1;have h1:=h.1;simp at h1;refine⟨?_,λ_ _=>trivial⟩;show rRig_l0 fuel (w,ks) last (n:Int) w ks=_;unfold rRig_l0;simp only;rw[dTo,adZ hn];simp only[ZAA,hk];have e:=uEZ k w (h.2 k (ZAI hk));rw[e,w64 ⟨by omega,by omega⟩];simp only[ZAA];by_cases q1:last<k.1
   ·by_cases q2:k.1<16
    ·rw[ZAJ q1,ZAJ q2,ZAE (show¬k.1<=last by omega),ZAE (show¬k.1>=16 by omega)];cases keptB w k<;>rfl
    ·rw[ZAJ q1,ZAE q2,ZAE (show¬k.1<=last by omega),ZAJ (show k.1>=16 by omega)]
     rfl
   ·rw[ZAE q1,ZAJ (show k.1<=last by omega)]
    rfl)
  (λlast _=>by
   show rRig_l0 fuel (w,ks) last ((ks.length:Nat):Int) w ks=_;unfold rRig_l0;simp only;rw[dFo]
   rfl) (-1) trivial
 have this':iter fuel (λtt:Int×(Int×(Int×List KeptT))=>rRig_l0 fuel (w,ks) tt.1 tt.2.1 tt.2.2.1 tt.2.2.2) (-1,(0,(w,ks)))=_:=this;simp only;rw[this'];have g:∀(m) (k) (last),runL (λ_ last k=>if(decide (last<k.1)&&(decide (k.1<16)&&keptB w k))=true then .inl k.1 else .inr (.inr false)) (λ_=>(.inl (w,ks):(Int×List KeptT)⊕Bool)) k last m=if clientsB w last m=true then .inl (w,ks) else .inr false:=by
  intro m;induction m with
  |nil=>intro k last;rfl
  |cons x m ih=>
   intro k last;unfold runL clientsB;by_cases q:(decide (last<x.1)&&(decide (x.1<16)&&keptB w x))=true
   ·simp only[q,ZCn];simp only[ZAF] at q;simp only[q.1,q.2.1,q.2.2,ZBQ];exact ih (k+1) x.1
   ·simp only[q];rw[<-Bool.and_assoc,<-Bool.and_assoc,ZCP (decide (last<x.1))];simp only[q,Bool.false_and]
    rfl
 grind
section
variable {α : Type} {key : α → Int}
theorem ipZ{l}(hs:(l.map key).Pairwise (·<·))(x):∀(i) (a),l[i]? =some a->(key a<x↔i<pre (λa=>decide (key a<x)) l):=by
 intro i a ha;constructor
 ·grind[tyZ,ZAC,ZCj,ZBp]
 ·intro h;exact of_decide_eq_true (qQZ _ l i a h ha)
theorem iDZ{l}(hs:(l.map key).Pairwise (·<·))(x):(match l[pre (λa=>decide (key a<x)) l]? with|some a=>if key a=x then some a else none|none=>none)=l.find? (λa=>key a==x):=by
 induction l with
 |nil=>rfl
 |cons b l ih=>
  simp[ZA3] at hs;unfold pre
  grind
end
theorem giZ{cl}:∀{l} {aa},rightOf cl aa l=true↔(l.map (·.2.1)).Pairwise (·<·)/\∀r∈l,r.1=cl/\aa<r.2.1/\rightReply r=true
 |[],aa=>by simp[rightOf]
 |r::l,aa=>by
  unfold rightOf;simp only[ZAF,giZ,ZCq,ZA3,ZBf]
  grind
theorem frZ{w}:∀{l} {aa},clientsB w aa l=true↔(l.map (·.1)).Pairwise (·<·)/\∀k∈l,aa<k.1/\k.1<16/\keptB w k=true
 |[],aa=>by simp[clientsB]
 |k::l,aa=>by
  unfold clientsB;simp[frZ,ZBf]
  grind
theorem ckZ{w}{k}:keptB w k=true↔0<=k.2.1/\k.2.1<=1099511627776/\((k.2.2.length:Nat):Int)<=w/\(k.2.2.map (·.2.1)).Pairwise (·<·)/\∀r∈k.2.2,r.1=k.1/\k.2.1<r.2.1/\rightReply r=true:=by
 simp_all[keptB,giZ]
theorem b3Z{c}:rightC c=true↔(1<=c.1/\c.1<=100)/\(c.2.map (·.1)).Pairwise (·<·)/\∀k∈c.2,0<=k.1/\k.1<16/\keptB c.1 k=true:=by
 unfold rightC;simp[frZ]
 grind
theorem bDZ{r}(h:rightReply r=true):(0<=r.1/\r.1<16)/\1<=r.2.1/\r.2.1<=1099511627776:=by
 simp_all[rightReply,whoseB3,ZAs]
theorem bkZ{r}(h:rightReply r=true):smallR r:=by
 unfold rightReply at h;simp only[ZAF] at h;have h2:=h.2.2;split at h2
 ·simp_all[smallR]
 ·grind[smallR]
theorem qYZ{l:List Int}(h:l.Pairwise (·<·))(hb:∀x∈l,0<=x/\x<16):l.length<=16:=by
 have h2:∀(l:List Int) (a),l.Pairwise (·<·)->(∀x∈l,a<=x/\x<16)->a<=16->(l.length:Int)<=16-a:=by
  intro l;induction l with
  |nil=>simp_all
  |cons x l ih=>
   intro a hp hb ha;rw[ZA3] at hp;have hx:=hb x (by simp);have:=ih (x+1) hp.2 (λy hy=>⟨by have:=hp.1 y hy;omega,(hb y (by simp[hy])).2⟩) (by omega)
   grind
 have:=h2 l 0 h hb (by omega);omega
theorem bnZ{c}(h:rightC c=true):smallC c:=by
 let⟨h1,h2,h3⟩:=b3Z.1 h
 refine⟨?_,λk hk=> ?_⟩
 ·have:=qYZ h2 (λx hx=>by
   obtain⟨k,hk,rfl⟩:=ZBf.1 hx;exact⟨(h3 k hk).1,(h3 k hk).2.1⟩)
  grind
 ·let⟨g1,g2,g3,g4,g5⟩:=ckZ.1 (h3 k hk).2.2
  exact⟨by omega,λr hr=>bkZ (g5 r hr).2.2⟩
def cliAt(ks:List KeptT)(x:Int):Nat:=pre (λk=>decide (k.1<x)) ks
def repAt(l:List ReplyT)(x:Int):Nat:=pre (λr=>decide (r.2.1<x)) l
def kOf(ks:List KeptT)(x:Int):Option KeptT:=ks.find? λk=>k.1==x
def rOf(l:List ReplyT)(x:Int):Option ReplyT:=l.find? λr=>r.2.1==x
theorem t9Z{w}{ks:List KeptT}(hl:ks.length<=1000)(hs:(ks.map (·.1)).Pairwise (·<·))(hb:∀k∈ks,0<=k.1/\k.1<16){x}(hx:0<=x/\x<16):
 rof fuel (w,ks) x=some (((cliAt ks x:Nat):Int),(kOf ks x).isSome):=by
 unfold rof sBinSeaFu3 sBinSeaFu3_l0_it;have hle:cliAt ks x<=ks.length:=gdZ _ _;have h1:∀k∈ks,rof1 fuel k x=some (k.1-x):=λk hk=>by
  unfold rof1;have:=hb k hk;rw[w64 ⟨by omega,by omega⟩]
 have:=pyZ (λtt:Int×Int=>sBinSeaFu3_l0 fuel ks x tt.1 tt.2) (cliAt ks x) ks.length hle (by omega)
  (λi j hij hj=>by
   show sBinSeaFu3_l0 fuel ks x (i:Int) (j:Int)=_;unfold sBinSeaFu3_l0;have hh:(i+j)/2<ks.length:=by omega
   rw[ZAJ (show(i:Int)<(j:Int) by omega),r3Z (by omega),adZ hh];simp[ZAC hh];rw[h1 _ (ZBK hh),w64 ⟨by omega,by omega⟩];simp;have hp:=ipZ hs x ((i+j)/2) _ (ZAC hh);by_cases hc:(i+j)/2<cliAt ks x
   ·have hk:=hp.2 hc;rw[ZAN hc,ZAJ (show ks[(i+j)/2].1-x<0 by omega)];simp
   ·have hk:¬ks[(i+j)/2].1<x:=λh=>hc (hp.1 h);rw[ZAM hc,ZAE (show¬ks[(i+j)/2].1-x<0 by omega)];simp)
  (λi=>by
   show sBinSeaFu3_l0 fuel ks x (i:Int) (i:Int)=_;unfold sBinSeaFu3_l0;rw[dFo]
   rfl)
 simp only;rw[this];simp only[ZAA];have hf:=iDZ hs x;by_cases hc:cliAt ks x<ks.length
 ·rw[dTo,adZ hc];simp only[ZAK,ZAA,ZAC hc];rw[h1 _ (ZBK hc)];unfold kOf;rw[<-hf];have:ks[pre (λk=>decide (k.1<x)) ks]? =some ks[cliAt ks x]:=ZAC hc;rw[this];simp only[ZAA];by_cases he:ks[cliAt ks x].1=x
  ·rw[ZAN he,ZB2.2 (by omega)];rfl
  ·rw[ZAM he,ZAW.2 (by omega)];rfl
 grind[ZAE,kOf,pre,ZAt,cliAt]
theorem idZ(r:ReplyT)(x):rcom fuel r x=some (if r.2.1<x then-1 else if r.2.1>x then 1 else 0):=by
 unfold rcom
 grind
theorem kYZ{l:List ReplyT}(hl:l.length<=1000)(hs:(l.map (·.2.1)).Pairwise (·<·)){x}:
 sBinSeaFu fuel l x=some (((repAt l x:Nat):Int),(rOf l x).isSome):=by
 unfold sBinSeaFu sBinSeaFu_l0_it;have hle:repAt l x<=l.length:=gdZ _ _;have:=pyZ (λtt:Int×Int=>sBinSeaFu_l0 fuel l x tt.1 tt.2) (repAt l x) l.length hle (by omega)
  (λi j hij hj=>by
   show sBinSeaFu_l0 fuel l x (i:Int) (j:Int)=_;unfold sBinSeaFu_l0;have hh:(i+j)/2<l.length:=by omega
   rw[ZAJ (show(i:Int)<(j:Int) by omega),r3Z (by omega),adZ hh];simp[ZAC hh];rw[idZ,w64 ⟨by omega,by omega⟩];simp[ZAA];have hp:=ipZ hs x ((i+j)/2) _ (ZAC hh);by_cases hc:(i+j)/2<repAt l x
   ·have hk:=hp.2 hc;rw[ZAN hc,ZAN hk];simp
   ·have hk:=λh=>hc (hp.1 h);rw[ZAM hc,ZAM hk];by_cases h2:l[(i+j)/2].2.1>x
    ·rw[ZAN h2];simp
    ·rw[ZAM h2];simp)
  (λi=>by
   show sBinSeaFu_l0 fuel l x (i:Int) (i:Int)=_;unfold sBinSeaFu_l0;rw[dFo]
   rfl)
 rw[this];simp only[ZAA];have hf:=iDZ hs x;by_cases hc:repAt l x<l.length
 ·rw[dTo,adZ hc];simp only[ZAK,ZAA,ZAC hc];rw[idZ];unfold rOf;rw[<-hf];have:l[pre (λk=>decide (k.2.1<x)) l]? =some l[repAt l x]:=ZAC hc;rw[this];simp only[ZAA];have hnl:¬l[repAt l x].2.1<x:=λh=>by
   have:=(ipZ hs x (repAt l x) _ (ZAC hc)).1 h;unfold repAt at this;omega
  by_cases he:l[repAt l x].2.1=x
  ·rw[ZAM hnl,iNo,ZAN he];rfl
  ·rw[ZAM hnl,iPo,ZAM he];rfl
 grind[ZAE,rOf,pre,ZAt,repAt]
theorem rhZ{ks}(hs:(ks.map (·.1)).Pairwise (·<·)){x}{k}(h:kOf ks x=some k):ks[cliAt ks x]? =some k/\k.1=x:=by
 have hf:=iDZ hs x
 grind[kOf,ZCl,cliAt,pre]
theorem v1Z{l}(hs:(l.map (·.2.1)).Pairwise (·<·)){x}{r}(h:rOf l x=some r):l[repAt l x]? =some r/\r.2.1=x:=by
 have hf:=iDZ hs x
 grind[rOf,ZCl,repAt,pre]
def zR:ReplyT:=(0,(0,(0,((0,0),(false,(0,([],([],(false,0)))))))))
def look(c:CacheT)(aa ab:Int):ReplyT×Int:=
 if rightC c=true then match kOf c.2 aa with
  |none=>(zR,0)
  |some k=>if ab<=k.2.1 then(zR,2) else match rOf k.2.2 ab with
   |some r=>(r,1)
   |none=>(zR,0)
 else(zR,0)
def lookO(x:ReplyT×Int):Int×(Int×(Int×(Int×(Int×(Bool×(Int×(List UInt8×(List EntT×(Bool×(Int×Int)))))))))):=
 (x.1.1,(x.1.2.1,(x.1.2.2.1,(x.1.2.2.2.1.1,(x.1.2.2.2.1.2,(x.1.2.2.2.2.1,(x.1.2.2.2.2.2.1,(x.1.2.2.2.2.2.2.1,(x.1.2.2.2.2.2.2.2.1,(x.1.2.2.2.2.2.2.2.2.1,(x.1.2.2.2.2.2.2.2.2.2,x.2)))))))))))
theorem pXZ(c)(h:smallC c)(client xid):rLoo fuel c client xid=some (lookO (look c client xid)):=by
 let⟨w,ks⟩:=c
 unfold rLoo Pa Pb Pd Pe Pf Pg Ph Pi PA PI;simp only;rw[iSZ (w,ks) h];simp only[ZAA];unfold look;cases hr:rightC (w,ks) with
 |false=>rfl
 |true=>
  let⟨h1,h2,h3⟩:=b3Z.1 hr
  simp only at h1 h2 h3;have hb:∀k∈ks,0<=k.1/\k.1<16:=λk hk=>⟨(h3 k hk).1,(h3 k hk).2.1⟩;have aa:¬(0<=client/\client<16)->kOf ks client=none:=λhn=>ZBs.2 λk hk=>by
   have:=hb k hk;simp;omega
  simp only[ZCn];by_cases q1:client>=0
  ·by_cases q2:client<16
   ·rw[ZAJ q1,ZAJ q2];simp only[ZAK,ZAA];rw[t9Z h.1 h2 hb ⟨by omega,q2⟩];simp only;cases hk:kOf ks client with
    |none=>rfl
    |some k=>
     let⟨g1,g2⟩:=rhZ h2 hk
     have ad:=(ZAB.1 g1).1;have ab:=ZAI g1
     let⟨e1,e2,e3,e4,e5⟩:=ckZ.1 (h3 k ab).2.2
     simp[ZAA];rw[adZ ad];simp[g1];by_cases q3:xid<=k.2.1
     ·rw[ZAJ q3,ZAN q3];rfl
     ·rw[ZAE q3,ZAM q3];simp;rw[kYZ (h.2 k ab).1 e4];simp;cases hx:rOf k.2.2 xid with
      |none=>rfl
      |some r=>
       let⟨g3,g4⟩:=v1Z e4 hx
       have ac:=(ZAB.1 g3).1;simp only[Option.isSome_some,ZAK];rw[adZ ac];simp only[ZAA,g3];rw[rDZ ((h.2 k ab).2 r (ZAI g3))]
       rfl
   ·rw[ZAJ q1,ZAE q2,aa (by omega)];rfl
  ·rw[ZAE q1,aa (by omega)];rfl
abbrev TREP:Ty:=.pair (.int .i64) (.pair (.int .i64) (.pair (.int .i64) (.pair qY5 (.pair .bool (.pair (.int .i64) (.pair (.sl .byte) (.pair (.sl (.pair .str (.int .i64))) (.pair .bool (.int .i64)))))))))
abbrev TKR:Ty:=.pair (.int .i64) (.pair (.int .i64) (.ref 1 TREP))
abbrev KR:Type:=Int×(Int×RefT ReplyT)
abbrev FamK(rows:List KR)(ms:List (Nat×List ReplyT))(ks:List KeptT):Prop:=Fam (λr:KR=>r.2.2) (λk:KeptT=>k.2.2) (λr k=>r.1=k.1/\r.2.1=k.2.1) rows ms ks
theorem tnZ(ms:List (Nat×List ReplyT))(x:RefT ReplyT):unrefD [⟨1,TREP,ms⟩] (.ref 1 TREP) x=viewM ms x:=by
 rcases x with l|(_|⟨k,o,n⟩)<;>rfl
theorem FamK.pure_{rows}{ms}{ks}(h:FamK rows ms ks):unrefL (unrefD [⟨1,TREP,ms.map frz1⟩] TKR) rows=some ks:=
 h.pure (unrefD [⟨1,TREP,ms.map frz1⟩] TKR) λrow k hs hv=>by
  let⟨a,b,x⟩:=row
  let⟨a',b',l⟩:=k
  obtain⟨rfl,rfl⟩:=hs;show((some a).bind λy=>(((some b).bind λy=>(unrefD [⟨1,TREP,ms.map frz1⟩] (.ref 1 TREP) x).map λz=>(y,z)).map λz=>(y,z)))=_;rw[tnZ,hv]
  rfl
theorem ownL{l:List ReplyT}{k}{r}(h:l[k]? =some r):l.set k ((ownO r).1,((ownO r).2.1,((ownO r).2.2.1,(((ownO r).2.2.2.1,(ownO r).2.2.2.2.1),((ownO r).2.2.2.2.2.1,((ownO r).2.2.2.2.2.2.1,((ownO r).2.2.2.2.2.2.2.2.2.1,((ownO r).2.2.2.2.2.2.2.2.2.2,((ownO r).2.2.2.2.2.2.2.1,(ownO r).2.2.2.2.2.2.2.2.1)))))))))=l:=by
 let⟨hk,hr⟩:=ZAB.1 h
 have:(((ownO r).1,((ownO r).2.1,((ownO r).2.2.1,(((ownO r).2.2.2.1,(ownO r).2.2.2.2.1),((ownO r).2.2.2.2.2.1,((ownO r).2.2.2.2.2.2.1,((ownO r).2.2.2.2.2.2.2.2.2.1,((ownO r).2.2.2.2.2.2.2.2.2.2,((ownO r).2.2.2.2.2.2.2.1,(ownO r).2.2.2.2.2.2.2.2.1))))))))):ReplyT)=l[k]:=by rw[hr];rfl
 grind[ZCT]
theorem dsZ{α:Type}{l:List α}{k}{x}(h:l[k]? =some x):l.set k x=l:=by
 grind[ZAB,ZCT]
theorem tMZ{rows:List KR}{ms:List (Nat×List ReplyT)}{q j:Nat}{a b}{l}(hr:rows[q]? =some (a,(b,.inr (some (j,(0,l.length))))))(hm:ms[j]? =some (1,l))(hl:l.length<=1000)(hs:∀r∈l,smallR r)(h h2):
 rcop_l0_it fuel (a,(b,.inr (some (j,(0,l.length))))) (q,(0,(h,(rows,(h2,ms)))))=some (h,(rows,(h2,ms))):=by
 unfold rcop_l0_it;have:=aoZ (f:=λtt:Nat×(Int×(Int×(List KR×(Int×List (Nat×List ReplyT)))))=>rcop_l0 fuel (a,(b,.inr (some (j,(0,l.length))))) tt.1 tt.2.1 tt.2.2.1 tt.2.2.2.1 tt.2.2.2.2.1 tt.2.2.2.2.2) (o:=(h,(rows,(h2,ms)))) (λk=>(q,((k:Int),(h,(rows,(h2,ms)))))) l.length (by omega) (λk hk=>by
  show rcop_l0 fuel _ q (k:Int) h rows h2 ms=_;unfold rcop_l0;have e0:refLen (s:=TREP) (.inr (some (j,(0,l.length))))=l.length:=rfl;have hx:l[k]? =some l[k]:=ZAC hk;simp only[e0];rw[ZAJ (show(k:Int)<((l.length:Nat):Int) by omega)];simp only[ZAK,hr,ZAA,refO];rw[adZ hk];simp only[ZAA,hm,ZAz,hx];rw[aeZ (by rfl),rDZ (hs _ (ZBK hk))];simp only[ZAA,hx];rw[aeZ (by rfl),w64 ⟨by omega,by omega⟩];rw[ownL hx,dsZ hm]
  rfl) (by
  show rcop_l0 fuel _ q ((l.length:Nat):Int) h rows h2 ms=_;unfold rcop_l0;have e0:refLen (s:=TREP) (.inr (some (j,(0,l.length))))=l.length:=rfl;simp only[e0];rw[dFo]
  rfl)
 omega
theorem p4Z(c)(h:smallC c):∃rows ms,rcop fuel c=some (c.1,(rows,ms))/\FamK rows ms c.2:=by
 let⟨w,ks⟩:=c
 have hn:=h.1;simp at hn;unfold rcop;simp;rw[t6Z (by omega)];have h0:∀(i:Nat) (k),ks[i]? =some k->(List.map (liftT TKR) ((ks)))[i]? =some ((k.1,(k.2.1,.inl k.2.2)):KR):=λi k hg=>by
  show(List.map (liftT TKR) (show List (TKR.unref.den) from ks))[i]? =some (liftT TKR k);rw[ZAY];show(((ks))[i]?).map _=_;rw[hg]
  rfl
 have loop:∃o,rcop_l1_it fuel ks (0,(w,((List.map (liftT TKR) ((ks))),(0,[]))))=some o/\∃rows ms,o=(w,(rows,(0,ms)))/\FamK rows ms ks:=by
  unfold rcop_l1_it;refine aAZ (λm s=>∃(n:Nat) (rows:List KR) (ms:List (Nat×List ReplyT)),s=((n:Int),(w,(rows,(0,ms))))/\n+m=ks.length/\rows.length=ks.length/\ms.length=n/\∀(i) k,ks[i]? =some k->(i<n->rows[i]? =some (k.1,(k.2.1,.inr (some (i,(0,k.2.2.length)))))/\ms[i]? =some (1,k.2.2))/\(n<=i->rows[i]? =some (k.1,(k.2.1,.inl k.2.2)))) _ (λm s hI=> ?_) (λs hI=> ?_) ks.length _ (by omega) ⟨0,_,[],rfl,by omega,ZAq _,rfl,λi k hg=>⟨λhc=>absurd hc (ZBc _),λ_=>h0 i k hg⟩⟩
  ·obtain⟨n,rows,ms,rfl,hk,g1,g2,g3⟩:=hI;have hlt:n<ks.length:=by omega
   obtain⟨k,hg⟩:∃k,ks[n]? =some k:=⟨_,ZAC hlt⟩;have hrow:=(g3 n k hg).2 (ZAL _);have hsm:=h.2 k (ZAI hg);left;refine⟨(((n+1:Nat):Int),(w,(rows.set n (k.1,(k.2.1,.inr (some (n,(0,k.2.2.length))))),(0,ms++[(1,k.2.2)])))),?_,n+1,_,_,rfl,by omega,by rw[ZAr];exact g1,by simp[g2],λi k' hg'=>⟨λhi=> ?_,λhi=> ?_⟩⟩
   ·unfold rcop_l1;simp only;rw[ZAJ (show(n:Int)<((ks.length:Nat):Int) by omega),adZ (by omega)];simp[hrow];rw[show lowD (.ref 1 TREP) (.inl k.2.2)=some k.2.2 from rfl];erw[ZAA];rw[t2Z (by have:=hsm.1;omega)];simp[ZAA,g2];rw[ZAT (by omega)];simp only[ZAA];rw[tMZ (ZAT (by omega)) (by rw[ZAU (by omega),g2,ZBn];rfl) hsm.1 hsm.2,w64 ⟨by omega,by omega⟩]
    rfl
   ·by_cases hin:i=n
    ·subst hin;rw[hg] at hg';cases hg';exact⟨ZAT (by omega),by rw[ZAU (by omega),g2,ZBn];rfl⟩
    ·have:=(g3 i k' hg').1 (by omega);rw[ZAa (by omega),ZAR (by omega)];exact this
   ·rw[ZAa (by omega)];exact(g3 i k' hg').2 (by omega)
  ·obtain⟨n,rows,ms,rfl,hk,g1,g2,g3⟩:=hI;have:n=ks.length:=by omega
   subst this;refine⟨(w,(rows,(0,ms))),?_,rows,ms,rfl,g1,λi row k hr hk=> ?_,λi i' row row' j p p' hii hr hr' hj hj'=> ?_⟩
   ·unfold rcop_l1;simp only;rw[dFo]
    rfl
   ·let⟨e1,e2⟩:=(g3 i k hk).1 (ZAB.1 hk).1
    rw[e1] at hr;cases hr;exact⟨⟨rfl,rfl⟩,.inr ⟨i,rfl,e2⟩⟩
   ·have q:∀(i) (row) (p),rows[i]? =some row->row.2.2= .inr (some (j,p))->j=i:=λi row p hr hj=>by
     have hi:=(ZAB.1 hr).1;have hg:=ZAC (show i<ks.length by omega)
     let⟨e1,_⟩:=(g3 i _ hg).1 (by omega)
     rw[e1] at hr;cases hr;injection hj with hj;injection hj with hj;injection hj with hj;exact hj.symm
    have:=q i row p hr hj;have:=q i' row' p' hr' hj';omega
 grind
def putK(w:Int)(k:KeptT)(r:ReplyT):KeptT:=
 let l:=k.2.2.take (repAt k.2.2 r.2.1)++[r]++k.2.2.drop (repAt k.2.2 r.2.1)
 if((l.length:Nat):Int)>w then(k.1,((match l[0]? with|some x=>x.2.1|none=>0),l.drop 1)) else(k.1,(k.2.1,l))
def withCli(ks:List KeptT)(cl:Int):List KeptT:=if(kOf ks cl).isSome=true then ks else ks.take (cliAt ks cl)++[(cl,(0,[]))]++ks.drop (cliAt ks cl)
def kept1(ks:List KeptT)(cl:Int):KeptT:=(kOf ks cl).getD (cl,(0,[]))
def putKL(w:Int)(ks:List KeptT)(r:ReplyT):List KeptT:=(withCli ks r.1).set (cliAt ks r.1) (putK w (kept1 ks r.1) r)
def put(c:CacheT)(r:ReplyT):CacheT×Int:=if rightC c=true/\rightReply r=true/\(look c r.1 r.2.1).2=0 then((c.1,putKL c.1 c.2 r),0) else(c,2)
def putO(x:CacheT×Int):Int×(List KeptT×Int):=(x.1.1,(x.1.2,x.2))
theorem uFZ{i}{l:List KR}{x:KR}{ms:List (Nat×List ReplyT)}(hi:i<=l.length)(hl:l.length<=1000):sIns2 fuel (i:Int) l [x] ms=some ([x],(l.take i++[x]++l.drop i,ms)):=by
 unfold sIns2;rw[aKZ hi,ZAA];rw[aUZ (by grind[atZ]),aUZ (by grind[atZ])]
 rfl
theorem u5Z{i}{l:List ReplyT}{x:ReplyT}(hi:i<=l.length)(hl:l.length<=1000):sIns3 fuel (i:Int) l [x]=some ([x],l.take i++[x]++l.drop i):=by
 unfold sIns3;rw[aKZ hi,ZAA];rw[aUZ (by grind[atZ]),aUZ (by grind[atZ])]
 rfl
theorem u8Z{l:List ReplyT}(hl:0<l.length):sDel fuel 0 1 l=some (l.drop 1):=by
 unfold sDel;rw[b0Z (by omega) (by omega),ZAA,b0Z (by omega) (by simp),ZAA]
 rfl
theorem ownR(r):(((ownO r).1,((ownO r).2.1,((ownO r).2.2.1,(((ownO r).2.2.2.1,(ownO r).2.2.2.2.1),((ownO r).2.2.2.2.2.1,((ownO r).2.2.2.2.2.2.1,((ownO r).2.2.2.2.2.2.2.2.2.1,((ownO r).2.2.2.2.2.2.2.2.2.2,((ownO r).2.2.2.2.2.2.2.1,(ownO r).2.2.2.2.2.2.2.2.1))))))))):ReplyT)=r:=rfl
theorem k0Z(c)(cl x):(lookO (look c cl x)).2.2.2.2.2.2.2.2.2.2.2=(look c cl x).2:=rfl
theorem nyZ(c)(R)(h:smallC c)(hr:smallR R):rPut fuel c R=some (putO (put c R)):=by
 obtain⟨w,ks⟩:=c;obtain⟨rows,ms,hc,hF⟩:=p4Z (w,ks) h;simp only at hc hF;unfold rPut Pa Pb Pc Pd Pe Pf Pg Ph Pi Pj Pk Pl Pm Pn Po Pp PA PH PI PJ PO PP;simp only;rw[hc,ZAA,iSZ (w,ks) h];simp only[ZAA];have hrr:=
  eCZ (r:=R) (by have:=hr.1;omega) (by have:=hr.2;omega)
 have hown:=rDZ hr;have hp:=hF.pure_;have hn:=h.1;simp only at hn;unfold put;cases hc1:rightC (w,ks) with
 |false=>
  simp only[ZAk,ZAK,ZAA];rw[hp]
  rfl
 |true=>
  simp only[ZAO,ZAD];rw[hrr];simp only[ZAA];cases hc2:rightReply R with
  |false=>
   simp only[ZAk,ZAK,ZAA];rw[hp]
   rfl
  |true=>
   simp only[ZAO,ZAD,ZAA];rw[pXZ (w,ks) h R.1 R.2.1];simp only[ZAA,k0Z];by_cases hlk:(look (w,ks) R.1 R.2.1).2=0
   ·simp only[hlk,ZAb,ZAO,ZAD];rw[hp];erw[ZAA];obtain⟨g1,g2,g3⟩:=b3Z.1 hc1;simp only at g1 g2 g3;have hwho:=(bDZ hc2).1;have hb:∀k∈ks,0<=k.1/\k.1<16:=λk hk=>⟨(g3 k hk).1,(g3 k hk).2.1⟩;rw[t9Z hn g2 hb hwho];simp only[ZAA];have hat:cliAt ks R.1<=ks.length:=gdZ _ _;have hlen:=hF.len;refine tRZ (λz=>z=some _) (λo=>∃rows1 ms1,o=(w,(ks,(R.1,(R.2.1,(R.2.2.1,(R.2.2.2.1.1,(R.2.2.2.1.2,(R.2.2.2.2.1,(R.2.2.2.2.2.1,(R.2.2.2.2.2.2.1,(R.2.2.2.2.2.2.2.1,(R.2.2.2.2.2.2.2.2.1,(R.2.2.2.2.2.2.2.2.2,(0,(w,(rows1,ms1))))))))))))))))/\FamK rows1 ms1 (withCli ks R.1)/\(withCli ks R.1)[cliAt ks R.1]? =some (kept1 ks R.1)/\(kept1 ks R.1).2.2.length<=1000/\((kept1 ks R.1).2.2.map (·.2.1)).Pairwise (·<·)) ?_ (λo ho=> ?_)
    ·unfold withCli kept1;cases hk:kOf ks R.1 with
     |none=>
      simp only[Option.isSome_none,ZAk,ZAK,ZBJ,ZCc,Option.getD_none];rw[uFZ (by omega) (by omega)];refine⟨_,rfl,_,_,rfl,hF.insert (by omega) ⟨rfl,rfl⟩ rfl rfl,?_,by simp,by simp⟩;have e1:(ks.take (cliAt ks R.1)).length=cliAt ks R.1:=by rw[ZAS];omega
      rw[ZAx,ZAU (by omega),e1,ZBn]
      rfl
     |some k=>
      simp only[Option.isSome_some,ZAO,ZAD,ZCn,ZCe];obtain⟨q1,q2⟩:=rhZ g2 hk;have hkm:=ZAI q1;have hkb:=ckZ.1 (g3 k hkm).2.2;exact⟨_,rfl,_,_,rfl,hF,q1,(h.2 k hkm).1,hkb.2.2.2.1⟩
    obtain⟨rows1,ms1,rfl,hF1,hq,hl1,hs1⟩:=ho;simp only;obtain⟨row,hrow,hsame,hpart⟩:=hF1.row hq;have hqr:=(ZAB.1 hrow).1;rw[adZ hqr];simp only[ZAA,hrow];rw[tnZ,hpart.view];erw[ZAA];rw[kYZ hl1 hs1];simp only[ZAA];rw[hown];simp only[ZAA];obtain⟨ms2,ho2,hm2,hF2⟩:=hF1.open_ hrow hq;rw[ho2];simp only[ZAA];rw[ownR,u5Z (i:=repAt (kept1 ks R.1).2.2 R.2.1) (gdZ _ _) hl1];simp only[ZAA];rw[ZAT hqr];simp only[ZAA];generalize hL:(kept1 ks R.1).2.2.take (repAt (kept1 ks R.1).2.2 R.2.1)++[R]++(kept1 ks R.1).2.2.drop (repAt (kept1 ks R.1).2.2 R.2.1)=L;have hLp:0<L.length:=by rw[<-hL];simp;omega
    have e0:refLen (s:=TREP) (.inr (some (ms2.length,(0,L.length))))=L.length:=rfl;simp only[e0];have hrow1:=hsame.1;have hrow2:=hsame.2;have hgoal:∀K,putK w (kept1 ks R.1) R=K->some (w,((withCli ks R.1).set (cliAt ks R.1) K,(0:Int)))=some (putO (if true=true/\true=true/\(0:Int)=0 then((w,putKL w ks R),(0:Int)) else((w,ks),2))):=λK hK=>by
     rw[ZAN ⟨rfl,rfl,rfl⟩,<-hK]
     rfl
    by_cases hw:((L.length:Nat):Int)>w
    ·rw[ZAJ hw];simp only[ZAK];have hx0:=ZAC hLp;have hF3:=hF2 (row.1,(row.2.1,.inr (some (ms2.length,(0,L.length))))) (row.1,(row.2.1,L)) ⟨rfl,rfl⟩ rfl;have hq3:(rows1.set (cliAt ks R.1) (row.1,(row.2.1,.inr (some (ms2.length,(0,L.length))))))[cliAt ks R.1]? =some (row.1,(row.2.1,.inr (some (ms2.length,(0,L.length))))):=ZAT hqr;have hk3:((withCli ks R.1).set (cliAt ks R.1) (row.1,(row.2.1,L)))[cliAt ks R.1]? =some (row.1,(row.2.1,L)):=ZAT (by have:=(ZAB.1 hq).1;omega);simp only[refO,ZAA];rw[azZ (by omega) (by omega)];simp only[ZAA,Int.toNat_zero,ZCS];have hm3:(ms2++[(1,L)])[ms2.length]? =some (1,L):=by rw[ZAU (by omega),ZBn];rfl
     rw[hm3];simp only[ZAA];rw[aeZ (by rfl)];simp only[hx0,ZAA];have hF4:=hF3.keep hq3 hk3 (row':=(row.1,(L[0].2.1,.inr (some (ms2.length,(0,L.length)))))) (k':=(row.1,(L[0].2.1,L))) ⟨rfl,rfl⟩ rfl rfl;have hq4:((rows1.set (cliAt ks R.1) (row.1,(row.2.1,.inr (some (ms2.length,(0,L.length)))))).set (cliAt ks R.1) (row.1,(L[0].2.1,.inr (some (ms2.length,(0,L.length))))))[cliAt ks R.1]? =some (row.1,(L[0].2.1,.inr (some (ms2.length,(0,L.length))))):=ZAT (by simpa using hqr);have hk4:(((withCli ks R.1).set (cliAt ks R.1) (row.1,(row.2.1,L))).set (cliAt ks R.1) (row.1,(L[0].2.1,L)))[cliAt ks R.1]? =some (row.1,(L[0].2.1,L)):=ZAT (by rw[ZAr];have:=(ZAB.1 hq).1;omega);rw[hq4];simp only[ZAA];obtain⟨ms5,ho5,hm5,hF5⟩:=hF4.open_ hq4 hk4;simp only at ho5;rw[ho5];simp only[ZAA];rw[u8Z hLp];simp only[ZAA];have hF6:=hF5 (row.1,(L[0].2.1,.inr (some (ms5.length,(0,(L.drop 1).length))))) (row.1,(L[0].2.1,L.drop 1)) ⟨rfl,rfl⟩ rfl;rw[FamK.pure_ hF6];erw[ZAA];simp only[List.set_set];refine hgoal _ ?_;unfold putK;rw[hL];simp only;rw[ZAN hw,hx0,hrow1]
    ·rw[ZAE hw];simp only[ZAD];have hF3:=hF2 (row.1,(row.2.1,.inr (some (ms2.length,(0,L.length))))) (row.1,(row.2.1,L)) ⟨rfl,rfl⟩ rfl;rw[FamK.pure_ hF3];erw[ZAA];refine hgoal _ ?_;unfold putK;rw[hL];simp only;rw[ZAM hw,hrow1,hrow2]
   ·rw[ZAW.2 hlk];simp only[ZAk,ZAK];rw[hp,ZAM (λhc=>hlk hc.2.2)]
    rfl
abbrev PlaceT:Type:=Int×List Int
abbrev GateT:Type:=Int×(Tree×(CacheT×(List PlaceT×List Part)))
theorem h8Z{t:Tree}(h:Fit t.1):scop fuel t=some (t.2,t.1):=by
 unfold scop;rw[cPZ h.n];have loop:scop_l0_it fuel t.1 (0,(t.2,(t.1,0)))=some (t.2,(t.1,0)):=by
  refine aoZ (λk=>((k:Int),(t.2,(t.1,0)))) t.1.length (by have:=h.n;omega) (λk hk=> ?_) ?_
  ·unfold scop_l0 Pb Pc Pd Pe PE;obtain⟨n,hg⟩:∃n,t.1[k]? =some n:=⟨_,ZAC hk⟩;have aa:=h.at hg;have hs:=dKZ hg;simp only[aFZ hk];rw[adZ hk];simp only[ZAA,hg];rw[cIZ aa.1,d3Z aa.2];show((idx? ((k:Nat):Int) (t.1.set k n).length).bind λq3=>((t.1.set k n)[q3]?.bind _))=_;rw[hs,adZ hk,ZAA,hg,w64 (by have:=h.n;omega)];show some (Sum.inl (_,(t.2,(t.1.set k n,0))))=_;rw[hs]
   rfl
  ·unfold scop_l0 Pb Pc Pd Pe PE;simp[ZAD]
 simp_all
theorem oLZ{l:List PlaceT}(h:l.length<=1000000000):sClo7 fuel l=some l:=hMZ (by grind[aUZ,atZ])
theorem pLZ{l}(h:l.length<=1000000000):sClo9 fuel l=some l:=hMZ (by grind[aUZ,atZ])
abbrev OwnS:Type:=Int×(Int×(Int×(List Part×(List Ino×(List KR×(List PlaceT×(Int×(Int×(Int×List (Nat×List ReplyT))))))))))
theorem own0{rows:List KR}{ms:List (Nat×List ReplyT)}{q j:Nat}{a b}{l}(hr:rows[q]? =some (a,(b,.inr (some (j,(0,l.length))))))(hm:ms[j]? =some (1,l))(hl:l.length<=1000)(hs:∀r∈l,smallR r)
 (h1 h2 h3)(h4:List Part)(h5:List Ino)(h7:List PlaceT)(h8 h9 h10):
 state_own_l1_it fuel (a,(b,.inr (some (j,(0,l.length))))) (q,(0,(h1,(h2,(h3,(h4,(h5,(rows,(h7,(h8,(h9,(h10,ms))))))))))))=some (h1,(h2,(h3,(h4,(h5,(rows,(h7,(h8,(h9,(h10,ms)))))))))):=by
 unfold state_own_l1_it;refine aoZ (λk:Nat=>((q,((k:Int),(h1,(h2,(h3,(h4,(h5,(rows,(h7,(h8,(h9,(h10,ms)))))))))))):Nat×(Int×OwnS))) l.length (by omega) (λk hk=> ?_) ?_
 ·show state_own_l1 fuel _ q (k:Int) h1 h2 h3 h4 h5 rows h7 h8 h9 h10 ms=_;unfold state_own_l1 Pa Pc Pd Pe Pf PA PF;have e0:refLen (s:=TREP) (.inr (some (j,(0,l.length))))=l.length:=rfl;have hx:l[k]? =some l[k]:=ZAC hk;have hsm:=hs _ (ZBK hk);simp only[e0];rw[ZAJ (show(k:Int)<((l.length:Nat):Int) by omega)];simp only[ZAK,hr,ZAA,refO];rw[adZ hk];simp only[ZAA,hm,ZAz,hx];rw[aeZ (by rfl),tmZ (by have:=hsm.1;omega)];simp only[ZAA];rw[aeZ (by rfl),tuZ (by have:=hsm.2;omega)];simp only[ZAA];rw[aeZ (by rfl)];generalize hy:l[k]=y at hx⊢;have es:∀{z:ReplyT},z=y->List.set l k z=l:=λe=>e▸dsZ hx;have em:∀{z:Nat×List ReplyT},z=(1,l)->List.set ms j z=ms:=λe=>e▸dsZ hm;rw[show List.set ms j (1,List.set l k (y.1,(y.2.1,(y.2.2.1,(y.2.2.2.1,(y.2.2.2.2.1,(y.2.2.2.2.2.1,(y.2.2.2.2.2.2.1,y.2.2.2.2.2.2.2))))))))=ms from em (by rw[es rfl])];simp only[hm,ZAA];rw[aeZ (by rfl)];simp only[hx,ZAA];rw[show List.set ms j (1,List.set l k (y.1,(y.2.1,(y.2.2.1,(y.2.2.2.1,(y.2.2.2.2.1,(y.2.2.2.2.2.1,(y.2.2.2.2.2.2.1,(y.2.2.2.2.2.2.2.1,y.2.2.2.2.2.2.2.2)))))))))=ms from em (by rw[es rfl]),w64 ⟨by omega,by omega⟩]
  rfl
 ·show state_own_l1 fuel _ q ((l.length:Nat):Int) h1 h2 h3 h4 h5 rows h7 h8 h9 h10 ms=_;unfold state_own_l1 Pa Pc Pd Pe Pf PA PF;have e0:refLen (s:=TREP) (.inr (some (j,(0,l.length))))=l.length:=rfl;simp only[e0];rw[dFo]
  rfl
theorem lxZ(ks:List KeptT)(hn:ks.length<=1000)(h:∀k∈ks,smallK k)(h1 h2 h3)(h4:List Part)(h5:List Ino)(h7:List PlaceT)(h8 h9 h10):
 ∃rows ms,state_own_l2_it fuel ks (0,(h1,(h2,(h3,(h4,(h5,(List.map (liftT TKR) (show List (TKR.unref.den) from ks),(h7,(h8,(h9,(h10,[])))))))))))=some (h1,(h2,(h3,(h4,(h5,(rows,(h7,(h8,(h9,(h10,ms))))))))))/\FamK rows ms ks:=by
 have h0:∀(i:Nat) (k),ks[i]? =some k->(List.map (liftT TKR) ((ks)))[i]? =some ((k.1,(k.2.1,.inl k.2.2)):KR):=λi k hg=>by
  show(List.map (liftT TKR) (show List (TKR.unref.den) from ks))[i]? =some (liftT TKR k);rw[ZAY];show(((ks))[i]?).map _=_;rw[hg]
  rfl
 have loop:∃o,state_own_l2_it fuel ks (0,(h1,(h2,(h3,(h4,(h5,((List.map (liftT TKR) ((ks))),(h7,(h8,(h9,(h10,[])))))))))))=some o/\∃rows ms,o=(h1,(h2,(h3,(h4,(h5,(rows,(h7,(h8,(h9,(h10,ms))))))))))/\FamK rows ms ks:=by
  unfold state_own_l2_it;refine aAZ (λm s=>∃(n:Nat) (rows:List KR) (ms:List (Nat×List ReplyT)),s=((n:Int),(h1,(h2,(h3,(h4,(h5,(rows,(h7,(h8,(h9,(h10,ms)))))))))))/\n+m=ks.length/\rows.length=ks.length/\ms.length=n/\∀(i) k,ks[i]? =some k->(i<n->rows[i]? =some (k.1,(k.2.1,.inr (some (i,(0,k.2.2.length)))))/\ms[i]? =some (1,k.2.2))/\(n<=i->rows[i]? =some (k.1,(k.2.1,.inl k.2.2)))) _ (λm s hI=> ?_) (λs hI=> ?_) ks.length _ (by omega) ⟨0,_,[],rfl,by omega,ZAq _,rfl,λi k hg=>⟨λhc=>absurd hc (ZBc _),λ_=>h0 i k hg⟩⟩
  ·obtain⟨n,rows,ms,rfl,hk,g1,g2,g3⟩:=hI;have hlt:n<ks.length:=by omega
   obtain⟨k,hg⟩:∃k,ks[n]? =some k:=⟨_,ZAC hlt⟩;have hrow:=(g3 n k hg).2 (ZAL _);have hsm:=h k (ZAI hg);left;refine⟨(((n+1:Nat):Int),(h1,(h2,(h3,(h4,(h5,(rows.set n (k.1,(k.2.1,.inr (some (n,(0,k.2.2.length))))),(h7,(h8,(h9,(h10,ms++[(1,k.2.2)]))))))))))),?_,n+1,_,_,rfl,by omega,by rw[ZAr];exact g1,by simp[g2],λi k' hg'=>⟨λhi=> ?_,λhi=> ?_⟩⟩
   ·unfold state_own_l2;simp only;rw[ZAJ (show(n:Int)<((ks.length:Nat):Int) by omega),adZ (by omega)];simp only[ZAK,ZAA,hrow];rw[show lowD (.ref 1 TREP) (.inl k.2.2)=some k.2.2 from rfl];erw[ZAA];rw[t2Z (by have:=hsm.1;omega)];simp only[ZAA,g2];rw[ZAT (by omega)];simp only[ZAA];rw[own0 (ZAT (by omega)) (by rw[ZAU (by omega),g2,ZBn];rfl) hsm.1 hsm.2,w64 ⟨by omega,by omega⟩]
    rfl
   ·by_cases hin:i=n
    ·subst hin;rw[hg] at hg';cases hg';exact⟨ZAT (by omega),by rw[ZAU (by omega),g2,ZBn];rfl⟩
    ·have:=(g3 i k' hg').1 (by omega);rw[ZAa (by omega),ZAR (by omega)];exact this
   ·rw[ZAa (by omega)];exact(g3 i k' hg').2 (by omega)
  ·obtain⟨n,rows,ms,rfl,hk,g1,g2,g3⟩:=hI;have:n=ks.length:=by omega
   subst this;refine⟨(h1,(h2,(h3,(h4,(h5,(rows,(h7,(h8,(h9,(h10,ms)))))))))),?_,rows,ms,rfl,g1,λi row k hr hk=> ?_,λi i' row row' j p p' hii hr hr' hj hj'=> ?_⟩
   ·unfold state_own_l2;simp only;rw[dFo]
    rfl
   ·obtain⟨e1,e2⟩:=(g3 i k hk).1 (ZAB.1 hk).1;rw[e1] at hr;cases hr;exact⟨⟨rfl,rfl⟩,.inr ⟨i,rfl,e2⟩⟩
   ·have q:∀(i) (row) (p),rows[i]? =some row->row.2.2= .inr (some (j,p))->j=i:=λi row p hr hj=>by
     have hi:=(ZAB.1 hr).1;have hg:=ZAC (show i<ks.length by omega);obtain⟨e1,_⟩:=(g3 i _ hg).1 (by omega);rw[e1] at hr;cases hr;injection hj with hj;injection hj with hj;injection hj with hj;exact hj.symm
    have:=q i row p hr hj;have:=q i' row' p' hr' hj';omega
 grind
theorem nSZ(pl:List PlaceT)(hn:pl.length<=1000)(h:∀p∈pl,p.2.length<=1000)(h1 h2 h3)(h4:List KeptT)(h5:List Part)(h6:List Ino)(h8 h9 h10):
 state_own_l0_it fuel pl (0,(h1,(h2,(h3,(h4,(h5,(h6,(pl,(h8,(h9,h10))))))))))=some (h1,(h2,(h3,(h4,(h5,(h6,(pl,(h8,(h9,h10))))))))):=by
 refine aoZ (λk:Nat=>((k:Int),(h1,(h2,(h3,(h4,(h5,(h6,(pl,(h8,(h9,h10))))))))))) pl.length (by omega) (λk hk=> ?_) ?_
 ·show state_own_l0 fuel pl (k:Int) h1 h2 h3 h4 h5 h6 pl h8 h9 h10=_;unfold state_own_l0;have hx:=ZAC hk;rw[ZAJ (show(k:Int)<((pl.length:Nat):Int) by omega),adZ hk,ZAA,hx,ZAA,pLZ (by have:=h _ (ZBK hk);omega),ZAA,ZAA,hx,ZAA,w6];rw[(dsZ hx)]
  rfl
 show state_own_l0 fuel pl (pl.length:Int) h1 h2 h3 h4 h5 h6 pl h8 h9 h10=_;simp_all[state_own_l0,ZAE]
theorem uoZ(s:GateT)(hf:Fit s.2.1.1)(hc:smallC s.2.2.1)(hp:s.2.2.2.1.length<=1000/\∀p∈s.2.2.2.1,p.2.length<=1000)(hd:s.2.2.2.2.length<=100000):
 state_own fuel s=some (s.1,(s.2.1.2,(s.2.2.1.1,(s.2.2.1.2,(s.2.1.1,(s.2.2.2.1,s.2.2.2.2)))))):=by
 let⟨life,t,⟨w,ks⟩,pl,dead⟩:=s
 unfold state_own Pb Pc Pd Pe Pf Pg Ph PH PI;rw[h8Z hf,ZAA,oLZ (by omega),ZAA];rw[nSZ pl hp.1 hp.2,ZAA];rw[t6Z (by have:=hc.1;grind),ZAA]
 let⟨rows,ms,ho,hF⟩:=lxZ ks hc.1 hc.2 life t.2 w dead t.1 pl 0 0 0
 have aa:=ho;erw[aa];rw[ZAA];simp;rw[cIZ hd];have ab:=hF.pure_;erw[ab]
 rfl
def bareI(x:Ino):Ino:=(x.1,x.2.1,x.2.2.1,x.2.2.2.1,x.2.2.2.2.1,[],x.2.2.2.2.2.2.1,x.2.2.2.2.2.2.2)
def zeroI(x:Ino):Byt:=List.replicate x.2.2.2.2.1.toNat 0
theorem v8Z{α:Type}{f}{l:List α}{k}{x}(h:l[k]? =some x):((l.take k).map f++l.drop k).set k (f x)=(l.take (k+1)).map f++l.drop (k+1):=by
 obtain⟨hk,rfl⟩:=ZAB.1 h;have e:((l.take k).map f).length=k:=by simp;omega
 rw[List.set_append_right _ _ (by omega),e,ZBn,ZBT hk,aWZ h,ZCJ,ZAx]
 rfl
theorem voZ{α:Type}{f}{l:List α}{k}{x}(h:l[k]? =some x):((l.take k).map f++l.drop k)[k]? =some x:=by
 grind
theorem sPZ{T:Tree}(hf:Fit T.1)(hs:∀x∈T.1,0<=x.2.2.2.2.1/\x.2.2.2.2.1<=65536)(hn:T.1.length<=1000):sbar fuel T=some (T.2,(T.1.map bareI,T.1.map zeroI)):=by
 unfold sbar;rw[h8Z hf,ZAA];simp;have loop:sbar_l0_it fuel (T.2,T.1) (0,(0,(T.2,(T.1,[]))))=some (0,(T.2,(T.1.map bareI,T.1.map zeroI))):=by
  unfold sbar_l0_it;have e:((0:Int),((0:Int),(T.2,(T.1,([]:List Byt)))))=(λk:Nat=>((k:Int),((0:Int),(T.2,((T.1.take k).map bareI++T.1.drop k,(T.1.take k).map zeroI))))) 0:=by simp
  refine(congrArg (iter fuel _) e).trans ?_;refine aoZ (λk:Nat=>((k:Int),((0:Int),(T.2,((T.1.take k).map bareI++T.1.drop k,(T.1.take k).map zeroI))))) T.1.length (by omega) (λk hk=> ?_) ?_
  ·obtain⟨x,hx⟩:∃x,T.1[k]? =some x:=⟨_,ZAC hk⟩;have hsz:=hs x (ZAI hx);have hlen:((T.1.take k).map bareI++T.1.drop k).length=T.1.length:=by simp;omega
   have hset:List.set ((T.1.take k).map bareI++T.1.drop k) k (x.1,(x.2.1,(x.2.2.1,(x.2.2.2.1,(x.2.2.2.2.1,([],x.2.2.2.2.2.2))))))=(T.1.take (k+1)).map bareI++T.1.drop (k+1):=v8Z hx;have hlen2:((T.1.take (k+1)).map bareI++T.1.drop (k+1)).length=T.1.length:=by rw[<-hset,ZAr,hlen]
   have hg:((T.1.take (k+1)).map bareI++T.1.drop (k+1))[k]? =some (bareI x):=by
    rw[<-hset,ZAT (by rw[hlen];exact hk)];rfl
   show sbar_l0 fuel (T.2,T.1) (k:Int) 0 T.2 ((T.1.take k).map bareI++T.1.drop k) ((T.1.take k).map zeroI)=_;unfold sbar_l0;simp only;rw[ZAJ (show(k:Int)<((T.1.length:Nat):Int) by omega),hlen,adZ hk,ZAA,voZ hx,ZAA];rw[hset,hlen2,adZ hk,ZAA,hg,ZAA];rw[show(bareI x).2.2.2.2.1=x.2.2.2.2.1 from rfl,b0Z hsz.1 (by rw[atZ];omega),ZAA,b0Z hsz.1 (by omega),ZAA,aeZ (by rw[ZAl,atZ];omega),aeZ (by simp only[ZAF,ZAl,atZ,ZAq,ZAS];omega),w64 (by omega),aWZ hx];simp only[ZCJ]
   rfl
  ·show sbar_l0 fuel (T.2,T.1) ((T.1.length:Nat):Int) 0 T.2 _ _=_;unfold sbar_l0;simp only;rw[ZAE (by omega)];simp
 simp_all
structure GoodP (P:List Part) (w:Int):Prop where
 n:P.length<=4096
 ok:∀p∈P,okPart w p
 nd:(stripes P).Nodup
 w:0<=w/\w<=1099511627776
theorem f9Z(a b:Nat):Int.tdiv (a:Int) (b:Int)=((a/b:Nat):Int):=(Int.ofNat_tdiv a b).symm
theorem hDZ{a q:Nat}(ha:a<=1000000)(hq:1<=q/\q<=1000):spie fuel (a:Int) (q:Int)=some (((a+q-1)/q:Nat):Int):=by
 unfold spie;have h1:(a+q-1)/q<=a+q-1:=Nat.div_le_self _ _;rw[aeZ (by rw[dFo];rfl),w64 (x:=(a:Int)+q) (by omega),w64 (x:=(a:Int)+q-1) (by omega),show(a:Int)+q-1=((a+q-1:Nat):Int) by omega,f9Z];generalize (a+q-1)/q=z at h1⊢;rw[w6]
def pl3:List PlaceT:=[(1,[0,1,2])]
theorem tJZ:spla fuel pl3=some true:=by kernel_rfl
def setP(x:Ino)(P:List Part):Ino:=(x.1,x.2.1,x.2.2.1,x.2.2.2.1,x.2.2.2.2.1,P,x.2.2.2.2.2.2.1,x.2.2.2.2.2.2.2)
def withP(l:List Ino)(P:Nat->List Part):List Ino:=l.mapIdx λi x=>setP x (P i)
theorem cjZ(l)(P):(withP l P).length=l.length:=List.length_mapIdx
theorem bNZ{l}(P){i}{x}(h:l[i]? =some x):(withP l P)[i]? =some (setP x (P i)):=by
 simp_all[withP]
theorem bhZ{l}{P}{i}{y}(h:(withP l P)[i]? =some y):∃x,l[i]? =some x/\y=setP x (P i):=by
 unfold withP at h
 grind
theorem qFZ{l}(P){id}(h:Rch l id):Rch (withP l P) id:=by
 induction h with
 |root=>exact .root
 |step h1 h2 _ ih=>exact .step (bNZ P h1) h2 ih
theorem itZ{t}(h:TreeOK t){P}{w}(hw:0<=w/\w<=1099511627776)
 (hp:∀(i) x,t.1[i]? =some x->if x.2.2.1=true/\x.2.2.2.1=false then(P i).length<=4096/\∀p∈P i,okPart w p else P i=[])
 (hn:(allStripes (withP t.1 P)).Nodup):TreeOK (withP t.1 P,w):=by
 refine⟨⟨by rw[cjZ];exact h.r.len,hw,λi y hy=> ?_,hn,?_⟩,λi y hy s id he=> ?_,λj y hy hu hj=> ?_,λj y hy hu=> ?_⟩
 ·obtain⟨x,hx,rfl⟩:=bhZ hy;have o:=h.r.ino i x hx;have q:=hp i x hx;rw[cjZ];refine⟨o.id,o.gen,o.par,λhu hd=> ?_,λhu hd=> ?_,λhu=> ?_⟩
  ·rw[ZAM (λz=>by rw[show x.2.2.2.1=true from hd] at z;exact absurd z.2 (by decide))] at q;exact⟨(o.dir hu hd).1,q,(o.dir hu hd).2.2⟩
  ·rw[ZAN ⟨hu,hd⟩] at q;exact⟨(o.file hu hd).1,(o.file hu hd).2.1,q.1,q.2⟩
  ·rw[ZAM (λz=>by rw[show x.2.2.1=false from hu] at z;exact absurd z.1 (by decide))] at q
   let⟨a,b,c,_,d⟩:=o.bare hu
   exact⟨a,b,c,q,d⟩
 ·let⟨r,hr,a⟩:=h.r.root
  exact⟨_,bNZ P hr,a⟩
 ·obtain⟨x,hx,rfl⟩:=bhZ hy
  let⟨a,b,z,hz,c⟩:=h.e i x hx s id he
  exact⟨a,b,_,bNZ P hz,c⟩
 ·obtain⟨x,hx,rfl⟩:=bhZ hy
  let⟨n,s,aa,c⟩:=h.u j x hx hu hj
  exact⟨_,s,bNZ P aa,c⟩
 ·obtain⟨x,hx,rfl⟩:=bhZ hy;exact qFZ P (h.a j x hx hu)
theorem tZZ(l):l.map bareI=withP l λ_=>[]:=by
 refine ZBU λi=> ?_;rw[ZAY];unfold withP;rw[ZCY]
 rfl
theorem gkZ:stripes []=[]:=rfl
theorem m3Z{l}(h:∀x∈l,x.2.2.2.2.2.1=[]):allStripes l=[]:=by
 unfold allStripes;rw[List.flatMap_eq_nil_iff];intro x hx;rw[h x hx];rfl
theorem qIZ{t}(h:TreeOK t):TreeOK (t.1.map bareI,t.2):=by
 rw[tZZ];refine itZ h h.r.str (λi x _=>by simp_all) ?_;rw[m3Z]
 ·simp_all
 ·intro y hy
  let⟨i,hi⟩:=ZAQ hy
  obtain⟨x,_,rfl⟩:=bhZ hi
  rfl
def bareM(t:Tree):Mod:=((t.1.map bareI,t.2),t.1.map zeroI)
theorem aXZ{t}(h:TreeOK t):ModelOK (bareM t):=by
 refine⟨qIZ h,by simp[bareM],λi y hy=> ?_,λi y b hy hb=> ?_⟩
 ·simp only[bareM,ZAY] at hy;obtain⟨x,_,rfl⟩:=ZAH.1 hy
  rfl
 ·simp only[bareM,ZAY] at hy hb;obtain⟨x,hx,rfl⟩:=ZAH.1 hy;rw[hx] at hb;obtain rfl:=ZAf hb;have:=(dZZ h hx).1;simp[zeroI,bareI];omega
theorem eBZ{t}(h:TreeOK t):sbar fuel t=some ((bareM t).1.2,((bareM t).1.1,(bareM t).2)):=
 sPZ h.r.fit (λx hx=>by
  let⟨i,hi⟩:=ZAQ hx
  exact⟨(dZZ h hi).1,(dZZ h hi).2.1⟩) (by have:=h.r.len;omega)
theorem epZ{P}{k}:k∈stripes P↔k≠0/\∃p∈P,p.1=k:=by
 unfold stripes;rw[ZBf];constructor
 ·rintro⟨p,hp,rfl⟩
  let⟨h1,h2⟩:=ZCi.1 hp
  exact⟨by simpa using h2,p,h1,rfl⟩
 simp_all
theorem rUZ{l}{k}:k∈allStripes l↔∃(i:Nat) (x:Ino),l[i]? =some x/\k∈stripes x.2.2.2.2.2.1:=by
 grind[allStripes,ZCd,ZAQ,ZAI]
structure StOK (s:GateT) (q:Nat):Prop where
 life:0<=s.1/\s.1<=1099511627776
 t:TreeOK s.2.1
 c:rightC s.2.2.1=true
 pl:s.2.2.2.1=pl3
 l:∀(i:Nat) x,s.2.1.1[i]? =some x->x.2.2.1=true->x.2.2.2.1=false->x.2.2.2.2.2.1.length=(x.2.2.2.2.1.toNat+q-1)/q
 q:16<=q/\q<=65
 ds:(s.2.2.2.2.map (·.1)).Pairwise (·<·)
 d:∀p∈s.2.2.2.2,(1<=p.1/\p.1<=s.2.1.2)/\(1<=p.2/\p.2<=1099511627776)/\p.1∉allStripes s.2.1.1
 dn:s.2.2.2.2.length<=65536
def keysP(l:List Ino):List Int:=l.flatMap λn=>n.2.2.2.2.2.1.map (·.1)
theorem oAZ{l:List Ino}{k}{n}(h:l[k]? =some n):keysP (l.take (k+1))=keysP (l.take k)++n.2.2.2.2.2.1.map (·.1):=by
 simp_all[keysP,aWZ]
theorem svZ{l}{k}(h0:k≠0)(h:k∉allStripes l):k∉keysP l:=by
 intro hk
 let⟨x,hx,hk⟩:=ZCd.1 hk
 obtain⟨p,hp,rfl⟩:=ZBf.1 hk;exact h (ZCd.2 ⟨x,hx,epZ.2 ⟨h0,p,hp,rfl⟩⟩)
theorem qnZ(x:Ino)(hx:x.2.2.2.2.2.1.length<=100000)(h:List GateT)(M)(S)(hM:MS M S):
 ∃M',sRig_l0_it fuel (false,(h,(M,x))) (0,(h,M))=some (h,M')/\MS M' (S++x.2.2.2.2.2.1.map (·.1)):=by
 unfold sRig_l0_it;obtain⟨o,ho,M',hM,hS⟩:=aAZ (f:=λtt:Int×(List GateT×GM)=>sRig_l0 fuel (false,(h,(M,x))) tt.1 tt.2.1 tt.2.2) (λr s=>∃(k:Nat) (M':GM),s=((k:Int),(h,M'))/\k+r=x.2.2.2.2.2.1.length/\MS M' (S++(x.2.2.2.2.2.1.take k).map (·.1))) (λo=>∃M',o=(h,M')/\MS M' (S++x.2.2.2.2.2.1.map (·.1))) (λr s hI=>by
  obtain⟨k,M',rfl,hk,hm⟩:=hI;obtain⟨p,hp⟩:∃p,x.2.2.2.2.2.1[k]? =some p:=⟨_,gEo⟩;left;refine⟨(((k+1:Nat):Int),(h,mput M' p.1 1)),?_,k+1,_,rfl,by omega,?_⟩
  ·show sRig_l0 fuel (false,(h,(M,x))) (k:Int) h M'=_;unfold sRig_l0;simp only;rw[dTo,adZ (by omega),ZAA,hp,w6]
   rfl
  ·rw[aWZ hp,ZCJ,<-List.append_assoc];exact hm.put p.1) (λs hI=>by
  obtain⟨k,M',rfl,hk,hm⟩:=hI;have:k=x.2.2.2.2.2.1.length:=by omega
  subst this;refine⟨(h,M'),?_,M',rfl,by rwa [ZAv] at hm⟩;show sRig_l0 fuel (false,(h,(M,x))) _ h M'=_;unfold sRig_l0;simp only;rw[dFo]
  rfl) x.2.2.2.2.2.1.length (0,(h,M)) (by omega) ⟨0,M,rfl,by omega,by simpa using hM⟩
 simp_all
theorem o3Z{s}{q}(h:StOK s q){M}(hM:MS M (keysP s.2.1.1)):∃M',sdrom1 fuel s M=some (true,M'):=by
 have key:∀p∈s.2.2.2.2,((Option.getD (mget M p.1) 0:Int)==1)=false:=λp hp=>by
  have d:=h.d p hp;cases e:((Option.getD (mget M p.1) 0:Int)==1) with
  |false=>rfl
  |true=>exact absurd ((hM p.1).1 e) (svZ (by omega) d.2.2)
 have loop:∃o,sIndFun_l0_it fuel s.2.2.2.2 (0,(0,(s.1,(s.2.1.1,(s.2.1.2,(s.2.2.1.1,(s.2.2.1.2,(s.2.2.2.1,(s.2.2.2.2,M)))))))))=some o/\∃aa,o= .inl (aa,(s.1,(s.2.1.1,(s.2.1.2,(s.2.2.1.1,(s.2.2.1.2,(s.2.2.2.1,(s.2.2.2.2,M)))))))):=by
  unfold sIndFun_l0_it;refine aAZ (f:=λtt:Int×(Int×(Int×(List Ino×(Int×(Int×(List KeptT×(List PlaceT×(List Part×GM))))))))=>sIndFun_l0 fuel s.2.2.2.2 tt.1 tt.2.1 tt.2.2.1 tt.2.2.2.1 tt.2.2.2.2.1 tt.2.2.2.2.2.1 tt.2.2.2.2.2.2.1 tt.2.2.2.2.2.2.2.1 tt.2.2.2.2.2.2.2.2.1 tt.2.2.2.2.2.2.2.2.2) (λr st=>∃(k:Nat) (aa:Int),st=((k:Int),(aa,(s.1,(s.2.1.1,(s.2.1.2,(s.2.2.1.1,(s.2.2.1.2,(s.2.2.2.1,(s.2.2.2.2,M)))))))))/\k+r=s.2.2.2.2.length/\∀(j) p,k<=j->s.2.2.2.2[j]? =some p->aa<p.1) (λo=>∃aa,o= .inl (aa,(s.1,(s.2.1.1,(s.2.1.2,(s.2.2.1.1,(s.2.2.1.2,(s.2.2.2.1,(s.2.2.2.2,M))))))))) (λr st hI=> ?_) (λst hI=> ?_) s.2.2.2.2.length _ (by have:=h.dn;omega) ⟨0,0,rfl,by omega,λj p _ hj=>by have:=(h.d p (ZAI hj)).1;omega⟩
  ·obtain⟨k,aa,rfl,hk,hl⟩:=hI;obtain⟨p,hp⟩:∃p,s.2.2.2.2[k]? =some p:=⟨_,gEo⟩;have d:=h.d p (ZAI hp);have h1:=hl k p (ZAL _) hp;have dn:=h.dn;left;refine⟨(((k+1:Nat):Int),(p.1,(s.1,(s.2.1.1,(s.2.1.2,(s.2.2.1.1,(s.2.2.1.2,(s.2.2.2.1,(s.2.2.2.2,M))))))))),?_,k+1,p.1,rfl,by omega,λj x hj hx=> ?_⟩
   ·show sIndFun_l0 fuel s.2.2.2.2 (k:Int) aa s.1 s.2.1.1 s.2.1.2 s.2.2.1.1 s.2.2.1.2 s.2.2.2.1 s.2.2.2.2 M=_;unfold sIndFun_l0 sdro1;rw[dTo,adZ (by omega),ZAA,hp,ZAA,dFo,ZAD,dFo,ZAD,key p (ZAI hp),ZAD,dFo,ZAD,dFo,ZAA,ZAD,w6]
    rfl
   ·have:=ZBp.1 h.ds k j (by rw[ZAq];omega) (by rw[ZAq];exact(ZAB.1 hx).1) (by omega);rw[List.getElem_map,List.getElem_map,(ZAB.1 hp).2,(ZAB.1 hx).2] at this;exact this
  ·obtain⟨k,aa,rfl,hk,hl⟩:=hI;have:k=s.2.2.2.2.length:=by omega
   subst this;refine⟨.inl (aa,_),?_,aa,rfl⟩;show sIndFun_l0 fuel s.2.2.2.2 _ aa s.1 s.2.1.1 s.2.1.2 s.2.2.1.1 s.2.2.1.2 s.2.2.2.1 s.2.2.2.2 M=_;unfold sIndFun_l0;rw[dFo]
   rfl
 obtain⟨o,ho,aa,rfl⟩:=loop;have dn:=h.dn;refine⟨M,?_⟩;unfold sdrom1 sConFun2 sIndFun
 grind
theorem StOK.right{s}{q}(h:StOK s q):sRig fuel s (q:Int)=some true:=by
 unfold sRig ssiz;have hT:=h.t;have hq:=h.q;have hn:=hT.r.len;have hl:=h.life;rw[ZAJ (show(q:Int)>=16 by omega),ZAK,ZAA,ZAJ (show(q:Int)<=65536 by omega)];simp only[ZAO];rw[ZAE (show¬s.1<0 by omega),ZAE (show¬s.1>1099511627776 by omega),b5Z hT,iSZ s.2.2.1 (bnZ h.c),h.c];simp[ZAD];rw[h.pl,tJZ,ZAA];simp[ZAA];have loop:∃o,sRig_l1_it fuel s (q:Int) (0,([s],([],0)))=some o/\∃M',o= .inl ([s],M')/\MS M' (keysP s.2.1.1):=by
  unfold sRig_l1_it;refine aAZ (f:=λtt:Int×(List GateT×GM)=>sRig_l1 fuel s (q:Int) tt.1 tt.2.1 tt.2.2) (λr st=>∃(k:Nat) (M':GM),st=((k:Int),([s],M'))/\k+r=s.2.1.1.length/\MS M' (keysP (s.2.1.1.take k))) (λo=>∃M',o= .inl ([s],M')/\MS M' (keysP s.2.1.1)) (λr st hI=> ?_) (λst hI=> ?_) s.2.1.1.length (0,([s],([],0))) (by omega) ⟨0,([],0),rfl,by omega,by simpa[keysP] using MS.nil⟩
  ·obtain⟨k,M',rfl,hk,hm⟩:=hI;obtain⟨x,hx⟩:∃x,s.2.1.1[k]? =some x:=⟨_,gEo⟩;have hf:=(hT.r.fit).at hx;have hz:=dZZ hT hx;left
   let⟨M2,ab,ac⟩:=qnZ x hf.1 [s] M' _ hm
   refine⟨(((k+1:Nat):Int),([s],M2)),?_,k+1,_,rfl,by omega,by rw[oAZ hx];exact ac⟩;show sRig_l1 fuel s (q:Int) (k:Int) [s] M'=_;unfold sRig_l1;rw[dTo,adZ (by omega),ZAA,hx,ZAA];have aa:(bif x.2.2.1 then bif (!x.2.2.2.1) then(spie fuel x.2.2.2.2.1 (q:Int)).bind λr6=>some ((!(((x.2.2.2.2.2.1.length:Nat):Int)==r6)),([s],(M',x))) else some (false,([s],(M',x))) else some (false,([s],(M',x))))=some (false,([s],(M',x))):=by
    cases hu:x.2.2.1
    ·rfl
    ·cases hd:x.2.2.2.1
     ·simp only[ZAK,ZAk];rw[show x.2.2.2.2.1=((x.2.2.2.2.1.toNat:Nat):Int) by omega,hDZ (by omega) (by omega),ZAA,h.l k x hx hu hd];simp
     ·rfl
   rw[aa,ZAA];simp only[ZAD];rw[ab,ZAA,w6]
   rfl
  ·obtain⟨k,M',rfl,hk,hm⟩:=hI;have:k=s.2.1.1.length:=by omega
   subst this;refine⟨.inl ([s],M'),?_,M',rfl,by rwa [ZAv] at hm⟩;show sRig_l1 fuel s (q:Int) _ [s] M'=_;unfold sRig_l1;rw[dFo]
   rfl
 grind[o3Z,ZAA,ZAP]
abbrev NeedT:Type:=Int×(Part×Int)
theorem pkZ{k to q}(hq:1<=q):k<(to+q-1)/q↔k*q<to:=by
 grind[Nat.le_div_iff_mul_le,ZAm]
theorem lMZ{k to q}(hq:1<=q)(h:to<=k*q):(to+q-1)/q<=k:=by
 grind[pkZ]
theorem lRZ{a b q}(h:a<=b):(a+q-1)/q<=(b+q-1)/q:=Nat.div_le_div_right (by omega)
theorem q5Z{a b q}(hq:1<=q)(h:a<=b):a/q<=(b+q-1)/q:=Nat.div_le_div_right (by omega)
def holeB(p:Part):Bool:=(p.1==0)&&(p.2==0)
def pAt(P:List Part)(i:Nat):Part:=(P[i]?).getD (0,0)
theorem muZ(x:Ino)(i:Nat)(h:x.2.2.2.2.2.1.length<=100000):spar fuel x (i:Int)=some (pAt x.2.2.2.2.2.1 i):=by
 unfold spar pAt;by_cases hi:i<x.2.2.2.2.2.1.length
 ·rw[dFo,adZ hi,ZAA,ZAC hi]
  rfl
 simp_all
def readsL(P:List Part)(a n:Nat):List NeedT:=(List.range n).map λj=>(((a+j:Nat):Int),(pAt P (a+j),0))
theorem hYZ(P)(a n):(readsL P a n).length=n:=by simp[readsL]
theorem lyZ(P)(a n):readsL P a (n+1)=readsL P a n++[(((a+n:Nat):Int),(pAt P (a+n),0))]:=by
 simp_all[readsL,List.range_succ]
theorem oiZ{x:Ino}{q a n from_ to}(hq:1<=q)(hn:a+n<=x.2.2.2.2.2.1.length)(hP:x.2.2.2.2.2.1.length<=4096)(hin:∀k,k<n->(a+k)*q<to)(hout:to<=(a+n)*q)(hb:q<=1000)(hf:from_/q=a):
 sspaf13cn fuel (q:Int) (from_:Int) (to:Int) [x]=some ([x],readsL x.2.2.2.2.2.1 a n):=by
 unfold sspaf13cn;have hm:∀z,z<=a+n->z*q<=4096*1000:=λz hz=>ZCQ (by omega) hb;rw[aeZ (by rw[dFo];rfl),f9Z,w6];have loop:sspaf13cn_l0_it fuel (q:Int) (to:Int) ((a:Int),([],[x]))=some (readsL x.2.2.2.2.2.1 a n,[x]):=by
  unfold sspaf13cn_l0_it;refine aoZ (λk:Nat=>(((a+k:Nat):Int),(readsL x.2.2.2.2.2.1 a k,[x]))) n (by omega) (λk hk=> ?_) ?_
  ·show sspaf13cn_l0 fuel (q:Int) (to:Int) ((a+k:Nat):Int) (readsL x.2.2.2.2.2.1 a k) [x]=_;unfold sspaf13cn_l0 srea1;have h1:=hin k hk;have h2:=hm (a+k) (by omega);rw[show((a+k:Nat):Int)*(q:Int)=(((a+k)*q:Nat):Int) by rw[ZBk]];generalize (a+k)*q=z at*;rw[w6,dTo,ZAP,ZAA,adZ (by omega),ZAA,gEo,ZAA,aeZ (by simp[atZ,hYZ];omega),w6,lyZ];unfold pAt;rw[gEo]
   rfl
  ·show sspaf13cn_l0 fuel (q:Int) (to:Int) ((a+n:Nat):Int) _ [x]=_;unfold sspaf13cn_l0;have h2:=hm (a+n) (by omega);rw[show((a+n:Nat):Int)*(q:Int)=(((a+n)*q:Nat):Int) by rw[ZBk]];generalize (a+n)*q=z at*;rw[w6,dFo,ZAD]
 simp_all
def readsF(x:Ino)(q:Nat)(c:CallT):List NeedT:=
 if c.2.2.2.2.2.2.2.2.1>0 then
  readsL x.2.2.2.2.2.1 (min x.2.2.2.2.1.toNat c.2.2.2.2.2.2.2.1.toNat/q) ((min x.2.2.2.2.1.toNat (c.2.2.2.2.2.2.2.1.toNat+c.2.2.2.2.2.2.2.2.1.toNat)+q-1)/q-min x.2.2.2.2.1.toNat c.2.2.2.2.2.2.2.1.toNat/q)
 else[]
theorem rSZ{x:Ino}{q}{c:CallT}(hq:16<=q/\q<=65)(hs:0<=x.2.2.2.2.1/\x.2.2.2.2.1<=65536)(hl:x.2.2.2.2.2.1.length=(x.2.2.2.2.1.toNat+q-1)/q)
 (ho:0<=c.2.2.2.2.2.2.2.1/\c.2.2.2.2.2.2.2.1<=2147483648)(hn:0<=c.2.2.2.2.2.2.2.2.1/\c.2.2.2.2.2.2.2.2.1<=2147483648):
 srea fuel x (q:Int) c=some (readsF x q c):=by
 unfold srea readsF Pd Pg Ph;by_cases h0:c.2.2.2.2.2.2.2.2.1>0
 ·rw[ZAJ h0,ZAK,ZAN h0];have hz:=ZBd hs.1;have ac:=ZBd ho.1;have ad:=ZBd hn.1;rw[w6];rw[show(if x.2.2.2.2.1<c.2.2.2.2.2.2.2.1 then x.2.2.2.2.1 else c.2.2.2.2.2.2.2.1)=((min x.2.2.2.2.1.toNat c.2.2.2.2.2.2.2.1.toNat:Nat):Int) by split<;>omega,
   show(if x.2.2.2.2.1<c.2.2.2.2.2.2.2.1+c.2.2.2.2.2.2.2.2.1 then x.2.2.2.2.1 else c.2.2.2.2.2.2.2.1+c.2.2.2.2.2.2.2.2.1)=((min x.2.2.2.2.1.toNat (c.2.2.2.2.2.2.2.1.toNat+c.2.2.2.2.2.2.2.2.1.toNat):Nat):Int) by split<;>omega]
  generalize he:min x.2.2.2.2.1.toNat (c.2.2.2.2.2.2.2.1.toNat+c.2.2.2.2.2.2.2.2.1.toNat)=to;generalize hf:min x.2.2.2.2.1.toNat c.2.2.2.2.2.2.2.1.toNat=fr;have aa:to<=x.2.2.2.2.1.toNat:=by omega
  have ab:fr<=to:=by omega
  have ae:=q5Z (q:=q) (by omega) ab;have af:=lRZ (q:=q) aa;have hP:(x.2.2.2.2.1.toNat+q-1)/q<=4096:=lMZ (by omega) (by have:4096*16<=4096*q:=ZB1 _ hq.1;omega);rw[oiZ (n:=(to+q-1)/q-fr/q) (by omega) (by omega) (by omega) (λk hk=>(pkZ (by omega)).1 (by omega)) ?_ (by omega) rfl,ZAA];rw[show fr/q+((to+q-1)/q-fr/q)=(to+q-1)/q by omega];by_cases h:(to+q-1)/q<(to+q-1)/q
  ·omega
  ·rw[pkZ (by omega)] at h;omega
 grind
def wStep(P:List Part)(wh:Nat->Bool)(i:Nat)(s:Int×(List NeedT×List NeedT)):Int×(List NeedT×List NeedT):=
 if holeB (pAt P i)=true then(s.1+1,(s.2.1++[((i:Int),(pAt P i,s.1+1))],s.2.2))
 else(s.1,(s.2.1++[((i:Int),(pAt P i,(pAt P i).1))],if wh i=true then s.2.2 else s.2.2++[((i:Int),(pAt P i,(pAt P i).1))]))
def wRun(P:List Part)(wh:Nat->Bool)(a:Nat):Nat->Int->Int×(List NeedT×List NeedT)
 |0,w=>(w,([],[]))
 |k+1,w=>wStep P wh (a+k) (wRun P wh a k w)
theorem bxZ(P)(wh)(a)(w):∀k,(wRun P wh a k w).2.1.length=k/\(wRun P wh a k w).2.2.length<=k/\w<=(wRun P wh a k w).1/\(wRun P wh a k w).1<=w+k
 |0=>by simp[wRun]
 |k+1=>by
  have ih:=bxZ P wh a w k;unfold wRun wStep;split
  ·simp[List.length_nil];omega
  ·split<;>simp[List.length_nil]<;>omega
theorem ueZ{x:Ino}{i:Nat}(hi:i<=100000)(hP:x.2.2.2.2.2.1.length<=100000){s}(hs:0<=s.1/\s.1<=2199023255552)(h1:s.2.1.length<=100000)(h2:s.2.2.length<=100000)(whole):
 ∃o,swri1 fuel (i:Int) whole [x] s.1 s.2.1 s.2.2=some o/\(match o with|.inl r=>(r.1,r.2)|.inr r=>(r.1,(r.2.2,r.2.1)))=wStep x.2.2.2.2.2.1 (λ_=>whole) i s:=by
 unfold swri1 wStep;rw[ZAP,ZAA,muZ x i hP,ZAA];cases hh:((pAt x.2.2.2.2.2.1 i).1==0)&&((pAt x.2.2.2.2.2.1 i).2==0)
 ·rw[ZAM (by unfold holeB;rw[hh];decide)];simp only[ZAD,ZAA,ZAP,ZAK];rw[aeZ (by simp[atZ];omega)];cases whole
  ·simp[ZAK,ZAP,ZAA];rw[nTo];exact⟨_,rfl,rfl⟩
  simp_all
 ·rw[ZAN (by unfold holeB;exact hh)];simp only[ZAK,ZAA,ZAP,ZAO,ZAD];rw[nTo,w6]
  simp_all
def wholeB(q off e:Nat)(i:Nat):Bool:=decide (off<=i*q)&&decide ((i+1)*q<=e)
theorem sNZ{P}{w1 w2}{i}{s}(h:w1 i=w2 i):wStep P w1 i s=wStep P w2 i s:=by
 simp_all[wStep]
theorem rTZ{x:Ino}{c:CallT}{i q off e:Nat}(hq:q<=1000)(hi:i<=100000)(hP:x.2.2.2.2.2.1.length<=100000){s}(hs:0<=s.1/\s.1<=2199023255552)(h1:s.2.1.length<=100000)(h2:s.2.2.length<=100000)(ho:c.2.2.2.2.2.2.2.1=(off:Int)):
 ∃o,swri2 fuel (i:Int) [c] [x] s.1 s.2.1 s.2.2 (q:Int) (e:Int)=some o/\
  (match o with|.inl r1=>(r1.1,(r1.2.1,(r1.2.2.2.2.1,(r1.2.2.2.2.2,([c],(r1.2.2.1,r1.2.2.2.1))))))|.inr r2=>(r2.1,(r2.2.1,(r2.2.2.2.2.2,(r2.2.2.1,([c],(r2.2.2.2.1,r2.2.2.2.2.1)))))))
   =([x],((wStep x.2.2.2.2.2.1 (wholeB q off e) i s).1,((wStep x.2.2.2.2.2.1 (wholeB q off e) i s).2.1,((wStep x.2.2.2.2.2.1 (wholeB q off e) i s).2.2,([c],((q:Int),(e:Int))))))):=by
 unfold swri2;have m1:=ZCQ hi hq;have m2:(i+1)*q<=100001*1000:=ZCQ (by omega) hq;rw[ZAP,ZAA,w64 (x:=((i:Int)+1)) (by omega),show((i:Int)+1)*(q:Int)=(((i+1)*q:Nat):Int) by rw[ZBk,Int.natCast_add];rfl];have fin:∀b,b=wholeB q off e i->∃o,(swri1 fuel (i:Int) b [x] s.1 s.2.1 s.2.2).bind (λr1=>match r1 with
  |.inl r2=>some (Sum.inl ([x],(r2.1,((q:Int),((e:Int),r2.2)))))
  |.inr r3=>some (Sum.inr ([x],(r3.1,(r3.2.1,((q:Int),((e:Int),r3.2.2)))))))=some o/\
  (match o with|.inl r1=>(r1.1,(r1.2.1,(r1.2.2.2.2.1,(r1.2.2.2.2.2,([c],(r1.2.2.1,r1.2.2.2.1))))))|.inr r2=>(r2.1,(r2.2.1,(r2.2.2.2.2.2,(r2.2.2.1,([c],(r2.2.2.2.1,r2.2.2.2.2.1)))))))
   =([x],((wStep x.2.2.2.2.2.1 (wholeB q off e) i s).1,((wStep x.2.2.2.2.2.1 (wholeB q off e) i s).2.1,((wStep x.2.2.2.2.2.1 (wholeB q off e) i s).2.2,([c],((q:Int),(e:Int))))))):=λb hb=>by
  let⟨o,ho,he⟩:=ueZ hi hP hs h1 h2 b
  rw[sNZ hb] at he;rw[ho,ZAA];cases o with
  |inl r=>exact⟨_,rfl,by rw[<-he]⟩
  |inr r=>exact⟨_,rfl,by rw[<-he]⟩
 rw[w6];by_cases h:off<=i*q
 ·rw[dTo,ZAK,w6];refine fin _ ?_;unfold wholeB;rw[ZAJ h,ZBQ];exact decide_eq_decide.2 (by omega)
 ·rw[dFo,ZAD];refine fin _ ?_;unfold wholeB;rw[ZAE h];rfl
theorem mdZ{x:Ino}{c:CallT}{q a n off e:Nat}{w}(hq:1<=q/\q<=1000)(hn:a+n<=90000)(hP:x.2.2.2.2.2.1.length<=100000)(hw:0<=w/\w<=1099511627776)(ho:c.2.2.2.2.2.2.2.1=(off:Int))
 (hin:∀k,k<n->(a+k)*q<e)(hout:e<=(a+n)*q)(hf:off/q=a):
 sspaf23cf fuel (q:Int) (off:Int) (e:Int) [x] w [c] (q:Int) (e:Int)=some ([x],((wRun x.2.2.2.2.2.1 (wholeB q off e) a n w).1,([c],((q:Int),((e:Int),(wRun x.2.2.2.2.2.1 (wholeB q off e) a n w).2))))):=by
 unfold sspaf23cf;have hm:∀z,z<=a+n->z*q<=90000*1000:=λz hz=>ZCQ (by omega) hq.2;rw[aeZ (by rw[dFo];rfl),f9Z,hf,w6];have loop:sspaf23cf_l0_it fuel (q:Int) (e:Int) ((a:Int),([x],(w,([],([],([c],((q:Int),(e:Int))))))))=some ([x],((wRun x.2.2.2.2.2.1 (wholeB q off e) a n w).1,((wRun x.2.2.2.2.2.1 (wholeB q off e) a n w).2.1,((wRun x.2.2.2.2.2.1 (wholeB q off e) a n w).2.2,([c],((q:Int),(e:Int))))))):=by
  unfold sspaf23cf_l0_it;refine aoZ (λk:Nat=>(((a+k:Nat):Int),([x],((wRun x.2.2.2.2.2.1 (wholeB q off e) a k w).1,((wRun x.2.2.2.2.2.1 (wholeB q off e) a k w).2.1,((wRun x.2.2.2.2.2.1 (wholeB q off e) a k w).2.2,([c],((q:Int),(e:Int))))))))) n (by omega) (λk hk=> ?_) ?_
  ·show sspaf23cf_l0 fuel (q:Int) (e:Int) ((a+k:Nat):Int) [x] _ _ _ [c] (q:Int) (e:Int)=_;unfold sspaf23cf_l0;have h1:=hin k hk;have h2:=hm (a+k) (by omega);have hr:=bxZ x.2.2.2.2.2.1 (wholeB q off e) a w k;rw[show((a+k:Nat):Int)*(q:Int)=(((a+k)*q:Nat):Int) by rw[ZBk],w6,dTo,ZAK];obtain⟨o,ho,he⟩:=rTZ (i:=a+k) (s:=wRun x.2.2.2.2.2.1 (wholeB q off e) a k w) hq.2 (by omega) hP ⟨by omega,by omega⟩ (by omega) (by omega) ho;rw[ho,ZAA,w6];cases o with
   |inl r=>
    simp only[ZAA];simp only at he;rw[he];rfl
   |inr r=>
    simp only[ZAA];simp only at he;rw[he];rfl
  ·show sspaf23cf_l0 fuel (q:Int) (e:Int) ((a+n:Nat):Int) [x] _ _ _ [c] (q:Int) (e:Int)=_;unfold sspaf23cf_l0;have h2:=hm (a+n) (by omega);rw[show((a+n:Nat):Int)*(q:Int)=(((a+n)*q:Nat):Int) by rw[ZBk],w6,dFo,ZAD]
 simp_all
def wFirst(q:Nat)(c:CallT):Nat:=if c.2.2.1=uO 5 then c.2.2.2.2.2.2.2.1.toNat/q else c.2.2.2.2.2.2.2.2.1.toNat/q
def wMany(x:Ino)(q:Nat)(c:CallT):Nat:=
 if c.2.2.1=uO 5 then
  if c.2.2.2.2.2.2.2.2.2.length=0 then 0 else(c.2.2.2.2.2.2.2.1.toNat+c.2.2.2.2.2.2.2.2.2.length+q-1)/q-c.2.2.2.2.2.2.2.1.toNat/q
 else if c.2.2.2.2.2.2.2.2.1<x.2.2.2.2.1/\c.2.2.2.2.2.2.2.2.1.toNat%q≠0/\holeB (pAt x.2.2.2.2.2.1 (c.2.2.2.2.2.2.2.2.1.toNat/q))=false then 1 else 0
def wWhole(q:Nat)(c:CallT):Nat->Bool:=if c.2.2.1=uO 5 then wholeB q c.2.2.2.2.2.2.2.1.toNat (c.2.2.2.2.2.2.2.1.toNat+c.2.2.2.2.2.2.2.2.2.length) else λ_=>false
def writesF(x:Ino)(w:Int)(q:Nat)(c:CallT):Int×(List NeedT×List NeedT):=wRun x.2.2.2.2.2.1 (wWhole q c) (wFirst q c) (wMany x q c) w
theorem op56{c:CallT}(h:c.2.2.1=uO 5\/c.2.2.1=uO 6):c.2.2.1≠uO 5->c.2.2.1=uO 6:=λh5=>h.resolve_left h5
theorem rzZ{x:Ino}{c:CallT}{q:Nat}{w}(hq:16<=q/\q<=65)(hP:x.2.2.2.2.2.1.length<=4096)(hw:0<=w/\w<=1099511627776)(ae:c.2.2.1=uO 5\/c.2.2.1=uO 6)
 (ho:0<=c.2.2.2.2.2.2.2.1)(h5:c.2.2.1=uO 5->c.2.2.2.2.2.2.2.1+((c.2.2.2.2.2.2.2.2.2.length:Nat):Int)<=65536)(hn:0<=c.2.2.2.2.2.2.2.2.1/\c.2.2.2.2.2.2.2.2.1<=2147483648)(hb:c.2.2.2.2.2.2.2.2.2.length<=4096)(ag:c.2.2.2.2.2.2.2.1<=2147483648):
 swri fuel x w (q:Int) c=some (writesF x w q c).2:=by
 unfold swri writesF Pa Pb Pc Pd Pg Ph PD PH;have ab:=ZBd ho;have ac:=ZBd hn.1;rw[w6];by_cases e5:c.2.2.1=uO 5
 ·have h5:=h5 e5;unfold wWhole wFirst wMany;rw[ZAN e5,ZAN e5,ZAN e5,e5,show(((uO 5).toNat:Nat):Int)=5 from rfl];simp only[ZAb,ZAK,ZAA];by_cases hl:c.2.2.2.2.2.2.2.2.2.length=0
  ·rw[dFo,ZAN hl];simp only[ZAD,ZAP,ZAA];rw[e5]
   rfl
  ·rw[dTo,ZAM hl];simp only[ZAK,ZAP,ZAA];rw[<-ab,show((c.2.2.2.2.2.2.2.1.toNat:Nat):Int)+((c.2.2.2.2.2.2.2.2.2.length:Nat):Int)=((c.2.2.2.2.2.2.2.1.toNat+c.2.2.2.2.2.2.2.2.2.length:Nat):Int) by omega,ZBo];have ah:=q5Z (q:=q) (a:=c.2.2.2.2.2.2.2.1.toNat) (b:=c.2.2.2.2.2.2.2.1.toNat+c.2.2.2.2.2.2.2.2.2.length) (by omega) (by omega);have ai:(c.2.2.2.2.2.2.2.1.toNat+c.2.2.2.2.2.2.2.2.2.length+q-1)/q<=4096:=lMZ (by omega) (by have:4096*16<=4096*q:=ZB1 _ hq.1;omega);have af:∀k,k<(c.2.2.2.2.2.2.2.1.toNat+c.2.2.2.2.2.2.2.2.2.length+q-1)/q-c.2.2.2.2.2.2.2.1.toNat/q->(c.2.2.2.2.2.2.2.1.toNat/q+k)*q<c.2.2.2.2.2.2.2.1.toNat+c.2.2.2.2.2.2.2.2.2.length:=λk hk=>(pkZ (by omega)).1 (by omega);have ad:c.2.2.2.2.2.2.2.1.toNat+c.2.2.2.2.2.2.2.2.2.length<=(c.2.2.2.2.2.2.2.1.toNat/q+((c.2.2.2.2.2.2.2.1.toNat+c.2.2.2.2.2.2.2.2.2.length+q-1)/q-c.2.2.2.2.2.2.2.1.toNat/q))*q:=by
    rw[show c.2.2.2.2.2.2.2.1.toNat/q+((c.2.2.2.2.2.2.2.1.toNat+c.2.2.2.2.2.2.2.2.2.length+q-1)/q-c.2.2.2.2.2.2.2.1.toNat/q)=(c.2.2.2.2.2.2.2.1.toNat+c.2.2.2.2.2.2.2.2.2.length+q-1)/q by omega];by_cases h:(c.2.2.2.2.2.2.2.1.toNat+c.2.2.2.2.2.2.2.2.2.length+q-1)/q<(c.2.2.2.2.2.2.2.1.toNat+c.2.2.2.2.2.2.2.2.2.length+q-1)/q
    ·omega
    ·rw[pkZ (by omega)] at h;omega
   rw[mdZ ⟨by omega,by omega⟩ (by omega) (by omega) hw ab.symm af ad rfl,ZAA]
 ·have e6:=op56 ae e5;have aj:¬(uO 6=uO 5):=by decide
  unfold wWhole wFirst wMany;rw[ZAM e5,ZAM e5,ZAM e5,e6,show(((uO 6).toNat:Nat):Int)=6 from rfl];simp only[show((6:Int)==5)=false from rfl,ZAD,ZAA,ZAP];rw[e6,show(((uO 6).toNat:Nat):Int)=6 from rfl];simp only[ZAb,ZAK];have hd:c.2.2.2.2.2.2.2.2.1.toNat/q<=c.2.2.2.2.2.2.2.2.1.toNat/16:=Nat.div_le_div_left hq.1 (by decide);have hm:Int.tmod c.2.2.2.2.2.2.2.2.1 (q:Int)=((c.2.2.2.2.2.2.2.2.1.toNat%q:Nat):Int):=by rw[<-ac];exact(Int.ofNat_tmod _ _).symm
  have hv:Int.tdiv c.2.2.2.2.2.2.2.2.1 (q:Int)=((c.2.2.2.2.2.2.2.2.1.toNat/q:Nat):Int):=by rw[<-ac];exact f9Z _ _
  have aa:(!(decide ((q:Int)=0)))=true:=by rw[dFo];rfl
  generalize c.2.2.2.2.2.2.2.2.1.toNat/q=k at*;rw[hm,hv,w6,muZ x _ (by omega)];by_cases c1:c.2.2.2.2.2.2.2.2.1<x.2.2.2.2.1
  ·rw[ZAJ c1,ZAK,aeZ aa];by_cases c2:c.2.2.2.2.2.2.2.2.1.toNat%q=0
   ·rw[c2,ZAM (λz=>z.2.1 rfl)]
    rfl
   ·rw[show(((c.2.2.2.2.2.2.2.2.1.toNat%q:Nat):Int)==0)=false from ZAW.2 (by omega),aeZ aa,ZAA];simp only[ZAk,ZAK,ZAA];cases c3:holeB (pAt x.2.2.2.2.2.1 k)
    ·rw[ZAN ⟨c1,c2,rfl⟩];rw[show((pAt x.2.2.2.2.2.1 k).1==0&&(pAt x.2.2.2.2.2.1 k).2==0)=false from c3];simp only[ZAk,ZAK,ZAP,ZAA];rw[aeZ aa,hv,w6];unfold swri12;rw[ZAP,ZAA,muZ x _ (by omega),ZAA,show((pAt x.2.2.2.2.2.1 k).1==0&&(pAt x.2.2.2.2.2.1 k).2==0)=false from c3];simp only[ZAD,ZAk,ZAK,ZAP,ZAA];rw[aeZ (by simp only[ZAF,ZAl,atZ];decide)];unfold wRun wRun wStep;rw[ZCS,c3]
     rfl
    ·rw[ZAM (λz=>absurd z.2.2 (by decide))];rw[show((pAt x.2.2.2.2.2.1 k).1==0&&(pAt x.2.2.2.2.2.1 k).2==0)=true from c3]
     rfl
  ·rw[ZAE c1,ZAM (λz=>c1 z.1)]
   rfl
abbrev PlanT:Type:=Int×(ReplyT×(List NeedT×List NeedT))
def repOf(c:CallT)(r:Mod×Int×Rep):ReplyT:=(c.1,(c.2.1,(r.2.1,(r.2.2.1,(r.2.2.2.1,(r.2.2.2.2.1,(r.2.2.2.2.2.1,(r.2.2.2.2.2.2.1,(r.2.2.2.2.2.2.2.1,r.2.2.2.2.2.2.2.2)))))))))
def noB(r:ReplyT):ReplyT:=(r.1,(r.2.1,(r.2.2.1,(r.2.2.2.1,(r.2.2.2.2.1,(r.2.2.2.2.2.1,([],r.2.2.2.2.2.2.2)))))))
def asksB(o:UInt8):Bool:=(o.toNat==1)||((o.toNat==4)||((o.toNat==10)||((o.toNat==11)||(o.toNat==12))))
theorem tbZ:∀n,n<256->sask fuel ((n:Nat):Int)=some ((n==1)||((n==4)||((n==10)||((n==11)||(n==12))))):=by decide+kernel
theorem u6Z(o):sask fuel ((o.toNat:Nat):Int)=some (asksB o):=tbZ _ o.toNat_lt
def zIno:Ino:=(0,0,false,false,0,[],0,[])
def fileP(s:GateT)(c:CallT):Ino:=(s.2.1.1[(c.2.2.2.1.1-1).toNat]?).getD zIno
theorem ndZ{t}{i:Nat}{y}(h:(bareM t).1.1[i]? =some y):∃x,t.1[i]? =some x/\y=bareI x:=by
 simp[bareM] at h
 grind
structure FileOf (s:GateT) (c:CallT) (x:Ino):Prop where
 at_:s.2.1.1[(c.2.2.2.1.1-1).toNat]? =some x
 h1:1<=c.2.2.2.1.1
 used:x.2.2.1=true
 dir:x.2.2.2.1=false
 gen:x.2.1=c.2.2.2.1.2
theorem FileOf.p{s}{c}{x}(h:FileOf s c x):fileP s c=x:=by
 unfold fileP;rw[h.at_];rfl
theorem g0Z{s}{c}(h:(fileF (bareM s.2.1) c.2.2.2.1).2.2=0):∃x,FileOf s c x:=by
 let⟨y,hy,_⟩:=d1Z h
 let⟨hH,hd,_⟩:=hy
 let⟨h1,h2,h3,h4⟩:=hH
 obtain⟨x,hx,rfl⟩:=ndZ h2;exact⟨x,hx,h1,h3,hd,h4⟩
theorem act4{m}{c}(h:c.2.2.1=uO 4):actF m c=readA m c:=by simp_all[actF]
theorem act5{m}{c}(h:c.2.2.1=uO 5):actF m c=writeA m c:=by simp_all[actF]
theorem act6{m}{c}(h:c.2.2.1=uO 6):actF m c=sizeA m c:=by simp_all[actF]
theorem res0{m}{c}(hr:rightCall c=true)(h:(resF m c).2.1=0):(actF m c).1=0:=by
 unfold resF at h
 grind
theorem vlZ{s}{c}(hr:rightCall c=true)(h4:c.2.2.1=uO 4)(h:(resF (bareM s.2.1) c).2.1=0):∃x,FileOf s c x:=by
 have h:=res0 hr h;rw[act4 h4] at h;unfold readA at h;split at h
 ·rename_i hf;exact g0Z hf
 ·rename_i hf;exact absurd h hf
theorem utZ{s}{c}(hr:rightCall c=true)(h5:c.2.2.1=uO 5)(h:(resF (bareM s.2.1) c).2.1=0):(∃x,FileOf s c x)/\c.2.2.2.2.2.2.2.1+((c.2.2.2.2.2.2.2.2.2.length:Nat):Int)<=65536:=by
 have h:=res0 hr h;rw[act5 h5] at h;unfold writeA at h;split at h
 ·rename_i hf;refine⟨g0Z hf,?_⟩;split at h
  ·cases h
  ·omega
 ·rename_i hf;exact absurd h hf
theorem tKZ{s}{c}(hr:rightCall c=true)(h6:c.2.2.1=uO 6)(h:(resF (bareM s.2.1) c).2.1=0):(∃x,FileOf s c x)/\c.2.2.2.2.2.2.2.2.1<=65536:=by
 have h:=res0 hr h;rw[act6 h6] at h;unfold sizeA at h;split at h
 ·rename_i hf;refine⟨g0Z hf,?_⟩;split at h
  ·cases h
  ·omega
 ·rename_i hf;exact absurd h hf
def planF(s:GateT)(q:Nat)(c:CallT):PlanT×Int:=
 if rightCall c=true then
  if asksB c.2.2.1=true then
   if c.2.2.1=uO 4/\(resF (bareM s.2.1) c).2.1=0 then((1,(noB (repOf c (resF (bareM s.2.1) c)),(readsF (fileP s c) q c,[]))),0)
   else((1,(repOf c (resF (bareM s.2.1) c),([],[]))),0)
  else if(look s.2.2.1 c.1 c.2.1).2=1 then((3,((look s.2.2.1 c.1 c.2.1).1,([],[]))),0)
  else if(look s.2.2.1 c.1 c.2.1).2=2 then((4,(zR,([],[]))),0)
  else if(resF (bareM s.2.1) c).2.1=0/\(c.2.2.1=uO 5\/c.2.2.1=uO 6) then((2,(zR,((writesF (fileP s c) s.2.1.2 q c).2.2,(writesF (fileP s c) s.2.1.2 q c).2.1))),0)
  else((2,(zR,([],[]))),0)
 else((0,(zR,([],[]))),179)
theorem opB(o)(n:Nat)(hn:n<256):((((o.toNat:Nat):Int))==(n:Int))=decide (o=uO n):=by
 by_cases h:o=uO n
 ·rw[ZAJ h,h];have:(uO n).toNat=n:=Nat.mod_eq_of_lt hn;rw[this];exact ZAb _
 grind[ZAE,ZAW,uOt]
theorem op4(o):(((o.toNat:Nat):Int)==4)=decide (o=uO 4):=opB o 4 (by decide)
theorem op5(o):(((o.toNat:Nat):Int)==5)=decide (o=uO 5):=opB o 5 (by decide)
theorem op6(o):(((o.toNat:Nat):Int)==6)=decide (o=uO 6):=opB o 6 (by decide)
theorem c7Z{s}{q}(h:StOK s q)(c:CallT):sPla fuel s (q:Int) c=some (planF s q c):=by
 unfold sPla planF Pa Pb Pc Pd Pe Pf Pg Ph Pi Pj Pk PB PC PF PJ;rw[h.right,ZAA,axZ];simp only[ZAO,ZAD,ZAA];cases hr:rightCall c
 ·rfl
 simp only[ZAO,ZAD,ZCn]
 let⟨ho,hn,hb⟩:=a5Z hr
 rw[eBZ h.t,ZAA,show(((bareM s.2.1).1.1,(bareM s.2.1).1.2),(bareM s.2.1).2)=bareM s.2.1 from rfl,pfZ (aXZ h.t),ZAA,u6Z,ZAA];generalize hR:resF (bareM s.2.1) c=R at*;cases ha:asksB c.2.2.1
 ·simp only[ZAD];rw[ZAM (by decide),pXZ s.2.2.1 (bnZ h.c),ZAA,k0Z];by_cases l1:(look s.2.2.1 c.1 c.2.1).2=1
  ·rw[ZAN l1,l1];rfl
  rw[ZAM l1,(ZAW.2 l1),ZAD];by_cases l2:(look s.2.2.1 c.1 c.2.1).2=2
  ·rw[ZAN l2,l2];rfl
  rw[ZAM l2,(ZAW.2 l2),ZAD];rw[show(doT R c).2.2.2.1=R.2.1 from rfl];by_cases e0:R.2.1=0
  ·rw[e0];simp only[ZAb,ZAK];rw[op5,op6];have file:(c.2.2.1=uO 5\/c.2.2.1=uO 6)->∃x,FileOf s c x/\(c.2.2.1=uO 5->c.2.2.2.2.2.2.2.1+((c.2.2.2.2.2.2.2.2.2.length:Nat):Int)<=65536):=λhop=>by
    rcases hop with h5|h6
    ·obtain⟨⟨x,hx⟩,hl⟩:=utZ hr h5 (by rw[hR];exact e0);exact⟨x,hx,λ_=>hl⟩
    ·obtain⟨⟨x,hx⟩,hl⟩:=tKZ hr h6 (by rw[hR];exact e0);exact⟨x,hx,λh5=>by rw[h6] at h5;exact absurd h5 (by decide)⟩
   by_cases hop:c.2.2.1=uO 5\/c.2.2.1=uO 6
   ·obtain⟨x,hx,hl⟩:=file hop;rw[ZAN ⟨trivial,hop⟩,hx.p];have step:∀{α} (S:α),(bif decide (c.2.2.1=uO 5) then some (true,S) else some (decide (c.2.2.1=uO 6),S))=some (true,S):=λS=>by
     rcases hop with e|e<;>rw[e]<;>rfl
    rw[step,ZAA];simp only[ZAK,ZAP,ZAA];have hlt:=(ZAB.1 hx.at_).1;have hlen:=h.t.r.len;have h1:=hx.h1;rw[w6,show c.2.2.2.1.1-1=(((c.2.2.2.1.1-1).toNat:Nat):Int) by omega,adZ hlt,ZAA,hx.at_,ZAA];rw[rzZ h.q (h.t.r.ino _ _ hx.at_|>.file hx.used hx.dir).2.2.1 h.t.r.str hop ho.1 hl hn hb ho.2,ZAA]
    rfl
   ·rw[ZAM (λz=>hop z.2)];have step:∀{α} (S:α),(bif decide (c.2.2.1=uO 5) then some (true,S) else some (decide (c.2.2.1=uO 6),S))=some (false,S):=λS=>by
     rw[ZAE (λe=>hop (.inl e)),ZAE (λe=>hop (.inr e))];rfl
    rw[step,ZAA]
    rfl
  ·rw[ZAM (λz=>e0 z.1),(ZAW.2 e0)]
   rfl
 ·simp only[ZAK,ZCn];rw[op4];by_cases h4:c.2.2.1=uO 4
  ·rw[ZAJ h4,ZAK,ZAA,show(doT R c).2.2.2.1=R.2.1 from rfl];by_cases e0:R.2.1=0
   ·rw[ZAN ⟨h4,e0⟩,e0];obtain⟨x,hx⟩:=vlZ hr h4 (by rw[hR];exact e0);have hlt:=(ZAB.1 hx.at_).1;have hlen:=h.t.r.len;have h1:=hx.h1;have hf:=(h.t.r.ino _ _ hx.at_).file hx.used hx.dir;simp only[ZAb,ZAK,ZAP,ZAA];rw[w6,show c.2.2.2.1.1-1=(((c.2.2.2.1.1-1).toNat:Nat):Int) by omega,adZ hlt,ZAA,hx.at_,ZAA];rw[rSZ h.q hf.1 (h.l _ _ hx.at_ hx.used hx.dir) ho hn,ZAA,hx.p];simp only[repOf,noB,e0]
    rfl
   ·rw[ZAM (λz=>e0 z.2),(ZAW.2 e0)]
    rfl
  ·rw[ZAE h4,ZAD,ZAM (λz=>h4 z.1)]
   rfl
structure Step (l l':List Ino):Prop where
 len:l.length<=l'.length
 at_:∀(i:Nat) y,l'[i]? =some y->y.2.2.1=true->(∃x,l[i]? =some x/\x.2.2.1=true/\x.2.1=y.2.1/\x.2.2.2.1=y.2.2.2.1/\x.2.2.2.2.1=y.2.2.2.2.1)\/(y.2.2.2.2.1=0/\∀x,l[i]? =some x->x.2.1≠y.2.1)
theorem Step.refl(l):Step l l:=⟨ZAL _,λi y h hu=>.inl ⟨y,h,hu,rfl,rfl,rfl⟩⟩
theorem Step.mod{l l'}(h:Step l l')(i)(f)(hf:∀n,(f n).2.2.1=true->n.2.2.1=true/\(f n).2.1=n.2.1/\(f n).2.2.2.1=n.2.2.2.1/\(f n).2.2.2.2.1=n.2.2.2.2.1):Step l (modL l' i f):=by
 refine⟨by rw[aYZ];exact h.len,λj y hy hu=> ?_⟩;rw[biZ] at hy;split at hy
 ·cases hn:l'[j]? with
  |none=>rw[hn] at hy;cases hy
  |some n=>
   rw[hn] at hy;simp[ZAV] at hy;subst hy
   let⟨q1,q2,q3,q4⟩:=hf n hu
   rw[q2,q3,q4];exact h.at_ j n hn q1
 ·exact h.at_ j y hy hu
theorem Step.put{l l'}(h:Step l l')(a)(s)(id):Step l (putL l' a s id):=h.mod _ _ λ_ h=>⟨h,rfl,rfl,rfl⟩
theorem Step.take{l l'}(h:Step l l')(a)(s):Step l (takeL l' a s):=h.mod _ _ λ_ h=>⟨h,rfl,rfl,rfl⟩
theorem Step.drop{l l'}(h:Step l l')(a):Step l (dropL l' a):=h.mod _ _ λ_ h=>by cases h
theorem Step.mv{l l'}(h:Step l l')(a)(old)(b)(name)(id):Step l (mvL l' a old b name id):=((h.take a old).put b name id).mod _ _ λ_ h=>⟨h,rfl,rfl,rfl⟩
theorem Step.alloc{l l'}{ab}{aa g}{i}(ha:allocF l ab aa=some (l',i,g)):Step l l':=by
 unfold allocF at ha;cases hf:freeAt l with
 |none=>
  rw[hf] at ha;simp only at ha;split at ha
  ·obtain⟨rfl,rfl,rfl⟩:=ha;refine⟨by simp,λj y hy hu=> ?_⟩;by_cases hj:j<l.length
   ·rw[ZAR hj] at hy;exact .inl ⟨y,hy,hu,rfl,rfl,rfl⟩
   ·rw[ZAU (by omega)] at hy;cases hq:j-l.length with
    |succ q=>rw[hq] at hy;simp at hy
    |zero=>
     rw[hq] at hy;simp[ZAV] at hy;subst hy;exact .inr ⟨rfl,λx hx=>by rw[gNo] at hx;cases hx⟩
  simp_all
 |some k=>
  rw[hf] at ha;simp at ha
  let⟨hk,ac,_⟩:=ZA2.1 hf
  have hg:=ZAC hk;rw[hg] at ha;simp only at ha;split at ha
  ·simp[ZA1] at ha;obtain⟨rfl,rfl,rfl⟩:=ha;refine⟨by rw[ZAr];exact ZAL _,λj y hy hu=> ?_⟩;by_cases hj:j=k
   ·subst hj;rw[ZAT hk] at hy;simp at hy;subst hy;exact .inr ⟨rfl,λx hx=>by rw[hg] at hx;obtain rfl:=ZAf hx;simp;omega⟩
   ·rw[ZAa (λe=>hj e.symm)] at hy;exact .inl ⟨y,hy,hu,rfl,rfl,rfl⟩
  simp_all
theorem qBZ(t)(d)(s)(is):Step t.1 (makeF t d s is).1.1/\(makeF t d s is).1.2=t.2:=by
 unfold makeF
 (repeat' split)<;>first|exact⟨Step.refl _,rfl⟩|(rename_i h;exact⟨(Step.alloc h).put _ _ _,rfl⟩)
theorem lXZ(t)(d)(s)(is):Step t.1 (removeF t d s is).1.1/\(removeF t d s is).1.2=t.2:=by
 unfold removeF
 (repeat' split)<;>first|exact⟨Step.refl _,rfl⟩|exact⟨((Step.refl _).take _ _).drop _,rfl⟩
theorem lYZ(t)(a)(old)(b)(name):Step t.1 (renameF t a old b name).1.1/\(renameF t a old b name).1.2=t.2:=by
 unfold renameF
 (repeat' split)<;>first|exact⟨Step.refl _,rfl⟩|exact⟨(((Step.refl _).take _ _).drop _).mv _ _ _ _ _,rfl⟩|exact⟨(Step.refl _).mv _ _ _ _ _,rfl⟩
theorem imZ(l)(h):0<=dirE l h/\dirE l h<=1000:=by
 unfold dirE;(repeat' split)<;>decide
theorem mIZ(d)(n):0<=misE d n/\misE d n<=1000:=by
 grind[misE]
theorem nhZ(t)(d)(s)(is):0<=(makeF t d s is).2.2/\(makeF t d s is).2.2<=1000:=by
 unfold makeF;(repeat' split)<;>first|decide|(dsimp;decide)|exact imZ _ _
theorem hOZ(t)(d)(s)(is):0<=(removeF t d s is).2.2/\(removeF t d s is).2.2<=1000:=by
 unfold removeF;(repeat' split)<;>first|decide|(dsimp;decide)|exact imZ _ _|exact mIZ _ _
theorem nBZ(t)(a)(old)(b)(name):0<=(renameF t a old b name).2.2/\(renameF t a old b name).2.2<=1000:=by
 unfold renameF;(repeat' split)<;>first|decide|(dsimp;decide)|exact imZ _ _|exact mIZ _ _
theorem ntZ(m)(h):0<=(fileF m h).2.2/\(fileF m h).2.2<=1000:=by
 unfold fileF;split
 ·decide
 ·rename_i x _;cases x.2.2.2.1
  ·split<;>(dsimp;decide)
  simp_all
theorem lHZ{t}(h:TreeOK t)(d)(s)(is)(h0:(makeF t d s is).2.2=0):handleB3 (makeF t d s is).2.1=true:=by
 rcases oRZ h d s is with⟨e,he,hm⟩|⟨T,f,n,l',i,hm,mo⟩
 ·simp_all[iVZ,ZA1]
 ·rw[(iVZ h d s is).1] at hm;simp[ZA1] at hm;have hT:=mo.tree h;have hn:=mo.new h;have o:=hT.r.ino _ _ hn;have hl:=(ZAB.1 hn).1;have aa:=hT.r.len;have hf:=mo.f;have g:=o.gen;unfold handleB3;rw[hm.2.2.2.1];refine ZAJ ⟨by omega,by omega,g.1,g.2⟩
def newSize(x:Ino)(c:CallT):Int:=if c.2.2.1=uO 5 then max x.2.2.2.2.1 (if c.2.2.2.2.2.2.2.2.2.length=0 then 0 else c.2.2.2.2.2.2.2.1+((c.2.2.2.2.2.2.2.2.2.length:Nat):Int)) else c.2.2.2.2.2.2.2.2.1
theorem fAZ{s}{c}{x}(h:TreeOK s.2.1)(hr:rightCall c=true)(ad:c.2.2.1=uO 5\/c.2.2.1=uO 6)(h0:(resF (bareM s.2.1) c).2.1=0)(hx:FileOf s c x):
 (resF (bareM s.2.1) c).1.1=((bareM s.2.1).1.1.set (c.2.2.2.1.1-1).toNat (wS (bareI x) (newSize x c)),s.2.1.2)/\(resF (bareM s.2.1) c).2.2=(c.2.2.2.1,false,newSize x c,[],[],false,0)/\0<=newSize x c/\newSize x c<=65536:=by
 let⟨ho,hn,hb⟩:=a5Z hr
 have ha:=res0 hr h0;have ab:(bareM s.2.1).1.1[(c.2.2.2.1.1-1).toNat]? =some (bareI x):=by
  unfold bareM;simp only[ZAY,hx.at_];rfl
 have ae:(bareM s.2.1).2[(c.2.2.2.1.1-1).toNat]? =some (zeroI x):=by
  unfold bareM;simp only[ZAY,hx.at_];rfl
 have hf:fileF (bareM s.2.1) c.2.2.2.1=(c.2.2.2.1.1,zeroI x,0):=by
  unfold fileF;rw[cLZ.2 ((⟨hx.h1,ab,hx.used,hx.gen⟩))];simp only;rw[show(bareI x).2.2.2.1=false from hx.dir,ae];rfl
 have hset:∀b:Byt,setSize (bareM s.2.1).1.1 c.2.2.2.1 ((b.length:Nat):Int)=(bareM s.2.1).1.1.set (c.2.2.2.1.1-1).toNat (wS (bareI x) ((b.length:Nat):Int)):=λb=>by
  unfold setSize;rw[ab];rfl
 have af:=dZZ h hx.at_;have hz:((zeroI x).length:Int)=x.2.2.2.2.1:=by unfold zeroI;rw[ZBN];omega
 have ac:resF (bareM s.2.1) c=(((actF (bareM s.2.1) c).2.1.1,madeD (actF (bareM s.2.1) c).2.1.1.1 (actF (bareM s.2.1) c).2.1.2),0,(actF (bareM s.2.1) c).2.2):=by
  unfold resF;rw[ZAN hr,ZAN ha]
 rw[ac];by_cases e5:c.2.2.1=uO 5
 ·rw[act5 e5] at ha⊢;unfold writeA at ha⊢;rw[hf,ZAN rfl] at ha⊢;split at ha
  ·cases ha
  ·rename_i aa;rw[ZAM aa];have hN:((writeN (zeroI x) c.2.2.2.2.2.2.2.1 c.2.2.2.2.2.2.2.2.2:Nat):Int)=newSize x c:=by
    unfold writeN newSize;rw[ZAN e5];split<;>omega
   simp only;rw[hN];refine⟨?_,rfl,?_⟩
   ·unfold putB;rw[hset,dGZ,hN];rfl
   ·unfold newSize;rw[ZAN e5];split<;>omega
 ·have e6:=op56 ad e5;rw[act6 e6] at ha⊢;unfold sizeA at ha⊢;rw[hf,ZAN rfl] at ha⊢;split at ha
  ·cases ha
  ·rename_i aa;rw[ZAM aa];have hN:newSize x c=c.2.2.2.2.2.2.2.2.1:=by unfold newSize;rw[ZAM e5]
   refine⟨?_,by rw[hN],by omega⟩;simp only;unfold putB;rw[hset,bqZ,hN,ZBd hn.1];rfl
theorem mAZ{m}(c)(ab:(resF m c).2.1=0->¬(c.2.2.1=uO 5\/c.2.2.1=uO 6)):Step m.1.1 (resF m c).1.1.1/\(resF m c).1.1.2=m.1.2:=by
 unfold resF at ab⊢;by_cases hr:rightCall c=true
 ·rw[ZAN hr] at ab⊢;by_cases h0:(actF m c).1=0
  ·rw[ZAN h0] at ab⊢;have ab:=ab rfl;have aa:(actF m c).2.1=m->Step m.1.1 (actF m c).2.1.1.1/\(actF m c).2.1.1.2=m.1.2:=λe=>by rw[e];exact⟨Step.refl _,rfl⟩
   have ac:actF m c=makeA m c->Step m.1.1 (actF m c).2.1.1.1/\(actF m c).2.1.1.2=m.1.2:=λe=>by
    rw[e];unfold makeA;split
    ·exact qBZ _ _ _ _
    ·exact⟨Step.refl _,rfl⟩
   have ad:actF m c=removeA m c->Step m.1.1 (actF m c).2.1.1.1/\(actF m c).2.1.1.2=m.1.2:=λe=>by
    rw[e];unfold removeA;split
    ·exact lXZ _ _ _ _
    ·exact⟨Step.refl _,rfl⟩
   rcases iZZ hr with e|e|e|e|e|e|e|e|e|e|e|e
   ·refine aa ?_;unfold actF lookA;rw[e];simp;(repeat' split)<;>rfl
   ·exact ac (by unfold actF;rw[e];rfl)
   ·exact ac (by unfold actF;rw[e];rfl)
   ·refine aa ?_;rw[act4 e];unfold readA;split<;>rfl
   ·exact absurd (.inl e) ab
   ·exact absurd (.inr e) ab
   ·exact ad (by unfold actF;rw[e];rfl)
   ·exact ad (by unfold actF;rw[e];rfl)
   ·rw[show actF m c=renameA m c by unfold actF;rw[e];rfl];unfold renameA;split
    ·exact lYZ _ _ _ _ _
    ·exact⟨Step.refl _,rfl⟩
   ·refine aa ?_;rw[show actF m c=listA m c by unfold actF;rw[e];rfl];rfl
   ·refine aa ?_;rw[show actF m c=getA m c by unfold actF;rw[e];rfl];unfold getA;split<;>rfl
   ·refine aa ?_;rw[show actF m c=statA m by unfold actF;rw[e];rfl];rfl
  ·rw[ZAM h0];exact⟨Step.refl _,rfl⟩
 simp_all[Step.refl]
section
variable {α : Type} {key : α → Int}
theorem uniq{l:List α}(hs:(l.map key).Pairwise (·<·)){i j:Nat}{a b}(hi:l[i]? =some a)(hj:l[j]? =some b)(h:key a=key b):i=j:=by
 grind[ZAB,Nat.lt_trichotomy,ZBp]
theorem seZ{l:List α}(hs:(l.map key).Pairwise (·<·)){x}{a}:l.find? (λa=>key a==x)=some a↔a∈l/\key a=x:=by
 constructor
 ·grind
 ·cases hf:l.find? (λa=>key a==x)<;>grind[ZBs,ZCE,ZCl,ZAQ,uniq]
theorem hNZ{l:List α}(hs:(l.map key).Pairwise (·<·)){x}{a}(ha:key a=x)(hno:l.find? (λa=>key a==x)=none):
 ((l.take (pre (λa=>decide (key a<x)) l)++[a]++l.drop (pre (λa=>decide (key a<x)) l)).map key).Pairwise (·<·):=by
 have hlt:∀b∈l.take (pre (λa=>decide (key a<x)) l),key b<x:=λb hb=>of_decide_eq_true (s0Z _ l b hb);have hgt:∀b∈l.drop (pre (λa=>decide (key a<x)) l),x<key b:=λb hb=>by
  obtain⟨i,hi⟩:=ZAQ hb;rw[ZA0] at hi;have h1:=λhc=>by
   have:=(ipZ hs x _ b hi).1 hc;omega
  have h2:=by
   have:=ZBs.1 hno b (ZAI hi);simpa using this
  omega
 grind
theorem mxZ{l:List α}{n}{a b}:b∈l.take n++[a]++l.drop n↔b=a\/b∈l:=by
 have:b∈l↔b∈l.take n\/b∈l.drop n:=by rw[<-List.mem_append,ZBC]
 grind
theorem uSZ{l:List α}{i}{a b}(h:l[i]? =some a)(hk:key b=key a):(l.set i b).map key=l.map key:=by
 simp_all[dsZ]
theorem umZ{l:List α}(hs:(l.map key).Pairwise (·<·)){i}{a b c}(h:l[i]? =some a):c∈l.set i b↔c=b\/(c∈l/\key c≠key a):=by
 constructor
 ·grind[ZAQ,ZAT,ZAa,ZAI,uniq]
 ·rintro(rfl|⟨h1,h2⟩)
  ·grind[ZAI,ZAT]
  ·let⟨j,hj⟩:=ZAQ h1
   by_cases e:j=i
   ·simp_all
   ·exact ZAI (by rw[ZAa (ZBh e)];omega)
end
theorem iYZ{ks}(hs:(ks.map (·.1)).Pairwise (·<·)){x}{k}:kOf ks x=some k↔k∈ks/\k.1=x:=seZ hs
theorem qTZ{c}(h:rightC c=true){cl x}:(look c cl x).2=0↔∀k,kOf c.2 cl=some k->k.2.1<x/\rOf k.2.2 x=none:=by
 unfold look
 grind
theorem sCZ(w)(k)(r):(putK w k r).1=k.1:=by
 grind[putK]
theorem odZ{w}(_hw:1<=w){k}{r}(hk:keptB w k=true)(hr:rightReply r=true)(h1:r.1=k.1)(h2:k.2.1<r.2.1)(h3:rOf k.2.2 r.2.1=none):keptB w (putK w k r)=true:=by
 let⟨a1,a2,a3,a4,a5⟩:=ckZ.1 hk
 have hs:=hNZ a4 rfl h3;have hle:repAt k.2.2 r.2.1<=k.2.2.length:=gdZ _ _;have hm:∀b,b∈k.2.2.take (repAt k.2.2 r.2.1)++[r]++k.2.2.drop (repAt k.2.2 r.2.1)->b.1=k.1/\k.2.1<b.2.1/\rightReply b=true:=λb hb=>by
  rcases mxZ.1 hb with rfl|hb
  ·exact⟨h1,h2,hr⟩
  ·exact a5 b hb
 have hlen:(k.2.2.take (repAt k.2.2 r.2.1)++[r]++k.2.2.drop (repAt k.2.2 r.2.1)).length=k.2.2.length+1:=by simp;omega
 unfold putK;simp only;unfold repAt at hm hlen⊢;generalize k.2.2.take (pre (λk=>decide (k.2.1<r.2.1)) k.2.2)++[r]++k.2.2.drop (pre (λk=>decide (k.2.1<r.2.1)) k.2.2)=L at hs hm hlen⊢;by_cases hw:((L.length:Nat):Int)>w
 ·rw[ZAN hw];cases L with
  |nil=>simp at hlen
  |cons x L=>
   simp only[ZCq,ZA3] at hs;have hx:=hm x (by simp);have hxr:=bDZ hx.2.2;simp only[ZAP,List.drop_one,List.tail_cons];refine ckZ.2 ⟨by simp only;omega,by simp only;omega,by simp only;simp only[ZCN] at hlen;omega,hs.2,λb hb=> ?_⟩;have:=hm b (by simp[hb]);exact⟨this.1,hs.1 _ (ZBf.2 ⟨b,hb,rfl⟩),this.2.2⟩
 ·rw[ZAM hw];exact ckZ.2 ⟨a1,a2,by simp only;omega,hs,hm⟩
theorem nFZ{w}{ks}(hw:1<=w)(hs:(ks.map (·.1)).Pairwise (·<·))(hb:∀k∈ks,0<=k.1/\k.1<16/\keptB w k=true){x}(hx:0<=x/\x<16):
 ((withCli ks x).map (·.1)).Pairwise (·<·)/\(∀k∈withCli ks x,0<=k.1/\k.1<16/\keptB w k=true)/\(withCli ks x)[cliAt ks x]? =some (kept1 ks x)/\(kept1 ks x).1=x/\∀k,k.1≠x->(k∈withCli ks x↔k∈ks):=by
 unfold withCli kept1;cases hk:kOf ks x with
 |some k=>
  simp[Option.isSome_some,ZCn,ZCe]
  let⟨h1,h2⟩:=rhZ hs hk<;>grind
 |none=>
  simp only[Option.isSome_none,ZBJ,ZCc,Option.getD_none];refine⟨hNZ hs rfl hk,λk hk'=> ?_,?_,by first|trivial|rfl,λk hne=> ?_⟩
  ·rcases mxZ.1 hk' with rfl|h
   ·exact⟨hx.1,hx.2,ckZ.2 ⟨by simp,by simp,by simp;omega,by simp,by simp⟩⟩
   ·exact hb k h
  ·have hle:cliAt ks x<=ks.length:=gdZ _ _;have e1:(ks.take (cliAt ks x)).length=cliAt ks x:=by rw[ZAS];omega
   rw[ZAx,ZAU (by omega),e1,ZBn]
   rfl
  grind[mxZ]
theorem sRZ{w}{ks}{r}(h:rightC (w,ks)=true)(hr:rightReply r=true)(hl:(look (w,ks) r.1 r.2.1).2=0):
 rightC (w,putKL w ks r)=true/\∀x,kOf (putKL w ks r) x=if x=r.1 then some (putK w (kept1 ks r.1) r) else kOf ks x:=by
 let⟨g1,g2,g3⟩:=b3Z.1 h
 have ab:=(bDZ hr).1
 let⟨w1,w2,w3,w4,w5⟩:=nFZ g1.1 g2 g3 ab
 have hz:=(qTZ h).1 hl;have ae:=(w2 _ (ZAI w3)).2.2;have ac:(kept1 ks r.1).2.1<r.2.1/\rOf (kept1 ks r.1).2.2 r.2.1=none:=by
  unfold kept1;cases hk:kOf ks r.1 with
  |none=>
   simp;have:=(bDZ hr).2.1;exact⟨by omega,rfl⟩
  |some k=>exact hz k hk
 have af:=odZ g1.1 ae hr w4.symm ac.1 ac.2;have aa:(putK w (kept1 ks r.1) r).1=(kept1 ks r.1).1:=sCZ _ _ _;have hs:((putKL w ks r).map (·.1)).Pairwise (·<·):=by
  unfold putKL;rw[uSZ w3 aa];exact w1
 have ad:∀k,k∈putKL w ks r↔k=putK w (kept1 ks r.1) r\/(k∈withCli ks r.1/\k.1≠(kept1 ks r.1).1):=λk=>umZ w1 w3;refine⟨b3Z.2 ⟨g1,hs,λk hk=> ?_⟩,λx=> ?_⟩
 ·rcases(ad k).1 hk with rfl|⟨h1,_⟩
  ·rw[aa,w4];exact⟨ab.1,ab.2,af⟩
  ·exact w2 k h1
 ·by_cases hx:x=r.1
  ·rw[ZAN hx];exact(iYZ hs).2 ⟨(ad _).2 (.inl rfl),by rw[aa,w4,hx]⟩
  ·rw[ZAM hx];apply Option.ext;intro k;rw[iYZ hs,iYZ g2,ad];constructor
   ·rintro⟨rfl|⟨h1,_⟩,h2⟩
    ·rw[aa,w4] at h2;exact absurd h2.symm hx
    ·exact⟨(w5 k (by omega)).1 h1,h2⟩
   ·rintro⟨h1,h2⟩;exact⟨.inr ⟨(w5 k (by omega)).2 h1,by rw[w4];omega⟩,h2⟩
end Go.Ab.D
