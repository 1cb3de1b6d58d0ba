/- What the functions compute; the plain law. -/
import Derived.Test.YtjngohmkdmdecaaGreatStateModelQ1
import Derived.KernelRfl
set_option linter.all false
open Prod renaming A->PA,B->PB,C->PC,D->PD,E->PE,F->PF,H->PH,I->PI,J->PJ,O->PO,P->PP,Q->PQ,V->PV,W->PW,X->PX,Y->PY,ZA->PZA,ZC->PZC,ZX->PZX,a->Pa,b->Pb,c->Pc,d->Pd,e->Pe,f->Pf,g->Pg,h->Ph,i->Pi,j->Pj,k->Pk,l->Pl,m->Pm,n->Pn,o->Po,p->Pp,q->Pq,r->Pr,s->Ps,t->Pt,u->Pu,v->Pv,w->Pw,x->Px,y->Py,z->Pz,za->Pza,zb->Pzb,zc->Pzc,zd->Pzd,ze->Pze,zf->Pzf,zg->Pzg,zh->Pzh,zi->Pzi,zj->Pzj,zk->Pzk,zl->Pzl,zm->Pzm,zn->Pzn,zo->Pzo,zp->Pzp,zq->Pzq,zr->Pzr,zs->Pzs,zt->Pzt,zu->Pzu,zv->Pzv,zw->Pzw,zx->Pzx
namespace Go.Ab
theorem ZAP:type_of% @List.getElem?_cons_zero:=@List.getElem?_cons_zero
theorem ZBP:type_of% @Int.toNat_natCast:=@Int.toNat_natCast
theorem ZBv:type_of% @List.find?_eq_none:=@List.find?_eq_none
theorem ZBz:type_of% @List.getElem?_mapIdx:=@List.getElem?_mapIdx
theorem ZB3:type_of% @Nat.mul_le_mul:=@Nat.mul_le_mul
theorem ZB9:type_of% @Nat.mul_le_mul_left:=@Nat.mul_le_mul_left
theorem ZCN:type_of% @List.mem_of_find?_eq_some:=@List.mem_of_find?_eq_some
theorem ZCP:type_of% @Nat.div_le_div_right:=@Nat.div_le_div_right
theorem ZCR:type_of% @List.map_append:=@List.map_append
theorem ZCX:type_of% @Bool.and_assoc:=@Bool.and_assoc
theorem ZCu:type_of% @List.find?_some:=@List.find?_some
end Go.Ab
namespace Go.Ab.D
open Go Go.Ab
theorem heZ(l:List cV)(hl:l.length<=100000):xO bB l l=some true:=by
 unfold xO sF;have e:iter bB (fun tt=>oQ bB l l tt) 0=some (.inl ()):=by
  refine alZ (fun k=>(k:Int)) l.length (by omega) (fun k hk=> ?_) ?_
  ·unfold oQ;obtain⟨x,hg⟩:∃x,l[k]? =some x:=⟨_,ZAB hk⟩;rw[aHZ hk,acZ hk,ZAA,hg,ZAA,ZAA,hg,w64 (by omega)];simp
  ·unfold oQ;rw[aDZ (ZA0 _),ZAD]
 simp_all
theorem djZ(l:List Ent)(hl:l.length<=100000):uY bB l l=some true:=by
 unfold uY sE;have e:iter bB (fun tt=>oP bB l l tt) 0=some (.inl ()):=by
  refine alZ (fun k=>(k:Int)) l.length (by omega) (fun k hk=> ?_) ?_
  ·unfold oP;obtain⟨x,hg⟩:∃x,l[k]? =some x:=⟨_,ZAB hk⟩;rw[aHZ hk,acZ hk,ZAA,hg,ZAA,ZAA,hg,w64 (by omega)];simp
  ·unfold oP;rw[aDZ (ZA0 _),ZAD]
 simp_all
theorem hxZ(n:Ino)(h:n.sm):xP bB n n=some true:=by
 unfold xP Pb Pc Pd Pe Pf PF;simp only[ZAb];rw[heZ _ h.1,ZAA];simp only[ZAM];rw[djZ _ h.2,ZAA]
def wJ(x n:Int):Int:=if Int.tmod x n<0 then wI (Int.tmod x n+n) else Int.tmod x n
theorem jdZ(x n)(hn:1<=n):lM bB x n=some (wJ x n):=by
 unfold lM wJ;rw[show decide (n<1)=false from by simp;omega,adZ (by simp;omega)]
 grind
theorem iZZ(x){n}(hn:1<=n)(hn2:n<=1000000):0<=wJ x n/\wJ x n<n:=by
 unfold wJ;have h1:=Int.tmod_lt_of_pos x (show 0<n by omega);have h2:=by
  have:=Int.tmod_lt_of_pos (-x) (show 0<n by omega);rw[Int.neg_tmod] at this;omega
 grind[w64]
theorem jLZ{dir}{x}(h:lB dir x=0):x.2.2.2.2.2.2.2=[]/\x.2.2.2.1=dir:=by
 grind[lB]
section
variable {t : dI} {a b d : Int × Int} {na nb n x z : Ino} {old name s : List UInt8} {id other : Int}
def wG(t:dI)(d:Int×Int)(s:List UInt8)(h:Int×Int):Prop:=∃n x,IsD t.1 d n/\(s,h.1)∈n.2.2.2.2.2.2.2/\t.1[(h.1-1).toNat]? =some x/\x.2.1=h.2/\x.2.2.1=true
structure zK (t:dI) (d:Int×Int) (s:List UInt8) (is:Bool) (T:dI) (f:Int×Int) (n:Ino) (l':List Ino) (i:Nat):Prop where
 dir:IsD t.1 d n
 nm:cT s=true
 no:fJ n.2.2.2.2.2.2.2 s=false
 few:n.2.2.2.2.2.2.2.length<100
 alc:Alc t.1 is d.1 l' i f.2
 T:T=(jU l' d.1 s ((i:Int)+1),t.2)
 f:f.1=(i:Int)+1
theorem nxZ{l'}{i}{g}{is}(hn:IsD t.1 d n)(hA:Alc t.1 is d.1 l' i g)(id):IX l' d.1 n s id=jU l' d.1 s id:=by
 have hne:(d.1-1).toNat≠i:=fun hc=>by
  have:=hA.was n (by rw[<-hc];exact hn.1.2.1);rw[hn.1.2.2.1] at this;grind
 unfold IX jU;rw[bHZ _ (by rw[hA.old _ hne];exact hn.1.2.1)]
theorem piZ(h:bL t)(d)(s)(is):(∃e,e≠0/\dV bB t d s is=some (t.1,(t.2,(0,(0,e)))))\/∃T f n l' i,dV bB t d s is=some (T.1,(T.2,(f.1,(f.2,0))))/\zK t d s is T f n l' i:=by
 rcases bsZ t.1 d with⟨n,hn⟩|⟨hb,hb'⟩
 ·cases hs:cT s with
  |false=>exact .inl ⟨176,by decide,kcZ h is hn hs⟩
  |true=>
   cases hh:fJ n.2.2.2.2.2.2.2 s with
   |true=>exact .inl ⟨172,by decide,hAZ h is hn hs hh⟩
   |false=>
    by_cases hl:n.2.2.2.2.2.2.2.length<100
    ·rcases hJZ h is hn hs hh hl with⟨_,hm⟩|⟨l',i,g,hA,hm⟩
     ·exact .inl ⟨5,by decide,hm⟩
     ·refine .inr ⟨(jU l' d.1 s ((i:Int)+1),t.2),((i:Int)+1,g),n,l',i,?_,⟨hn,hs,hh,hl,hA,rfl,rfl⟩⟩;rw[hm,nxZ hn hA]
    ·exact .inl ⟨5,by decide,jTZ h is hn hs hh (by omega)⟩
 ·exact .inl ⟨_,hb,nqZ h s is hb⟩
theorem zK.tree{is}{T}{f}{l'}{i}(h:bL t)(m:zK t d s is T f n l' i):bL T:=by
 rw[m.T];exact n0Z h m.dir m.nm m.no m.few m.alc
theorem zK.new{is}{T}{f}{l'}{i}(h:bL t)(m:zK t d s is T f n l' i):T.1[(f.1-1).toNat]? =some (f.1,f.2,true,is,0,[],d.1,[]):=by
 rw[m.T,m.f];rw[show((i:Int)+1-1).toNat=i from by omega,vUZ h m.dir m.alc,ZAJ,ZAL rfl];intro hc;have:=m.alc.was n (by rw[hc];exact m.dir.1.2.1);rw[m.dir.1.2.2.1] at this;grind
structure VN (t:dI) (d:Int×Int) (s:List UInt8) (is:Bool) (T:dI) (gone:List cV) (n:Ino) (id:Int) (x:Ino):Prop where
 dir:IsD t.1 d n
 e:(s,id)∈n.2.2.2.2.2.2.2
 at_:t.1[(id-1).toNat]? =some x
 mis:lB is x=0
 T:T=(dY (cR t.1 d.1 s) id,t.2)
 gone:gone=sH x.2.2.2.2.2.1
theorem wuZ(h:bL t)(ha:IsD t.1 a na)(hb:IsD t.1 b nb)(hea:(old,id)∈na.2.2.2.2.2.2.2)(hx:t.1[(id-1).toNat]? =some x)(hanc:x.2.2.2.1=true->¬Anc t.1 id b.1):¬Anc t.1 id b.1:=by
 cases hd:x.2.2.2.1 with
 |true=>simp_all
 |false=>
  intro hc
  let⟨_,h2,_,y,hy,hu,_⟩:=h.ent ha hea
  rw[hx] at hy;cases hy;have hxe:=((h.r.ino _ x hx).file hu hd).2.1;have:=s0Z h hx h2 hxe hc hb.1.1;have hn:=hb.1.2.1;rw[this,hx] at hn;cases hn;rw[hb.2] at hd;cases hd
theorem uYZ(h:bL t)(ha:IsD t.1 a na)(hb:IsD t.1 b nb)(hs:cT name=true)(hea:(old,id)∈na.2.2.2.2.2.2.2)(hx:t.1[(id-1).toNat]? =some x)(hanc:¬Anc t.1 id b.1)(heb:(name,other)∈nb.2.2.2.2.2.2.2)(hne:other≠id)(hz:t.1[(other-1).toNat]? =some z)(hze:z.2.2.2.2.2.2.2=[]):
 ∃na' nb',zJ (dY (cR t.1 b.1 name) other,t.2) a old b name id na' nb' x/\nb'=wE nb (eY nb.2.2.2.2.2.2.2 name):=by
 let⟨_,i2,i3,y,hy,hu,hp⟩:=h.ent ha hea
 rw[hx] at hy;cases hy
 let⟨_,o2,o3,w,hw,hzu,hzp⟩:=h.ent hb heb
 rw[hz] at hw;cases hw;have hk:=sTZ heb hb hz hze;have hka:(other-1).toNat≠(a.1-1).toNat:=fun hc=>by
  have:=ha.1.2.1;rw[<-hc,hz] at this;cases this;rw[hze] at hea;cases hea
 have hat:=fun j=>wkZ (s:=name) hk hb hz j;have hb1:=hb.1.1;have hfb:=h.few hb.1;have hdl:=mFZ (h.srt hb.1) heb;have hkb:(id-1).toNat≠(b.1-1).toNat:=fun hc=>by
  have:id=b.1:=by omega
  exact hanc (by rw[this];exact .refl)
 have hno:fJ (eY nb.2.2.2.2.2.2.2 name) name=false:=by
  cases hh:fJ (eY nb.2.2.2.2.2.2.2 name) name with
  |false=>rfl
  |true=>let⟨i,hi⟩:=aCZ.1 hh;exact absurd rfl (bCZ.1 hi).2
 have hdb:IsD (dY (cR t.1 b.1 name) other) b (wE nb (eY nb.2.2.2.2.2.2.2 name)):=⟨⟨hb1,by rw[hat,ZAJ (by omega),ZAL rfl],hb.1.2.2.1,hb.1.2.2.2⟩,hb.2⟩;have hda:∃na',IsD (dY (cR t.1 b.1 name) other) a na'/\(old,id)∈na'.2.2.2.2.2.2.2:=by
  by_cases hab:(a.1-1).toNat=(b.1-1).toNat
  ·have hnn:na=nb:=by
    have:=ha.1.2.1;rw[hab,hb.1.2.1] at this;injection this with this;exact this.symm
   subst hnn;refine⟨wE na (eY na.2.2.2.2.2.2.2 name),⟨⟨ha.1.1,by rw[hat,ZAJ (by omega),ZAL hab],ha.1.2.2.1,ha.1.2.2.2⟩,ha.2⟩,bCZ.2 ⟨hea,fun hc=> ?_⟩⟩;have hc:=hc;subst hc;exact hne (dBZ (h.srt hb.1) heb hea)
  ·exact⟨na,⟨⟨ha.1.1,by rw[hat,ZAJ (by omega),ZAJ hab];exact ha.1.2.1,ha.1.2.2.1,ha.1.2.2.2⟩,ha.2⟩,hea⟩
 let⟨na',hda,hea'⟩:=hda
 refine⟨na',_,⟨hda,hdb,hea',?_,hs,hno,fun _=> ?_,fun hc=>hanc ?_⟩,rfl⟩
 ·show(dY (cR t.1 b.1 name) other)[(id-1).toNat]? =_;rw[hat,ZAJ (by omega),ZAJ hkb];exact hx
 ·show(eY _ _).length<100;omega
 ·have go:∀i,Anc (dY (cR t.1 b.1 name) other) id i->1<=i->Anc t.1 id i:=fun i hi=>by
   induction hi with
   |refl=>intro _;exact .refl
   | @step i y h1 hy hyu _ ih=>
     intro hi1;rw[hat] at hy;by_cases c1:(i-1).toNat=(other-1).toNat
     ·rw[ZAL c1] at hy;cases hy;cases hyu
     ·rw[ZAJ c1] at hy;by_cases c2:(i-1).toNat=(b.1-1).toNat
      ·rw[ZAL c2] at hy;cases hy;exact .step h1 (by rw[c2];exact hb.1.2.1) hb.1.2.2.1 (ih ((h.r.ino _ nb hb.1.2.1).par hb.1.2.2.1).1)
      ·rw[ZAJ c2] at hy;exact .step h1 hy hyu (ih ((h.r.ino _ y hy).par hyu).1)
  exact go _ hc hb1
inductive OC (t:dI) (a:Int×Int) (old:List UInt8) (b:Int×Int) (name:List UInt8) (T:dI) (gone:List cV) (id:Int) (x:Ino):Prop
 |same {na nb:Ino}:T=t->gone=[]->IsD t.1 a na->IsD t.1 b nb->(old,id)∈na.2.2.2.2.2.2.2->(name,id)∈nb.2.2.2.2.2.2.2->t.1[(id-1).toNat]? =some x->OC t a old b name T gone id x
 |move {na nb:Ino}:T=(mvL t.1 a.1 old b.1 name id,t.2)->gone=[]->zJ t a old b name id na nb x->OC t a old b name T gone id x
 |over {na nb na' nb' z:Ino} {other:Int}:T=(mvL (dY (cR t.1 b.1 name) other) a.1 old b.1 name id,t.2)->gone=sH z.2.2.2.2.2.1->IsD t.1 a na->IsD t.1 b nb->(old,id)∈na.2.2.2.2.2.2.2->t.1[(id-1).toNat]? =some x->(name,other)∈nb.2.2.2.2.2.2.2->other≠id->t.1[(other-1).toNat]? =some z->lB x.2.2.2.1 z=0->bL (dY (cR t.1 b.1 name) other,t.2)->zJ (dY (cR t.1 b.1 name) other,t.2) a old b name id na' nb' x->OC t a old b name T gone id x
end
theorem tZZ:bL ([(1,1,true,true,0,[],1,[])],0):=by
 refine⟨⟨by simp,by simp,fun i n hn=> ?_,by simp[bD,bS],_,rfl,rfl,rfl,rfl⟩,fun i n hn s id he=> ?_,fun j x hx hu hj=> ?_,fun j x hx hu=> ?_⟩
 ·cases i with
  |zero=>simp at hn;subst hn;exact⟨rfl,by simp,by simp,fun _ _=>⟨rfl,rfl,by simp,trivial⟩,by simp,by simp⟩
  |succ i=>grind
 ·cases i<;>grind
 ·simp_all
 ·cases j with
  |zero=>exact .root
  |succ i=>grind
def oS(l:List Ino)(dir:Bool)(parent:Int):Option (List Ino×Nat×Int):=
 match oR l with
 |none=>if l.length<500 then some (l++[((l.length:Int)+1,1,true,dir,0,[],parent,[])],l.length,1) else none
 |some i=>match l[i]? with
  |none=>none
  |some n=>if n.2.1<1099511627776 then some (l.set i ((i:Int)+1,n.2.1+1,true,dir,0,[],parent,[]),i,n.2.1+1) else none
theorem uGZ{l l'}{dir}{parent g}{i}(h:Alc l dir parent l' i g):oS l dir parent=some (l',i,g):=by
 unfold oS;have hs:=h.slot;have hlen:=h.len;cases hf:oR l with
 |none=>
  rw[hf] at hs;have hs:i=l.length:=hs;rw[ZAJ (by omega)] at hlen;have:=h.few;have hg:=by
   have:=h.gen;rw[ZAd (by omega)] at this;exact this
  rw[ZAL (by omega)];subst hs hg;show some (l++[((l.length:Int)+1,1,true,dir,0,[],parent,[])],l.length,(1:Int))=some (l',l.length,0+1);have e:l++[((l.length:Int)+1,1,true,dir,0,[],parent,[])]=l':= ?_
  ·rw[e];rfl
  refine ZA9 fun j=> ?_;by_cases hj:j=l.length
  ·subst hj;rw[h.new];simp
  ·rw[h.old j hj];by_cases hj2:j<l.length
   ·rw[ZAS hj2]
   ·rw[ZAd (by simp;omega),ZAd (by omega)]
 |some k=>
  rw[hf] at hs;have hs:=hs;subst hs
  let⟨hk,_,_⟩:=ZA3.1 hf
  have hg:=ZAB hk;have hgen:=h.gen;rw[hg] at hgen;have hgen:g=l[i].2.1+1:=hgen;have:=h.top;simp only[hg];rw[ZAL (by omega),<-hgen];congr 2;refine ZA9 fun j=> ?_;by_cases hj:j=i
  ·subst hj;rw[h.new,ZAR hk]
  ·rw[h.old j hj,ZAX (by omega)]
theorem onZ{l}(h:vX l)(dir)(parent):oS l dir parent=none:=by
 unfold vX at h;unfold oS
 grind
def wK(l:List Ent)(s:List UInt8):Option Int:=(l.find? fun e=>e.1==s).map (·.2)
theorem dRZ{l}(h:Srt l){s}{id}(hm:(s,id)∈l):wK l s=some id:=by
 unfold wK;cases hf:l.find? (fun e=>e.1==s)<;>grind[ZBv,ZCN,ZCu,dBZ]
theorem d7Z{l}{s}(h:fJ l s=false):wK l s=none:=by
 grind[wK,ZBv,aCZ]
def HV(l:List Ino)(top:Int):Nat->Int->Bool
 |0,id=>id==top
 |k+1,id=>bif id==top then true else bif id==1 then false else match l[(id-1).toNat]? with
  |some n=>n.2.2.1&&HV l top k n.2.2.2.2.2.2.1
  |none=>false
theorem r9Z{l}(top):∀(k) (id),dA l k id=true->(HV l top k id=true↔Anc l top id)
 |0,id,h=>by
  have h:=by unfold dA at h;simpa using h
  unfold HV;rw[ZBp];constructor
  ·rintro rfl;exact .refl
  ·intro ha;cases ha<;>grind
 |k+1,id,h=>by
  unfold HV;cases h1:(id==top) with
  |true=>rw[ZBp] at h1;subst h1;simp;exact .refl
  |false=>
   cases h2:(id==1) with
   |true=>
    simp only[ZAM];constructor
    ·simp_all
    ·intro ha;cases ha<;>grind
   |false=>
    unfold dA at h;rw[h2] at h;simp only[ZAD] at h⊢;cases hg:l[(id-1).toNat]? with
    |none=>simp_all
    |some n=>
     rw[hg] at h;simp at h⊢;rw[r9Z top k _ h.2];constructor
     ·rintro⟨h3,h4⟩;exact .step (by simpa using h2) hg h3 h4
     ·intro ha;cases ha with
      |refl=>rw[ZAb] at h1;cases h1
      |step _ h4 h5 h6=>rw[hg] at h4;cases h4;exact⟨h5,h6⟩
theorem nDZ{t}(h:bL t){b}{nb}(hb:IsD t.1 b nb)(top):HV t.1 top t.1.length b.1=true↔Anc t.1 top b.1:=by
 have hlt:=(ZAC.1 hb.1.2.1).1;have hdb:=feZ hb;have hb1:=hb.1.1;exact r9Z top _ _ (eYZ h.r.len.1 (fun j x hx hxu=>(h.r.ino j x hx).par hxu) hb1 (by omega) (by have:=h.a _ nb hb.1.2.1 hb.1.2.2.1;simp_all))
def fT(t:dI)(d:Int×Int)(s:List UInt8)(is:Bool):dI×(Int×Int)×Int:=
 if fH t.1 d=0 then
  if cT s=true then
   match t.1[(d.1-1).toNat]? with
   |none=>(t,(0,0),170)
   |some n=>if fJ n.2.2.2.2.2.2.2 s=true then(t,(0,0),172) else if 100<=n.2.2.2.2.2.2.2.length then(t,(0,0),5) else
    match oS t.1 is d.1 with
    |none=>(t,(0,0),5)
    |some (l',i,g)=>((jU l' d.1 s ((i:Int)+1),t.2),((i:Int)+1,g),0)
  else(t,(0,0),176)
 else(t,(0,0),fH t.1 d)
theorem iHZ{t}(h:bL t)(d)(s)(is):dV bB t d s is=some ((fT t d s is).1.1,((fT t d s is).1.2,((fT t d s is).2.1.1,((fT t d s is).2.1.2,(fT t d s is).2.2))))/\bL (fT t d s is).1:=by
 unfold fT;rcases bsZ t.1 d with⟨n,hn⟩|⟨hb,_⟩
 ·rw[ZAL (cmZ hn),hn.1.2.1];simp;cases hs:cT s with
  |false=>exact⟨kcZ h is hn hs,h⟩
  |true=>
   rw[ZAL rfl];cases hh:fJ n.2.2.2.2.2.2.2 s with
   |true=>exact⟨hAZ h is hn hs hh,h⟩
   |false=>
    by_cases hl:100<=n.2.2.2.2.2.2.2.length
    ·rw[ZAL hl];exact⟨jTZ h is hn hs hh hl,h⟩
    ·rw[ZAJ hl];rcases hJZ h is hn hs hh (by omega) with⟨hno,hm⟩|⟨l',i,g,hA,hm⟩
     ·rw[onZ hno];exact⟨hm,h⟩
     ·rw[uGZ hA,hm,nxZ hn hA];exact⟨rfl,n0Z h hn hs hh (by omega) hA⟩
 ·rw[ZAJ hb];exact⟨nqZ h s is hb,h⟩
def eC(t:dI)(d:Int×Int)(s:List UInt8)(is:Bool):dI×List cV×Int:=
 if fH t.1 d=0 then
  if cT s=true then
   match t.1[(d.1-1).toNat]? with
   |none=>(t,[],170)
   |some n=>match wK n.2.2.2.2.2.2.2 s with
    |none=>(t,[],171)
    |some id=>match t.1[(id-1).toNat]? with
     |none=>(t,[],170)
     |some x=>if lB is x=0 then((dY (cR t.1 d.1 s) id,t.2),sH x.2.2.2.2.2.1,0) else(t,[],lB is x)
  else(t,[],176)
 else(t,[],fH t.1 d)
theorem k4Z{t}(h:bL t)(d)(s)(is):yY bB t d s is=some ((eC t d s is).1.1,((eC t d s is).1.2,((eC t d s is).2.1,(eC t d s is).2.2)))/\bL (eC t d s is).1:=by
 unfold eC;rcases bsZ t.1 d with⟨n,hn⟩|⟨hb,_⟩
 ·rw[ZAL (cmZ hn),hn.1.2.1];simp only;cases hs:cT s with
  |false=>exact⟨lCZ h is hn hs,h⟩
  |true=>
   cases hh:fJ n.2.2.2.2.2.2.2 s with
   |false=>rw[d7Z hh];exact⟨mhZ h is hn hs hh,h⟩
   |true=>
    let⟨id,he⟩:=aCZ.1 hh
    let⟨_,_,_,x,hx,hu,_⟩:=h.ent hn he
    rw[dRZ (h.srt hn.1) he];simp only[hx];have hr:=lTZ h is hn he hx;by_cases hm:lB is x=0
    ·rw[ZAL hm] at hr⊢;exact⟨hr,n2Z h hn he hx (jLZ hm).1⟩
    ·rw[ZAJ hm] at hr⊢;exact⟨hr,h⟩
 ·rw[ZAJ hb];exact⟨oCZ h s is hb,h⟩
def eD(t:dI)(a:Int×Int)(old:List UInt8)(b:Int×Int)(name:List UInt8):dI×List cV×Int:=
 if fH t.1 a=0 then
  if fH t.1 b=0 then
   if(cT old&&cT name)=true then
    match t.1[(a.1-1).toNat]? with
    |none=>(t,[],170)
    |some na=>match t.1[(b.1-1).toNat]? with
     |none=>(t,[],170)
     |some nb=>match wK na.2.2.2.2.2.2.2 old with
      |none=>(t,[],171)
      |some id=>match t.1[(id-1).toNat]? with
       |none=>(t,[],170)
       |some x=>if(x.2.2.2.1&&HV t.1 id t.1.length b.1)=true then(t,[],178) else
        match wK nb.2.2.2.2.2.2.2 name with
        |none=>if a.1≠b.1/\100<=nb.2.2.2.2.2.2.2.length then(t,[],5) else((mvL t.1 a.1 old b.1 name id,t.2),[],0)
        |some other=>if other=id then(t,[],0) else match t.1[(other-1).toNat]? with
         |none=>(t,[],170)
         |some z=>if lB x.2.2.2.1 z=0 then((mvL (dY (cR t.1 b.1 name) other) a.1 old b.1 name id,t.2),sH z.2.2.2.2.2.1,0) else(t,[],lB x.2.2.2.1 z)
   else(t,[],176)
  else(t,[],fH t.1 b)
 else(t,[],fH t.1 a)
theorem jMZ{t}(h:bL t)(a)(old)(b)(name):lR bB t a old b name=some ((eD t a old b name).1.1,((eD t a old b name).1.2,((eD t a old b name).2.1,(eD t a old b name).2.2)))/\bL (eD t a old b name).1:=by
 unfold eD;rcases bsZ t.1 a with⟨na,ha⟩|⟨hb,_⟩
 ·rw[ZAL (cmZ ha)];rcases bsZ t.1 b with⟨nb,hb⟩|⟨hb,_⟩
  ·rw[ZAL (cmZ hb)];cases hsn:(cT old&&cT name) with
   |false=>grind[lXZ]
   |true=>
    rw[ha.1.2.1,hb.1.2.1];simp only;rw[ZAF] at hsn
    let⟨hso,hs⟩:=hsn
    cases hh:fJ na.2.2.2.2.2.2.2 old with
    |false=>rw[d7Z hh];exact⟨lPZ h ha hb hso hs hh,h⟩
    |true=>
     let⟨id,hea⟩:=aCZ.1 hh
     let⟨_,_,_,x,hx,hu,hp⟩:=h.ent ha hea
     rw[dRZ (h.srt ha.1) hea];simp only[hx];by_cases hl:(x.2.2.2.1&&HV t.1 id t.1.length b.1)=true
     ·rw[ZAL hl];rw[ZAF] at hl;exact⟨mzZ h ha hb hs hea hx hl.1 ((nDZ h hb id).1 hl.2),h⟩
     ·rw[ZAJ hl];have hanc:x.2.2.2.1=true->¬Anc t.1 id b.1:=fun h1 h2=>hl (by rw[h1,(nDZ h hb id).2 h2];rfl);have hanc':=wuZ h ha hb hea hx hanc;cases hhb:fJ nb.2.2.2.2.2.2.2 name with
      |false=>
       rw[d7Z hhb];simp;by_cases hfull:a.1≠b.1/\100<=nb.2.2.2.2.2.2.2.length
       ·rw[ZAL hfull];exact⟨m9Z h ha hb hs hea hx hanc hhb hfull.1 hfull.2,h⟩
       ·rw[ZAJ hfull];have hfw:a.1≠b.1->nb.2.2.2.2.2.2.2.length<100:=fun hc=>by
         have:=fun hh=>hfull ⟨hc,hh⟩;omega
        have m:zJ t a old b name id na nb x:=⟨ha,hb,hea,hx,hs,hhb,hfw,hanc'⟩;exact⟨l5Z h m hanc,n6Z h m⟩
      |true=>
       let⟨other,heb⟩:=aCZ.1 hhb
       let⟨_,_,_,z,hz,hzu,hzp⟩:=h.ent hb heb
       rw[dRZ (h.srt hb.1) heb];simp only;by_cases hne:other=id
       ·subst hne;rw[ZAL rfl];exact⟨ltZ h ha hb hs hea hx hanc heb,h⟩
       ·rw[ZAJ hne,hz];simp;by_cases hm:lB x.2.2.2.1 z=0
        ·rw[ZAL hm];have hze:=(jLZ hm).1;have h0:=n2Z h hb heb hz hze
         let⟨na',nb',m,_⟩:=uYZ h ha hb hs hea hx hanc' heb hne hz hze
         exact⟨l0Z h ha hb hs hea hx hanc heb hne hz hm h0 m,n6Z h0 m⟩
        ·rw[ZAJ hm];exact⟨o4Z h ha hb hs hea hx hanc heb hne hz hm,h⟩
  ·rw[ZAJ hb];exact⟨lBZ h ha hb,h⟩
 ·rw[ZAJ hb];exact⟨mgZ h hb,h⟩
abbrev bT:Type:=Int×(Int×(UInt8×((Int×Int)×(List UInt8×((Int×Int)×(List UInt8×(Int×(Int×List UInt8))))))))
abbrev Has:Type:=Bool×(Bool×(Bool×(Bool×(Int×(Bool×Bool)))))
instance VF:DecidableEq (Int×(Bool×Bool)):=instDecidableEqProd
instance VG:DecidableEq (Bool×(Int×(Bool×Bool))):=instDecidableEqProd
instance VH:DecidableEq (Bool×(Bool×(Int×(Bool×Bool)))):=instDecidableEqProd
instance VI:DecidableEq (Bool×(Bool×(Bool×(Int×(Bool×Bool))))):=instDecidableEqProd
instance VJ:DecidableEq Has:=instDecidableEqProd
def tQ(o:Nat):Has:=
 if o=1\/o=2\/o=3\/o=7\/o=8 then(true,(true,(false,(false,(0,(false,true))))))
 else if o=4 then(true,(false,(false,(true,(4096,(false,true))))))
 else if o=5 then(true,(false,(false,(true,(0,(true,true))))))
 else if o=6 then(true,(false,(false,(false,(2147483648,(false,true))))))
 else if o=9 then(true,(true,(true,(false,(0,(false,true))))))
 else if o=10 then(true,(true,(false,(false,(4096,(false,true))))))
 else if o=11 then(true,(false,(false,(false,(0,(false,true))))))
 else if o=12 then(false,(false,(false,(false,(0,(false,true))))))
 else(false,(false,(false,(false,(0,(false,false))))))
theorem raZ:∀n,n<256->QT bB ((n:Nat):Int)=some (tQ n):=by decide+kernel
theorem smZ(o:UInt8):QT bB ((o.toNat:Nat):Int)=some (tQ o.toNat):=raZ _ o.toNat_lt
def DH(a b:Int):Bool:=decide (0<=a/\a<16/\1<=b/\b<=1099511627776)
theorem tcZ(a b):GK bB a b=some (DH a b):=by
 grind[GK,DH]
def DI(h:Int×Int):Bool:=decide (1<=h.1/\h.1<=500/\1<=h.2/\h.2<=1099511627776)
theorem q0Z(h):GL bB h=some (DI h):=by
 grind[GL,DI]
def ofB(is:Bool)(h:Int×Int):Bool:=bif is then DI h else((h.1==0)&&(h.2==0))
theorem vIZ(is)(h):pR bB is h=some (ofB is h):=by
 unfold pR ofB;cases is with
 |true=>
  grind[q0Z,ZAA]
 |false=>rfl
def AS(is:Bool)(l:List UInt8):Bool:=(l==[])||(is&&decide (l.length<=100))
theorem rbZ(is)(l):pS bB is l=some (AS is l):=by
 unfold pS AS
 grind[ZAK,ZAE]
def vY(s:Has)(c:bT):Bool:=
 s.2.2.2.2.2.2&&(DH c.1 c.2.1&&(ofB s.1 c.2.2.2.1&&(ofB s.2.2.1 c.2.2.2.2.2.1&&(AS s.2.1 c.2.2.2.2.1&&(AS s.2.2.1 c.2.2.2.2.2.2.1&&
  (decide (0<=c.2.2.2.2.2.2.2.1/\c.2.2.2.2.2.2.2.1<=2147483648)&&((s.2.2.2.1||(c.2.2.2.2.2.2.2.1==0))&&(decide (0<=c.2.2.2.2.2.2.2.2.1/\c.2.2.2.2.2.2.2.2.1<=s.2.2.2.2.1)&&
   (decide (c.2.2.2.2.2.2.2.2.2.length=0)||(s.2.2.2.2.2.1&&decide (c.2.2.2.2.2.2.2.2.2.length<=4096)))))))))))
def bK(c:bT):Bool:=vY (tQ c.2.2.1.toNat) c
theorem axZ(c:bT):oJ bB c=some (bK c):=by
 let⟨c1,c2,c3,⟨h1,h2⟩,nm,⟨t1,t2⟩,nw,off,n,bs⟩:=c
 unfold oJ bK Pa Pb Pc Pd Pe Pf Pg Ph Pi Pj Pk Pl Pm Pn Po Pp Pq PE PH PQ;simp only;rw[smZ];generalize tQ c3.toNat=s
 let⟨sh,sn,st,so,sN,sb,ok⟩:=s
 unfold vY;simp only[ZAA];cases ok with
 |false=>rfl
 |true=>
  simp only[ZAO];rw[tcZ];generalize DH c1 c2=w;cases w with
  |false=>rfl
  |true=>
   simp only[ZAA,ZAD];rw[vIZ];generalize ofB sh (h1,h2)=a1;cases a1 with
   |false=>rfl
   |true=>
    simp only[ZAO];rw[vIZ];generalize ofB st (t1,t2)=a2;cases a2 with
    |false=>rfl
    |true=>
     simp only[ZAD];rw[rbZ];generalize AS sn nm=a3;cases a3 with
     |false=>rfl
     |true=>
      simp only[ZAA,ZAD];rw[rbZ];generalize AS st nw=a4;cases a4 with
      |false=>rfl
      |true=>
       simp only[ZAA,ZAO,ZAD];by_cases o1:off<0
       ·rw[ZAK o1,ZAE (show¬(0<=off/\off<=2147483648) by omega)];rfl
       by_cases o2:off>2147483648
       ·rw[ZAE o1,ZAK o2,ZAE (show¬(0<=off/\off<=2147483648) by omega)];rfl
       rw[ZAE o1,ZAE o2,ZAK (show 0<=off/\off<=2147483648 by omega)];have eb:decide (((bs.length:Nat):Int)<=4096)=decide (bs.length<=4096):=by
        by_cases h:bs.length<=4096
        ·rw[ZAK h,ZAK (by omega)]
        ·rw[ZAE h,ZAE (by omega)]
       have e0:(((bs.length:Nat):Int)==0)=decide (bs.length=0):=by
        by_cases h:bs.length=0
        ·rw[ZAK h,h];rfl
        ·rw[ZAE h,ZAa.2 (by omega)]
       by_cases n1:n<0
       ·rw[ZAK n1,ZAE (show¬(0<=n/\n<=sN) by omega)];cases so<;>cases(off==0)<;>rfl
       by_cases n2:n>sN
       ·rw[ZAE n1,ZAK n2,ZAE (show¬(0<=n/\n<=sN) by omega)];cases so<;>cases(off==0)<;>rfl
       rw[ZAE n1,ZAE n2,ZAK (show 0<=n/\n<=sN by omega),<-e0,<-eb];cases so<;>cases(off==0)<;>simp only[ZAM,ZAD,ZAO,ZAo,ZAA,ZBT,Bool.or_false,Bool.or_true,Bool.false_and,e0,eb]<;>
        (generalize decide (bs.length=0)=x0)<;>(generalize decide (bs.length<=4096)=x1)<;>cases x0<;>cases sb<;>cases x1<;>rfl
abbrev Byt:=List UInt8
abbrev Mod:=dI×List Byt
structure bW (m:Mod):Prop where
 t:bL m.1
 n:m.2.length=m.1.1.length
 p:∀(i:Nat) x,m.1.1[i]? =some x->x.2.2.2.2.2.1=[]
 s:∀(i:Nat) x b,m.1.1[i]? =some x->m.2[i]? =some b->((b.length:Nat):Int)=x.2.2.2.2.1
theorem dxZ{t}(h:bL t){i:Nat}{x}(hx:t.1[i]? =some x):0<=x.2.2.2.2.1/\x.2.2.2.2.1<=65536/\(x.2.2.1=false->x.2.2.2.2.1=0)/\(x.2.2.2.1=true->x.2.2.2.2.1=0):=by
 have o:=h.r.ino i x hx;cases hu:x.2.2.1 with
 |false=>have:=o.bare hu;omega
 |true=>
  cases hd:x.2.2.2.1 with
  |true=>have:=o.dir hu hd;omega
  |false=>have:=o.file hu hd;simp_all
theorem bW.at{m}(h:bW m){i:Nat}{x}(hx:m.1.1[i]? =some x):∃b,m.2[i]? =some b/\((b.length:Nat):Int)=x.2.2.2.2.1/\b.length<=65536:=by
 have hlt:=(ZAC.1 hx).1;obtain⟨b,hb⟩:∃b,m.2[i]? =some b:=⟨_,ZAB (by rw[h.n];exact hlt)⟩;have h1:=h.s i x b hx hb;have h2:=dxZ h.t hx
 grind
theorem bW.byt{m}(h:bW m){i:Nat}{b}(hb:m.2[i]? =some b):b.length<=65536:=by
 have hlt:=(ZAC.1 hb).1;obtain⟨x,hx⟩:∃x,m.1.1[i]? =some x:=⟨_,ZAB (by rw[<-h.n];exact hlt)⟩
 let⟨b',hb',_,h2⟩:=h.at hx<;>grind
theorem bW.len{m}(h:bW m):1<=m.1.1.length/\m.1.1.length<=500:=h.t.r.len
theorem bW.fit{m}(h:bW m):Fit m.1.1:=h.t.r.fit
theorem a4Z{m}(h:bW m):QR bB m=some true:=by
 unfold QR;have hl:=h.len;rw[b8Z h.t];simp[ZAA];rw[h.n,ZAb];simp[ZAD];have loop:sZ bB (false,(m.1.1,(m.1.2,m.2))) (0,(m.1.1,(m.1.2,m.2)))=some (.inl ()):=by
  unfold sZ;refine alZ (fun k=>((k:Int),(m.1.1,(m.1.2,m.2)))) m.1.1.length (by omega) (fun k hk=> ?_) ?_
  ·unfold CH;obtain⟨x,hx⟩:∃x,m.1.1[k]? =some x:=⟨_,ZAB hk⟩
   let⟨b,hb,hs,_⟩:=h.at hx
   simp only[aHZ hk];rw[acZ hk];simp[hx];rw[h.p k x hx];simp[ZAD];rw[acZ (by rw[h.n];exact hk)];simp[hb];rw[hs,ZAb,w64 (by omega)]
   rfl
  ·unfold CH;simp[ZAD]
 simp_all
theorem dNZ{t:dI}(h:Fit t.1):CP bB t=some (t.2,t.1):=by
 unfold CP;rw[cQZ h.n];have loop:yV bB t.1 (0,(t.2,(t.1,0)))=some (t.2,(t.1,0)):=by
  refine alZ (fun k=>((k:Int),(t.2,(t.1,0)))) t.1.length (by have:=h.n;omega) (fun k hk=> ?_) ?_
  ·unfold CO Pb Pc Pd Pe PE;obtain⟨n,hg⟩:∃n,t.1[k]? =some n:=⟨_,ZAB hk⟩;have hsm:=h.at hg;have hs:=d9Z hg;simp only[aHZ hk];rw[acZ hk];simp only[ZAA,hg];rw[cBZ hsm.1,dPZ hsm.2];show((bJ ((k:Nat):Int) (t.1.set k n).length).bind fun q3=>((t.1.set k n)[q3]?.bind _))=_;rw[hs,acZ hk,ZAA,hg,w64 (by have:=h.n;omega)];show some (Sum.inl (_,(t.2,(t.1.set k n,0))))=_;rw[hs]
   rfl
  ·unfold CO Pb Pc Pd Pe PE;simp[ZAD]
 simp_all
theorem jsZ{l:Byt}(h:l.length<=100000):sB bB l=some l:=by
 unfold sB;rw[cCZ]
 ·simp;rw[adZ (by simp[aqZ];omega)]
 ·intro h0;obtain rfl:=ZAY h0
  rfl
theorem jNZ{l:List Byt}(h:l.length<=100000):ET bB l=some l:=by
 unfold ET;rw[cCZ]
 ·simp;rw[adZ (by simp[aqZ];omega)]
 ·intro h0;obtain rfl:=ZAY h0
  rfl
abbrev Rep:=(Int×Int)×Bool×Int×Byt×List Ent×Bool×Int
abbrev DoR:=Int×Mod×Rep
def kT:Rep:=((0,0),false,0,[],[],false,0)
def stO(q:DoR)(c:bT):Int×(List Ino×(Int×(List Byt×(Int×(Int×(Int×(Int×(Int×(Byt×(Int×(Int×(Byt×(Int×(Int×(Byt×JT))))))))))))))):=(q.1,(q.2.1.1.1,(q.2.1.1.2,(q.2.1.2,(c.1,(c.2.1,(((c.2.2.1.toNat:Nat):Int),(c.2.2.2.1.1,(c.2.2.2.1.2,(c.2.2.2.2.1,(c.2.2.2.2.2.1.1,(c.2.2.2.2.2.1.2,(c.2.2.2.2.2.2.1,(c.2.2.2.2.2.2.2.1,(c.2.2.2.2.2.2.2.2.1,(c.2.2.2.2.2.2.2.2.2,(c.1,(c.2.1,(0,(q.2.2.1.1,(q.2.2.1.2,(q.2.2.2.1,(q.2.2.2.2.1,(q.2.2.2.2.2.2.2.1,q.2.2.2.2.2.2.2.2))))))))))))))))))))))))
def stB(q:DoR)(c:bT):Int×(List Ino×(Int×(List Byt×(Int×(Int×(Int×(Int×(Int×(Byt×(Int×(Int×(Byt×(Int×(Int×(Byt×(Int×(Int×(Int×(Int×(Int×(Bool×(Int×(Byt×(Bool×Int)))))))))))))))))))))))):=(q.1,(q.2.1.1.1,(q.2.1.1.2,(q.2.1.2,(c.1,(c.2.1,(((c.2.2.1.toNat:Nat):Int),(c.2.2.2.1.1,(c.2.2.2.1.2,(c.2.2.2.2.1,(c.2.2.2.2.2.1.1,(c.2.2.2.2.2.1.2,(c.2.2.2.2.2.2.1,(c.2.2.2.2.2.2.2.1,(c.2.2.2.2.2.2.2.2.1,(c.2.2.2.2.2.2.2.2.2,(c.1,(c.2.1,(0,(q.2.2.1.1,(q.2.2.1.2,(q.2.2.2.1,(q.2.2.2.2.1,(q.2.2.2.2.2.1,(q.2.2.2.2.2.2.2.1,q.2.2.2.2.2.2.2.2)))))))))))))))))))))))))
def stE(q:DoR)(c:bT):Int×(List Ino×(Int×(List Byt×(Int×(Int×(Int×(Int×(Int×(Byt×(Int×(Int×(Byt×(Int×(Int×(Byt×(Int×(Int×(Int×(Int×(Int×(Bool×(Int×(List Ent×(Bool×Int)))))))))))))))))))))))):=(q.1,(q.2.1.1.1,(q.2.1.1.2,(q.2.1.2,(c.1,(c.2.1,(((c.2.2.1.toNat:Nat):Int),(c.2.2.2.1.1,(c.2.2.2.1.2,(c.2.2.2.2.1,(c.2.2.2.2.2.1.1,(c.2.2.2.2.2.1.2,(c.2.2.2.2.2.2.1,(c.2.2.2.2.2.2.2.1,(c.2.2.2.2.2.2.2.2.1,(c.2.2.2.2.2.2.2.2.2,(c.1,(c.2.1,(0,(q.2.2.1.1,(q.2.2.1.2,(q.2.2.2.1,(q.2.2.2.2.1,(q.2.2.2.2.2.2.1,(q.2.2.2.2.2.2.2.1,q.2.2.2.2.2.2.2.2)))))))))))))))))))))))))
def kD(t:dI)(d:Int×Int)(s:Byt):Int×(Int×Int):=
 if fH t.1 d=0 then
  if cT s=true then
   match t.1[(d.1-1).toNat]? with
   |none=>(170,(0,0))
   |some n=>match wK n.2.2.2.2.2.2.2 s with
    |none=>(171,(0,0))
    |some id=>match t.1[(id-1).toNat]? with
     |none=>(170,(0,0))
     |some x=>(0,(id,x.2.1))
  else(176,(0,0))
 else(fH t.1 d,(0,0))
theorem uEZ{t}(h:bL t)(d)(s:Byt):yS bB t d s=some ((kD t d s).2.1,((kD t d s).2.2,(kD t d s).1))/\((kD t d s).1=0->1<=(kD t d s).2.1/\(kD t d s).2.1<=t.1.length/\∃x,t.1[((kD t d s).2.1-1).toNat]? =some x):=by
 unfold kD;rcases bsZ t.1 d with⟨n,hn⟩|⟨hb,_⟩
 ·rw[ZAL (cmZ hn),hn.1.2.1];simp only;cases hs:cT s with
  |false=>exact⟨l7Z h hn hs,fun h0=>by cases h0⟩
  |true=>
   rw[ZAL rfl];cases hh:fJ n.2.2.2.2.2.2.2 s with
   |false=>rw[d7Z hh];exact⟨mBZ h hn hs hh,fun h0=>by cases h0⟩
   |true=>
    let⟨id,he⟩:=aCZ.1 hh
    let⟨_,q1,q2,x,hx,hu,_⟩:=h.ent hn he
    rw[dRZ (h.srt hn.1) he];simp only[hx];exact⟨l8Z h hn he hx,fun _=>⟨by omega,q2,x,rfl⟩⟩
 ·rw[ZAJ hb];exact⟨pjZ h s hb,fun h0=>absurd h0 hb⟩
def DJ(l:List Ino)(h:Int×Int):Option Ino:=
 if 1<=h.1 then match l[(h.1-1).toNat]? with
  |some n=>if n.2.2.1=true/\n.2.1=h.2 then some n else none
  |none=>none
 else none
theorem coZ{l}{h}{n}:DJ l h=some n↔IsH l h n:=by
 unfold DJ IsH;by_cases h1:1<=h.1
 ·rw[ZAL h1];cases hx:l[(h.1-1).toNat]? with
  |none=>simp
  |some x=>
   simp only;by_cases hc:x.2.2.1=true/\x.2.1=h.2
   ·rw[ZAL hc];constructor
    ·rintro⟨⟩;exact⟨h1,rfl,hc.1,hc.2⟩
    ·rintro⟨_,⟨⟩,_,_⟩;rfl
   ·rw[ZAJ hc];constructor
    ·intro h;cases h
    ·rintro⟨_,⟨⟩,h2,h3⟩;exact absurd ⟨h2,h3⟩ hc
 grind
theorem jCZ{l}{h}(hn:DJ l h=none):¬∃n,IsH l h n:=fun⟨n,h1⟩=>by rw[coZ.2 h1] at hn;grind
theorem qtZ{t}(ht:bL t){h}{n}(hn:IsH t.1 h n):n.1=h.1/\1<=h.1/\(h.1-1).toNat<t.1.length:=by
 have h1:=ht.r.id hn.2.1;have h2:=hn.1;exact⟨by omega,h2,(ZAC.1 hn.2.1).1⟩
def vC(t:dI)(d:Int×Int)(s:Byt)(most:Int):Int×Bool×List Ent:=
 if fH t.1 d=0 then
  if most<0\/most>4096 then(2,false,[])
  else match t.1[(d.1-1).toNat]? with
   |none=>(170,false,[])
   |some n=>(0,decide ((jF n.2.2.2.2.2.2.2 s).length>most.toNat),(jF n.2.2.2.2.2.2.2 s).take most.toNat)
 else(fH t.1 d,false,[])
theorem ugZ{t}(h:bL t)(d)(s:Byt)(most):gQ bB t d s most=some ((vC t d s most).2.1,((vC t d s most).1,(vC t d s most).2.2)):=by
 unfold vC;rcases bsZ t.1 d with⟨n,hn⟩|⟨hb,_⟩
 ·rw[ZAL (cmZ hn)];by_cases hm:most<0\/most>4096
  ·grind[tuZ]
  ·rw[ZAJ hm,hn.1.2.1];have:=saZ h s (most:=most.toNat) hn (by omega);rw[show((most.toNat:Nat):Int)=most by omega] at this;exact this
 ·rw[ZAJ hb];exact sjZ h s most hb
def jG(m:Mod)(c:bT):DoR:=
 if(kD m.1 c.2.2.2.1 c.2.2.2.2.1).1=0 then match m.1.1[((kD m.1 c.2.2.2.1 c.2.2.2.2.1).2.1-1).toNat]? with
  |some x=>(0,m,((kD m.1 c.2.2.2.1 c.2.2.2.2.1).2,x.2.2.2.1,x.2.2.2.2.1,[],[],false,0))
  |none=>(170,m,kT)
 else((kD m.1 c.2.2.2.1 c.2.2.2.2.1).1,m,kT)
def gN(m:Mod)(c:bT):DoR:=
 if(fT m.1 c.2.2.2.1 c.2.2.2.2.1 (((c.2.2.1.toNat:Nat):Int)==3)).2.2=0 then
  (0,((fT m.1 c.2.2.2.1 c.2.2.2.2.1 (((c.2.2.1.toNat:Nat):Int)==3)).1,m.2),((fT m.1 c.2.2.2.1 c.2.2.2.2.1 (((c.2.2.1.toNat:Nat):Int)==3)).2.1,(((c.2.2.1.toNat:Nat):Int)==3),0,[],[],false,0))
 else((fT m.1 c.2.2.2.1 c.2.2.2.2.1 (((c.2.2.1.toNat:Nat):Int)==3)).2.2,m,kT)
def dM(m:Mod)(c:bT):DoR:=
 if(eC m.1 c.2.2.2.1 c.2.2.2.2.1 (((c.2.2.1.toNat:Nat):Int)==8)).2.2=0 then
  (0,((eC m.1 c.2.2.2.1 c.2.2.2.2.1 (((c.2.2.1.toNat:Nat):Int)==8)).1,m.2),kT)
 else((eC m.1 c.2.2.2.1 c.2.2.2.2.1 (((c.2.2.1.toNat:Nat):Int)==8)).2.2,m,kT)
def fB(m:Mod)(c:bT):DoR:=
 if(eD m.1 c.2.2.2.1 c.2.2.2.2.1 c.2.2.2.2.2.1 c.2.2.2.2.2.2.1).2.2=0 then
  (0,((eD m.1 c.2.2.2.1 c.2.2.2.2.1 c.2.2.2.2.2.1 c.2.2.2.2.2.2.1).1,m.2),kT)
 else((eD m.1 c.2.2.2.1 c.2.2.2.2.1 c.2.2.2.2.2.1 c.2.2.2.2.2.2.1).2.2,m,kT)
def zL(m:Mod)(c:bT):DoR:=
 ((vC m.1 c.2.2.2.1 c.2.2.2.2.1 c.2.2.2.2.2.2.2.2.1).1,m,((0,0),false,0,[],(vC m.1 c.2.2.2.1 c.2.2.2.2.1 c.2.2.2.2.2.2.2.2.1).2.2,(vC m.1 c.2.2.2.1 c.2.2.2.2.1 c.2.2.2.2.2.2.2.2.1).2.1,0))
def rV(m:Mod)(c:bT):DoR:=
 match DJ m.1.1 c.2.2.2.1 with
 |some x=>(0,m,(c.2.2.2.1,x.2.2.2.1,x.2.2.2.2.1,[],[],false,0))
 |none=>(170,m,kT)
def sI(l:List Ino):Nat:=l.countP (·.2.2.1)
def AT(m:Mod):DoR:=(0,m,((0,0),false,0,[],[],false,500-((sI m.1.1:Nat):Int)))
theorem tkZ{m}(h:bW m)(c):xF bB m.1.1 m.1.2 m.2 c.1 c.2.1 ((c.2.2.1.toNat:Nat):Int) c.2.2.2.1.1 c.2.2.2.1.2 c.2.2.2.2.1 c.2.2.2.2.2.1.1 c.2.2.2.2.2.1.2 c.2.2.2.2.2.2.1 c.2.2.2.2.2.2.2.1 c.2.2.2.2.2.2.2.2.1 c.2.2.2.2.2.2.2.2.2 c.1 c.2.1 0 0 0 false 0 false 0=some (stO (jG m c) c):=by
 unfold xF jG
 let⟨h1,h2⟩:=uEZ h.t c.2.2.2.1 c.2.2.2.2.1
 rw[h1,ZAA];by_cases h0:(kD m.1 c.2.2.2.1 c.2.2.2.2.1).1=0
 ·let⟨q1,q2,x,hx⟩:=h2 h0
  have hl:=h.len;rw[h0];rw[w64 (by omega),a0Z (by omega) (by omega),ZAA,hx]
  rfl
 ·rw[ZAJ h0,ZAa.2 h0]
  rfl
theorem tXZ{m}(h:bW m)(c):uK bB m.1.1 m.1.2 m.2 c.1 c.2.1 ((c.2.2.1.toNat:Nat):Int) c.2.2.2.1.1 c.2.2.2.1.2 c.2.2.2.2.1 c.2.2.2.2.2.1.1 c.2.2.2.2.2.1.2 c.2.2.2.2.2.2.1 c.2.2.2.2.2.2.2.1 c.2.2.2.2.2.2.2.2.1 c.2.2.2.2.2.2.2.2.2 c.1 c.2.1 0 0 0 false 0 false 0=some (stO (gN m c) c):=by
 unfold uK gN;rw[(iHZ h.t c.2.2.2.1 c.2.2.2.2.1 _).1,ZAA];by_cases h0:(fT m.1 c.2.2.2.1 c.2.2.2.2.1 (((c.2.2.1.toNat:Nat):Int)==3)).2.2=0
 ·rw[h0];rfl
 ·rw[ZAJ h0,ZAa.2 h0];rfl
theorem mIZ{m}(h:bW m)(c):uQ bB m.1.1 m.1.2 m.2 c.1 c.2.1 ((c.2.2.1.toNat:Nat):Int) c.2.2.2.1.1 c.2.2.2.1.2 c.2.2.2.2.1 c.2.2.2.2.2.1.1 c.2.2.2.2.2.1.2 c.2.2.2.2.2.2.1 c.2.2.2.2.2.2.2.1 c.2.2.2.2.2.2.2.2.1 c.2.2.2.2.2.2.2.2.2 c.1 c.2.1 0 0 0 false 0 false 0=some (stO (dM m c) c):=by
 unfold uQ dM;rw[(k4Z h.t c.2.2.2.1 c.2.2.2.2.1 _).1,ZAA];by_cases h0:(eC m.1 c.2.2.2.1 c.2.2.2.2.1 (((c.2.2.1.toNat:Nat):Int)==8)).2.2=0
 ·rw[h0];rfl
 ·rw[ZAJ h0,ZAa.2 h0];rfl
theorem sQZ{m}(h:bW m)(c):xJ bB m.1.1 m.1.2 m.2 c.1 c.2.1 ((c.2.2.1.toNat:Nat):Int) c.2.2.2.1.1 c.2.2.2.1.2 c.2.2.2.2.1 c.2.2.2.2.2.1.1 c.2.2.2.2.2.1.2 c.2.2.2.2.2.2.1 c.2.2.2.2.2.2.2.1 c.2.2.2.2.2.2.2.2.1 c.2.2.2.2.2.2.2.2.2 c.1 c.2.1 0 0 0 false 0 false 0=some (stO (fB m c) c):=by
 unfold xJ fB;rw[(jMZ h.t _ _ _ _).1,ZAA];by_cases h0:(eD m.1 c.2.2.2.1 c.2.2.2.2.1 c.2.2.2.2.2.1 c.2.2.2.2.2.2.1).2.2=0
 ·rw[h0];rfl
 ·rw[ZAJ h0,ZAa.2 h0];rfl
theorem wmZ{m}(h:bW m)(c):xK bB m.1.1 m.1.2 m.2 c.1 c.2.1 ((c.2.2.1.toNat:Nat):Int) c.2.2.2.1.1 c.2.2.2.1.2 c.2.2.2.2.1 c.2.2.2.2.2.1.1 c.2.2.2.2.2.1.2 c.2.2.2.2.2.2.1 c.2.2.2.2.2.2.2.1 c.2.2.2.2.2.2.2.2.1 c.2.2.2.2.2.2.2.2.2 c.1 c.2.1 0 0 0 false 0 false 0=some (stE (zL m c) c):=by
 unfold xK zL;rw[ugZ h.t]
 rfl
theorem wtZ{m}(h:bW m)(c):xL bB m.1.1 m.1.2 m.2 c.1 c.2.1 ((c.2.2.1.toNat:Nat):Int) c.2.2.2.1.1 c.2.2.2.1.2 c.2.2.2.2.1 c.2.2.2.2.2.1.1 c.2.2.2.2.2.1.2 c.2.2.2.2.2.2.1 c.2.2.2.2.2.2.2.1 c.2.2.2.2.2.2.2.2.1 c.2.2.2.2.2.2.2.2.2 c.1 c.2.1 0 0 0 false 0 false 0=some (stO (rV m c) c):=by
 unfold xL rV;cases hg:DJ m.1.1 c.2.2.2.1 with
 |none=>rw[iBZ h.fit (jCZ hg)];rfl
 |some x=>rw[fLZ h.fit (coZ.1 hg)];rfl
def cW(m:Mod)(h:Int×Int):Int×Byt×Int:=
 match DJ m.1.1 h with
 |none=>(0,[],170)
 |some x=>bif x.2.2.2.1 then(0,[],174) else match m.2[(h.1-1).toNat]? with
  |some b=>(h.1,b,0)
  |none=>(0,[],170)
abbrev stF(q:Int×Byt×Int)(m:Mod)(c:bT):Int×(Byt×(Int×(List Ino×(Int×(List Byt×(Int×(Int×(Int×(Int×(Int×(Byt×(Int×(Int×(Byt×(Int×(Int×(Byt×JT))))))))))))))))):=(q.1,(q.2.1,(q.2.2,(m.1.1,(m.1.2,(m.2,(c.1,(c.2.1,(((c.2.2.1.toNat:Nat):Int),(c.2.2.2.1.1,(c.2.2.2.1.2,(c.2.2.2.2.1,(c.2.2.2.2.2.1.1,(c.2.2.2.2.2.1.2,(c.2.2.2.2.2.2.1,(c.2.2.2.2.2.2.2.1,(c.2.2.2.2.2.2.2.2.1,(c.2.2.2.2.2.2.2.2.2,(c.1,(c.2.1,(0,(0,(0,(false,(0,(false,0))))))))))))))))))))))))))
def IsF(m:Mod)(h:Int×Int)(x:Ino)(b:Byt):Prop:=IsH m.1.1 h x/\x.2.2.2.1=false/\m.2[(h.1-1).toNat]? =some b
theorem dGZ{m}{h}(h0:(cW m h).2.2=0):∃x,IsF m h x (cW m h).2.1/\(cW m h).1=h.1:=by
 unfold cW at h0⊢;cases hg:DJ m.1.1 h with
 |none=>simp_all
 |some x=>
  rw[hg] at h0;simp only at h0⊢;cases hd:x.2.2.2.1 with
  |true=>rw[hd] at h0;cases h0
  |false=>
   rw[hd] at h0;cases hb:m.2[(h.1-1).toNat]? with
   |none=>rw[hb] at h0;cases h0
   |some b=>exact⟨x,⟨coZ.1 hg,hd,hb⟩,rfl⟩
theorem pAZ{m}(h:bW m)(c):qV bB m.1.1 m.1.2 m.2 c.1 c.2.1 ((c.2.2.1.toNat:Nat):Int) c.2.2.2.1.1 c.2.2.2.1.2 c.2.2.2.2.1 c.2.2.2.2.2.1.1 c.2.2.2.2.2.1.2 c.2.2.2.2.2.2.1 c.2.2.2.2.2.2.2.1 c.2.2.2.2.2.2.2.2.1 c.2.2.2.2.2.2.2.2.2 c.1 c.2.1 0 0 0 false 0 false 0=some (stF (cW m c.2.2.2.1) m c):=by
 unfold qV cW;cases hg:DJ m.1.1 c.2.2.2.1 with
 |none=>rw[iBZ h.fit (jCZ hg)];rfl
 |some x=>
  have hx:=coZ.1 hg
  let⟨q1,q2,q3⟩:=qtZ h.t hx
  rw[fLZ h.fit hx,ZAA];simp only[ZAb,ZAO];cases hd:x.2.2.2.1 with
  |true=>rfl
  |false=>
   simp only[ZAD];have hl:=h.len
   let⟨b,hb,_⟩:=h.at hx.2.1
   rw[q1,w64 (by omega),a0Z (by omega) (by rw[h.n];omega),ZAA,hb,ZAA]
def FM(b:Byt)(off n:Int):Byt:=(b.take (max (min off.toNat b.length) (min (off+n).toNat b.length))).drop (min off.toNat b.length)
def jN(m:Mod)(c:bT):DoR:=
 if(cW m c.2.2.2.1).2.2=0 then
  (0,m,((0,0),false,(((cW m c.2.2.2.1).2.1.length:Nat):Int),FM (cW m c.2.2.2.1).2.1 c.2.2.2.2.2.2.2.1 c.2.2.2.2.2.2.2.2.1,[],decide (c.2.2.2.2.2.2.2.1+c.2.2.2.2.2.2.2.2.1<(((cW m c.2.2.2.1).2.1.length:Nat):Int)),0))
 else((cW m c.2.2.2.1).2.2,m,kT)
theorem v7Z{m}(h:bW m)(c)(ho:0<=c.2.2.2.2.2.2.2.1/\c.2.2.2.2.2.2.2.1<=2147483648)(hn:0<=c.2.2.2.2.2.2.2.2.1/\c.2.2.2.2.2.2.2.2.1<=2147483648):
 xG bB m.1.1 m.1.2 m.2 c.1 c.2.1 ((c.2.2.1.toNat:Nat):Int) c.2.2.2.1.1 c.2.2.2.1.2 c.2.2.2.2.1 c.2.2.2.2.2.1.1 c.2.2.2.2.2.1.2 c.2.2.2.2.2.2.1 c.2.2.2.2.2.2.2.1 c.2.2.2.2.2.2.2.2.1 c.2.2.2.2.2.2.2.2.2 c.1 c.2.1 0 0 0 false 0 false 0=some (stB (jN m c) c):=by
 unfold xG jN Pa Pb Pc Pd Pe Pf Pg Ph Pi Pj Pk Pl Pm Pn Po Pp Pq Pr Ps Pt Pu Pv Pw Px PX PY;rw[pAZ h c,ZAA];by_cases h0:(cW m c.2.2.2.1).2.2=0
 ·rw[ZAL h0]
  let⟨x,hx,hid⟩:=dGZ h0
  have hbl:=h.byt hx.2.2;simp;rw[h0];simp[ZAD];rw[w64 (by omega)];rw[show(if(((cW m c.2.2.2.1).2.1.length:Nat):Int)<c.2.2.2.2.2.2.2.1+c.2.2.2.2.2.2.2.2.1 then(((cW m c.2.2.2.1).2.1.length:Nat):Int) else c.2.2.2.2.2.2.2.1+c.2.2.2.2.2.2.2.2.1)=((min (c.2.2.2.2.2.2.2.1+c.2.2.2.2.2.2.2.2.1).toNat (cW m c.2.2.2.1).2.1.length:Nat):Int) from by split<;>omega,
   show(if(((cW m c.2.2.2.1).2.1.length:Nat):Int)<c.2.2.2.2.2.2.2.1 then(((cW m c.2.2.2.1).2.1.length:Nat):Int) else c.2.2.2.2.2.2.2.1)=((min c.2.2.2.2.2.2.2.1.toNat (cW m c.2.2.2.1).2.1.length:Nat):Int) from by split<;>omega]
  rw[show(if((min (c.2.2.2.2.2.2.2.1+c.2.2.2.2.2.2.2.2.1).toNat (cW m c.2.2.2.1).2.1.length:Nat):Int)>((min c.2.2.2.2.2.2.2.1.toNat (cW m c.2.2.2.1).2.1.length:Nat):Int) then((min (c.2.2.2.2.2.2.2.1+c.2.2.2.2.2.2.2.2.1).toNat (cW m c.2.2.2.1).2.1.length:Nat):Int) else((min c.2.2.2.2.2.2.2.1.toNat (cW m c.2.2.2.1).2.1.length:Nat):Int))=((max (min c.2.2.2.2.2.2.2.1.toNat (cW m c.2.2.2.1).2.1.length) (min (c.2.2.2.2.2.2.2.1+c.2.2.2.2.2.2.2.2.1).toNat (cW m c.2.2.2.1).2.1.length):Nat):Int) from by split<;>omega];rw[aBZ (by omega),ZAA,aBZ (by omega),ZAA,jsZ (by rw[ZAv,ZAQ];omega)]
  rfl
 ·rw[ZAJ h0];simp[ZAa.2 h0,ZAo,ZAM]
  rfl
def lX(b:Byt)(n:Nat):Byt:=b.take n++List.replicate (n-b.length) 0
theorem aNZ(b)(n):(lX b n).length=n:=by grind[lX]
theorem muZ(b:Byt)(n):bY (List.replicate n 0) 0 (List.take (List.replicate (α:=UInt8) n 0).length b)=lX b n:=by
 unfold bY lX
 grind
def rH(l:List Ino)(h:Int×Int)(n:Int):List Ino:=
 match l[(h.1-1).toNat]? with
 |some x=>l.set (h.1-1).toNat (x.1,x.2.1,x.2.2.1,x.2.2.2.1,n,x.2.2.2.2.2)
 |none=>l
def nX(m:Mod)(h:Int×Int)(b:Byt):Mod:=((rH m.1.1 h ((b.length:Nat):Int),m.1.2),m.2.set (h.1-1).toNat b)
def lY(m:Mod)(c:bT):DoR:=
 if(cW m c.2.2.2.1).2.2=0 then
  if c.2.2.2.2.2.2.2.2.1>65536 then(177,m,kT)
  else(0,nX m c.2.2.2.1 (lX (cW m c.2.2.2.1).2.1 c.2.2.2.2.2.2.2.2.1.toNat),(c.2.2.2.1,false,c.2.2.2.2.2.2.2.2.1,[],[],false,0))
 else((cW m c.2.2.2.1).2.2,m,kT)
theorem wgZ{m}(h:bW m)(c)(hn:0<=c.2.2.2.2.2.2.2.2.1):
 xI bB m.1.1 m.1.2 m.2 c.1 c.2.1 ((c.2.2.1.toNat:Nat):Int) c.2.2.2.1.1 c.2.2.2.1.2 c.2.2.2.2.1 c.2.2.2.2.2.1.1 c.2.2.2.2.2.1.2 c.2.2.2.2.2.2.1 c.2.2.2.2.2.2.2.1 c.2.2.2.2.2.2.2.2.1 c.2.2.2.2.2.2.2.2.2 c.1 c.2.1 0 0 0 false 0 false 0=some (stO (lY m c) c):=by
 unfold xI lY Pb Pc Pd Pe Pf Pg Ph Pi Pj Pk Pl Pm Pn Po Pp Pq Pr Ps Pt Pu Pv Pw Px Py PW PY;rw[pAZ h c,ZAA];by_cases h0:(cW m c.2.2.2.1).2.2=0
 ·rw[ZAL h0]
  let⟨x,hx,hid⟩:=dGZ h0
  have hbl:=h.byt hx.2.2;have hl:=h.len
  let⟨q1,q2,q3⟩:=qtZ h.t hx.1
  simp only;rw[h0];simp[ZAD];by_cases hb:c.2.2.2.2.2.2.2.2.1>65536
  ·rw[ZAL hb,ZAK hb];rfl
  ·rw[ZAJ hb,ZAE hb];simp;unfold yW;rw[hid,b0Z hn (by rw[aqZ];omega),ZAA,b0Z hn (by omega),ZAA,adZ (by rw[ZAm,aqZ];omega),w64 (by omega),a0Z (by omega) (by rw[h.n];omega),ZAA,hx.2.2,ZAA,
    jNZ (by rw[h.n];omega),ZAA,a0Z (by omega) (by rw[h.n];omega),ZAA,hx.2.2,ZAA,dNZ h.fit,ZAA]
   simp only;rw[a0Z (by omega) (by omega),ZAA,hx.1.2.1,ZAA,ZAA,muZ];simp only[stO,nX,rH,hx.1.2.1,aNZ];rw[show((c.2.2.2.2.2.2.2.2.1.toNat:Nat):Int)=c.2.2.2.2.2.2.2.2.1 by omega]
 ·rw[ZAJ h0];simp only[stF,ZAa.2 h0,ZAo,ZAM]
  rfl
def dU(b:Byt)(off:Int)(bs:Byt):Nat:=max b.length (if bs.length=0 then 0 else off.toNat+bs.length)
def mZ(b:Byt)(off:Int)(bs:Byt):Byt:=bY (lX b (dU b off bs)) (min off.toNat (dU b off bs)) bs
def iM(m:Mod)(c:bT):DoR:=
 if(cW m c.2.2.2.1).2.2=0 then
  if c.2.2.2.2.2.2.2.1+((c.2.2.2.2.2.2.2.2.2.length:Nat):Int)>65536 then(177,m,kT)
  else(0,nX m c.2.2.2.1 (mZ (cW m c.2.2.2.1).2.1 c.2.2.2.2.2.2.2.1 c.2.2.2.2.2.2.2.2.2),(c.2.2.2.1,false,((dU (cW m c.2.2.2.1).2.1 c.2.2.2.2.2.2.2.1 c.2.2.2.2.2.2.2.2.2:Nat):Int),[],[],false,0))
 else((cW m c.2.2.2.1).2.2,m,kT)
theorem c9Z(b)(off)(bs):(mZ b off bs).length=dU b off bs:=by
 unfold mZ bY;rw[ZAf,ZAf,ZAQ,ZAv,aNZ];unfold dU
 grind
theorem ioZ(g)(hg:∀b,g (.inl b)=some b)(y:Byt⊕Option (Nat×(Nat×Nat)))(v)(hy:g y=some v):∀(l:List Byt) (i),i<l.length->cJ g ((l.map Sum.inl).set i y)=some (l.set i v)
 |[],i,h=>by grind
 |a::l,0,_=>by
  have e:cJ g (l.map Sum.inl)=some l:=by
   induction l with
   |nil=>rfl
   |cons x l ih=>simp[cJ,hg,ih]
  simp_all[cJ]
 |a::l,i+1,h=>by
  have:=ioZ g hg y v hy l i (by simpa using h);simp[cJ,hg,this]
theorem ibZ(l:Byt)(k):bY l k []=l:=by simp_all[bY]
theorem s6Z(out bs:Byt)(q)(hq:q<=out.length)(hb:bs=[]\/q+bs.length<=out.length):
 ∃k,sO [(1,out)] (lI (.inr (some (0,(0,out.length)))) q (out.length-q)) bs=some ([(1,bY out q bs)],k):=by
 unfold lI;by_cases h0:out.length-q=0
 ·have hbs:bs=[]:=by
   rcases hb with h|h
   ·exact h
   ·exact ZAY (by omega)
  subst hbs;rw[h0,ibZ];exact⟨0,rfl⟩
 ·rw[(ahZ h0)];unfold sO;simp[ZAA];rw[adZ (by simp;omega)];have:bs.take (out.length-q)=bs:=ZAw (by
   rcases hb with h|h
   ·simp[h]
   ·omega)
  simp_all
theorem tjZ(w:Byt)(n)(hn:n=w.length):bU [⟨3,.byte,List.map bV [(1,w)]⟩] (.ref 3 .byte) (.inr (some (0,(0,n))))=some w:=by
 subst hn;show FR [(2,w)] 0 0 w.length=some w;unfold FR
 simp_all[aWZ]
theorem vpZ{m}(h:bW m)(c)(ho:0<=c.2.2.2.2.2.2.2.1/\c.2.2.2.2.2.2.2.1<=2147483648)(hbs:c.2.2.2.2.2.2.2.2.2.length<=4096):
 xH bB m.1.1 m.1.2 m.2 c.1 c.2.1 ((c.2.2.1.toNat:Nat):Int) c.2.2.2.1.1 c.2.2.2.1.2 c.2.2.2.2.1 c.2.2.2.2.2.1.1 c.2.2.2.2.2.1.2 c.2.2.2.2.2.2.1 c.2.2.2.2.2.2.2.1 c.2.2.2.2.2.2.2.2.1 c.2.2.2.2.2.2.2.2.2 c.1 c.2.1 0 0 0 false 0 false 0=some (stO (iM m c) c):=by
 unfold xH iM Pa Pb Pc Pd Pe Pf Pg Ph Pi Pj Pk Pl Pm Pn Po Pp Pq Pr Ps Pt Pu Pv Pw Px PB PW PX;rw[pAZ h c,ZAA];by_cases h0:(cW m c.2.2.2.1).2.2=0
 ·rw[ZAL h0];obtain⟨x,hx,hid⟩:=dGZ h0;have hbl:=h.byt hx.2.2;have hl:=h.len;obtain⟨q1,q2,q3⟩:=qtZ h.t hx.1;simp only[stF];rw[h0,hid];simp only[ZAb,ZAO,ZAD];have hx2:=hx.2.2;generalize (cW m c.2.2.2.1).2.1=b at hbl hx2⊢;rw[w64 (by omega)];by_cases hb:c.2.2.2.2.2.2.2.1+((c.2.2.2.2.2.2.2.2.2.length:Nat):Int)>65536
  ·rw[ZAL hb,ZAK hb];rfl
  ·rw[ZAJ hb,ZAE hb];simp only[ZAD];have hN:dU b c.2.2.2.2.2.2.2.1 c.2.2.2.2.2.2.2.2.2<=65536:=by unfold dU;split<;>omega
   have key:∀(e),(if e>((b.length:Nat):Int) then e else((b.length:Nat):Int))=((dU b c.2.2.2.2.2.2.2.1 c.2.2.2.2.2.2.2.2.2:Nat):Int)->
    ((uL bB c.2.2.2.1.1 (if e>((b.length:Nat):Int) then e else((b.length:Nat):Int)) m.1.1 m.1.2 m.2 c.1 c.2.1 ((c.2.2.1.toNat:Nat):Int) c.2.2.2.1.1 c.2.2.2.1.2 c.2.2.2.2.1 c.2.2.2.2.2.1.1 c.2.2.2.2.2.1.2 c.2.2.2.2.2.2.1 c.2.2.2.2.2.2.2.1 c.2.2.2.2.2.2.2.2.1 c.2.2.2.2.2.2.2.2.2 c.1 c.2.1 0 0 0 false 0 false 0).bind fun r1=>
      (cO (if(((fQ (s:=.byte) r1.1):Nat):Int)<r1.2.2.2.2.2.2.2.2.2.2.2.1 then(((fQ (s:=.byte) r1.1):Nat):Int) else r1.2.2.2.2.2.2.2.2.2.2.2.1) (fQ (s:=.byte) r1.1)).bind fun q=>
      (sO r1.2.2.2.2.2.2.2.2.2.2.2.2.2.2.2.2.2.2.2.2.2.2.2.2.2 (lI r1.1 q ((fQ (s:=.byte) r1.1)-q)) r1.2.2.2.2.2.2.2.2.2.2.2.2.2.1).bind fun m=>
      (cJ (bU [⟨3,.byte,(List.map bV m.1)⟩] (.ref 3 .byte)) r1.2.2.2.2.2.2.2.2.2.2.2.2.2.2.2.2.2.2.2.2.2.2.2.2.1).bind fun l=>
      some ((0:Int),(r1.2.2.2.2.2.2.2.2.2.2.2.2.2.2.2.2.2.2.2.2.2.2.2.1,(r1.2.1,(l,(r1.2.2.1,(r1.2.2.2.1,(r1.2.2.2.2.1,(r1.2.2.2.2.2.1,(r1.2.2.2.2.2.2.1,(r1.2.2.2.2.2.2.2.1,(r1.2.2.2.2.2.2.2.2.1,(r1.2.2.2.2.2.2.2.2.2.1,(r1.2.2.2.2.2.2.2.2.2.2.1,(r1.2.2.2.2.2.2.2.2.2.2.2.1,(r1.2.2.2.2.2.2.2.2.2.2.2.2.1,(r1.2.2.2.2.2.2.2.2.2.2.2.2.2.1,(r1.2.2.2.2.2.2.2.2.2.2.2.2.2.2.1,(r1.2.2.2.2.2.2.2.2.2.2.2.2.2.2.2.1,(r1.2.2.2.2.2.2.2.2.2.2.2.2.2.2.2.2.1,(r1.2.2.2.2.2.2.2.2.2.2.2.2.2.2.2.2.2.1,(r1.2.2.2.2.2.2.2.2.2.2.2.2.2.2.2.2.2.2.1,(r1.2.2.2.2.2.2.2.2.2.2.2.2.2.2.2.2.2.2.2.1,(r1.2.2.2.2.2.2.2.2.2.2.2.2.2.2.2.2.2.2.2.2.1,(r1.2.2.2.2.2.2.2.2.2.2.2.2.2.2.2.2.2.2.2.2.2.1,r1.2.2.2.2.2.2.2.2.2.2.2.2.2.2.2.2.2.2.2.2.2.2.1)))))))))))))))))))))))))=
    some (stO (0,nX m c.2.2.2.1 (mZ b c.2.2.2.2.2.2.2.1 c.2.2.2.2.2.2.2.2.2),(c.2.2.2.1,false,((dU b c.2.2.2.2.2.2.2.1 c.2.2.2.2.2.2.2.2.2:Nat):Int),[],[],false,0)) c):=by
    intro e he;rw[he];have hlen:=(show(List.map (dE (.ref 3 .byte)) m.2).length=m.2.length from ZAp _).trans h.n;have bF:(List.map (dE (.ref 3 .byte)) m.2)[(c.2.2.2.1.1-1).toNat]? =some (.inl b):=((ZAV)).trans (congrArg (Option.map (dE (.ref 3 .byte))) hx2);unfold uL;rw[aBZ (by rw[aqZ];omega),ZAA,aBZ (ZAN _),ZAA,adZ (by rw[ZAm,aqZ];omega),w64 (by omega),a0Z (by omega) (by rw[h.n];omega),ZAA,hx2,ZAA,
     jNZ (by rw[h.n];omega),ZAA,a0Z (by omega) (by rw[hlen];omega),ZAA,bF,ZAA,show((m.1.1,m.1.2):dI)=m.1 from rfl,dNZ h.fit,ZAA]
    simp only;rw[a0Z (by omega) (by omega),ZAA,hx.1.2.1,ZAA,ZAA,muZ,aNZ];simp only[ZBb];have hR:fQ (s:=.byte) (.inr (some (0,(0,dU b c.2.2.2.2.2.2.2.1 c.2.2.2.2.2.2.2.2.2))))=dU b c.2.2.2.2.2.2.2.1 c.2.2.2.2.2.2.2.2.2:=rfl;rw[hR,show(if((dU b c.2.2.2.2.2.2.2.1 c.2.2.2.2.2.2.2.2.2:Nat):Int)<c.2.2.2.2.2.2.2.1 then((dU b c.2.2.2.2.2.2.2.1 c.2.2.2.2.2.2.2.2.2:Nat):Int) else c.2.2.2.2.2.2.2.1)=((min c.2.2.2.2.2.2.2.1.toNat (dU b c.2.2.2.2.2.2.2.1 c.2.2.2.2.2.2.2.2.2):Nat):Int) from by split<;>omega,
     aBZ (by omega),ZAA]
    obtain⟨k,hk⟩:=s6Z (lX b (dU b c.2.2.2.2.2.2.2.1 c.2.2.2.2.2.2.2.2.2)) c.2.2.2.2.2.2.2.2.2 (min c.2.2.2.2.2.2.2.1.toNat (dU b c.2.2.2.2.2.2.2.1 c.2.2.2.2.2.2.2.2.2)) (by rw[aNZ];omega) (by
     by_cases hz:c.2.2.2.2.2.2.2.2.2.length=0
     ·exact .inl (ZAY hz)
     ·right;rw[aNZ];unfold dU;rw[ZAJ hz];omega)
    rw[aNZ] at hk;rw[hk,ZAA];have hu:=ioZ (bU [⟨3,.byte,List.map bV [(1,mZ b c.2.2.2.2.2.2.2.1 c.2.2.2.2.2.2.2.2.2)]⟩] (.ref 3 .byte)) (fun _=>rfl) (.inr (some (0,(0,dU b c.2.2.2.2.2.2.2.1 c.2.2.2.2.2.2.2.2.2)))) _ (tjZ _ _ (c9Z b _ _).symm) m.2 (c.2.2.2.1.1-1).toNat (by rw[h.n];omega);have hu':=hu;refine(congrArg (fun o=>Option.bind o _) hu').trans ?_;have bR:nX m c.2.2.2.1 (mZ b c.2.2.2.2.2.2.2.1 c.2.2.2.2.2.2.2.2.2)=((m.1.1.set (c.2.2.2.1.1-1).toNat (x.1,x.2.1,x.2.2.1,x.2.2.2.1,((dU b c.2.2.2.2.2.2.2.1 c.2.2.2.2.2.2.2.2.2:Nat):Int),x.2.2.2.2.2),m.1.2),m.2.set (c.2.2.2.1.1-1).toNat (mZ b c.2.2.2.2.2.2.2.1 c.2.2.2.2.2.2.2.2.2)):=by
     unfold nX rH;rw[hx.1.2.1,c9Z]
    rw[bR]
    rfl
   by_cases hz:c.2.2.2.2.2.2.2.2.2.length=0
   ·rw[show(((c.2.2.2.2.2.2.2.2.2.length:Nat):Int)==0)=true from by rw[hz];rfl];simp only[ZAM,ZAA];exact key 0 (by unfold dU;rw[ZAL hz];split<;>omega)
   ·rw[(ZAa.2 (by omega))];simp only[ZAD,ZAA];exact key _ (by unfold dU;rw[ZAJ hz];split<;>omega)
 ·rw[ZAJ h0];simp only[stF,ZAa.2 h0,ZAo,ZAM]
  rfl
def IY(m:Mod)(c:bT)(k:Nat):Int×(List Ino×(Int×(List Byt×(Int×(Int×(Int×(Int×(Int×(Byt×(Int×(Int×(Byt×(Int×(Int×(Byt×JT))))))))))))))):=(fun fr:Int=>((k:Int),(m.1.1,(m.1.2,(m.2,(c.1,(c.2.1,(((c.2.2.1.toNat:Nat):Int),(c.2.2.2.1.1,(c.2.2.2.1.2,(c.2.2.2.2.1,(c.2.2.2.2.2.1.1,(c.2.2.2.2.2.1.2,(c.2.2.2.2.2.2.1,(c.2.2.2.2.2.2.2.1,(c.2.2.2.2.2.2.2.2.1,(c.2.2.2.2.2.2.2.2.2,(c.1,(c.2.1,(0,(0,(0,(false,(0,(false,fr))))))))))))))))))))))))) (500-((sI (m.1.1.take k):Nat):Int))
theorem wdZ{m}(h:bW m)(c):xM bB m.1.1 m.1.2 m.2 c.1 c.2.1 ((c.2.2.1.toNat:Nat):Int) c.2.2.2.1.1 c.2.2.2.1.2 c.2.2.2.2.1 c.2.2.2.2.2.1.1 c.2.2.2.2.2.1.2 c.2.2.2.2.2.2.1 c.2.2.2.2.2.2.2.1 c.2.2.2.2.2.2.2.2.1 c.2.2.2.2.2.2.2.2.2 c.1 c.2.1 0 0 0 false 0 false 0=some (stO (AT m) c):=by
 unfold xM;have hl:=h.len;have hS:∀k,sI (m.1.1.take k)<=500:=fun k=>by
  unfold sI
  grind[List.countP_le_length,ZAQ]
 have loop:mS bB m.1.1 (IY m c 0)=some ((fun fr=>(m.1.1,(m.1.2,(m.2,(c.1,(c.2.1,(((c.2.2.1.toNat:Nat):Int),(c.2.2.2.1.1,(c.2.2.2.1.2,(c.2.2.2.2.1,(c.2.2.2.2.2.1.1,(c.2.2.2.2.2.1.2,(c.2.2.2.2.2.2.1,(c.2.2.2.2.2.2.2.1,(c.2.2.2.2.2.2.2.2.1,(c.2.2.2.2.2.2.2.2.2,(c.1,(c.2.1,(0,(0,(0,(false,(0,(false,fr)))))))))))))))))))))))) (500-((sI m.1.1:Nat):Int))):=by
  unfold mS;refine alZ (IY m c) m.1.1.length (by omega) (fun k hk=> ?_) ?_
  ·simp only[IY];unfold tE Ph Pi Pj Pk Pl Pm Pn Po Pp Pq Pr Ps Pt Pu Pv PV;obtain⟨x,hx⟩:∃x,m.1.1[k]? =some x:=⟨_,ZAB hk⟩;have hk1:=hS k;simp only[aHZ hk];rw[acZ hk,ZAA,hx,ZAA];have ht:m.1.1.take (k+1)=m.1.1.take k++[x]:=by rw[List.take_add_one,hx];rfl
   have hu:sI (m.1.1.take (k+1))=sI (m.1.1.take k)+(if x.2.2.1=true then 1 else 0):=by
    rw[ht];unfold sI;rw[List.countP_append];cases hb:x.2.2.1<;>simp[hb]
   cases hb:x.2.2.1 with
   |true=>
    rw[hb,ZAL rfl] at hu;simp only[ZAM];rw[w64 (by omega),w64 (by omega),show(500:Int)-((sI (m.1.1.take k):Nat):Int)-1=500-((sI (m.1.1.take (k+1)):Nat):Int) by omega]
    rfl
   |false=>
    rw[hb,ZAJ (by simp)] at hu;simp only[ZAD,ZAA];rw[w64 (by omega),hu]
    rfl
  ·simp only[IY];unfold tE Ph Pi Pj Pk Pl Pm Pn Po Pp Pq Pr Ps Pt Pu Pv PV;simp only[aDZ (ZA0 _),ZAD];rw[ZAu]
 refine(congrArg (fun o=>Option.bind o _) loop).trans ?_
 rfl
def kE(l:List Ino)(d:List Byt):List Byt:=l.mapIdx fun i x=>bif x.2.2.1 then(d[i]?).getD [] else[]
theorem gtZ(l)(d):(kE l d).length=l.length:=by simp_all[kE]
theorem doZ{l}(d){i:Nat}{x}(h:l[i]? =some x):(kE l d)[i]? =some (bif x.2.2.1 then(d[i]?).getD [] else[]):=by
 simp_all[kE]
theorem aUZ{α:Type}{l:List α}{k}{x}(h:l[k]? =some x):l.take (k+1)=l.take k++[x]:=by simp_all[List.take_add_one]
def IZ(l:List Ino)(s:Int)(d:List Byt)(x3:Int)(x4:Int)(x5:Int)(x6:Int)(x7:Int)(x8:Byt)(x9:Int)(x10:Int)(x11:Byt)(x12:Int)(x13:Int)(x14:Byt)(x15:Int)(x16:Int)(x17:Int)(x18:Int)(x19:Int)(x20:Bool)(x21:Int)(x22:Byt)(x23:List Ent)(x24:Bool)(x25:Int)(k:Nat):Int×(List Ino×(Int×(List Byt×(Int×(Int×(Int×(Int×(Int×(Byt×(Int×(Int×(Byt×(Int×(Int×(Byt×(Int×(Int×(Int×(Int×(Int×(Bool×(Int×(Byt×(List Ent×(Bool×(Int×(Int×(Int×(List Ino×(List Byt)))))))))))))))))))))))))))))):=((k:Int),(l,(s,(d,(x3,(x4,(x5,(x6,(x7,(x8,(x9,(x10,(x11,(x12,(x13,(x14,(x15,(x16,(x17,(x18,(x19,(x20,(x21,(x22,(x23,(x24,(x25,(0,(s,(l,(kE l d).take k))))))))))))))))))))))))))))))
theorem wnZ(l)(s)(d:List Byt)(x3)(x4)(x5)(x6)(x7)(x8:Byt)(x9)(x10)(x11:Byt)(x12)(x13)(x14:Byt)(x15)(x16)(x17)(x18)(x19)(x20)(x21)(x22:Byt)(x23:List Ent)(x24)(x25)(hf:Fit l)(hl:l.length<=500)(hd:∀(i:Nat) b,d[i]? =some b->b.length<=65536):
 uR bB l s d x3 x4 x5 x6 x7 x8 x9 x10 x11 x12 x13 x14 x15 x16 x17 x18 x19 x20 x21 x22 x23 x24 x25=some (s,(l,(s,(d,(x3,(x4,(x5,(x6,(x7,(x8,(x9,(x10,(x11,(x12,(x13,(x14,(x15,(x16,(x17,(x18,(x19,(x20,(x21,(x22,(x23,(x24,(x25,(l,kE l d)))))))))))))))))))))))))))):=by
 unfold uR Pd Pe Pf Pg Ph Pi Pj Pk Pl Pm Pn Po Pp Pq Pr Ps Pt Pu Pv Pw Px Py Pza PZA;rw[dNZ hf];have loop:mT bB (s,l) (IZ l s d x3 x4 x5 x6 x7 x8 x9 x10 x11 x12 x13 x14 x15 x16 x17 x18 x19 x20 x21 x22 x23 x24 x25 0)=some (l,(s,(d,(x3,(x4,(x5,(x6,(x7,(x8,(x9,(x10,(x11,(x12,(x13,(x14,(x15,(x16,(x17,(x18,(x19,(x20,(x21,(x22,(x23,(x24,(x25,(0,(s,(l,kE l d))))))))))))))))))))))))))))):=by
  unfold mT;refine alZ (IZ l s d x3 x4 x5 x6 x7 x8 x9 x10 x11 x12 x13 x14 x15 x16 x17 x18 x19 x20 x21 x22 x23 x24 x25) l.length (by omega) (fun k hk=> ?_) ?_
  ·simp only[IZ];unfold tF Pb Pc Pd Pe Pf Pg Ph Pi Pj Pk Pl Pm Pn Po Pp Pq Pr Ps Pt Pu Pv Pw Px Py Pz Pza Pzb Pzc PZC;obtain⟨x,hx⟩:∃x,l[k]? =some x:=⟨_,ZAB hk⟩;have hm:=doZ d hx;have hlen:((kE l d).take k).length<=500:=by rw[ZAQ];omega
   simp only[aHZ hk];rw[acZ hk,ZAA,hx,aUZ hm];by_cases hkd:k<d.length
   ·obtain⟨b,hb⟩:∃b,d[k]? =some b:=⟨_,ZAB hkd⟩;have hbl:=hd k b hb;rw[aHZ hkd];simp only[ZAM,ZAA];cases hu:x.2.2.1 with
    |true=>
     simp only[ZAM];rw[acZ hkd,ZAA,hb,ZAA,jsZ (by omega),ZAA,ZAA];simp only;rw[adZ (by simp only[ZAF,ZAm,aqZ];omega),w64 (by omega)]
     rfl
    |false=>
     simp only[ZAD,ZAA];rw[adZ (by simp only[ZAF,ZAm,aqZ];omega),w64 (by omega)]
     rfl
   ·rw[aDZ hkd,ZAd (show d.length<=k by omega)];simp only[ZAD,ZAA];rw[adZ (by simp only[ZAF,ZAm,aqZ];omega),w64 (by omega)];cases hu:x.2.2.1<;>rfl
  ·simp only[IZ];unfold tF Pb Pc Pd Pe Pf Pg Ph Pi Pj Pk Pl Pm Pn Po Pp Pq Pr Ps Pt Pu Pv Pw Px Py Pz Pza Pzb Pzc PZC;simp only[aDZ (ZA0 _),ZAD];rw[ZAw (by rw[gtZ];exact ZAN _)]
 refine(congrArg (fun o=>Option.bind o _) loop).trans ?_
 rfl
def doS(y1:Int)(y2:Int)(y3:Int)(y4:Int)(y5:Int)(y6:Byt)(y7:Int)(y8:Int)(y9:Byt)(y10:Int)(y11:Int)(y12:Byt)(y13:Int)(y14:Int)(y15:Int)(y16:Int)(y17:Int)(y18:Int)(y19:Bool)(y20:Int)(y21:Bool)(y22:Int)(st:Int)(l:List Ino)(d:List Byt)(k:Nat):Int×(Int×(Int×(Int×(Int×(Int×(Byt×(Int×(Int×(Byt×(Int×(Int×(Byt×(Int×(Int×(Int×(Int×(Int×(Int×(Bool×(Int×(Bool×(Int×(Int×(List Ino×(List Byt))))))))))))))))))))))))):=((k:Int),(y1,(y2,(y3,(y4,(y5,(y6,(y7,(y8,(y9,(y10,(y11,(y12,(y13,(y14,(y15,(y16,(y17,(y18,(y19,(y20,(y21,(y22,(st,(l,d.take k)))))))))))))))))))))))))
theorem w0Z(o1:Int×(List Ino×(Int×(List Byt×(Int×(Int×(Int×(Int×(Int×(Byt×(Int×(Int×(Byt×(Int×(Int×(Byt×(Int×(Int×(Int×(Int×(Int×(Int×(Bool×(Int×(Bool×(Int×(List Ino×(Int×(List Byt×(Int×(Int×(Int×(Int×(Int×(Byt×(Int×(Int×(Byt×(Int×(Int×(Byt×(Int×(Int×(Int×(Int×(Int×(Bool×(Int×(Byt×(List Ent×(Bool×Int)))))))))))))))))))))))))))))))))))))))))))))))))))(y1)(y2)(y3)(y4)(y5)(y6)(y7)(y8)(y9)(y10)(y11)(y12)(y13)(y14)(y15)(y16)(y17)(y18)(y19)(y20)(y21)(y22)(st)(l)(d)(ho:o1.2.2.2.1=d)(hl:d.length<=501)(hd:∀(i:Nat) b,d[i]? =some b->b.length<=65536):
 gL bB o1 (doS y1 y2 y3 y4 y5 y6 y7 y8 y9 y10 y11 y12 y13 y14 y15 y16 y17 y18 y19 y20 y21 y22 st l d 0)=some (y1,(y2,(y3,(y4,(y5,(y6,(y7,(y8,(y9,(y10,(y11,(y12,(y13,(y14,(y15,(y16,(y17,(y18,(y19,(y20,(y21,(y22,(st,(l,d)))))))))))))))))))))))):=by
 subst ho;unfold gL;refine alZ (doS y1 y2 y3 y4 y5 y6 y7 y8 y9 y10 y11 y12 y13 y14 y15 y16 y17 y18 y19 y20 y21 y22 st l o1.2.2.2.1) o1.2.2.2.1.length (by omega) (fun k hk=> ?_) ?_
 ·simp only[doS];unfold pY;obtain⟨b,hb⟩:∃b,o1.2.2.2.1[k]? =some b:=⟨_,ZAB hk⟩;have hbl:=hd k b hb;have hlen:(o1.2.2.2.1.take k).length<=501:=by rw[ZAQ];omega
  simp only[aHZ hk];rw[acZ hk,ZAA,hb,ZAA,jsZ (by omega),ZAA,adZ (by simp[aqZ];omega),w64 (by omega),aUZ hb]
  rfl
 ·simp only[doS];unfold pY;simp only[aDZ (ZA0 _),ZAD];rw[ZAu]
theorem wcZ(o1:Int×(List Ino×(Int×(List Byt×(Int×(Int×(Int×(Int×(Int×(Byt×(Int×(Int×(Byt×(Int×(Int×(Byt×(Int×(Int×(Int×(Int×(Int×(Int×(Bool×(Int×(Bool×(Int×(List Ino×(Int×(List Byt×(Int×(Int×(Int×(Int×(Int×(Byt×(Int×(Int×(Byt×(Int×(Int×(Byt×(Int×(Int×(Int×(Int×(Int×(Bool×(Int×(Byt×(List Ent×(Bool×Int)))))))))))))))))))))))))))))))))))))))))))))))))))(y1)(y2)(y3)(y4)(y5)(y6:Byt)(y7)(y8)(y9:Byt)(y10)(y11)(y12:Byt)(y13)(y14)(y15)(y16)(y17)(y18)(y19)(y20)(y21)(y22)(st)(l:List Ino)(d)(ho:o1.2.2.2.1=d)(hl:d.length<=501)(hd:∀(i:Nat) b,d[i]? =some b->b.length<=65536):
 gL bB o1 (0,(y1,(y2,(y3,(y4,(y5,(y6,(y7,(y8,(y9,(y10,(y11,(y12,(y13,(y14,(y15,(y16,(y17,(y18,(y19,(y20,(y21,(y22,(st,(l,[])))))))))))))))))))))))))=some (y1,(y2,(y3,(y4,(y5,(y6,(y7,(y8,(y9,(y10,(y11,(y12,(y13,(y14,(y15,(y16,(y17,(y18,(y19,(y20,(y21,(y22,(st,(l,d)))))))))))))))))))))))):=w0Z o1 y1 y2 y3 y4 y5 y6 y7 y8 y9 y10 y11 y12 y13 y14 y15 y16 y17 y18 y19 y20 y21 y22 st l d ho hl hd
def nA(l:List Ino)(d:List Byt):Prop:=∀(i:Nat) x,l[i]? =some x->x.2.2.1=true->x.2.2.2.2.2.1=[]/\((((d[i]?).getD []).length:Nat):Int)=x.2.2.2.2.1
theorem bW.kept{m}(h:bW m):nA m.1.1 m.2:=fun i x hx _=>by
 let⟨b,hb,hs,_⟩:=h.at hx
 rw[hb];exact⟨h.p i x hx,hs⟩
theorem nA.model{t}{d}(h:bL t)(k:nA t.1 d):bW (t,kE t.1 d):=by
 refine⟨h,gtZ _ _,fun i x hx=> ?_,fun i x b hx hb=> ?_⟩
 ·cases hu:x.2.2.1 with
  |true=>exact(k i x hx hu).1
  |false=>exact((h.r.ino i x hx).bare hu).2.2.2.1
 ·rw[doZ d hx] at hb;simp at hb;subst hb;cases hu:x.2.2.1 with
  |true=>exact(k i x hx hu).2
  |false=>rw[((h.r.ino i x hx).bare hu).2.1];rfl
theorem eEZ{l}{d}(k:nA l d)(i)(f)(hf:∀n,(f n).2.2.1=true->n.2.2.1=true/\(f n).2.2.2.2.2.1=n.2.2.2.2.2.1/\(f n).2.2.2.2.1=n.2.2.2.2.1):nA (wW l i f) d:=by
 intro j x hx hu;rw[bnZ] at hx;split at hx
 ·cases hn:l[j]? with
  |none=>rw[hn] at hx;cases hx
  |some n=>
   rw[hn] at hx;simp[ZAW] at hx;subst hx
   let⟨q1,q2,q3⟩:=hf n hu
   rw[q2,q3];exact k j n hn q1
 ·exact k j x hx hu
theorem krZ{l}{d}(k:nA l d)(a)(s)(id):nA (jU l a s id) d:=eEZ k _ _ fun _ h=>⟨h,rfl,rfl⟩
theorem fmZ{l}{d}(k:nA l d)(a)(s):nA (cR l a s) d:=eEZ k _ _ fun _ h=>⟨h,rfl,rfl⟩
theorem rWZ{l}{d}(k:nA l d)(a p):nA (OB l a p) d:=eEZ k _ _ fun _ h=>⟨h,rfl,rfl⟩
theorem inZ{l}{d}(k:nA l d)(a):nA (dY l a) d:=eEZ k _ _ fun _ h=>by cases h
theorem mXZ{l}{d}(k:nA l d)(a)(old)(b)(name)(id):nA (mvL l a old b name id) d:=rWZ (krZ (fmZ k _ _) _ _ _) _ _
theorem pyZ{m}(h:bW m){dir}{parent g}{l'}{i}(ha:oS m.1.1 dir parent=some (l',i,g)):nA l' m.2:=by
 unfold oS at ha;cases hf:oR m.1.1 with
 |none=>
  rw[hf] at ha;simp only at ha;split at ha
  ·obtain⟨rfl,rfl,rfl⟩:=ha;intro j x hx hu;by_cases hj:j<m.1.1.length
   ·rw[ZAS hj] at hx;exact h.kept j x hx hu
   ·rw[ZAU (by omega)] at hx;have hj0:j-m.1.1.length=0:=by
     cases hq:j-m.1.1.length with
     |zero=>rfl
     |succ q=>rw[hq] at hx;simp at hx
    rw[hj0] at hx;simp[ZAW] at hx;subst hx;rw[ZAd (by rw[h.n];omega)];exact⟨rfl,rfl⟩
  simp_all
 |some k=>
  rw[hf] at ha;simp at ha
  let⟨hk,hused,_⟩:=ZA3.1 hf
  have hg:=ZAB hk;rw[hg] at ha;simp only at ha;split at ha
  ·simp[ZA1] at ha;obtain⟨rfl,rfl,rfl⟩:=ha;intro j x hx hu;by_cases hj:j=k
   ·subst hj;rw[ZAR hk] at hx;simp at hx;subst hx
    let⟨b,hb,hs,_⟩:=h.at hg
    have hun:=by simpa using hused
    rw[((h.t.r.ino j _ hg).bare hun).2.1] at hs;rw[hb];exact⟨rfl,hs⟩
   ·rw[ZAX (fun e=>hj e.symm)] at hx;exact h.kept j x hx hu
  ·cases ha
theorem rKZ{m}(h:bW m)(d)(s)(is):nA (fT m.1 d s is).1.1 m.2:=by
 unfold fT;have k:=h.kept;split
 ·split
  ·split
   ·exact k
   ·split
    ·exact k
    ·split
     ·exact k
     ·split
      ·exact k
      ·rename_i l' i g ha;exact krZ (pyZ h ha) _ _ _
  ·exact k
 ·exact k
theorem lHZ{m}(h:bW m)(d)(s)(is):nA (eC m.1 d s is).1.1 m.2:=by
 unfold eC;have k:=h.kept;split
 ·split
  ·split
   ·exact k
   ·split
    ·exact k
    ·split
     ·exact k
     ·split
      ·exact inZ (fmZ k _ _) _
      ·exact k
  ·exact k
 ·exact k
theorem mfZ{m}(h:bW m)(a)(old)(b)(name):nA (eD m.1 a old b name).1.1 m.2:=by
 unfold eD;have k:=h.kept;split
 ·split
  ·split
   ·split
    ·exact k
    ·split
     ·exact k
     ·split
      ·exact k
      ·split
       ·exact k
       ·split
        ·exact k
        ·split
         ·split
          ·exact k
          ·exact mXZ k _ _ _ _ _
         ·split
          ·exact k
          ·split
           ·exact k
           ·split
            ·exact mXZ (inZ (fmZ k _ _) _) _ _ _ _ _
            ·exact k
   ·exact k
  ·exact k
 omega
def wS(x:Ino)(n:Int):Ino:=(x.1,x.2.1,x.2.2.1,x.2.2.2.1,n,x.2.2.2.2.2)
theorem niZ{l:List Ino}{i}{x}(hx:l[i]? =some x)(n){j:Nat}{y}(hy:l[j]? =some y):∃y',(l.set i (wS x n))[j]? =some y'/\y'=wS y y'.2.2.2.2.1:=by
 by_cases hj:j=i
 ·subst hj;rw[hx] at hy;cases hy;exact⟨_,ZAR (ZAC.1 hx).1,rfl⟩
 ·exact⟨y,by rw[ZAX (fun e=>hj e.symm)];exact hy,rfl⟩
theorem jJZ{l:List Ino}{i}{x}(hx:l[i]? =some x)(n){j}{y'}(hy:(l.set i (wS x n))[j]? =some y'):∃y,l[j]? =some y/\y'=wS y y'.2.2.2.2.1/\(j≠i->y'=y)/\(j=i->y=x/\y'=wS x n):=by
 by_cases hj:j=i
 ·subst hj;rw[ZAR (ZAC.1 hx).1] at hy;simp at hy;subst hy;exact⟨x,hx,rfl,fun h=>absurd rfl h,fun _=>⟨rfl,rfl⟩⟩
 ·rw[ZAX (fun e=>hj e.symm)] at hy;exact⟨y',hy,rfl,fun _=>rfl,fun h=>absurd h hj⟩
theorem vCZ{l}{i}{x}(hx:l[i]? =some x)(n){id}(h:Rch l id):Rch (l.set i (wS x n)) id:=by
 induction h with
 |root=>exact .root
 |step hy hu _ ih=>
  let⟨y',h1,h2⟩:=niZ hx n hy
  have hu':y'.2.2.1=true:=by rw[h2];exact hu
  have:=Rch.step h1 hu';rw[h2] at this;exact this ih
theorem oKZ{t}(h:bL t){i}{x}(hx:t.1[i]? =some x)(hu:x.2.2.1=true)(hd:x.2.2.2.1=false){n}(hn:0<=n/\n<=65536):bL (t.1.set i (wS x n),t.2):=by
 have hlen:(t.1.set i (wS x n)).length=t.1.length:=ZAt;refine⟨⟨by rw[hlen];exact h.r.len,h.r.str,fun j y' hy=> ?_,?_,?_⟩,fun j y' hy s id he=> ?_,fun j y' hy hu' hj=> ?_,fun j y' hy hu'=> ?_⟩
 ·let⟨y,h1,h2,h3,h4⟩:=jJZ hx n hy
  have o:=h.r.ino j y h1;show iT (t.1.set i (wS x n)).length t.2 j y';rw[hlen];by_cases hj:j=i
  ·obtain⟨rfl,h5⟩:=h4 hj;have f:=o.file hu hd;subst h5;exact⟨o.id,o.gen,o.par,fun _ hq=>(by have hq:y.2.2.2.1=true:=hq;rw[hd] at hq;cases hq),fun _ _=>⟨hn,f.2.1,f.2.2.1,f.2.2.2⟩,fun hq=>(by have hq:y.2.2.1=false:=hq;rw[hu] at hq;cases hq)⟩
  grind
 ·have e:bD (t.1.set i (wS x n))=bD t.1:=by
   unfold bD;rw[show(t.1.set i (wS x n)).flatMap (fun n=>bS n.2.2.2.2.2.1)=((t.1.set i (wS x n)).map fun n=>n.2.2.2.2.2.1).flatMap bS from by rw[List.flatMap_map],
    show t.1.flatMap (fun n=>bS n.2.2.2.2.2.1)=(t.1.map fun n=>n.2.2.2.2.2.1).flatMap bS from by rw[List.flatMap_map],List.map_set]
   congr 1;exact d9Z (by rw[ZAV,hx];rfl)
  show(bD (t.1.set i (wS x n))).Nodup;rw[e];exact h.r.nod
 ·let⟨r,q1,q2,q3,q4⟩:=h.r.root
  let⟨r',h1,h2⟩:=niZ hx n q1
  refine⟨r',h1,?_,?_,?_⟩<;>rw[h2]
  ·exact q2
  ·exact q3
  ·exact q4
 ·let⟨y,h1,h2,_⟩:=jJZ hx n hy
  rw[h2] at he
  let⟨q1,q2,z,q3,q4,q5⟩:=h.e j y h1 s id he
  let⟨z',h3,h4⟩:=niZ hx n q3
  exact⟨q1,q2,z',h3,by rw[h4];exact q4,by rw[h4];exact q5⟩
 ·let⟨y,h1,h2,_⟩:=jJZ hx n hy
  rw[h2] at hu'
  let⟨z,s,q1,q2,q3⟩:=h.u j y h1 hu' hj
  let⟨z',h3,h4⟩:=niZ hx n q1
  refine⟨z',s,by rw[h2];exact h3,by rw[h4];exact q2,fun s' hs=> ?_⟩;rw[h4] at hs;exact q3 s' hs
 ·let⟨y,h1,h2,_⟩:=jJZ hx n hy
  rw[h2] at hu';exact vCZ hx n (h.a j y h1 hu')
theorem quZ{m}(h:bW m){hd}{x}{b}(hx:IsF m hd x b){c}(hc:c.length<=65536):bL (nX m hd c).1/\nA (nX m hd c).1.1 (nX m hd c).2/\(nX m hd c).1.1.length=m.1.1.length/\(nX m hd c).2.length=m.2.length/\
 ∀(i:Nat) z,(nX m hd c).2[i]? =some z->z.length<=65536:=by
 let⟨⟨h1,hg,hu,hgen⟩,hdir,hb⟩:=hx
 have e:nX m hd c=((m.1.1.set (hd.1-1).toNat (wS x ((c.length:Nat):Int)),m.1.2),m.2.set (hd.1-1).toNat c):=by
  unfold nX rH;rw[hg]
  rfl
 rw[e];have hlt:=(ZAC.1 hg).1;refine⟨oKZ h.t hg hu hdir (by omega),fun j y' hy hu'=> ?_,ZAt,ZAt,fun i z hz=> ?_⟩
 ·let⟨y,q1,q2,q3,q4⟩:=jJZ hg _ hy
  by_cases hj:j=(hd.1-1).toNat
  ·obtain⟨rfl,q5⟩:=q4 hj;subst q5 hj;rw[ZAR (by rw[h.n];exact hlt)];exact⟨h.p _ y q1,rfl⟩
  ·rw[q3 hj] at hu'⊢;rw[ZAX (fun e=>hj e.symm)];exact h.kept j y q1 hu'
 ·by_cases hi:i=(hd.1-1).toNat
  ·subst hi;rw[ZAR (by rw[h.n];exact hlt)] at hz;cases hz;exact hc
  ·have hz:=hz;rw[ZAX (fun e=>hi e.symm)] at hz;exact h.byt hz
def cK(m:Mod)(c:bT):DoR:=if c.2.2.1=uO 1 then jG m c else if c.2.2.1=uO 2 then gN m c else if c.2.2.1=uO 3 then gN m c else if c.2.2.1=uO 4 then jN m c else if c.2.2.1=uO 5 then iM m c else if c.2.2.1=uO 6 then lY m c else if c.2.2.1=uO 7 then dM m c else if c.2.2.1=uO 8 then dM m c else if c.2.2.1=uO 9 then fB m c else if c.2.2.1=uO 10 then zL m c else if c.2.2.1=uO 11 then rV m c else if c.2.2.1=uO 12 then AT m else(179,m,kT)
structure wX (q:DoR):Prop where
 t:bL q.2.1.1
 k:nA q.2.1.1.1 q.2.1.2
 n:q.2.1.2.length<=501
 b:∀(i:Nat) z,q.2.1.2[i]? =some z->z.length<=65536
theorem wX.same{m}(h:bW m){q}(e:q.2.1=m):wX q:=by
 subst e;exact⟨h.t,h.kept,by have:=h.len;have:=h.n;grind,fun i z hz=>h.byt hz⟩
section
variable {m : Mod} (h : bW m) (c : bT)
include h
theorem dlen:m.2.length<=501:=by have:=h.len;have:=h.n;omega
theorem r1Z:wX (jG m c):=.same h (by unfold jG;split<;>first|rfl|(split<;>rfl))
theorem pJZ:wX (jN m c):=.same h (by grind[jN])
theorem sJZ:wX (rV m c):=.same h (by grind[rV])
theorem klZ:wX (gN m c):=by
 unfold gN;split
 ·exact⟨(iHZ h.t _ _ _).2,rKZ h _ _ _,dlen (m:=m) h,fun i z hz=>h.byt hz⟩
 ·exact .same h rfl
theorem fUZ:wX (dM m c):=by
 unfold dM;split
 ·exact⟨(k4Z h.t _ _ _).2,lHZ h _ _ _,dlen (m:=m) h,fun i z hz=>h.byt hz⟩
 ·exact .same h rfl
theorem l6Z:wX (fB m c):=by
 unfold fB;split
 ·exact⟨(jMZ h.t _ _ _ _).2,mfZ h _ _ _ _,dlen (m:=m) h,fun i z hz=>h.byt hz⟩
 ·exact .same h rfl
theorem qdZ(hn:0<=c.2.2.2.2.2.2.2.2.1/\c.2.2.2.2.2.2.2.2.1<=2147483648):wX (lY m c):=by
 unfold lY;split
 ·rename_i h0
  let⟨x,hx,_⟩:=dGZ h0
  split
  ·exact .same h rfl
  ·let⟨q1,q2,q3,q4,q5⟩:=quZ h hx (c:=lX (cW m c.2.2.2.1).2.1 c.2.2.2.2.2.2.2.2.1.toNat) (by rw[aNZ];omega)
   exact⟨q1,q2,by have:=dlen h;show(nX m _ _).2.length<=501;omega,q5⟩
 ·exact .same h rfl
theorem o5Z(hbs:c.2.2.2.2.2.2.2.2.2.length<=4096):wX (iM m c):=by
 unfold iM;split
 ·rename_i h0
  let⟨x,hx,_⟩:=dGZ h0
  have hbl:=h.byt hx.2.2;split
  ·exact .same h rfl
  ·let⟨q1,q2,q3,q4,q5⟩:=quZ h hx (c:=mZ (cW m c.2.2.2.1).2.1 c.2.2.2.2.2.2.2.1 c.2.2.2.2.2.2.2.2.2) (by rw[c9Z];unfold dU;split<;>omega)
   exact⟨q1,q2,by have:=dlen h;show(nX m _ _).2.length<=501;omega,q5⟩
 ·exact .same h rfl
theorem bgZ(hn:0<=c.2.2.2.2.2.2.2.2.1/\c.2.2.2.2.2.2.2.2.1<=2147483648)(hbs:c.2.2.2.2.2.2.2.2.2.length<=4096):wX (cK m c):=by
 unfold cK;by_cases h1:c.2.2.1=uO 1
 ·rw[ZAL h1];exact r1Z h c
 rw[ZAJ h1];by_cases h2:c.2.2.1=uO 2
 ·rw[ZAL h2];exact klZ h c
 rw[ZAJ h2];by_cases h3:c.2.2.1=uO 3
 ·rw[ZAL h3];exact klZ h c
 rw[ZAJ h3];by_cases h4:c.2.2.1=uO 4
 ·rw[ZAL h4];exact pJZ h c
 rw[ZAJ h4];by_cases h5:c.2.2.1=uO 5
 ·rw[ZAL h5];exact o5Z h c hbs
 rw[ZAJ h5];by_cases h6:c.2.2.1=uO 6
 ·rw[ZAL h6];exact qdZ h c hn
 rw[ZAJ h6];by_cases h7:c.2.2.1=uO 7
 ·rw[ZAL h7];exact fUZ h c
 rw[ZAJ h7];by_cases h8:c.2.2.1=uO 8
 ·rw[ZAL h8];exact fUZ h c
 rw[ZAJ h8];by_cases h9:c.2.2.1=uO 9
 ·rw[ZAL h9];exact l6Z h c
 rw[ZAJ h9];by_cases h10:c.2.2.1=uO 10
 ·rw[ZAL h10];exact .same h rfl
 rw[ZAJ h10];by_cases h11:c.2.2.1=uO 11
 ·rw[ZAL h11];exact sJZ h c
 rw[ZAJ h11];by_cases h12:c.2.2.1=uO 12
 ·rw[ZAL h12];exact .same h rfl
 rw[ZAJ h12];exact .same h rfl
end
theorem pDZ(o):(tQ o).2.2.2.2.1<=2147483648:=by grind[tQ]
theorem ayZ{c}(hr:bK c=true):(0<=c.2.2.2.2.2.2.2.1/\c.2.2.2.2.2.2.2.1<=2147483648)/\(0<=c.2.2.2.2.2.2.2.2.1/\c.2.2.2.2.2.2.2.2.1<=2147483648)/\c.2.2.2.2.2.2.2.2.2.length<=4096:=by
 unfold bK vY at hr;have hs:=pDZ c.2.2.1.toNat
 grind
theorem uoZ:∀n,n<256->(tQ n).2.2.2.2.2.2=true->uO n=uO 1\/uO n=uO 2\/uO n=uO 3\/uO n=uO 4\/uO n=uO 5\/uO n=uO 6\/uO n=uO 7\/uO n=uO 8\/uO n=uO 9\/uO n=uO 10\/uO n=uO 11\/uO n=uO 12:=by decide+kernel
theorem jjZ{c}(hr:bK c=true):c.2.2.1=uO 1\/c.2.2.1=uO 2\/c.2.2.1=uO 3\/c.2.2.1=uO 4\/c.2.2.1=uO 5\/c.2.2.1=uO 6\/c.2.2.1=uO 7\/c.2.2.1=uO 8\/c.2.2.1=uO 9\/c.2.2.1=uO 10\/c.2.2.1=uO 11\/c.2.2.1=uO 12:=by
 unfold bK vY at hr;simp at hr;have:=uoZ c.2.2.1.toNat c.2.2.1.toNat_lt hr.1
 simp_all
theorem lqZ(m)(c):(jG m c).2.2.2.2.2.1=[]/\(jG m c).2.2.2.2.2.2.1=[]:=by unfold jG;(repeat' split)<;>exact⟨rfl,rfl⟩
theorem fhZ(m)(c):(gN m c).2.2.2.2.2.1=[]/\(gN m c).2.2.2.2.2.2.1=[]:=by unfold gN;(repeat' split)<;>exact⟨rfl,rfl⟩
theorem cMZ(m)(c):(dM m c).2.2.2.2.2.1=[]/\(dM m c).2.2.2.2.2.2.1=[]:=by unfold dM;(repeat' split)<;>exact⟨rfl,rfl⟩
theorem gSZ(m)(c):(fB m c).2.2.2.2.2.1=[]/\(fB m c).2.2.2.2.2.2.1=[]:=by unfold fB;(repeat' split)<;>exact⟨rfl,rfl⟩
theorem lGZ(m)(c):(lY m c).2.2.2.2.2.1=[]/\(lY m c).2.2.2.2.2.2.1=[]:=by unfold lY;(repeat' split)<;>exact⟨rfl,rfl⟩
theorem iUZ(m)(c):(iM m c).2.2.2.2.2.1=[]/\(iM m c).2.2.2.2.2.2.1=[]:=by unfold iM;(repeat' split)<;>exact⟨rfl,rfl⟩
theorem r8Z(m)(c):(rV m c).2.2.2.2.2.1=[]/\(rV m c).2.2.2.2.2.2.1=[]:=by unfold rV;(repeat' split)<;>exact⟨rfl,rfl⟩
theorem pTZ(m)(c):(jN m c).2.2.2.2.2.2.1=[]:=by unfold jN;(repeat' split)<;>rfl
def bN(m:Mod)(c:bT):Mod×Int×Rep:=
 if bK c=true then
  if(cK m c).1=0 then(((cK m c).2.1.1,kE (cK m c).2.1.1.1 (cK m c).2.1.2),0,(cK m c).2.2)
  else(m,(cK m c).1,kT)
 else(m,179,kT)
def doT(r:Mod×Int×Rep)(c:bT):Int×(Int×(Int×(Int×(Int×(Int×(Bool×(Int×(Byt×(List Ent×(Bool×(Int×(List Ino×List Byt)))))))))))):=(r.1.1.2,(c.1,(c.2.1,(r.2.1,(r.2.2.1.1,(r.2.2.1.2,(r.2.2.2.1,(r.2.2.2.2.1,(r.2.2.2.2.2.1,(r.2.2.2.2.2.2.1,(r.2.2.2.2.2.2.2.1,(r.2.2.2.2.2.2.2.2,(r.1.1.1,r.1.2)))))))))))))
theorem k0Z{m}(h:bW m)(c):bW (bN m c).1:=by
 unfold bN;by_cases hr:bK c=true
 ·rw[ZAL hr]
  let⟨ho,hn,hbs⟩:=ayZ hr
  have s:=bgZ h c hn hbs;by_cases h0:(cK m c).1=0
  ·rw[ZAL h0];exact s.k.model s.t
  ·rw[ZAJ h0];exact h
 simp_all
set_option maxHeartbeats 4000000
set_option maxRecDepth 100000
theorem aTZ(u):pB ((u.toNat:Nat):Int)=some u:=by rw[iFZ u.toNat_lt];simp
def KH(m:Mod)(q:DoR):Mod×Int×Rep:=
 if q.1=0 then((q.2.1.1,kE q.2.1.1.1 q.2.1.2),0,q.2.2) else(m,q.1,kT)
theorem bQZ{m}{c}(hr:bK c=true):bN m c=KH m (cK m c):=by simp_all[bN,KH]
def mkO(q:DoR)(by_:Byt)(en:List Ent)(m:Mod)(c:bT):JL:=(q.1,(m.1.1,(m.1.2,(m.2,(c.1,(c.2.1,(((c.2.2.1.toNat:Nat):Int),(c.2.2.2.1.1,(c.2.2.2.1.2,(c.2.2.2.2.1,(c.2.2.2.2.2.1.1,(c.2.2.2.2.2.1.2,(c.2.2.2.2.2.2.1,(c.2.2.2.2.2.2.2.1,(c.2.2.2.2.2.2.2.2.1,(c.2.2.2.2.2.2.2.2.2,(0,(0,(0,(0,(0,(0,(false,(0,(false,(0,(q.2.1.1.1,(q.2.1.1.2,(q.2.1.2,(c.1,(c.2.1,(((c.2.2.1.toNat:Nat):Int),(c.2.2.2.1.1,(c.2.2.2.1.2,(c.2.2.2.2.1,(c.2.2.2.2.2.1.1,(c.2.2.2.2.2.1.2,(c.2.2.2.2.2.2.1,(c.2.2.2.2.2.2.2.1,(c.2.2.2.2.2.2.2.2.1,(c.2.2.2.2.2.2.2.2.2,(c.1,(c.2.1,(0,(q.2.2.1.1,(q.2.2.1.2,(q.2.2.2.1,(q.2.2.2.2.1,(by_,(en,(q.2.2.2.2.2.2.2.1,q.2.2.2.2.2.2.2.2)))))))))))))))))))))))))))))))))))))))))))))))))))
noncomputable def OD (o1 : JL) : Option (Int × (Int × (Int × (Int × (Int × (Int × (Bool × (Int × (Byt × (List Ent × (Bool × (Int × (List Ino × List Byt))))))))))))) :=
 bif (!(o1.1==0)) then
  (CP bB (o1.2.1,o1.2.2.1)).bind fun r14=>
  (gL bB o1 (0,(o1.2.2.2.2.1,(o1.2.2.2.2.2.1,(o1.2.2.2.2.2.2.1,(o1.2.2.2.2.2.2.2.1,(o1.2.2.2.2.2.2.2.2.1,(o1.2.2.2.2.2.2.2.2.2.1,(o1.2.2.2.2.2.2.2.2.2.2.1,(o1.2.2.2.2.2.2.2.2.2.2.2.1,(o1.2.2.2.2.2.2.2.2.2.2.2.2.1,(o1.2.2.2.2.2.2.2.2.2.2.2.2.2.1,(o1.2.2.2.2.2.2.2.2.2.2.2.2.2.2.1,(o1.2.2.2.2.2.2.2.2.2.2.2.2.2.2.2.1,(o1.2.2.2.2.2.2.2.2.2.2.2.2.2.2.2.2.1,(o1.2.2.2.2.2.2.2.2.2.2.2.2.2.2.2.2.2.1,(o1.2.2.2.2.2.2.2.2.2.2.2.2.2.2.2.2.2.2.1,(o1.2.2.2.2.2.2.2.2.2.2.2.2.2.2.2.2.2.2.2.1,(o1.2.2.2.2.2.2.2.2.2.2.2.2.2.2.2.2.2.2.2.2.1,(o1.2.2.2.2.2.2.2.2.2.2.2.2.2.2.2.2.2.2.2.2.2.1,(o1.2.2.2.2.2.2.2.2.2.2.2.2.2.2.2.2.2.2.2.2.2.2.1,(o1.2.2.2.2.2.2.2.2.2.2.2.2.2.2.2.2.2.2.2.2.2.2.2.1,(o1.2.2.2.2.2.2.2.2.2.2.2.2.2.2.2.2.2.2.2.2.2.2.2.2.1,(o1.2.2.2.2.2.2.2.2.2.2.2.2.2.2.2.2.2.2.2.2.2.2.2.2.2.1,(r14.1,(r14.2,[])))))))))))))))))))))))))).bind fun o2=>
  some (o2.2.2.2.2.2.2.2.2.2.2.2.2.2.2.2.2.2.2.2.2.2.2.1,(o2.1,(o2.2.1,(o1.1,(0,(0,(false,(0,([],([],(false,(0,(o2.2.2.2.2.2.2.2.2.2.2.2.2.2.2.2.2.2.2.2.2.2.2.2.1,o2.2.2.2.2.2.2.2.2.2.2.2.2.2.2.2.2.2.2.2.2.2.2.2.2)))))))))))))
 else
  (uR bB o1.2.2.2.2.2.2.2.2.2.2.2.2.2.2.2.2.2.2.2.2.2.2.2.2.2.2.1 o1.2.2.2.2.2.2.2.2.2.2.2.2.2.2.2.2.2.2.2.2.2.2.2.2.2.2.2.1 o1.2.2.2.2.2.2.2.2.2.2.2.2.2.2.2.2.2.2.2.2.2.2.2.2.2.2.2.2.1 o1.2.2.2.2.2.2.2.2.2.2.2.2.2.2.2.2.2.2.2.2.2.2.2.2.2.2.2.2.2.1 o1.2.2.2.2.2.2.2.2.2.2.2.2.2.2.2.2.2.2.2.2.2.2.2.2.2.2.2.2.2.2.1 o1.2.2.2.2.2.2.2.2.2.2.2.2.2.2.2.2.2.2.2.2.2.2.2.2.2.2.2.2.2.2.2.1 o1.2.2.2.2.2.2.2.2.2.2.2.2.2.2.2.2.2.2.2.2.2.2.2.2.2.2.2.2.2.2.2.2.1 o1.2.2.2.2.2.2.2.2.2.2.2.2.2.2.2.2.2.2.2.2.2.2.2.2.2.2.2.2.2.2.2.2.2.1 o1.2.2.2.2.2.2.2.2.2.2.2.2.2.2.2.2.2.2.2.2.2.2.2.2.2.2.2.2.2.2.2.2.2.2.1 o1.2.2.2.2.2.2.2.2.2.2.2.2.2.2.2.2.2.2.2.2.2.2.2.2.2.2.2.2.2.2.2.2.2.2.2.1 o1.2.2.2.2.2.2.2.2.2.2.2.2.2.2.2.2.2.2.2.2.2.2.2.2.2.2.2.2.2.2.2.2.2.2.2.2.1 o1.2.2.2.2.2.2.2.2.2.2.2.2.2.2.2.2.2.2.2.2.2.2.2.2.2.2.2.2.2.2.2.2.2.2.2.2.2.1 o1.2.2.2.2.2.2.2.2.2.2.2.2.2.2.2.2.2.2.2.2.2.2.2.2.2.2.2.2.2.2.2.2.2.2.2.2.2.2.1 o1.2.2.2.2.2.2.2.2.2.2.2.2.2.2.2.2.2.2.2.2.2.2.2.2.2.2.2.2.2.2.2.2.2.2.2.2.2.2.2.1 o1.2.2.2.2.2.2.2.2.2.2.2.2.2.2.2.2.2.2.2.2.2.2.2.2.2.2.2.2.2.2.2.2.2.2.2.2.2.2.2.2.1 o1.2.2.2.2.2.2.2.2.2.2.2.2.2.2.2.2.2.2.2.2.2.2.2.2.2.2.2.2.2.2.2.2.2.2.2.2.2.2.2.2.2.1 o1.2.2.2.2.2.2.2.2.2.2.2.2.2.2.2.2.2.2.2.2.2.2.2.2.2.2.2.2.2.2.2.2.2.2.2.2.2.2.2.2.2.2.1 o1.2.2.2.2.2.2.2.2.2.2.2.2.2.2.2.2.2.2.2.2.2.2.2.2.2.2.2.2.2.2.2.2.2.2.2.2.2.2.2.2.2.2.2.1 o1.2.2.2.2.2.2.2.2.2.2.2.2.2.2.2.2.2.2.2.2.2.2.2.2.2.2.2.2.2.2.2.2.2.2.2.2.2.2.2.2.2.2.2.2.1 o1.2.2.2.2.2.2.2.2.2.2.2.2.2.2.2.2.2.2.2.2.2.2.2.2.2.2.2.2.2.2.2.2.2.2.2.2.2.2.2.2.2.2.2.2.2.1 o1.2.2.2.2.2.2.2.2.2.2.2.2.2.2.2.2.2.2.2.2.2.2.2.2.2.2.2.2.2.2.2.2.2.2.2.2.2.2.2.2.2.2.2.2.2.2.1 o1.2.2.2.2.2.2.2.2.2.2.2.2.2.2.2.2.2.2.2.2.2.2.2.2.2.2.2.2.2.2.2.2.2.2.2.2.2.2.2.2.2.2.2.2.2.2.2.1 o1.2.2.2.2.2.2.2.2.2.2.2.2.2.2.2.2.2.2.2.2.2.2.2.2.2.2.2.2.2.2.2.2.2.2.2.2.2.2.2.2.2.2.2.2.2.2.2.2.1 o1.2.2.2.2.2.2.2.2.2.2.2.2.2.2.2.2.2.2.2.2.2.2.2.2.2.2.2.2.2.2.2.2.2.2.2.2.2.2.2.2.2.2.2.2.2.2.2.2.2.1 o1.2.2.2.2.2.2.2.2.2.2.2.2.2.2.2.2.2.2.2.2.2.2.2.2.2.2.2.2.2.2.2.2.2.2.2.2.2.2.2.2.2.2.2.2.2.2.2.2.2.2.1 o1.2.2.2.2.2.2.2.2.2.2.2.2.2.2.2.2.2.2.2.2.2.2.2.2.2.2.2.2.2.2.2.2.2.2.2.2.2.2.2.2.2.2.2.2.2.2.2.2.2.2.2).bind fun r17=>
  some (r17.1,(o1.2.2.2.2.2.2.2.2.2.2.2.2.2.2.2.2.2.2.2.2.2.2.2.2.2.2.2.2.2.2.2.2.2.2.2.2.2.2.2.2.2.1,(o1.2.2.2.2.2.2.2.2.2.2.2.2.2.2.2.2.2.2.2.2.2.2.2.2.2.2.2.2.2.2.2.2.2.2.2.2.2.2.2.2.2.2.1,(o1.2.2.2.2.2.2.2.2.2.2.2.2.2.2.2.2.2.2.2.2.2.2.2.2.2.2.2.2.2.2.2.2.2.2.2.2.2.2.2.2.2.2.2.1,(o1.2.2.2.2.2.2.2.2.2.2.2.2.2.2.2.2.2.2.2.2.2.2.2.2.2.2.2.2.2.2.2.2.2.2.2.2.2.2.2.2.2.2.2.2.1,(o1.2.2.2.2.2.2.2.2.2.2.2.2.2.2.2.2.2.2.2.2.2.2.2.2.2.2.2.2.2.2.2.2.2.2.2.2.2.2.2.2.2.2.2.2.2.1,(o1.2.2.2.2.2.2.2.2.2.2.2.2.2.2.2.2.2.2.2.2.2.2.2.2.2.2.2.2.2.2.2.2.2.2.2.2.2.2.2.2.2.2.2.2.2.2.1,(o1.2.2.2.2.2.2.2.2.2.2.2.2.2.2.2.2.2.2.2.2.2.2.2.2.2.2.2.2.2.2.2.2.2.2.2.2.2.2.2.2.2.2.2.2.2.2.2.1,(o1.2.2.2.2.2.2.2.2.2.2.2.2.2.2.2.2.2.2.2.2.2.2.2.2.2.2.2.2.2.2.2.2.2.2.2.2.2.2.2.2.2.2.2.2.2.2.2.2.1,(o1.2.2.2.2.2.2.2.2.2.2.2.2.2.2.2.2.2.2.2.2.2.2.2.2.2.2.2.2.2.2.2.2.2.2.2.2.2.2.2.2.2.2.2.2.2.2.2.2.2.1,(o1.2.2.2.2.2.2.2.2.2.2.2.2.2.2.2.2.2.2.2.2.2.2.2.2.2.2.2.2.2.2.2.2.2.2.2.2.2.2.2.2.2.2.2.2.2.2.2.2.2.2.1,(o1.2.2.2.2.2.2.2.2.2.2.2.2.2.2.2.2.2.2.2.2.2.2.2.2.2.2.2.2.2.2.2.2.2.2.2.2.2.2.2.2.2.2.2.2.2.2.2.2.2.2.2,(r17.2.2.2.2.2.2.2.2.2.2.2.2.2.2.2.2.2.2.2.2.2.2.2.2.2.2.2.1,r17.2.2.2.2.2.2.2.2.2.2.2.2.2.2.2.2.2.2.2.2.2.2.2.2.2.2.2.2)))))))))))))
theorem b5Z{m}(h:bW m)(c){q}(s:wX q){by_}{en}(n1:q.2.2.2.2.2.1=by_)(n2:q.2.2.2.2.2.2.1=en):OD (mkO q by_ en m c)=some (doT (KH m q) c):=by
 have hl:=h.len;unfold KH OD;by_cases h0:q.1=0
 ·rw[ZAL h0];simp[mkO,h0,ZAD];rw[wnZ (hf:=s.t.r.fit) (hl:=s.t.r.len.2) (hd:=s.b),ZAA];simp[doT,n1,n2]
 ·rw[ZAJ h0];simp[mkO,ZAa.2 h0,ZAo,ZAM];rw[show((m.1.1,m.1.2):dI)=m.1 from rfl,dNZ h.fit,ZAA,wcZ _ _ _ _ _ _ _ _ _ _ _ _ _ _ _ _ _ _ _ _ _ _ _ _ _ m.2 rfl (dlen h) (fun i z hz=>h.byt hz),ZAA]
  rfl
theorem do_1{m}(h:bW m)(c)(hr:bK c=true)(hk:c.2.2.1=uO 1):cP bB m c=some (doT (bN m c) c):=by
 let⟨ho,hn,hbs⟩:=ayZ hr
 have s:=bgZ h c hn hbs;have hA:cK m c=jG m c:=by unfold cK;rw[hk];rfl
 have e1:(c.2.2.1==uO 1)=true:=by rw[hk];rfl
 rw[bQZ hr,hA];rw[hA] at s;unfold cP Pa Pb Pc Pd Pe Pf Pg Ph Pi Pj Pk Pl Pm Pn Po Pp Pq Pr Ps Pt Pu Pv Pw Px Py Pz Pza Pzb Pzc Pzd Pze Pzf Pzg Pzh Pzi Pzj Pzk Pzl Pzm Pzn Pzo Pzp Pzq Pzr Pzs Pzt Pzu Pzv Pzw Pzx PH PW PX PZX;rw[adZ (by decide)];rw[a4Z h,ZAA,ZAM,aTZ,ZAA,axZ,ZAA,hr,ZAM];rw[ZAA,e1,ZAM,tkZ h c,ZAA];exact b5Z h c s (lqZ m c).1 (lqZ m c).2
theorem do_2{m}(h:bW m)(c)(hr:bK c=true)(hk:c.2.2.1=uO 2):cP bB m c=some (doT (bN m c) c):=by
 let⟨ho,hn,hbs⟩:=ayZ hr
 have s:=bgZ h c hn hbs;have hA:cK m c=gN m c:=by unfold cK;rw[hk];rfl
 have e1:(c.2.2.1==uO 1)=false:=by rw[hk];rfl
 have e2:(c.2.2.1==uO 2)=true:=by rw[hk];rfl
 rw[bQZ hr,hA];rw[hA] at s;unfold cP Pa Pb Pc Pd Pe Pf Pg Ph Pi Pj Pk Pl Pm Pn Po Pp Pq Pr Ps Pt Pu Pv Pw Px Py Pz Pza Pzb Pzc Pzd Pze Pzf Pzg Pzh Pzi Pzj Pzk Pzl Pzm Pzn Pzo Pzp Pzq Pzr Pzs Pzt Pzu Pzv Pzw Pzx PH PW PX PZX;rw[adZ (by decide)];rw[a4Z h,ZAA,ZAM,aTZ,ZAA,axZ,ZAA,hr,ZAM];rw[ZAA,e1,ZAD,e2,ZAM,tXZ h c,ZAA];exact b5Z h c s (fhZ m c).1 (fhZ m c).2
theorem do_3{m}(h:bW m)(c)(hr:bK c=true)(hk:c.2.2.1=uO 3):cP bB m c=some (doT (bN m c) c):=by
 let⟨ho,hn,hbs⟩:=ayZ hr
 have s:=bgZ h c hn hbs;have hA:cK m c=gN m c:=by unfold cK;rw[hk];rfl
 have e1:(c.2.2.1==uO 1)=false:=by rw[hk];rfl
 have e2:(c.2.2.1==uO 2)=false:=by rw[hk];rfl
 have e3:(c.2.2.1==uO 3)=true:=by rw[hk];rfl
 rw[bQZ hr,hA];rw[hA] at s;unfold cP Pa Pb Pc Pd Pe Pf Pg Ph Pi Pj Pk Pl Pm Pn Po Pp Pq Pr Ps Pt Pu Pv Pw Px Py Pz Pza Pzb Pzc Pzd Pze Pzf Pzg Pzh Pzi Pzj Pzk Pzl Pzm Pzn Pzo Pzp Pzq Pzr Pzs Pzt Pzu Pzv Pzw Pzx PH PW PX PZX;rw[adZ (by decide)];rw[a4Z h,ZAA,ZAM,aTZ,ZAA,axZ,ZAA,hr,ZAM];rw[ZAA,e1,ZAD,e2,ZAD,e3,ZAM,tXZ h c,ZAA,ZAA];exact b5Z h c s (fhZ m c).1 (fhZ m c).2
theorem do_4{m}(h:bW m)(c)(hr:bK c=true)(hk:c.2.2.1=uO 4):cP bB m c=some (doT (bN m c) c):=by
 let⟨ho,hn,hbs⟩:=ayZ hr
 have s:=bgZ h c hn hbs;have hA:cK m c=jN m c:=by unfold cK;rw[hk];rfl
 have e1:(c.2.2.1==uO 1)=false:=by rw[hk];rfl
 have e2:(c.2.2.1==uO 2)=false:=by rw[hk];rfl
 have e3:(c.2.2.1==uO 3)=false:=by rw[hk];rfl
 have e4:(c.2.2.1==uO 4)=true:=by rw[hk];rfl
 rw[bQZ hr,hA];rw[hA] at s;unfold cP Pa Pb Pc Pd Pe Pf Pg Ph Pi Pj Pk Pl Pm Pn Po Pp Pq Pr Ps Pt Pu Pv Pw Px Py Pz Pza Pzb Pzc Pzd Pze Pzf Pzg Pzh Pzi Pzj Pzk Pzl Pzm Pzn Pzo Pzp Pzq Pzr Pzs Pzt Pzu Pzv Pzw Pzx PH PW PX PZX;rw[adZ (by decide)];rw[a4Z h,ZAA,ZAM,aTZ,ZAA,axZ,ZAA,hr,ZAM];rw[ZAA,e1,ZAD,e2,ZAD,e3,ZAD,e4,ZAM,v7Z h c ho hn,ZAA,ZAA,ZAA];exact b5Z h c s rfl (pTZ m c)
theorem do_5{m}(h:bW m)(c)(hr:bK c=true)(hk:c.2.2.1=uO 5):cP bB m c=some (doT (bN m c) c):=by
 let⟨ho,hn,hbs⟩:=ayZ hr
 have s:=bgZ h c hn hbs;have hA:cK m c=iM m c:=by unfold cK;rw[hk];rfl
 have e1:(c.2.2.1==uO 1)=false:=by rw[hk];rfl
 have e2:(c.2.2.1==uO 2)=false:=by rw[hk];rfl
 have e3:(c.2.2.1==uO 3)=false:=by rw[hk];rfl
 have e4:(c.2.2.1==uO 4)=false:=by rw[hk];rfl
 have e5:(c.2.2.1==uO 5)=true:=by rw[hk];rfl
 rw[bQZ hr,hA];rw[hA] at s;unfold cP Pa Pb Pc Pd Pe Pf Pg Ph Pi Pj Pk Pl Pm Pn Po Pp Pq Pr Ps Pt Pu Pv Pw Px Py Pz Pza Pzb Pzc Pzd Pze Pzf Pzg Pzh Pzi Pzj Pzk Pzl Pzm Pzn Pzo Pzp Pzq Pzr Pzs Pzt Pzu Pzv Pzw Pzx PH PW PX PZX;rw[adZ (by decide)];rw[a4Z h,ZAA,ZAM,aTZ,ZAA,axZ,ZAA,hr,ZAM];rw[ZAA,e1,ZAD,e2,ZAD,e3,ZAD,e4,ZAD,e5,ZAM,vpZ h c ho hbs,ZAA,ZAA,ZAA];exact b5Z h c s (iUZ m c).1 (iUZ m c).2
theorem do_6{m}(h:bW m)(c)(hr:bK c=true)(hk:c.2.2.1=uO 6):cP bB m c=some (doT (bN m c) c):=by
 let⟨ho,hn,hbs⟩:=ayZ hr
 have s:=bgZ h c hn hbs;have hA:cK m c=lY m c:=by unfold cK;rw[hk];rfl
 have e1:(c.2.2.1==uO 1)=false:=by rw[hk];rfl
 have e2:(c.2.2.1==uO 2)=false:=by rw[hk];rfl
 have e3:(c.2.2.1==uO 3)=false:=by rw[hk];rfl
 have e4:(c.2.2.1==uO 4)=false:=by rw[hk];rfl
 have e5:(c.2.2.1==uO 5)=false:=by rw[hk];rfl
 have e6:(c.2.2.1==uO 6)=true:=by rw[hk];rfl
 rw[bQZ hr,hA];rw[hA] at s;unfold cP Pa Pb Pc Pd Pe Pf Pg Ph Pi Pj Pk Pl Pm Pn Po Pp Pq Pr Ps Pt Pu Pv Pw Px Py Pz Pza Pzb Pzc Pzd Pze Pzf Pzg Pzh Pzi Pzj Pzk Pzl Pzm Pzn Pzo Pzp Pzq Pzr Pzs Pzt Pzu Pzv Pzw Pzx PH PW PX PZX;rw[adZ (by decide)];rw[a4Z h,ZAA,ZAM,aTZ,ZAA,axZ,ZAA,hr,ZAM];rw[ZAA,e1,ZAD,e2,ZAD,e3,ZAD,e4,ZAD,e5,ZAD,e6,ZAM,wgZ h c hn.1,ZAA,ZAA,ZAA];exact b5Z h c s (lGZ m c).1 (lGZ m c).2
theorem do_7{m}(h:bW m)(c)(hr:bK c=true)(hk:c.2.2.1=uO 7):cP bB m c=some (doT (bN m c) c):=by
 let⟨ho,hn,hbs⟩:=ayZ hr
 have s:=bgZ h c hn hbs;have hA:cK m c=dM m c:=by unfold cK;rw[hk];rfl
 have e1:(c.2.2.1==uO 1)=false:=by rw[hk];rfl
 have e2:(c.2.2.1==uO 2)=false:=by rw[hk];rfl
 have e3:(c.2.2.1==uO 3)=false:=by rw[hk];rfl
 have e4:(c.2.2.1==uO 4)=false:=by rw[hk];rfl
 have e5:(c.2.2.1==uO 5)=false:=by rw[hk];rfl
 have e6:(c.2.2.1==uO 6)=false:=by rw[hk];rfl
 have e7:(c.2.2.1==uO 7)=true:=by rw[hk];rfl
 rw[bQZ hr,hA];rw[hA] at s;unfold cP Pa Pb Pc Pd Pe Pf Pg Ph Pi Pj Pk Pl Pm Pn Po Pp Pq Pr Ps Pt Pu Pv Pw Px Py Pz Pza Pzb Pzc Pzd Pze Pzf Pzg Pzh Pzi Pzj Pzk Pzl Pzm Pzn Pzo Pzp Pzq Pzr Pzs Pzt Pzu Pzv Pzw Pzx PH PW PX PZX;rw[adZ (by decide)];rw[a4Z h,ZAA,ZAM,aTZ,ZAA,axZ,ZAA,hr,ZAM];rw[ZAA,e1,ZAD,e2,ZAD,e3,ZAD,e4,ZAD,e5,ZAD,e6,ZAD,e7,ZAM,mIZ h c,ZAA,ZAA,ZAA];exact b5Z h c s (cMZ m c).1 (cMZ m c).2
theorem do_8{m}(h:bW m)(c)(hr:bK c=true)(hk:c.2.2.1=uO 8):cP bB m c=some (doT (bN m c) c):=by
 let⟨ho,hn,hbs⟩:=ayZ hr
 have s:=bgZ h c hn hbs;have hA:cK m c=dM m c:=by unfold cK;rw[hk];rfl
 have e1:(c.2.2.1==uO 1)=false:=by rw[hk];rfl
 have e2:(c.2.2.1==uO 2)=false:=by rw[hk];rfl
 have e3:(c.2.2.1==uO 3)=false:=by rw[hk];rfl
 have e4:(c.2.2.1==uO 4)=false:=by rw[hk];rfl
 have e5:(c.2.2.1==uO 5)=false:=by rw[hk];rfl
 have e6:(c.2.2.1==uO 6)=false:=by rw[hk];rfl
 have e7:(c.2.2.1==uO 7)=false:=by rw[hk];rfl
 have e8:(c.2.2.1==uO 8)=true:=by rw[hk];rfl
 rw[bQZ hr,hA];rw[hA] at s;unfold cP Pa Pb Pc Pd Pe Pf Pg Ph Pi Pj Pk Pl Pm Pn Po Pp Pq Pr Ps Pt Pu Pv Pw Px Py Pz Pza Pzb Pzc Pzd Pze Pzf Pzg Pzh Pzi Pzj Pzk Pzl Pzm Pzn Pzo Pzp Pzq Pzr Pzs Pzt Pzu Pzv Pzw Pzx PH PW PX PZX;rw[adZ (by decide)];rw[a4Z h,ZAA,ZAM,aTZ,ZAA,axZ,ZAA,hr,ZAM];rw[ZAA,e1,ZAD,e2,ZAD,e3,ZAD,e4,ZAD,e5,ZAD,e6,ZAD,e7,ZAD,e8,ZAM,mIZ h c,ZAA,ZAA,ZAA];exact b5Z h c s (cMZ m c).1 (cMZ m c).2
theorem do_9{m}(h:bW m)(c)(hr:bK c=true)(hk:c.2.2.1=uO 9):cP bB m c=some (doT (bN m c) c):=by
 let⟨ho,hn,hbs⟩:=ayZ hr
 have s:=bgZ h c hn hbs;have hA:cK m c=fB m c:=by unfold cK;rw[hk];rfl
 have e1:(c.2.2.1==uO 1)=false:=by rw[hk];rfl
 have e2:(c.2.2.1==uO 2)=false:=by rw[hk];rfl
 have e3:(c.2.2.1==uO 3)=false:=by rw[hk];rfl
 have e4:(c.2.2.1==uO 4)=false:=by rw[hk];rfl
 have e5:(c.2.2.1==uO 5)=false:=by rw[hk];rfl
 have e6:(c.2.2.1==uO 6)=false:=by rw[hk];rfl
 have e7:(c.2.2.1==uO 7)=false:=by rw[hk];rfl
 have e8:(c.2.2.1==uO 8)=false:=by rw[hk];rfl
 have e9:(c.2.2.1==uO 9)=true:=by rw[hk];rfl
 rw[bQZ hr,hA];rw[hA] at s;unfold cP Pa Pb Pc Pd Pe Pf Pg Ph Pi Pj Pk Pl Pm Pn Po Pp Pq Pr Ps Pt Pu Pv Pw Px Py Pz Pza Pzb Pzc Pzd Pze Pzf Pzg Pzh Pzi Pzj Pzk Pzl Pzm Pzn Pzo Pzp Pzq Pzr Pzs Pzt Pzu Pzv Pzw Pzx PH PW PX PZX;rw[adZ (by decide)];rw[a4Z h,ZAA,ZAM,aTZ,ZAA,axZ,ZAA,hr,ZAM];rw[ZAA,e1,ZAD,e2,ZAD,e3,ZAD,e4,ZAD,e5,ZAD,e6,ZAD,e7,ZAD,e8,ZAD,e9,ZAM,sQZ h c,ZAA,ZAA,ZAA];exact b5Z h c s (gSZ m c).1 (gSZ m c).2
theorem w2Z{m}(h:bW m)(c)(hr:bK c=true)(hk:c.2.2.1=uO 10):cP bB m c=some (doT (bN m c) c):=by
 let⟨ho,hn,hbs⟩:=ayZ hr
 have s:=bgZ h c hn hbs;have hA:cK m c=zL m c:=by unfold cK;rw[hk];rfl
 have e1:(c.2.2.1==uO 1)=false:=by rw[hk];rfl
 have e2:(c.2.2.1==uO 2)=false:=by rw[hk];rfl
 have e3:(c.2.2.1==uO 3)=false:=by rw[hk];rfl
 have e4:(c.2.2.1==uO 4)=false:=by rw[hk];rfl
 have e5:(c.2.2.1==uO 5)=false:=by rw[hk];rfl
 have e6:(c.2.2.1==uO 6)=false:=by rw[hk];rfl
 have e7:(c.2.2.1==uO 7)=false:=by rw[hk];rfl
 have e8:(c.2.2.1==uO 8)=false:=by rw[hk];rfl
 have e9:(c.2.2.1==uO 9)=false:=by rw[hk];rfl
 have e10:(c.2.2.1==uO 10)=true:=by rw[hk];rfl
 rw[bQZ hr,hA];rw[hA] at s;unfold cP Pa Pb Pc Pd Pe Pf Pg Ph Pi Pj Pk Pl Pm Pn Po Pp Pq Pr Ps Pt Pu Pv Pw Px Py Pz Pza Pzb Pzc Pzd Pze Pzf Pzg Pzh Pzi Pzj Pzk Pzl Pzm Pzn Pzo Pzp Pzq Pzr Pzs Pzt Pzu Pzv Pzw Pzx PH PW PX PZX;rw[adZ (by decide)];rw[a4Z h,ZAA,ZAM,aTZ,ZAA,axZ,ZAA,hr,ZAM];rw[ZAA,e1,ZAD,e2,ZAD,e3,ZAD,e4,ZAD,e5,ZAD,e6,ZAD,e7,ZAD,e8,ZAD,e9,ZAD,e10,ZAM,wmZ h c,ZAA,ZAA,ZAA];exact b5Z h c s rfl rfl
theorem wqZ{m}(h:bW m)(c)(hr:bK c=true)(hk:c.2.2.1=uO 11):cP bB m c=some (doT (bN m c) c):=by
 let⟨ho,hn,hbs⟩:=ayZ hr
 have s:=bgZ h c hn hbs;have hA:cK m c=rV m c:=by unfold cK;rw[hk];rfl
 have e1:(c.2.2.1==uO 1)=false:=by rw[hk];rfl
 have e2:(c.2.2.1==uO 2)=false:=by rw[hk];rfl
 have e3:(c.2.2.1==uO 3)=false:=by rw[hk];rfl
 have e4:(c.2.2.1==uO 4)=false:=by rw[hk];rfl
 have e5:(c.2.2.1==uO 5)=false:=by rw[hk];rfl
 have e6:(c.2.2.1==uO 6)=false:=by rw[hk];rfl
 have e7:(c.2.2.1==uO 7)=false:=by rw[hk];rfl
 have e8:(c.2.2.1==uO 8)=false:=by rw[hk];rfl
 have e9:(c.2.2.1==uO 9)=false:=by rw[hk];rfl
 have e10:(c.2.2.1==uO 10)=false:=by rw[hk];rfl
 have e11:(c.2.2.1==uO 11)=true:=by rw[hk];rfl
 rw[bQZ hr,hA];rw[hA] at s;unfold cP Pa Pb Pc Pd Pe Pf Pg Ph Pi Pj Pk Pl Pm Pn Po Pp Pq Pr Ps Pt Pu Pv Pw Px Py Pz Pza Pzb Pzc Pzd Pze Pzf Pzg Pzh Pzi Pzj Pzk Pzl Pzm Pzn Pzo Pzp Pzq Pzr Pzs Pzt Pzu Pzv Pzw Pzx PH PW PX PZX;rw[adZ (by decide)];rw[a4Z h,ZAA,ZAM,aTZ,ZAA,axZ,ZAA,hr,ZAM];rw[ZAA,e1,ZAD,e2,ZAD,e3,ZAD,e4,ZAD,e5,ZAD,e6,ZAD,e7,ZAD,e8,ZAD,e9,ZAD,e10,ZAD,e11,ZAM,wtZ h c,ZAA,ZAA,ZAA];exact b5Z h c s (r8Z m c).1 (r8Z m c).2
theorem wyZ{m}(h:bW m)(c)(hr:bK c=true)(hk:c.2.2.1=uO 12):cP bB m c=some (doT (bN m c) c):=by
 let⟨ho,hn,hbs⟩:=ayZ hr
 have s:=bgZ h c hn hbs;have hA:cK m c=AT m:=by unfold cK;rw[hk];rfl
 have e1:(c.2.2.1==uO 1)=false:=by rw[hk];rfl
 have e2:(c.2.2.1==uO 2)=false:=by rw[hk];rfl
 have e3:(c.2.2.1==uO 3)=false:=by rw[hk];rfl
 have e4:(c.2.2.1==uO 4)=false:=by rw[hk];rfl
 have e5:(c.2.2.1==uO 5)=false:=by rw[hk];rfl
 have e6:(c.2.2.1==uO 6)=false:=by rw[hk];rfl
 have e7:(c.2.2.1==uO 7)=false:=by rw[hk];rfl
 have e8:(c.2.2.1==uO 8)=false:=by rw[hk];rfl
 have e9:(c.2.2.1==uO 9)=false:=by rw[hk];rfl
 have e10:(c.2.2.1==uO 10)=false:=by rw[hk];rfl
 have e11:(c.2.2.1==uO 11)=false:=by rw[hk];rfl
 have e12:(c.2.2.1==uO 12)=true:=by rw[hk];rfl
 rw[bQZ hr,hA];rw[hA] at s;unfold cP Pa Pb Pc Pd Pe Pf Pg Ph Pi Pj Pk Pl Pm Pn Po Pp Pq Pr Ps Pt Pu Pv Pw Px Py Pz Pza Pzb Pzc Pzd Pze Pzf Pzg Pzh Pzi Pzj Pzk Pzl Pzm Pzn Pzo Pzp Pzq Pzr Pzs Pzt Pzu Pzv Pzw Pzx PH PW PX PZX;rw[adZ (by decide)];rw[a4Z h,ZAA,ZAM,aTZ,ZAA,axZ,ZAA,hr,ZAM];rw[ZAA,e1,ZAD,e2,ZAD,e3,ZAD,e4,ZAD,e5,ZAD,e6,ZAD,e7,ZAD,e8,ZAD,e9,ZAD,e10,ZAD,e11,ZAD,e12,ZAM,wdZ h c,ZAA,ZAA,ZAA];exact b5Z h c s rfl rfl
theorem qBZ{m}(h:bW m)(c:bT):cP bB m c=some (doT (bN m c) c):=by
 cases hr:bK c with
 |true=>
  rcases jjZ hr with hk|hk|hk|hk|hk|hk|hk|hk|hk|hk|hk|hk
  ·exact do_1 h c hr hk
  ·exact do_2 h c hr hk
  ·exact do_3 h c hr hk
  ·exact do_4 h c hr hk
  ·exact do_5 h c hr hk
  ·exact do_6 h c hr hk
  ·exact do_7 h c hr hk
  ·exact do_8 h c hr hk
  ·exact do_9 h c hr hk
  ·exact w2Z h c hr hk
  ·exact wqZ h c hr hk
  simp_all[wyZ]
 |false=>
  have e:bN m c=KH m (179,m,kT):=by unfold bN KH;rw[hr,ZAJ (by simp),ZAJ (show¬((179:Int)=0) by decide)]
  rw[e];unfold cP Pa Pb Pc Pd Pe Pf Pg Ph Pi Pj Pk Pl Pm Pn Po Pp Pq Pr Ps Pt Pu Pv Pw Px Py Pz Pza Pzb Pzc Pzd Pze Pzf Pzg Pzh Pzi Pzj Pzk Pzl Pzm Pzn Pzo Pzp Pzq Pzr Pzs Pzt Pzu Pzv Pzw Pzx PH PW PX PZX;rw[adZ (by decide)];rw[a4Z h,ZAA,aTZ,ZAA,axZ,ZAA,hr,ZAD,ZAA];exact b5Z h c (q:=(179,m,kT)) (.same h rfl) rfl rfl
abbrev DK:Type:=List UInt8×Int
abbrev bX:Type:=Int×(Int×(Int×((Int×Int)×(Bool×(Int×(List UInt8×(List DK×(Bool×Int))))))))
def oT(a b:Int):Bool:=decide (0<=a/\a<16/\1<=b/\b<=1099511627776)
theorem rvZ(a b):GK bB a b=some (oT a b):=by
 grind[GK,oT]
def kF(h:Int×Int):Bool:=decide (1<=h.1/\h.1<=500/\1<=h.2/\h.2<=1099511627776)
theorem nTZ(h):GL bB h=some (kF h):=by
 grind[GL,kF]
def mP(e:DK):Bool:=decide (1<=e.1.length/\e.1.length<=100/\1<=e.2/\e.2<=500)
def zM(h:Int×Int):Bool:=(h.1==0)&&(h.2==0)
def cF(r:bX):Bool:=
 oT r.1 r.2.1&&(decide (0<=r.2.2.1/\r.2.2.1<=1000)&&(if r.2.2.1≠0 then
  zM r.2.2.2.1&&(!r.2.2.2.2.1&&(!r.2.2.2.2.2.2.2.2.1&&((r.2.2.2.2.2.1==0)&&((r.2.2.2.2.2.2.2.2.2==0)&&decide (r.2.2.2.2.2.2.1=[]/\r.2.2.2.2.2.2.2.1=[])))))
 else(zM r.2.2.2.1||kF r.2.2.2.1)&&(decide (0<=r.2.2.2.2.2.1/\r.2.2.2.2.2.1<=65536)&&(decide (0<=r.2.2.2.2.2.2.2.2.2/\r.2.2.2.2.2.2.2.2.2<=1099511627776)&&
  (r.2.2.2.2.2.2.2.1.all mP&&(decide (r.2.2.2.2.2.2.1.length<=4096)&&decide (r.2.2.2.2.2.2.2.1.length<=100)))))))
theorem v1Z{b0}{x1 x2 x3 h1 h2}{d}{sz}{bs}{es:List DK}{mo}{fr}(hes:es.length<4611686018427387904):
 jW bB (b0,(x1,(x2,(x3,(h1,(h2,(d,(sz,(bs,(es,(mo,fr))))))))))) (0,(x1,(x2,(x3,(h1,(h2,(d,(sz,(bs,(es,(mo,fr)))))))))))=some (if es.all mP=true then .inl (x1,(x2,(x3,(h1,(h2,(d,(sz,(bs,(es,(mo,fr)))))))))) else .inr false):=by
 unfold jW;have:=aAZ (f:=fun tt:Int×(Int×(Int×(Int×(Int×(Int×(Bool×(Int×(List UInt8×(List DK×(Bool×Int))))))))))=>iL bB (b0,(x1,(x2,(x3,(h1,(h2,(d,(sz,(bs,(es,(mo,fr))))))))))) tt.1 tt.2.1 tt.2.2.1 tt.2.2.2.1 tt.2.2.2.2.1 tt.2.2.2.2.2.1 tt.2.2.2.2.2.2.1 tt.2.2.2.2.2.2.2.1 tt.2.2.2.2.2.2.2.2.1 tt.2.2.2.2.2.2.2.2.2.1 tt.2.2.2.2.2.2.2.2.2.2.1 tt.2.2.2.2.2.2.2.2.2.2.2)
  (fun n s=>∃k:Nat,s=((k:Int),(x1,(x2,(x3,(h1,(h2,(d,(sz,(bs,(es,(mo,fr)))))))))))/\k+n=es.length/\(es.take k).all mP=true)
  (fun o=>o=if es.all mP=true then .inl (x1,(x2,(x3,(h1,(h2,(d,(sz,(bs,(es,(mo,fr)))))))))) else .inr false)
  (fun n s ⟨k,hs,hk,ha⟩=>by
   subst hs;have hk':k<es.length:=by omega
   show(∃s',iL bB _ (k:Int) x1 x2 x3 h1 h2 d sz bs es mo fr=_/\_)\/∃o,iL bB _ (k:Int) x1 x2 x3 h1 h2 d sz bs es mo fr=_/\_;unfold iL;simp only;rw[ZAK (show(k:Int)<((es.length:Nat):Int) by omega),acZ hk',w64 ⟨by omega,by omega⟩];simp only[ZAM,ZAA,ZAB hk'];have htk:(es.take (k+1)).all mP=((es.take k).all mP&&mP es[k]):=by rw[ZBA hk',List.all_append];simp
   have hbad:mP es[k]=false->es.all mP=false:=fun h=>by
    rw[List.all_eq_false];exact⟨es[k],ZBN hk',by rw[h];simp⟩
   generalize es[k]=en at htk hbad⊢
   let⟨nm,id⟩:=en
   by_cases g:mP (nm,id)=true
   ·left;have g':=g;unfold mP at g';simp only[ZAq] at g';rw[ZAE (show¬((nm.length:Nat):Int)<1 by omega),ZAE (show¬((nm.length:Nat):Int)>100 by omega),ZAE (show¬id<1 by omega),ZAE (show¬id>500 by omega)];exact⟨_,rfl,k+1,rfl,by omega,by rw[htk,ha,g];rfl⟩
   ·right;have g0:=by simpa using g
    rw[hbad g0];refine⟨_,?_,rfl⟩;have g':=g0;unfold mP at g';simp only[ZBB] at g';by_cases q1:((nm.length:Nat):Int)<1
    ·rw[ZAK q1];rfl
    ·by_cases q2:((nm.length:Nat):Int)>100
     ·rw[ZAE q1,ZAK q2];rfl
     ·by_cases q3:id<1
      ·rw[ZAE q1,ZAE q2,ZAK q3];rfl
      ·have q4:id>500:=by omega
       rw[ZAE q1,ZAE q2,ZAE q3,ZAK q4];rfl)
  (fun s ⟨k,hs,hk,ha⟩=>by
   subst hs;have:k=es.length:=by omega
   subst this;rw[ZAu] at ha;rw[ha];refine⟨_,?_,rfl⟩;show iL bB _ ((es.length:Nat):Int) x1 x2 x3 h1 h2 d sz bs es mo fr=_;unfold iL;simp only;rw[ZAE (by omega)]
   rfl)
  es.length (0,(x1,(x2,(x3,(h1,(h2,(d,(sz,(bs,(es,(mo,fr))))))))))) hes ⟨0,rfl,by omega,by simp⟩
 simp_all
theorem eGZ{r:bX}(hb:r.2.2.2.2.2.2.1.length<1000000000000000000)(he:r.2.2.2.2.2.2.2.1.length<1000000000000000000):uS bB r=some (cF r):=by
 let⟨x1,x2,x3,⟨h1,h2⟩,d,sz,bs,es,mo,fr⟩:=r
 simp only at hb he;unfold uS cF Pa Pb Pc Pd Pe Pf Pg Ph Pi Pj PC PJ;simp only;rw[rvZ];simp only[ZAA];cases oT x1 x2 with
 |false=>rfl
 |true=>
  simp only[ZAO,ZAD,ZBT];by_cases e1:x3<0
  ·grind
  by_cases e2:x3>1000
  ·grind
  rw[ZAE e1,ZAE e2,ZAK (show 0<=x3/\x3<=1000 by omega)];simp only[ZAD,ZAA,ZBT];by_cases e3:x3=0
  ·rw[ZAJ (by omega),ZBp.2 e3];simp only[ZAO,ZAD];have hn:((h1==0)&&(h2==0))=zM (h1,h2):=rfl;rw[hn];have tail:∀b0,(bif b0 then some false else(jW bB (b0,(x1,(x2,(x3,(h1,(h2,(d,(sz,(bs,(es,(mo,fr))))))))))) (0,(x1,(x2,(x3,(h1,(h2,(d,(sz,(bs,(es,(mo,fr)))))))))))).bind fun o4=>
    match o4 with
    |.inl s=>
     bif (decide (((s.2.2.2.2.2.2.2.1.length:Nat):Int)<=4096)) then
      some (decide (((s.2.2.2.2.2.2.2.2.1.length:Nat):Int)<=100))
     else
      some false
    |.inr o5=>
     some o5)=some (!b0&&(es.all mP&&(decide (bs.length<=4096)&&decide (es.length<=100)))):=by
    intro b0;cases b0 with
    |true=>rfl
    |false=>
     simp only[ZAD,ZAo,ZBT];rw[v1Z (by omega)];simp only[ZAA];cases es.all mP with
     |false=>rfl
     |true=>
      simp only[ZCq,ZBT]
      grind[ZAK,ZAE]
   have mid:∀z:Bool,(bif decide (sz<0) then some (true,(x1,(x2,(x3,(h1,(h2,(d,(sz,(bs,(es,(mo,fr))))))))))) else bif decide (sz>65536) then some (true,(x1,(x2,(x3,(h1,(h2,(d,(sz,(bs,(es,(mo,fr))))))))))) else bif decide (fr<0) then some (true,(x1,(x2,(x3,(h1,(h2,(d,(sz,(bs,(es,(mo,fr))))))))))) else some (decide (fr>1099511627776),(x1,(x2,(x3,(h1,(h2,(d,(sz,(bs,(es,(mo,fr))))))))))))=some (!(decide (0<=sz/\sz<=65536)&&decide (0<=fr/\fr<=1099511627776)),(x1,(x2,(x3,(h1,(h2,(d,(sz,(bs,(es,(mo,fr))))))))))):=by
    intro _;by_cases q1:sz<0
    ·simp_all
    by_cases q2:sz>65536
    ·simp_all
    rw[ZAE q1,ZAE q2,ZAK (show 0<=sz/\sz<=65536 by omega)];by_cases q3:fr<0
    ·simp_all
    by_cases q4:fr>1099511627776
    ·simp_all
    rw[ZAE q3,ZAE q4,ZAK (show 0<=fr/\fr<=1099511627776 by omega)];rfl
   cases hnone:zM (h1,h2) with
   |true=>
    simp only[ZAO,ZAD,Bool.true_or,ZBT];rw[mid true];simp only[ZAA];refine(tail _).trans ?_
    grind
   |false=>
    simp only[ZAo,ZAM,Bool.false_or];rw[nTZ];simp only[ZAA];cases kF (h1,h2) with
    |false=>rfl
    |true=>
     simp only[ZAO,ZAD,ZBT];rw[mid true];simp only[ZAA];refine(tail _).trans ?_;simp only[Bool.not_not,ZCX]
  ·rw[ZAL e3,ZAa.2 e3];simp only[ZAo,ZAM];have hn:((h1==0)&&(h2==0))=zM (h1,h2):=rfl;rw[hn,w64 ⟨by omega,by omega⟩];have hl:((((bs.length:Nat):Int)+((es.length:Nat):Int))==0)=decide (bs=[]/\es=[]):=by
    by_cases q:bs=[]/\es=[]
    ·obtain⟨rfl,rfl⟩:=q
     rfl
    ·rw[ZAE q,ZAa];intro hc;apply q;exact⟨ZAY (by omega),ZAY (by omega)⟩
   rw[hl];cases zM (h1,h2)<;>cases d<;>cases mo<;>cases(sz==0)<;>cases(fr==0)<;>rfl
theorem orK{α:Type}(a b)(S:α):(bif a then some (true,S) else some (b,S))=some (a||b,S):=by grind
theorem andK2(a b):(bif a then some b else some false)=some (a&&b):=by grind
end Go.Ab.D
namespace Go.Ab
def zY{α σ ο:Type}(step:Nat->σ->α->σ⊕ο)(fin:σ->ο):Nat->σ->List α->ο
 |_,a,[]=>fin a
 |k,a,x::l=>match step k a x with
  |.inl a'=>zY step fin (k+1) a' l
  |.inr o=>o
section
variable {α σ τ ο : Type}
theorem l3Z(l:List α)(f)(S:Nat->σ->τ)(step)(fin:σ->ο)(I:Nat->σ->Prop)(hl:l.length<4611686018427387904)
 (hs:∀k x a,l[k]? =some x->I k a->f (S k a)=some (match step k a x with|.inl a'=>.inl (S (k+1) a')|.inr o=>.inr o)/\∀a',step k a x= .inl a'->I (k+1) a')
 (he:∀a,I l.length a->f (S l.length a)=some (.inr (fin a)))(k0)(hk:k0<=l.length)(a0)(h0:I k0 a0):iter bB f (S k0 a0)=some (zY step fin k0 a0 (l.drop k0)):=by
 have main:∀(n m k:Nat) (a:σ),k+n=l.length->n<m->I k a->iter m f (S k a)=some (zY step fin k a (l.drop k)):=by
  intro n;induction n with
  |zero=>
   intro m k a hk hm hi;obtain rfl:k=l.length:=by omega
   obtain⟨m,rfl⟩:∃q,m=q+1:=⟨m-1,by omega⟩;rw[cvZ (he a hi),List.drop_length]
   rfl
  |succ n ih=>
   intro m k a hk hm hi;have hkl:k<l.length:=by omega
   obtain⟨m,rfl⟩:∃q,m=q+1:=⟨m-1,by omega⟩;obtain⟨h1,h2⟩:=hs k _ a (ZAB hkl) hi;rw[ZBW hkl];show _=some (match step k a l[k] with|.inl a'=>zY step fin (k+1) a' (l.drop (k+1))|.inr o=>o);cases hq:step k a l[k] with
   |inl a'=>
    rw[hq] at h1;rw[dJZ h1];exact ih m (k+1) a' (by omega) (by omega) (h2 a' hq)
   |inr o=>
    rw[hq] at h1;rw[cvZ h1]
 exact main (l.length-k0) bB k0 a0 (by omega) (by unfold bB;omega) h0
theorem nBZ(l)(f)(S:Nat->σ->τ)(step:Nat->σ->α->σ⊕ο)(fin)(I:Nat->σ->Prop)(hl:l.length<4611686018427387904)
 (hs:∀k x a,l[k]? =some x->I k a->f (S k a)=some (match step k a x with|.inl a'=>.inl (S (k+1) a')|.inr o=>.inr o)/\∀a',step k a x= .inl a'->I (k+1) a')
 (he:∀a,I l.length a->f (S l.length a)=some (.inr (fin a)))(a0)(h0:I 0 a0):iter bB f (S 0 a0)=some (zY step fin 0 a0 l):=
 l3Z l f S step fin I hl hs he 0 (ZBF _) a0 h0
theorem qYZ(f)(n N)(hn:n<=N)(hN:N<=1000000000000)
 (hs:∀i j:Nat,i<j->j<=N->f ((i:Int),(j:Int))=some (.inl (if(i+j)/2<n then((((i+j)/2+1:Nat):Int),(j:Int)) else((i:Int),(((i+j)/2:Nat):Int)))))
 (he:∀i:Nat,f ((i:Int),(i:Int))=some (.inr (i:Int))):iter bB f (0,(N:Int))=some (n:Int):=by
 have:=aAZ (f:=f) (fun m s=>∃i j:Nat,s=((i:Int),(j:Int))/\i<=n/\n<=j/\j<=N/\j-i<=m) (fun o=>o=(n:Int)) (fun m s hI=> ?_) (fun s hI=> ?_) N (0,(N:Int)) (by omega) ⟨0,N,rfl,by omega,hn,by omega,by omega⟩
 ·let⟨o,h1,h2⟩:=this;rw[h1,h2]
 ·obtain⟨i,j,rfl,h1,h2,h3,h4⟩:=hI;by_cases hij:i<j
  ·left;rw[hs i j hij h3];by_cases hc:(i+j)/2<n
   ·rw[ZAL hc];exact⟨_,rfl,(i+j)/2+1,j,rfl,by omega,by omega,h3,by omega⟩
   ·rw[ZAJ hc];exact⟨_,rfl,i,(i+j)/2,rfl,by omega,by omega,by omega,by omega⟩
  ·right;obtain rfl:i=j:=by omega
   exact⟨_,he i,by omega⟩
 grind
end
theorem r4Z{i j:Nat}(h:i+j<=4000000000000):wI (Int.fdiv (IntKind.wrap .u64 (wI ((i:Int)+(j:Int)))) 2)=(((i+j)/2:Nat):Int):=by
 grind[w64,wu64,n7Z]
def pre{α:Type}(p:α->Bool):List α->Nat
 |[]=>0
 |x::l=>if p x=true then pre p l+1 else 0
theorem grZ{α}(p):∀l:List α,pre p l<=l.length
 |[]=>ZAN _
 |x::l=>by
  unfold pre;split
  ·have:=grZ p l;simp;omega
  ·omega
theorem qSZ{α}(p):∀(l) (k) (x:α),k<pre p l->l[k]? =some x->p x=true
 |[],k,x,h,hx=>by grind
 |y::l,0,x,h,hx=>by
  grind[pre]
 |y::l,k+1,x,h,hx=>by
  unfold pre at h;split at h
  ·exact qSZ p l k x (by omega) (by simpa using hx)
  ·omega
theorem tLZ{α}(p):∀(l) (x:α),l[pre p l]? =some x->p x=false
 |[],x,hx=>by grind
 |y::l,x,hx=>by
  unfold pre at hx;split at hx
  ·exact tLZ p l x (by simpa using hx)
  ·rename_i hp;simp at hx;subst hx;simpa using hp
theorem soZ{α}(p):∀(l:List α),∀x∈l.take (pre p l),p x=true:=fun l x hx=>by
 grind[ZAT,ZAn,qSZ]
end Go.Ab
namespace Go.Ab.D
open Go Go.Ab
abbrev eO:Type:=Int×(Int×List bX)
abbrev tR:Type:=Int×List eO
theorem ikZ{α}{l:List α}{c}(hc:c=true):(rK l.length fun isNil=>bif isNil then some [] else bO c<|some l)=some l:=by
 subst hc;rw[cCZ (fun h0=>by
  have:=ZAY h0;subst this
  rfl)]
 rfl
theorem tHZ{l}(h:l.length<=1000000000):sB bB l=some l:=ikZ (by grind[aWZ,aqZ])
theorem tEZ{l:List DK}(h:l.length<=1000000000):wU bB l=some l:=ikZ (by grind[aWZ,aqZ])
theorem tIZ{l:List eO}(h:l.length<=1000000000):IH bB l=some l:=ikZ (by grind[aWZ,aqZ])
theorem tJZ{l:List bX}(h:l.length<=1000000000):II bB l=some l:=ikZ (by grind[aWZ,aqZ])
def nB(r:bX):Prop:=r.2.2.2.2.2.2.1.length<=100000/\r.2.2.2.2.2.2.2.1.length<=100000
def HX(k:eO):Prop:=k.2.2.length<=1000/\∀r∈k.2.2,nB r
def vZ(c:tR):Prop:=c.2.length<=1000/\∀k∈c.2,HX k
def gT(r:bX):Int×(Int×(Int×(Int×(Int×(Bool×(Int×(Bool×(Int×(List UInt8×List DK))))))))):=
 (r.1,(r.2.1,(r.2.2.1,(r.2.2.2.1.1,(r.2.2.2.1.2,(r.2.2.2.2.1,(r.2.2.2.2.2.1,(r.2.2.2.2.2.2.2.2.1,(r.2.2.2.2.2.2.2.2.2,(r.2.2.2.2.2.2.1,r.2.2.2.2.2.2.2.1))))))))))
theorem p8Z{r}(h:nB r):KC bB r=some (gT r):=by
 unfold KC;rw[tHZ (by have:=h.1;omega),tEZ (by have:=h.2;omega)]
 rfl
def lC(cl:Int):Int->List bX->Bool
 |_,[]=>true
 |last,r::l=>(r.1==cl)&&(decide (last<r.2.1)&&(cF r&&lC cl r.2.1 l))
def lZ(w:Int)(k:eO):Bool:=decide (0<=k.2.1)&&(decide (k.2.1<=1099511627776)&&(decide (((k.2.2.length:Nat):Int)<=w)&&lC k.1 k.2.1 k.2.2))
def mA(w:Int):Int->List eO->Bool
 |_,[]=>true
 |last,k::l=>decide (last<k.1)&&(decide (k.1<16)&&(lZ w k&&mA w k.1 l))
def gG(c:tR):Bool:=mA c.1 (-1) c.2&&decide (1<=c.1/\c.1<=100)
theorem szZ(r)(last cl gone)(l:List bX)(h:nB r):IR bB r last cl gone l=some (!((r.1==cl)&&(decide (last<r.2.1)&&cF r)),(r.2.1,(cl,(gone,l)))):=by
 unfold IR;have e:=eGZ (r:=r) (by have:=h.1;omega) (by have:=h.2;omega)
 grind
theorem lOZ(cl gone)(l:List bX)(hl:l.length<=1000)(h:∀r∈l,nB r):∃st,uT bB l gone cl gone l=some (!lC cl gone l,st):=by
 unfold uT zA pZ;have:=nBZ l (fun tt:Int×(Int×(Int×(Int×List bX)))=>gM bB l tt.1 tt.2.1 tt.2.2.1 tt.2.2.2.1 tt.2.2.2.2)
  (fun k last=>((k:Int),(last,(cl,(gone,l)))))
  (fun k last r=>if((r.1==cl)&&(decide (last<r.2.1)&&cF r))=true then .inl r.2.1 else .inr (.inr ((k:Int),(r.2.1,(cl,(gone,l))))))
  (fun last=>.inl (last,(cl,(gone,l)))) (fun _ _=>True) (by omega)
  (fun k r last hr _=>by
   have hk:=(ZAC.1 hr).1;refine⟨?_,fun _ _=>trivial⟩;show gM bB l (k:Int) last cl gone l=_;unfold gM;rw[ZAK (by omega),acZ hk];simp only[ZAA,hr];rw[szZ r last cl gone l (h r (ZAI hr)),w64 ⟨by omega,by omega⟩];cases(r.1==cl)&&(decide (last<r.2.1)&&cF r)<;>rfl)
  (fun last _=>by
   show gM bB l ((l.length:Nat):Int) last cl gone l=_;unfold gM;rw[ZAE (by omega)]
   rfl) gone trivial
 have this':iter bB (fun tt:Int×(Int×(Int×(Int×List bX)))=>gM bB l tt.1 tt.2.1 tt.2.2.1 tt.2.2.2.1 tt.2.2.2.2) (0,(gone,(cl,(gone,l))))=_:=this;rw[this'];have g:∀(m) (k) (last),(∃s,zY (fun k last r=>if((r.1==cl)&&(decide (last<r.2.1)&&cF r))=true then .inl r.2.1 else .inr (.inr ((k:Int),(r.2.1,(cl,(gone,l)))))) (fun last=>(.inl (last,(cl,(gone,l))):(Int×(Int×(Int×List bX)))⊕(Int×(Int×(Int×(Int×List bX)))))) k last m= .inl s/\lC cl last m=true)\/∃(n:Nat) (s:_),zY (fun k last r=>if((r.1==cl)&&(decide (last<r.2.1)&&cF r))=true then .inl r.2.1 else .inr (.inr ((k:Int),(r.2.1,(cl,(gone,l)))))) (fun last=>(.inl (last,(cl,(gone,l))):(Int×(Int×(Int×List bX)))⊕(Int×(Int×(Int×(Int×List bX)))))) k last m= .inr ((n:Int),s)/\lC cl last m=false:=by
  intro m;induction m with
  |nil=>intro k last;exact .inl ⟨_,rfl,rfl⟩
  |cons r m ih=>
   intro k last;unfold zY lC;by_cases q:((r.1==cl)&&(decide (last<r.2.1)&&cF r))=true
   ·simp only[q];simp only[ZAF] at q;simp only[q.1,q.2.1,q.2.2];exact ih (k+1) r.2.1
   ·simp only[q];refine .inr ⟨k,_,rfl,?_⟩;rw[<-Bool.and_assoc,<-Bool.and_assoc,ZCX (r.1==cl)];simp only[q,Bool.false_and]
 rcases g l 0 gone with⟨s,h1,h2⟩|⟨n,s,h1,h2⟩
 ·rw[h1,h2];exact⟨_,rfl⟩
 ·rw[h1,h2];simp only[ZAA];rw[ZAK (show(n:Int)>=0 by omega)];exact⟨_,rfl⟩
theorem upZ(k)(w)(h:HX k):RQ bB k w=some (lZ w k):=by
 unfold RQ lZ
 let⟨st,hst⟩:=lOZ k.1 k.2.1 k.2.2 h.1 h.2<;>grind
theorem juZ(c)(h:vZ c):JX bB c=some (gG c):=by
 let⟨w,ks⟩:=c
 unfold JX zB gG;have:=nBZ ks (fun tt:Int×(Int×(Int×List eO))=>oO bB (w,ks) tt.1 tt.2.1 tt.2.2.1 tt.2.2.2)
  (fun k last=>(last,((k:Int),(w,ks))))
  (fun _ last k=>if(decide (last<k.1)&&(decide (k.1<16)&&lZ w k))=true then .inl k.1 else .inr (.inr false))
  (fun _=>.inl (w,ks)) (fun _ _=>True) (by have:=h.1;simp at this;omega)
  (fun n k last hk _=>by
   have hn:=(ZAC.1 hk).1;have h1:=h.1;simp at h1;refine⟨?_,fun _ _=>trivial⟩;show oO bB (w,ks) last (n:Int) w ks=_;unfold oO;simp only;rw[ZAK (by omega),acZ hn];simp only[ZAA,hk];have e:=upZ k w (h.2 k (ZAI hk));rw[e,w64 ⟨by omega,by omega⟩];simp only[ZAA];by_cases q1:last<k.1
   ·by_cases q2:k.1<16
    ·rw[ZAK q1,ZAK q2,ZAE (show¬k.1<=last by omega),ZAE (show¬k.1>=16 by omega)];cases lZ w k<;>rfl
    ·rw[ZAK q1,ZAE q2,ZAE (show¬k.1<=last by omega),ZAK (show k.1>=16 by omega)]
     rfl
   ·rw[ZAE q1,ZAK (show k.1<=last by omega)]
    rfl)
  (fun last _=>by
   show oO bB (w,ks) last ((ks.length:Nat):Int) w ks=_;unfold oO;simp only;rw[ZAE (by omega)]
   rfl) (-1) trivial
 have this':iter bB (fun tt:Int×(Int×(Int×List eO))=>oO bB (w,ks) tt.1 tt.2.1 tt.2.2.1 tt.2.2.2) (-1,(0,(w,ks)))=_:=this;simp only;rw[this'];have g:∀(m) (k) (last),zY (fun _ last k=>if(decide (last<k.1)&&(decide (k.1<16)&&lZ w k))=true then .inl k.1 else .inr (.inr false)) (fun _=>(.inl (w,ks):(Int×List eO)⊕Bool)) k last m=if mA w last m=true then .inl (w,ks) else .inr false:=by
  intro m;induction m with
  |nil=>intro k last;rfl
  |cons x m ih=>
   intro k last;unfold zY mA;by_cases q:(decide (last<x.1)&&(decide (x.1<16)&&lZ w x))=true
   ·simp only[q,ZCq];simp only[ZAF] at q;simp only[q.1,q.2.1,q.2.2,ZBT];exact ih (k+1) x.1
   ·simp only[q];rw[<-Bool.and_assoc,<-Bool.and_assoc,ZCX (decide (last<x.1))];simp only[q,Bool.false_and]
    rfl
 grind
section
variable {α : Type} {key : α → Int}
theorem j5Z{l}(hs:(l.map key).Pairwise (·<·))(x):∀(i) (a),l[i]? =some a->(key a<x↔i<pre (fun a=>decide (key a<x)) l):=by
 intro i a ha;constructor
 ·grind[tLZ,ZAB,ZCt,ZBs]
 ·intro h;exact of_decide_eq_true (qSZ _ l i a h ha)
theorem ixZ{l}(hs:(l.map key).Pairwise (·<·))(x):(match l[pre (fun a=>decide (key a<x)) l]? with|some a=>if key a=x then some a else none|none=>none)=l.find? (fun a=>key a==x):=by
 induction l with
 |nil=>rfl
 |cons b l ih=>
  simp[ZA4] at hs;unfold pre
  grind
end
theorem g6Z{cl}:∀{l} {last},lC cl last l=true↔(l.map (·.2.1)).Pairwise (·<·)/\∀r∈l,r.1=cl/\last<r.2.1/\cF r=true
 |[],last=>by simp[lC]
 |r::l,last=>by
  unfold lC;simp only[ZAF,g6Z,ZCw,ZA4,ZBf]
  grind
theorem fxZ{w}:∀{l} {last},mA w last l=true↔(l.map (·.1)).Pairwise (·<·)/\∀k∈l,last<k.1/\k.1<16/\lZ w k=true
 |[],last=>by simp[mA]
 |k::l,last=>by
  unfold mA;simp[fxZ,ZBf]
  grind
theorem caZ{w}{k}:lZ w k=true↔0<=k.2.1/\k.2.1<=1099511627776/\((k.2.2.length:Nat):Int)<=w/\(k.2.2.map (·.2.1)).Pairwise (·<·)/\∀r∈k.2.2,r.1=k.1/\k.2.1<r.2.1/\cF r=true:=by
 simp_all[lZ,g6Z]
theorem b2Z{c}:gG c=true↔(1<=c.1/\c.1<=100)/\(c.2.map (·.1)).Pairwise (·<·)/\∀k∈c.2,0<=k.1/\k.1<16/\lZ c.1 k=true:=by
 unfold gG;simp[fxZ]
 grind
theorem bAZ{r}(h:cF r=true):(0<=r.1/\r.1<16)/\1<=r.2.1/\r.2.1<=1099511627776:=by
 simp_all[cF,oT,ZAq]
theorem bmZ{r}(h:cF r=true):nB r:=by
 unfold cF at h;simp only[ZAF] at h;have h2:=h.2.2;split at h2
 ·simp_all[nB]
 ·grind[nB]
theorem qvZ{l:List Int}(h:l.Pairwise (·<·))(hb:∀x∈l,0<=x/\x<16):l.length<=16:=by
 have h2:∀(l:List Int) (a),l.Pairwise (·<·)->(∀x∈l,a<=x/\x<16)->a<=16->(l.length:Int)<=16-a:=by
  intro l;induction l with
  |nil=>simp_all
  |cons x l ih=>
   intro a hp hb ha;rw[ZA4] at hp;have hx:=hb x (by simp);have:=ih (x+1) hp.2 (fun y hy=>⟨by have:=hp.1 y hy;omega,(hb y (by simp[hy])).2⟩) (by omega)
   grind
 have:=h2 l 0 h hb (by omega);omega
theorem b6Z{c}(h:gG c=true):vZ c:=by
 let⟨h1,h2,h3⟩:=b2Z.1 h
 refine⟨?_,fun k hk=> ?_⟩
 ·have:=qvZ h2 (fun x hx=>by
   obtain⟨k,hk,rfl⟩:=ZBf.1 hx;exact⟨(h3 k hk).1,(h3 k hk).2.1⟩)
  grind
 ·let⟨g1,g2,g3,g4,g5⟩:=caZ.1 (h3 k hk).2.2
  exact⟨by omega,fun r hr=>bmZ (g5 r hr).2.2⟩
def eW(ks:List eO)(x:Int):Nat:=pre (fun k=>decide (k.1<x)) ks
def fY(l:List bX)(x:Int):Nat:=pre (fun r=>decide (r.2.1<x)) l
def kOf(ks:List eO)(x:Int):Option eO:=ks.find? fun k=>k.1==x
def rOf(l:List bX)(x:Int):Option bX:=l.find? fun r=>r.2.1==x
theorem tTZ{w}{ks:List eO}(hl:ks.length<=1000)(hs:(ks.map (·.1)).Pairwise (·<·))(hb:∀k∈ks,0<=k.1/\k.1<16){x}(hx:0<=x/\x<16):
 rof bB (w,ks) x=some (((eW ks x:Nat):Int),(kOf ks x).isSome):=by
 unfold rof tJ nS;have hle:eW ks x<=ks.length:=grZ _ _;have h1:∀k∈ks,NF bB k x=some (k.1-x):=fun k hk=>by
  unfold NF;have:=hb k hk;rw[w64 ⟨by omega,by omega⟩]
 have:=qYZ (fun tt:Int×Int=>gC bB ks x tt.1 tt.2) (eW ks x) ks.length hle (by omega)
  (fun i j hij hj=>by
   show gC bB ks x (i:Int) (j:Int)=_;unfold gC;have hh:(i+j)/2<ks.length:=by omega
   rw[ZAK (show(i:Int)<(j:Int) by omega),r4Z (by omega),acZ hh];simp[ZAB hh];rw[h1 _ (ZBN hh),w64 ⟨by omega,by omega⟩];simp;have hp:=j5Z hs x ((i+j)/2) _ (ZAB hh);by_cases hc:(i+j)/2<eW ks x
   ·have hk:=hp.2 hc;rw[ZAL hc,ZAK (show ks[(i+j)/2].1-x<0 by omega)];simp
   ·have hk:¬ks[(i+j)/2].1<x:=fun h=>hc (hp.1 h);rw[ZAJ hc,ZAE (show¬ks[(i+j)/2].1-x<0 by omega)];simp)
  (fun i=>by
   show gC bB ks x (i:Int) (i:Int)=_;unfold gC;rw[ZAE (by omega)]
   rfl)
 simp only;rw[this];simp only[ZAA];have hf:=ixZ hs x;by_cases hc:eW ks x<ks.length
 ·rw[ZAK (by omega),acZ hc];simp only[ZAM,ZAA,ZAB hc];rw[h1 _ (ZBN hc)];unfold kOf;rw[<-hf];have:ks[pre (fun k=>decide (k.1<x)) ks]? =some ks[eW ks x]:=ZAB hc;rw[this];simp only[ZAA];by_cases he:ks[eW ks x].1=x
  ·rw[ZAL he,ZBp.2 (by omega)];rfl
  ·rw[ZAJ he,ZAa.2 (by omega)];rfl
 grind[ZAE,kOf,pre,ZAd,eW]
theorem hPZ(r:bX)(x):NG bB r x=some (if r.2.1<x then-1 else if r.2.1>x then 1 else 0):=by
 unfold NG
 grind
theorem kzZ{l:List bX}(hl:l.length<=1000)(hs:(l.map (·.2.1)).Pairwise (·<·)){x}:
 nT bB l x=some (((fY l x:Nat):Int),(rOf l x).isSome):=by
 unfold nT oZ;have hle:fY l x<=l.length:=grZ _ _;have:=qYZ (fun tt:Int×Int=>gR bB l x tt.1 tt.2) (fY l x) l.length hle (by omega)
  (fun i j hij hj=>by
   show gR bB l x (i:Int) (j:Int)=_;unfold gR;have hh:(i+j)/2<l.length:=by omega
   rw[ZAK (show(i:Int)<(j:Int) by omega),r4Z (by omega),acZ hh];simp[ZAB hh];rw[hPZ,w64 ⟨by omega,by omega⟩];simp[ZAA];have hp:=j5Z hs x ((i+j)/2) _ (ZAB hh);by_cases hc:(i+j)/2<fY l x
   ·have hk:=hp.2 hc;rw[ZAL hc,ZAL hk];simp
   ·have hk:=fun h=>hc (hp.1 h);rw[ZAJ hc,ZAJ hk];by_cases h2:l[(i+j)/2].2.1>x
    ·rw[ZAL h2];simp
    ·rw[ZAJ h2];simp)
  (fun i=>by
   show gR bB l x (i:Int) (i:Int)=_;unfold gR;rw[ZAE (by omega)]
   rfl)
 rw[this];simp only[ZAA];have hf:=ixZ hs x;by_cases hc:fY l x<l.length
 ·rw[ZAK (by omega),acZ hc];simp only[ZAM,ZAA,ZAB hc];rw[hPZ];unfold rOf;rw[<-hf];have:l[pre (fun k=>decide (k.2.1<x)) l]? =some l[fY l x]:=ZAB hc;rw[this];simp only[ZAA];have hnl:¬l[fY l x].2.1<x:=fun h=>by
   have:=(j5Z hs x (fY l x) _ (ZAB hc)).1 h;unfold fY at this;omega
  by_cases he:l[fY l x].2.1=x
  ·rw[ZAJ hnl,ZAJ (by omega),ZAL he];rfl
  ·rw[ZAJ hnl,ZAL (by omega),ZAJ he];rfl
 grind[ZAE,rOf,pre,ZAd,fY]
theorem rVZ{ks}(hs:(ks.map (·.1)).Pairwise (·<·)){x}{k}(h:kOf ks x=some k):ks[eW ks x]? =some k/\k.1=x:=by
 have hf:=ixZ hs x
 grind[kOf,ZCu,eW,pre]
theorem vLZ{l}(hs:(l.map (·.2.1)).Pairwise (·<·)){x}{r}(h:rOf l x=some r):l[fY l x]? =some r/\r.2.1=x:=by
 have hf:=ixZ hs x
 grind[rOf,ZCu,fY,pre]
def zR:bX:=(0,(0,(0,((0,0),(false,(0,([],([],(false,0)))))))))
def look(c:tR)(client xid:Int):bX×Int:=
 if gG c=true then match kOf c.2 client with
  |none=>(zR,0)
  |some k=>if xid<=k.2.1 then(zR,2) else match rOf k.2.2 xid with
   |some r=>(r,1)
   |none=>(zR,0)
 else(zR,0)
def TK(x:bX×Int):Int×(Int×(Int×(Int×(Int×(Bool×(Int×(List UInt8×(List DK×(Bool×(Int×Int)))))))))):=
 (x.1.1,(x.1.2.1,(x.1.2.2.1,(x.1.2.2.2.1.1,(x.1.2.2.2.1.2,(x.1.2.2.2.2.1,(x.1.2.2.2.2.2.1,(x.1.2.2.2.2.2.2.1,(x.1.2.2.2.2.2.2.2.1,(x.1.2.2.2.2.2.2.2.2.1,(x.1.2.2.2.2.2.2.2.2.2,x.2)))))))))))
theorem rtZ(c)(h:vZ c)(client xid):NH bB c client xid=some (TK (look c client xid)):=by
 let⟨w,ks⟩:=c
 unfold NH Pa Pb Pd Pe Pf Pg Ph Pi PA PI;simp only;rw[juZ (w,ks) h];simp only[ZAA];unfold look;cases hr:gG (w,ks) with
 |false=>rfl
 |true=>
  let⟨h1,h2,h3⟩:=b2Z.1 hr
  simp only at h1 h2 h3;have hb:∀k∈ks,0<=k.1/\k.1<16:=fun k hk=>⟨(h3 k hk).1,(h3 k hk).2.1⟩;have hnone:¬(0<=client/\client<16)->kOf ks client=none:=fun hn=>ZBv.2 fun k hk=>by
   have:=hb k hk;simp;omega
  simp only[ZCq];by_cases q1:client>=0
  ·by_cases q2:client<16
   ·rw[ZAK q1,ZAK q2];simp only[ZAM,ZAA];rw[tTZ h.1 h2 hb ⟨by omega,q2⟩];simp only;cases hk:kOf ks client with
    |none=>rfl
    |some k=>
     let⟨g1,g2⟩:=rVZ h2 hk
     have hlt:=(ZAC.1 g1).1;have hkm:=ZAI g1
     let⟨e1,e2,e3,e4,e5⟩:=caZ.1 (h3 k hkm).2.2
     simp[ZAA];rw[acZ hlt];simp[g1];by_cases q3:xid<=k.2.1
     ·rw[ZAK q3,ZAL q3];rfl
     ·rw[ZAE q3,ZAJ q3];simp;rw[kzZ (h.2 k hkm).1 e4];simp;cases hx:rOf k.2.2 xid with
      |none=>rfl
      |some r=>
       let⟨g3,g4⟩:=vLZ e4 hx
       have hlt2:=(ZAC.1 g3).1;simp only[Option.isSome_some,ZAM];rw[acZ hlt2];simp only[ZAA,g3];rw[p8Z ((h.2 k hkm).2 r (ZAI g3))]
       rfl
   ·rw[ZAK q1,ZAE q2,hnone (by omega)];rfl
  ·rw[ZAE q1,hnone (by omega)];rfl
abbrev vD:Ty:=.pair (.int .i64) (.pair (.int .i64) (.pair (.int .i64) (.pair qY5 (.pair .bool (.pair (.int .i64) (.pair (.sl .byte) (.pair (.sl (.pair .str (.int .i64))) (.pair .bool (.int .i64)))))))))
abbrev TKR:Ty:=.pair (.int .i64) (.pair (.int .i64) (.ref 1 vD))
abbrev KR:Type:=Int×(Int×nW bX)
abbrev DL(rows:List KR)(ms:List (Nat×List bX))(ks:List eO):Prop:=Fam (fun r:KR=>r.2.2) (fun k:eO=>k.2.2) (fun r k=>r.1=k.1/\r.2.1=k.2.1) rows ms ks
theorem tPZ(ms:List (Nat×List bX))(x:nW bX):bU [⟨1,vD,ms⟩] (.ref 1 vD) x=NZ ms x:=by
 rcases x with l|(_|⟨k,o,n⟩)<;>rfl
theorem DL.pure_{rows}{ms}{ks}(h:DL rows ms ks):cJ (bU [⟨1,vD,ms.map bV⟩] TKR) rows=some ks:=
 h.pure (bU [⟨1,vD,ms.map bV⟩] TKR) fun row k hs hv=>by
  let⟨a,b,x⟩:=row
  let⟨a',b',l⟩:=k
  obtain⟨rfl,rfl⟩:=hs;show((some a).bind fun y=>(((some b).bind fun y=>(bU [⟨1,vD,ms.map bV⟩] (.ref 1 vD) x).map fun z=>(y,z)).map fun z=>(y,z)))=_;rw[tPZ,hv]
  rfl
theorem ownL{l:List bX}{k}{r}(h:l[k]? =some r):l.set k ((gT r).1,((gT r).2.1,((gT r).2.2.1,(((gT r).2.2.2.1,(gT r).2.2.2.2.1),((gT r).2.2.2.2.2.1,((gT r).2.2.2.2.2.2.1,((gT r).2.2.2.2.2.2.2.2.2.1,((gT r).2.2.2.2.2.2.2.2.2.2,((gT r).2.2.2.2.2.2.2.1,(gT r).2.2.2.2.2.2.2.2.1)))))))))=l:=by
 let⟨hk,hr⟩:=ZAC.1 h
 have:(((gT r).1,((gT r).2.1,((gT r).2.2.1,(((gT r).2.2.2.1,(gT r).2.2.2.2.1),((gT r).2.2.2.2.2.1,((gT r).2.2.2.2.2.2.1,((gT r).2.2.2.2.2.2.2.2.2.1,((gT r).2.2.2.2.2.2.2.2.2.2,((gT r).2.2.2.2.2.2.2.1,(gT r).2.2.2.2.2.2.2.2.1))))))))):bX)=l[k]:=by rw[hr];rfl
 grind[ZCc]
theorem d1Z{α:Type}{l:List α}{k}{x}(h:l[k]? =some x):l.set k x=l:=by
 grind[ZAC,ZCc]
theorem vkZ{rows:List KR}{ms:List (Nat×List bX)}{q j:Nat}{a b}{l}(hr:rows[q]? =some (a,(b,.inr (some (j,(0,l.length))))))(hm:ms[j]? =some (1,l))(hl:l.length<=1000)(hs:∀r∈l,nB r)(h h2):
 tN bB (a,(b,.inr (some (j,(0,l.length))))) (q,(0,(h,(rows,(h2,ms)))))=some (h,(rows,(h2,ms))):=by
 unfold tN;have:=alZ (f:=fun tt:Nat×(Int×(Int×(List KR×(Int×List (Nat×List bX)))))=>rE bB (a,(b,.inr (some (j,(0,l.length))))) tt.1 tt.2.1 tt.2.2.1 tt.2.2.2.1 tt.2.2.2.2.1 tt.2.2.2.2.2) (o:=(h,(rows,(h2,ms)))) (fun k=>(q,((k:Int),(h,(rows,(h2,ms)))))) l.length (by omega) (fun k hk=>by
  show rE bB _ q (k:Int) h rows h2 ms=_;unfold rE;have e0:fQ (s:=vD) (.inr (some (j,(0,l.length))))=l.length:=rfl;have hx:l[k]? =some l[k]:=ZAB hk;simp only[e0];rw[ZAK (show(k:Int)<((l.length:Nat):Int) by omega)];simp only[ZAM,hr,ZAA,wR];rw[acZ hk];simp only[ZAA,hm,ZAz,hx];rw[adZ (by rfl),p8Z (hs _ (ZBN hk))];simp only[ZAA,hx];rw[adZ (by rfl),w64 ⟨by omega,by omega⟩];rw[ownL hx,d1Z hm]
  rfl) (by
  show rE bB _ q ((l.length:Nat):Int) h rows h2 ms=_;unfold rE;have e0:fQ (s:=vD) (.inr (some (j,(0,l.length))))=l.length:=rfl;simp only[e0];rw[ZAE (by omega)]
  rfl)
 omega
theorem qsZ(c)(h:vZ c):∃rows ms,SM bB c=some (c.1,(rows,ms))/\DL rows ms c.2:=by
 let⟨w,ks⟩:=c
 have hn:=h.1;simp at hn;unfold SM;simp;rw[tIZ (by omega)];have h0:∀(i:Nat) (k),ks[i]? =some k->(List.map (dE TKR) ((ks)))[i]? =some ((k.1,(k.2.1,.inl k.2.2)):KR):=fun i k hg=>by
  show(List.map (dE TKR) (show List (TKR.unref.den) from ks))[i]? =some (dE TKR k);rw[ZAV];show(((ks))[i]?).map _=_;rw[hg]
  rfl
 have loop:∃o,tO bB ks (0,(w,((List.map (dE TKR) ((ks))),(0,[]))))=some o/\∃rows ms,o=(w,(rows,(0,ms)))/\DL rows ms ks:=by
  unfold tO;refine aAZ (fun m s=>∃(n:Nat) (rows:List KR) (ms:List (Nat×List bX)),s=((n:Int),(w,(rows,(0,ms))))/\n+m=ks.length/\rows.length=ks.length/\ms.length=n/\∀(i) k,ks[i]? =some k->(i<n->rows[i]? =some (k.1,(k.2.1,.inr (some (i,(0,k.2.2.length)))))/\ms[i]? =some (1,k.2.2))/\(n<=i->rows[i]? =some (k.1,(k.2.1,.inl k.2.2)))) _ (fun m s hI=> ?_) (fun s hI=> ?_) ks.length _ (by omega) ⟨0,_,[],rfl,by omega,ZAp _,rfl,fun i k hg=>⟨fun hc=>absurd hc (ZBh _),fun _=>h0 i k hg⟩⟩
  ·obtain⟨n,rows,ms,rfl,hk,g1,g2,g3⟩:=hI;have hlt:n<ks.length:=by omega
   obtain⟨k,hg⟩:∃k,ks[n]? =some k:=⟨_,ZAB hlt⟩;have hrow:=(g3 n k hg).2 (ZAN _);have hsm:=h.2 k (ZAI hg);left;refine⟨(((n+1:Nat):Int),(w,(rows.set n (k.1,(k.2.1,.inr (some (n,(0,k.2.2.length))))),(0,ms++[(1,k.2.2)])))),?_,n+1,_,_,rfl,by omega,by rw[ZAt];exact g1,by simp[g2],fun i k' hg'=>⟨fun hi=> ?_,fun hi=> ?_⟩⟩
   ·unfold DE;simp only;rw[ZAK (show(n:Int)<((ks.length:Nat):Int) by omega),acZ (by omega)];simp[hrow];rw[show nG (.ref 1 vD) (.inl k.2.2)=some k.2.2 from rfl];erw[ZAA];rw[tJZ (by have:=hsm.1;omega)];simp[ZAA,g2];rw[ZAR (by omega)];simp only[ZAA];rw[vkZ (ZAR (by omega)) (by rw[ZAU (by omega),g2,ZBr];rfl) hsm.1 hsm.2,w64 ⟨by omega,by omega⟩]
    rfl
   ·by_cases hin:i=n
    ·subst hin;rw[hg] at hg';cases hg';exact⟨ZAR (by omega),by rw[ZAU (by omega),g2,ZBr];rfl⟩
    ·have:=(g3 i k' hg').1 (by omega);rw[ZAX (by omega),ZAS (by omega)];exact this
   ·rw[ZAX (by omega)];exact(g3 i k' hg').2 (by omega)
  ·obtain⟨n,rows,ms,rfl,hk,g1,g2,g3⟩:=hI;have:n=ks.length:=by omega
   subst this;refine⟨(w,(rows,(0,ms))),?_,rows,ms,rfl,g1,fun i row k hr hk=> ?_,fun i i' row row' j p p' hii hr hr' hj hj'=> ?_⟩
   ·unfold DE;simp only;rw[ZAE (by omega)]
    rfl
   ·let⟨e1,e2⟩:=(g3 i k hk).1 (ZAC.1 hk).1
    rw[e1] at hr;cases hr;exact⟨⟨rfl,rfl⟩,.inr ⟨i,rfl,e2⟩⟩
   ·have q:∀(i) (row) (p),rows[i]? =some row->row.2.2= .inr (some (j,p))->j=i:=fun i row p hr hj=>by
     have hi:=(ZAC.1 hr).1;have hg:=ZAB (show i<ks.length by omega)
     let⟨e1,_⟩:=(g3 i _ hg).1 (by omega)
     rw[e1] at hr;cases hr;injection hj with hj;injection hj with hj;injection hj with hj;exact hj.symm
    have:=q i row p hr hj;have:=q i' row' p' hr' hj';omega
 grind
def tS(w:Int)(k:eO)(r:bX):eO:=
 let l:=k.2.2.take (fY k.2.2 r.2.1)++[r]++k.2.2.drop (fY k.2.2 r.2.1)
 if((l.length:Nat):Int)>w then(k.1,((match l[0]? with|some x=>x.2.1|none=>0),l.drop 1)) else(k.1,(k.2.1,l))
def gU(ks:List eO)(cl:Int):List eO:=if(kOf ks cl).isSome=true then ks else ks.take (eW ks cl)++[(cl,(0,[]))]++ks.drop (eW ks cl)
def fZ(ks:List eO)(cl:Int):eO:=(kOf ks cl).getD (cl,(0,[]))
def iC(w:Int)(ks:List eO)(r:bX):List eO:=(gU ks r.1).set (eW ks r.1) (tS w (fZ ks r.1) r)
def put(c:tR)(r:bX):tR×Int:=if gG c=true/\cF r=true/\(look c r.1 r.2.1).2=0 then((c.1,iC c.1 c.2 r),0) else(c,2)
def putO(x:tR×Int):Int×(List eO×Int):=(x.1.1,(x.1.2,x.2))
theorem uCZ{i}{l:List KR}{x:KR}{ms:List (Nat×List bX)}(hi:i<=l.length)(hl:l.length<=1000):IV bB (i:Int) l [x] ms=some ([x],(l.take i++[x]++l.drop i,ms)):=by
 unfold IV;rw[aBZ hi,ZAA];rw[aWZ (by grind[aqZ]),aWZ (by grind[aqZ])]
 rfl
theorem vtZ{i}{l:List bX}{x:bX}(hi:i<=l.length)(hl:l.length<=1000):IW bB (i:Int) l [x]=some ([x],l.take i++[x]++l.drop i):=by
 unfold IW;rw[aBZ hi,ZAA];rw[aWZ (by grind[aqZ]),aWZ (by grind[aqZ])]
 rfl
theorem vmZ{l:List bX}(hl:0<l.length):SO bB 0 1 l=some (l.drop 1):=by
 unfold SO;rw[b0Z (by omega) (by omega),ZAA,b0Z (by omega) (by simp),ZAA]
 rfl
theorem ownR(r):(((gT r).1,((gT r).2.1,((gT r).2.2.1,(((gT r).2.2.2.1,(gT r).2.2.2.2.1),((gT r).2.2.2.2.2.1,((gT r).2.2.2.2.2.2.1,((gT r).2.2.2.2.2.2.2.2.2.1,((gT r).2.2.2.2.2.2.2.2.2.2,((gT r).2.2.2.2.2.2.2.1,(gT r).2.2.2.2.2.2.2.2.1))))))))):bX)=r:=rfl
theorem ktZ(c)(cl x):(TK (look c cl x)).2.2.2.2.2.2.2.2.2.2.2=(look c cl x).2:=rfl
theorem qHZ(c)(R)(h:vZ c)(hr:nB R):SQ bB c R=some (putO (put c R)):=by
 obtain⟨w,ks⟩:=c;obtain⟨rows,ms,hc,hF⟩:=qsZ (w,ks) h;simp only at hc hF;unfold SQ Pa Pb Pc Pd Pe Pf Pg Ph Pi Pj Pk Pl Pm Pn Po Pp PA PH PI PJ PO PP;simp only;rw[hc,ZAA,juZ (w,ks) h];simp only[ZAA];have hrr:=
  eGZ (r:=R) (by have:=hr.1;omega) (by have:=hr.2;omega)
 have hown:=p8Z hr;have hp:=hF.pure_;have hn:=h.1;simp only at hn;unfold put;cases hc1:gG (w,ks) with
 |false=>
  simp only[ZAo,ZAM,ZAA];rw[hp]
  rfl
 |true=>
  simp only[ZAO,ZAD];rw[hrr];simp only[ZAA];cases hc2:cF R with
  |false=>
   simp only[ZAo,ZAM,ZAA];rw[hp]
   rfl
  |true=>
   simp only[ZAO,ZAD,ZAA];rw[rtZ (w,ks) h R.1 R.2.1];simp only[ZAA,ktZ];by_cases hlk:(look (w,ks) R.1 R.2.1).2=0
   ·simp only[hlk,ZAb,ZAO,ZAD];rw[hp];erw[ZAA];obtain⟨g1,g2,g3⟩:=b2Z.1 hc1;simp only at g1 g2 g3;have hwho:=(bAZ hc2).1;have hb:∀k∈ks,0<=k.1/\k.1<16:=fun k hk=>⟨(g3 k hk).1,(g3 k hk).2.1⟩;rw[tTZ hn g2 hb hwho];simp only[ZAA];have hat:eW ks R.1<=ks.length:=grZ _ _;have hlen:=hF.len;refine uQZ (fun z=>z=some _) (fun o=>∃rows1 ms1,o=(w,(ks,(R.1,(R.2.1,(R.2.2.1,(R.2.2.2.1.1,(R.2.2.2.1.2,(R.2.2.2.2.1,(R.2.2.2.2.2.1,(R.2.2.2.2.2.2.1,(R.2.2.2.2.2.2.2.1,(R.2.2.2.2.2.2.2.2.1,(R.2.2.2.2.2.2.2.2.2,(0,(w,(rows1,ms1))))))))))))))))/\DL rows1 ms1 (gU ks R.1)/\(gU ks R.1)[eW ks R.1]? =some (fZ ks R.1)/\(fZ ks R.1).2.2.length<=1000/\((fZ ks R.1).2.2.map (·.2.1)).Pairwise (·<·)) ?_ (fun o ho=> ?_)
    ·unfold gU fZ;cases hk:kOf ks R.1 with
     |none=>
      simp only[Option.isSome_none,ZAo,ZAM,ZBK,ZCl,Option.getD_none];rw[uCZ (by omega) (by omega)];refine⟨_,rfl,_,_,rfl,hF.insert (by omega) ⟨rfl,rfl⟩ rfl rfl,?_,by simp,by simp⟩;have e1:(ks.take (eW ks R.1)).length=eW ks R.1:=by rw[ZAQ];omega
      rw[ZAx,ZAU (by omega),e1,ZBr]
      rfl
     |some k=>
      simp only[Option.isSome_some,ZAO,ZAD,ZCq,ZCB];obtain⟨q1,q2⟩:=rVZ g2 hk;have hkm:=ZAI q1;have hkb:=caZ.1 (g3 k hkm).2.2;exact⟨_,rfl,_,_,rfl,hF,q1,(h.2 k hkm).1,hkb.2.2.2.1⟩
    obtain⟨rows1,ms1,rfl,hF1,hq,hl1,hs1⟩:=ho;simp only;obtain⟨row,hrow,hsame,hpart⟩:=hF1.row hq;have hqr:=(ZAC.1 hrow).1;rw[acZ hqr];simp only[ZAA,hrow];rw[tPZ,hpart.view];erw[ZAA];rw[kzZ hl1 hs1];simp only[ZAA];rw[hown];simp only[ZAA];obtain⟨ms2,ho2,hm2,hF2⟩:=hF1.open_ hrow hq;rw[ho2];simp only[ZAA];rw[ownR,vtZ (i:=fY (fZ ks R.1).2.2 R.2.1) (grZ _ _) hl1];simp only[ZAA];rw[ZAR hqr];simp only[ZAA];generalize hL:(fZ ks R.1).2.2.take (fY (fZ ks R.1).2.2 R.2.1)++[R]++(fZ ks R.1).2.2.drop (fY (fZ ks R.1).2.2 R.2.1)=L;have hLp:0<L.length:=by rw[<-hL];simp;omega
    have e0:fQ (s:=vD) (.inr (some (ms2.length,(0,L.length))))=L.length:=rfl;simp only[e0];have hrow1:=hsame.1;have hrow2:=hsame.2;have hgoal:∀K,tS w (fZ ks R.1) R=K->some (w,((gU ks R.1).set (eW ks R.1) K,(0:Int)))=some (putO (if true=true/\true=true/\(0:Int)=0 then((w,iC w ks R),(0:Int)) else((w,ks),2))):=fun K hK=>by
     rw[ZAL ⟨rfl,rfl,rfl⟩,<-hK]
     rfl
    by_cases hw:((L.length:Nat):Int)>w
    ·rw[ZAK hw];simp only[ZAM];have hx0:=ZAB hLp;have hF3:=hF2 (row.1,(row.2.1,.inr (some (ms2.length,(0,L.length))))) (row.1,(row.2.1,L)) ⟨rfl,rfl⟩ rfl;have hq3:(rows1.set (eW ks R.1) (row.1,(row.2.1,.inr (some (ms2.length,(0,L.length))))))[eW ks R.1]? =some (row.1,(row.2.1,.inr (some (ms2.length,(0,L.length))))):=ZAR hqr;have hk3:((gU ks R.1).set (eW ks R.1) (row.1,(row.2.1,L)))[eW ks R.1]? =some (row.1,(row.2.1,L)):=ZAR (by have:=(ZAC.1 hq).1;omega);simp only[wR,ZAA];rw[a0Z (by omega) (by omega)];simp only[ZAA,Int.toNat_zero,ZCb];have hm3:(ms2++[(1,L)])[ms2.length]? =some (1,L):=by rw[ZAU (by omega),ZBr];rfl
     rw[hm3];simp only[ZAA];rw[adZ (by rfl)];simp only[hx0,ZAA];have hF4:=hF3.keep hq3 hk3 (row':=(row.1,(L[0].2.1,.inr (some (ms2.length,(0,L.length)))))) (k':=(row.1,(L[0].2.1,L))) ⟨rfl,rfl⟩ rfl rfl;have hq4:((rows1.set (eW ks R.1) (row.1,(row.2.1,.inr (some (ms2.length,(0,L.length)))))).set (eW ks R.1) (row.1,(L[0].2.1,.inr (some (ms2.length,(0,L.length))))))[eW ks R.1]? =some (row.1,(L[0].2.1,.inr (some (ms2.length,(0,L.length))))):=ZAR (by simpa using hqr);have hk4:(((gU ks R.1).set (eW ks R.1) (row.1,(row.2.1,L))).set (eW ks R.1) (row.1,(L[0].2.1,L)))[eW ks R.1]? =some (row.1,(L[0].2.1,L)):=ZAR (by rw[ZAt];have:=(ZAC.1 hq).1;omega);rw[hq4];simp only[ZAA];obtain⟨ms5,ho5,hm5,hF5⟩:=hF4.open_ hq4 hk4;simp only at ho5;rw[ho5];simp only[ZAA];rw[vmZ hLp];simp only[ZAA];have hF6:=hF5 (row.1,(L[0].2.1,.inr (some (ms5.length,(0,(L.drop 1).length))))) (row.1,(L[0].2.1,L.drop 1)) ⟨rfl,rfl⟩ rfl;rw[DL.pure_ hF6];erw[ZAA];simp only[List.set_set];refine hgoal _ ?_;unfold tS;rw[hL];simp only;rw[ZAL hw,hx0,hrow1]
    ·rw[ZAE hw];simp only[ZAD];have hF3:=hF2 (row.1,(row.2.1,.inr (some (ms2.length,(0,L.length))))) (row.1,(row.2.1,L)) ⟨rfl,rfl⟩ rfl;rw[DL.pure_ hF3];erw[ZAA];refine hgoal _ ?_;unfold tS;rw[hL];simp only;rw[ZAJ hw,hrow1,hrow2]
   ·rw[ZAa.2 hlk];simp only[ZAo,ZAM];rw[hp,ZAJ (fun hc=>hlk hc.2.2)]
    rfl
abbrev iN:Type:=Int×List Int
abbrev cS:Type:=Int×(dI×(tR×(List iN×List cV)))
theorem hEZ{t:dI}(h:Fit t.1):LM bB t=some (t.2,t.1):=by
 unfold LM;rw[cQZ h.n];have loop:yL bB t.1 (0,(t.2,(t.1,0)))=some (t.2,(t.1,0)):=by
  refine alZ (fun k=>((k:Int),(t.2,(t.1,0)))) t.1.length (by have:=h.n;omega) (fun k hk=> ?_) ?_
  ·unfold BW Pb Pc Pd Pe PE;obtain⟨n,hg⟩:∃n,t.1[k]? =some n:=⟨_,ZAB hk⟩;have hsm:=h.at hg;have hs:=d9Z hg;simp only[aHZ hk];rw[acZ hk];simp only[ZAA,hg];rw[cBZ hsm.1,dPZ hsm.2];show((bJ ((k:Nat):Int) (t.1.set k n).length).bind fun q3=>((t.1.set k n)[q3]?.bind _))=_;rw[hs,acZ hk,ZAA,hg,w64 (by have:=h.n;omega)];show some (Sum.inl (_,(t.2,(t.1.set k n,0))))=_;rw[hs]
   rfl
  ·unfold BW Pb Pc Pd Pe PE;simp[ZAD]
 simp_all
theorem o3Z{l:List iN}(h:l.length<=1000000000):LN bB l=some l:=ikZ (by grind[aWZ,aqZ])
theorem pPZ{l}(h:l.length<=1000000000):LP bB l=some l:=ikZ (by grind[aWZ,aqZ])
abbrev VA:Type:=Int×(Int×(Int×(List cV×(List Ino×(List KR×(List iN×(Int×(Int×(Int×List (Nat×List bX))))))))))
theorem own0{rows:List KR}{ms:List (Nat×List bX)}{q j:Nat}{a b}{l}(hr:rows[q]? =some (a,(b,.inr (some (j,(0,l.length))))))(hm:ms[j]? =some (1,l))(hl:l.length<=1000)(hs:∀r∈l,nB r)
 (h1 h2 h3)(h4:List cV)(h5:List Ino)(h7:List iN)(h8 h9 h10):
 kJ bB (a,(b,.inr (some (j,(0,l.length))))) (q,(0,(h1,(h2,(h3,(h4,(h5,(rows,(h7,(h8,(h9,(h10,ms))))))))))))=some (h1,(h2,(h3,(h4,(h5,(rows,(h7,(h8,(h9,(h10,ms)))))))))):=by
 unfold kJ;refine alZ (fun k:Nat=>((q,((k:Int),(h1,(h2,(h3,(h4,(h5,(rows,(h7,(h8,(h9,(h10,ms)))))))))))):Nat×(Int×VA))) l.length (by omega) (fun k hk=> ?_) ?_
 ·show iY bB _ q (k:Int) h1 h2 h3 h4 h5 rows h7 h8 h9 h10 ms=_;unfold iY Pa Pc Pd Pe Pf PA PF;have e0:fQ (s:=vD) (.inr (some (j,(0,l.length))))=l.length:=rfl;have hx:l[k]? =some l[k]:=ZAB hk;have hsm:=hs _ (ZBN hk);simp only[e0];rw[ZAK (show(k:Int)<((l.length:Nat):Int) by omega)];simp only[ZAM,hr,ZAA,wR];rw[acZ hk];simp only[ZAA,hm,ZAz,hx];rw[adZ (by rfl),tHZ (by have:=hsm.1;omega)];simp only[ZAA];rw[adZ (by rfl),tEZ (by have:=hsm.2;omega)];simp only[ZAA];rw[adZ (by rfl)];generalize hy:l[k]=y at hx⊢;have es:∀{z:bX},z=y->List.set l k z=l:=fun e=>e▸d1Z hx;have em:∀{z:Nat×List bX},z=(1,l)->List.set ms j z=ms:=fun e=>e▸d1Z hm;rw[show List.set ms j (1,List.set l k (y.1,(y.2.1,(y.2.2.1,(y.2.2.2.1,(y.2.2.2.2.1,(y.2.2.2.2.2.1,(y.2.2.2.2.2.2.1,y.2.2.2.2.2.2.2))))))))=ms from em (by rw[es rfl])];simp only[hm,ZAA];rw[adZ (by rfl)];simp only[hx,ZAA];rw[show List.set ms j (1,List.set l k (y.1,(y.2.1,(y.2.2.1,(y.2.2.2.1,(y.2.2.2.2.1,(y.2.2.2.2.2.1,(y.2.2.2.2.2.2.1,(y.2.2.2.2.2.2.2.1,y.2.2.2.2.2.2.2.2)))))))))=ms from em (by rw[es rfl]),w64 ⟨by omega,by omega⟩]
  rfl
 ·show iY bB _ q ((l.length:Nat):Int) h1 h2 h3 h4 h5 rows h7 h8 h9 h10 ms=_;unfold iY Pa Pc Pd Pe Pf PA PF;have e0:fQ (s:=vD) (.inr (some (j,(0,l.length))))=l.length:=rfl;simp only[e0];rw[ZAE (by omega)]
  rfl
theorem luZ(ks:List eO)(hn:ks.length<=1000)(h:∀k∈ks,HX k)(h1 h2 h3)(h4:List cV)(h5:List Ino)(h7:List iN)(h8 h9 h10):
 ∃rows ms,iG bB ks (0,(h1,(h2,(h3,(h4,(h5,(List.map (dE TKR) (show List (TKR.unref.den) from ks),(h7,(h8,(h9,(h10,[])))))))))))=some (h1,(h2,(h3,(h4,(h5,(rows,(h7,(h8,(h9,(h10,ms))))))))))/\DL rows ms ks:=by
 have h0:∀(i:Nat) (k),ks[i]? =some k->(List.map (dE TKR) ((ks)))[i]? =some ((k.1,(k.2.1,.inl k.2.2)):KR):=fun i k hg=>by
  show(List.map (dE TKR) (show List (TKR.unref.den) from ks))[i]? =some (dE TKR k);rw[ZAV];show(((ks))[i]?).map _=_;rw[hg]
  rfl
 have loop:∃o,iG bB ks (0,(h1,(h2,(h3,(h4,(h5,((List.map (dE TKR) ((ks))),(h7,(h8,(h9,(h10,[])))))))))))=some o/\∃rows ms,o=(h1,(h2,(h3,(h4,(h5,(rows,(h7,(h8,(h9,(h10,ms))))))))))/\DL rows ms ks:=by
  unfold iG;refine aAZ (fun m s=>∃(n:Nat) (rows:List KR) (ms:List (Nat×List bX)),s=((n:Int),(h1,(h2,(h3,(h4,(h5,(rows,(h7,(h8,(h9,(h10,ms)))))))))))/\n+m=ks.length/\rows.length=ks.length/\ms.length=n/\∀(i) k,ks[i]? =some k->(i<n->rows[i]? =some (k.1,(k.2.1,.inr (some (i,(0,k.2.2.length)))))/\ms[i]? =some (1,k.2.2))/\(n<=i->rows[i]? =some (k.1,(k.2.1,.inl k.2.2)))) _ (fun m s hI=> ?_) (fun s hI=> ?_) ks.length _ (by omega) ⟨0,_,[],rfl,by omega,ZAp _,rfl,fun i k hg=>⟨fun hc=>absurd hc (ZBh _),fun _=>h0 i k hg⟩⟩
  ·obtain⟨n,rows,ms,rfl,hk,g1,g2,g3⟩:=hI;have hlt:n<ks.length:=by omega
   obtain⟨k,hg⟩:∃k,ks[n]? =some k:=⟨_,ZAB hlt⟩;have hrow:=(g3 n k hg).2 (ZAN _);have hsm:=h k (ZAI hg);left;refine⟨(((n+1:Nat):Int),(h1,(h2,(h3,(h4,(h5,(rows.set n (k.1,(k.2.1,.inr (some (n,(0,k.2.2.length))))),(h7,(h8,(h9,(h10,ms++[(1,k.2.2)]))))))))))),?_,n+1,_,_,rfl,by omega,by rw[ZAt];exact g1,by simp[g2],fun i k' hg'=>⟨fun hi=> ?_,fun hi=> ?_⟩⟩
   ·unfold oG;simp only;rw[ZAK (show(n:Int)<((ks.length:Nat):Int) by omega),acZ (by omega)];simp only[ZAM,ZAA,hrow];rw[show nG (.ref 1 vD) (.inl k.2.2)=some k.2.2 from rfl];erw[ZAA];rw[tJZ (by have:=hsm.1;omega)];simp only[ZAA,g2];rw[ZAR (by omega)];simp only[ZAA];rw[own0 (ZAR (by omega)) (by rw[ZAU (by omega),g2,ZBr];rfl) hsm.1 hsm.2,w64 ⟨by omega,by omega⟩]
    rfl
   ·by_cases hin:i=n
    ·subst hin;rw[hg] at hg';cases hg';exact⟨ZAR (by omega),by rw[ZAU (by omega),g2,ZBr];rfl⟩
    ·have:=(g3 i k' hg').1 (by omega);rw[ZAX (by omega),ZAS (by omega)];exact this
   ·rw[ZAX (by omega)];exact(g3 i k' hg').2 (by omega)
  ·obtain⟨n,rows,ms,rfl,hk,g1,g2,g3⟩:=hI;have:n=ks.length:=by omega
   subst this;refine⟨(h1,(h2,(h3,(h4,(h5,(rows,(h7,(h8,(h9,(h10,ms)))))))))),?_,rows,ms,rfl,g1,fun i row k hr hk=> ?_,fun i i' row row' j p p' hii hr hr' hj hj'=> ?_⟩
   ·unfold oG;simp only;rw[ZAE (by omega)]
    rfl
   ·obtain⟨e1,e2⟩:=(g3 i k hk).1 (ZAC.1 hk).1;rw[e1] at hr;cases hr;exact⟨⟨rfl,rfl⟩,.inr ⟨i,rfl,e2⟩⟩
   ·have q:∀(i) (row) (p),rows[i]? =some row->row.2.2= .inr (some (j,p))->j=i:=fun i row p hr hj=>by
     have hi:=(ZAC.1 hr).1;have hg:=ZAB (show i<ks.length by omega);obtain⟨e1,_⟩:=(g3 i _ hg).1 (by omega);rw[e1] at hr;cases hr;injection hj with hj;injection hj with hj;injection hj with hj;exact hj.symm
    have:=q i row p hr hj;have:=q i' row' p' hr' hj';omega
 grind
theorem nYZ(pl:List iN)(hn:pl.length<=1000)(h:∀p∈pl,p.2.length<=1000)(h1 h2 h3)(h4:List eO)(h5:List cV)(h6:List Ino)(h8 h9 h10):
 oX bB pl (0,(h1,(h2,(h3,(h4,(h5,(h6,(pl,(h8,(h9,h10))))))))))=some (h1,(h2,(h3,(h4,(h5,(h6,(pl,(h8,(h9,h10))))))))):=by
 refine alZ (fun k:Nat=>((k:Int),(h1,(h2,(h3,(h4,(h5,(h6,(pl,(h8,(h9,h10))))))))))) pl.length (by omega) (fun k hk=> ?_) ?_
 ·show iX bB pl (k:Int) h1 h2 h3 h4 h5 h6 pl h8 h9 h10=_;unfold iX;have hx:=ZAB hk;rw[ZAK (show(k:Int)<((pl.length:Nat):Int) by omega),acZ hk,ZAA,hx,ZAA,pPZ (by have:=h _ (ZBN hk);omega),ZAA,ZAA,hx,ZAA,w64 (by omega)];rw[(d1Z hx)]
  rfl
 show iX bB pl (pl.length:Int) h1 h2 h3 h4 h5 h6 pl h8 h9 h10=_;simp_all[iX,ZAE]
theorem uNZ(s:cS)(hf:Fit s.2.1.1)(hc:vZ s.2.2.1)(hp:s.2.2.2.1.length<=1000/\∀p∈s.2.2.2.1,p.2.length<=1000)(hd:s.2.2.2.2.length<=100000):
 gA bB s=some (s.1,(s.2.1.2,(s.2.2.1.1,(s.2.2.1.2,(s.2.1.1,(s.2.2.2.1,s.2.2.2.2)))))):=by
 let⟨life,t,⟨w,ks⟩,pl,dead⟩:=s
 unfold gA Pb Pc Pd Pe Pf Pg Ph PH PI;rw[hEZ hf,ZAA,o3Z (by omega),ZAA];rw[nYZ pl hp.1 hp.2,ZAA];rw[tIZ (by have:=hc.1;grind),ZAA]
 let⟨rows,ms,ho,hF⟩:=luZ ks hc.1 hc.2 life t.2 w dead t.1 pl 0 0 0
 have ho':=ho;erw[ho'];rw[ZAA];simp;rw[cBZ hd];have hp':=hF.pure_;erw[hp']
 rfl
def dG(x:Ino):Ino:=(x.1,x.2.1,x.2.2.1,x.2.2.2.1,x.2.2.2.2.1,[],x.2.2.2.2.2.2.1,x.2.2.2.2.2.2.2)
def jH(x:Ino):Byt:=List.replicate x.2.2.2.2.1.toNat 0
theorem v9Z{α:Type}{f}{l:List α}{k}{x}(h:l[k]? =some x):((l.take k).map f++l.drop k).set k (f x)=(l.take (k+1)).map f++l.drop (k+1):=by
 obtain⟨hk,rfl⟩:=ZAC.1 h;have e:((l.take k).map f).length=k:=by simp;omega
 rw[List.set_append_right _ _ (by omega),e,ZBr,ZBW hk,aUZ h,ZCR,ZAx]
 rfl
theorem vTZ{α:Type}{f}{l:List α}{k}{x}(h:l[k]? =some x):((l.take k).map f++l.drop k)[k]? =some x:=by
 grind
theorem svZ{T:dI}(hf:Fit T.1)(hs:∀x∈T.1,0<=x.2.2.2.2.1/\x.2.2.2.2.1<=65536)(hn:T.1.length<=1000):KB bB T=some (T.2,(T.1.map dG,T.1.map jH)):=by
 unfold KB;rw[hEZ hf,ZAA];simp;have loop:tI bB (T.2,T.1) (0,(0,(T.2,(T.1,[]))))=some (0,(T.2,(T.1.map dG,T.1.map jH))):=by
  unfold tI;have e:((0:Int),((0:Int),(T.2,(T.1,([]:List Byt)))))=(fun k:Nat=>((k:Int),((0:Int),(T.2,((T.1.take k).map dG++T.1.drop k,(T.1.take k).map jH))))) 0:=by simp
  refine(congrArg (iter bB _) e).trans ?_;refine alZ (fun k:Nat=>((k:Int),((0:Int),(T.2,((T.1.take k).map dG++T.1.drop k,(T.1.take k).map jH))))) T.1.length (by omega) (fun k hk=> ?_) ?_
  ·obtain⟨x,hx⟩:∃x,T.1[k]? =some x:=⟨_,ZAB hk⟩;have hsz:=hs x (ZAI hx);have hlen:((T.1.take k).map dG++T.1.drop k).length=T.1.length:=by simp;omega
   have bR:List.set ((T.1.take k).map dG++T.1.drop k) k (x.1,(x.2.1,(x.2.2.1,(x.2.2.2.1,(x.2.2.2.2.1,([],x.2.2.2.2.2.2))))))=(T.1.take (k+1)).map dG++T.1.drop (k+1):=v9Z hx;have hlen2:((T.1.take (k+1)).map dG++T.1.drop (k+1)).length=T.1.length:=by rw[<-bR,ZAt,hlen]
   have hg:((T.1.take (k+1)).map dG++T.1.drop (k+1))[k]? =some (dG x):=by
    rw[<-bR,ZAR (by rw[hlen];exact hk)];rfl
   show uU bB (T.2,T.1) (k:Int) 0 T.2 ((T.1.take k).map dG++T.1.drop k) ((T.1.take k).map jH)=_;unfold uU;simp only;rw[ZAK (show(k:Int)<((T.1.length:Nat):Int) by omega),hlen,acZ hk,ZAA,vTZ hx,ZAA];rw[bR,hlen2,acZ hk,ZAA,hg,ZAA];rw[show(dG x).2.2.2.2.1=x.2.2.2.2.1 from rfl,b0Z hsz.1 (by rw[aqZ];omega),ZAA,b0Z hsz.1 (by omega),ZAA,adZ (by rw[ZAm,aqZ];omega),adZ (by simp only[ZAF,ZAm,aqZ,ZAp,ZAQ];omega),w64 (by omega),aUZ hx];simp only[ZCR]
   rfl
  ·show uU bB (T.2,T.1) ((T.1.length:Nat):Int) 0 T.2 _ _=_;unfold uU;simp only;rw[ZAE (by omega)];simp
 simp_all
structure VK (P:List cV) (w:Int):Prop where
 n:P.length<=4096
 ok:∀p∈P,eB w p
 nd:(bS P).Nodup
 w:0<=w/\w<=1099511627776
theorem fJZ(a b:Nat):Int.tdiv (a:Int) (b:Int)=((a/b:Nat):Int):=(Int.ofNat_tdiv a b).symm
theorem ipZ{a q:Nat}(ha:a<=1000000)(hq:1<=q/\q<=1000):JY bB (a:Int) (q:Int)=some (((a+q-1)/q:Nat):Int):=by
 unfold JY;have h1:(a+q-1)/q<=a+q-1:=Nat.div_le_self _ _;rw[adZ (by rw[ZAE (by omega)];rfl),w64 (x:=(a:Int)+q) (by omega),w64 (x:=(a:Int)+q-1) (by omega),show(a:Int)+q-1=((a+q-1:Nat):Int) by omega,fJZ];generalize (a+q-1)/q=z at h1⊢;rw[w64 (by omega)]
def pl3:List iN:=[(1,[0,1,2])]
theorem uJZ:QE bB pl3=some true:=by kernel_rfl
def oU(x:Ino)(P:List cV):Ino:=(x.1,x.2.1,x.2.2.1,x.2.2.2.1,x.2.2.2.2.1,P,x.2.2.2.2.2.2.1,x.2.2.2.2.2.2.2)
def dH(l:List Ino)(P:Nat->List cV):List Ino:=l.mapIdx fun i x=>oU x (P i)
theorem bJZ(l)(P):(dH l P).length=l.length:=List.length_mapIdx
theorem bIZ{l}(P){i}{x}(h:l[i]? =some x):(dH l P)[i]? =some (oU x (P i)):=by
 simp_all[dH]
theorem aYZ{l}{P}{i}{y}(h:(dH l P)[i]? =some y):∃x,l[i]? =some x/\y=oU x (P i):=by
 unfold dH at h
 grind
theorem rDZ{l}(P){id}(h:Rch l id):Rch (dH l P) id:=by
 induction h with
 |root=>exact .root
 |step h1 h2 _ ih=>exact .step (bIZ P h1) h2 ih
theorem j3Z{t}(h:bL t){P}{w}(hw:0<=w/\w<=1099511627776)
 (hp:∀(i) x,t.1[i]? =some x->if x.2.2.1=true/\x.2.2.2.1=false then(P i).length<=4096/\∀p∈P i,eB w p else P i=[])
 (hn:(bD (dH t.1 P)).Nodup):bL (dH t.1 P,w):=by
 refine⟨⟨by rw[bJZ];exact h.r.len,hw,fun i y hy=> ?_,hn,?_⟩,fun i y hy s id he=> ?_,fun j y hy hu hj=> ?_,fun j y hy hu=> ?_⟩
 ·obtain⟨x,hx,rfl⟩:=aYZ hy;have o:=h.r.ino i x hx;have q:=hp i x hx;rw[bJZ];refine⟨o.id,o.gen,o.par,fun hu hd=> ?_,fun hu hd=> ?_,fun hu=> ?_⟩
  ·rw[ZAJ (fun z=>by rw[show x.2.2.2.1=true from hd] at z;exact absurd z.2 (by decide))] at q;exact⟨(o.dir hu hd).1,q,(o.dir hu hd).2.2⟩
  ·rw[ZAL ⟨hu,hd⟩] at q;exact⟨(o.file hu hd).1,(o.file hu hd).2.1,q.1,q.2⟩
  ·rw[ZAJ (fun z=>by rw[show x.2.2.1=false from hu] at z;exact absurd z.1 (by decide))] at q
   let⟨a,b,c,_,d⟩:=o.bare hu
   exact⟨a,b,c,q,d⟩
 ·let⟨r,hr,a⟩:=h.r.root
  exact⟨_,bIZ P hr,a⟩
 ·obtain⟨x,hx,rfl⟩:=aYZ hy
  let⟨a,b,z,hz,c⟩:=h.e i x hx s id he
  exact⟨a,b,_,bIZ P hz,c⟩
 ·obtain⟨x,hx,rfl⟩:=aYZ hy
  let⟨n,s,hn',c⟩:=h.u j x hx hu hj
  exact⟨_,s,bIZ P hn',c⟩
 ·obtain⟨x,hx,rfl⟩:=aYZ hy;exact rDZ P (h.a j x hx hu)
theorem vbZ(l):l.map dG=dH l fun _=>[]:=by
 refine ZA9 fun i=> ?_;rw[ZAV];unfold dH;rw[ZBz]
 rfl
theorem gOZ:bS []=[]:=rfl
theorem n5Z{l}(h:∀x∈l,x.2.2.2.2.2.1=[]):bD l=[]:=by
 unfold bD;rw[List.flatMap_eq_nil_iff];intro x hx;rw[h x hx];rfl
theorem q2Z{t}(h:bL t):bL (t.1.map dG,t.2):=by
 rw[vbZ];refine j3Z h h.r.str (fun i x _=>by simp_all) ?_;rw[n5Z]
 ·simp_all
 ·intro y hy
  let⟨i,hi⟩:=ZAT hy
  obtain⟨x,_,rfl⟩:=aYZ hi
  rfl
def bG(t:dI):Mod:=((t.1.map dG,t.2),t.1.map jH)
theorem aZZ{t}(h:bL t):bW (bG t):=by
 refine⟨q2Z h,by simp[bG],fun i y hy=> ?_,fun i y b hy hb=> ?_⟩
 ·simp only[bG,ZAV] at hy;obtain⟨x,_,rfl⟩:=ZAH.1 hy
  rfl
 ·simp only[bG,ZAV] at hy hb;obtain⟨x,hx,rfl⟩:=ZAH.1 hy;rw[hx] at hb;obtain rfl:=ZAg hb;have:=(dxZ h hx).1;simp[jH,dG];omega
theorem fFZ{t}(h:bL t):KB bB t=some ((bG t).1.2,((bG t).1.1,(bG t).2)):=
 svZ h.r.fit (fun x hx=>by
  let⟨i,hi⟩:=ZAT hx
  exact⟨(dxZ h hi).1,(dxZ h hi).2.1⟩) (by have:=h.r.len;omega)
theorem egZ{P}{k}:k∈bS P↔k≠0/\∃p∈P,p.1=k:=by
 unfold bS;rw[ZBf];constructor
 ·rintro⟨p,hp,rfl⟩
  let⟨h1,h2⟩:=ZCs.1 hp
  exact⟨by simpa using h2,p,h1,rfl⟩
 simp_all
theorem sOZ{l}{k}:k∈bD l↔∃(i:Nat) (x:Ino),l[i]? =some x/\k∈bS x.2.2.2.2.2.1:=by
 grind[bD,ZCm,ZAT,ZAI]
structure wA (s:cS) (q:Nat):Prop where
 life:0<=s.1/\s.1<=1099511627776
 t:bL s.2.1
 c:gG s.2.2.1=true
 pl:s.2.2.2.1=pl3
 l:∀(i:Nat) x,s.2.1.1[i]? =some x->x.2.2.1=true->x.2.2.2.1=false->x.2.2.2.2.2.1.length=(x.2.2.2.2.1.toNat+q-1)/q
 q:16<=q/\q<=65
 ds:(s.2.2.2.2.map (·.1)).Pairwise (·<·)
 d:∀p∈s.2.2.2.2,(1<=p.1/\p.1<=s.2.1.2)/\(1<=p.2/\p.2<=1099511627776)/\p.1∉bD s.2.1.1
 dn:s.2.2.2.2.length<=65536
def vE(l:List Ino):List Int:=l.flatMap fun n=>n.2.2.2.2.2.1.map (·.1)
theorem nXZ{l:List Ino}{k}{n}(h:l[k]? =some n):vE (l.take (k+1))=vE (l.take k)++n.2.2.2.2.2.1.map (·.1):=by
 simp_all[vE,aUZ]
theorem shZ{l}{k}(h0:k≠0)(h:k∉bD l):k∉vE l:=by
 intro hk
 let⟨x,hx,hk⟩:=ZCm.1 hk
 obtain⟨p,hp,rfl⟩:=ZBf.1 hk;exact h (ZCm.2 ⟨x,hx,egZ.2 ⟨h0,p,hp,rfl⟩⟩)
theorem pCZ(x:Ino)(hx:x.2.2.2.2.2.1.length<=100000)(h:List cS)(M)(S)(hM:MS M S):
 ∃M',tG bB (false,(h,(M,x))) (0,(h,M))=some (h,M')/\MS M' (S++x.2.2.2.2.2.1.map (·.1)):=by
 unfold tG;obtain⟨o,ho,M',hM,hS⟩:=aAZ (f:=fun tt:Int×(List cS×GM)=>rA bB (false,(h,(M,x))) tt.1 tt.2.1 tt.2.2) (fun r s=>∃(k:Nat) (M':GM),s=((k:Int),(h,M'))/\k+r=x.2.2.2.2.2.1.length/\MS M' (S++(x.2.2.2.2.2.1.take k).map (·.1))) (fun o=>∃M',o=(h,M')/\MS M' (S++x.2.2.2.2.2.1.map (·.1))) (fun r s hI=>by
  obtain⟨k,M',rfl,hk,hm⟩:=hI;obtain⟨p,hp⟩:∃p,x.2.2.2.2.2.1[k]? =some p:=⟨_,ZAB (by omega)⟩;left;refine⟨(((k+1:Nat):Int),(h,mQ M' p.1 1)),?_,k+1,_,rfl,by omega,?_⟩
  ·show rA bB (false,(h,(M,x))) (k:Int) h M'=_;unfold rA;simp only;rw[ZAK (by omega),acZ (by omega),ZAA,hp,w64 (by omega)]
   rfl
  ·rw[aUZ hp,ZCR,<-List.append_assoc];exact hm.put p.1) (fun s hI=>by
  obtain⟨k,M',rfl,hk,hm⟩:=hI;have:k=x.2.2.2.2.2.1.length:=by omega
  subst this;refine⟨(h,M'),?_,M',rfl,by rwa [ZAu] at hm⟩;show rA bB (false,(h,(M,x))) _ h M'=_;unfold rA;simp only;rw[ZAE (by omega)]
  rfl) x.2.2.2.2.2.1.length (0,(h,M)) (by omega) ⟨0,M,rfl,by omega,by simpa using hM⟩
 simp_all
theorem omZ{s}{q}(h:wA s q){M}(hM:MS M (vE s.2.1.1)):∃M',CY bB s M=some (true,M'):=by
 have key:∀p∈s.2.2.2.2,((Option.getD (kX M p.1) 0:Int)==1)=false:=fun p hp=>by
  have d:=h.d p hp;cases e:((Option.getD (kX M p.1) 0:Int)==1) with
  |false=>rfl
  |true=>exact absurd ((hM p.1).1 e) (shZ (by omega) d.2.2)
 have loop:∃o,mU bB s.2.2.2.2 (0,(0,(s.1,(s.2.1.1,(s.2.1.2,(s.2.2.1.1,(s.2.2.1.2,(s.2.2.2.1,(s.2.2.2.2,M)))))))))=some o/\∃last,o= .inl (last,(s.1,(s.2.1.1,(s.2.1.2,(s.2.2.1.1,(s.2.2.1.2,(s.2.2.2.1,(s.2.2.2.2,M)))))))):=by
  unfold mU;refine aAZ (f:=fun tt:Int×(Int×(Int×(List Ino×(Int×(Int×(List eO×(List iN×(List cV×GM))))))))=>jS bB s.2.2.2.2 tt.1 tt.2.1 tt.2.2.1 tt.2.2.2.1 tt.2.2.2.2.1 tt.2.2.2.2.2.1 tt.2.2.2.2.2.2.1 tt.2.2.2.2.2.2.2.1 tt.2.2.2.2.2.2.2.2.1 tt.2.2.2.2.2.2.2.2.2) (fun r st=>∃(k:Nat) (last:Int),st=((k:Int),(last,(s.1,(s.2.1.1,(s.2.1.2,(s.2.2.1.1,(s.2.2.1.2,(s.2.2.2.1,(s.2.2.2.2,M)))))))))/\k+r=s.2.2.2.2.length/\∀(j) p,k<=j->s.2.2.2.2[j]? =some p->last<p.1) (fun o=>∃last,o= .inl (last,(s.1,(s.2.1.1,(s.2.1.2,(s.2.2.1.1,(s.2.2.1.2,(s.2.2.2.1,(s.2.2.2.2,M))))))))) (fun r st hI=> ?_) (fun st hI=> ?_) s.2.2.2.2.length _ (by have:=h.dn;omega) ⟨0,0,rfl,by omega,fun j p _ hj=>by have:=(h.d p (ZAI hj)).1;omega⟩
  ·obtain⟨k,last,rfl,hk,hl⟩:=hI;obtain⟨p,hp⟩:∃p,s.2.2.2.2[k]? =some p:=⟨_,ZAB (by omega)⟩;have d:=h.d p (ZAI hp);have h1:=hl k p (ZAN _) hp;have dn:=h.dn;left;refine⟨(((k+1:Nat):Int),(p.1,(s.1,(s.2.1.1,(s.2.1.2,(s.2.2.1.1,(s.2.2.1.2,(s.2.2.2.1,(s.2.2.2.2,M))))))))),?_,k+1,p.1,rfl,by omega,fun j x hj hx=> ?_⟩
   ·show jS bB s.2.2.2.2 (k:Int) last s.1 s.2.1.1 s.2.1.2 s.2.2.1.1 s.2.2.1.2 s.2.2.2.1 s.2.2.2.2 M=_;unfold jS NB;rw[ZAK (by omega),acZ (by omega),ZAA,hp,ZAA,ZAE (by omega),ZAD,ZAE (by omega),ZAD,key p (ZAI hp),ZAD,ZAE (by omega),ZAD,ZAE (by omega),ZAA,ZAD,w64 (by omega)]
    rfl
   ·have:=ZBs.1 h.ds k j (by rw[ZAp];omega) (by rw[ZAp];exact(ZAC.1 hx).1) (by omega);rw[List.getElem_map,List.getElem_map,(ZAC.1 hp).2,(ZAC.1 hx).2] at this;exact this
  ·obtain⟨k,last,rfl,hk,hl⟩:=hI;have:k=s.2.2.2.2.length:=by omega
   subst this;refine⟨.inl (last,_),?_,last,rfl⟩;show jS bB s.2.2.2.2 _ last s.1 s.2.1.1 s.2.1.2 s.2.2.1.1 s.2.2.1.2 s.2.2.2.1 s.2.2.2.2 M=_;unfold jS;rw[ZAE (by omega)]
   rfl
 obtain⟨o,ho,last,rfl⟩:=loop;have dn:=h.dn;refine⟨M,?_⟩;unfold CY zC CX
 grind
theorem wA.right{s}{q}(h:wA s q):KA bB s (q:Int)=some true:=by
 unfold KA MZ;have hT:=h.t;have hq:=h.q;have hn:=hT.r.len;have hl:=h.life;rw[ZAK (show(q:Int)>=16 by omega),ZAM,ZAA,ZAK (show(q:Int)<=65536 by omega)];simp only[ZAO];rw[ZAE (show¬s.1<0 by omega),ZAE (show¬s.1>1099511627776 by omega),b8Z hT,juZ s.2.2.1 (b6Z h.c),h.c];simp[ZAD];rw[h.pl,uJZ,ZAA];simp[ZAA];have loop:∃o,tH bB s (q:Int) (0,([s],([],0)))=some o/\∃M',o= .inl ([s],M')/\MS M' (vE s.2.1.1):=by
  unfold tH;refine aAZ (f:=fun tt:Int×(List cS×GM)=>rB bB s (q:Int) tt.1 tt.2.1 tt.2.2) (fun r st=>∃(k:Nat) (M':GM),st=((k:Int),([s],M'))/\k+r=s.2.1.1.length/\MS M' (vE (s.2.1.1.take k))) (fun o=>∃M',o= .inl ([s],M')/\MS M' (vE s.2.1.1)) (fun r st hI=> ?_) (fun st hI=> ?_) s.2.1.1.length (0,([s],([],0))) (by omega) ⟨0,([],0),rfl,by omega,by simpa[vE] using MS.nil⟩
  ·obtain⟨k,M',rfl,hk,hm⟩:=hI;obtain⟨x,hx⟩:∃x,s.2.1.1[k]? =some x:=⟨_,ZAB (by omega)⟩;have hf:=(hT.r.fit).at hx;have hz:=dxZ hT hx;left
   let⟨M2,hM2,hS2⟩:=pCZ x hf.1 [s] M' _ hm
   refine⟨(((k+1:Nat):Int),([s],M2)),?_,k+1,_,rfl,by omega,by rw[nXZ hx];exact hS2⟩;show rB bB s (q:Int) (k:Int) [s] M'=_;unfold rB;rw[ZAK (by omega),acZ (by omega),ZAA,hx,ZAA];have test:(bif x.2.2.1 then bif (!x.2.2.2.1) then(JY bB x.2.2.2.2.1 (q:Int)).bind fun r6=>some ((!(((x.2.2.2.2.2.1.length:Nat):Int)==r6)),([s],(M',x))) else some (false,([s],(M',x))) else some (false,([s],(M',x))))=some (false,([s],(M',x))):=by
    cases hu:x.2.2.1
    ·rfl
    ·cases hd:x.2.2.2.1
     ·simp only[ZAM,ZAo];rw[show x.2.2.2.2.1=((x.2.2.2.2.1.toNat:Nat):Int) by omega,ipZ (by omega) (by omega),ZAA,h.l k x hx hu hd];simp
     ·rfl
   rw[test,ZAA];simp only[ZAD];rw[hM2,ZAA,w64 (by omega)]
   rfl
  ·obtain⟨k,M',rfl,hk,hm⟩:=hI;have:k=s.2.1.1.length:=by omega
   subst this;refine⟨.inl ([s],M'),?_,M',rfl,by rwa [ZAu] at hm⟩;show rB bB s (q:Int) _ [s] M'=_;unfold rB;rw[ZAE (by omega)]
   rfl
 grind[omZ,ZAA,ZAP]
abbrev fU:Type:=Int×(cV×Int)
theorem hqZ{k to q}(hq:1<=q):k<(to+q-1)/q↔k*q<to:=by
 grind[Nat.le_div_iff_mul_le,ZAk]
theorem lEZ{k to q}(hq:1<=q)(h:to<=k*q):(to+q-1)/q<=k:=by
 grind[hqZ]
theorem jkZ{a b q}(h:a<=b):(a+q-1)/q<=(b+q-1)/q:=ZCP (by omega)
theorem n8Z{a b q}(hq:1<=q)(h:a<=b):a/q<=(b+q-1)/q:=ZCP (by omega)
def dF(p:cV):Bool:=(p.1==0)&&(p.2==0)
def pAt(P:List cV)(i:Nat):cV:=(P[i]?).getD (0,0)
theorem lkZ(x:Ino)(i:Nat)(h:x.2.2.2.2.2.1.length<=100000):KD bB x (i:Int)=some (pAt x.2.2.2.2.2.1 i):=by
 unfold KD pAt;by_cases hi:i<x.2.2.2.2.2.1.length
 ·rw[ZAE (by omega),acZ hi,ZAA,ZAB hi]
  rfl
 simp_all
def kU(P:List cV)(a n:Nat):List fU:=(List.range n).map fun j=>(((a+j:Nat):Int),(pAt P (a+j),0))
theorem hLZ(P)(a n):(kU P a n).length=n:=by simp[kU]
theorem mwZ(P)(a n):kU P a (n+1)=kU P a n++[(((a+n:Nat):Int),(pAt P (a+n),0))]:=by
 simp_all[kU,List.range_succ]
theorem oUZ{x:Ino}{q a n from_ to}(hq:1<=q)(hn:a+n<=x.2.2.2.2.2.1.length)(hP:x.2.2.2.2.2.1.length<=4096)(hin:∀k,k<n->(a+k)*q<to)(hout:to<=(a+n)*q)(hb:q<=1000)(hf:from_/q=a):
 rC bB (q:Int) (from_:Int) (to:Int) [x]=some ([x],kU x.2.2.2.2.2.1 a n):=by
 unfold rC;have hm:∀z,z<=a+n->z*q<=4096*1000:=fun z hz=>ZB3 (by omega) hb;rw[adZ (by rw[ZAE (by omega)];rfl),fJZ,w64 (by omega)];have loop:kN bB (q:Int) (to:Int) ((a:Int),([],[x]))=some (kU x.2.2.2.2.2.1 a n,[x]):=by
  unfold kN;refine alZ (fun k:Nat=>(((a+k:Nat):Int),(kU x.2.2.2.2.2.1 a k,[x]))) n (by omega) (fun k hk=> ?_) ?_
  ·show jA bB (q:Int) (to:Int) ((a+k:Nat):Int) (kU x.2.2.2.2.2.1 a k) [x]=_;unfold jA ND;have h1:=hin k hk;have h2:=hm (a+k) (by omega);rw[show((a+k:Nat):Int)*(q:Int)=(((a+k)*q:Nat):Int) by rw[ZBn]];generalize (a+k)*q=z at*;rw[w64 (by omega),ZAK (by omega),ZAP,ZAA,acZ (by omega),ZAA,ZAB (by omega),ZAA,adZ (by simp[aqZ,hLZ];omega),w64 (by omega),mwZ];unfold pAt;rw[ZAB (by omega)]
   rfl
  ·show jA bB (q:Int) (to:Int) ((a+n:Nat):Int) _ [x]=_;unfold jA;have h2:=hm (a+n) (by omega);rw[show((a+n:Nat):Int)*(q:Int)=(((a+n)*q:Nat):Int) by rw[ZBn]];generalize (a+n)*q=z at*;rw[w64 (by omega),ZAE (by omega),ZAD]
 simp_all
def gY(x:Ino)(q:Nat)(c:bT):List fU:=
 if c.2.2.2.2.2.2.2.2.1>0 then
  kU x.2.2.2.2.2.1 (min x.2.2.2.2.1.toNat c.2.2.2.2.2.2.2.1.toNat/q) ((min x.2.2.2.2.1.toNat (c.2.2.2.2.2.2.2.1.toNat+c.2.2.2.2.2.2.2.2.1.toNat)+q-1)/q-min x.2.2.2.2.1.toNat c.2.2.2.2.2.2.2.1.toNat/q)
 else[]
theorem t1Z{x:Ino}{q}{c:bT}(hq:16<=q/\q<=65)(hs:0<=x.2.2.2.2.1/\x.2.2.2.2.1<=65536)(hl:x.2.2.2.2.2.1.length=(x.2.2.2.2.1.toNat+q-1)/q)
 (ho:0<=c.2.2.2.2.2.2.2.1/\c.2.2.2.2.2.2.2.1<=2147483648)(hn:0<=c.2.2.2.2.2.2.2.2.1/\c.2.2.2.2.2.2.2.2.1<=2147483648):
 RY bB x (q:Int) c=some (gY x q c):=by
 unfold RY gY Pd Pg Ph;by_cases h0:c.2.2.2.2.2.2.2.2.1>0
 ·rw[ZAK h0,ZAM,ZAL h0];have hz:=ZBi hs.1;have hoo:=ZBi ho.1;have hnn:=ZBi hn.1;rw[w64 (by omega)];rw[show(if x.2.2.2.2.1<c.2.2.2.2.2.2.2.1 then x.2.2.2.2.1 else c.2.2.2.2.2.2.2.1)=((min x.2.2.2.2.1.toNat c.2.2.2.2.2.2.2.1.toNat:Nat):Int) by split<;>omega,
   show(if x.2.2.2.2.1<c.2.2.2.2.2.2.2.1+c.2.2.2.2.2.2.2.2.1 then x.2.2.2.2.1 else c.2.2.2.2.2.2.2.1+c.2.2.2.2.2.2.2.2.1)=((min x.2.2.2.2.1.toNat (c.2.2.2.2.2.2.2.1.toNat+c.2.2.2.2.2.2.2.2.1.toNat):Nat):Int) by split<;>omega]
  generalize he:min x.2.2.2.2.1.toNat (c.2.2.2.2.2.2.2.1.toNat+c.2.2.2.2.2.2.2.2.1.toNat)=to;generalize hf:min x.2.2.2.2.1.toNat c.2.2.2.2.2.2.2.1.toNat=fr;have hto:to<=x.2.2.2.2.1.toNat:=by omega
  have hfr:fr<=to:=by omega
  have hle:=n8Z (q:=q) (by omega) hfr;have hup:=jkZ (q:=q) hto;have hP:(x.2.2.2.2.1.toNat+q-1)/q<=4096:=lEZ (by omega) (by have:4096*16<=4096*q:=ZB9 _ hq.1;omega);rw[oUZ (n:=(to+q-1)/q-fr/q) (by omega) (by omega) (by omega) (fun k hk=>(hqZ (by omega)).1 (by omega)) ?_ (by omega) rfl,ZAA];rw[show fr/q+((to+q-1)/q-fr/q)=(to+q-1)/q by omega];by_cases h:(to+q-1)/q<(to+q-1)/q
  ·omega
  ·rw[hqZ (by omega)] at h;omega
 grind
def iD(P:List cV)(wh:Nat->Bool)(i:Nat)(s:Int×(List fU×List fU)):Int×(List fU×List fU):=
 if dF (pAt P i)=true then(s.1+1,(s.2.1++[((i:Int),(pAt P i,s.1+1))],s.2.2))
 else(s.1,(s.2.1++[((i:Int),(pAt P i,(pAt P i).1))],if wh i=true then s.2.2 else s.2.2++[((i:Int),(pAt P i,(pAt P i).1))]))
def dS(P:List cV)(wh:Nat->Bool)(a:Nat):Nat->Int->Int×(List fU×List fU)
 |0,w=>(w,([],[]))
 |k+1,w=>iD P wh (a+k) (dS P wh a k w)
theorem bjZ(P)(wh)(a)(w):∀k,(dS P wh a k w).2.1.length=k/\(dS P wh a k w).2.2.length<=k/\w<=(dS P wh a k w).1/\(dS P wh a k w).1<=w+k
 |0=>by simp[dS]
 |k+1=>by
  have ih:=bjZ P wh a w k;unfold dS iD;split
  ·simp[List.length_nil];omega
  ·split<;>simp[List.length_nil]<;>omega
theorem vxZ{x:Ino}{i:Nat}(hi:i<=100000)(hP:x.2.2.2.2.2.1.length<=100000){s}(hs:0<=s.1/\s.1<=2199023255552)(h1:s.2.1.length<=100000)(h2:s.2.2.length<=100000)(whole):
 ∃o,AR bB (i:Int) whole [x] s.1 s.2.1 s.2.2=some o/\(match o with|.inl r=>(r.1,r.2)|.inr r=>(r.1,(r.2.2,r.2.1)))=iD x.2.2.2.2.2.1 (fun _=>whole) i s:=by
 unfold AR iD;rw[ZAP,ZAA,lkZ x i hP,ZAA];cases hh:((pAt x.2.2.2.2.2.1 i).1==0)&&((pAt x.2.2.2.2.2.1 i).2==0)
 ·rw[ZAJ (by unfold dF;rw[hh];decide)];simp only[ZAD,ZAA,ZAP,ZAM];rw[adZ (by simp[aqZ];omega)];cases whole
  ·simp[ZAM,ZAP,ZAA];rw[adZ (by simp only[ZAF,ZAm,aqZ];omega)];exact⟨_,rfl,rfl⟩
  simp_all
 ·rw[ZAL (by unfold dF;exact hh)];simp only[ZAM,ZAA,ZAP,ZAO,ZAD];rw[adZ (by simp only[ZAF,ZAm,aqZ];omega),w64 (by omega)]
  simp_all
def fL(q off e:Nat)(i:Nat):Bool:=decide (off<=i*q)&&decide ((i+1)*q<=e)
theorem sVZ{P}{w1 w2}{i}{s}(h:w1 i=w2 i):iD P w1 i s=iD P w2 i s:=by
 simp_all[iD]
theorem sNZ{x:Ino}{c:bT}{i q off e:Nat}(hq:q<=1000)(hi:i<=100000)(hP:x.2.2.2.2.2.1.length<=100000){s}(hs:0<=s.1/\s.1<=2199023255552)(h1:s.2.1.length<=100000)(h2:s.2.2.length<=100000)(ho:c.2.2.2.2.2.2.2.1=(off:Int)):
 ∃o,IS bB (i:Int) [c] [x] s.1 s.2.1 s.2.2 (q:Int) (e:Int)=some o/\
  (match o with|.inl r1=>(r1.1,(r1.2.1,(r1.2.2.2.2.1,(r1.2.2.2.2.2,([c],(r1.2.2.1,r1.2.2.2.1))))))|.inr r2=>(r2.1,(r2.2.1,(r2.2.2.2.2.2,(r2.2.2.1,([c],(r2.2.2.2.1,r2.2.2.2.2.1)))))))
   =([x],((iD x.2.2.2.2.2.1 (fL q off e) i s).1,((iD x.2.2.2.2.2.1 (fL q off e) i s).2.1,((iD x.2.2.2.2.2.1 (fL q off e) i s).2.2,([c],((q:Int),(e:Int))))))):=by
 unfold IS;have m1:=ZB3 hi hq;have m2:(i+1)*q<=100001*1000:=ZB3 (by omega) hq;rw[ZAP,ZAA,w64 (x:=((i:Int)+1)) (by omega),show((i:Int)+1)*(q:Int)=(((i+1)*q:Nat):Int) by rw[ZBn,Int.natCast_add];rfl];have fin:∀b,b=fL q off e i->∃o,(AR bB (i:Int) b [x] s.1 s.2.1 s.2.2).bind (fun r1=>match r1 with
  |.inl r2=>some (Sum.inl ([x],(r2.1,((q:Int),((e:Int),r2.2)))))
  |.inr r3=>some (Sum.inr ([x],(r3.1,(r3.2.1,((q:Int),((e:Int),r3.2.2)))))))=some o/\
  (match o with|.inl r1=>(r1.1,(r1.2.1,(r1.2.2.2.2.1,(r1.2.2.2.2.2,([c],(r1.2.2.1,r1.2.2.2.1))))))|.inr r2=>(r2.1,(r2.2.1,(r2.2.2.2.2.2,(r2.2.2.1,([c],(r2.2.2.2.1,r2.2.2.2.2.1)))))))
   =([x],((iD x.2.2.2.2.2.1 (fL q off e) i s).1,((iD x.2.2.2.2.2.1 (fL q off e) i s).2.1,((iD x.2.2.2.2.2.1 (fL q off e) i s).2.2,([c],((q:Int),(e:Int))))))):=fun b hb=>by
  let⟨o,ho,he⟩:=vxZ hi hP hs h1 h2 b
  rw[sVZ hb] at he;rw[ho,ZAA];cases o with
  |inl r=>exact⟨_,rfl,by rw[<-he]⟩
  |inr r=>exact⟨_,rfl,by rw[<-he]⟩
 rw[w64 (by omega)];by_cases h:off<=i*q
 ·rw[ZAK (by omega),ZAM,w64 (by omega)];refine fin _ ?_;unfold fL;rw[ZAK h,ZBT];exact decide_eq_decide.2 (by omega)
 ·rw[ZAE (by omega),ZAD];refine fin _ ?_;unfold fL;rw[ZAE h];rfl
theorem m0Z{x:Ino}{c:bT}{q a n off e:Nat}{w}(hq:1<=q/\q<=1000)(hn:a+n<=90000)(hP:x.2.2.2.2.2.1.length<=100000)(hw:0<=w/\w<=1099511627776)(ho:c.2.2.2.2.2.2.2.1=(off:Int))
 (hin:∀k,k<n->(a+k)*q<e)(hout:e<=(a+n)*q)(hf:off/q=a):
 rD bB (q:Int) (off:Int) (e:Int) [x] w [c] (q:Int) (e:Int)=some ([x],((dS x.2.2.2.2.2.1 (fL q off e) a n w).1,([c],((q:Int),((e:Int),(dS x.2.2.2.2.2.1 (fL q off e) a n w).2))))):=by
 unfold rD;have hm:∀z,z<=a+n->z*q<=90000*1000:=fun z hz=>ZB3 (by omega) hq.2;rw[adZ (by rw[ZAE (by omega)];rfl),fJZ,hf,w64 (by omega)];have loop:kO bB (q:Int) (e:Int) ((a:Int),([x],(w,([],([],([c],((q:Int),(e:Int))))))))=some ([x],((dS x.2.2.2.2.2.1 (fL q off e) a n w).1,((dS x.2.2.2.2.2.1 (fL q off e) a n w).2.1,((dS x.2.2.2.2.2.1 (fL q off e) a n w).2.2,([c],((q:Int),(e:Int))))))):=by
  unfold kO;refine alZ (fun k:Nat=>(((a+k:Nat):Int),([x],((dS x.2.2.2.2.2.1 (fL q off e) a k w).1,((dS x.2.2.2.2.2.1 (fL q off e) a k w).2.1,((dS x.2.2.2.2.2.1 (fL q off e) a k w).2.2,([c],((q:Int),(e:Int))))))))) n (by omega) (fun k hk=> ?_) ?_
  ·show jB bB (q:Int) (e:Int) ((a+k:Nat):Int) [x] _ _ _ [c] (q:Int) (e:Int)=_;unfold jB;have h1:=hin k hk;have h2:=hm (a+k) (by omega);have hr:=bjZ x.2.2.2.2.2.1 (fL q off e) a w k;rw[show((a+k:Nat):Int)*(q:Int)=(((a+k)*q:Nat):Int) by rw[ZBn],w64 (by omega),ZAK (by omega),ZAM];obtain⟨o,ho,he⟩:=sNZ (i:=a+k) (s:=dS x.2.2.2.2.2.1 (fL q off e) a k w) hq.2 (by omega) hP ⟨by omega,by omega⟩ (by omega) (by omega) ho;rw[ho,ZAA,w64 (by omega)];cases o with
   |inl r=>
    simp only[ZAA];simp only at he;rw[he];rfl
   |inr r=>
    simp only[ZAA];simp only at he;rw[he];rfl
  ·show jB bB (q:Int) (e:Int) ((a+n:Nat):Int) [x] _ _ _ [c] (q:Int) (e:Int)=_;unfold jB;have h2:=hm (a+n) (by omega);rw[show((a+n:Nat):Int)*(q:Int)=(((a+n)*q:Nat):Int) by rw[ZBn],w64 (by omega),ZAE (by omega),ZAD]
 simp_all
def cY(q:Nat)(c:bT):Nat:=if c.2.2.1=uO 5 then c.2.2.2.2.2.2.2.1.toNat/q else c.2.2.2.2.2.2.2.2.1.toNat/q
def eQ(x:Ino)(q:Nat)(c:bT):Nat:=
 if c.2.2.1=uO 5 then
  if c.2.2.2.2.2.2.2.2.2.length=0 then 0 else(c.2.2.2.2.2.2.2.1.toNat+c.2.2.2.2.2.2.2.2.2.length+q-1)/q-c.2.2.2.2.2.2.2.1.toNat/q
 else if c.2.2.2.2.2.2.2.2.1<x.2.2.2.2.1/\c.2.2.2.2.2.2.2.2.1.toNat%q≠0/\dF (pAt x.2.2.2.2.2.1 (c.2.2.2.2.2.2.2.2.1.toNat/q))=false then 1 else 0
def eZ(q:Nat)(c:bT):Nat->Bool:=if c.2.2.1=uO 5 then fL q c.2.2.2.2.2.2.2.1.toNat (c.2.2.2.2.2.2.2.1.toNat+c.2.2.2.2.2.2.2.2.2.length) else fun _=>false
def lD(x:Ino)(w:Int)(q:Nat)(c:bT):Int×(List fU×List fU):=dS x.2.2.2.2.2.1 (eZ q c) (cY q c) (eQ x q c) w
theorem op56{c:bT}(h:c.2.2.1=uO 5\/c.2.2.1=uO 6):c.2.2.1≠uO 5->c.2.2.1=uO 6:=fun h5=>h.resolve_left h5
theorem qOZ{x:Ino}{c:bT}{q:Nat}{w}(hq:16<=q/\q<=65)(hP:x.2.2.2.2.2.1.length<=4096)(hw:0<=w/\w<=1099511627776)(hop:c.2.2.1=uO 5\/c.2.2.1=uO 6)
 (ho:0<=c.2.2.2.2.2.2.2.1)(h5:c.2.2.1=uO 5->c.2.2.2.2.2.2.2.1+((c.2.2.2.2.2.2.2.2.2.length:Nat):Int)<=65536)(hn:0<=c.2.2.2.2.2.2.2.2.1/\c.2.2.2.2.2.2.2.2.1<=2147483648)(hb:c.2.2.2.2.2.2.2.2.2.length<=4096)(hoo:c.2.2.2.2.2.2.2.1<=2147483648):
 SF bB x w (q:Int) c=some (lD x w q c).2:=by
 unfold SF lD Pa Pb Pc Pd Pg Ph PD PH;have hoc:=ZBi ho;have hnc:=ZBi hn.1;rw[w64 (by omega)];by_cases e5:c.2.2.1=uO 5
 ·have h5:=h5 e5;unfold eZ cY eQ;rw[ZAL e5,ZAL e5,ZAL e5,e5,show(((uO 5).toNat:Nat):Int)=5 from rfl];simp only[ZAb,ZAM,ZAA];by_cases hl:c.2.2.2.2.2.2.2.2.2.length=0
  ·rw[ZAE (by omega),ZAL hl];simp only[ZAD,ZAP,ZAA];rw[e5]
   rfl
  ·rw[ZAK (by omega),ZAJ hl];simp only[ZAM,ZAP,ZAA];rw[<-hoc,show((c.2.2.2.2.2.2.2.1.toNat:Nat):Int)+((c.2.2.2.2.2.2.2.2.2.length:Nat):Int)=((c.2.2.2.2.2.2.2.1.toNat+c.2.2.2.2.2.2.2.2.2.length:Nat):Int) by omega,ZBP];have hdu:=n8Z (q:=q) (a:=c.2.2.2.2.2.2.2.1.toNat) (b:=c.2.2.2.2.2.2.2.1.toNat+c.2.2.2.2.2.2.2.2.2.length) (by omega) (by omega);have hup:(c.2.2.2.2.2.2.2.1.toNat+c.2.2.2.2.2.2.2.2.2.length+q-1)/q<=4096:=lEZ (by omega) (by have:4096*16<=4096*q:=ZB9 _ hq.1;omega);have hin:∀k,k<(c.2.2.2.2.2.2.2.1.toNat+c.2.2.2.2.2.2.2.2.2.length+q-1)/q-c.2.2.2.2.2.2.2.1.toNat/q->(c.2.2.2.2.2.2.2.1.toNat/q+k)*q<c.2.2.2.2.2.2.2.1.toNat+c.2.2.2.2.2.2.2.2.2.length:=fun k hk=>(hqZ (by omega)).1 (by omega);have hout:c.2.2.2.2.2.2.2.1.toNat+c.2.2.2.2.2.2.2.2.2.length<=(c.2.2.2.2.2.2.2.1.toNat/q+((c.2.2.2.2.2.2.2.1.toNat+c.2.2.2.2.2.2.2.2.2.length+q-1)/q-c.2.2.2.2.2.2.2.1.toNat/q))*q:=by
    rw[show c.2.2.2.2.2.2.2.1.toNat/q+((c.2.2.2.2.2.2.2.1.toNat+c.2.2.2.2.2.2.2.2.2.length+q-1)/q-c.2.2.2.2.2.2.2.1.toNat/q)=(c.2.2.2.2.2.2.2.1.toNat+c.2.2.2.2.2.2.2.2.2.length+q-1)/q by omega];by_cases h:(c.2.2.2.2.2.2.2.1.toNat+c.2.2.2.2.2.2.2.2.2.length+q-1)/q<(c.2.2.2.2.2.2.2.1.toNat+c.2.2.2.2.2.2.2.2.2.length+q-1)/q
    ·omega
    ·rw[hqZ (by omega)] at h;omega
   rw[m0Z ⟨by omega,by omega⟩ (by omega) (by omega) hw hoc.symm hin hout rfl,ZAA]
 ·have e6:=op56 hop e5;have h56:¬(uO 6=uO 5):=by decide
  unfold eZ cY eQ;rw[ZAJ e5,ZAJ e5,ZAJ e5,e6,show(((uO 6).toNat:Nat):Int)=6 from rfl];simp only[show((6:Int)==5)=false from rfl,ZAD,ZAA,ZAP];rw[e6,show(((uO 6).toNat:Nat):Int)=6 from rfl];simp only[ZAb,ZAM];have hd:c.2.2.2.2.2.2.2.2.1.toNat/q<=c.2.2.2.2.2.2.2.2.1.toNat/16:=Nat.div_le_div_left hq.1 (by decide);have hm:Int.tmod c.2.2.2.2.2.2.2.2.1 (q:Int)=((c.2.2.2.2.2.2.2.2.1.toNat%q:Nat):Int):=by rw[<-hnc];exact(Int.ofNat_tmod _ _).symm
  have hv:Int.tdiv c.2.2.2.2.2.2.2.2.1 (q:Int)=((c.2.2.2.2.2.2.2.2.1.toNat/q:Nat):Int):=by rw[<-hnc];exact fJZ _ _
  have hq0:(!(decide ((q:Int)=0)))=true:=by rw[ZAE (by omega)];rfl
  generalize c.2.2.2.2.2.2.2.2.1.toNat/q=k at*;rw[hm,hv,w64 (by omega),lkZ x _ (by omega)];by_cases c1:c.2.2.2.2.2.2.2.2.1<x.2.2.2.2.1
  ·rw[ZAK c1,ZAM,adZ hq0];by_cases c2:c.2.2.2.2.2.2.2.2.1.toNat%q=0
   ·rw[c2,ZAJ (fun z=>z.2.1 rfl)]
    rfl
   ·rw[show(((c.2.2.2.2.2.2.2.2.1.toNat%q:Nat):Int)==0)=false from ZAa.2 (by omega),adZ hq0,ZAA];simp only[ZAo,ZAM,ZAA];cases c3:dF (pAt x.2.2.2.2.2.1 k)
    ·rw[ZAL ⟨c1,c2,rfl⟩];rw[show((pAt x.2.2.2.2.2.1 k).1==0&&(pAt x.2.2.2.2.2.1 k).2==0)=false from c3];simp only[ZAo,ZAM,ZAP,ZAA];rw[adZ hq0,hv,w64 (by omega)];unfold HG;rw[ZAP,ZAA,lkZ x _ (by omega),ZAA,show((pAt x.2.2.2.2.2.1 k).1==0&&(pAt x.2.2.2.2.2.1 k).2==0)=false from c3];simp only[ZAD,ZAo,ZAM,ZAP,ZAA];rw[adZ (by simp only[ZAF,ZAm,aqZ];decide)];unfold dS dS iD;rw[ZCb,c3]
     rfl
    ·rw[ZAJ (fun z=>absurd z.2.2 (by decide))];rw[show((pAt x.2.2.2.2.2.1 k).1==0&&(pAt x.2.2.2.2.2.1 k).2==0)=true from c3]
     rfl
  ·rw[ZAE c1,ZAJ (fun z=>c1 z.1)]
   rfl
abbrev wL:Type:=Int×(bX×(List fU×List fU))
def kG(c:bT)(r:Mod×Int×Rep):bX:=(c.1,(c.2.1,(r.2.1,(r.2.2.1,(r.2.2.2.1,(r.2.2.2.2.1,(r.2.2.2.2.2.1,(r.2.2.2.2.2.2.1,(r.2.2.2.2.2.2.2.1,r.2.2.2.2.2.2.2.2)))))))))
def noB(r:bX):bX:=(r.1,(r.2.1,(r.2.2.1,(r.2.2.2.1,(r.2.2.2.2.1,(r.2.2.2.2.2.1,([],r.2.2.2.2.2.2.2)))))))
def jI(o:UInt8):Bool:=(o.toNat==1)||((o.toNat==4)||((o.toNat==10)||((o.toNat==11)||(o.toNat==12))))
theorem tsZ:∀n,n<256->RW bB ((n:Nat):Int)=some ((n==1)||((n==4)||((n==10)||((n==11)||(n==12))))):=by decide+kernel
theorem u0Z(o):RW bB ((o.toNat:Nat):Int)=some (jI o):=tsZ _ o.toNat_lt
def VB:Ino:=(0,0,false,false,0,[],0,[])
def nY(s:cS)(c:bT):Ino:=(s.2.1.1[(c.2.2.2.1.1-1).toNat]?).getD VB
theorem mTZ{t}{i:Nat}{y}(h:(bG t).1.1[i]? =some y):∃x,t.1[i]? =some x/\y=dG x:=by
 simp[bG] at h
 grind
structure jJ (s:cS) (c:bT) (x:Ino):Prop where
 at_:s.2.1.1[(c.2.2.2.1.1-1).toNat]? =some x
 h1:1<=c.2.2.2.1.1
 used:x.2.2.1=true
 dir:x.2.2.2.1=false
 gen:x.2.1=c.2.2.2.1.2
theorem jJ.p{s}{c}{x}(h:jJ s c x):nY s c=x:=by
 unfold nY;rw[h.at_];rfl
theorem gkZ{s}{c}(h:(cW (bG s.2.1) c.2.2.2.1).2.2=0):∃x,jJ s c x:=by
 let⟨y,hy,_⟩:=dGZ h
 let⟨hH,hd,_⟩:=hy
 let⟨h1,h2,h3,h4⟩:=hH
 obtain⟨x,hx,rfl⟩:=mTZ h2;exact⟨x,hx,h1,h3,hd,h4⟩
theorem act4{m}{c}(h:c.2.2.1=uO 4):cK m c=jN m c:=by simp_all[cK]
theorem act5{m}{c}(h:c.2.2.1=uO 5):cK m c=iM m c:=by simp_all[cK]
theorem act6{m}{c}(h:c.2.2.1=uO 6):cK m c=lY m c:=by simp_all[cK]
theorem res0{m}{c}(hr:bK c=true)(h:(bN m c).2.1=0):(cK m c).1=0:=by
 unfold bN at h
 grind
theorem uAZ{s}{c}(hr:bK c=true)(h4:c.2.2.1=uO 4)(h:(bN (bG s.2.1) c).2.1=0):∃x,jJ s c x:=by
 have h:=res0 hr h;rw[act4 h4] at h;unfold jN at h;split at h
 ·rename_i hf;exact gkZ hf
 ·rename_i hf;exact absurd h hf
theorem uxZ{s}{c}(hr:bK c=true)(h5:c.2.2.1=uO 5)(h:(bN (bG s.2.1) c).2.1=0):(∃x,jJ s c x)/\c.2.2.2.2.2.2.2.1+((c.2.2.2.2.2.2.2.2.2.length:Nat):Int)<=65536:=by
 have h:=res0 hr h;rw[act5 h5] at h;unfold iM at h;split at h
 ·rename_i hf;refine⟨gkZ hf,?_⟩;split at h
  ·cases h
  ·omega
 ·rename_i hf;exact absurd h hf
theorem vhZ{s}{c}(hr:bK c=true)(h6:c.2.2.1=uO 6)(h:(bN (bG s.2.1) c).2.1=0):(∃x,jJ s c x)/\c.2.2.2.2.2.2.2.2.1<=65536:=by
 have h:=res0 hr h;rw[act6 h6] at h;unfold lY at h;split at h
 ·rename_i hf;refine⟨gkZ hf,?_⟩;split at h
  ·cases h
  ·omega
 ·rename_i hf;exact absurd h hf
def dZ(s:cS)(q:Nat)(c:bT):wL×Int:=
 if bK c=true then
  if jI c.2.2.1=true then
   if c.2.2.1=uO 4/\(bN (bG s.2.1) c).2.1=0 then((1,(noB (kG c (bN (bG s.2.1) c)),(gY (nY s c) q c,[]))),0)
   else((1,(kG c (bN (bG s.2.1) c),([],[]))),0)
  else if(look s.2.2.1 c.1 c.2.1).2=1 then((3,((look s.2.2.1 c.1 c.2.1).1,([],[]))),0)
  else if(look s.2.2.1 c.1 c.2.1).2=2 then((4,(zR,([],[]))),0)
  else if(bN (bG s.2.1) c).2.1=0/\(c.2.2.1=uO 5\/c.2.2.1=uO 6) then((2,(zR,((lD (nY s c) s.2.1.2 q c).2.2,(lD (nY s c) s.2.1.2 q c).2.1))),0)
  else((2,(zR,([],[]))),0)
 else((0,(zR,([],[]))),179)
theorem opB(o)(n:Nat)(hn:n<256):((((o.toNat:Nat):Int))==(n:Int))=decide (o=uO n):=by
 by_cases h:o=uO n
 ·rw[ZAK h,h];have:(uO n).toNat=n:=Nat.mod_eq_of_lt hn;rw[this];exact ZAb _
 grind[ZAE,ZAa,uOt]
theorem op4(o):(((o.toNat:Nat):Int)==4)=decide (o=uO 4):=opB o 4 (by decide)
theorem op5(o):(((o.toNat:Nat):Int)==5)=decide (o=uO 5):=opB o 5 (by decide)
theorem op6(o):(((o.toNat:Nat):Int)==6)=decide (o=uO 6):=opB o 6 (by decide)
theorem eiZ{s}{q}(h:wA s q)(c:bT):nU bB s (q:Int) c=some (dZ s q c):=by
 unfold nU dZ Pa Pb Pc Pd Pe Pf Pg Ph Pi Pj Pk PB PC PF PJ;rw[h.right,ZAA,axZ];simp only[ZAO,ZAD,ZAA];cases hr:bK c
 ·rfl
 simp only[ZAO,ZAD,ZCq]
 let⟨ho,hn,hb⟩:=ayZ hr
 rw[fFZ h.t,ZAA,show(((bG s.2.1).1.1,(bG s.2.1).1.2),(bG s.2.1).2)=bG s.2.1 from rfl,qBZ (aZZ h.t),ZAA,u0Z,ZAA];generalize hR:bN (bG s.2.1) c=R at*;cases ha:jI c.2.2.1
 ·simp only[ZAD];rw[ZAJ (by decide),rtZ s.2.2.1 (b6Z h.c),ZAA,ktZ];by_cases l1:(look s.2.2.1 c.1 c.2.1).2=1
  ·rw[ZAL l1,l1];rfl
  rw[ZAJ l1,(ZAa.2 l1),ZAD];by_cases l2:(look s.2.2.1 c.1 c.2.1).2=2
  ·rw[ZAL l2,l2];rfl
  rw[ZAJ l2,(ZAa.2 l2),ZAD];rw[show(doT R c).2.2.2.1=R.2.1 from rfl];by_cases e0:R.2.1=0
  ·rw[e0];simp only[ZAb,ZAM];rw[op5,op6];have file:(c.2.2.1=uO 5\/c.2.2.1=uO 6)->∃x,jJ s c x/\(c.2.2.1=uO 5->c.2.2.2.2.2.2.2.1+((c.2.2.2.2.2.2.2.2.2.length:Nat):Int)<=65536):=fun hop=>by
    rcases hop with h5|h6
    ·obtain⟨⟨x,hx⟩,hl⟩:=uxZ hr h5 (by rw[hR];exact e0);exact⟨x,hx,fun _=>hl⟩
    ·obtain⟨⟨x,hx⟩,hl⟩:=vhZ hr h6 (by rw[hR];exact e0);exact⟨x,hx,fun h5=>by rw[h6] at h5;exact absurd h5 (by decide)⟩
   by_cases hop:c.2.2.1=uO 5\/c.2.2.1=uO 6
   ·obtain⟨x,hx,hl⟩:=file hop;rw[ZAL ⟨trivial,hop⟩,hx.p];have step:∀{α} (S:α),(bif decide (c.2.2.1=uO 5) then some (true,S) else some (decide (c.2.2.1=uO 6),S))=some (true,S):=fun S=>by
     rcases hop with e|e<;>rw[e]<;>rfl
    rw[step,ZAA];simp only[ZAM,ZAP,ZAA];have hlt:=(ZAC.1 hx.at_).1;have hlen:=h.t.r.len;have h1:=hx.h1;rw[w64 (by omega),show c.2.2.2.1.1-1=(((c.2.2.2.1.1-1).toNat:Nat):Int) by omega,acZ hlt,ZAA,hx.at_,ZAA];rw[qOZ h.q (h.t.r.ino _ _ hx.at_|>.file hx.used hx.dir).2.2.1 h.t.r.str hop ho.1 hl hn hb ho.2,ZAA]
    rfl
   ·rw[ZAJ (fun z=>hop z.2)];have step:∀{α} (S:α),(bif decide (c.2.2.1=uO 5) then some (true,S) else some (decide (c.2.2.1=uO 6),S))=some (false,S):=fun S=>by
     rw[ZAE (fun e=>hop (.inl e)),ZAE (fun e=>hop (.inr e))];rfl
    rw[step,ZAA]
    rfl
  ·rw[ZAJ (fun z=>e0 z.1),(ZAa.2 e0)]
   rfl
 ·simp only[ZAM,ZCq];rw[op4];by_cases h4:c.2.2.1=uO 4
  ·rw[ZAK h4,ZAM,ZAA,show(doT R c).2.2.2.1=R.2.1 from rfl];by_cases e0:R.2.1=0
   ·rw[ZAL ⟨h4,e0⟩,e0];obtain⟨x,hx⟩:=uAZ hr h4 (by rw[hR];exact e0);have hlt:=(ZAC.1 hx.at_).1;have hlen:=h.t.r.len;have h1:=hx.h1;have hf:=(h.t.r.ino _ _ hx.at_).file hx.used hx.dir;simp only[ZAb,ZAM,ZAP,ZAA];rw[w64 (by omega),show c.2.2.2.1.1-1=(((c.2.2.2.1.1-1).toNat:Nat):Int) by omega,acZ hlt,ZAA,hx.at_,ZAA];rw[t1Z h.q hf.1 (h.l _ _ hx.at_ hx.used hx.dir) ho hn,ZAA,hx.p];simp only[kG,noB,e0]
    rfl
   ·rw[ZAJ (fun z=>e0 z.2),(ZAa.2 e0)]
    rfl
  ·rw[ZAE h4,ZAD,ZAJ (fun z=>h4 z.1)]
   rfl
structure fS (l l':List Ino):Prop where
 len:l.length<=l'.length
 at_:∀(i:Nat) y,l'[i]? =some y->y.2.2.1=true->(∃x,l[i]? =some x/\x.2.2.1=true/\x.2.1=y.2.1/\x.2.2.2.1=y.2.2.2.1/\x.2.2.2.2.1=y.2.2.2.2.1)\/(y.2.2.2.2.1=0/\∀x,l[i]? =some x->x.2.1≠y.2.1)
theorem fS.refl(l):fS l l:=⟨ZAN _,fun i y h hu=>.inl ⟨y,h,hu,rfl,rfl,rfl⟩⟩
theorem fS.mod{l l'}(h:fS l l')(i)(f)(hf:∀n,(f n).2.2.1=true->n.2.2.1=true/\(f n).2.1=n.2.1/\(f n).2.2.2.1=n.2.2.2.1/\(f n).2.2.2.2.1=n.2.2.2.2.1):fS l (wW l' i f):=by
 refine⟨by rw[baZ];exact h.len,fun j y hy hu=> ?_⟩;rw[bnZ] at hy;split at hy
 ·cases hn:l'[j]? with
  |none=>rw[hn] at hy;cases hy
  |some n=>
   rw[hn] at hy;simp[ZAW] at hy;subst hy
   let⟨q1,q2,q3,q4⟩:=hf n hu
   rw[q2,q3,q4];exact h.at_ j n hn q1
 ·exact h.at_ j y hy hu
theorem fS.put{l l'}(h:fS l l')(a)(s)(id):fS l (jU l' a s id):=h.mod _ _ fun _ h=>⟨h,rfl,rfl,rfl⟩
theorem fS.take{l l'}(h:fS l l')(a)(s):fS l (cR l' a s):=h.mod _ _ fun _ h=>⟨h,rfl,rfl,rfl⟩
theorem fS.drop{l l'}(h:fS l l')(a):fS l (dY l' a):=h.mod _ _ fun _ h=>by cases h
theorem fS.mv{l l'}(h:fS l l')(a)(old)(b)(name)(id):fS l (mvL l' a old b name id):=((h.take a old).put b name id).mod _ _ fun _ h=>⟨h,rfl,rfl,rfl⟩
theorem fS.alloc{l l'}{dir}{parent g}{i}(ha:oS l dir parent=some (l',i,g)):fS l l':=by
 unfold oS at ha;cases hf:oR l with
 |none=>
  rw[hf] at ha;simp only at ha;split at ha
  ·obtain⟨rfl,rfl,rfl⟩:=ha;refine⟨by simp,fun j y hy hu=> ?_⟩;by_cases hj:j<l.length
   ·rw[ZAS hj] at hy;exact .inl ⟨y,hy,hu,rfl,rfl,rfl⟩
   ·rw[ZAU (by omega)] at hy;cases hq:j-l.length with
    |succ q=>rw[hq] at hy;simp at hy
    |zero=>
     rw[hq] at hy;simp[ZAW] at hy;subst hy;exact .inr ⟨rfl,fun x hx=>by rw[ZAd (by omega)] at hx;cases hx⟩
  simp_all
 |some k=>
  rw[hf] at ha;simp at ha
  let⟨hk,hused,_⟩:=ZA3.1 hf
  have hg:=ZAB hk;rw[hg] at ha;simp only at ha;split at ha
  ·simp[ZA1] at ha;obtain⟨rfl,rfl,rfl⟩:=ha;refine⟨by rw[ZAt];exact ZAN _,fun j y hy hu=> ?_⟩;by_cases hj:j=k
   ·subst hj;rw[ZAR hk] at hy;simp at hy;subst hy;exact .inr ⟨rfl,fun x hx=>by rw[hg] at hx;obtain rfl:=ZAg hx;simp;omega⟩
   ·rw[ZAX (fun e=>hj e.symm)] at hy;exact .inl ⟨y,hy,hu,rfl,rfl,rfl⟩
  simp_all
theorem r7Z(t)(d)(s)(is):fS t.1 (fT t d s is).1.1/\(fT t d s is).1.2=t.2:=by
 unfold fT
 (repeat' split)<;>first|exact⟨fS.refl _,rfl⟩|(rename_i h;exact⟨(fS.alloc h).put _ _ _,rfl⟩)
theorem lzZ(t)(d)(s)(is):fS t.1 (eC t d s is).1.1/\(eC t d s is).1.2=t.2:=by
 unfold eC
 (repeat' split)<;>first|exact⟨fS.refl _,rfl⟩|exact⟨((fS.refl _).take _ _).drop _,rfl⟩
theorem lWZ(t)(a)(old)(b)(name):fS t.1 (eD t a old b name).1.1/\(eD t a old b name).1.2=t.2:=by
 unfold eD
 (repeat' split)<;>first|exact⟨fS.refl _,rfl⟩|exact⟨(((fS.refl _).take _ _).drop _).mv _ _ _ _ _,rfl⟩|exact⟨(fS.refl _).mv _ _ _ _ _,rfl⟩
theorem jvZ(l)(h):0<=fH l h/\fH l h<=1000:=by
 unfold fH;(repeat' split)<;>decide
theorem njZ(d)(n):0<=lB d n/\lB d n<=1000:=by
 grind[lB]
theorem ncZ(t)(d)(s)(is):0<=(fT t d s is).2.2/\(fT t d s is).2.2<=1000:=by
 unfold fT;(repeat' split)<;>first|decide|(dsimp;decide)|exact jvZ _ _
theorem hRZ(t)(d)(s)(is):0<=(eC t d s is).2.2/\(eC t d s is).2.2<=1000:=by
 unfold eC;(repeat' split)<;>first|decide|(dsimp;decide)|exact jvZ _ _|exact njZ _ _
theorem oOZ(t)(a)(old)(b)(name):0<=(eD t a old b name).2.2/\(eD t a old b name).2.2<=1000:=by
 unfold eD;(repeat' split)<;>first|decide|(dsimp;decide)|exact jvZ _ _|exact njZ _ _
theorem n9Z(m)(h):0<=(cW m h).2.2/\(cW m h).2.2<=1000:=by
 unfold cW;split
 ·decide
 ·rename_i x _;cases x.2.2.2.1
  ·split<;>(dsimp;decide)
  simp_all
theorem lnZ{t}(h:bL t)(d)(s)(is)(h0:(fT t d s is).2.2=0):kF (fT t d s is).2.1=true:=by
 rcases piZ h d s is with⟨e,he,hm⟩|⟨T,f,n,l',i,hm,mo⟩
 ·simp_all[iHZ,ZA1]
 ·rw[(iHZ h d s is).1] at hm;simp[ZA1] at hm;have hT:=mo.tree h;have hn:=mo.new h;have o:=hT.r.ino _ _ hn;have hl:=(ZAC.1 hn).1;have hlen:=hT.r.len;have hf:=mo.f;have g:=o.gen;unfold kF;rw[hm.2.2.2.1];refine ZAK ⟨by omega,by omega,g.1,g.2⟩
def dQ(x:Ino)(c:bT):Int:=if c.2.2.1=uO 5 then max x.2.2.2.2.1 (if c.2.2.2.2.2.2.2.2.2.length=0 then 0 else c.2.2.2.2.2.2.2.1+((c.2.2.2.2.2.2.2.2.2.length:Nat):Int)) else c.2.2.2.2.2.2.2.2.1
theorem eAZ{s}{c}{x}(h:bL s.2.1)(hr:bK c=true)(hop:c.2.2.1=uO 5\/c.2.2.1=uO 6)(h0:(bN (bG s.2.1) c).2.1=0)(hx:jJ s c x):
 (bN (bG s.2.1) c).1.1=((bG s.2.1).1.1.set (c.2.2.2.1.1-1).toNat (wS (dG x) (dQ x c)),s.2.1.2)/\(bN (bG s.2.1) c).2.2=(c.2.2.2.1,false,dQ x c,[],[],false,0)/\0<=dQ x c/\dQ x c<=65536:=by
 let⟨ho,hn,hb⟩:=ayZ hr
 have ha:=res0 hr h0;have hb0:(bG s.2.1).1.1[(c.2.2.2.1.1-1).toNat]? =some (dG x):=by
  unfold bG;simp only[ZAV,hx.at_];rfl
 have hd0:(bG s.2.1).2[(c.2.2.2.1.1-1).toNat]? =some (jH x):=by
  unfold bG;simp only[ZAV,hx.at_];rfl
 have hf:cW (bG s.2.1) c.2.2.2.1=(c.2.2.2.1.1,jH x,0):=by
  unfold cW;rw[coZ.2 ((⟨hx.h1,hb0,hx.used,hx.gen⟩))];simp only;rw[show(dG x).2.2.2.1=false from hx.dir,hd0];rfl
 have bR:∀b:Byt,rH (bG s.2.1).1.1 c.2.2.2.1 ((b.length:Nat):Int)=(bG s.2.1).1.1.set (c.2.2.2.1.1-1).toNat (wS (dG x) ((b.length:Nat):Int)):=fun b=>by
  unfold rH;rw[hb0];rfl
 have hsz:=dxZ h hx.at_;have hz:((jH x).length:Int)=x.2.2.2.2.1:=by unfold jH;rw[ZBL];omega
 have hres:bN (bG s.2.1) c=(((cK (bG s.2.1) c).2.1.1,kE (cK (bG s.2.1) c).2.1.1.1 (cK (bG s.2.1) c).2.1.2),0,(cK (bG s.2.1) c).2.2):=by
  unfold bN;rw[ZAL hr,ZAL ha]
 rw[hres];by_cases e5:c.2.2.1=uO 5
 ·rw[act5 e5] at ha⊢;unfold iM at ha⊢;rw[hf,ZAL rfl] at ha⊢;split at ha
  ·cases ha
  ·rename_i hle;rw[ZAJ hle];have hN:((dU (jH x) c.2.2.2.2.2.2.2.1 c.2.2.2.2.2.2.2.2.2:Nat):Int)=dQ x c:=by
    unfold dU dQ;rw[ZAL e5];split<;>omega
   simp only;rw[hN];refine⟨?_,rfl,?_⟩
   ·unfold nX;rw[bR,c9Z,hN];rfl
   ·unfold dQ;rw[ZAL e5];split<;>omega
 ·have e6:=op56 hop e5;rw[act6 e6] at ha⊢;unfold lY at ha⊢;rw[hf,ZAL rfl] at ha⊢;split at ha
  ·cases ha
  ·rename_i hle;rw[ZAJ hle];have hN:dQ x c=c.2.2.2.2.2.2.2.2.1:=by unfold dQ;rw[ZAJ e5]
   refine⟨?_,by rw[hN],by omega⟩;simp only;unfold nX;rw[bR,aNZ,hN,ZBi hn.1];rfl
theorem jnZ{m}(c)(hop:(bN m c).2.1=0->¬(c.2.2.1=uO 5\/c.2.2.1=uO 6)):fS m.1.1 (bN m c).1.1.1/\(bN m c).1.1.2=m.1.2:=by
 unfold bN at hop⊢;by_cases hr:bK c=true
 ·rw[ZAL hr] at hop⊢;by_cases h0:(cK m c).1=0
  ·rw[ZAL h0] at hop⊢;have hop:=hop rfl;have hself:(cK m c).2.1=m->fS m.1.1 (cK m c).2.1.1.1/\(cK m c).2.1.1.2=m.1.2:=fun e=>by rw[e];exact⟨fS.refl _,rfl⟩
   have hmk:cK m c=gN m c->fS m.1.1 (cK m c).2.1.1.1/\(cK m c).2.1.1.2=m.1.2:=fun e=>by
    rw[e];unfold gN;split
    ·exact r7Z _ _ _ _
    ·exact⟨fS.refl _,rfl⟩
   have hrm:cK m c=dM m c->fS m.1.1 (cK m c).2.1.1.1/\(cK m c).2.1.1.2=m.1.2:=fun e=>by
    rw[e];unfold dM;split
    ·exact lzZ _ _ _ _
    ·exact⟨fS.refl _,rfl⟩
   rcases jjZ hr with e|e|e|e|e|e|e|e|e|e|e|e
   ·refine hself ?_;unfold cK jG;rw[e];simp;(repeat' split)<;>rfl
   ·exact hmk (by unfold cK;rw[e];rfl)
   ·exact hmk (by unfold cK;rw[e];rfl)
   ·refine hself ?_;rw[act4 e];unfold jN;split<;>rfl
   ·exact absurd (.inl e) hop
   ·exact absurd (.inr e) hop
   ·exact hrm (by unfold cK;rw[e];rfl)
   ·exact hrm (by unfold cK;rw[e];rfl)
   ·rw[show cK m c=fB m c by unfold cK;rw[e];rfl];unfold fB;split
    ·exact lWZ _ _ _ _ _
    ·exact⟨fS.refl _,rfl⟩
   ·refine hself ?_;rw[show cK m c=zL m c by unfold cK;rw[e];rfl];rfl
   ·refine hself ?_;rw[show cK m c=rV m c by unfold cK;rw[e];rfl];unfold rV;split<;>rfl
   ·refine hself ?_;rw[show cK m c=AT m by unfold cK;rw[e];rfl];rfl
  ·rw[ZAJ h0];exact⟨fS.refl _,rfl⟩
 simp_all[fS.refl]
section
variable {α : Type} {key : α → Int}
theorem uniq{l:List α}(hs:(l.map key).Pairwise (·<·)){i j:Nat}{a b}(hi:l[i]? =some a)(hj:l[j]? =some b)(h:key a=key b):i=j:=by
 grind[ZAC,ZCf,ZBs]
theorem tbZ{l:List α}(hs:(l.map key).Pairwise (·<·)){x}{a}:l.find? (fun a=>key a==x)=some a↔a∈l/\key a=x:=by
 constructor
 ·grind
 ·cases hf:l.find? (fun a=>key a==x)<;>grind[ZBv,ZCN,ZCu,ZAT,uniq]
theorem hVZ{l:List α}(hs:(l.map key).Pairwise (·<·)){x}{a}(ha:key a=x)(hno:l.find? (fun a=>key a==x)=none):
 ((l.take (pre (fun a=>decide (key a<x)) l)++[a]++l.drop (pre (fun a=>decide (key a<x)) l)).map key).Pairwise (·<·):=by
 have hlt:∀b∈l.take (pre (fun a=>decide (key a<x)) l),key b<x:=fun b hb=>of_decide_eq_true (soZ _ l b hb);have hgt:∀b∈l.drop (pre (fun a=>decide (key a<x)) l),x<key b:=fun b hb=>by
  obtain⟨i,hi⟩:=ZAT hb;rw[ZAy] at hi;have h1:=fun hc=>by
   have:=(j5Z hs x _ b hi).1 hc;omega
  have h2:=by
   have:=ZBv.1 hno b (ZAI hi);simpa using this
  omega
 grind
theorem mtZ{l:List α}{n}{a b}:b∈l.take n++[a]++l.drop n↔b=a\/b∈l:=by
 have:b∈l↔b∈l.take n\/b∈l.drop n:=by rw[<-List.mem_append,ZBD]
 grind
theorem vjZ{l:List α}{i}{a b}(h:l[i]? =some a)(hk:key b=key a):(l.set i b).map key=l.map key:=by
 simp_all[d1Z]
theorem uSZ{l:List α}(hs:(l.map key).Pairwise (·<·)){i}{a b c}(h:l[i]? =some a):c∈l.set i b↔c=b\/(c∈l/\key c≠key a):=by
 constructor
 ·grind[ZAT,ZAR,ZAX,ZAI,uniq]
 ·rintro(rfl|⟨h1,h2⟩)
  ·grind[ZAI,ZAR]
  ·let⟨j,hj⟩:=ZAT h1
   by_cases e:j=i
   ·simp_all
   ·exact ZAI (by rw[ZAX (ZBk e)];omega)
end
theorem iKZ{ks}(hs:(ks.map (·.1)).Pairwise (·<·)){x}{k}:kOf ks x=some k↔k∈ks/\k.1=x:=tbZ hs
theorem rfZ{c}(h:gG c=true){cl x}:(look c cl x).2=0↔∀k,kOf c.2 cl=some k->k.2.1<x/\rOf k.2.2 x=none:=by
 unfold look
 grind
theorem tzZ(w)(k)(r):(tS w k r).1=k.1:=by
 grind[tS]
theorem oJZ{w}(_hw:1<=w){k}{r}(hk:lZ w k=true)(hr:cF r=true)(h1:r.1=k.1)(h2:k.2.1<r.2.1)(h3:rOf k.2.2 r.2.1=none):lZ w (tS w k r)=true:=by
 let⟨a1,a2,a3,a4,a5⟩:=caZ.1 hk
 have hs:=hVZ a4 rfl h3;have hle:fY k.2.2 r.2.1<=k.2.2.length:=grZ _ _;have hm:∀b,b∈k.2.2.take (fY k.2.2 r.2.1)++[r]++k.2.2.drop (fY k.2.2 r.2.1)->b.1=k.1/\k.2.1<b.2.1/\cF b=true:=fun b hb=>by
  rcases mtZ.1 hb with rfl|hb
  ·exact⟨h1,h2,hr⟩
  ·exact a5 b hb
 have hlen:(k.2.2.take (fY k.2.2 r.2.1)++[r]++k.2.2.drop (fY k.2.2 r.2.1)).length=k.2.2.length+1:=by simp;omega
 unfold tS;simp only;unfold fY at hm hlen⊢;generalize k.2.2.take (pre (fun k=>decide (k.2.1<r.2.1)) k.2.2)++[r]++k.2.2.drop (pre (fun k=>decide (k.2.1<r.2.1)) k.2.2)=L at hs hm hlen⊢;by_cases hw:((L.length:Nat):Int)>w
 ·rw[ZAL hw];cases L with
  |nil=>simp at hlen
  |cons x L=>
   simp only[ZCw,ZA4] at hs;have hx:=hm x (by simp);have hxr:=bAZ hx.2.2;simp only[ZAP,List.drop_one,List.tail_cons];refine caZ.2 ⟨by simp only;omega,by simp only;omega,by simp only;simp only[ZCA] at hlen;omega,hs.2,fun b hb=> ?_⟩;have:=hm b (by simp[hb]);exact⟨this.1,hs.1 _ (ZBf.2 ⟨b,hb,rfl⟩),this.2.2⟩
 ·rw[ZAJ hw];exact caZ.2 ⟨a1,a2,by simp only;omega,hs,hm⟩
theorem oPZ{w}{ks}(hw:1<=w)(hs:(ks.map (·.1)).Pairwise (·<·))(hb:∀k∈ks,0<=k.1/\k.1<16/\lZ w k=true){x}(hx:0<=x/\x<16):
 ((gU ks x).map (·.1)).Pairwise (·<·)/\(∀k∈gU ks x,0<=k.1/\k.1<16/\lZ w k=true)/\(gU ks x)[eW ks x]? =some (fZ ks x)/\(fZ ks x).1=x/\∀k,k.1≠x->(k∈gU ks x↔k∈ks):=by
 unfold gU fZ;cases hk:kOf ks x with
 |some k=>
  simp[Option.isSome_some,ZCq,ZCB]
  let⟨h1,h2⟩:=rVZ hs hk<;>grind
 |none=>
  simp only[Option.isSome_none,ZBK,ZCl,Option.getD_none];refine⟨hVZ hs rfl hk,fun k hk'=> ?_,?_,by first|trivial|rfl,fun k hne=> ?_⟩
  ·rcases mtZ.1 hk' with rfl|h
   ·exact⟨hx.1,hx.2,caZ.2 ⟨by simp,by simp,by simp;omega,by simp,by simp⟩⟩
   ·exact hb k h
  ·have hle:eW ks x<=ks.length:=grZ _ _;have e1:(ks.take (eW ks x)).length=eW ks x:=by rw[ZAQ];omega
   rw[ZAx,ZAU (by omega),e1,ZBr]
   rfl
  grind[mtZ]
theorem s9Z{w}{ks}{r}(h:gG (w,ks)=true)(hr:cF r=true)(hl:(look (w,ks) r.1 r.2.1).2=0):
 gG (w,iC w ks r)=true/\∀x,kOf (iC w ks r) x=if x=r.1 then some (tS w (fZ ks r.1) r) else kOf ks x:=by
 let⟨g1,g2,g3⟩:=b2Z.1 h
 have hwho:=(bAZ hr).1
 let⟨w1,w2,w3,w4,w5⟩:=oPZ g1.1 g2 g3 hwho
 have hz:=(rfZ h).1 hl;have hkept:=(w2 _ (ZAI w3)).2.2;have hgone:(fZ ks r.1).2.1<r.2.1/\rOf (fZ ks r.1).2.2 r.2.1=none:=by
  unfold fZ;cases hk:kOf ks r.1 with
  |none=>
   simp;have:=(bAZ hr).2.1;exact⟨by omega,rfl⟩
  |some k=>exact hz k hk
 have hnew:=oJZ g1.1 hkept hr w4.symm hgone.1 hgone.2;have hfst:(tS w (fZ ks r.1) r).1=(fZ ks r.1).1:=tzZ _ _ _;have hs:((iC w ks r).map (·.1)).Pairwise (·<·):=by
  unfold iC;rw[vjZ w3 hfst];exact w1
 have hmem:∀k,k∈iC w ks r↔k=tS w (fZ ks r.1) r\/(k∈gU ks r.1/\k.1≠(fZ ks r.1).1):=fun k=>uSZ w1 w3;refine⟨b2Z.2 ⟨g1,hs,fun k hk=> ?_⟩,fun x=> ?_⟩
 ·rcases(hmem k).1 hk with rfl|⟨h1,_⟩
  ·rw[hfst,w4];exact⟨hwho.1,hwho.2,hnew⟩
  ·exact w2 k h1
 ·by_cases hx:x=r.1
  ·rw[ZAL hx];exact(iKZ hs).2 ⟨(hmem _).2 (.inl rfl),by rw[hfst,w4,hx]⟩
  ·rw[ZAJ hx];apply Option.ext;intro k;rw[iKZ hs,iKZ g2,hmem];constructor
   ·rintro⟨rfl|⟨h1,_⟩,h2⟩
    ·rw[hfst,w4] at h2;exact absurd h2.symm hx
    ·exact⟨(w5 k (by omega)).1 h1,h2⟩
   ·rintro⟨h1,h2⟩;exact⟨.inr ⟨(w5 k (by omega)).2 h1,by rw[w4];omega⟩,h2⟩
end Go.Ab.D
