/- What the functions compute; the plain law. -/
import Derived.Test.YtjngohmkdmdecaaGreatStateDeadQ1
import Derived.KernelRfl
set_option linter.all false
open Prod renaming A->PA,B->PB,C->PC,D->PD,E->PE,F->PF,H->PH,I->PI,J->PJ,O->PO,P->PP,Q->PQ,V->PV,W->PW,X->PX,Y->PY,ZA->PZA,ZC->PZC,ZX->PZX,a->Pa,b->Pb,c->Pc,d->Pd,e->Pe,f->Pf,g->Pg,h->Ph,i->Pi,j->Pj,k->Pk,l->Pl,m->Pm,n->Pn,o->Po,p->Pp,q->Pq,r->Pr,s->Ps,t->Pt,u->Pu,v->Pv,w->Pw,x->Px,y->Py,z->Pz,za->Pza,zb->Pzb,zc->Pzc,zd->Pzd,ze->Pze,zf->Pzf,zg->Pzg,zh->Pzh,zi->Pzi,zj->Pzj,zk->Pzk,zl->Pzl,zm->Pzm,zn->Pzn,zo->Pzo,zp->Pzp,zq->Pzq,zr->Pzr,zs->Pzs,zt->Pzt,zu->Pzu,zv->Pzv,zw->Pzw,zx->Pzx
namespace Go.Ab
theorem ZBw:type_of% @Int.toNat_natCast:=@Int.toNat_natCast
theorem ZB1:type_of% @List.find?_eq_none:=@List.find?_eq_none
theorem ZB7:type_of% @List.map_append:=@List.map_append
theorem ZB8:type_of% @Nat.mul_le_mul_left:=@Nat.mul_le_mul_left
theorem ZCO:type_of% @List.mem_of_find?_eq_some:=@List.mem_of_find?_eq_some
theorem ZCX:type_of% @Bool.and_assoc:=@Bool.and_assoc
theorem ZCY:type_of% @Nat.mul_le_mul:=@Nat.mul_le_mul
theorem ZCg:type_of% @List.getElem?_mapIdx:=@List.getElem?_mapIdx
theorem ZCr:type_of% @List.find?_some:=@List.find?_some
end Go.Ab
namespace Go.Ab.D
open Go Go.Ab
def vM(x n:Int):Int:=if Int.tmod x n<0 then wI (Int.tmod x n+n) else Int.tmod x n
theorem iCZ(x n)(hn:1<=n):kL aB x n=some (vM x n):=by
 unfold kL vM;rw[show decide (n<1)=false from by simp;omega,aeZ (by simp;omega)]
 grind
theorem irZ(x){n}(hn:1<=n)(hn2:n<=1000000):0<=vM x n/\vM x n<n:=by
 unfold vM;have h1:=Int.tmod_lt_of_pos x (show 0<n by omega);have h2:=by
  have:=Int.tmod_lt_of_pos (-x) (show 0<n by omega);rw[Int.neg_tmod] at this;omega
 grind[w64]
theorem kiZ{dir}{x}(h:kD dir x=0):x.2.2.2.2.2.2.2=[]/\x.2.2.2.1=dir:=by
 grind[kD]
section
variable {t : cI} {a b d : Int × Int} {na nb n x z : Ino} {old name s : List UInt8} {id other : Int}
def vK(t:cI)(d:Int×Int)(s:List UInt8)(h:Int×Int):Prop:=∃n x,IsD t.1 d n/\(s,h.1)∈n.2.2.2.2.2.2.2/\t.1[(h.1-1).toNat]? =some x/\x.2.1=h.2/\x.2.2.1=true
structure yL (t:cI) (d:Int×Int) (s:List UInt8) (is:Bool) (T:cI) (f:Int×Int) (n:Ino) (l':List Ino) (i:Nat):Prop where
 dir:IsD t.1 d n
 nm:bQ s=true
 no:eB n.2.2.2.2.2.2.2 s=false
 few:n.2.2.2.2.2.2.2.length<100
 alc:Alc t.1 is d.1 l' i f.2
 T:T=(iT l' d.1 s ((i:Int)+1),t.2)
 f:f.1=(i:Int)+1
theorem nfZ{l'}{i}{g}{is}(hn:IsD t.1 d n)(hA:Alc t.1 is d.1 l' i g)(id):HT l' d.1 n s id=iT l' d.1 s id:=by
 have hne:(d.1-1).toNat≠i:=fun hc=>by
  have:=hA.was n (by rw[<-hc];exact hn.1.2.1);rw[hn.1.2.2.1] at this;grind
 unfold HT iT;rw[bJZ _ (by rw[hA.old _ hne];exact hn.1.2.1)]
theorem oeZ(h:aM t)(d)(s)(is):(∃e,e≠0/\cO aB t d s is=some (t.1,(t.2,(0,(0,e)))))\/∃T f n l' i,cO aB t d s is=some (T.1,(T.2,(f.1,(f.2,0))))/\yL t d s is T f n l' i:=by
 rcases btZ t.1 d with⟨n,hn⟩|⟨hb,hb'⟩
 ·cases hs:bQ s with
  |false=>exact .inl ⟨176,by decide,jYZ h is hn hs⟩
  |true=>
   cases hh:eB n.2.2.2.2.2.2.2 s with
   |true=>exact .inl ⟨172,by decide,h3Z h is hn hs hh⟩
   |false=>
    by_cases hl:n.2.2.2.2.2.2.2.length<100
    ·rcases hDZ h is hn hs hh hl with⟨_,hm⟩|⟨l',i,g,hA,hm⟩
     ·exact .inl ⟨5,by decide,hm⟩
     ·refine .inr ⟨(iT l' d.1 s ((i:Int)+1),t.2),((i:Int)+1,g),n,l',i,?_,⟨hn,hs,hh,hl,hA,rfl,rfl⟩⟩;rw[hm,nfZ hn hA]
    ·exact .inl ⟨5,by decide,k9Z h is hn hs hh (by omega)⟩
 ·exact .inl ⟨_,hb,m9Z h s is hb⟩
theorem yL.tree{is}{T}{f}{l'}{i}(h:aM t)(m:yL t d s is T f n l' i):aM T:=by
 rw[m.T];exact m5Z h m.dir m.nm m.no m.few m.alc
theorem yL.new{is}{T}{f}{l'}{i}(h:aM t)(m:yL t d s is T f n l' i):T.1[(f.1-1).toNat]? =some (f.1,f.2,true,is,0,[],d.1,[]):=by
 rw[m.T,m.f];rw[show((i:Int)+1-1).toNat=i from by omega,v8Z h m.dir m.alc,ZAM,ZAN rfl];intro hc;have:=m.alc.was n (by rw[hc];exact m.dir.1.2.1);rw[m.dir.1.2.2.1] at this;grind
structure UZ (t:cI) (d:Int×Int) (s:List UInt8) (is:Bool) (T:cI) (gone:List bP) (n:Ino) (id:Int) (x:Ino):Prop where
 dir:IsD t.1 d n
 e:(s,id)∈n.2.2.2.2.2.2.2
 at_:t.1[(id-1).toNat]? =some x
 mis:kD is x=0
 T:T=(cR (bO t.1 d.1 s) id,t.2)
 gone:gone=rJ x.2.2.2.2.2.1
theorem wgZ(h:aM t)(ha:IsD t.1 a na)(hb:IsD t.1 b nb)(hea:(old,id)∈na.2.2.2.2.2.2.2)(hx:t.1[(id-1).toNat]? =some x)(hanc:x.2.2.2.1=true->¬Anc t.1 id b.1):¬Anc t.1 id b.1:=by
 cases hd:x.2.2.2.1 with
 |true=>simp_all
 |false=>
  intro hc
  let⟨_,h2,_,y,hy,hu,_⟩:=h.ent ha hea
  rw[hx] at hy;cases hy;have hxe:=((h.r.ino _ x hx).file hu hd).2.1;have:=sYZ h hx h2 hxe hc hb.1.1;have hn:=hb.1.2.1;rw[this,hx] at hn;cases hn;rw[hb.2] at hd;cases hd
theorem tYZ(h:aM t)(ha:IsD t.1 a na)(hb:IsD t.1 b nb)(hs:bQ name=true)(hea:(old,id)∈na.2.2.2.2.2.2.2)(hx:t.1[(id-1).toNat]? =some x)(hanc:¬Anc t.1 id b.1)(heb:(name,other)∈nb.2.2.2.2.2.2.2)(hne:other≠id)(hz:t.1[(other-1).toNat]? =some z)(hze:z.2.2.2.2.2.2.2=[]):
 ∃na' nb',yK (cR (bO t.1 b.1 name) other,t.2) a old b name id na' nb' x/\nb'=wE nb (dS nb.2.2.2.2.2.2.2 name):=by
 let⟨_,i2,i3,y,hy,hu,hp⟩:=h.ent ha hea
 rw[hx] at hy;cases hy
 let⟨_,o2,o3,w,hw,hzu,hzp⟩:=h.ent hb heb
 rw[hz] at hw;cases hw;have hk:=thZ heb hb hz hze;have hka:(other-1).toNat≠(a.1-1).toNat:=fun hc=>by
  have:=ha.1.2.1;rw[<-hc,hz] at this;cases this;rw[hze] at hea;cases hea
 have hat:=fun j=>vjZ (s:=name) hk hb hz j;have hb1:=hb.1.1;have hfb:=h.few hb.1;have hdl:=mYZ (h.srt hb.1) heb;have hkb:(id-1).toNat≠(b.1-1).toNat:=fun hc=>by
  have:id=b.1:=by omega
  exact hanc (by rw[this];exact .refl)
 have hno:eB (dS nb.2.2.2.2.2.2.2 name) name=false:=by
  cases hh:eB (dS nb.2.2.2.2.2.2.2 name) name with
  |false=>rfl
  |true=>let⟨i,hi⟩:=aBZ.1 hh;exact absurd rfl (bHZ.1 hi).2
 have hdb:IsD (cR (bO t.1 b.1 name) other) b (wE nb (dS nb.2.2.2.2.2.2.2 name)):=⟨⟨hb1,by rw[hat,ZAM (by omega),ZAN rfl],hb.1.2.2.1,hb.1.2.2.2⟩,hb.2⟩;have hda:∃na',IsD (cR (bO t.1 b.1 name) other) a na'/\(old,id)∈na'.2.2.2.2.2.2.2:=by
  by_cases hab:(a.1-1).toNat=(b.1-1).toNat
  ·have hnn:na=nb:=by
    have:=ha.1.2.1;rw[hab,hb.1.2.1] at this;injection this with this;exact this.symm
   subst hnn;refine⟨wE na (dS na.2.2.2.2.2.2.2 name),⟨⟨ha.1.1,by rw[hat,ZAM (by omega),ZAN hab],ha.1.2.2.1,ha.1.2.2.2⟩,ha.2⟩,bHZ.2 ⟨hea,fun hc=> ?_⟩⟩;have hc:=hc;subst hc;exact hne (dHZ (h.srt hb.1) heb hea)
  ·exact⟨na,⟨⟨ha.1.1,by rw[hat,ZAM (by omega),ZAM hab];exact ha.1.2.1,ha.1.2.2.1,ha.1.2.2.2⟩,ha.2⟩,hea⟩
 let⟨na',hda,hea'⟩:=hda
 refine⟨na',_,⟨hda,hdb,hea',?_,hs,hno,fun _=> ?_,fun hc=>hanc ?_⟩,rfl⟩
 ·show(cR (bO t.1 b.1 name) other)[(id-1).toNat]? =_;rw[hat,ZAM (by omega),ZAM hkb];exact hx
 ·show(dS _ _).length<100;omega
 ·have go:∀i,Anc (cR (bO t.1 b.1 name) other) id i->1<=i->Anc t.1 id i:=fun i hi=>by
   induction hi with
   |refl=>intro _;exact .refl
   | @step i y h1 hy hyu _ ih=>
     intro hi1;rw[hat] at hy;by_cases c1:(i-1).toNat=(other-1).toNat
     ·rw[ZAN c1] at hy;cases hy;cases hyu
     ·rw[ZAM c1] at hy;by_cases c2:(i-1).toNat=(b.1-1).toNat
      ·rw[ZAN c2] at hy;cases hy;exact .step h1 (by rw[c2];exact hb.1.2.1) hb.1.2.2.1 (ih ((h.r.ino _ nb hb.1.2.1).par hb.1.2.2.1).1)
      ·rw[ZAM c2] at hy;exact .step h1 hy hyu (ih ((h.r.ino _ y hy).par hyu).1)
  exact go _ hc hb1
inductive NJ (t:cI) (a:Int×Int) (old:List UInt8) (b:Int×Int) (name:List UInt8) (T:cI) (gone:List bP) (id:Int) (x:Ino):Prop
 |same {na nb:Ino}:T=t->gone=[]->IsD t.1 a na->IsD t.1 b nb->(old,id)∈na.2.2.2.2.2.2.2->(name,id)∈nb.2.2.2.2.2.2.2->t.1[(id-1).toNat]? =some x->NJ t a old b name T gone id x
 |move {na nb:Ino}:T=(mvL t.1 a.1 old b.1 name id,t.2)->gone=[]->yK t a old b name id na nb x->NJ t a old b name T gone id x
 |over {na nb na' nb' z:Ino} {other:Int}:T=(mvL (cR (bO t.1 b.1 name) other) a.1 old b.1 name id,t.2)->gone=rJ z.2.2.2.2.2.1->IsD t.1 a na->IsD t.1 b nb->(old,id)∈na.2.2.2.2.2.2.2->t.1[(id-1).toNat]? =some x->(name,other)∈nb.2.2.2.2.2.2.2->other≠id->t.1[(other-1).toNat]? =some z->kD x.2.2.2.1 z=0->aM (cR (bO t.1 b.1 name) other,t.2)->yK (cR (bO t.1 b.1 name) other,t.2) a old b name id na' nb' x->NJ t a old b name T gone id x
end
theorem t8Z:aM ([(1,1,true,true,0,[],1,[])],0):=by
 refine⟨⟨by simp,by simp,fun i n hn=> ?_,by simp[aD,aO],_,rfl,rfl,rfl,rfl⟩,fun i n hn s id he=> ?_,fun j x hx hu hj=> ?_,fun j x hx hu=> ?_⟩
 ·cases i with
  |zero=>simp at hn;subst hn;exact⟨rfl,by simp,by simp,fun _ _=>⟨rfl,rfl,by simp,trivial⟩,by simp,by simp⟩
  |succ i=>grind
 ·cases i<;>grind
 ·simp_all
 ·cases j with
  |zero=>exact .root
  |succ i=>grind
def nM(l:List Ino)(dir:Bool)(parent:Int):Option (List Ino×Nat×Int):=
 match nL l with
 |none=>if l.length<500 then some (l++[((l.length:Int)+1,1,true,dir,0,[],parent,[])],l.length,1) else none
 |some i=>match l[i]? with
  |none=>none
  |some n=>if n.2.1<1099511627776 then some (l.set i ((i:Int)+1,n.2.1+1,true,dir,0,[],parent,[]),i,n.2.1+1) else none
theorem unZ{l l'}{dir}{parent g}{i}(h:Alc l dir parent l' i g):nM l dir parent=some (l',i,g):=by
 unfold nM;have hs:=h.slot;have hlen:=h.len;cases hf:nL l with
 |none=>
  rw[hf] at hs;have hs:i=l.length:=hs;rw[ZAM (by omega)] at hlen;have:=h.few;have hg:=by
   have:=h.gen;rw[ZAw (by omega)] at this;exact this
  rw[ZAN (by omega)];subst hs hg;show some (l++[((l.length:Int)+1,1,true,dir,0,[],parent,[])],l.length,(1:Int))=some (l',l.length,0+1);have e:l++[((l.length:Int)+1,1,true,dir,0,[],parent,[])]=l':= ?_
  ·rw[e];rfl
  refine ZBW fun j=> ?_;by_cases hj:j=l.length
  ·subst hj;rw[h.new];simp
  ·rw[h.old j hj];by_cases hj2:j<l.length
   ·rw[ZAT hj2]
   ·rw[ZAw (by simp;omega),ZAw (by omega)]
 |some k=>
  rw[hf] at hs;have hs:=hs;subst hs
  let⟨hk,_,_⟩:=ZA2.1 hf
  have hg:=ZAC hk;have hgen:=h.gen;rw[hg] at hgen;have hgen:g=l[i].2.1+1:=hgen;have:=h.top;simp only[hg];rw[ZAN (by omega),<-hgen];congr 2;refine ZBW fun j=> ?_;by_cases hj:j=i
  ·subst hj;rw[h.new,ZAU hk]
  ·rw[h.old j hj,ZAa (by omega)]
theorem nDZ{l}(h:vD l)(dir)(parent):nM l dir parent=none:=by
 unfold vD at h;unfold nM
 grind
def vN(l:List Ent)(s:List UInt8):Option Int:=(l.find? fun e=>e.1==s).map (·.2)
theorem dCZ{l}(h:Srt l){s}{id}(hm:(s,id)∈l):vN l s=some id:=by
 unfold vN;cases hf:l.find? (fun e=>e.1==s)<;>grind[ZB1,ZCO,ZCr,dHZ]
theorem dIZ{l}{s}(h:eB l s=false):vN l s=none:=by
 grind[vN,ZB1,aBZ]
def GP(l:List Ino)(top:Int):Nat->Int->Bool
 |0,id=>id==top
 |k+1,id=>bif id==top then true else bif id==1 then false else match l[(id-1).toNat]? with
  |some n=>n.2.2.1&&GP l top k n.2.2.2.2.2.2.1
  |none=>false
theorem pGZ{l}(top):∀(k) (id),bV l k id=true->(GP l top k id=true↔Anc l top id)
 |0,id,h=>by
  have h:=by unfold bV at h;simpa using h
  unfold GP;rw[ZBz];constructor
  ·rintro rfl;exact .refl
  ·intro ha;cases ha<;>grind
 |k+1,id,h=>by
  unfold GP;cases h1:(id==top) with
  |true=>rw[ZBz] at h1;subst h1;simp;exact .refl
  |false=>
   cases h2:(id==1) with
   |true=>
    simp only[ZAK];constructor
    ·simp_all
    ·intro ha;cases ha<;>grind
   |false=>
    unfold bV at h;rw[h2] at h;simp only[ZAD] at h⊢;cases hg:l[(id-1).toNat]? with
    |none=>simp_all
    |some n=>
     rw[hg] at h;simp at h⊢;rw[pGZ top k _ h.2];constructor
     ·rintro⟨h3,h4⟩;exact .step (by simpa using h2) hg h3 h4
     ·intro ha;cases ha with
      |refl=>rw[ZAd] at h1;cases h1
      |step _ h4 h5 h6=>rw[hg] at h4;cases h4;exact⟨h5,h6⟩
theorem mGZ{t}(h:aM t){b}{nb}(hb:IsD t.1 b nb)(top):GP t.1 top t.1.length b.1=true↔Anc t.1 top b.1:=by
 have hlt:=(ZAB.1 hb.1.2.1).1;have hdb:=fkZ hb;have hb1:=hb.1.1;exact pGZ top _ _ (eVZ h.r.len.1 (fun j x hx hxu=>(h.r.ino j x hx).par hxu) hb1 (by omega) (by have:=h.a _ nb hb.1.2.1 hb.1.2.2.1;simp_all))
def fW(t:cI)(d:Int×Int)(s:List UInt8)(is:Bool):cI×(Int×Int)×Int:=
 if eD t.1 d=0 then
  if bQ s=true then
   match t.1[(d.1-1).toNat]? with
   |none=>(t,(0,0),170)
   |some n=>if eB n.2.2.2.2.2.2.2 s=true then(t,(0,0),172) else if 100<=n.2.2.2.2.2.2.2.length then(t,(0,0),5) else
    match nM t.1 is d.1 with
    |none=>(t,(0,0),5)
    |some (l',i,g)=>((iT l' d.1 s ((i:Int)+1),t.2),((i:Int)+1,g),0)
  else(t,(0,0),176)
 else(t,(0,0),eD t.1 d)
theorem jjZ{t}(h:aM t)(d)(s)(is):cO aB t d s is=some ((fW t d s is).1.1,((fW t d s is).1.2,((fW t d s is).2.1.1,((fW t d s is).2.1.2,(fW t d s is).2.2))))/\aM (fW t d s is).1:=by
 unfold fW;rcases btZ t.1 d with⟨n,hn⟩|⟨hb,_⟩
 ·rw[ZAN (ceZ hn),hn.1.2.1];simp;cases hs:bQ s with
  |false=>exact⟨jYZ h is hn hs,h⟩
  |true=>
   rw[ZAN rfl];cases hh:eB n.2.2.2.2.2.2.2 s with
   |true=>exact⟨h3Z h is hn hs hh,h⟩
   |false=>
    by_cases hl:100<=n.2.2.2.2.2.2.2.length
    ·rw[ZAN hl];exact⟨k9Z h is hn hs hh hl,h⟩
    ·rw[ZAM hl];rcases hDZ h is hn hs hh (by omega) with⟨hno,hm⟩|⟨l',i,g,hA,hm⟩
     ·rw[nDZ hno];exact⟨hm,h⟩
     ·rw[unZ hA,hm,nfZ hn hA];exact⟨rfl,m5Z h hn hs hh (by omega) hA⟩
 ·rw[ZAM hb];exact⟨m9Z h s is hb,h⟩
def dV(t:cI)(d:Int×Int)(s:List UInt8)(is:Bool):cI×List bP×Int:=
 if eD t.1 d=0 then
  if bQ s=true then
   match t.1[(d.1-1).toNat]? with
   |none=>(t,[],170)
   |some n=>match vN n.2.2.2.2.2.2.2 s with
    |none=>(t,[],171)
    |some id=>match t.1[(id-1).toNat]? with
     |none=>(t,[],170)
     |some x=>if kD is x=0 then((cR (bO t.1 d.1 s) id,t.2),rJ x.2.2.2.2.2.1,0) else(t,[],kD is x)
  else(t,[],176)
 else(t,[],eD t.1 d)
theorem jIZ{t}(h:aM t)(d)(s)(is):yB aB t d s is=some ((dV t d s is).1.1,((dV t d s is).1.2,((dV t d s is).2.1,(dV t d s is).2.2)))/\aM (dV t d s is).1:=by
 unfold dV;rcases btZ t.1 d with⟨n,hn⟩|⟨hb,_⟩
 ·rw[ZAN (ceZ hn),hn.1.2.1];simp only;cases hs:bQ s with
  |false=>exact⟨lWZ h is hn hs,h⟩
  |true=>
   cases hh:eB n.2.2.2.2.2.2.2 s with
   |false=>rw[dIZ hh];exact⟨lOZ h is hn hs hh,h⟩
   |true=>
    let⟨id,he⟩:=aBZ.1 hh
    let⟨_,_,_,x,hx,hu,_⟩:=h.ent hn he
    rw[dCZ (h.srt hn.1) he];simp only[hx];have hr:=lrZ h is hn he hx;by_cases hm:kD is x=0
    ·rw[ZAN hm] at hr⊢;exact⟨hr,mUZ h hn he hx (kiZ hm).1⟩
    ·rw[ZAM hm] at hr⊢;exact⟨hr,h⟩
 ·rw[ZAM hb];exact⟨o6Z h s is hb,h⟩
def dW(t:cI)(a:Int×Int)(old:List UInt8)(b:Int×Int)(name:List UInt8):cI×List bP×Int:=
 if eD t.1 a=0 then
  if eD t.1 b=0 then
   if(bQ old&&bQ name)=true then
    match t.1[(a.1-1).toNat]? with
    |none=>(t,[],170)
    |some na=>match t.1[(b.1-1).toNat]? with
     |none=>(t,[],170)
     |some nb=>match vN na.2.2.2.2.2.2.2 old with
      |none=>(t,[],171)
      |some id=>match t.1[(id-1).toNat]? with
       |none=>(t,[],170)
       |some x=>if(x.2.2.2.1&&GP t.1 id t.1.length b.1)=true then(t,[],178) else
        match vN nb.2.2.2.2.2.2.2 name with
        |none=>if a.1≠b.1/\100<=nb.2.2.2.2.2.2.2.length then(t,[],5) else((mvL t.1 a.1 old b.1 name id,t.2),[],0)
        |some other=>if other=id then(t,[],0) else match t.1[(other-1).toNat]? with
         |none=>(t,[],170)
         |some z=>if kD x.2.2.2.1 z=0 then((mvL (cR (bO t.1 b.1 name) other) a.1 old b.1 name id,t.2),rJ z.2.2.2.2.2.1,0) else(t,[],kD x.2.2.2.1 z)
   else(t,[],176)
  else(t,[],eD t.1 b)
 else(t,[],eD t.1 a)
theorem jTZ{t}(h:aM t)(a)(old)(b)(name):kR aB t a old b name=some ((dW t a old b name).1.1,((dW t a old b name).1.2,((dW t a old b name).2.1,(dW t a old b name).2.2)))/\aM (dW t a old b name).1:=by
 unfold dW;rcases btZ t.1 a with⟨na,ha⟩|⟨hb,_⟩
 ·rw[ZAN (ceZ ha)];rcases btZ t.1 b with⟨nb,hb⟩|⟨hb,_⟩
  ·rw[ZAN (ceZ hb)];cases hsn:(bQ old&&bQ name) with
   |false=>grind[l5Z]
   |true=>
    rw[ha.1.2.1,hb.1.2.1];simp only;rw[ZAF] at hsn
    let⟨hso,hs⟩:=hsn
    cases hh:eB na.2.2.2.2.2.2.2 old with
    |false=>rw[dIZ hh];exact⟨l9Z h ha hb hso hs hh,h⟩
    |true=>
     let⟨id,hea⟩:=aBZ.1 hh
     let⟨_,_,_,x,hx,hu,hp⟩:=h.ent ha hea
     rw[dCZ (h.srt ha.1) hea];simp only[hx];by_cases hl:(x.2.2.2.1&&GP t.1 id t.1.length b.1)=true
     ·rw[ZAN hl];rw[ZAF] at hl;exact⟨kQZ h ha hb hs hea hx hl.1 ((mGZ h hb id).1 hl.2),h⟩
     ·rw[ZAM hl];have hanc:x.2.2.2.1=true->¬Anc t.1 id b.1:=fun h1 h2=>hl (by rw[h1,(mGZ h hb id).2 h2];rfl);have hanc':=wgZ h ha hb hea hx hanc;cases hhb:eB nb.2.2.2.2.2.2.2 name with
      |false=>
       rw[dIZ hhb];simp;by_cases hfull:a.1≠b.1/\100<=nb.2.2.2.2.2.2.2.length
       ·rw[ZAN hfull];exact⟨l4Z h ha hb hs hea hx hanc hhb hfull.1 hfull.2,h⟩
       ·rw[ZAM hfull];have hfw:a.1≠b.1->nb.2.2.2.2.2.2.2.length<100:=fun hc=>by
         have:=fun hh=>hfull ⟨hc,hh⟩;omega
        have m:yK t a old b name id na nb x:=⟨ha,hb,hea,hx,hs,hhb,hfw,hanc'⟩;exact⟨kSZ h m hanc,naZ h m⟩
      |true=>
       let⟨other,heb⟩:=aBZ.1 hhb
       let⟨_,_,_,z,hz,hzu,hzp⟩:=h.ent hb heb
       rw[dCZ (h.srt hb.1) heb];simp only;by_cases hne:other=id
       ·subst hne;rw[ZAN rfl];exact⟨l1Z h ha hb hs hea hx hanc heb,h⟩
       ·rw[ZAM hne,hz];simp;by_cases hm:kD x.2.2.2.1 z=0
        ·rw[ZAN hm];have hze:=(kiZ hm).1;have h0:=mUZ h hb heb hz hze
         let⟨na',nb',m,_⟩:=tYZ h ha hb hs hea hx hanc' heb hne hz hze
         exact⟨l6Z h ha hb hs hea hx hanc heb hne hz hm h0 m,naZ h0 m⟩
        ·rw[ZAM hm];exact⟨oVZ h ha hb hs hea hx hanc heb hne hz hm,h⟩
  ·rw[ZAM hb];exact⟨lYZ h ha hb,h⟩
 ·rw[ZAM hb];exact⟨kWZ h hb,h⟩
abbrev aX:Type:=Int×(Int×(UInt8×((Int×Int)×(List UInt8×((Int×Int)×(List UInt8×(Int×(Int×List UInt8))))))))
abbrev Has:Type:=Bool×(Bool×(Bool×(Bool×(Int×(Bool×Bool)))))
instance UR:DecidableEq (Int×(Bool×Bool)):=instDecidableEqProd
instance US:DecidableEq (Bool×(Int×(Bool×Bool))):=instDecidableEqProd
instance UT:DecidableEq (Bool×(Bool×(Int×(Bool×Bool)))):=instDecidableEqProd
instance UU:DecidableEq (Bool×(Bool×(Bool×(Int×(Bool×Bool))))):=instDecidableEqProd
instance UV:DecidableEq Has:=instDecidableEqProd
def sQ(o:Nat):Has:=
 if o=1\/o=2\/o=3\/o=7\/o=8 then(true,(true,(false,(false,(0,(false,true))))))
 else if o=4 then(true,(false,(false,(true,(4096,(false,true))))))
 else if o=5 then(true,(false,(false,(true,(0,(true,true))))))
 else if o=6 then(true,(false,(false,(false,(2147483648,(false,true))))))
 else if o=9 then(true,(true,(true,(false,(0,(false,true))))))
 else if o=10 then(true,(true,(false,(false,(4096,(false,true))))))
 else if o=11 then(true,(false,(false,(false,(0,(false,true))))))
 else if o=12 then(false,(false,(false,(false,(0,(false,true))))))
 else(false,(false,(false,(false,(0,(false,false))))))
theorem pmZ:∀n,n<256->PZ aB ((n:Nat):Int)=some (sQ n):=by decide+kernel
theorem scZ(o:UInt8):PZ aB ((o.toNat:Nat):Int)=some (sQ o.toNat):=pmZ _ o.toNat_lt
def CH(a b:Int):Bool:=decide (0<=a/\a<16/\1<=b/\b<=1099511627776)
theorem shZ(a b):FN aB a b=some (CH a b):=by
 grind[FN,CH]
def CI(h:Int×Int):Bool:=decide (1<=h.1/\h.1<=500/\1<=h.2/\h.2<=1099511627776)
theorem q1Z(h):FO aB h=some (CI h):=by
 grind[FO,CI]
def ofB(is:Bool)(h:Int×Int):Bool:=bif is then CI h else((h.1==0)&&(h.2==0))
theorem vvZ(is)(h):oS aB is h=some (ofB is h):=by
 unfold oS ofB;cases is with
 |true=>
  grind[q1Z,ZAA]
 |false=>rfl
def zU(is:Bool)(l:List UInt8):Bool:=(l==[])||(is&&decide (l.length<=100))
theorem pOZ(is)(l):oT aB is l=some (zU is l):=by
 unfold oT zU
 grind[ZAJ,ZAE]
def vE(s:Has)(c:aX):Bool:=
 s.2.2.2.2.2.2&&(CH c.1 c.2.1&&(ofB s.1 c.2.2.2.1&&(ofB s.2.2.1 c.2.2.2.2.2.1&&(zU s.2.1 c.2.2.2.2.1&&(zU s.2.2.1 c.2.2.2.2.2.2.1&&
  (decide (0<=c.2.2.2.2.2.2.2.1/\c.2.2.2.2.2.2.2.1<=2147483648)&&((s.2.2.2.1||(c.2.2.2.2.2.2.2.1==0))&&(decide (0<=c.2.2.2.2.2.2.2.2.1/\c.2.2.2.2.2.2.2.2.1<=s.2.2.2.2.1)&&
   (decide (c.2.2.2.2.2.2.2.2.2.length=0)||(s.2.2.2.2.2.1&&decide (c.2.2.2.2.2.2.2.2.2.length<=4096)))))))))))
def aL(c:aX):Bool:=vE (sQ c.2.2.1.toNat) c
theorem ayZ(c:aX):nE aB c=some (aL c):=by
 let⟨c1,c2,c3,⟨h1,h2⟩,nm,⟨t1,t2⟩,nw,off,n,bs⟩:=c
 unfold nE aL Pa Pb Pc Pd Pe Pf Pg Ph Pi Pj Pk Pl Pm Pn Po Pp Pq PE PH PQ;simp only;rw[scZ];generalize sQ c3.toNat=s
 let⟨sh,sn,st,so,sN,sb,ok⟩:=s
 unfold vE;simp only[ZAA];cases ok with
 |false=>rfl
 |true=>
  simp only[ZAQ];rw[shZ];generalize CH c1 c2=w;cases w with
  |false=>rfl
  |true=>
   simp only[ZAA,ZAD];rw[vvZ];generalize ofB sh (h1,h2)=a1;cases a1 with
   |false=>rfl
   |true=>
    simp only[ZAQ];rw[vvZ];generalize ofB st (t1,t2)=a2;cases a2 with
    |false=>rfl
    |true=>
     simp only[ZAD];rw[pOZ];generalize zU sn nm=a3;cases a3 with
     |false=>rfl
     |true=>
      simp only[ZAA,ZAD];rw[pOZ];generalize zU st nw=a4;cases a4 with
      |false=>rfl
      |true=>
       simp only[ZAA,ZAQ,ZAD];by_cases o1:off<0
       ·rw[ZAJ o1,ZAE (show¬(0<=off/\off<=2147483648) by omega)];rfl
       by_cases o2:off>2147483648
       ·rw[ZAE o1,ZAJ o2,ZAE (show¬(0<=off/\off<=2147483648) by omega)];rfl
       rw[ZAE o1,ZAE o2,ZAJ (show 0<=off/\off<=2147483648 by omega)];have eb:decide (((bs.length:Nat):Int)<=4096)=decide (bs.length<=4096):=by
        by_cases h:bs.length<=4096
        ·rw[ZAJ h,ZAJ (by omega)]
        ·rw[ZAE h,ZAE (by omega)]
       have e0:(((bs.length:Nat):Int)==0)=decide (bs.length=0):=by
        by_cases h:bs.length=0
        ·rw[ZAJ h,h];rfl
        ·rw[ZAE h,ZAW.2 (by omega)]
       by_cases n1:n<0
       ·rw[ZAJ n1,ZAE (show¬(0<=n/\n<=sN) by omega)];cases so<;>cases(off==0)<;>rfl
       by_cases n2:n>sN
       ·rw[ZAE n1,ZAJ n2,ZAE (show¬(0<=n/\n<=sN) by omega)];cases so<;>cases(off==0)<;>rfl
       rw[ZAE n1,ZAE n2,ZAJ (show 0<=n/\n<=sN by omega),<-e0,<-eb];cases so<;>cases(off==0)<;>simp only[ZAK,ZAD,ZAQ,ZAn,ZAA,ZBT,Bool.or_false,Bool.or_true,Bool.false_and,e0,eb]<;>
        (generalize decide (bs.length=0)=x0)<;>(generalize decide (bs.length<=4096)=x1)<;>cases x0<;>cases sb<;>cases x1<;>rfl
abbrev Byt:=List UInt8
abbrev Mod:=cI×List Byt
structure aZ (m:Mod):Prop where
 t:aM m.1
 n:m.2.length=m.1.1.length
 p:∀(i:Nat) x,m.1.1[i]? =some x->x.2.2.2.2.2.1=[]
 s:∀(i:Nat) x b,m.1.1[i]? =some x->m.2[i]? =some b->((b.length:Nat):Int)=x.2.2.2.2.1
theorem edZ{t}(h:aM t){i:Nat}{x}(hx:t.1[i]? =some x):0<=x.2.2.2.2.1/\x.2.2.2.2.1<=65536/\(x.2.2.1=false->x.2.2.2.2.1=0)/\(x.2.2.2.1=true->x.2.2.2.2.1=0):=by
 have o:=h.r.ino i x hx;cases hu:x.2.2.1 with
 |false=>have:=o.bare hu;omega
 |true=>
  cases hd:x.2.2.2.1 with
  |true=>have:=o.dir hu hd;omega
  |false=>have:=o.file hu hd;simp_all
theorem aZ.at{m}(h:aZ m){i:Nat}{x}(hx:m.1.1[i]? =some x):∃b,m.2[i]? =some b/\((b.length:Nat):Int)=x.2.2.2.2.1/\b.length<=65536:=by
 have hlt:=(ZAB.1 hx).1;obtain⟨b,hb⟩:∃b,m.2[i]? =some b:=⟨_,ZAC (by rw[h.n];exact hlt)⟩;have h1:=h.s i x b hx hb;have h2:=edZ h.t hx
 grind
theorem aZ.byt{m}(h:aZ m){i:Nat}{b}(hb:m.2[i]? =some b):b.length<=65536:=by
 have hlt:=(ZAB.1 hb).1;obtain⟨x,hx⟩:∃x,m.1.1[i]? =some x:=⟨_,ZAC (by rw[<-h.n];exact hlt)⟩
 let⟨b',hb',_,h2⟩:=h.at hx<;>grind
theorem aZ.len{m}(h:aZ m):1<=m.1.1.length/\m.1.1.length<=500:=h.t.r.len
theorem aZ.fit{m}(h:aZ m):Fit m.1.1:=h.t.r.fit
theorem a2Z{m}(h:aZ m):OZ aB m=some true:=by
 unfold OZ;have hl:=h.len;rw[bBZ h.t];simp[ZAA];rw[h.n,ZAd];simp[ZAD];have loop:sA aB (false,(m.1.1,(m.1.2,m.2))) (0,(m.1.1,(m.1.2,m.2)))=some (.inl ()):=by
  unfold sA;refine aoZ (fun k=>((k:Int),(m.1.1,(m.1.2,m.2)))) m.1.1.length (by omega) (fun k hk=> ?_) ?_
  ·unfold BF;obtain⟨x,hx⟩:∃x,m.1.1[k]? =some x:=⟨_,ZAC hk⟩
   let⟨b,hb,hs,_⟩:=h.at hx
   simp only[aEZ hk];rw[acZ hk];simp[hx];rw[h.p k x hx];simp[ZAD];rw[acZ (by rw[h.n];exact hk)];simp[hb];rw[hs,ZAd,w64 (by omega)]
   rfl
  ·unfold BF;simp[ZAD]
 simp_all
theorem dKZ{t:cI}(h:Fit t.1):BO aB t=some (t.2,t.1):=by
 unfold BO;rw[cVZ h.n];have loop:xY aB t.1 (0,(t.2,(t.1,0)))=some (t.2,(t.1,0)):=by
  refine aoZ (fun k=>((k:Int),(t.2,(t.1,0)))) t.1.length (by have:=h.n;omega) (fun k hk=> ?_) ?_
  ·unfold BN Pb Pc Pd Pe PE;obtain⟨n,hg⟩:∃n,t.1[k]? =some n:=⟨_,ZAC hk⟩;have hsm:=h.at hg;have hs:=dNZ hg;simp only[aEZ hk];rw[acZ hk];simp only[ZAA,hg];rw[cLZ hsm.1,d7Z hsm.2];show((aK ((k:Nat):Int) (t.1.set k n).length).bind fun q3=>((t.1.set k n)[q3]?.bind _))=_;rw[hs,acZ hk,ZAA,hg,w64 (by have:=h.n;omega)];show some (Sum.inl (_,(t.2,(t.1.set k n,0))))=_;rw[hs]
   rfl
  ·unfold BN Pb Pc Pd Pe PE;simp[ZAD]
 simp_all
theorem iyZ{l:Byt}(h:l.length<=100000):rF aB l=some l:=by
 unfold rF;rw[cBZ]
 ·simp;rw[aeZ (by simp[asZ];omega)]
 ·intro h0;obtain rfl:=ZAX h0
  rfl
theorem j4Z{l:List Byt}(h:l.length<=100000):DV aB l=some l:=by
 unfold DV;rw[cBZ]
 ·simp;rw[aeZ (by simp[asZ];omega)]
 ·intro h0;obtain rfl:=ZAX h0
  rfl
abbrev Rep:=(Int×Int)×Bool×Int×Byt×List Ent×Bool×Int
abbrev DoR:=Int×Mod×Rep
def lR:Rep:=((0,0),false,0,[],[],false,0)
def stO(q:DoR)(c:aX):Int×(List Ino×(Int×(List Byt×(Int×(Int×(Int×(Int×(Int×(Byt×(Int×(Int×(Byt×(Int×(Int×(Byt×IS))))))))))))))):=(q.1,(q.2.1.1.1,(q.2.1.1.2,(q.2.1.2,(c.1,(c.2.1,(((c.2.2.1.toNat:Nat):Int),(c.2.2.2.1.1,(c.2.2.2.1.2,(c.2.2.2.2.1,(c.2.2.2.2.2.1.1,(c.2.2.2.2.2.1.2,(c.2.2.2.2.2.2.1,(c.2.2.2.2.2.2.2.1,(c.2.2.2.2.2.2.2.2.1,(c.2.2.2.2.2.2.2.2.2,(c.1,(c.2.1,(0,(q.2.2.1.1,(q.2.2.1.2,(q.2.2.2.1,(q.2.2.2.2.1,(q.2.2.2.2.2.2.2.1,q.2.2.2.2.2.2.2.2))))))))))))))))))))))))
def stB(q:DoR)(c:aX):Int×(List Ino×(Int×(List Byt×(Int×(Int×(Int×(Int×(Int×(Byt×(Int×(Int×(Byt×(Int×(Int×(Byt×(Int×(Int×(Int×(Int×(Int×(Bool×(Int×(Byt×(Bool×Int)))))))))))))))))))))))):=(q.1,(q.2.1.1.1,(q.2.1.1.2,(q.2.1.2,(c.1,(c.2.1,(((c.2.2.1.toNat:Nat):Int),(c.2.2.2.1.1,(c.2.2.2.1.2,(c.2.2.2.2.1,(c.2.2.2.2.2.1.1,(c.2.2.2.2.2.1.2,(c.2.2.2.2.2.2.1,(c.2.2.2.2.2.2.2.1,(c.2.2.2.2.2.2.2.2.1,(c.2.2.2.2.2.2.2.2.2,(c.1,(c.2.1,(0,(q.2.2.1.1,(q.2.2.1.2,(q.2.2.2.1,(q.2.2.2.2.1,(q.2.2.2.2.2.1,(q.2.2.2.2.2.2.2.1,q.2.2.2.2.2.2.2.2)))))))))))))))))))))))))
def stE(q:DoR)(c:aX):Int×(List Ino×(Int×(List Byt×(Int×(Int×(Int×(Int×(Int×(Byt×(Int×(Int×(Byt×(Int×(Int×(Byt×(Int×(Int×(Int×(Int×(Int×(Bool×(Int×(List Ent×(Bool×Int)))))))))))))))))))))))):=(q.1,(q.2.1.1.1,(q.2.1.1.2,(q.2.1.2,(c.1,(c.2.1,(((c.2.2.1.toNat:Nat):Int),(c.2.2.2.1.1,(c.2.2.2.1.2,(c.2.2.2.2.1,(c.2.2.2.2.2.1.1,(c.2.2.2.2.2.1.2,(c.2.2.2.2.2.2.1,(c.2.2.2.2.2.2.2.1,(c.2.2.2.2.2.2.2.2.1,(c.2.2.2.2.2.2.2.2.2,(c.1,(c.2.1,(0,(q.2.2.1.1,(q.2.2.1.2,(q.2.2.2.1,(q.2.2.2.2.1,(q.2.2.2.2.2.2.1,(q.2.2.2.2.2.2.2.1,q.2.2.2.2.2.2.2.2)))))))))))))))))))))))))
def mP(t:cI)(d:Int×Int)(s:Byt):Int×(Int×Int):=
 if eD t.1 d=0 then
  if bQ s=true then
   match t.1[(d.1-1).toNat]? with
   |none=>(170,(0,0))
   |some n=>match vN n.2.2.2.2.2.2.2 s with
    |none=>(171,(0,0))
    |some id=>match t.1[(id-1).toNat]? with
     |none=>(170,(0,0))
     |some x=>(0,(id,x.2.1))
  else(176,(0,0))
 else(eD t.1 d,(0,0))
theorem upZ{t}(h:aM t)(d)(s:Byt):xV aB t d s=some ((mP t d s).2.1,((mP t d s).2.2,(mP t d s).1))/\((mP t d s).1=0->1<=(mP t d s).2.1/\(mP t d s).2.1<=t.1.length/\∃x,t.1[((mP t d s).2.1-1).toNat]? =some x):=by
 unfold mP;rcases btZ t.1 d with⟨n,hn⟩|⟨hb,_⟩
 ·rw[ZAN (ceZ hn),hn.1.2.1];simp only;cases hs:bQ s with
  |false=>exact⟨lvZ h hn hs,fun h0=>by cases h0⟩
  |true=>
   rw[ZAN rfl];cases hh:eB n.2.2.2.2.2.2.2 s with
   |false=>rw[dIZ hh];exact⟨mjZ h hn hs hh,fun h0=>by cases h0⟩
   |true=>
    let⟨id,he⟩:=aBZ.1 hh
    let⟨_,q1,q2,x,hx,hu,_⟩:=h.ent hn he
    rw[dCZ (h.srt hn.1) he];simp only[hx];exact⟨laZ h hn he hx,fun _=>⟨by omega,q2,x,rfl⟩⟩
 ·rw[ZAM hb];exact⟨nXZ h s hb,fun h0=>absurd h0 hb⟩
def EP(l:List Ino)(h:Int×Int):Option Ino:=
 if 1<=h.1 then match l[(h.1-1).toNat]? with
  |some n=>if n.2.2.1=true/\n.2.1=h.2 then some n else none
  |none=>none
 else none
theorem cCZ{l}{h}{n}:EP l h=some n↔IsH l h n:=by
 unfold EP IsH;by_cases h1:1<=h.1
 ·rw[ZAN h1];cases hx:l[(h.1-1).toNat]? with
  |none=>simp
  |some x=>
   simp only;by_cases hc:x.2.2.1=true/\x.2.1=h.2
   ·rw[ZAN hc];constructor
    ·rintro⟨⟩;exact⟨h1,rfl,hc.1,hc.2⟩
    ·rintro⟨_,⟨⟩,_,_⟩;rfl
   ·rw[ZAM hc];constructor
    ·intro h;cases h
    ·rintro⟨_,⟨⟩,h2,h3⟩;exact absurd ⟨h2,h3⟩ hc
 grind
theorem kbZ{l}{h}(hn:EP l h=none):¬∃n,IsH l h n:=fun⟨n,h1⟩=>by rw[cCZ.2 h1] at hn;grind
theorem qKZ{t}(ht:aM t){h}{n}(hn:IsH t.1 h n):n.1=h.1/\1<=h.1/\(h.1-1).toNat<t.1.length:=by
 have h1:=ht.r.id hn.2.1;have h2:=hn.1;exact⟨by omega,h2,(ZAB.1 hn.2.1).1⟩
def yM(t:cI)(d:Int×Int)(s:Byt)(most:Int):Int×Bool×List Ent:=
 if eD t.1 d=0 then
  if most<0\/most>4096 then(2,false,[])
  else match t.1[(d.1-1).toNat]? with
   |none=>(170,false,[])
   |some n=>(0,decide ((iH n.2.2.2.2.2.2.2 s).length>most.toNat),(iH n.2.2.2.2.2.2.2 s).take most.toNat)
 else(eD t.1 d,false,[])
theorem tEZ{t}(h:aM t)(d)(s:Byt)(most):fR aB t d s most=some ((yM t d s most).2.1,((yM t d s most).1,(yM t d s most).2.2)):=by
 unfold yM;rcases btZ t.1 d with⟨n,hn⟩|⟨hb,_⟩
 ·rw[ZAN (ceZ hn)];by_cases hm:most<0\/most>4096
  ·grind[s8Z]
  ·rw[ZAM hm,hn.1.2.1];have:=pYZ h s (most:=most.toNat) hn (by omega);rw[show((most.toNat:Nat):Int)=most by omega] at this;exact this
 ·rw[ZAM hb];exact sAZ h s most hb
def rK(m:Mod)(c:aX):DoR:=
 if(mP m.1 c.2.2.2.1 c.2.2.2.2.1).1=0 then match m.1.1[((mP m.1 c.2.2.2.1 c.2.2.2.2.1).2.1-1).toNat]? with
  |some x=>(0,m,((mP m.1 c.2.2.2.1 c.2.2.2.2.1).2,x.2.2.2.1,x.2.2.2.2.1,[],[],false,0))
  |none=>(170,m,lR)
 else((mP m.1 c.2.2.2.1 c.2.2.2.2.1).1,m,lR)
def iI(m:Mod)(c:aX):DoR:=
 if(fW m.1 c.2.2.2.1 c.2.2.2.2.1 (((c.2.2.1.toNat:Nat):Int)==3)).2.2=0 then
  (0,((fW m.1 c.2.2.2.1 c.2.2.2.2.1 (((c.2.2.1.toNat:Nat):Int)==3)).1,m.2),((fW m.1 c.2.2.2.1 c.2.2.2.2.1 (((c.2.2.1.toNat:Nat):Int)==3)).2.1,(((c.2.2.1.toNat:Nat):Int)==3),0,[],[],false,0))
 else((fW m.1 c.2.2.2.1 c.2.2.2.2.1 (((c.2.2.1.toNat:Nat):Int)==3)).2.2,m,lR)
def dH(m:Mod)(c:aX):DoR:=
 if(dV m.1 c.2.2.2.1 c.2.2.2.2.1 (((c.2.2.1.toNat:Nat):Int)==8)).2.2=0 then
  (0,((dV m.1 c.2.2.2.1 c.2.2.2.2.1 (((c.2.2.1.toNat:Nat):Int)==8)).1,m.2),lR)
 else((dV m.1 c.2.2.2.1 c.2.2.2.2.1 (((c.2.2.1.toNat:Nat):Int)==8)).2.2,m,lR)
def eQ(m:Mod)(c:aX):DoR:=
 if(dW m.1 c.2.2.2.1 c.2.2.2.2.1 c.2.2.2.2.2.1 c.2.2.2.2.2.2.1).2.2=0 then
  (0,((dW m.1 c.2.2.2.1 c.2.2.2.2.1 c.2.2.2.2.2.1 c.2.2.2.2.2.2.1).1,m.2),lR)
 else((dW m.1 c.2.2.2.1 c.2.2.2.2.1 c.2.2.2.2.2.1 c.2.2.2.2.2.2.1).2.2,m,lR)
def EQ(m:Mod)(c:aX):DoR:=
 ((yM m.1 c.2.2.2.1 c.2.2.2.2.1 c.2.2.2.2.2.2.2.2.1).1,m,((0,0),false,0,[],(yM m.1 c.2.2.2.1 c.2.2.2.2.1 c.2.2.2.2.2.2.2.2.1).2.2,(yM m.1 c.2.2.2.1 c.2.2.2.2.1 c.2.2.2.2.2.2.2.2.1).2.1,0))
def yN(m:Mod)(c:aX):DoR:=
 match EP m.1.1 c.2.2.2.1 with
 |some x=>(0,m,(c.2.2.2.1,x.2.2.2.1,x.2.2.2.2.1,[],[],false,0))
 |none=>(170,m,lR)
def rL(l:List Ino):Nat:=l.countP (·.2.2.1)
def HU(m:Mod):DoR:=(0,m,((0,0),false,0,[],[],false,500-((rL m.1.1:Nat):Int)))
theorem s5Z{m}(h:aZ m)(c):wH aB m.1.1 m.1.2 m.2 c.1 c.2.1 ((c.2.2.1.toNat:Nat):Int) c.2.2.2.1.1 c.2.2.2.1.2 c.2.2.2.2.1 c.2.2.2.2.2.1.1 c.2.2.2.2.2.1.2 c.2.2.2.2.2.2.1 c.2.2.2.2.2.2.2.1 c.2.2.2.2.2.2.2.2.1 c.2.2.2.2.2.2.2.2.2 c.1 c.2.1 0 0 0 false 0 false 0=some (stO (rK m c) c):=by
 unfold wH rK
 let⟨h1,h2⟩:=upZ h.t c.2.2.2.1 c.2.2.2.2.1
 rw[h1,ZAA];by_cases h0:(mP m.1 c.2.2.2.1 c.2.2.2.2.1).1=0
 ·let⟨q1,q2,x,hx⟩:=h2 h0
  have hl:=h.len;rw[h0];rw[w64 (by omega),a0Z (by omega) (by omega),ZAA,hx]
  rfl
 ·rw[ZAM h0,ZAW.2 h0]
  rfl
theorem t3Z{m}(h:aZ m)(c):tQ aB m.1.1 m.1.2 m.2 c.1 c.2.1 ((c.2.2.1.toNat:Nat):Int) c.2.2.2.1.1 c.2.2.2.1.2 c.2.2.2.2.1 c.2.2.2.2.2.1.1 c.2.2.2.2.2.1.2 c.2.2.2.2.2.2.1 c.2.2.2.2.2.2.2.1 c.2.2.2.2.2.2.2.2.1 c.2.2.2.2.2.2.2.2.2 c.1 c.2.1 0 0 0 false 0 false 0=some (stO (iI m c) c):=by
 unfold tQ iI;rw[(jjZ h.t c.2.2.2.1 c.2.2.2.2.1 _).1,ZAA];by_cases h0:(fW m.1 c.2.2.2.1 c.2.2.2.2.1 (((c.2.2.1.toNat:Nat):Int)==3)).2.2=0
 ·rw[h0];rfl
 ·rw[ZAM h0,ZAW.2 h0];rfl
theorem nlZ{m}(h:aZ m)(c):tV aB m.1.1 m.1.2 m.2 c.1 c.2.1 ((c.2.2.1.toNat:Nat):Int) c.2.2.2.1.1 c.2.2.2.1.2 c.2.2.2.2.1 c.2.2.2.2.2.1.1 c.2.2.2.2.2.1.2 c.2.2.2.2.2.2.1 c.2.2.2.2.2.2.2.1 c.2.2.2.2.2.2.2.2.1 c.2.2.2.2.2.2.2.2.2 c.1 c.2.1 0 0 0 false 0 false 0=some (stO (dH m c) c):=by
 unfold tV dH;rw[(jIZ h.t c.2.2.2.1 c.2.2.2.2.1 _).1,ZAA];by_cases h0:(dV m.1 c.2.2.2.1 c.2.2.2.2.1 (((c.2.2.1.toNat:Nat):Int)==8)).2.2=0
 ·rw[h0];rfl
 ·rw[ZAM h0,ZAW.2 h0];rfl
theorem syZ{m}(h:aZ m)(c):wM aB m.1.1 m.1.2 m.2 c.1 c.2.1 ((c.2.2.1.toNat:Nat):Int) c.2.2.2.1.1 c.2.2.2.1.2 c.2.2.2.2.1 c.2.2.2.2.2.1.1 c.2.2.2.2.2.1.2 c.2.2.2.2.2.2.1 c.2.2.2.2.2.2.2.1 c.2.2.2.2.2.2.2.2.1 c.2.2.2.2.2.2.2.2.2 c.1 c.2.1 0 0 0 false 0 false 0=some (stO (eQ m c) c):=by
 unfold wM eQ;rw[(jTZ h.t _ _ _ _).1,ZAA];by_cases h0:(dW m.1 c.2.2.2.1 c.2.2.2.2.1 c.2.2.2.2.2.1 c.2.2.2.2.2.2.1).2.2=0
 ·rw[h0];rfl
 ·rw[ZAM h0,ZAW.2 h0];rfl
theorem vKZ{m}(h:aZ m)(c):wN aB m.1.1 m.1.2 m.2 c.1 c.2.1 ((c.2.2.1.toNat:Nat):Int) c.2.2.2.1.1 c.2.2.2.1.2 c.2.2.2.2.1 c.2.2.2.2.2.1.1 c.2.2.2.2.2.1.2 c.2.2.2.2.2.2.1 c.2.2.2.2.2.2.2.1 c.2.2.2.2.2.2.2.2.1 c.2.2.2.2.2.2.2.2.2 c.1 c.2.1 0 0 0 false 0 false 0=some (stE (EQ m c) c):=by
 unfold wN EQ;rw[tEZ h.t]
 rfl
theorem wcZ{m}(h:aZ m)(c):wO aB m.1.1 m.1.2 m.2 c.1 c.2.1 ((c.2.2.1.toNat:Nat):Int) c.2.2.2.1.1 c.2.2.2.1.2 c.2.2.2.2.1 c.2.2.2.2.2.1.1 c.2.2.2.2.2.1.2 c.2.2.2.2.2.2.1 c.2.2.2.2.2.2.2.1 c.2.2.2.2.2.2.2.2.1 c.2.2.2.2.2.2.2.2.2 c.1 c.2.1 0 0 0 false 0 false 0=some (stO (yN m c) c):=by
 unfold wO yN;cases hg:EP m.1.1 c.2.2.2.1 with
 |none=>rw[icZ h.fit (kbZ hg)];rfl
 |some x=>rw[f5Z h.fit (cCZ.1 hg)];rfl
def cH(m:Mod)(h:Int×Int):Int×Byt×Int:=
 match EP m.1.1 h with
 |none=>(0,[],170)
 |some x=>bif x.2.2.2.1 then(0,[],174) else match m.2[(h.1-1).toNat]? with
  |some b=>(h.1,b,0)
  |none=>(0,[],170)
abbrev stF(q:Int×Byt×Int)(m:Mod)(c:aX):Int×(Byt×(Int×(List Ino×(Int×(List Byt×(Int×(Int×(Int×(Int×(Int×(Byt×(Int×(Int×(Byt×(Int×(Int×(Byt×IS))))))))))))))))):=(q.1,(q.2.1,(q.2.2,(m.1.1,(m.1.2,(m.2,(c.1,(c.2.1,(((c.2.2.1.toNat:Nat):Int),(c.2.2.2.1.1,(c.2.2.2.1.2,(c.2.2.2.2.1,(c.2.2.2.2.2.1.1,(c.2.2.2.2.2.1.2,(c.2.2.2.2.2.2.1,(c.2.2.2.2.2.2.2.1,(c.2.2.2.2.2.2.2.2.1,(c.2.2.2.2.2.2.2.2.2,(c.1,(c.2.1,(0,(0,(0,(false,(0,(false,0))))))))))))))))))))))))))
def IsF(m:Mod)(h:Int×Int)(x:Ino)(b:Byt):Prop:=IsH m.1.1 h x/\x.2.2.2.1=false/\m.2[(h.1-1).toNat]? =some b
theorem dUZ{m}{h}(h0:(cH m h).2.2=0):∃x,IsF m h x (cH m h).2.1/\(cH m h).1=h.1:=by
 unfold cH at h0⊢;cases hg:EP m.1.1 h with
 |none=>simp_all
 |some x=>
  rw[hg] at h0;simp only at h0⊢;cases hd:x.2.2.2.1 with
  |true=>rw[hd] at h0;cases h0
  |false=>
   rw[hd] at h0;cases hb:m.2[(h.1-1).toNat]? with
   |none=>rw[hb] at h0;cases h0
   |some b=>exact⟨x,⟨cCZ.1 hg,hd,hb⟩,rfl⟩
theorem p1Z{m}(h:aZ m)(c):qC aB m.1.1 m.1.2 m.2 c.1 c.2.1 ((c.2.2.1.toNat:Nat):Int) c.2.2.2.1.1 c.2.2.2.1.2 c.2.2.2.2.1 c.2.2.2.2.2.1.1 c.2.2.2.2.2.1.2 c.2.2.2.2.2.2.1 c.2.2.2.2.2.2.2.1 c.2.2.2.2.2.2.2.2.1 c.2.2.2.2.2.2.2.2.2 c.1 c.2.1 0 0 0 false 0 false 0=some (stF (cH m c.2.2.2.1) m c):=by
 unfold qC cH;cases hg:EP m.1.1 c.2.2.2.1 with
 |none=>rw[icZ h.fit (kbZ hg)];rfl
 |some x=>
  have hx:=cCZ.1 hg
  let⟨q1,q2,q3⟩:=qKZ h.t hx
  rw[f5Z h.fit hx,ZAA];simp only[ZAd,ZAQ];cases hd:x.2.2.2.1 with
  |true=>rfl
  |false=>
   simp only[ZAD];have hl:=h.len
   let⟨b,hb,_⟩:=h.at hx.2.1
   rw[q1,w64 (by omega),a0Z (by omega) (by rw[h.n];omega),ZAA,hb,ZAA]
def SQ(b:Byt)(off n:Int):Byt:=(b.take (max (min off.toNat b.length) (min (off+n).toNat b.length))).drop (min off.toNat b.length)
def nT(m:Mod)(c:aX):DoR:=
 if(cH m c.2.2.2.1).2.2=0 then
  (0,m,((0,0),false,(((cH m c.2.2.2.1).2.1.length:Nat):Int),SQ (cH m c.2.2.2.1).2.1 c.2.2.2.2.2.2.2.1 c.2.2.2.2.2.2.2.2.1,[],decide (c.2.2.2.2.2.2.2.1+c.2.2.2.2.2.2.2.2.1<(((cH m c.2.2.2.1).2.1.length:Nat):Int)),0))
 else((cH m c.2.2.2.1).2.2,m,lR)
theorem vBZ{m}(h:aZ m)(c)(ho:0<=c.2.2.2.2.2.2.2.1/\c.2.2.2.2.2.2.2.1<=2147483648)(hn:0<=c.2.2.2.2.2.2.2.2.1/\c.2.2.2.2.2.2.2.2.1<=2147483648):
 wJ aB m.1.1 m.1.2 m.2 c.1 c.2.1 ((c.2.2.1.toNat:Nat):Int) c.2.2.2.1.1 c.2.2.2.1.2 c.2.2.2.2.1 c.2.2.2.2.2.1.1 c.2.2.2.2.2.1.2 c.2.2.2.2.2.2.1 c.2.2.2.2.2.2.2.1 c.2.2.2.2.2.2.2.2.1 c.2.2.2.2.2.2.2.2.2 c.1 c.2.1 0 0 0 false 0 false 0=some (stB (nT m c) c):=by
 unfold wJ nT Pa Pb Pc Pd Pe Pf Pg Ph Pi Pj Pk Pl Pm Pn Po Pp Pq Pr Ps Pt Pu Pv Pw Px PX PY;rw[p1Z h c,ZAA];by_cases h0:(cH m c.2.2.2.1).2.2=0
 ·rw[ZAN h0]
  let⟨x,hx,hid⟩:=dUZ h0
  have hbl:=h.byt hx.2.2;simp;rw[h0];simp[ZAD];rw[w64 (by omega)];rw[show(if(((cH m c.2.2.2.1).2.1.length:Nat):Int)<c.2.2.2.2.2.2.2.1+c.2.2.2.2.2.2.2.2.1 then(((cH m c.2.2.2.1).2.1.length:Nat):Int) else c.2.2.2.2.2.2.2.1+c.2.2.2.2.2.2.2.2.1)=((min (c.2.2.2.2.2.2.2.1+c.2.2.2.2.2.2.2.2.1).toNat (cH m c.2.2.2.1).2.1.length:Nat):Int) from by split<;>omega,
   show(if(((cH m c.2.2.2.1).2.1.length:Nat):Int)<c.2.2.2.2.2.2.2.1 then(((cH m c.2.2.2.1).2.1.length:Nat):Int) else c.2.2.2.2.2.2.2.1)=((min c.2.2.2.2.2.2.2.1.toNat (cH m c.2.2.2.1).2.1.length:Nat):Int) from by split<;>omega]
  rw[show(if((min (c.2.2.2.2.2.2.2.1+c.2.2.2.2.2.2.2.2.1).toNat (cH m c.2.2.2.1).2.1.length:Nat):Int)>((min c.2.2.2.2.2.2.2.1.toNat (cH m c.2.2.2.1).2.1.length:Nat):Int) then((min (c.2.2.2.2.2.2.2.1+c.2.2.2.2.2.2.2.2.1).toNat (cH m c.2.2.2.1).2.1.length:Nat):Int) else((min c.2.2.2.2.2.2.2.1.toNat (cH m c.2.2.2.1).2.1.length:Nat):Int))=((max (min c.2.2.2.2.2.2.2.1.toNat (cH m c.2.2.2.1).2.1.length) (min (c.2.2.2.2.2.2.2.1+c.2.2.2.2.2.2.2.2.1).toNat (cH m c.2.2.2.1).2.1.length):Nat):Int) from by split<;>omega];rw[aGZ (by omega),ZAA,aGZ (by omega),ZAA,iyZ (by rw[ZAx,ZAS];omega)]
  rfl
 ·rw[ZAM h0];simp[ZAW.2 h0,ZAn,ZAK]
  rfl
def pJ(b:Byt)(n:Nat):Byt:=b.take n++List.replicate (n-b.length) 0
theorem brZ(b)(n):(pJ b n).length=n:=by grind[pJ]
theorem ptZ(b:Byt)(n):aW (List.replicate n 0) 0 (List.take (List.replicate (α:=UInt8) n 0).length b)=pJ b n:=by
 unfold aW pJ
 grind
def qN(l:List Ino)(h:Int×Int)(n:Int):List Ino:=
 match l[(h.1-1).toNat]? with
 |some x=>l.set (h.1-1).toNat (x.1,x.2.1,x.2.2.1,x.2.2.2.1,n,x.2.2.2.2.2)
 |none=>l
def nX(m:Mod)(h:Int×Int)(b:Byt):Mod:=((qN m.1.1 h ((b.length:Nat):Int),m.1.2),m.2.set (h.1-1).toNat b)
def mQ(m:Mod)(c:aX):DoR:=
 if(cH m c.2.2.2.1).2.2=0 then
  if c.2.2.2.2.2.2.2.2.1>65536 then(177,m,lR)
  else(0,nX m c.2.2.2.1 (pJ (cH m c.2.2.2.1).2.1 c.2.2.2.2.2.2.2.2.1.toNat),(c.2.2.2.1,false,c.2.2.2.2.2.2.2.2.1,[],[],false,0))
 else((cH m c.2.2.2.1).2.2,m,lR)
theorem vwZ{m}(h:aZ m)(c)(hn:0<=c.2.2.2.2.2.2.2.2.1):
 wL aB m.1.1 m.1.2 m.2 c.1 c.2.1 ((c.2.2.1.toNat:Nat):Int) c.2.2.2.1.1 c.2.2.2.1.2 c.2.2.2.2.1 c.2.2.2.2.2.1.1 c.2.2.2.2.2.1.2 c.2.2.2.2.2.2.1 c.2.2.2.2.2.2.2.1 c.2.2.2.2.2.2.2.2.1 c.2.2.2.2.2.2.2.2.2 c.1 c.2.1 0 0 0 false 0 false 0=some (stO (mQ m c) c):=by
 unfold wL mQ Pb Pc Pd Pe Pf Pg Ph Pi Pj Pk Pl Pm Pn Po Pp Pq Pr Ps Pt Pu Pv Pw Px Py PW PY;rw[p1Z h c,ZAA];by_cases h0:(cH m c.2.2.2.1).2.2=0
 ·rw[ZAN h0]
  let⟨x,hx,hid⟩:=dUZ h0
  have hbl:=h.byt hx.2.2;have hl:=h.len
  let⟨q1,q2,q3⟩:=qKZ h.t hx.1
  simp only;rw[h0];simp[ZAD];by_cases hb:c.2.2.2.2.2.2.2.2.1>65536
  ·rw[ZAN hb,ZAJ hb];rfl
  ·rw[ZAM hb,ZAE hb];simp;unfold xZ;rw[hid,b1Z hn (by rw[asZ];omega),ZAA,b1Z hn (by omega),ZAA,aeZ (by rw[ZAm,asZ];omega),w64 (by omega),a0Z (by omega) (by rw[h.n];omega),ZAA,hx.2.2,ZAA,
    j4Z (by rw[h.n];omega),ZAA,a0Z (by omega) (by rw[h.n];omega),ZAA,hx.2.2,ZAA,dKZ h.fit,ZAA]
   simp only;rw[a0Z (by omega) (by omega),ZAA,hx.1.2.1,ZAA,ZAA,ptZ];simp only[stO,nX,qN,hx.1.2.1,brZ];rw[show((c.2.2.2.2.2.2.2.2.1.toNat:Nat):Int)=c.2.2.2.2.2.2.2.2.1 by omega]
 ·rw[ZAM h0];simp only[stF,ZAW.2 h0,ZAn,ZAK]
  rfl
def dP(b:Byt)(off:Int)(bs:Byt):Nat:=max b.length (if bs.length=0 then 0 else off.toNat+bs.length)
def pK(b:Byt)(off:Int)(bs:Byt):Byt:=aW (pJ b (dP b off bs)) (min off.toNat (dP b off bs)) bs
def iU(m:Mod)(c:aX):DoR:=
 if(cH m c.2.2.2.1).2.2=0 then
  if c.2.2.2.2.2.2.2.1+((c.2.2.2.2.2.2.2.2.2.length:Nat):Int)>65536 then(177,m,lR)
  else(0,nX m c.2.2.2.1 (pK (cH m c.2.2.2.1).2.1 c.2.2.2.2.2.2.2.1 c.2.2.2.2.2.2.2.2.2),(c.2.2.2.1,false,((dP (cH m c.2.2.2.1).2.1 c.2.2.2.2.2.2.2.1 c.2.2.2.2.2.2.2.2.2:Nat):Int),[],[],false,0))
 else((cH m c.2.2.2.1).2.2,m,lR)
theorem d8Z(b)(off)(bs):(pK b off bs).length=dP b off bs:=by
 unfold pK aW;rw[ZAe,ZAe,ZAS,ZAx,brZ];unfold dP
 grind
theorem hYZ(g)(hg:∀b,g (.inl b)=some b)(y:Byt⊕Option (Nat×(Nat×Nat)))(v)(hy:g y=some v):∀(l:List Byt) (i),i<l.length->bE g ((l.map Sum.inl).set i y)=some (l.set i v)
 |[],i,h=>by grind
 |a::l,0,_=>by
  have e:bE g (l.map Sum.inl)=some l:=by
   induction l with
   |nil=>rfl
   |cons x l ih=>simp[bE,hg,ih]
  simp_all[bE]
 |a::l,i+1,h=>by
  have:=hYZ g hg y v hy l i (by simpa using h);simp[bE,hg,this]
theorem oJZ(l:Byt)(k):aW l k []=l:=by simp_all[aW]
theorem tjZ(out bs:Byt)(q)(hq:q<=out.length)(hb:bs=[]\/q+bs.length<=out.length):
 ∃k,rR [(1,out)] (kH (.inr (some (0,(0,out.length)))) q (out.length-q)) bs=some ([(1,aW out q bs)],k):=by
 unfold kH;by_cases h0:out.length-q=0
 ·have hbs:bs=[]:=by
   rcases hb with h|h
   ·exact h
   ·exact ZAX (by omega)
  subst hbs;rw[h0,oJZ];exact⟨0,rfl⟩
 ·rw[(ahZ h0)];unfold rR;simp[ZAA];rw[aeZ (by simp;omega)];have:bs.take (out.length-q)=bs:=ZA0 (by
   rcases hb with h|h
   ·simp[h]
   ·omega)
  simp_all
theorem sfZ(w:Byt)(n)(hn:n=w.length):aT [⟨3,.byte,List.map aV [(1,w)]⟩] (.ref 3 .byte) (.inr (some (0,(0,n))))=some w:=by
 subst hn;show ET [(2,w)] 0 0 w.length=some w;unfold ET
 simp_all[aNZ]
theorem tKZ{m}(h:aZ m)(c)(ho:0<=c.2.2.2.2.2.2.2.1/\c.2.2.2.2.2.2.2.1<=2147483648)(hbs:c.2.2.2.2.2.2.2.2.2.length<=4096):
 wK aB m.1.1 m.1.2 m.2 c.1 c.2.1 ((c.2.2.1.toNat:Nat):Int) c.2.2.2.1.1 c.2.2.2.1.2 c.2.2.2.2.1 c.2.2.2.2.2.1.1 c.2.2.2.2.2.1.2 c.2.2.2.2.2.2.1 c.2.2.2.2.2.2.2.1 c.2.2.2.2.2.2.2.2.1 c.2.2.2.2.2.2.2.2.2 c.1 c.2.1 0 0 0 false 0 false 0=some (stO (iU m c) c):=by
 unfold wK iU Pa Pb Pc Pd Pe Pf Pg Ph Pi Pj Pk Pl Pm Pn Po Pp Pq Pr Ps Pt Pu Pv Pw Px PB PW PX;rw[p1Z h c,ZAA];by_cases h0:(cH m c.2.2.2.1).2.2=0
 ·rw[ZAN h0];obtain⟨x,hx,hid⟩:=dUZ h0;have hbl:=h.byt hx.2.2;have hl:=h.len;obtain⟨q1,q2,q3⟩:=qKZ h.t hx.1;simp only[stF];rw[h0,hid];simp only[ZAd,ZAQ,ZAD];have hx2:=hx.2.2;generalize (cH m c.2.2.2.1).2.1=b at hbl hx2⊢;rw[w64 (by omega)];by_cases hb:c.2.2.2.2.2.2.2.1+((c.2.2.2.2.2.2.2.2.2.length:Nat):Int)>65536
  ·rw[ZAN hb,ZAJ hb];rfl
  ·rw[ZAM hb,ZAE hb];simp only[ZAD];have hN:dP b c.2.2.2.2.2.2.2.1 c.2.2.2.2.2.2.2.2.2<=65536:=by unfold dP;split<;>omega
   have key:∀(e),(if e>((b.length:Nat):Int) then e else((b.length:Nat):Int))=((dP b c.2.2.2.2.2.2.2.1 c.2.2.2.2.2.2.2.2.2:Nat):Int)->
    ((tR aB c.2.2.2.1.1 (if e>((b.length:Nat):Int) then e else((b.length:Nat):Int)) m.1.1 m.1.2 m.2 c.1 c.2.1 ((c.2.2.1.toNat:Nat):Int) c.2.2.2.1.1 c.2.2.2.1.2 c.2.2.2.2.1 c.2.2.2.2.2.1.1 c.2.2.2.2.2.1.2 c.2.2.2.2.2.2.1 c.2.2.2.2.2.2.2.1 c.2.2.2.2.2.2.2.2.1 c.2.2.2.2.2.2.2.2.2 c.1 c.2.1 0 0 0 false 0 false 0).bind fun r1=>
      (bL (if(((eJ (s:=.byte) r1.1):Nat):Int)<r1.2.2.2.2.2.2.2.2.2.2.2.1 then(((eJ (s:=.byte) r1.1):Nat):Int) else r1.2.2.2.2.2.2.2.2.2.2.2.1) (eJ (s:=.byte) r1.1)).bind fun q=>
      (rR r1.2.2.2.2.2.2.2.2.2.2.2.2.2.2.2.2.2.2.2.2.2.2.2.2.2 (kH r1.1 q ((eJ (s:=.byte) r1.1)-q)) r1.2.2.2.2.2.2.2.2.2.2.2.2.2.1).bind fun m=>
      (bE (aT [⟨3,.byte,(List.map aV m.1)⟩] (.ref 3 .byte)) r1.2.2.2.2.2.2.2.2.2.2.2.2.2.2.2.2.2.2.2.2.2.2.2.2.1).bind fun l=>
      some ((0:Int),(r1.2.2.2.2.2.2.2.2.2.2.2.2.2.2.2.2.2.2.2.2.2.2.2.1,(r1.2.1,(l,(r1.2.2.1,(r1.2.2.2.1,(r1.2.2.2.2.1,(r1.2.2.2.2.2.1,(r1.2.2.2.2.2.2.1,(r1.2.2.2.2.2.2.2.1,(r1.2.2.2.2.2.2.2.2.1,(r1.2.2.2.2.2.2.2.2.2.1,(r1.2.2.2.2.2.2.2.2.2.2.1,(r1.2.2.2.2.2.2.2.2.2.2.2.1,(r1.2.2.2.2.2.2.2.2.2.2.2.2.1,(r1.2.2.2.2.2.2.2.2.2.2.2.2.2.1,(r1.2.2.2.2.2.2.2.2.2.2.2.2.2.2.1,(r1.2.2.2.2.2.2.2.2.2.2.2.2.2.2.2.1,(r1.2.2.2.2.2.2.2.2.2.2.2.2.2.2.2.2.1,(r1.2.2.2.2.2.2.2.2.2.2.2.2.2.2.2.2.2.1,(r1.2.2.2.2.2.2.2.2.2.2.2.2.2.2.2.2.2.2.1,(r1.2.2.2.2.2.2.2.2.2.2.2.2.2.2.2.2.2.2.2.1,(r1.2.2.2.2.2.2.2.2.2.2.2.2.2.2.2.2.2.2.2.2.1,(r1.2.2.2.2.2.2.2.2.2.2.2.2.2.2.2.2.2.2.2.2.2.1,r1.2.2.2.2.2.2.2.2.2.2.2.2.2.2.2.2.2.2.2.2.2.2.1)))))))))))))))))))))))))=
    some (stO (0,nX m c.2.2.2.1 (pK b c.2.2.2.2.2.2.2.1 c.2.2.2.2.2.2.2.2.2),(c.2.2.2.1,false,((dP b c.2.2.2.2.2.2.2.1 c.2.2.2.2.2.2.2.2.2:Nat):Int),[],[],false,0)) c):=by
    intro e he;rw[he];have hlen:=(show(List.map (bY (.ref 3 .byte)) m.2).length=m.2.length from ZAl _).trans h.n;have aG:(List.map (bY (.ref 3 .byte)) m.2)[(c.2.2.2.1.1-1).toNat]? =some (.inl b):=((ZAY)).trans (congrArg (Option.map (bY (.ref 3 .byte))) hx2);unfold tR;rw[aGZ (by rw[asZ];omega),ZAA,aGZ (ZAL _),ZAA,aeZ (by rw[ZAm,asZ];omega),w64 (by omega),a0Z (by omega) (by rw[h.n];omega),ZAA,hx2,ZAA,
     j4Z (by rw[h.n];omega),ZAA,a0Z (by omega) (by rw[hlen];omega),ZAA,aG,ZAA,show((m.1.1,m.1.2):cI)=m.1 from rfl,dKZ h.fit,ZAA]
    simp only;rw[a0Z (by omega) (by omega),ZAA,hx.1.2.1,ZAA,ZAA,ptZ,brZ];simp only[ZBh];have hR:eJ (s:=.byte) (.inr (some (0,(0,dP b c.2.2.2.2.2.2.2.1 c.2.2.2.2.2.2.2.2.2))))=dP b c.2.2.2.2.2.2.2.1 c.2.2.2.2.2.2.2.2.2:=rfl;rw[hR,show(if((dP b c.2.2.2.2.2.2.2.1 c.2.2.2.2.2.2.2.2.2:Nat):Int)<c.2.2.2.2.2.2.2.1 then((dP b c.2.2.2.2.2.2.2.1 c.2.2.2.2.2.2.2.2.2:Nat):Int) else c.2.2.2.2.2.2.2.1)=((min c.2.2.2.2.2.2.2.1.toNat (dP b c.2.2.2.2.2.2.2.1 c.2.2.2.2.2.2.2.2.2):Nat):Int) from by split<;>omega,
     aGZ (by omega),ZAA]
    obtain⟨k,hk⟩:=tjZ (pJ b (dP b c.2.2.2.2.2.2.2.1 c.2.2.2.2.2.2.2.2.2)) c.2.2.2.2.2.2.2.2.2 (min c.2.2.2.2.2.2.2.1.toNat (dP b c.2.2.2.2.2.2.2.1 c.2.2.2.2.2.2.2.2.2)) (by rw[brZ];omega) (by
     by_cases hz:c.2.2.2.2.2.2.2.2.2.length=0
     ·exact .inl (ZAX hz)
     ·right;rw[brZ];unfold dP;rw[ZAM hz];omega)
    rw[brZ] at hk;rw[hk,ZAA];have hu:=hYZ (aT [⟨3,.byte,List.map aV [(1,pK b c.2.2.2.2.2.2.2.1 c.2.2.2.2.2.2.2.2.2)]⟩] (.ref 3 .byte)) (fun _=>rfl) (.inr (some (0,(0,dP b c.2.2.2.2.2.2.2.1 c.2.2.2.2.2.2.2.2.2)))) _ (sfZ _ _ (d8Z b _ _).symm) m.2 (c.2.2.2.1.1-1).toNat (by rw[h.n];omega);have hu':=hu;refine(congrArg (fun o=>Option.bind o _) hu').trans ?_;have aS:nX m c.2.2.2.1 (pK b c.2.2.2.2.2.2.2.1 c.2.2.2.2.2.2.2.2.2)=((m.1.1.set (c.2.2.2.1.1-1).toNat (x.1,x.2.1,x.2.2.1,x.2.2.2.1,((dP b c.2.2.2.2.2.2.2.1 c.2.2.2.2.2.2.2.2.2:Nat):Int),x.2.2.2.2.2),m.1.2),m.2.set (c.2.2.2.1.1-1).toNat (pK b c.2.2.2.2.2.2.2.1 c.2.2.2.2.2.2.2.2.2)):=by
     unfold nX qN;rw[hx.1.2.1,d8Z]
    rw[aS]
    rfl
   by_cases hz:c.2.2.2.2.2.2.2.2.2.length=0
   ·rw[show(((c.2.2.2.2.2.2.2.2.2.length:Nat):Int)==0)=true from by rw[hz];rfl];simp only[ZAK,ZAA];exact key 0 (by unfold dP;rw[ZAN hz];split<;>omega)
   ·rw[(ZAW.2 (by omega))];simp only[ZAD,ZAA];exact key _ (by unfold dP;rw[ZAM hz];split<;>omega)
 ·rw[ZAM h0];simp only[stF,ZAW.2 h0,ZAn,ZAK]
  rfl
def HV(m:Mod)(c:aX)(k:Nat):Int×(List Ino×(Int×(List Byt×(Int×(Int×(Int×(Int×(Int×(Byt×(Int×(Int×(Byt×(Int×(Int×(Byt×IS))))))))))))))):=(fun fr:Int=>((k:Int),(m.1.1,(m.1.2,(m.2,(c.1,(c.2.1,(((c.2.2.1.toNat:Nat):Int),(c.2.2.2.1.1,(c.2.2.2.1.2,(c.2.2.2.2.1,(c.2.2.2.2.2.1.1,(c.2.2.2.2.2.1.2,(c.2.2.2.2.2.2.1,(c.2.2.2.2.2.2.2.1,(c.2.2.2.2.2.2.2.2.1,(c.2.2.2.2.2.2.2.2.2,(c.1,(c.2.1,(0,(0,(0,(false,(0,(false,fr))))))))))))))))))))))))) (500-((rL (m.1.1.take k):Nat):Int))
theorem vQZ{m}(h:aZ m)(c):wQ aB m.1.1 m.1.2 m.2 c.1 c.2.1 ((c.2.2.1.toNat:Nat):Int) c.2.2.2.1.1 c.2.2.2.1.2 c.2.2.2.2.1 c.2.2.2.2.2.1.1 c.2.2.2.2.2.1.2 c.2.2.2.2.2.2.1 c.2.2.2.2.2.2.2.1 c.2.2.2.2.2.2.2.2.1 c.2.2.2.2.2.2.2.2.2 c.1 c.2.1 0 0 0 false 0 false 0=some (stO (HU m) c):=by
 unfold wQ;have hl:=h.len;have hS:∀k,rL (m.1.1.take k)<=500:=fun k=>by
  unfold rL
  grind[List.countP_le_length,ZAS]
 have loop:lL aB m.1.1 (HV m c 0)=some ((fun fr=>(m.1.1,(m.1.2,(m.2,(c.1,(c.2.1,(((c.2.2.1.toNat:Nat):Int),(c.2.2.2.1.1,(c.2.2.2.1.2,(c.2.2.2.2.1,(c.2.2.2.2.2.1.1,(c.2.2.2.2.2.1.2,(c.2.2.2.2.2.2.1,(c.2.2.2.2.2.2.2.1,(c.2.2.2.2.2.2.2.2.1,(c.2.2.2.2.2.2.2.2.2,(c.1,(c.2.1,(0,(0,(0,(false,(0,(false,fr)))))))))))))))))))))))) (500-((rL m.1.1:Nat):Int))):=by
  unfold lL;refine aoZ (HV m c) m.1.1.length (by omega) (fun k hk=> ?_) ?_
  ·simp only[HV];unfold sD Ph Pi Pj Pk Pl Pm Pn Po Pp Pq Pr Ps Pt Pu Pv PV;obtain⟨x,hx⟩:∃x,m.1.1[k]? =some x:=⟨_,ZAC hk⟩;have hk1:=hS k;simp only[aEZ hk];rw[acZ hk,ZAA,hx,ZAA];have ht:m.1.1.take (k+1)=m.1.1.take k++[x]:=by rw[List.take_add_one,hx];rfl
   have hu:rL (m.1.1.take (k+1))=rL (m.1.1.take k)+(if x.2.2.1=true then 1 else 0):=by
    rw[ht];unfold rL;rw[List.countP_append];cases hb:x.2.2.1<;>simp[hb]
   cases hb:x.2.2.1 with
   |true=>
    rw[hb,ZAN rfl] at hu;simp only[ZAK];rw[w64 (by omega),w64 (by omega),show(500:Int)-((rL (m.1.1.take k):Nat):Int)-1=500-((rL (m.1.1.take (k+1)):Nat):Int) by omega]
    rfl
   |false=>
    rw[hb,ZAM (by simp)] at hu;simp only[ZAD,ZAA];rw[w64 (by omega),hu]
    rfl
  ·simp only[HV];unfold sD Ph Pi Pj Pk Pl Pm Pn Po Pp Pq Pr Ps Pt Pu Pv PV;simp only[aCZ (ZA1 _),ZAD];rw[ZAu]
 refine(congrArg (fun o=>Option.bind o _) loop).trans ?_
 rfl
def nU(l:List Ino)(d:List Byt):List Byt:=l.mapIdx fun i x=>bif x.2.2.1 then(d[i]?).getD [] else[]
theorem kmZ(l)(d):(nU l d).length=l.length:=by simp_all[nU]
theorem kkZ{l}(d){i:Nat}{x}(h:l[i]? =some x):(nU l d)[i]? =some (bif x.2.2.1 then(d[i]?).getD [] else[]):=by
 simp_all[nU]
theorem aOZ{α:Type}{l:List α}{k}{x}(h:l[k]? =some x):l.take (k+1)=l.take k++[x]:=by simp_all[List.take_add_one]
def HX(l:List Ino)(s:Int)(d:List Byt)(x3:Int)(x4:Int)(x5:Int)(x6:Int)(x7:Int)(x8:Byt)(x9:Int)(x10:Int)(x11:Byt)(x12:Int)(x13:Int)(x14:Byt)(x15:Int)(x16:Int)(x17:Int)(x18:Int)(x19:Int)(x20:Bool)(x21:Int)(x22:Byt)(x23:List Ent)(x24:Bool)(x25:Int)(k:Nat):Int×(List Ino×(Int×(List Byt×(Int×(Int×(Int×(Int×(Int×(Byt×(Int×(Int×(Byt×(Int×(Int×(Byt×(Int×(Int×(Int×(Int×(Int×(Bool×(Int×(Byt×(List Ent×(Bool×(Int×(Int×(Int×(List Ino×(List Byt)))))))))))))))))))))))))))))):=((k:Int),(l,(s,(d,(x3,(x4,(x5,(x6,(x7,(x8,(x9,(x10,(x11,(x12,(x13,(x14,(x15,(x16,(x17,(x18,(x19,(x20,(x21,(x22,(x23,(x24,(x25,(0,(s,(l,(nU l d).take k))))))))))))))))))))))))))))))
theorem v9Z(l)(s)(d:List Byt)(x3)(x4)(x5)(x6)(x7)(x8:Byt)(x9)(x10)(x11:Byt)(x12)(x13)(x14:Byt)(x15)(x16)(x17)(x18)(x19)(x20)(x21)(x22:Byt)(x23:List Ent)(x24)(x25)(hf:Fit l)(hl:l.length<=500)(hd:∀(i:Nat) b,d[i]? =some b->b.length<=65536):
 tW aB l s d x3 x4 x5 x6 x7 x8 x9 x10 x11 x12 x13 x14 x15 x16 x17 x18 x19 x20 x21 x22 x23 x24 x25=some (s,(l,(s,(d,(x3,(x4,(x5,(x6,(x7,(x8,(x9,(x10,(x11,(x12,(x13,(x14,(x15,(x16,(x17,(x18,(x19,(x20,(x21,(x22,(x23,(x24,(x25,(l,nU l d)))))))))))))))))))))))))))):=by
 unfold tW Pd Pe Pf Pg Ph Pi Pj Pk Pl Pm Pn Po Pp Pq Pr Ps Pt Pu Pv Pw Px Py Pza PZA;rw[dKZ hf];have loop:lM aB (s,l) (HX l s d x3 x4 x5 x6 x7 x8 x9 x10 x11 x12 x13 x14 x15 x16 x17 x18 x19 x20 x21 x22 x23 x24 x25 0)=some (l,(s,(d,(x3,(x4,(x5,(x6,(x7,(x8,(x9,(x10,(x11,(x12,(x13,(x14,(x15,(x16,(x17,(x18,(x19,(x20,(x21,(x22,(x23,(x24,(x25,(0,(s,(l,nU l d))))))))))))))))))))))))))))):=by
  unfold lM;refine aoZ (HX l s d x3 x4 x5 x6 x7 x8 x9 x10 x11 x12 x13 x14 x15 x16 x17 x18 x19 x20 x21 x22 x23 x24 x25) l.length (by omega) (fun k hk=> ?_) ?_
  ·simp only[HX];unfold sE Pb Pc Pd Pe Pf Pg Ph Pi Pj Pk Pl Pm Pn Po Pp Pq Pr Ps Pt Pu Pv Pw Px Py Pz Pza Pzb Pzc PZC;obtain⟨x,hx⟩:∃x,l[k]? =some x:=⟨_,ZAC hk⟩;have hm:=kkZ d hx;have hlen:((nU l d).take k).length<=500:=by rw[ZAS];omega
   simp only[aEZ hk];rw[acZ hk,ZAA,hx,aOZ hm];by_cases hkd:k<d.length
   ·obtain⟨b,hb⟩:∃b,d[k]? =some b:=⟨_,ZAC hkd⟩;have hbl:=hd k b hb;rw[aEZ hkd];simp only[ZAK,ZAA];cases hu:x.2.2.1 with
    |true=>
     simp only[ZAK];rw[acZ hkd,ZAA,hb,ZAA,iyZ (by omega),ZAA,ZAA];simp only;rw[aeZ (by simp only[ZAF,ZAm,asZ];omega),w64 (by omega)]
     rfl
    |false=>
     simp only[ZAD,ZAA];rw[aeZ (by simp only[ZAF,ZAm,asZ];omega),w64 (by omega)]
     rfl
   ·rw[aCZ hkd,ZAw (show d.length<=k by omega)];simp only[ZAD,ZAA];rw[aeZ (by simp only[ZAF,ZAm,asZ];omega),w64 (by omega)];cases hu:x.2.2.1<;>rfl
  ·simp only[HX];unfold sE Pb Pc Pd Pe Pf Pg Ph Pi Pj Pk Pl Pm Pn Po Pp Pq Pr Ps Pt Pu Pv Pw Px Py Pz Pza Pzb Pzc PZC;simp only[aCZ (ZA1 _),ZAD];rw[ZA0 (by rw[kmZ];exact ZAL _)]
 refine(congrArg (fun o=>Option.bind o _) loop).trans ?_
 rfl
def doS(y1:Int)(y2:Int)(y3:Int)(y4:Int)(y5:Int)(y6:Byt)(y7:Int)(y8:Int)(y9:Byt)(y10:Int)(y11:Int)(y12:Byt)(y13:Int)(y14:Int)(y15:Int)(y16:Int)(y17:Int)(y18:Int)(y19:Bool)(y20:Int)(y21:Bool)(y22:Int)(st:Int)(l:List Ino)(d:List Byt)(k:Nat):Int×(Int×(Int×(Int×(Int×(Int×(Byt×(Int×(Int×(Byt×(Int×(Int×(Byt×(Int×(Int×(Int×(Int×(Int×(Int×(Bool×(Int×(Bool×(Int×(Int×(List Ino×(List Byt))))))))))))))))))))))))):=((k:Int),(y1,(y2,(y3,(y4,(y5,(y6,(y7,(y8,(y9,(y10,(y11,(y12,(y13,(y14,(y15,(y16,(y17,(y18,(y19,(y20,(y21,(y22,(st,(l,d.take k)))))))))))))))))))))))))
theorem weZ(o1:Int×(List Ino×(Int×(List Byt×(Int×(Int×(Int×(Int×(Int×(Byt×(Int×(Int×(Byt×(Int×(Int×(Byt×(Int×(Int×(Int×(Int×(Int×(Int×(Bool×(Int×(Bool×(Int×(List Ino×(Int×(List Byt×(Int×(Int×(Int×(Int×(Int×(Byt×(Int×(Int×(Byt×(Int×(Int×(Byt×(Int×(Int×(Int×(Int×(Int×(Bool×(Int×(Byt×(List Ent×(Bool×Int)))))))))))))))))))))))))))))))))))))))))))))))))))(y1)(y2)(y3)(y4)(y5)(y6)(y7)(y8)(y9)(y10)(y11)(y12)(y13)(y14)(y15)(y16)(y17)(y18)(y19)(y20)(y21)(y22)(st)(l)(d)(ho:o1.2.2.2.1=d)(hl:d.length<=501)(hd:∀(i:Nat) b,d[i]? =some b->b.length<=65536):
 fK aB o1 (doS y1 y2 y3 y4 y5 y6 y7 y8 y9 y10 y11 y12 y13 y14 y15 y16 y17 y18 y19 y20 y21 y22 st l d 0)=some (y1,(y2,(y3,(y4,(y5,(y6,(y7,(y8,(y9,(y10,(y11,(y12,(y13,(y14,(y15,(y16,(y17,(y18,(y19,(y20,(y21,(y22,(st,(l,d)))))))))))))))))))))))):=by
 subst ho;unfold fK;refine aoZ (doS y1 y2 y3 y4 y5 y6 y7 y8 y9 y10 y11 y12 y13 y14 y15 y16 y17 y18 y19 y20 y21 y22 st l o1.2.2.2.1) o1.2.2.2.1.length (by omega) (fun k hk=> ?_) ?_
 ·simp only[doS];unfold oZ;obtain⟨b,hb⟩:∃b,o1.2.2.2.1[k]? =some b:=⟨_,ZAC hk⟩;have hbl:=hd k b hb;have hlen:(o1.2.2.2.1.take k).length<=501:=by rw[ZAS];omega
  simp only[aEZ hk];rw[acZ hk,ZAA,hb,ZAA,iyZ (by omega),ZAA,aeZ (by simp[asZ];omega),w64 (by omega),aOZ hb]
  rfl
 ·simp only[doS];unfold oZ;simp only[aCZ (ZA1 _),ZAD];rw[ZAu]
theorem vFZ(o1:Int×(List Ino×(Int×(List Byt×(Int×(Int×(Int×(Int×(Int×(Byt×(Int×(Int×(Byt×(Int×(Int×(Byt×(Int×(Int×(Int×(Int×(Int×(Int×(Bool×(Int×(Bool×(Int×(List Ino×(Int×(List Byt×(Int×(Int×(Int×(Int×(Int×(Byt×(Int×(Int×(Byt×(Int×(Int×(Byt×(Int×(Int×(Int×(Int×(Int×(Bool×(Int×(Byt×(List Ent×(Bool×Int)))))))))))))))))))))))))))))))))))))))))))))))))))(y1)(y2)(y3)(y4)(y5)(y6:Byt)(y7)(y8)(y9:Byt)(y10)(y11)(y12:Byt)(y13)(y14)(y15)(y16)(y17)(y18)(y19)(y20)(y21)(y22)(st)(l:List Ino)(d)(ho:o1.2.2.2.1=d)(hl:d.length<=501)(hd:∀(i:Nat) b,d[i]? =some b->b.length<=65536):
 fK aB o1 (0,(y1,(y2,(y3,(y4,(y5,(y6,(y7,(y8,(y9,(y10,(y11,(y12,(y13,(y14,(y15,(y16,(y17,(y18,(y19,(y20,(y21,(y22,(st,(l,[])))))))))))))))))))))))))=some (y1,(y2,(y3,(y4,(y5,(y6,(y7,(y8,(y9,(y10,(y11,(y12,(y13,(y14,(y15,(y16,(y17,(y18,(y19,(y20,(y21,(y22,(st,(l,d)))))))))))))))))))))))):=weZ o1 y1 y2 y3 y4 y5 y6 y7 y8 y9 y10 y11 y12 y13 y14 y15 y16 y17 y18 y19 y20 y21 y22 st l d ho hl hd
def lS(l:List Ino)(d:List Byt):Prop:=∀(i:Nat) x,l[i]? =some x->x.2.2.1=true->x.2.2.2.2.2.1=[]/\((((d[i]?).getD []).length:Nat):Int)=x.2.2.2.2.1
theorem aZ.kept{m}(h:aZ m):lS m.1.1 m.2:=fun i x hx _=>by
 let⟨b,hb,hs,_⟩:=h.at hx
 rw[hb];exact⟨h.p i x hx,hs⟩
theorem lS.model{t}{d}(h:aM t)(k:lS t.1 d):aZ (t,nU t.1 d):=by
 refine⟨h,kmZ _ _,fun i x hx=> ?_,fun i x b hx hb=> ?_⟩
 ·cases hu:x.2.2.1 with
  |true=>exact(k i x hx hu).1
  |false=>exact((h.r.ino i x hx).bare hu).2.2.2.1
 ·rw[kkZ d hx] at hb;simp at hb;subst hb;cases hu:x.2.2.1 with
  |true=>exact(k i x hx hu).2
  |false=>rw[((h.r.ino i x hx).bare hu).2.1];rfl
theorem eFZ{l}{d}(k:lS l d)(i)(f)(hf:∀n,(f n).2.2.1=true->n.2.2.1=true/\(f n).2.2.2.2.2.1=n.2.2.2.2.2.1/\(f n).2.2.2.2.1=n.2.2.2.2.1):lS (vX l i f) d:=by
 intro j x hx hu;rw[bnZ] at hx;split at hx
 ·cases hn:l[j]? with
  |none=>rw[hn] at hx;cases hx
  |some n=>
   rw[hn] at hx;simp[ZAO] at hx;subst hx
   let⟨q1,q2,q3⟩:=hf n hu
   rw[q2,q3];exact k j n hn q1
 ·exact k j x hx hu
theorem jwZ{l}{d}(k:lS l d)(a)(s)(id):lS (iT l a s id) d:=eFZ k _ _ fun _ h=>⟨h,rfl,rfl⟩
theorem eQZ{l}{d}(k:lS l d)(a)(s):lS (bO l a s) d:=eFZ k _ _ fun _ h=>⟨h,rfl,rfl⟩
theorem rzZ{l}{d}(k:lS l d)(a p):lS (NI l a p) d:=eFZ k _ _ fun _ h=>⟨h,rfl,rfl⟩
theorem hUZ{l}{d}(k:lS l d)(a):lS (cR l a) d:=eFZ k _ _ fun _ h=>by cases h
theorem ndZ{l}{d}(k:lS l d)(a)(old)(b)(name)(id):lS (mvL l a old b name id) d:=rzZ (jwZ (eQZ k _ _) _ _ _) _ _
theorem n4Z{m}(h:aZ m){dir}{parent g}{l'}{i}(ha:nM m.1.1 dir parent=some (l',i,g)):lS l' m.2:=by
 unfold nM at ha;cases hf:nL m.1.1 with
 |none=>
  rw[hf] at ha;simp only at ha;split at ha
  ·obtain⟨rfl,rfl,rfl⟩:=ha;intro j x hx hu;by_cases hj:j<m.1.1.length
   ·rw[ZAT hj] at hx;exact h.kept j x hx hu
   ·rw[ZAV (by omega)] at hx;have hj0:j-m.1.1.length=0:=by
     cases hq:j-m.1.1.length with
     |zero=>rfl
     |succ q=>rw[hq] at hx;simp at hx
    rw[hj0] at hx;simp[ZAO] at hx;subst hx;rw[ZAw (by rw[h.n];omega)];exact⟨rfl,rfl⟩
  simp_all
 |some k=>
  rw[hf] at ha;simp at ha
  let⟨hk,hused,_⟩:=ZA2.1 hf
  have hg:=ZAC hk;rw[hg] at ha;simp only at ha;split at ha
  ·simp[ZA3] at ha;obtain⟨rfl,rfl,rfl⟩:=ha;intro j x hx hu;by_cases hj:j=k
   ·subst hj;rw[ZAU hk] at hx;simp at hx;subst hx
    let⟨b,hb,hs,_⟩:=h.at hg
    have hun:=by simpa using hused
    rw[((h.t.r.ino j _ hg).bare hun).2.1] at hs;rw[hb];exact⟨rfl,hs⟩
   ·rw[ZAa (fun e=>hj e.symm)] at hx;exact h.kept j x hx hu
  ·cases ha
theorem pCZ{m}(h:aZ m)(d)(s)(is):lS (fW m.1 d s is).1.1 m.2:=by
 unfold fW;have k:=h.kept;split
 ·split
  ·split
   ·exact k
   ·split
    ·exact k
    ·split
     ·exact k
     ·split
      ·exact k
      ·rename_i l' i g ha;exact jwZ (n4Z h ha) _ _ _
  ·exact k
 ·exact k
theorem lBZ{m}(h:aZ m)(d)(s)(is):lS (dV m.1 d s is).1.1 m.2:=by
 unfold dV;have k:=h.kept;split
 ·split
  ·split
   ·exact k
   ·split
    ·exact k
    ·split
     ·exact k
     ·split
      ·exact hUZ (eQZ k _ _) _
      ·exact k
  ·exact k
 ·exact k
theorem lwZ{m}(h:aZ m)(a)(old)(b)(name):lS (dW m.1 a old b name).1.1 m.2:=by
 unfold dW;have k:=h.kept;split
 ·split
  ·split
   ·split
    ·exact k
    ·split
     ·exact k
     ·split
      ·exact k
      ·split
       ·exact k
       ·split
        ·exact k
        ·split
         ·split
          ·exact k
          ·exact ndZ k _ _ _ _ _
         ·split
          ·exact k
          ·split
           ·exact k
           ·split
            ·exact ndZ (hUZ (eQZ k _ _) _) _ _ _ _ _
            ·exact k
   ·exact k
  ·exact k
 omega
def wS(x:Ino)(n:Int):Ino:=(x.1,x.2.1,x.2.2.1,x.2.2.2.1,n,x.2.2.2.2.2)
theorem mHZ{l:List Ino}{i}{x}(hx:l[i]? =some x)(n){j:Nat}{y}(hy:l[j]? =some y):∃y',(l.set i (wS x n))[j]? =some y'/\y'=wS y y'.2.2.2.2.1:=by
 by_cases hj:j=i
 ·subst hj;rw[hx] at hy;cases hy;exact⟨_,ZAU (ZAB.1 hx).1,rfl⟩
 ·exact⟨y,by rw[ZAa (fun e=>hj e.symm)];exact hy,rfl⟩
theorem kNZ{l:List Ino}{i}{x}(hx:l[i]? =some x)(n){j}{y'}(hy:(l.set i (wS x n))[j]? =some y'):∃y,l[j]? =some y/\y'=wS y y'.2.2.2.2.1/\(j≠i->y'=y)/\(j=i->y=x/\y'=wS x n):=by
 by_cases hj:j=i
 ·subst hj;rw[ZAU (ZAB.1 hx).1] at hy;simp at hy;subst hy;exact⟨x,hx,rfl,fun h=>absurd rfl h,fun _=>⟨rfl,rfl⟩⟩
 ·rw[ZAa (fun e=>hj e.symm)] at hy;exact⟨y',hy,rfl,fun _=>rfl,fun h=>absurd h hj⟩
theorem vOZ{l}{i}{x}(hx:l[i]? =some x)(n){id}(h:Rch l id):Rch (l.set i (wS x n)) id:=by
 induction h with
 |root=>exact .root
 |step hy hu _ ih=>
  let⟨y',h1,h2⟩:=mHZ hx n hy
  have hu':y'.2.2.1=true:=by rw[h2];exact hu
  have:=Rch.step h1 hu';rw[h2] at this;exact this ih
theorem oKZ{t}(h:aM t){i}{x}(hx:t.1[i]? =some x)(hu:x.2.2.1=true)(hd:x.2.2.2.1=false){n}(hn:0<=n/\n<=65536):aM (t.1.set i (wS x n),t.2):=by
 have hlen:(t.1.set i (wS x n)).length=t.1.length:=ZAv;refine⟨⟨by rw[hlen];exact h.r.len,h.r.str,fun j y' hy=> ?_,?_,?_⟩,fun j y' hy s id he=> ?_,fun j y' hy hu' hj=> ?_,fun j y' hy hu'=> ?_⟩
 ·let⟨y,h1,h2,h3,h4⟩:=kNZ hx n hy
  have o:=h.r.ino j y h1;show gV (t.1.set i (wS x n)).length t.2 j y';rw[hlen];by_cases hj:j=i
  ·obtain⟨rfl,h5⟩:=h4 hj;have f:=o.file hu hd;subst h5;exact⟨o.id,o.gen,o.par,fun _ hq=>(by have hq:y.2.2.2.1=true:=hq;rw[hd] at hq;cases hq),fun _ _=>⟨hn,f.2.1,f.2.2.1,f.2.2.2⟩,fun hq=>(by have hq:y.2.2.1=false:=hq;rw[hu] at hq;cases hq)⟩
  grind
 ·have e:aD (t.1.set i (wS x n))=aD t.1:=by
   unfold aD;rw[show(t.1.set i (wS x n)).flatMap (fun n=>aO n.2.2.2.2.2.1)=((t.1.set i (wS x n)).map fun n=>n.2.2.2.2.2.1).flatMap aO from by rw[List.flatMap_map],
    show t.1.flatMap (fun n=>aO n.2.2.2.2.2.1)=(t.1.map fun n=>n.2.2.2.2.2.1).flatMap aO from by rw[List.flatMap_map],List.map_set]
   congr 1;exact dNZ (by rw[ZAY,hx];rfl)
  show(aD (t.1.set i (wS x n))).Nodup;rw[e];exact h.r.nod
 ·let⟨r,q1,q2,q3,q4⟩:=h.r.root
  let⟨r',h1,h2⟩:=mHZ hx n q1
  refine⟨r',h1,?_,?_,?_⟩<;>rw[h2]
  ·exact q2
  ·exact q3
  ·exact q4
 ·let⟨y,h1,h2,_⟩:=kNZ hx n hy
  rw[h2] at he
  let⟨q1,q2,z,q3,q4,q5⟩:=h.e j y h1 s id he
  let⟨z',h3,h4⟩:=mHZ hx n q3
  exact⟨q1,q2,z',h3,by rw[h4];exact q4,by rw[h4];exact q5⟩
 ·let⟨y,h1,h2,_⟩:=kNZ hx n hy
  rw[h2] at hu'
  let⟨z,s,q1,q2,q3⟩:=h.u j y h1 hu' hj
  let⟨z',h3,h4⟩:=mHZ hx n q1
  refine⟨z',s,by rw[h2];exact h3,by rw[h4];exact q2,fun s' hs=> ?_⟩;rw[h4] at hs;exact q3 s' hs
 ·let⟨y,h1,h2,_⟩:=kNZ hx n hy
  rw[h2] at hu';exact vOZ hx n (h.a j y h1 hu')
theorem rAZ{m}(h:aZ m){hd}{x}{b}(hx:IsF m hd x b){c}(hc:c.length<=65536):aM (nX m hd c).1/\lS (nX m hd c).1.1 (nX m hd c).2/\(nX m hd c).1.1.length=m.1.1.length/\(nX m hd c).2.length=m.2.length/\
 ∀(i:Nat) z,(nX m hd c).2[i]? =some z->z.length<=65536:=by
 let⟨⟨h1,hg,hu,hgen⟩,hdir,hb⟩:=hx
 have e:nX m hd c=((m.1.1.set (hd.1-1).toNat (wS x ((c.length:Nat):Int)),m.1.2),m.2.set (hd.1-1).toNat c):=by
  unfold nX qN;rw[hg]
  rfl
 rw[e];have hlt:=(ZAB.1 hg).1;refine⟨oKZ h.t hg hu hdir (by omega),fun j y' hy hu'=> ?_,ZAv,ZAv,fun i z hz=> ?_⟩
 ·let⟨y,q1,q2,q3,q4⟩:=kNZ hg _ hy
  by_cases hj:j=(hd.1-1).toNat
  ·obtain⟨rfl,q5⟩:=q4 hj;subst q5 hj;rw[ZAU (by rw[h.n];exact hlt)];exact⟨h.p _ y q1,rfl⟩
  ·rw[q3 hj] at hu'⊢;rw[ZAa (fun e=>hj e.symm)];exact h.kept j y q1 hu'
 ·by_cases hi:i=(hd.1-1).toNat
  ·subst hi;rw[ZAU (by rw[h.n];exact hlt)] at hz;cases hz;exact hc
  ·have hz:=hz;rw[ZAa (fun e=>hi e.symm)] at hz;exact h.byt hz
def bI(m:Mod)(c:aX):DoR:=if c.2.2.1=uO 1 then rK m c else if c.2.2.1=uO 2 then iI m c else if c.2.2.1=uO 3 then iI m c else if c.2.2.1=uO 4 then nT m c else if c.2.2.1=uO 5 then iU m c else if c.2.2.1=uO 6 then mQ m c else if c.2.2.1=uO 7 then dH m c else if c.2.2.1=uO 8 then dH m c else if c.2.2.1=uO 9 then eQ m c else if c.2.2.1=uO 10 then EQ m c else if c.2.2.1=uO 11 then yN m c else if c.2.2.1=uO 12 then HU m else(179,m,lR)
structure vY (q:DoR):Prop where
 t:aM q.2.1.1
 k:lS q.2.1.1.1 q.2.1.2
 n:q.2.1.2.length<=501
 b:∀(i:Nat) z,q.2.1.2[i]? =some z->z.length<=65536
theorem vY.same{m}(h:aZ m){q}(e:q.2.1=m):vY q:=by
 subst e;exact⟨h.t,h.kept,by have:=h.len;have:=h.n;grind,fun i z hz=>h.byt hz⟩
section
variable {m : Mod} (h : aZ m) (c : aX)
include h
theorem dlen:m.2.length<=501:=by have:=h.len;have:=h.n;omega
theorem pNZ:vY (rK m c):=.same h (by unfold rK;split<;>first|rfl|(split<;>rfl))
theorem qGZ:vY (nT m c):=.same h (by grind[nT])
theorem suZ:vY (yN m c):=.same h (by grind[yN])
theorem kcZ:vY (iI m c):=by
 unfold iI;split
 ·exact⟨(jjZ h.t _ _ _).2,pCZ h _ _ _,dlen (m:=m) h,fun i z hz=>h.byt hz⟩
 ·exact .same h rfl
theorem g5Z:vY (dH m c):=by
 unfold dH;split
 ·exact⟨(jIZ h.t _ _ _).2,lBZ h _ _ _,dlen (m:=m) h,fun i z hz=>h.byt hz⟩
 ·exact .same h rfl
theorem l0Z:vY (eQ m c):=by
 unfold eQ;split
 ·exact⟨(jTZ h.t _ _ _ _).2,lwZ h _ _ _ _,dlen (m:=m) h,fun i z hz=>h.byt hz⟩
 ·exact .same h rfl
theorem phZ(hn:0<=c.2.2.2.2.2.2.2.2.1/\c.2.2.2.2.2.2.2.2.1<=2147483648):vY (mQ m c):=by
 unfold mQ;split
 ·rename_i h0
  let⟨x,hx,_⟩:=dUZ h0
  split
  ·exact .same h rfl
  ·let⟨q1,q2,q3,q4,q5⟩:=rAZ h hx (c:=pJ (cH m c.2.2.2.1).2.1 c.2.2.2.2.2.2.2.2.1.toNat) (by rw[brZ];omega)
   exact⟨q1,q2,by have:=dlen h;show(nX m _ _).2.length<=501;omega,q5⟩
 ·exact .same h rfl
theorem nzZ(hbs:c.2.2.2.2.2.2.2.2.2.length<=4096):vY (iU m c):=by
 unfold iU;split
 ·rename_i h0
  let⟨x,hx,_⟩:=dUZ h0
  have hbl:=h.byt hx.2.2;split
  ·exact .same h rfl
  ·let⟨q1,q2,q3,q4,q5⟩:=rAZ h hx (c:=pK (cH m c.2.2.2.1).2.1 c.2.2.2.2.2.2.2.1 c.2.2.2.2.2.2.2.2.2) (by rw[d8Z];unfold dP;split<;>omega)
   exact⟨q1,q2,by have:=dlen h;show(nX m _ _).2.length<=501;omega,q5⟩
 ·exact .same h rfl
theorem bcZ(hn:0<=c.2.2.2.2.2.2.2.2.1/\c.2.2.2.2.2.2.2.2.1<=2147483648)(hbs:c.2.2.2.2.2.2.2.2.2.length<=4096):vY (bI m c):=by
 unfold bI;by_cases h1:c.2.2.1=uO 1
 ·rw[ZAN h1];exact pNZ h c
 rw[ZAM h1];by_cases h2:c.2.2.1=uO 2
 ·rw[ZAN h2];exact kcZ h c
 rw[ZAM h2];by_cases h3:c.2.2.1=uO 3
 ·rw[ZAN h3];exact kcZ h c
 rw[ZAM h3];by_cases h4:c.2.2.1=uO 4
 ·rw[ZAN h4];exact qGZ h c
 rw[ZAM h4];by_cases h5:c.2.2.1=uO 5
 ·rw[ZAN h5];exact nzZ h c hbs
 rw[ZAM h5];by_cases h6:c.2.2.1=uO 6
 ·rw[ZAN h6];exact phZ h c hn
 rw[ZAM h6];by_cases h7:c.2.2.1=uO 7
 ·rw[ZAN h7];exact g5Z h c
 rw[ZAM h7];by_cases h8:c.2.2.1=uO 8
 ·rw[ZAN h8];exact g5Z h c
 rw[ZAM h8];by_cases h9:c.2.2.1=uO 9
 ·rw[ZAN h9];exact l0Z h c
 rw[ZAM h9];by_cases h10:c.2.2.1=uO 10
 ·rw[ZAN h10];exact .same h rfl
 rw[ZAM h10];by_cases h11:c.2.2.1=uO 11
 ·rw[ZAN h11];exact suZ h c
 rw[ZAM h11];by_cases h12:c.2.2.1=uO 12
 ·rw[ZAN h12];exact .same h rfl
 rw[ZAM h12];exact .same h rfl
end
theorem q9Z(o):(sQ o).2.2.2.2.1<=2147483648:=by grind[sQ]
theorem a6Z{c}(hr:aL c=true):(0<=c.2.2.2.2.2.2.2.1/\c.2.2.2.2.2.2.2.1<=2147483648)/\(0<=c.2.2.2.2.2.2.2.2.1/\c.2.2.2.2.2.2.2.2.1<=2147483648)/\c.2.2.2.2.2.2.2.2.2.length<=4096:=by
 unfold aL vE at hr;have hs:=q9Z c.2.2.1.toNat
 grind
theorem ujZ:∀n,n<256->(sQ n).2.2.2.2.2.2=true->uO n=uO 1\/uO n=uO 2\/uO n=uO 3\/uO n=uO 4\/uO n=uO 5\/uO n=uO 6\/uO n=uO 7\/uO n=uO 8\/uO n=uO 9\/uO n=uO 10\/uO n=uO 11\/uO n=uO 12:=by decide+kernel
theorem jgZ{c}(hr:aL c=true):c.2.2.1=uO 1\/c.2.2.1=uO 2\/c.2.2.1=uO 3\/c.2.2.1=uO 4\/c.2.2.1=uO 5\/c.2.2.1=uO 6\/c.2.2.1=uO 7\/c.2.2.1=uO 8\/c.2.2.1=uO 9\/c.2.2.1=uO 10\/c.2.2.1=uO 11\/c.2.2.1=uO 12:=by
 unfold aL vE at hr;simp at hr;have:=ujZ c.2.2.1.toNat c.2.2.1.toNat_lt hr.1
 simp_all
theorem rsZ(m)(c):(rK m c).2.2.2.2.2.1=[]/\(rK m c).2.2.2.2.2.2.1=[]:=by unfold rK;(repeat' split)<;>exact⟨rfl,rfl⟩
theorem iDZ(m)(c):(iI m c).2.2.2.2.2.1=[]/\(iI m c).2.2.2.2.2.2.1=[]:=by unfold iI;(repeat' split)<;>exact⟨rfl,rfl⟩
theorem ezZ(m)(c):(dH m c).2.2.2.2.2.1=[]/\(dH m c).2.2.2.2.2.2.1=[]:=by unfold dH;(repeat' split)<;>exact⟨rfl,rfl⟩
theorem jXZ(m)(c):(eQ m c).2.2.2.2.2.1=[]/\(eQ m c).2.2.2.2.2.2.1=[]:=by unfold eQ;(repeat' split)<;>exact⟨rfl,rfl⟩
theorem qxZ(m)(c):(mQ m c).2.2.2.2.2.1=[]/\(mQ m c).2.2.2.2.2.2.1=[]:=by unfold mQ;(repeat' split)<;>exact⟨rfl,rfl⟩
theorem ncZ(m)(c):(iU m c).2.2.2.2.2.1=[]/\(iU m c).2.2.2.2.2.2.1=[]:=by unfold iU;(repeat' split)<;>exact⟨rfl,rfl⟩
theorem tnZ(m)(c):(yN m c).2.2.2.2.2.1=[]/\(yN m c).2.2.2.2.2.2.1=[]:=by unfold yN;(repeat' split)<;>exact⟨rfl,rfl⟩
theorem uPZ(m)(c):(nT m c).2.2.2.2.2.2.1=[]:=by unfold nT;(repeat' split)<;>rfl
def aU(m:Mod)(c:aX):Mod×Int×Rep:=
 if aL c=true then
  if(bI m c).1=0 then(((bI m c).2.1.1,nU (bI m c).2.1.1.1 (bI m c).2.1.2),0,(bI m c).2.2)
  else(m,(bI m c).1,lR)
 else(m,179,lR)
def doT(r:Mod×Int×Rep)(c:aX):Int×(Int×(Int×(Int×(Int×(Int×(Bool×(Int×(Byt×(List Ent×(Bool×(Int×(List Ino×List Byt)))))))))))):=(r.1.1.2,(c.1,(c.2.1,(r.2.1,(r.2.2.1.1,(r.2.2.1.2,(r.2.2.2.1,(r.2.2.2.2.1,(r.2.2.2.2.2.1,(r.2.2.2.2.2.2.1,(r.2.2.2.2.2.2.2.1,(r.2.2.2.2.2.2.2.2,(r.1.1.1,r.1.2)))))))))))))
theorem khZ{m}(h:aZ m)(c):aZ (aU m c).1:=by
 unfold aU;by_cases hr:aL c=true
 ·rw[ZAN hr]
  let⟨ho,hn,hbs⟩:=a6Z hr
  have s:=bcZ h c hn hbs;by_cases h0:(bI m c).1=0
  ·rw[ZAN h0];exact s.k.model s.t
  ·rw[ZAM h0];exact h
 simp_all
set_option maxHeartbeats 4000000
set_option maxRecDepth 100000
theorem aTZ(u):oA ((u.toNat:Nat):Int)=some u:=by rw[iOZ u.toNat_lt];simp
def JG(m:Mod)(q:DoR):Mod×Int×Rep:=
 if q.1=0 then((q.2.1.1,nU q.2.1.1.1 q.2.1.2),0,q.2.2) else(m,q.1,lR)
theorem bRZ{m}{c}(hr:aL c=true):aU m c=JG m (bI m c):=by simp_all[aU,JG]
def mkO(q:DoR)(by_:Byt)(en:List Ent)(m:Mod)(c:aX):IL:=(q.1,(m.1.1,(m.1.2,(m.2,(c.1,(c.2.1,(((c.2.2.1.toNat:Nat):Int),(c.2.2.2.1.1,(c.2.2.2.1.2,(c.2.2.2.2.1,(c.2.2.2.2.2.1.1,(c.2.2.2.2.2.1.2,(c.2.2.2.2.2.2.1,(c.2.2.2.2.2.2.2.1,(c.2.2.2.2.2.2.2.2.1,(c.2.2.2.2.2.2.2.2.2,(0,(0,(0,(0,(0,(0,(false,(0,(false,(0,(q.2.1.1.1,(q.2.1.1.2,(q.2.1.2,(c.1,(c.2.1,(((c.2.2.1.toNat:Nat):Int),(c.2.2.2.1.1,(c.2.2.2.1.2,(c.2.2.2.2.1,(c.2.2.2.2.2.1.1,(c.2.2.2.2.2.1.2,(c.2.2.2.2.2.2.1,(c.2.2.2.2.2.2.2.1,(c.2.2.2.2.2.2.2.2.1,(c.2.2.2.2.2.2.2.2.2,(c.1,(c.2.1,(0,(q.2.2.1.1,(q.2.2.1.2,(q.2.2.2.1,(q.2.2.2.2.1,(by_,(en,(q.2.2.2.2.2.2.2.1,q.2.2.2.2.2.2.2.2)))))))))))))))))))))))))))))))))))))))))))))))))))
noncomputable def NK (o1 : IL) : Option (Int × (Int × (Int × (Int × (Int × (Int × (Bool × (Int × (Byt × (List Ent × (Bool × (Int × (List Ino × List Byt))))))))))))) :=
 bif (!(o1.1==0)) then
  (BO aB (o1.2.1,o1.2.2.1)).bind fun r14=>
  (fK aB o1 (0,(o1.2.2.2.2.1,(o1.2.2.2.2.2.1,(o1.2.2.2.2.2.2.1,(o1.2.2.2.2.2.2.2.1,(o1.2.2.2.2.2.2.2.2.1,(o1.2.2.2.2.2.2.2.2.2.1,(o1.2.2.2.2.2.2.2.2.2.2.1,(o1.2.2.2.2.2.2.2.2.2.2.2.1,(o1.2.2.2.2.2.2.2.2.2.2.2.2.1,(o1.2.2.2.2.2.2.2.2.2.2.2.2.2.1,(o1.2.2.2.2.2.2.2.2.2.2.2.2.2.2.1,(o1.2.2.2.2.2.2.2.2.2.2.2.2.2.2.2.1,(o1.2.2.2.2.2.2.2.2.2.2.2.2.2.2.2.2.1,(o1.2.2.2.2.2.2.2.2.2.2.2.2.2.2.2.2.2.1,(o1.2.2.2.2.2.2.2.2.2.2.2.2.2.2.2.2.2.2.1,(o1.2.2.2.2.2.2.2.2.2.2.2.2.2.2.2.2.2.2.2.1,(o1.2.2.2.2.2.2.2.2.2.2.2.2.2.2.2.2.2.2.2.2.1,(o1.2.2.2.2.2.2.2.2.2.2.2.2.2.2.2.2.2.2.2.2.2.1,(o1.2.2.2.2.2.2.2.2.2.2.2.2.2.2.2.2.2.2.2.2.2.2.1,(o1.2.2.2.2.2.2.2.2.2.2.2.2.2.2.2.2.2.2.2.2.2.2.2.1,(o1.2.2.2.2.2.2.2.2.2.2.2.2.2.2.2.2.2.2.2.2.2.2.2.2.1,(o1.2.2.2.2.2.2.2.2.2.2.2.2.2.2.2.2.2.2.2.2.2.2.2.2.2.1,(r14.1,(r14.2,[])))))))))))))))))))))))))).bind fun o2=>
  some (o2.2.2.2.2.2.2.2.2.2.2.2.2.2.2.2.2.2.2.2.2.2.2.1,(o2.1,(o2.2.1,(o1.1,(0,(0,(false,(0,([],([],(false,(0,(o2.2.2.2.2.2.2.2.2.2.2.2.2.2.2.2.2.2.2.2.2.2.2.2.1,o2.2.2.2.2.2.2.2.2.2.2.2.2.2.2.2.2.2.2.2.2.2.2.2.2)))))))))))))
 else
  (tW aB o1.2.2.2.2.2.2.2.2.2.2.2.2.2.2.2.2.2.2.2.2.2.2.2.2.2.2.1 o1.2.2.2.2.2.2.2.2.2.2.2.2.2.2.2.2.2.2.2.2.2.2.2.2.2.2.2.1 o1.2.2.2.2.2.2.2.2.2.2.2.2.2.2.2.2.2.2.2.2.2.2.2.2.2.2.2.2.1 o1.2.2.2.2.2.2.2.2.2.2.2.2.2.2.2.2.2.2.2.2.2.2.2.2.2.2.2.2.2.1 o1.2.2.2.2.2.2.2.2.2.2.2.2.2.2.2.2.2.2.2.2.2.2.2.2.2.2.2.2.2.2.1 o1.2.2.2.2.2.2.2.2.2.2.2.2.2.2.2.2.2.2.2.2.2.2.2.2.2.2.2.2.2.2.2.1 o1.2.2.2.2.2.2.2.2.2.2.2.2.2.2.2.2.2.2.2.2.2.2.2.2.2.2.2.2.2.2.2.2.1 o1.2.2.2.2.2.2.2.2.2.2.2.2.2.2.2.2.2.2.2.2.2.2.2.2.2.2.2.2.2.2.2.2.2.1 o1.2.2.2.2.2.2.2.2.2.2.2.2.2.2.2.2.2.2.2.2.2.2.2.2.2.2.2.2.2.2.2.2.2.2.1 o1.2.2.2.2.2.2.2.2.2.2.2.2.2.2.2.2.2.2.2.2.2.2.2.2.2.2.2.2.2.2.2.2.2.2.2.1 o1.2.2.2.2.2.2.2.2.2.2.2.2.2.2.2.2.2.2.2.2.2.2.2.2.2.2.2.2.2.2.2.2.2.2.2.2.1 o1.2.2.2.2.2.2.2.2.2.2.2.2.2.2.2.2.2.2.2.2.2.2.2.2.2.2.2.2.2.2.2.2.2.2.2.2.2.1 o1.2.2.2.2.2.2.2.2.2.2.2.2.2.2.2.2.2.2.2.2.2.2.2.2.2.2.2.2.2.2.2.2.2.2.2.2.2.2.1 o1.2.2.2.2.2.2.2.2.2.2.2.2.2.2.2.2.2.2.2.2.2.2.2.2.2.2.2.2.2.2.2.2.2.2.2.2.2.2.2.1 o1.2.2.2.2.2.2.2.2.2.2.2.2.2.2.2.2.2.2.2.2.2.2.2.2.2.2.2.2.2.2.2.2.2.2.2.2.2.2.2.2.1 o1.2.2.2.2.2.2.2.2.2.2.2.2.2.2.2.2.2.2.2.2.2.2.2.2.2.2.2.2.2.2.2.2.2.2.2.2.2.2.2.2.2.1 o1.2.2.2.2.2.2.2.2.2.2.2.2.2.2.2.2.2.2.2.2.2.2.2.2.2.2.2.2.2.2.2.2.2.2.2.2.2.2.2.2.2.2.1 o1.2.2.2.2.2.2.2.2.2.2.2.2.2.2.2.2.2.2.2.2.2.2.2.2.2.2.2.2.2.2.2.2.2.2.2.2.2.2.2.2.2.2.2.1 o1.2.2.2.2.2.2.2.2.2.2.2.2.2.2.2.2.2.2.2.2.2.2.2.2.2.2.2.2.2.2.2.2.2.2.2.2.2.2.2.2.2.2.2.2.1 o1.2.2.2.2.2.2.2.2.2.2.2.2.2.2.2.2.2.2.2.2.2.2.2.2.2.2.2.2.2.2.2.2.2.2.2.2.2.2.2.2.2.2.2.2.2.1 o1.2.2.2.2.2.2.2.2.2.2.2.2.2.2.2.2.2.2.2.2.2.2.2.2.2.2.2.2.2.2.2.2.2.2.2.2.2.2.2.2.2.2.2.2.2.2.1 o1.2.2.2.2.2.2.2.2.2.2.2.2.2.2.2.2.2.2.2.2.2.2.2.2.2.2.2.2.2.2.2.2.2.2.2.2.2.2.2.2.2.2.2.2.2.2.2.1 o1.2.2.2.2.2.2.2.2.2.2.2.2.2.2.2.2.2.2.2.2.2.2.2.2.2.2.2.2.2.2.2.2.2.2.2.2.2.2.2.2.2.2.2.2.2.2.2.2.1 o1.2.2.2.2.2.2.2.2.2.2.2.2.2.2.2.2.2.2.2.2.2.2.2.2.2.2.2.2.2.2.2.2.2.2.2.2.2.2.2.2.2.2.2.2.2.2.2.2.2.1 o1.2.2.2.2.2.2.2.2.2.2.2.2.2.2.2.2.2.2.2.2.2.2.2.2.2.2.2.2.2.2.2.2.2.2.2.2.2.2.2.2.2.2.2.2.2.2.2.2.2.2.1 o1.2.2.2.2.2.2.2.2.2.2.2.2.2.2.2.2.2.2.2.2.2.2.2.2.2.2.2.2.2.2.2.2.2.2.2.2.2.2.2.2.2.2.2.2.2.2.2.2.2.2.2).bind fun r17=>
  some (r17.1,(o1.2.2.2.2.2.2.2.2.2.2.2.2.2.2.2.2.2.2.2.2.2.2.2.2.2.2.2.2.2.2.2.2.2.2.2.2.2.2.2.2.2.1,(o1.2.2.2.2.2.2.2.2.2.2.2.2.2.2.2.2.2.2.2.2.2.2.2.2.2.2.2.2.2.2.2.2.2.2.2.2.2.2.2.2.2.2.1,(o1.2.2.2.2.2.2.2.2.2.2.2.2.2.2.2.2.2.2.2.2.2.2.2.2.2.2.2.2.2.2.2.2.2.2.2.2.2.2.2.2.2.2.2.1,(o1.2.2.2.2.2.2.2.2.2.2.2.2.2.2.2.2.2.2.2.2.2.2.2.2.2.2.2.2.2.2.2.2.2.2.2.2.2.2.2.2.2.2.2.2.1,(o1.2.2.2.2.2.2.2.2.2.2.2.2.2.2.2.2.2.2.2.2.2.2.2.2.2.2.2.2.2.2.2.2.2.2.2.2.2.2.2.2.2.2.2.2.2.1,(o1.2.2.2.2.2.2.2.2.2.2.2.2.2.2.2.2.2.2.2.2.2.2.2.2.2.2.2.2.2.2.2.2.2.2.2.2.2.2.2.2.2.2.2.2.2.2.1,(o1.2.2.2.2.2.2.2.2.2.2.2.2.2.2.2.2.2.2.2.2.2.2.2.2.2.2.2.2.2.2.2.2.2.2.2.2.2.2.2.2.2.2.2.2.2.2.2.1,(o1.2.2.2.2.2.2.2.2.2.2.2.2.2.2.2.2.2.2.2.2.2.2.2.2.2.2.2.2.2.2.2.2.2.2.2.2.2.2.2.2.2.2.2.2.2.2.2.2.1,(o1.2.2.2.2.2.2.2.2.2.2.2.2.2.2.2.2.2.2.2.2.2.2.2.2.2.2.2.2.2.2.2.2.2.2.2.2.2.2.2.2.2.2.2.2.2.2.2.2.2.1,(o1.2.2.2.2.2.2.2.2.2.2.2.2.2.2.2.2.2.2.2.2.2.2.2.2.2.2.2.2.2.2.2.2.2.2.2.2.2.2.2.2.2.2.2.2.2.2.2.2.2.2.1,(o1.2.2.2.2.2.2.2.2.2.2.2.2.2.2.2.2.2.2.2.2.2.2.2.2.2.2.2.2.2.2.2.2.2.2.2.2.2.2.2.2.2.2.2.2.2.2.2.2.2.2.2,(r17.2.2.2.2.2.2.2.2.2.2.2.2.2.2.2.2.2.2.2.2.2.2.2.2.2.2.2.1,r17.2.2.2.2.2.2.2.2.2.2.2.2.2.2.2.2.2.2.2.2.2.2.2.2.2.2.2.2)))))))))))))
theorem bAZ{m}(h:aZ m)(c){q}(s:vY q){by_}{en}(n1:q.2.2.2.2.2.1=by_)(n2:q.2.2.2.2.2.2.1=en):NK (mkO q by_ en m c)=some (doT (JG m q) c):=by
 have hl:=h.len;unfold JG NK;by_cases h0:q.1=0
 ·rw[ZAN h0];simp[mkO,h0,ZAD];rw[v9Z (hf:=s.t.r.fit) (hl:=s.t.r.len.2) (hd:=s.b),ZAA];simp[doT,n1,n2]
 ·rw[ZAM h0];simp[mkO,ZAW.2 h0,ZAn,ZAK];rw[show((m.1.1,m.1.2):cI)=m.1 from rfl,dKZ h.fit,ZAA,vFZ _ _ _ _ _ _ _ _ _ _ _ _ _ _ _ _ _ _ _ _ _ _ _ _ _ m.2 rfl (dlen h) (fun i z hz=>h.byt hz),ZAA]
  rfl
theorem do_1{m}(h:aZ m)(c)(hr:aL c=true)(hk:c.2.2.1=uO 1):bH aB m c=some (doT (aU m c) c):=by
 let⟨ho,hn,hbs⟩:=a6Z hr
 have s:=bcZ h c hn hbs;have hA:bI m c=rK m c:=by unfold bI;rw[hk];rfl
 have e1:(c.2.2.1==uO 1)=true:=by rw[hk];rfl
 rw[bRZ hr,hA];rw[hA] at s;unfold bH Pa Pb Pc Pd Pe Pf Pg Ph Pi Pj Pk Pl Pm Pn Po Pp Pq Pr Ps Pt Pu Pv Pw Px Py Pz Pza Pzb Pzc Pzd Pze Pzf Pzg Pzh Pzi Pzj Pzk Pzl Pzm Pzn Pzo Pzp Pzq Pzr Pzs Pzt Pzu Pzv Pzw Pzx PH PW PX PZX;rw[aeZ (by decide)];rw[a2Z h,ZAA,ZAK,aTZ,ZAA,ayZ,ZAA,hr,ZAK];rw[ZAA,e1,ZAK,s5Z h c,ZAA];exact bAZ h c s (rsZ m c).1 (rsZ m c).2
theorem do_2{m}(h:aZ m)(c)(hr:aL c=true)(hk:c.2.2.1=uO 2):bH aB m c=some (doT (aU m c) c):=by
 let⟨ho,hn,hbs⟩:=a6Z hr
 have s:=bcZ h c hn hbs;have hA:bI m c=iI m c:=by unfold bI;rw[hk];rfl
 have e1:(c.2.2.1==uO 1)=false:=by rw[hk];rfl
 have e2:(c.2.2.1==uO 2)=true:=by rw[hk];rfl
 rw[bRZ hr,hA];rw[hA] at s;unfold bH Pa Pb Pc Pd Pe Pf Pg Ph Pi Pj Pk Pl Pm Pn Po Pp Pq Pr Ps Pt Pu Pv Pw Px Py Pz Pza Pzb Pzc Pzd Pze Pzf Pzg Pzh Pzi Pzj Pzk Pzl Pzm Pzn Pzo Pzp Pzq Pzr Pzs Pzt Pzu Pzv Pzw Pzx PH PW PX PZX;rw[aeZ (by decide)];rw[a2Z h,ZAA,ZAK,aTZ,ZAA,ayZ,ZAA,hr,ZAK];rw[ZAA,e1,ZAD,e2,ZAK,t3Z h c,ZAA];exact bAZ h c s (iDZ m c).1 (iDZ m c).2
theorem do_3{m}(h:aZ m)(c)(hr:aL c=true)(hk:c.2.2.1=uO 3):bH aB m c=some (doT (aU m c) c):=by
 let⟨ho,hn,hbs⟩:=a6Z hr
 have s:=bcZ h c hn hbs;have hA:bI m c=iI m c:=by unfold bI;rw[hk];rfl
 have e1:(c.2.2.1==uO 1)=false:=by rw[hk];rfl
 have e2:(c.2.2.1==uO 2)=false:=by rw[hk];rfl
 have e3:(c.2.2.1==uO 3)=true:=by rw[hk];rfl
 rw[bRZ hr,hA];rw[hA] at s;unfold bH Pa Pb Pc Pd Pe Pf Pg Ph Pi Pj Pk Pl Pm Pn Po Pp Pq Pr Ps Pt Pu Pv Pw Px Py Pz Pza Pzb Pzc Pzd Pze Pzf Pzg Pzh Pzi Pzj Pzk Pzl Pzm Pzn Pzo Pzp Pzq Pzr Pzs Pzt Pzu Pzv Pzw Pzx PH PW PX PZX;rw[aeZ (by decide)];rw[a2Z h,ZAA,ZAK,aTZ,ZAA,ayZ,ZAA,hr,ZAK];rw[ZAA,e1,ZAD,e2,ZAD,e3,ZAK,t3Z h c,ZAA,ZAA];exact bAZ h c s (iDZ m c).1 (iDZ m c).2
theorem do_4{m}(h:aZ m)(c)(hr:aL c=true)(hk:c.2.2.1=uO 4):bH aB m c=some (doT (aU m c) c):=by
 let⟨ho,hn,hbs⟩:=a6Z hr
 have s:=bcZ h c hn hbs;have hA:bI m c=nT m c:=by unfold bI;rw[hk];rfl
 have e1:(c.2.2.1==uO 1)=false:=by rw[hk];rfl
 have e2:(c.2.2.1==uO 2)=false:=by rw[hk];rfl
 have e3:(c.2.2.1==uO 3)=false:=by rw[hk];rfl
 have e4:(c.2.2.1==uO 4)=true:=by rw[hk];rfl
 rw[bRZ hr,hA];rw[hA] at s;unfold bH Pa Pb Pc Pd Pe Pf Pg Ph Pi Pj Pk Pl Pm Pn Po Pp Pq Pr Ps Pt Pu Pv Pw Px Py Pz Pza Pzb Pzc Pzd Pze Pzf Pzg Pzh Pzi Pzj Pzk Pzl Pzm Pzn Pzo Pzp Pzq Pzr Pzs Pzt Pzu Pzv Pzw Pzx PH PW PX PZX;rw[aeZ (by decide)];rw[a2Z h,ZAA,ZAK,aTZ,ZAA,ayZ,ZAA,hr,ZAK];rw[ZAA,e1,ZAD,e2,ZAD,e3,ZAD,e4,ZAK,vBZ h c ho hn,ZAA,ZAA,ZAA];exact bAZ h c s rfl (uPZ m c)
theorem do_5{m}(h:aZ m)(c)(hr:aL c=true)(hk:c.2.2.1=uO 5):bH aB m c=some (doT (aU m c) c):=by
 let⟨ho,hn,hbs⟩:=a6Z hr
 have s:=bcZ h c hn hbs;have hA:bI m c=iU m c:=by unfold bI;rw[hk];rfl
 have e1:(c.2.2.1==uO 1)=false:=by rw[hk];rfl
 have e2:(c.2.2.1==uO 2)=false:=by rw[hk];rfl
 have e3:(c.2.2.1==uO 3)=false:=by rw[hk];rfl
 have e4:(c.2.2.1==uO 4)=false:=by rw[hk];rfl
 have e5:(c.2.2.1==uO 5)=true:=by rw[hk];rfl
 rw[bRZ hr,hA];rw[hA] at s;unfold bH Pa Pb Pc Pd Pe Pf Pg Ph Pi Pj Pk Pl Pm Pn Po Pp Pq Pr Ps Pt Pu Pv Pw Px Py Pz Pza Pzb Pzc Pzd Pze Pzf Pzg Pzh Pzi Pzj Pzk Pzl Pzm Pzn Pzo Pzp Pzq Pzr Pzs Pzt Pzu Pzv Pzw Pzx PH PW PX PZX;rw[aeZ (by decide)];rw[a2Z h,ZAA,ZAK,aTZ,ZAA,ayZ,ZAA,hr,ZAK];rw[ZAA,e1,ZAD,e2,ZAD,e3,ZAD,e4,ZAD,e5,ZAK,tKZ h c ho hbs,ZAA,ZAA,ZAA];exact bAZ h c s (ncZ m c).1 (ncZ m c).2
theorem do_6{m}(h:aZ m)(c)(hr:aL c=true)(hk:c.2.2.1=uO 6):bH aB m c=some (doT (aU m c) c):=by
 let⟨ho,hn,hbs⟩:=a6Z hr
 have s:=bcZ h c hn hbs;have hA:bI m c=mQ m c:=by unfold bI;rw[hk];rfl
 have e1:(c.2.2.1==uO 1)=false:=by rw[hk];rfl
 have e2:(c.2.2.1==uO 2)=false:=by rw[hk];rfl
 have e3:(c.2.2.1==uO 3)=false:=by rw[hk];rfl
 have e4:(c.2.2.1==uO 4)=false:=by rw[hk];rfl
 have e5:(c.2.2.1==uO 5)=false:=by rw[hk];rfl
 have e6:(c.2.2.1==uO 6)=true:=by rw[hk];rfl
 rw[bRZ hr,hA];rw[hA] at s;unfold bH Pa Pb Pc Pd Pe Pf Pg Ph Pi Pj Pk Pl Pm Pn Po Pp Pq Pr Ps Pt Pu Pv Pw Px Py Pz Pza Pzb Pzc Pzd Pze Pzf Pzg Pzh Pzi Pzj Pzk Pzl Pzm Pzn Pzo Pzp Pzq Pzr Pzs Pzt Pzu Pzv Pzw Pzx PH PW PX PZX;rw[aeZ (by decide)];rw[a2Z h,ZAA,ZAK,aTZ,ZAA,ayZ,ZAA,hr,ZAK];rw[ZAA,e1,ZAD,e2,ZAD,e3,ZAD,e4,ZAD,e5,ZAD,e6,ZAK,vwZ h c hn.1,ZAA,ZAA,ZAA];exact bAZ h c s (qxZ m c).1 (qxZ m c).2
theorem do_7{m}(h:aZ m)(c)(hr:aL c=true)(hk:c.2.2.1=uO 7):bH aB m c=some (doT (aU m c) c):=by
 let⟨ho,hn,hbs⟩:=a6Z hr
 have s:=bcZ h c hn hbs;have hA:bI m c=dH m c:=by unfold bI;rw[hk];rfl
 have e1:(c.2.2.1==uO 1)=false:=by rw[hk];rfl
 have e2:(c.2.2.1==uO 2)=false:=by rw[hk];rfl
 have e3:(c.2.2.1==uO 3)=false:=by rw[hk];rfl
 have e4:(c.2.2.1==uO 4)=false:=by rw[hk];rfl
 have e5:(c.2.2.1==uO 5)=false:=by rw[hk];rfl
 have e6:(c.2.2.1==uO 6)=false:=by rw[hk];rfl
 have e7:(c.2.2.1==uO 7)=true:=by rw[hk];rfl
 rw[bRZ hr,hA];rw[hA] at s;unfold bH Pa Pb Pc Pd Pe Pf Pg Ph Pi Pj Pk Pl Pm Pn Po Pp Pq Pr Ps Pt Pu Pv Pw Px Py Pz Pza Pzb Pzc Pzd Pze Pzf Pzg Pzh Pzi Pzj Pzk Pzl Pzm Pzn Pzo Pzp Pzq Pzr Pzs Pzt Pzu Pzv Pzw Pzx PH PW PX PZX;rw[aeZ (by decide)];rw[a2Z h,ZAA,ZAK,aTZ,ZAA,ayZ,ZAA,hr,ZAK];rw[ZAA,e1,ZAD,e2,ZAD,e3,ZAD,e4,ZAD,e5,ZAD,e6,ZAD,e7,ZAK,nlZ h c,ZAA,ZAA,ZAA];exact bAZ h c s (ezZ m c).1 (ezZ m c).2
theorem do_8{m}(h:aZ m)(c)(hr:aL c=true)(hk:c.2.2.1=uO 8):bH aB m c=some (doT (aU m c) c):=by
 let⟨ho,hn,hbs⟩:=a6Z hr
 have s:=bcZ h c hn hbs;have hA:bI m c=dH m c:=by unfold bI;rw[hk];rfl
 have e1:(c.2.2.1==uO 1)=false:=by rw[hk];rfl
 have e2:(c.2.2.1==uO 2)=false:=by rw[hk];rfl
 have e3:(c.2.2.1==uO 3)=false:=by rw[hk];rfl
 have e4:(c.2.2.1==uO 4)=false:=by rw[hk];rfl
 have e5:(c.2.2.1==uO 5)=false:=by rw[hk];rfl
 have e6:(c.2.2.1==uO 6)=false:=by rw[hk];rfl
 have e7:(c.2.2.1==uO 7)=false:=by rw[hk];rfl
 have e8:(c.2.2.1==uO 8)=true:=by rw[hk];rfl
 rw[bRZ hr,hA];rw[hA] at s;unfold bH Pa Pb Pc Pd Pe Pf Pg Ph Pi Pj Pk Pl Pm Pn Po Pp Pq Pr Ps Pt Pu Pv Pw Px Py Pz Pza Pzb Pzc Pzd Pze Pzf Pzg Pzh Pzi Pzj Pzk Pzl Pzm Pzn Pzo Pzp Pzq Pzr Pzs Pzt Pzu Pzv Pzw Pzx PH PW PX PZX;rw[aeZ (by decide)];rw[a2Z h,ZAA,ZAK,aTZ,ZAA,ayZ,ZAA,hr,ZAK];rw[ZAA,e1,ZAD,e2,ZAD,e3,ZAD,e4,ZAD,e5,ZAD,e6,ZAD,e7,ZAD,e8,ZAK,nlZ h c,ZAA,ZAA,ZAA];exact bAZ h c s (ezZ m c).1 (ezZ m c).2
theorem do_9{m}(h:aZ m)(c)(hr:aL c=true)(hk:c.2.2.1=uO 9):bH aB m c=some (doT (aU m c) c):=by
 let⟨ho,hn,hbs⟩:=a6Z hr
 have s:=bcZ h c hn hbs;have hA:bI m c=eQ m c:=by unfold bI;rw[hk];rfl
 have e1:(c.2.2.1==uO 1)=false:=by rw[hk];rfl
 have e2:(c.2.2.1==uO 2)=false:=by rw[hk];rfl
 have e3:(c.2.2.1==uO 3)=false:=by rw[hk];rfl
 have e4:(c.2.2.1==uO 4)=false:=by rw[hk];rfl
 have e5:(c.2.2.1==uO 5)=false:=by rw[hk];rfl
 have e6:(c.2.2.1==uO 6)=false:=by rw[hk];rfl
 have e7:(c.2.2.1==uO 7)=false:=by rw[hk];rfl
 have e8:(c.2.2.1==uO 8)=false:=by rw[hk];rfl
 have e9:(c.2.2.1==uO 9)=true:=by rw[hk];rfl
 rw[bRZ hr,hA];rw[hA] at s;unfold bH Pa Pb Pc Pd Pe Pf Pg Ph Pi Pj Pk Pl Pm Pn Po Pp Pq Pr Ps Pt Pu Pv Pw Px Py Pz Pza Pzb Pzc Pzd Pze Pzf Pzg Pzh Pzi Pzj Pzk Pzl Pzm Pzn Pzo Pzp Pzq Pzr Pzs Pzt Pzu Pzv Pzw Pzx PH PW PX PZX;rw[aeZ (by decide)];rw[a2Z h,ZAA,ZAK,aTZ,ZAA,ayZ,ZAA,hr,ZAK];rw[ZAA,e1,ZAD,e2,ZAD,e3,ZAD,e4,ZAD,e5,ZAD,e6,ZAD,e7,ZAD,e8,ZAD,e9,ZAK,syZ h c,ZAA,ZAA,ZAA];exact bAZ h c s (jXZ m c).1 (jXZ m c).2
theorem wiZ{m}(h:aZ m)(c)(hr:aL c=true)(hk:c.2.2.1=uO 10):bH aB m c=some (doT (aU m c) c):=by
 let⟨ho,hn,hbs⟩:=a6Z hr
 have s:=bcZ h c hn hbs;have hA:bI m c=EQ m c:=by unfold bI;rw[hk];rfl
 have e1:(c.2.2.1==uO 1)=false:=by rw[hk];rfl
 have e2:(c.2.2.1==uO 2)=false:=by rw[hk];rfl
 have e3:(c.2.2.1==uO 3)=false:=by rw[hk];rfl
 have e4:(c.2.2.1==uO 4)=false:=by rw[hk];rfl
 have e5:(c.2.2.1==uO 5)=false:=by rw[hk];rfl
 have e6:(c.2.2.1==uO 6)=false:=by rw[hk];rfl
 have e7:(c.2.2.1==uO 7)=false:=by rw[hk];rfl
 have e8:(c.2.2.1==uO 8)=false:=by rw[hk];rfl
 have e9:(c.2.2.1==uO 9)=false:=by rw[hk];rfl
 have e10:(c.2.2.1==uO 10)=true:=by rw[hk];rfl
 rw[bRZ hr,hA];rw[hA] at s;unfold bH Pa Pb Pc Pd Pe Pf Pg Ph Pi Pj Pk Pl Pm Pn Po Pp Pq Pr Ps Pt Pu Pv Pw Px Py Pz Pza Pzb Pzc Pzd Pze Pzf Pzg Pzh Pzi Pzj Pzk Pzl Pzm Pzn Pzo Pzp Pzq Pzr Pzs Pzt Pzu Pzv Pzw Pzx PH PW PX PZX;rw[aeZ (by decide)];rw[a2Z h,ZAA,ZAK,aTZ,ZAA,ayZ,ZAA,hr,ZAK];rw[ZAA,e1,ZAD,e2,ZAD,e3,ZAD,e4,ZAD,e5,ZAD,e6,ZAD,e7,ZAD,e8,ZAD,e9,ZAD,e10,ZAK,vKZ h c,ZAA,ZAA,ZAA];exact bAZ h c s rfl rfl
theorem vWZ{m}(h:aZ m)(c)(hr:aL c=true)(hk:c.2.2.1=uO 11):bH aB m c=some (doT (aU m c) c):=by
 let⟨ho,hn,hbs⟩:=a6Z hr
 have s:=bcZ h c hn hbs;have hA:bI m c=yN m c:=by unfold bI;rw[hk];rfl
 have e1:(c.2.2.1==uO 1)=false:=by rw[hk];rfl
 have e2:(c.2.2.1==uO 2)=false:=by rw[hk];rfl
 have e3:(c.2.2.1==uO 3)=false:=by rw[hk];rfl
 have e4:(c.2.2.1==uO 4)=false:=by rw[hk];rfl
 have e5:(c.2.2.1==uO 5)=false:=by rw[hk];rfl
 have e6:(c.2.2.1==uO 6)=false:=by rw[hk];rfl
 have e7:(c.2.2.1==uO 7)=false:=by rw[hk];rfl
 have e8:(c.2.2.1==uO 8)=false:=by rw[hk];rfl
 have e9:(c.2.2.1==uO 9)=false:=by rw[hk];rfl
 have e10:(c.2.2.1==uO 10)=false:=by rw[hk];rfl
 have e11:(c.2.2.1==uO 11)=true:=by rw[hk];rfl
 rw[bRZ hr,hA];rw[hA] at s;unfold bH Pa Pb Pc Pd Pe Pf Pg Ph Pi Pj Pk Pl Pm Pn Po Pp Pq Pr Ps Pt Pu Pv Pw Px Py Pz Pza Pzb Pzc Pzd Pze Pzf Pzg Pzh Pzi Pzj Pzk Pzl Pzm Pzn Pzo Pzp Pzq Pzr Pzs Pzt Pzu Pzv Pzw Pzx PH PW PX PZX;rw[aeZ (by decide)];rw[a2Z h,ZAA,ZAK,aTZ,ZAA,ayZ,ZAA,hr,ZAK];rw[ZAA,e1,ZAD,e2,ZAD,e3,ZAD,e4,ZAD,e5,ZAD,e6,ZAD,e7,ZAD,e8,ZAD,e9,ZAD,e10,ZAD,e11,ZAK,wcZ h c,ZAA,ZAA,ZAA];exact bAZ h c s (tnZ m c).1 (tnZ m c).2
theorem wbZ{m}(h:aZ m)(c)(hr:aL c=true)(hk:c.2.2.1=uO 12):bH aB m c=some (doT (aU m c) c):=by
 let⟨ho,hn,hbs⟩:=a6Z hr
 have s:=bcZ h c hn hbs;have hA:bI m c=HU m:=by unfold bI;rw[hk];rfl
 have e1:(c.2.2.1==uO 1)=false:=by rw[hk];rfl
 have e2:(c.2.2.1==uO 2)=false:=by rw[hk];rfl
 have e3:(c.2.2.1==uO 3)=false:=by rw[hk];rfl
 have e4:(c.2.2.1==uO 4)=false:=by rw[hk];rfl
 have e5:(c.2.2.1==uO 5)=false:=by rw[hk];rfl
 have e6:(c.2.2.1==uO 6)=false:=by rw[hk];rfl
 have e7:(c.2.2.1==uO 7)=false:=by rw[hk];rfl
 have e8:(c.2.2.1==uO 8)=false:=by rw[hk];rfl
 have e9:(c.2.2.1==uO 9)=false:=by rw[hk];rfl
 have e10:(c.2.2.1==uO 10)=false:=by rw[hk];rfl
 have e11:(c.2.2.1==uO 11)=false:=by rw[hk];rfl
 have e12:(c.2.2.1==uO 12)=true:=by rw[hk];rfl
 rw[bRZ hr,hA];rw[hA] at s;unfold bH Pa Pb Pc Pd Pe Pf Pg Ph Pi Pj Pk Pl Pm Pn Po Pp Pq Pr Ps Pt Pu Pv Pw Px Py Pz Pza Pzb Pzc Pzd Pze Pzf Pzg Pzh Pzi Pzj Pzk Pzl Pzm Pzn Pzo Pzp Pzq Pzr Pzs Pzt Pzu Pzv Pzw Pzx PH PW PX PZX;rw[aeZ (by decide)];rw[a2Z h,ZAA,ZAK,aTZ,ZAA,ayZ,ZAA,hr,ZAK];rw[ZAA,e1,ZAD,e2,ZAD,e3,ZAD,e4,ZAD,e5,ZAD,e6,ZAD,e7,ZAD,e8,ZAD,e9,ZAD,e10,ZAD,e11,ZAD,e12,ZAK,vQZ h c,ZAA,ZAA,ZAA];exact bAZ h c s rfl rfl
theorem p5Z{m}(h:aZ m)(c:aX):bH aB m c=some (doT (aU m c) c):=by
 cases hr:aL c with
 |true=>
  rcases jgZ hr with hk|hk|hk|hk|hk|hk|hk|hk|hk|hk|hk|hk
  ·exact do_1 h c hr hk
  ·exact do_2 h c hr hk
  ·exact do_3 h c hr hk
  ·exact do_4 h c hr hk
  ·exact do_5 h c hr hk
  ·exact do_6 h c hr hk
  ·exact do_7 h c hr hk
  ·exact do_8 h c hr hk
  ·exact do_9 h c hr hk
  ·exact wiZ h c hr hk
  ·exact vWZ h c hr hk
  simp_all[wbZ]
 |false=>
  have e:aU m c=JG m (179,m,lR):=by unfold aU JG;rw[hr,ZAM (by simp),ZAM (show¬((179:Int)=0) by decide)]
  rw[e];unfold bH Pa Pb Pc Pd Pe Pf Pg Ph Pi Pj Pk Pl Pm Pn Po Pp Pq Pr Ps Pt Pu Pv Pw Px Py Pz Pza Pzb Pzc Pzd Pze Pzf Pzg Pzh Pzi Pzj Pzk Pzl Pzm Pzn Pzo Pzp Pzq Pzr Pzs Pzt Pzu Pzv Pzw Pzx PH PW PX PZX;rw[aeZ (by decide)];rw[a2Z h,ZAA,aTZ,ZAA,ayZ,ZAA,hr,ZAD,ZAA];exact bAZ h c (q:=(179,m,lR)) (.same h rfl) rfl rfl
abbrev CJ:Type:=List UInt8×Int
abbrev aY:Type:=Int×(Int×(Int×((Int×Int)×(Bool×(Int×(List UInt8×(List CJ×(Bool×Int))))))))
def nN(a b:Int):Bool:=decide (0<=a/\a<16/\1<=b/\b<=1099511627776)
theorem qWZ(a b):FN aB a b=some (nN a b):=by
 grind[FN,nN]
def jE(h:Int×Int):Bool:=decide (1<=h.1/\h.1<=500/\1<=h.2/\h.2<=1099511627776)
theorem nJZ(h):FO aB h=some (jE h):=by
 grind[FO,jE]
def lJ(e:CJ):Bool:=decide (1<=e.1.length/\e.1.length<=100/\1<=e.2/\e.2<=500)
def yO(h:Int×Int):Bool:=(h.1==0)&&(h.2==0)
def bC(r:aY):Bool:=
 nN r.1 r.2.1&&(decide (0<=r.2.2.1/\r.2.2.1<=1000)&&(if r.2.2.1≠0 then
  yO r.2.2.2.1&&(!r.2.2.2.2.1&&(!r.2.2.2.2.2.2.2.2.1&&((r.2.2.2.2.2.1==0)&&((r.2.2.2.2.2.2.2.2.2==0)&&decide (r.2.2.2.2.2.2.1=[]/\r.2.2.2.2.2.2.2.1=[])))))
 else(yO r.2.2.2.1||jE r.2.2.2.1)&&(decide (0<=r.2.2.2.2.2.1/\r.2.2.2.2.2.1<=65536)&&(decide (0<=r.2.2.2.2.2.2.2.2.2/\r.2.2.2.2.2.2.2.2.2<=1099511627776)&&
  (r.2.2.2.2.2.2.2.1.all lJ&&(decide (r.2.2.2.2.2.2.1.length<=4096)&&decide (r.2.2.2.2.2.2.2.1.length<=100)))))))
theorem ucZ{b0}{x1 x2 x3 h1 h2}{d}{sz}{bs}{es:List CJ}{mo}{fr}(hes:es.length<4611686018427387904):
 iY aB (b0,(x1,(x2,(x3,(h1,(h2,(d,(sz,(bs,(es,(mo,fr))))))))))) (0,(x1,(x2,(x3,(h1,(h2,(d,(sz,(bs,(es,(mo,fr)))))))))))=some (if es.all lJ=true then .inl (x1,(x2,(x3,(h1,(h2,(d,(sz,(bs,(es,(mo,fr)))))))))) else .inr false):=by
 unfold iY;have:=a5Z (f:=fun tt:Int×(Int×(Int×(Int×(Int×(Int×(Bool×(Int×(List UInt8×(List CJ×(Bool×Int))))))))))=>gO aB (b0,(x1,(x2,(x3,(h1,(h2,(d,(sz,(bs,(es,(mo,fr))))))))))) tt.1 tt.2.1 tt.2.2.1 tt.2.2.2.1 tt.2.2.2.2.1 tt.2.2.2.2.2.1 tt.2.2.2.2.2.2.1 tt.2.2.2.2.2.2.2.1 tt.2.2.2.2.2.2.2.2.1 tt.2.2.2.2.2.2.2.2.2.1 tt.2.2.2.2.2.2.2.2.2.2.1 tt.2.2.2.2.2.2.2.2.2.2.2)
  (fun n s=>∃k:Nat,s=((k:Int),(x1,(x2,(x3,(h1,(h2,(d,(sz,(bs,(es,(mo,fr)))))))))))/\k+n=es.length/\(es.take k).all lJ=true)
  (fun o=>o=if es.all lJ=true then .inl (x1,(x2,(x3,(h1,(h2,(d,(sz,(bs,(es,(mo,fr)))))))))) else .inr false)
  (fun n s ⟨k,hs,hk,ha⟩=>by
   subst hs;have hk':k<es.length:=by omega
   show(∃s',gO aB _ (k:Int) x1 x2 x3 h1 h2 d sz bs es mo fr=_/\_)\/∃o,gO aB _ (k:Int) x1 x2 x3 h1 h2 d sz bs es mo fr=_/\_;unfold gO;simp only;rw[ZAJ (show(k:Int)<((es.length:Nat):Int) by omega),acZ hk',w64 ⟨by omega,by omega⟩];simp only[ZAK,ZAA,ZAC hk'];have htk:(es.take (k+1)).all lJ=((es.take k).all lJ&&lJ es[k]):=by rw[ZBF hk',List.all_append];simp
   have hbad:lJ es[k]=false->es.all lJ=false:=fun h=>by
    rw[List.all_eq_false];exact⟨es[k],ZBO hk',by rw[h];simp⟩
   generalize es[k]=en at htk hbad⊢
   let⟨nm,id⟩:=en
   by_cases g:lJ (nm,id)=true
   ·left;have g':=g;unfold lJ at g';simp only[ZAt] at g';rw[ZAE (show¬((nm.length:Nat):Int)<1 by omega),ZAE (show¬((nm.length:Nat):Int)>100 by omega),ZAE (show¬id<1 by omega),ZAE (show¬id>500 by omega)];exact⟨_,rfl,k+1,rfl,by omega,by rw[htk,ha,g];rfl⟩
   ·right;have g0:=by simpa using g
    rw[hbad g0];refine⟨_,?_,rfl⟩;have g':=g0;unfold lJ at g';simp only[ZBG] at g';by_cases q1:((nm.length:Nat):Int)<1
    ·rw[ZAJ q1];rfl
    ·by_cases q2:((nm.length:Nat):Int)>100
     ·rw[ZAE q1,ZAJ q2];rfl
     ·by_cases q3:id<1
      ·rw[ZAE q1,ZAE q2,ZAJ q3];rfl
      ·have q4:id>500:=by omega
       rw[ZAE q1,ZAE q2,ZAE q3,ZAJ q4];rfl)
  (fun s ⟨k,hs,hk,ha⟩=>by
   subst hs;have:k=es.length:=by omega
   subst this;rw[ZAu] at ha;rw[ha];refine⟨_,?_,rfl⟩;show gO aB _ ((es.length:Nat):Int) x1 x2 x3 h1 h2 d sz bs es mo fr=_;unfold gO;simp only;rw[ZAE (by omega)]
   rfl)
  es.length (0,(x1,(x2,(x3,(h1,(h2,(d,(sz,(bs,(es,(mo,fr))))))))))) hes ⟨0,rfl,by omega,by simp⟩
 simp_all
theorem e4Z{r:aY}(hb:r.2.2.2.2.2.2.1.length<1000000000000000000)(he:r.2.2.2.2.2.2.2.1.length<1000000000000000000):tX aB r=some (bC r):=by
 let⟨x1,x2,x3,⟨h1,h2⟩,d,sz,bs,es,mo,fr⟩:=r
 simp only at hb he;unfold tX bC Pa Pb Pc Pd Pe Pf Pg Ph Pi Pj PC PJ;simp only;rw[qWZ];simp only[ZAA];cases nN x1 x2 with
 |false=>rfl
 |true=>
  simp only[ZAQ,ZAD,ZBT];by_cases e1:x3<0
  ·grind
  by_cases e2:x3>1000
  ·grind
  rw[ZAE e1,ZAE e2,ZAJ (show 0<=x3/\x3<=1000 by omega)];simp only[ZAD,ZAA,ZBT];by_cases e3:x3=0
  ·rw[ZAM (by omega),ZBz.2 e3];simp only[ZAQ,ZAD];have hn:((h1==0)&&(h2==0))=yO (h1,h2):=rfl;rw[hn];have tail:∀b0,(bif b0 then some false else(iY aB (b0,(x1,(x2,(x3,(h1,(h2,(d,(sz,(bs,(es,(mo,fr))))))))))) (0,(x1,(x2,(x3,(h1,(h2,(d,(sz,(bs,(es,(mo,fr)))))))))))).bind fun o4=>
    match o4 with
    |.inl s=>
     bif (decide (((s.2.2.2.2.2.2.2.1.length:Nat):Int)<=4096)) then
      some (decide (((s.2.2.2.2.2.2.2.2.1.length:Nat):Int)<=100))
     else
      some false
    |.inr o5=>
     some o5)=some (!b0&&(es.all lJ&&(decide (bs.length<=4096)&&decide (es.length<=100)))):=by
    intro b0;cases b0 with
    |true=>rfl
    |false=>
     simp only[ZAD,ZAn,ZBT];rw[ucZ (by omega)];simp only[ZAA];cases es.all lJ with
     |false=>rfl
     |true=>
      simp only[ZCt,ZBT]
      grind[ZAJ,ZAE]
   have mid:∀z:Bool,(bif decide (sz<0) then some (true,(x1,(x2,(x3,(h1,(h2,(d,(sz,(bs,(es,(mo,fr))))))))))) else bif decide (sz>65536) then some (true,(x1,(x2,(x3,(h1,(h2,(d,(sz,(bs,(es,(mo,fr))))))))))) else bif decide (fr<0) then some (true,(x1,(x2,(x3,(h1,(h2,(d,(sz,(bs,(es,(mo,fr))))))))))) else some (decide (fr>1099511627776),(x1,(x2,(x3,(h1,(h2,(d,(sz,(bs,(es,(mo,fr))))))))))))=some (!(decide (0<=sz/\sz<=65536)&&decide (0<=fr/\fr<=1099511627776)),(x1,(x2,(x3,(h1,(h2,(d,(sz,(bs,(es,(mo,fr))))))))))):=by
    intro _;by_cases q1:sz<0
    ·simp_all
    by_cases q2:sz>65536
    ·simp_all
    rw[ZAE q1,ZAE q2,ZAJ (show 0<=sz/\sz<=65536 by omega)];by_cases q3:fr<0
    ·simp_all
    by_cases q4:fr>1099511627776
    ·simp_all
    rw[ZAE q3,ZAE q4,ZAJ (show 0<=fr/\fr<=1099511627776 by omega)];rfl
   cases hnone:yO (h1,h2) with
   |true=>
    simp only[ZAQ,ZAD,Bool.true_or,ZBT];rw[mid true];simp only[ZAA];refine(tail _).trans ?_
    grind
   |false=>
    simp only[ZAn,ZAK,Bool.false_or];rw[nJZ];simp only[ZAA];cases jE (h1,h2) with
    |false=>rfl
    |true=>
     simp only[ZAQ,ZAD,ZBT];rw[mid true];simp only[ZAA];refine(tail _).trans ?_;simp only[Bool.not_not,ZCX]
  ·rw[ZAN e3,ZAW.2 e3];simp only[ZAn,ZAK];have hn:((h1==0)&&(h2==0))=yO (h1,h2):=rfl;rw[hn,w64 ⟨by omega,by omega⟩];have hl:((((bs.length:Nat):Int)+((es.length:Nat):Int))==0)=decide (bs=[]/\es=[]):=by
    by_cases q:bs=[]/\es=[]
    ·obtain⟨rfl,rfl⟩:=q
     rfl
    ·rw[ZAE q,ZAW];intro hc;apply q;exact⟨ZAX (by omega),ZAX (by omega)⟩
   rw[hl];cases yO (h1,h2)<;>cases d<;>cases mo<;>cases(sz==0)<;>cases(fr==0)<;>rfl
theorem orK{α:Type}(a b)(S:α):(bif a then some (true,S) else some (b,S))=some (a||b,S):=by grind
theorem andK2(a b):(bif a then some b else some false)=some (a&&b):=by grind
end Go.Ab.D
namespace Go.Ab
def yX{α σ ο:Type}(step:Nat->σ->α->σ⊕ο)(fin:σ->ο):Nat->σ->List α->ο
 |_,a,[]=>fin a
 |k,a,x::l=>match step k a x with
  |.inl a'=>yX step fin (k+1) a' l
  |.inr o=>o
section
variable {α σ τ ο : Type}
theorem lVZ(l:List α)(f)(S:Nat->σ->τ)(step)(fin:σ->ο)(I:Nat->σ->Prop)(hl:l.length<4611686018427387904)
 (hs:∀k x a,l[k]? =some x->I k a->f (S k a)=some (match step k a x with|.inl a'=>.inl (S (k+1) a')|.inr o=>.inr o)/\∀a',step k a x= .inl a'->I (k+1) a')
 (he:∀a,I l.length a->f (S l.length a)=some (.inr (fin a)))(k0)(hk:k0<=l.length)(a0)(h0:I k0 a0):iter aB f (S k0 a0)=some (yX step fin k0 a0 (l.drop k0)):=by
 have main:∀(n m k:Nat) (a:σ),k+n=l.length->n<m->I k a->iter m f (S k a)=some (yX step fin k a (l.drop k)):=by
  intro n;induction n with
  |zero=>
   intro m k a hk hm hi;obtain rfl:k=l.length:=by omega
   obtain⟨m,rfl⟩:∃q,m=q+1:=⟨m-1,by omega⟩;rw[c3Z (he a hi),List.drop_length]
   rfl
  |succ n ih=>
   intro m k a hk hm hi;have hkl:k<l.length:=by omega
   obtain⟨m,rfl⟩:∃q,m=q+1:=⟨m-1,by omega⟩;obtain⟨h1,h2⟩:=hs k _ a (ZAC hkl) hi;rw[ZBV hkl];show _=some (match step k a l[k] with|.inl a'=>yX step fin (k+1) a' (l.drop (k+1))|.inr o=>o);cases hq:step k a l[k] with
   |inl a'=>
    rw[hq] at h1;rw[dSZ h1];exact ih m (k+1) a' (by omega) (by omega) (h2 a' hq)
   |inr o=>
    rw[hq] at h1;rw[c3Z h1]
 exact main (l.length-k0) aB k0 a0 (by omega) (by unfold aB;omega) h0
theorem mKZ(l)(f)(S:Nat->σ->τ)(step:Nat->σ->α->σ⊕ο)(fin)(I:Nat->σ->Prop)(hl:l.length<4611686018427387904)
 (hs:∀k x a,l[k]? =some x->I k a->f (S k a)=some (match step k a x with|.inl a'=>.inl (S (k+1) a')|.inr o=>.inr o)/\∀a',step k a x= .inl a'->I (k+1) a')
 (he:∀a,I l.length a->f (S l.length a)=some (.inr (fin a)))(a0)(h0:I 0 a0):iter aB f (S 0 a0)=some (yX step fin 0 a0 l):=
 lVZ l f S step fin I hl hs he 0 (ZBI _) a0 h0
theorem rfZ(f)(n N)(hn:n<=N)(hN:N<=1000000000000)
 (hs:∀i j:Nat,i<j->j<=N->f ((i:Int),(j:Int))=some (.inl (if(i+j)/2<n then((((i+j)/2+1:Nat):Int),(j:Int)) else((i:Int),(((i+j)/2:Nat):Int)))))
 (he:∀i:Nat,f ((i:Int),(i:Int))=some (.inr (i:Int))):iter aB f (0,(N:Int))=some (n:Int):=by
 have:=a5Z (f:=f) (fun m s=>∃i j:Nat,s=((i:Int),(j:Int))/\i<=n/\n<=j/\j<=N/\j-i<=m) (fun o=>o=(n:Int)) (fun m s hI=> ?_) (fun s hI=> ?_) N (0,(N:Int)) (by omega) ⟨0,N,rfl,by omega,hn,by omega,by omega⟩
 ·let⟨o,h1,h2⟩:=this;rw[h1,h2]
 ·obtain⟨i,j,rfl,h1,h2,h3,h4⟩:=hI;by_cases hij:i<j
  ·left;rw[hs i j hij h3];by_cases hc:(i+j)/2<n
   ·rw[ZAN hc];exact⟨_,rfl,(i+j)/2+1,j,rfl,by omega,by omega,h3,by omega⟩
   ·rw[ZAM hc];exact⟨_,rfl,i,(i+j)/2,rfl,by omega,by omega,by omega,by omega⟩
  ·right;obtain rfl:i=j:=by omega
   exact⟨_,he i,by omega⟩
 grind
end
theorem rFZ{i j:Nat}(h:i+j<=4000000000000):wI (Int.fdiv (IntKind.wrap .u64 (wI ((i:Int)+(j:Int)))) 2)=(((i+j)/2:Nat):Int):=by
 grind[w64,wu64,m3Z]
def pre{α:Type}(p:α->Bool):List α->Nat
 |[]=>0
 |x::l=>if p x=true then pre p l+1 else 0
theorem fGZ{α}(p):∀l:List α,pre p l<=l.length
 |[]=>ZAL _
 |x::l=>by
  unfold pre;split
  ·have:=fGZ p l;simp;omega
  ·omega
theorem qHZ{α}(p):∀(l) (k) (x:α),k<pre p l->l[k]? =some x->p x=true
 |[],k,x,h,hx=>by grind
 |y::l,0,x,h,hx=>by
  grind[pre]
 |y::l,k+1,x,h,hx=>by
  unfold pre at h;split at h
  ·exact qHZ p l k x (by omega) (by simpa using hx)
  ·omega
theorem tAZ{α}(p):∀(l) (x:α),l[pre p l]? =some x->p x=false
 |[],x,hx=>by grind
 |y::l,x,hx=>by
  unfold pre at hx;split at hx
  ·exact tAZ p l x (by simpa using hx)
  ·rename_i hp;simp at hx;subst hx;simpa using hp
theorem rQZ{α}(p):∀(l:List α),∀x∈l.take (pre p l),p x=true:=fun l x hx=>by
 grind[ZAP,ZAq,qHZ]
end Go.Ab
namespace Go.Ab.D
open Go Go.Ab
abbrev cS:Type:=Int×(Int×List aY)
abbrev sR:Type:=Int×List cS
theorem huZ{α}{l:List α}{c}(hc:c=true):(qP l.length fun isNil=>bif isNil then some [] else aP c<|some l)=some l:=by
 subst hc;rw[cBZ (fun h0=>by
  have:=ZAX h0;subst this
  rfl)]
 rfl
theorem twZ{l}(h:l.length<=1000000000):rF aB l=some l:=huZ (by grind[aNZ,asZ])
theorem toZ{l:List CJ}(h:l.length<=1000000000):vV aB l=some l:=huZ (by grind[aNZ,asZ])
theorem tyZ{l:List cS}(h:l.length<=1000000000):GZ aB l=some l:=huZ (by grind[aNZ,asZ])
theorem t5Z{l:List aY}(h:l.length<=1000000000):HB aB l=some l:=huZ (by grind[aNZ,asZ])
def lT(r:aY):Prop:=r.2.2.2.2.2.2.1.length<=100000/\r.2.2.2.2.2.2.2.1.length<=100000
def GQ(k:cS):Prop:=k.2.2.length<=1000/\∀r∈k.2.2,lT r
def vF(c:sR):Prop:=c.2.length<=1000/\∀k∈c.2,GQ k
def fT(r:aY):Int×(Int×(Int×(Int×(Int×(Bool×(Int×(Bool×(Int×(List UInt8×List CJ))))))))):=
 (r.1,(r.2.1,(r.2.2.1,(r.2.2.2.1.1,(r.2.2.2.1.2,(r.2.2.2.2.1,(r.2.2.2.2.2.1,(r.2.2.2.2.2.2.2.2.1,(r.2.2.2.2.2.2.2.2.2,(r.2.2.2.2.2.2.1,r.2.2.2.2.2.2.2.1))))))))))
theorem pAZ{r}(h:lT r):JB aB r=some (fT r):=by
 unfold JB;rw[twZ (by have:=h.1;omega),toZ (by have:=h.2;omega)]
 rfl
def kE(cl:Int):Int->List aY->Bool
 |_,[]=>true
 |last,r::l=>(r.1==cl)&&(decide (last<r.2.1)&&(bC r&&kE cl r.2.1 l))
def kX(w:Int)(k:cS):Bool:=decide (0<=k.2.1)&&(decide (k.2.1<=1099511627776)&&(decide (((k.2.2.length:Nat):Int)<=w)&&kE k.1 k.2.1 k.2.2))
def kY(w:Int):Int->List cS->Bool
 |_,[]=>true
 |last,k::l=>decide (last<k.1)&&(decide (k.1<16)&&(kX w k&&kY w k.1 l))
def fB(c:sR):Bool:=kY c.1 (-1) c.2&&decide (1<=c.1/\c.1<=100)
theorem szZ(r)(last cl gone)(l:List aY)(h:lT r):HM aB r last cl gone l=some (!((r.1==cl)&&(decide (last<r.2.1)&&bC r)),(r.2.1,(cl,(gone,l)))):=by
 unfold HM;have e:=e4Z (r:=r) (by have:=h.1;omega) (by have:=h.2;omega)
 grind
theorem lyZ(cl gone)(l:List aY)(hl:l.length<=1000)(h:∀r∈l,lT r):∃st,tY aB l gone cl gone l=some (!kE cl gone l,st):=by
 unfold tY yD pA;have:=mKZ l (fun tt:Int×(Int×(Int×(Int×List aY)))=>fL aB l tt.1 tt.2.1 tt.2.2.1 tt.2.2.2.1 tt.2.2.2.2)
  (fun k last=>((k:Int),(last,(cl,(gone,l)))))
  (fun k last r=>if((r.1==cl)&&(decide (last<r.2.1)&&bC r))=true then .inl r.2.1 else .inr (.inr ((k:Int),(r.2.1,(cl,(gone,l))))))
  (fun last=>.inl (last,(cl,(gone,l)))) (fun _ _=>True) (by omega)
  (fun k r last hr _=>by
   have hk:=(ZAB.1 hr).1;refine⟨?_,fun _ _=>trivial⟩;show fL aB l (k:Int) last cl gone l=_;unfold fL;rw[ZAJ (by omega),acZ hk];simp only[ZAA,hr];rw[szZ r last cl gone l (h r (ZAG hr)),w64 ⟨by omega,by omega⟩];cases(r.1==cl)&&(decide (last<r.2.1)&&bC r)<;>rfl)
  (fun last _=>by
   show fL aB l ((l.length:Nat):Int) last cl gone l=_;unfold fL;rw[ZAE (by omega)]
   rfl) gone trivial
 have this':iter aB (fun tt:Int×(Int×(Int×(Int×List aY)))=>fL aB l tt.1 tt.2.1 tt.2.2.1 tt.2.2.2.1 tt.2.2.2.2) (0,(gone,(cl,(gone,l))))=_:=this;rw[this'];have g:∀(m) (k) (last),(∃s,yX (fun k last r=>if((r.1==cl)&&(decide (last<r.2.1)&&bC r))=true then .inl r.2.1 else .inr (.inr ((k:Int),(r.2.1,(cl,(gone,l)))))) (fun last=>(.inl (last,(cl,(gone,l))):(Int×(Int×(Int×List aY)))⊕(Int×(Int×(Int×(Int×List aY)))))) k last m= .inl s/\kE cl last m=true)\/∃(n:Nat) (s:_),yX (fun k last r=>if((r.1==cl)&&(decide (last<r.2.1)&&bC r))=true then .inl r.2.1 else .inr (.inr ((k:Int),(r.2.1,(cl,(gone,l)))))) (fun last=>(.inl (last,(cl,(gone,l))):(Int×(Int×(Int×List aY)))⊕(Int×(Int×(Int×(Int×List aY)))))) k last m= .inr ((n:Int),s)/\kE cl last m=false:=by
  intro m;induction m with
  |nil=>intro k last;exact .inl ⟨_,rfl,rfl⟩
  |cons r m ih=>
   intro k last;unfold yX kE;by_cases q:((r.1==cl)&&(decide (last<r.2.1)&&bC r))=true
   ·simp only[q];simp only[ZAF] at q;simp only[q.1,q.2.1,q.2.2];exact ih (k+1) r.2.1
   ·simp only[q];refine .inr ⟨k,_,rfl,?_⟩;rw[<-Bool.and_assoc,<-Bool.and_assoc,ZCX (r.1==cl)];simp only[q,Bool.false_and]
 rcases g l 0 gone with⟨s,h1,h2⟩|⟨n,s,h1,h2⟩
 ·rw[h1,h2];exact⟨_,rfl⟩
 ·rw[h1,h2];simp only[ZAA];rw[ZAJ (show(n:Int)>=0 by omega)];exact⟨_,rfl⟩
theorem tHZ(k)(w)(h:GQ k):QU aB k w=some (kX w k):=by
 unfold QU kX
 let⟨st,hst⟩:=lyZ k.1 k.2.1 k.2.2 h.1 h.2<;>grind
theorem ipZ(c)(h:vF c):IW aB c=some (fB c):=by
 let⟨w,ks⟩:=c
 unfold IW yE fB;have:=mKZ ks (fun tt:Int×(Int×(Int×List cS))=>nI aB (w,ks) tt.1 tt.2.1 tt.2.2.1 tt.2.2.2)
  (fun k last=>(last,((k:Int),(w,ks))))
  (fun _ last k=>if(decide (last<k.1)&&(decide (k.1<16)&&kX w k))=true then .inl k.1 else .inr (.inr false))
  (fun _=>.inl (w,ks)) (fun _ _=>True) (by have:=h.1;simp at this;omega)
  (fun n k last hk _=>by
   have hn:=(ZAB.1 hk).1;have h1:=h.1;simp at h1;refine⟨?_,fun _ _=>trivial⟩;show nI aB (w,ks) last (n:Int) w ks=_;unfold nI;simp only;rw[ZAJ (by omega),acZ hn];simp only[ZAA,hk];have e:=tHZ k w (h.2 k (ZAG hk));rw[e,w64 ⟨by omega,by omega⟩];simp only[ZAA];by_cases q1:last<k.1
   ·by_cases q2:k.1<16
    ·rw[ZAJ q1,ZAJ q2,ZAE (show¬k.1<=last by omega),ZAE (show¬k.1>=16 by omega)];cases kX w k<;>rfl
    ·rw[ZAJ q1,ZAE q2,ZAE (show¬k.1<=last by omega),ZAJ (show k.1>=16 by omega)]
     rfl
   ·rw[ZAE q1,ZAJ (show k.1<=last by omega)]
    rfl)
  (fun last _=>by
   show nI aB (w,ks) last ((ks.length:Nat):Int) w ks=_;unfold nI;simp only;rw[ZAE (by omega)]
   rfl) (-1) trivial
 have this':iter aB (fun tt:Int×(Int×(Int×List cS))=>nI aB (w,ks) tt.1 tt.2.1 tt.2.2.1 tt.2.2.2) (-1,(0,(w,ks)))=_:=this;simp only;rw[this'];have g:∀(m) (k) (last),yX (fun _ last k=>if(decide (last<k.1)&&(decide (k.1<16)&&kX w k))=true then .inl k.1 else .inr (.inr false)) (fun _=>(.inl (w,ks):(Int×List cS)⊕Bool)) k last m=if kY w last m=true then .inl (w,ks) else .inr false:=by
  intro m;induction m with
  |nil=>intro k last;rfl
  |cons x m ih=>
   intro k last;unfold yX kY;by_cases q:(decide (last<x.1)&&(decide (x.1<16)&&kX w x))=true
   ·simp only[q,ZCt];simp only[ZAF] at q;simp only[q.1,q.2.1,q.2.2,ZBT];exact ih (k+1) x.1
   ·simp only[q];rw[<-Bool.and_assoc,<-Bool.and_assoc,ZCX (decide (last<x.1))];simp only[q,Bool.false_and]
    rfl
 grind
section
variable {α : Type} {key : α → Int}
theorem iWZ{l}(hs:(l.map key).Pairwise (·<·))(x):∀(i) (a),l[i]? =some a->(key a<x↔i<pre (fun a=>decide (key a<x)) l):=by
 intro i a ha;constructor
 ·grind[tAZ,ZAC,ZCq,ZBa,ZB9]
 ·intro h;exact of_decide_eq_true (qHZ _ l i a h ha)
theorem iKZ{l}(hs:(l.map key).Pairwise (·<·))(x):(match l[pre (fun a=>decide (key a<x)) l]? with|some a=>if key a=x then some a else none|none=>none)=l.find? (fun a=>key a==x):=by
 induction l with
 |nil=>rfl
 |cons b l ih=>
  simp[ZA6] at hs;unfold pre
  grind
end
theorem goZ{cl}:∀{l} {last},kE cl last l=true↔(l.map (·.2.1)).Pairwise (·<·)/\∀r∈l,r.1=cl/\last<r.2.1/\bC r=true
 |[],last=>by simp[kE]
 |r::l,last=>by
  unfold kE;simp only[ZAF,goZ,ZCp,ZA6,ZBM]
  grind
theorem fqZ{w}:∀{l} {last},kY w last l=true↔(l.map (·.1)).Pairwise (·<·)/\∀k∈l,last<k.1/\k.1<16/\kX w k=true
 |[],last=>by simp[kY]
 |k::l,last=>by
  unfold kY;simp[fqZ,ZBM]
  grind
theorem cfZ{w}{k}:kX w k=true↔0<=k.2.1/\k.2.1<=1099511627776/\((k.2.2.length:Nat):Int)<=w/\(k.2.2.map (·.2.1)).Pairwise (·<·)/\∀r∈k.2.2,r.1=k.1/\k.2.1<r.2.1/\bC r=true:=by
 simp_all[kX,goZ]
theorem b9Z{c}:fB c=true↔(1<=c.1/\c.1<=100)/\(c.2.map (·.1)).Pairwise (·<·)/\∀k∈c.2,0<=k.1/\k.1<16/\kX c.1 k=true:=by
 unfold fB;simp[fqZ]
 grind
theorem bFZ{r}(h:bC r=true):(0<=r.1/\r.1<16)/\1<=r.2.1/\r.2.1<=1099511627776:=by
 simp_all[bC,nN,ZAt]
theorem bkZ{r}(h:bC r=true):lT r:=by
 unfold bC at h;simp only[ZAF] at h;have h2:=h.2.2;split at h2
 ·simp_all[lT]
 ·grind[lT]
theorem qZZ{l:List Int}(h:l.Pairwise (·<·))(hb:∀x∈l,0<=x/\x<16):l.length<=16:=by
 have h2:∀(l:List Int) (a),l.Pairwise (·<·)->(∀x∈l,a<=x/\x<16)->a<=16->(l.length:Int)<=16-a:=by
  intro l;induction l with
  |nil=>simp_all
  |cons x l ih=>
   intro a hp hb ha;rw[ZA6] at hp;have hx:=hb x (by simp);have:=ih (x+1) hp.2 (fun y hy=>⟨by have:=hp.1 y hy;omega,(hb y (by simp[hy])).2⟩) (by omega)
   grind
 have:=h2 l 0 h hb (by omega);omega
theorem bDZ{c}(h:fB c=true):vF c:=by
 let⟨h1,h2,h3⟩:=b9Z.1 h
 refine⟨?_,fun k hk=> ?_⟩
 ·have:=qZZ h2 (fun x hx=>by
   obtain⟨k,hk,rfl⟩:=ZBM.1 hx;exact⟨(h3 k hk).1,(h3 k hk).2.1⟩)
  grind
 ·let⟨g1,g2,g3,g4,g5⟩:=cfZ.1 (h3 k hk).2.2
  exact⟨by omega,fun r hr=>bkZ (g5 r hr).2.2⟩
def dQ(ks:List cS)(x:Int):Nat:=pre (fun k=>decide (k.1<x)) ks
def eS(l:List aY)(x:Int):Nat:=pre (fun r=>decide (r.2.1<x)) l
def kOf(ks:List cS)(x:Int):Option cS:=ks.find? fun k=>k.1==x
def rOf(l:List aY)(x:Int):Option aY:=l.find? fun r=>r.2.1==x
theorem tqZ{w}{ks:List cS}(hl:ks.length<=1000)(hs:(ks.map (·.1)).Pairwise (·<·))(hb:∀k∈ks,0<=k.1/\k.1<16){x}(hx:0<=x/\x<16):
 rof aB (w,ks) x=some (((dQ ks x:Nat):Int),(kOf ks x).isSome):=by
 unfold rof sI mK;have hle:dQ ks x<=ks.length:=fGZ _ _;have h1:∀k∈ks,MF aB k x=some (k.1-x):=fun k hk=>by
  unfold MF;have:=hb k hk;rw[w64 ⟨by omega,by omega⟩]
 have:=rfZ (fun tt:Int×Int=>eX aB ks x tt.1 tt.2) (dQ ks x) ks.length hle (by omega)
  (fun i j hij hj=>by
   show eX aB ks x (i:Int) (j:Int)=_;unfold eX;have hh:(i+j)/2<ks.length:=by omega
   rw[ZAJ (show(i:Int)<(j:Int) by omega),rFZ (by omega),acZ hh];simp[ZAC hh];rw[h1 _ (ZBO hh),w64 ⟨by omega,by omega⟩];simp;have hp:=iWZ hs x ((i+j)/2) _ (ZAC hh);by_cases hc:(i+j)/2<dQ ks x
   ·have hk:=hp.2 hc;rw[ZAN hc,ZAJ (show ks[(i+j)/2].1-x<0 by omega)];simp
   ·have hk:¬ks[(i+j)/2].1<x:=fun h=>hc (hp.1 h);rw[ZAM hc,ZAE (show¬ks[(i+j)/2].1-x<0 by omega)];simp)
  (fun i=>by
   show eX aB ks x (i:Int) (i:Int)=_;unfold eX;rw[ZAE (by omega)]
   rfl)
 simp only;rw[this];simp only[ZAA];have hf:=iKZ hs x;by_cases hc:dQ ks x<ks.length
 ·rw[ZAJ (by omega),acZ hc];simp only[ZAK,ZAA,ZAC hc];rw[h1 _ (ZBO hc)];unfold kOf;rw[<-hf];have:ks[pre (fun k=>decide (k.1<x)) ks]? =some ks[dQ ks x]:=ZAC hc;rw[this];simp only[ZAA];by_cases he:ks[dQ ks x].1=x
  ·rw[ZAN he,ZBz.2 (by omega)];rfl
  ·rw[ZAM he,ZAW.2 (by omega)];rfl
 grind[ZAE,kOf,pre,ZAw,dQ]
theorem hyZ(r:aY)(x):MG aB r x=some (if r.2.1<x then-1 else if r.2.1>x then 1 else 0):=by
 unfold MG
 grind
theorem jPZ{l:List aY}(hl:l.length<=1000)(hs:(l.map (·.2.1)).Pairwise (·<·)){x}:
 mL aB l x=some (((eS l x:Nat):Int),(rOf l x).isSome):=by
 unfold mL nS;have hle:eS l x<=l.length:=fGZ _ _;have:=rfZ (fun tt:Int×Int=>fS aB l x tt.1 tt.2) (eS l x) l.length hle (by omega)
  (fun i j hij hj=>by
   show fS aB l x (i:Int) (j:Int)=_;unfold fS;have hh:(i+j)/2<l.length:=by omega
   rw[ZAJ (show(i:Int)<(j:Int) by omega),rFZ (by omega),acZ hh];simp[ZAC hh];rw[hyZ,w64 ⟨by omega,by omega⟩];simp[ZAA];have hp:=iWZ hs x ((i+j)/2) _ (ZAC hh);by_cases hc:(i+j)/2<eS l x
   ·have hk:=hp.2 hc;rw[ZAN hc,ZAN hk];simp
   ·have hk:=fun h=>hc (hp.1 h);rw[ZAM hc,ZAM hk];by_cases h2:l[(i+j)/2].2.1>x
    ·rw[ZAN h2];simp
    ·rw[ZAM h2];simp)
  (fun i=>by
   show fS aB l x (i:Int) (i:Int)=_;unfold fS;rw[ZAE (by omega)]
   rfl)
 rw[this];simp only[ZAA];have hf:=iKZ hs x;by_cases hc:eS l x<l.length
 ·rw[ZAJ (by omega),acZ hc];simp only[ZAK,ZAA,ZAC hc];rw[hyZ];unfold rOf;rw[<-hf];have:l[pre (fun k=>decide (k.2.1<x)) l]? =some l[eS l x]:=ZAC hc;rw[this];simp only[ZAA];have hnl:¬l[eS l x].2.1<x:=fun h=>by
   have:=(iWZ hs x (eS l x) _ (ZAC hc)).1 h;unfold eS at this;omega
  by_cases he:l[eS l x].2.1=x
  ·rw[ZAM hnl,ZAM (by omega),ZAN he];rfl
  ·rw[ZAM hnl,ZAN (by omega),ZAM he];rfl
 grind[ZAE,rOf,pre,ZAw,eS]
theorem pHZ{ks}(hs:(ks.map (·.1)).Pairwise (·<·)){x}{k}(h:kOf ks x=some k):ks[dQ ks x]? =some k/\k.1=x:=by
 have hf:=iKZ hs x
 grind[kOf,ZCr,dQ,pre]
theorem vLZ{l}(hs:(l.map (·.2.1)).Pairwise (·<·)){x}{r}(h:rOf l x=some r):l[eS l x]? =some r/\r.2.1=x:=by
 have hf:=iKZ hs x
 grind[rOf,ZCr,eS,pre]
def zR:aY:=(0,(0,(0,((0,0),(false,(0,([],([],(false,0)))))))))
def look(c:sR)(client xid:Int):aY×Int:=
 if fB c=true then match kOf c.2 client with
  |none=>(zR,0)
  |some k=>if xid<=k.2.1 then(zR,2) else match rOf k.2.2 xid with
   |some r=>(r,1)
   |none=>(zR,0)
 else(zR,0)
def SR(x:aY×Int):Int×(Int×(Int×(Int×(Int×(Bool×(Int×(List UInt8×(List CJ×(Bool×(Int×Int)))))))))):=
 (x.1.1,(x.1.2.1,(x.1.2.2.1,(x.1.2.2.2.1.1,(x.1.2.2.2.1.2,(x.1.2.2.2.2.1,(x.1.2.2.2.2.2.1,(x.1.2.2.2.2.2.2.1,(x.1.2.2.2.2.2.2.2.1,(x.1.2.2.2.2.2.2.2.2.1,(x.1.2.2.2.2.2.2.2.2.2,x.2)))))))))))
theorem qtZ(c)(h:vF c)(client xid):MH aB c client xid=some (SR (look c client xid)):=by
 let⟨w,ks⟩:=c
 unfold MH Pa Pb Pd Pe Pf Pg Ph Pi PA PI;simp only;rw[ipZ (w,ks) h];simp only[ZAA];unfold look;cases hr:fB (w,ks) with
 |false=>rfl
 |true=>
  let⟨h1,h2,h3⟩:=b9Z.1 hr
  simp only at h1 h2 h3;have hb:∀k∈ks,0<=k.1/\k.1<16:=fun k hk=>⟨(h3 k hk).1,(h3 k hk).2.1⟩;have hnone:¬(0<=client/\client<16)->kOf ks client=none:=fun hn=>ZB1.2 fun k hk=>by
   have:=hb k hk;simp;omega
  simp only[ZCt];by_cases q1:client>=0
  ·by_cases q2:client<16
   ·rw[ZAJ q1,ZAJ q2];simp only[ZAK,ZAA];rw[tqZ h.1 h2 hb ⟨by omega,q2⟩];simp only;cases hk:kOf ks client with
    |none=>rfl
    |some k=>
     let⟨g1,g2⟩:=pHZ h2 hk
     have hlt:=(ZAB.1 g1).1;have hkm:=ZAG g1
     let⟨e1,e2,e3,e4,e5⟩:=cfZ.1 (h3 k hkm).2.2
     simp[ZAA];rw[acZ hlt];simp[g1];by_cases q3:xid<=k.2.1
     ·rw[ZAJ q3,ZAN q3];rfl
     ·rw[ZAE q3,ZAM q3];simp;rw[jPZ (h.2 k hkm).1 e4];simp;cases hx:rOf k.2.2 xid with
      |none=>rfl
      |some r=>
       let⟨g3,g4⟩:=vLZ e4 hx
       have hlt2:=(ZAB.1 g3).1;simp only[Option.isSome_some,ZAK];rw[acZ hlt2];simp only[ZAA,g3];rw[pAZ ((h.2 k hkm).2 r (ZAG g3))]
       rfl
   ·rw[ZAJ q1,ZAE q2,hnone (by omega)];rfl
  ·rw[ZAE q1,hnone (by omega)];rfl
abbrev uH:Ty:=.pair (.int .i64) (.pair (.int .i64) (.pair (.int .i64) (.pair qY5 (.pair .bool (.pair (.int .i64) (.pair (.sl .byte) (.pair (.sl (.pair .str (.int .i64))) (.pair .bool (.int .i64)))))))))
abbrev TKR:Ty:=.pair (.int .i64) (.pair (.int .i64) (.ref 1 uH))
abbrev KR:Type:=Int×(Int×mO aY)
abbrev CK(rows:List KR)(ms:List (Nat×List aY))(ks:List cS):Prop:=Fam (fun r:KR=>r.2.2) (fun k:cS=>k.2.2) (fun r k=>r.1=k.1/\r.2.1=k.2.1) rows ms ks
theorem t2Z(ms:List (Nat×List aY))(x:mO aY):aT [⟨1,uH,ms⟩] (.ref 1 uH) x=NG ms x:=by
 rcases x with l|(_|⟨k,o,n⟩)<;>rfl
theorem CK.pure_{rows}{ms}{ks}(h:CK rows ms ks):bE (aT [⟨1,uH,ms.map aV⟩] TKR) rows=some ks:=
 h.pure (aT [⟨1,uH,ms.map aV⟩] TKR) fun row k hs hv=>by
  let⟨a,b,x⟩:=row
  let⟨a',b',l⟩:=k
  obtain⟨rfl,rfl⟩:=hs;show((some a).bind fun y=>(((some b).bind fun y=>(aT [⟨1,uH,ms.map aV⟩] (.ref 1 uH) x).map fun z=>(y,z)).map fun z=>(y,z)))=_;rw[t2Z,hv]
  rfl
theorem ownL{l:List aY}{k}{r}(h:l[k]? =some r):l.set k ((fT r).1,((fT r).2.1,((fT r).2.2.1,(((fT r).2.2.2.1,(fT r).2.2.2.2.1),((fT r).2.2.2.2.2.1,((fT r).2.2.2.2.2.2.1,((fT r).2.2.2.2.2.2.2.2.2.1,((fT r).2.2.2.2.2.2.2.2.2.2,((fT r).2.2.2.2.2.2.2.1,(fT r).2.2.2.2.2.2.2.2.1)))))))))=l:=by
 let⟨hk,hr⟩:=ZAB.1 h
 have:(((fT r).1,((fT r).2.1,((fT r).2.2.1,(((fT r).2.2.2.1,(fT r).2.2.2.2.1),((fT r).2.2.2.2.2.1,((fT r).2.2.2.2.2.2.1,((fT r).2.2.2.2.2.2.2.2.2.1,((fT r).2.2.2.2.2.2.2.2.2.2,((fT r).2.2.2.2.2.2.2.1,(fT r).2.2.2.2.2.2.2.2.1))))))))):aY)=l[k]:=by rw[hr];rfl
 grind[ZCc]
theorem d4Z{α:Type}{l:List α}{k}{x}(h:l[k]? =some x):l.set k x=l:=by
 grind[ZAB,ZCc]
theorem uyZ{rows:List KR}{ms:List (Nat×List aY)}{q j:Nat}{a b}{l}(hr:rows[q]? =some (a,(b,.inr (some (j,(0,l.length))))))(hm:ms[j]? =some (1,l))(hl:l.length<=1000)(hs:∀r∈l,lT r)(h h2):
 sM aB (a,(b,.inr (some (j,(0,l.length))))) (q,(0,(h,(rows,(h2,ms)))))=some (h,(rows,(h2,ms))):=by
 unfold sM;have:=aoZ (f:=fun tt:Nat×(Int×(Int×(List KR×(Int×List (Nat×List aY)))))=>qL aB (a,(b,.inr (some (j,(0,l.length))))) tt.1 tt.2.1 tt.2.2.1 tt.2.2.2.1 tt.2.2.2.2.1 tt.2.2.2.2.2) (o:=(h,(rows,(h2,ms)))) (fun k=>(q,((k:Int),(h,(rows,(h2,ms)))))) l.length (by omega) (fun k hk=>by
  show qL aB _ q (k:Int) h rows h2 ms=_;unfold qL;have e0:eJ (s:=uH) (.inr (some (j,(0,l.length))))=l.length:=rfl;have hx:l[k]? =some l[k]:=ZAC hk;simp only[e0];rw[ZAJ (show(k:Int)<((l.length:Nat):Int) by omega)];simp only[ZAK,hr,ZAA,vS];rw[acZ hk];simp only[ZAA,hm,ZA5,hx];rw[aeZ (by rfl),pAZ (hs _ (ZBO hk))];simp only[ZAA,hx];rw[aeZ (by rfl),w64 ⟨by omega,by omega⟩];rw[ownL hx,d4Z hm]
  rfl) (by
  show qL aB _ q ((l.length:Nat):Int) h rows h2 ms=_;unfold qL;have e0:eJ (s:=uH) (.inr (some (j,(0,l.length))))=l.length:=rfl;simp only[e0];rw[ZAE (by omega)]
  rfl)
 omega
theorem quZ(c)(h:vF c):∃rows ms,RS aB c=some (c.1,(rows,ms))/\CK rows ms c.2:=by
 let⟨w,ks⟩:=c
 have hn:=h.1;simp at hn;unfold RS;simp;rw[tyZ (by omega)];have h0:∀(i:Nat) (k),ks[i]? =some k->(List.map (bY TKR) ((ks)))[i]? =some ((k.1,(k.2.1,.inl k.2.2)):KR):=fun i k hg=>by
  show(List.map (bY TKR) (show List (TKR.unref.den) from ks))[i]? =some (bY TKR k);rw[ZAY];show(((ks))[i]?).map _=_;rw[hg]
  rfl
 have loop:∃o,sO aB ks (0,(w,((List.map (bY TKR) ((ks))),(0,[]))))=some o/\∃rows ms,o=(w,(rows,(0,ms)))/\CK rows ms ks:=by
  unfold sO;refine a5Z (fun m s=>∃(n:Nat) (rows:List KR) (ms:List (Nat×List aY)),s=((n:Int),(w,(rows,(0,ms))))/\n+m=ks.length/\rows.length=ks.length/\ms.length=n/\∀(i) k,ks[i]? =some k->(i<n->rows[i]? =some (k.1,(k.2.1,.inr (some (i,(0,k.2.2.length)))))/\ms[i]? =some (1,k.2.2))/\(n<=i->rows[i]? =some (k.1,(k.2.1,.inl k.2.2)))) _ (fun m s hI=> ?_) (fun s hI=> ?_) ks.length _ (by omega) ⟨0,_,[],rfl,by omega,ZAl _,rfl,fun i k hg=>⟨fun hc=>absurd hc (ZBk _),fun _=>h0 i k hg⟩⟩
  ·obtain⟨n,rows,ms,rfl,hk,g1,g2,g3⟩:=hI;have hlt:n<ks.length:=by omega
   obtain⟨k,hg⟩:∃k,ks[n]? =some k:=⟨_,ZAC hlt⟩;have hrow:=(g3 n k hg).2 (ZAL _);have hsm:=h.2 k (ZAG hg);left;refine⟨(((n+1:Nat):Int),(w,(rows.set n (k.1,(k.2.1,.inr (some (n,(0,k.2.2.length))))),(0,ms++[(1,k.2.2)])))),?_,n+1,_,_,rfl,by omega,by rw[ZAv];exact g1,by simp[g2],fun i k' hg'=>⟨fun hi=> ?_,fun hi=> ?_⟩⟩
   ·unfold CE;simp only;rw[ZAJ (show(n:Int)<((ks.length:Nat):Int) by omega),acZ (by omega)];simp[hrow];rw[show lY (.ref 1 uH) (.inl k.2.2)=some k.2.2 from rfl];erw[ZAA];rw[t5Z (by have:=hsm.1;omega)];simp[ZAA,g2];rw[ZAU (by omega)];simp only[ZAA];rw[uyZ (ZAU (by omega)) (by rw[ZAV (by omega),g2,ZBv];rfl) hsm.1 hsm.2,w64 ⟨by omega,by omega⟩]
    rfl
   ·by_cases hin:i=n
    ·subst hin;rw[hg] at hg';cases hg';exact⟨ZAU (by omega),by rw[ZAV (by omega),g2,ZBv];rfl⟩
    ·have:=(g3 i k' hg').1 (by omega);rw[ZAa (by omega),ZAT (by omega)];exact this
   ·rw[ZAa (by omega)];exact(g3 i k' hg').2 (by omega)
  ·obtain⟨n,rows,ms,rfl,hk,g1,g2,g3⟩:=hI;have:n=ks.length:=by omega
   subst this;refine⟨(w,(rows,(0,ms))),?_,rows,ms,rfl,g1,fun i row k hr hk=> ?_,fun i i' row row' j p p' hii hr hr' hj hj'=> ?_⟩
   ·unfold CE;simp only;rw[ZAE (by omega)]
    rfl
   ·let⟨e1,e2⟩:=(g3 i k hk).1 (ZAB.1 hk).1
    rw[e1] at hr;cases hr;exact⟨⟨rfl,rfl⟩,.inr ⟨i,rfl,e2⟩⟩
   ·have q:∀(i) (row) (p),rows[i]? =some row->row.2.2= .inr (some (j,p))->j=i:=fun i row p hr hj=>by
     have hi:=(ZAB.1 hr).1;have hg:=ZAC (show i<ks.length by omega)
     let⟨e1,_⟩:=(g3 i _ hg).1 (by omega)
     rw[e1] at hr;cases hr;injection hj with hj;injection hj with hj;injection hj with hj;exact hj.symm
    have:=q i row p hr hj;have:=q i' row' p' hr' hj';omega
 grind
def sS(w:Int)(k:cS)(r:aY):cS:=
 let l:=k.2.2.take (eS k.2.2 r.2.1)++[r]++k.2.2.drop (eS k.2.2 r.2.1)
 if((l.length:Nat):Int)>w then(k.1,((match l[0]? with|some x=>x.2.1|none=>0),l.drop 1)) else(k.1,(k.2.1,l))
def fU(ks:List cS)(cl:Int):List cS:=if(kOf ks cl).isSome=true then ks else ks.take (dQ ks cl)++[(cl,(0,[]))]++ks.drop (dQ ks cl)
def eU(ks:List cS)(cl:Int):cS:=(kOf ks cl).getD (cl,(0,[]))
def gI(w:Int)(ks:List cS)(r:aY):List cS:=(fU ks r.1).set (dQ ks r.1) (sS w (eU ks r.1) r)
def put(c:sR)(r:aY):sR×Int:=if fB c=true/\bC r=true/\(look c r.1 r.2.1).2=0 then((c.1,gI c.1 c.2 r),0) else(c,2)
def putO(x:sR×Int):Int×(List cS×Int):=(x.1.1,(x.1.2,x.2))
theorem uKZ{i}{l:List KR}{x:KR}{ms:List (Nat×List aY)}(hi:i<=l.length)(hl:l.length<=1000):HR aB (i:Int) l [x] ms=some ([x],(l.take i++[x]++l.drop i,ms)):=by
 unfold HR;rw[aGZ hi,ZAA];rw[aNZ (by grind[asZ]),aNZ (by grind[asZ])]
 rfl
theorem vbZ{i}{l:List aY}{x:aY}(hi:i<=l.length)(hl:l.length<=1000):HS aB (i:Int) l [x]=some ([x],l.take i++[x]++l.drop i):=by
 unfold HS;rw[aGZ hi,ZAA];rw[aNZ (by grind[asZ]),aNZ (by grind[asZ])]
 rfl
theorem udZ{l:List aY}(hl:0<l.length):RU aB 0 1 l=some (l.drop 1):=by
 unfold RU;rw[b1Z (by omega) (by omega),ZAA,b1Z (by omega) (by simp),ZAA]
 rfl
theorem ownR(r):(((fT r).1,((fT r).2.1,((fT r).2.2.1,(((fT r).2.2.2.1,(fT r).2.2.2.2.1),((fT r).2.2.2.2.2.1,((fT r).2.2.2.2.2.2.1,((fT r).2.2.2.2.2.2.2.2.2.1,((fT r).2.2.2.2.2.2.2.2.2.2,((fT r).2.2.2.2.2.2.2.1,(fT r).2.2.2.2.2.2.2.2.1))))))))):aY)=r:=rfl
theorem jsZ(c)(cl x):(SR (look c cl x)).2.2.2.2.2.2.2.2.2.2.2=(look c cl x).2:=rfl
theorem pwZ(c)(R)(h:vF c)(hr:lT R):VV aB c R=some (putO (put c R)):=by
 obtain⟨w,ks⟩:=c;obtain⟨rows,ms,hc,hF⟩:=quZ (w,ks) h;simp only at hc hF;unfold VV Pa Pb Pc Pd Pe Pf Pg Ph Pi Pj Pk Pl Pm Pn Po Pp PA PH PI PJ PO PP;simp only;rw[hc,ZAA,ipZ (w,ks) h];simp only[ZAA];have hrr:=
  e4Z (r:=R) (by have:=hr.1;omega) (by have:=hr.2;omega)
 have hown:=pAZ hr;have hp:=hF.pure_;have hn:=h.1;simp only at hn;unfold put;cases hc1:fB (w,ks) with
 |false=>
  simp only[ZAn,ZAK,ZAA];rw[hp]
  rfl
 |true=>
  simp only[ZAQ,ZAD];rw[hrr];simp only[ZAA];cases hc2:bC R with
  |false=>
   simp only[ZAn,ZAK,ZAA];rw[hp]
   rfl
  |true=>
   simp only[ZAQ,ZAD,ZAA];rw[qtZ (w,ks) h R.1 R.2.1];simp only[ZAA,jsZ];by_cases hlk:(look (w,ks) R.1 R.2.1).2=0
   ·simp only[hlk,ZAd,ZAQ,ZAD];rw[hp];erw[ZAA];obtain⟨g1,g2,g3⟩:=b9Z.1 hc1;simp only at g1 g2 g3;have hwho:=(bFZ hc2).1;have hb:∀k∈ks,0<=k.1/\k.1<16:=fun k hk=>⟨(g3 k hk).1,(g3 k hk).2.1⟩;rw[tqZ hn g2 hb hwho];simp only[ZAA];have hat:dQ ks R.1<=ks.length:=fGZ _ _;have hlen:=hF.len;refine uTZ (fun z=>z=some _) (fun o=>∃rows1 ms1,o=(w,(ks,(R.1,(R.2.1,(R.2.2.1,(R.2.2.2.1.1,(R.2.2.2.1.2,(R.2.2.2.2.1,(R.2.2.2.2.2.1,(R.2.2.2.2.2.2.1,(R.2.2.2.2.2.2.2.1,(R.2.2.2.2.2.2.2.2.1,(R.2.2.2.2.2.2.2.2.2,(0,(w,(rows1,ms1))))))))))))))))/\CK rows1 ms1 (fU ks R.1)/\(fU ks R.1)[dQ ks R.1]? =some (eU ks R.1)/\(eU ks R.1).2.2.length<=1000/\((eU ks R.1).2.2.map (·.2.1)).Pairwise (·<·)) ?_ (fun o ho=> ?_)
    ·unfold fU eU;cases hk:kOf ks R.1 with
     |none=>
      simp only[Option.isSome_none,ZAn,ZAK,ZA7,ZCR,Option.getD_none];rw[uKZ (by omega) (by omega)];refine⟨_,rfl,_,_,rfl,hF.insert (by omega) ⟨rfl,rfl⟩ rfl rfl,?_,by simp,by simp⟩;have e1:(ks.take (dQ ks R.1)).length=dQ ks R.1:=by rw[ZAS];omega
      rw[ZAp,ZAV (by omega),e1,ZBv]
      rfl
     |some k=>
      simp only[Option.isSome_some,ZAQ,ZAD,ZCt,ZCk];obtain⟨q1,q2⟩:=pHZ g2 hk;have hkm:=ZAG q1;have hkb:=cfZ.1 (g3 k hkm).2.2;exact⟨_,rfl,_,_,rfl,hF,q1,(h.2 k hkm).1,hkb.2.2.2.1⟩
    obtain⟨rows1,ms1,rfl,hF1,hq,hl1,hs1⟩:=ho;simp only;obtain⟨row,hrow,hsame,hpart⟩:=hF1.row hq;have hqr:=(ZAB.1 hrow).1;rw[acZ hqr];simp only[ZAA,hrow];rw[t2Z,hpart.view];erw[ZAA];rw[jPZ hl1 hs1];simp only[ZAA];rw[hown];simp only[ZAA];obtain⟨ms2,ho2,hm2,hF2⟩:=hF1.open_ hrow hq;rw[ho2];simp only[ZAA];rw[ownR,vbZ (i:=eS (eU ks R.1).2.2 R.2.1) (fGZ _ _) hl1];simp only[ZAA];rw[ZAU hqr];simp only[ZAA];generalize hL:(eU ks R.1).2.2.take (eS (eU ks R.1).2.2 R.2.1)++[R]++(eU ks R.1).2.2.drop (eS (eU ks R.1).2.2 R.2.1)=L;have hLp:0<L.length:=by rw[<-hL];simp;omega
    have e0:eJ (s:=uH) (.inr (some (ms2.length,(0,L.length))))=L.length:=rfl;simp only[e0];have hrow1:=hsame.1;have hrow2:=hsame.2;have hgoal:∀K,sS w (eU ks R.1) R=K->some (w,((fU ks R.1).set (dQ ks R.1) K,(0:Int)))=some (putO (if true=true/\true=true/\(0:Int)=0 then((w,gI w ks R),(0:Int)) else((w,ks),2))):=fun K hK=>by
     rw[ZAN ⟨rfl,rfl,rfl⟩,<-hK]
     rfl
    by_cases hw:((L.length:Nat):Int)>w
    ·rw[ZAJ hw];simp only[ZAK];have hx0:=ZAC hLp;have hF3:=hF2 (row.1,(row.2.1,.inr (some (ms2.length,(0,L.length))))) (row.1,(row.2.1,L)) ⟨rfl,rfl⟩ rfl;have hq3:(rows1.set (dQ ks R.1) (row.1,(row.2.1,.inr (some (ms2.length,(0,L.length))))))[dQ ks R.1]? =some (row.1,(row.2.1,.inr (some (ms2.length,(0,L.length))))):=ZAU hqr;have hk3:((fU ks R.1).set (dQ ks R.1) (row.1,(row.2.1,L)))[dQ ks R.1]? =some (row.1,(row.2.1,L)):=ZAU (by have:=(ZAB.1 hq).1;omega);simp only[vS,ZAA];rw[a0Z (by omega) (by omega)];simp only[ZAA,Int.toNat_zero,ZCb];have hm3:(ms2++[(1,L)])[ms2.length]? =some (1,L):=by rw[ZAV (by omega),ZBv];rfl
     rw[hm3];simp only[ZAA];rw[aeZ (by rfl)];simp only[hx0,ZAA];have hF4:=hF3.keep hq3 hk3 (row':=(row.1,(L[0].2.1,.inr (some (ms2.length,(0,L.length)))))) (k':=(row.1,(L[0].2.1,L))) ⟨rfl,rfl⟩ rfl rfl;have hq4:((rows1.set (dQ ks R.1) (row.1,(row.2.1,.inr (some (ms2.length,(0,L.length)))))).set (dQ ks R.1) (row.1,(L[0].2.1,.inr (some (ms2.length,(0,L.length))))))[dQ ks R.1]? =some (row.1,(L[0].2.1,.inr (some (ms2.length,(0,L.length))))):=ZAU (by simpa using hqr);have hk4:(((fU ks R.1).set (dQ ks R.1) (row.1,(row.2.1,L))).set (dQ ks R.1) (row.1,(L[0].2.1,L)))[dQ ks R.1]? =some (row.1,(L[0].2.1,L)):=ZAU (by rw[ZAv];have:=(ZAB.1 hq).1;omega);rw[hq4];simp only[ZAA];obtain⟨ms5,ho5,hm5,hF5⟩:=hF4.open_ hq4 hk4;simp only at ho5;rw[ho5];simp only[ZAA];rw[udZ hLp];simp only[ZAA];have hF6:=hF5 (row.1,(L[0].2.1,.inr (some (ms5.length,(0,(L.drop 1).length))))) (row.1,(L[0].2.1,L.drop 1)) ⟨rfl,rfl⟩ rfl;rw[CK.pure_ hF6];erw[ZAA];simp only[List.set_set];refine hgoal _ ?_;unfold sS;rw[hL];simp only;rw[ZAN hw,hx0,hrow1]
    ·rw[ZAE hw];simp only[ZAD];have hF3:=hF2 (row.1,(row.2.1,.inr (some (ms2.length,(0,L.length))))) (row.1,(row.2.1,L)) ⟨rfl,rfl⟩ rfl;rw[CK.pure_ hF3];erw[ZAA];refine hgoal _ ?_;unfold sS;rw[hL];simp only;rw[ZAM hw,hrow1,hrow2]
   ·rw[ZAW.2 hlk];simp only[ZAn,ZAK];rw[hp,ZAM (fun hc=>hlk hc.2.2)]
    rfl
abbrev fC:Type:=Int×List Int
abbrev bT:Type:=Int×(cI×(sR×(List fC×List bP)))
theorem h1Z{t:cI}(h:Fit t.1):KM aB t=some (t.2,t.1):=by
 unfold KM;rw[cVZ h.n];have loop:xO aB t.1 (0,(t.2,(t.1,0)))=some (t.2,(t.1,0)):=by
  refine aoZ (fun k=>((k:Int),(t.2,(t.1,0)))) t.1.length (by have:=h.n;omega) (fun k hk=> ?_) ?_
  ·unfold AU Pb Pc Pd Pe PE;obtain⟨n,hg⟩:∃n,t.1[k]? =some n:=⟨_,ZAC hk⟩;have hsm:=h.at hg;have hs:=dNZ hg;simp only[aEZ hk];rw[acZ hk];simp only[ZAA,hg];rw[cLZ hsm.1,d7Z hsm.2];show((aK ((k:Nat):Int) (t.1.set k n).length).bind fun q3=>((t.1.set k n)[q3]?.bind _))=_;rw[hs,acZ hk,ZAA,hg,w64 (by have:=h.n;omega)];show some (Sum.inl (_,(t.2,(t.1.set k n,0))))=_;rw[hs]
   rfl
  ·unfold AU Pb Pc Pd Pe PE;simp[ZAD]
 simp_all
theorem ogZ{l:List fC}(h:l.length<=1000000000):KN aB l=some l:=huZ (by grind[aNZ,asZ])
theorem pLZ{l}(h:l.length<=1000000000):KP aB l=some l:=huZ (by grind[aNZ,asZ])
abbrev UM:Type:=Int×(Int×(Int×(List bP×(List Ino×(List KR×(List fC×(Int×(Int×(Int×List (Nat×List aY))))))))))
theorem own0{rows:List KR}{ms:List (Nat×List aY)}{q j:Nat}{a b}{l}(hr:rows[q]? =some (a,(b,.inr (some (j,(0,l.length))))))(hm:ms[j]? =some (1,l))(hl:l.length<=1000)(hs:∀r∈l,lT r)
 (h1 h2 h3)(h4:List bP)(h5:List Ino)(h7:List fC)(h8 h9 h10):
 jI aB (a,(b,.inr (some (j,(0,l.length))))) (q,(0,(h1,(h2,(h3,(h4,(h5,(rows,(h7,(h8,(h9,(h10,ms))))))))))))=some (h1,(h2,(h3,(h4,(h5,(rows,(h7,(h8,(h9,(h10,ms)))))))))):=by
 unfold jI;refine aoZ (fun k:Nat=>((q,((k:Int),(h1,(h2,(h3,(h4,(h5,(rows,(h7,(h8,(h9,(h10,ms)))))))))))):Nat×(Int×UM))) l.length (by omega) (fun k hk=> ?_) ?_
 ·show iB aB _ q (k:Int) h1 h2 h3 h4 h5 rows h7 h8 h9 h10 ms=_;unfold iB Pa Pc Pd Pe Pf PA PF;have e0:eJ (s:=uH) (.inr (some (j,(0,l.length))))=l.length:=rfl;have hx:l[k]? =some l[k]:=ZAC hk;have hsm:=hs _ (ZBO hk);simp only[e0];rw[ZAJ (show(k:Int)<((l.length:Nat):Int) by omega)];simp only[ZAK,hr,ZAA,vS];rw[acZ hk];simp only[ZAA,hm,ZA5,hx];rw[aeZ (by rfl),twZ (by have:=hsm.1;omega)];simp only[ZAA];rw[aeZ (by rfl),toZ (by have:=hsm.2;omega)];simp only[ZAA];rw[aeZ (by rfl)];generalize hy:l[k]=y at hx⊢;have es:∀{z:aY},z=y->List.set l k z=l:=fun e=>e▸d4Z hx;have em:∀{z:Nat×List aY},z=(1,l)->List.set ms j z=ms:=fun e=>e▸d4Z hm;rw[show List.set ms j (1,List.set l k (y.1,(y.2.1,(y.2.2.1,(y.2.2.2.1,(y.2.2.2.2.1,(y.2.2.2.2.2.1,(y.2.2.2.2.2.2.1,y.2.2.2.2.2.2.2))))))))=ms from em (by rw[es rfl])];simp only[hm,ZAA];rw[aeZ (by rfl)];simp only[hx,ZAA];rw[show List.set ms j (1,List.set l k (y.1,(y.2.1,(y.2.2.1,(y.2.2.2.1,(y.2.2.2.2.1,(y.2.2.2.2.2.1,(y.2.2.2.2.2.2.1,(y.2.2.2.2.2.2.2.1,y.2.2.2.2.2.2.2.2)))))))))=ms from em (by rw[es rfl]),w64 ⟨by omega,by omega⟩]
  rfl
 ·show iB aB _ q ((l.length:Nat):Int) h1 h2 h3 h4 h5 rows h7 h8 h9 h10 ms=_;unfold iB Pa Pc Pd Pe Pf PA PF;have e0:eJ (s:=uH) (.inr (some (j,(0,l.length))))=l.length:=rfl;simp only[e0];rw[ZAE (by omega)]
  rfl
theorem loZ(ks:List cS)(hn:ks.length<=1000)(h:∀k∈ks,GQ k)(h1 h2 h3)(h4:List bP)(h5:List Ino)(h7:List fC)(h8 h9 h10):
 ∃rows ms,gM aB ks (0,(h1,(h2,(h3,(h4,(h5,(List.map (bY TKR) (show List (TKR.unref.den) from ks),(h7,(h8,(h9,(h10,[])))))))))))=some (h1,(h2,(h3,(h4,(h5,(rows,(h7,(h8,(h9,(h10,ms))))))))))/\CK rows ms ks:=by
 have h0:∀(i:Nat) (k),ks[i]? =some k->(List.map (bY TKR) ((ks)))[i]? =some ((k.1,(k.2.1,.inl k.2.2)):KR):=fun i k hg=>by
  show(List.map (bY TKR) (show List (TKR.unref.den) from ks))[i]? =some (bY TKR k);rw[ZAY];show(((ks))[i]?).map _=_;rw[hg]
  rfl
 have loop:∃o,gM aB ks (0,(h1,(h2,(h3,(h4,(h5,((List.map (bY TKR) ((ks))),(h7,(h8,(h9,(h10,[])))))))))))=some o/\∃rows ms,o=(h1,(h2,(h3,(h4,(h5,(rows,(h7,(h8,(h9,(h10,ms))))))))))/\CK rows ms ks:=by
  unfold gM;refine a5Z (fun m s=>∃(n:Nat) (rows:List KR) (ms:List (Nat×List aY)),s=((n:Int),(h1,(h2,(h3,(h4,(h5,(rows,(h7,(h8,(h9,(h10,ms)))))))))))/\n+m=ks.length/\rows.length=ks.length/\ms.length=n/\∀(i) k,ks[i]? =some k->(i<n->rows[i]? =some (k.1,(k.2.1,.inr (some (i,(0,k.2.2.length)))))/\ms[i]? =some (1,k.2.2))/\(n<=i->rows[i]? =some (k.1,(k.2.1,.inl k.2.2)))) _ (fun m s hI=> ?_) (fun s hI=> ?_) ks.length _ (by omega) ⟨0,_,[],rfl,by omega,ZAl _,rfl,fun i k hg=>⟨fun hc=>absurd hc (ZBk _),fun _=>h0 i k hg⟩⟩
  ·obtain⟨n,rows,ms,rfl,hk,g1,g2,g3⟩:=hI;have hlt:n<ks.length:=by omega
   obtain⟨k,hg⟩:∃k,ks[n]? =some k:=⟨_,ZAC hlt⟩;have hrow:=(g3 n k hg).2 (ZAL _);have hsm:=h k (ZAG hg);left;refine⟨(((n+1:Nat):Int),(h1,(h2,(h3,(h4,(h5,(rows.set n (k.1,(k.2.1,.inr (some (n,(0,k.2.2.length))))),(h7,(h8,(h9,(h10,ms++[(1,k.2.2)]))))))))))),?_,n+1,_,_,rfl,by omega,by rw[ZAv];exact g1,by simp[g2],fun i k' hg'=>⟨fun hi=> ?_,fun hi=> ?_⟩⟩
   ·unfold nA;simp only;rw[ZAJ (show(n:Int)<((ks.length:Nat):Int) by omega),acZ (by omega)];simp only[ZAK,ZAA,hrow];rw[show lY (.ref 1 uH) (.inl k.2.2)=some k.2.2 from rfl];erw[ZAA];rw[t5Z (by have:=hsm.1;omega)];simp only[ZAA,g2];rw[ZAU (by omega)];simp only[ZAA];rw[own0 (ZAU (by omega)) (by rw[ZAV (by omega),g2,ZBv];rfl) hsm.1 hsm.2,w64 ⟨by omega,by omega⟩]
    rfl
   ·by_cases hin:i=n
    ·subst hin;rw[hg] at hg';cases hg';exact⟨ZAU (by omega),by rw[ZAV (by omega),g2,ZBv];rfl⟩
    ·have:=(g3 i k' hg').1 (by omega);rw[ZAa (by omega),ZAT (by omega)];exact this
   ·rw[ZAa (by omega)];exact(g3 i k' hg').2 (by omega)
  ·obtain⟨n,rows,ms,rfl,hk,g1,g2,g3⟩:=hI;have:n=ks.length:=by omega
   subst this;refine⟨(h1,(h2,(h3,(h4,(h5,(rows,(h7,(h8,(h9,(h10,ms)))))))))),?_,rows,ms,rfl,g1,fun i row k hr hk=> ?_,fun i i' row row' j p p' hii hr hr' hj hj'=> ?_⟩
   ·unfold nA;simp only;rw[ZAE (by omega)]
    rfl
   ·obtain⟨e1,e2⟩:=(g3 i k hk).1 (ZAB.1 hk).1;rw[e1] at hr;cases hr;exact⟨⟨rfl,rfl⟩,.inr ⟨i,rfl,e2⟩⟩
   ·have q:∀(i) (row) (p),rows[i]? =some row->row.2.2= .inr (some (j,p))->j=i:=fun i row p hr hj=>by
     have hi:=(ZAB.1 hr).1;have hg:=ZAC (show i<ks.length by omega);obtain⟨e1,_⟩:=(g3 i _ hg).1 (by omega);rw[e1] at hr;cases hr;injection hj with hj;injection hj with hj;injection hj with hj;exact hj.symm
    have:=q i row p hr hj;have:=q i' row' p' hr' hj';omega
 grind
theorem pdZ(pl:List fC)(hn:pl.length<=1000)(h:∀p∈pl,p.2.length<=1000)(h1 h2 h3)(h4:List cS)(h5:List bP)(h6:List Ino)(h8 h9 h10):
 nQ aB pl (0,(h1,(h2,(h3,(h4,(h5,(h6,(pl,(h8,(h9,h10))))))))))=some (h1,(h2,(h3,(h4,(h5,(h6,(pl,(h8,(h9,h10))))))))):=by
 refine aoZ (fun k:Nat=>((k:Int),(h1,(h2,(h3,(h4,(h5,(h6,(pl,(h8,(h9,h10))))))))))) pl.length (by omega) (fun k hk=> ?_) ?_
 ·show iA aB pl (k:Int) h1 h2 h3 h4 h5 h6 pl h8 h9 h10=_;unfold iA;have hx:=ZAC hk;rw[ZAJ (show(k:Int)<((pl.length:Nat):Int) by omega),acZ hk,ZAA,hx,ZAA,pLZ (by have:=h _ (ZBO hk);omega),ZAA,ZAA,hx,ZAA,w64 (by omega)];rw[(d4Z hx)]
  rfl
 show iA aB pl (pl.length:Int) h1 h2 h3 h4 h5 h6 pl h8 h9 h10=_;simp_all[iA,ZAE]
theorem uxZ(s:bT)(hf:Fit s.2.1.1)(hc:vF s.2.2.1)(hp:s.2.2.2.1.length<=1000/\∀p∈s.2.2.2.1,p.2.length<=1000)(hd:s.2.2.2.2.length<=100000):
 eK aB s=some (s.1,(s.2.1.2,(s.2.2.1.1,(s.2.2.1.2,(s.2.1.1,(s.2.2.2.1,s.2.2.2.2)))))):=by
 let⟨life,t,⟨w,ks⟩,pl,dead⟩:=s
 unfold eK Pb Pc Pd Pe Pf Pg Ph PH PI;rw[h1Z hf,ZAA,ogZ (by omega),ZAA];rw[pdZ pl hp.1 hp.2,ZAA];rw[tyZ (by have:=hc.1;grind),ZAA]
 let⟨rows,ms,ho,hF⟩:=loZ ks hc.1 hc.2 life t.2 w dead t.1 pl 0 0 0
 have ho':=ho;erw[ho'];rw[ZAA];simp;rw[cLZ hd];have hp':=hF.pure_;erw[hp']
 rfl
def dU(x:Ino):Ino:=(x.1,x.2.1,x.2.2.1,x.2.2.2.1,x.2.2.2.2.1,[],x.2.2.2.2.2.2.1,x.2.2.2.2.2.2.2)
def iJ(x:Ino):Byt:=List.replicate x.2.2.2.2.1.toNat 0
theorem voZ{α:Type}{f}{l:List α}{k}{x}(h:l[k]? =some x):((l.take k).map f++l.drop k).set k (f x)=(l.take (k+1)).map f++l.drop (k+1):=by
 obtain⟨hk,rfl⟩:=ZAB.1 h;have e:((l.take k).map f).length=k:=by simp;omega
 rw[List.set_append_right _ _ (by omega),e,ZBv,ZBV hk,aOZ h,ZB7,ZAp]
 rfl
theorem vxZ{α:Type}{f}{l:List α}{k}{x}(h:l[k]? =some x):((l.take k).map f++l.drop k)[k]? =some x:=by
 grind
theorem rIZ{T:cI}(hf:Fit T.1)(hs:∀x∈T.1,0<=x.2.2.2.2.1/\x.2.2.2.2.1<=65536)(hn:T.1.length<=1000):JA aB T=some (T.2,(T.1.map dU,T.1.map iJ)):=by
 unfold JA;rw[h1Z hf,ZAA];simp;have loop:sH aB (T.2,T.1) (0,(0,(T.2,(T.1,[]))))=some (0,(T.2,(T.1.map dU,T.1.map iJ))):=by
  unfold sH;have e:((0:Int),((0:Int),(T.2,(T.1,([]:List Byt)))))=(fun k:Nat=>((k:Int),((0:Int),(T.2,((T.1.take k).map dU++T.1.drop k,(T.1.take k).map iJ))))) 0:=by simp
  refine(congrArg (iter aB _) e).trans ?_;refine aoZ (fun k:Nat=>((k:Int),((0:Int),(T.2,((T.1.take k).map dU++T.1.drop k,(T.1.take k).map iJ))))) T.1.length (by omega) (fun k hk=> ?_) ?_
  ·obtain⟨x,hx⟩:∃x,T.1[k]? =some x:=⟨_,ZAC hk⟩;have hsz:=hs x (ZAG hx);have hlen:((T.1.take k).map dU++T.1.drop k).length=T.1.length:=by simp;omega
   have aS:List.set ((T.1.take k).map dU++T.1.drop k) k (x.1,(x.2.1,(x.2.2.1,(x.2.2.2.1,(x.2.2.2.2.1,([],x.2.2.2.2.2.2))))))=(T.1.take (k+1)).map dU++T.1.drop (k+1):=voZ hx;have hlen2:((T.1.take (k+1)).map dU++T.1.drop (k+1)).length=T.1.length:=by rw[<-aS,ZAv,hlen]
   have hg:((T.1.take (k+1)).map dU++T.1.drop (k+1))[k]? =some (dU x):=by
    rw[<-aS,ZAU (by rw[hlen];exact hk)];rfl
   show tZ aB (T.2,T.1) (k:Int) 0 T.2 ((T.1.take k).map dU++T.1.drop k) ((T.1.take k).map iJ)=_;unfold tZ;simp only;rw[ZAJ (show(k:Int)<((T.1.length:Nat):Int) by omega),hlen,acZ hk,ZAA,vxZ hx,ZAA];rw[aS,hlen2,acZ hk,ZAA,hg,ZAA];rw[show(dU x).2.2.2.2.1=x.2.2.2.2.1 from rfl,b1Z hsz.1 (by rw[asZ];omega),ZAA,b1Z hsz.1 (by omega),ZAA,aeZ (by rw[ZAm,asZ];omega),aeZ (by simp only[ZAF,ZAm,asZ,ZAl,ZAS];omega),w64 (by omega),aOZ hx];simp only[ZB7]
   rfl
  ·show tZ aB (T.2,T.1) ((T.1.length:Nat):Int) 0 T.2 _ _=_;unfold tZ;simp only;rw[ZAE (by omega)];simp
 simp_all
structure UW (P:List bP) (w:Int):Prop where
 n:P.length<=4096
 ok:∀p∈P,cV w p
 nd:(aO P).Nodup
 w:0<=w/\w<=1099511627776
theorem f6Z(a b:Nat):Int.tdiv (a:Int) (b:Int)=((a/b:Nat):Int):=(Int.ofNat_tdiv a b).symm
theorem h2Z{a q:Nat}(ha:a<=1000000)(hq:1<=q/\q<=1000):IX aB (a:Int) (q:Int)=some (((a+q-1)/q:Nat):Int):=by
 unfold IX;have h1:(a+q-1)/q<=a+q-1:=Nat.div_le_self _ _;rw[aeZ (by rw[ZAE (by omega)];rfl),w64 (x:=(a:Int)+q) (by omega),w64 (x:=(a:Int)+q-1) (by omega),show(a:Int)+q-1=((a+q-1:Nat):Int) by omega,f6Z];generalize (a+q-1)/q=z at h1⊢;rw[w64 (by omega)]
def pl3:List fC:=[(1,[0,1,2])]
theorem u3Z:OM aB pl3=some true:=by kernel_rfl
def pL(x:Ino)(P:List bP):Ino:=(x.1,x.2.1,x.2.2.1,x.2.2.2.1,x.2.2.2.2.1,P,x.2.2.2.2.2.2.1,x.2.2.2.2.2.2.2)
def cJ(l:List Ino)(P:Nat->List bP):List Ino:=l.mapIdx fun i x=>pL x (P i)
theorem clZ(l)(P):(cJ l P).length=l.length:=List.length_mapIdx
theorem bNZ{l}(P){i}{x}(h:l[i]? =some x):(cJ l P)[i]? =some (pL x (P i)):=by
 simp_all[cJ]
theorem biZ{l}{P}{i}{y}(h:(cJ l P)[i]? =some y):∃x,l[i]? =some x/\y=pL x (P i):=by
 unfold cJ at h
 grind
theorem pjZ{l}(P){id}(h:Rch l id):Rch (cJ l P) id:=by
 induction h with
 |root=>exact .root
 |step h1 h2 _ ih=>exact .step (bNZ P h1) h2 ih
theorem iSZ{t}(h:aM t){P}{w}(hw:0<=w/\w<=1099511627776)
 (hp:∀(i) x,t.1[i]? =some x->if x.2.2.1=true/\x.2.2.2.1=false then(P i).length<=4096/\∀p∈P i,cV w p else P i=[])
 (hn:(aD (cJ t.1 P)).Nodup):aM (cJ t.1 P,w):=by
 refine⟨⟨by rw[clZ];exact h.r.len,hw,fun i y hy=> ?_,hn,?_⟩,fun i y hy s id he=> ?_,fun j y hy hu hj=> ?_,fun j y hy hu=> ?_⟩
 ·obtain⟨x,hx,rfl⟩:=biZ hy;have o:=h.r.ino i x hx;have q:=hp i x hx;rw[clZ];refine⟨o.id,o.gen,o.par,fun hu hd=> ?_,fun hu hd=> ?_,fun hu=> ?_⟩
  ·rw[ZAM (fun z=>by rw[show x.2.2.2.1=true from hd] at z;exact absurd z.2 (by decide))] at q;exact⟨(o.dir hu hd).1,q,(o.dir hu hd).2.2⟩
  ·rw[ZAN ⟨hu,hd⟩] at q;exact⟨(o.file hu hd).1,(o.file hu hd).2.1,q.1,q.2⟩
  ·rw[ZAM (fun z=>by rw[show x.2.2.1=false from hu] at z;exact absurd z.1 (by decide))] at q
   let⟨a,b,c,_,d⟩:=o.bare hu
   exact⟨a,b,c,q,d⟩
 ·let⟨r,hr,a⟩:=h.r.root
  exact⟨_,bNZ P hr,a⟩
 ·obtain⟨x,hx,rfl⟩:=biZ hy
  let⟨a,b,z,hz,c⟩:=h.e i x hx s id he
  exact⟨a,b,_,bNZ P hz,c⟩
 ·obtain⟨x,hx,rfl⟩:=biZ hy
  let⟨n,s,hn',c⟩:=h.u j x hx hu hj
  exact⟨_,s,bNZ P hn',c⟩
 ·obtain⟨x,hx,rfl⟩:=biZ hy;exact pjZ P (h.a j x hx hu)
theorem uiZ(l):l.map dU=cJ l fun _=>[]:=by
 refine ZBW fun i=> ?_;rw[ZAY];unfold cJ;rw[ZCg]
 rfl
theorem g7Z:aO []=[]:=rfl
theorem mTZ{l}(h:∀x∈l,x.2.2.2.2.2.1=[]):aD l=[]:=by
 unfold aD;rw[List.flatMap_eq_nil_iff];intro x hx;rw[h x hx];rfl
theorem qFZ{t}(h:aM t):aM (t.1.map dU,t.2):=by
 rw[uiZ];refine iSZ h h.r.str (fun i x _=>by simp_all) ?_;rw[mTZ]
 ·simp_all
 ·intro y hy
  let⟨i,hi⟩:=ZAP hy
  obtain⟨x,_,rfl⟩:=biZ hi
  rfl
def aI(t:cI):Mod:=((t.1.map dU,t.2),t.1.map iJ)
theorem bdZ{t}(h:aM t):aZ (aI t):=by
 refine⟨qFZ h,by simp[aI],fun i y hy=> ?_,fun i y b hy hb=> ?_⟩
 ·simp only[aI,ZAY] at hy;obtain⟨x,_,rfl⟩:=ZAI.1 hy
  rfl
 ·simp only[aI,ZAY] at hy hb;obtain⟨x,hx,rfl⟩:=ZAI.1 hy;rw[hx] at hb;obtain rfl:=ZAh hb;have:=(edZ h hx).1;simp[iJ,dU];omega
theorem f2Z{t}(h:aM t):JA aB t=some ((aI t).1.2,((aI t).1.1,(aI t).2)):=
 rIZ h.r.fit (fun x hx=>by
  let⟨i,hi⟩:=ZAP hx
  exact⟨(edZ h hi).1,(edZ h hi).2.1⟩) (by have:=h.r.len;omega)
theorem eeZ{P}{k}:k∈aO P↔k≠0/\∃p∈P,p.1=k:=by
 unfold aO;rw[ZBM];constructor
 ·rintro⟨p,hp,rfl⟩
  let⟨h1,h2⟩:=ZBi.1 hp
  exact⟨by simpa using h2,p,h1,rfl⟩
 simp_all
theorem sDZ{l}{k}:k∈aD l↔∃(i:Nat) (x:Ino),l[i]? =some x/\k∈aO x.2.2.2.2.2.1:=by
 grind[aD,ZCj,ZAP,ZAG]
structure lU (s:bT) (q:Nat):Prop where
 life:0<=s.1/\s.1<=1099511627776
 t:aM s.2.1
 c:fB s.2.2.1=true
 pl:s.2.2.2.1=pl3
 l:∀(i:Nat) x,s.2.1.1[i]? =some x->x.2.2.1=true->x.2.2.2.1=false->x.2.2.2.2.2.1.length=(x.2.2.2.2.1.toNat+q-1)/q
 q:16<=q/\q<=65
 ds:(s.2.2.2.2.map (·.1)).Pairwise (·<·)
 d:∀p∈s.2.2.2.2,(1<=p.1/\p.1<=s.2.1.2)/\(1<=p.2/\p.2<=1099511627776)/\p.1∉aD s.2.1.1
 dn:s.2.2.2.2.length<=65536
def uI(l:List Ino):List Int:=l.flatMap fun n=>n.2.2.2.2.2.1.map (·.1)
theorem o5Z{l:List Ino}{k}{n}(h:l[k]? =some n):uI (l.take (k+1))=uI (l.take k)++n.2.2.2.2.2.1.map (·.1):=by
 simp_all[uI,aOZ]
theorem sEZ{l}{k}(h0:k≠0)(h:k∉aD l):k∉uI l:=by
 intro hk
 let⟨x,hx,hk⟩:=ZCj.1 hk
 obtain⟨p,hp,rfl⟩:=ZBM.1 hk;exact h (ZCj.2 ⟨x,hx,eeZ.2 ⟨h0,p,hp,rfl⟩⟩)
theorem qEZ(x:Ino)(hx:x.2.2.2.2.2.1.length<=100000)(h:List bT)(M)(S)(hM:MS M S):
 ∃M',sF aB (false,(h,(M,x))) (0,(h,M))=some (h,M')/\MS M' (S++x.2.2.2.2.2.1.map (·.1)):=by
 unfold sF;obtain⟨o,ho,M',hM,hS⟩:=a5Z (f:=fun tt:Int×(List bT×GM)=>qH aB (false,(h,(M,x))) tt.1 tt.2.1 tt.2.2) (fun r s=>∃(k:Nat) (M':GM),s=((k:Int),(h,M'))/\k+r=x.2.2.2.2.2.1.length/\MS M' (S++(x.2.2.2.2.2.1.take k).map (·.1))) (fun o=>∃M',o=(h,M')/\MS M' (S++x.2.2.2.2.2.1.map (·.1))) (fun r s hI=>by
  obtain⟨k,M',rfl,hk,hm⟩:=hI;obtain⟨p,hp⟩:∃p,x.2.2.2.2.2.1[k]? =some p:=⟨_,ZAC (by omega)⟩;left;refine⟨(((k+1:Nat):Int),(h,iM M' p.1 1)),?_,k+1,_,rfl,by omega,?_⟩
  ·show qH aB (false,(h,(M,x))) (k:Int) h M'=_;unfold qH;simp only;rw[ZAJ (by omega),acZ (by omega),ZAA,hp,w64 (by omega)]
   rfl
  ·rw[aOZ hp,ZB7,<-List.append_assoc];exact hm.put p.1) (fun s hI=>by
  obtain⟨k,M',rfl,hk,hm⟩:=hI;have:k=x.2.2.2.2.2.1.length:=by omega
  subst this;refine⟨(h,M'),?_,M',rfl,by rwa [ZAu] at hm⟩;show qH aB (false,(h,(M,x))) _ h M'=_;unfold qH;simp only;rw[ZAE (by omega)]
  rfl) x.2.2.2.2.2.1.length (0,(h,M)) (by omega) ⟨0,M,rfl,by omega,by simpa using hM⟩
 simp_all
theorem oBZ{s}{q}(h:lU s q){M}(hM:MS M (uI s.2.1.1)):∃M',BW aB s M=some (true,M'):=by
 have key:∀p∈s.2.2.2.2,((Option.getD (gX M p.1) 0:Int)==1)=false:=fun p hp=>by
  have d:=h.d p hp;cases e:((Option.getD (gX M p.1) 0:Int)==1) with
  |false=>rfl
  |true=>exact absurd ((hM p.1).1 e) (sEZ (by omega) d.2.2)
 have loop:∃o,lN aB s.2.2.2.2 (0,(0,(s.1,(s.2.1.1,(s.2.1.2,(s.2.2.1.1,(s.2.2.1.2,(s.2.2.2.1,(s.2.2.2.2,M)))))))))=some o/\∃last,o= .inl (last,(s.1,(s.2.1.1,(s.2.1.2,(s.2.2.1.1,(s.2.2.1.2,(s.2.2.2.1,(s.2.2.2.2,M)))))))):=by
  unfold lN;refine a5Z (f:=fun tt:Int×(Int×(Int×(List Ino×(Int×(Int×(List cS×(List fC×(List bP×GM))))))))=>iS aB s.2.2.2.2 tt.1 tt.2.1 tt.2.2.1 tt.2.2.2.1 tt.2.2.2.2.1 tt.2.2.2.2.2.1 tt.2.2.2.2.2.2.1 tt.2.2.2.2.2.2.2.1 tt.2.2.2.2.2.2.2.2.1 tt.2.2.2.2.2.2.2.2.2) (fun r st=>∃(k:Nat) (last:Int),st=((k:Int),(last,(s.1,(s.2.1.1,(s.2.1.2,(s.2.2.1.1,(s.2.2.1.2,(s.2.2.2.1,(s.2.2.2.2,M)))))))))/\k+r=s.2.2.2.2.length/\∀(j) p,k<=j->s.2.2.2.2[j]? =some p->last<p.1) (fun o=>∃last,o= .inl (last,(s.1,(s.2.1.1,(s.2.1.2,(s.2.2.1.1,(s.2.2.1.2,(s.2.2.2.1,(s.2.2.2.2,M))))))))) (fun r st hI=> ?_) (fun st hI=> ?_) s.2.2.2.2.length _ (by have:=h.dn;omega) ⟨0,0,rfl,by omega,fun j p _ hj=>by have:=(h.d p (ZAG hj)).1;omega⟩
  ·obtain⟨k,last,rfl,hk,hl⟩:=hI;obtain⟨p,hp⟩:∃p,s.2.2.2.2[k]? =some p:=⟨_,ZAC (by omega)⟩;have d:=h.d p (ZAG hp);have h1:=hl k p (ZAL _) hp;have dn:=h.dn;left;refine⟨(((k+1:Nat):Int),(p.1,(s.1,(s.2.1.1,(s.2.1.2,(s.2.2.1.1,(s.2.2.1.2,(s.2.2.2.1,(s.2.2.2.2,M))))))))),?_,k+1,p.1,rfl,by omega,fun j x hj hx=> ?_⟩
   ·show iS aB s.2.2.2.2 (k:Int) last s.1 s.2.1.1 s.2.1.2 s.2.2.1.1 s.2.2.1.2 s.2.2.2.1 s.2.2.2.2 M=_;unfold iS LX;rw[ZAJ (by omega),acZ (by omega),ZAA,hp,ZAA,ZAE (by omega),ZAD,ZAE (by omega),ZAD,key p (ZAG hp),ZAD,ZAE (by omega),ZAD,ZAE (by omega),ZAA,ZAD,w64 (by omega)]
    rfl
   ·have:=ZBa.1 h.ds k j (by rw[ZAl];omega) (by rw[ZAl];exact(ZAB.1 hx).1) (by omega);rw[ZB9,ZB9,(ZAB.1 hp).2,(ZAB.1 hx).2] at this;exact this
  ·obtain⟨k,last,rfl,hk,hl⟩:=hI;have:k=s.2.2.2.2.length:=by omega
   subst this;refine⟨.inl (last,_),?_,last,rfl⟩;show iS aB s.2.2.2.2 _ last s.1 s.2.1.1 s.2.1.2 s.2.2.1.1 s.2.2.1.2 s.2.2.2.1 s.2.2.2.2 M=_;unfold iS;rw[ZAE (by omega)]
   rfl
 obtain⟨o,ho,last,rfl⟩:=loop;have dn:=h.dn;refine⟨M,?_⟩;unfold BW yF BV
 grind
theorem lU.right{s}{q}(h:lU s q):IZ aB s (q:Int)=some true:=by
 unfold IZ LV;have hT:=h.t;have hq:=h.q;have hn:=hT.r.len;have hl:=h.life;rw[ZAJ (show(q:Int)>=16 by omega),ZAK,ZAA,ZAJ (show(q:Int)<=65536 by omega)];simp only[ZAQ];rw[ZAE (show¬s.1<0 by omega),ZAE (show¬s.1>1099511627776 by omega),bBZ hT,ipZ s.2.2.1 (bDZ h.c),h.c];simp[ZAD];rw[h.pl,u3Z,ZAA];simp[ZAA];have loop:∃o,sG aB s (q:Int) (0,([s],([],0)))=some o/\∃M',o= .inl ([s],M')/\MS M' (uI s.2.1.1):=by
  unfold sG;refine a5Z (f:=fun tt:Int×(List bT×GM)=>qI aB s (q:Int) tt.1 tt.2.1 tt.2.2) (fun r st=>∃(k:Nat) (M':GM),st=((k:Int),([s],M'))/\k+r=s.2.1.1.length/\MS M' (uI (s.2.1.1.take k))) (fun o=>∃M',o= .inl ([s],M')/\MS M' (uI s.2.1.1)) (fun r st hI=> ?_) (fun st hI=> ?_) s.2.1.1.length (0,([s],([],0))) (by omega) ⟨0,([],0),rfl,by omega,by simpa[uI] using MS.nil⟩
  ·obtain⟨k,M',rfl,hk,hm⟩:=hI;obtain⟨x,hx⟩:∃x,s.2.1.1[k]? =some x:=⟨_,ZAC (by omega)⟩;have hf:=(hT.r.fit).at hx;have hz:=edZ hT hx;left
   let⟨M2,hM2,hS2⟩:=qEZ x hf.1 [s] M' _ hm
   refine⟨(((k+1:Nat):Int),([s],M2)),?_,k+1,_,rfl,by omega,by rw[o5Z hx];exact hS2⟩;show qI aB s (q:Int) (k:Int) [s] M'=_;unfold qI;rw[ZAJ (by omega),acZ (by omega),ZAA,hx,ZAA];have test:(bif x.2.2.1 then bif (!x.2.2.2.1) then(IX aB x.2.2.2.2.1 (q:Int)).bind fun r6=>some ((!(((x.2.2.2.2.2.1.length:Nat):Int)==r6)),([s],(M',x))) else some (false,([s],(M',x))) else some (false,([s],(M',x))))=some (false,([s],(M',x))):=by
    cases hu:x.2.2.1
    ·rfl
    ·cases hd:x.2.2.2.1
     ·simp only[ZAK,ZAn];rw[show x.2.2.2.2.1=((x.2.2.2.2.1.toNat:Nat):Int) by omega,h2Z (by omega) (by omega),ZAA,h.l k x hx hu hd];simp
     ·rfl
   rw[test,ZAA];simp only[ZAD];rw[hM2,ZAA,w64 (by omega)]
   rfl
  ·obtain⟨k,M',rfl,hk,hm⟩:=hI;have:k=s.2.1.1.length:=by omega
   subst this;refine⟨.inl ([s],M'),?_,M',rfl,by rwa [ZAu] at hm⟩;show qI aB s (q:Int) _ [s] M'=_;unfold qI;rw[ZAE (by omega)]
   rfl
 grind[oBZ,ZAA,ZAR]
abbrev eV:Type:=Int×(bP×Int)
theorem oOZ{k to q}(hq:1<=q):k<(to+q-1)/q↔k*q<to:=by
 grind[Nat.le_div_iff_mul_le,ZAr]
theorem lZZ{k to q}(hq:1<=q)(h:to<=k*q):(to+q-1)/q<=k:=by
 grind[oOZ]
theorem ljZ{a b q}(h:a<=b):(a+q-1)/q<=(b+q-1)/q:=Nat.div_le_div_right (by omega)
theorem qaZ{a b q}(hq:1<=q)(h:a<=b):a/q<=(b+q-1)/q:=Nat.div_le_div_right (by omega)
def dG(p:bP):Bool:=(p.1==0)&&(p.2==0)
def pAt(P:List bP)(i:Nat):bP:=(P[i]?).getD (0,0)
theorem kZZ(x:Ino)(i:Nat)(h:x.2.2.2.2.2.1.length<=100000):JC aB x (i:Int)=some (pAt x.2.2.2.2.2.1 i):=by
 unfold JC pAt;by_cases hi:i<x.2.2.2.2.2.1.length
 ·rw[ZAE (by omega),acZ hi,ZAA,ZAC hi]
  rfl
 simp_all
def kZ(P:List bP)(a n:Nat):List eV:=(List.range n).map fun j=>(((a+j:Nat):Int),(pAt P (a+j),0))
theorem hXZ(P)(a n):(kZ P a n).length=n:=by simp[kZ]
theorem lUZ(P)(a n):kZ P a (n+1)=kZ P a n++[(((a+n:Nat):Int),(pAt P (a+n),0))]:=by
 simp_all[kZ,List.range_succ]
theorem nFZ{x:Ino}{q a n from_ to}(hq:1<=q)(hn:a+n<=x.2.2.2.2.2.1.length)(hP:x.2.2.2.2.2.1.length<=4096)(hin:∀k,k<n->(a+k)*q<to)(hout:to<=(a+n)*q)(hb:q<=1000)(hf:from_/q=a):
 qJ aB (q:Int) (from_:Int) (to:Int) [x]=some ([x],kZ x.2.2.2.2.2.1 a n):=by
 unfold qJ;have hm:∀z,z<=a+n->z*q<=4096*1000:=fun z hz=>ZCY (by omega) hb;rw[aeZ (by rw[ZAE (by omega)];rfl),f6Z,w64 (by omega)];have loop:jM aB (q:Int) (to:Int) ((a:Int),([],[x]))=some (kZ x.2.2.2.2.2.1 a n,[x]):=by
  unfold jM;refine aoZ (fun k:Nat=>(((a+k:Nat):Int),(kZ x.2.2.2.2.2.1 a k,[x]))) n (by omega) (fun k hk=> ?_) ?_
  ·show iD aB (q:Int) (to:Int) ((a+k:Nat):Int) (kZ x.2.2.2.2.2.1 a k) [x]=_;unfold iD LZ;have h1:=hin k hk;have h2:=hm (a+k) (by omega);rw[show((a+k:Nat):Int)*(q:Int)=(((a+k)*q:Nat):Int) by rw[ZBr]];generalize (a+k)*q=z at*;rw[w64 (by omega),ZAJ (by omega),ZAR,ZAA,acZ (by omega),ZAA,ZAC (by omega),ZAA,aeZ (by simp[asZ,hXZ];omega),w64 (by omega),lUZ];unfold pAt;rw[ZAC (by omega)]
   rfl
  ·show iD aB (q:Int) (to:Int) ((a+n:Nat):Int) _ [x]=_;unfold iD;have h2:=hm (a+n) (by omega);rw[show((a+n:Nat):Int)*(q:Int)=(((a+n)*q:Nat):Int) by rw[ZBr]];generalize (a+n)*q=z at*;rw[w64 (by omega),ZAE (by omega),ZAD]
 simp_all
def iV(x:Ino)(q:Nat)(c:aX):List eV:=
 if c.2.2.2.2.2.2.2.2.1>0 then
  kZ x.2.2.2.2.2.1 (min x.2.2.2.2.1.toNat c.2.2.2.2.2.2.2.1.toNat/q) ((min x.2.2.2.2.1.toNat (c.2.2.2.2.2.2.2.1.toNat+c.2.2.2.2.2.2.2.2.1.toNat)+q-1)/q-min x.2.2.2.2.1.toNat c.2.2.2.2.2.2.2.1.toNat/q)
 else[]
theorem s3Z{x:Ino}{q}{c:aX}(hq:16<=q/\q<=65)(hs:0<=x.2.2.2.2.1/\x.2.2.2.2.1<=65536)(hl:x.2.2.2.2.2.1.length=(x.2.2.2.2.1.toNat+q-1)/q)
 (ho:0<=c.2.2.2.2.2.2.2.1/\c.2.2.2.2.2.2.2.1<=2147483648)(hn:0<=c.2.2.2.2.2.2.2.2.1/\c.2.2.2.2.2.2.2.2.1<=2147483648):
 RD aB x (q:Int) c=some (iV x q c):=by
 unfold RD iV Pd Pg Ph;by_cases h0:c.2.2.2.2.2.2.2.2.1>0
 ·rw[ZAJ h0,ZAK,ZAN h0];have hz:=ZBn hs.1;have hoo:=ZBn ho.1;have hnn:=ZBn hn.1;rw[w64 (by omega)];rw[show(if x.2.2.2.2.1<c.2.2.2.2.2.2.2.1 then x.2.2.2.2.1 else c.2.2.2.2.2.2.2.1)=((min x.2.2.2.2.1.toNat c.2.2.2.2.2.2.2.1.toNat:Nat):Int) by split<;>omega,
   show(if x.2.2.2.2.1<c.2.2.2.2.2.2.2.1+c.2.2.2.2.2.2.2.2.1 then x.2.2.2.2.1 else c.2.2.2.2.2.2.2.1+c.2.2.2.2.2.2.2.2.1)=((min x.2.2.2.2.1.toNat (c.2.2.2.2.2.2.2.1.toNat+c.2.2.2.2.2.2.2.2.1.toNat):Nat):Int) by split<;>omega]
  generalize he:min x.2.2.2.2.1.toNat (c.2.2.2.2.2.2.2.1.toNat+c.2.2.2.2.2.2.2.2.1.toNat)=to;generalize hf:min x.2.2.2.2.1.toNat c.2.2.2.2.2.2.2.1.toNat=fr;have hto:to<=x.2.2.2.2.1.toNat:=by omega
  have hfr:fr<=to:=by omega
  have hle:=qaZ (q:=q) (by omega) hfr;have hup:=ljZ (q:=q) hto;have hP:(x.2.2.2.2.1.toNat+q-1)/q<=4096:=lZZ (by omega) (by have:4096*16<=4096*q:=ZB8 _ hq.1;omega);rw[nFZ (n:=(to+q-1)/q-fr/q) (by omega) (by omega) (by omega) (fun k hk=>(oOZ (by omega)).1 (by omega)) ?_ (by omega) rfl,ZAA];rw[show fr/q+((to+q-1)/q-fr/q)=(to+q-1)/q by omega];by_cases h:(to+q-1)/q<(to+q-1)/q
  ·omega
  ·rw[oOZ (by omega)] at h;omega
 grind
def gJ(P:List bP)(wh:Nat->Bool)(i:Nat)(s:Int×(List eV×List eV)):Int×(List eV×List eV):=
 if dG (pAt P i)=true then(s.1+1,(s.2.1++[((i:Int),(pAt P i,s.1+1))],s.2.2))
 else(s.1,(s.2.1++[((i:Int),(pAt P i,(pAt P i).1))],if wh i=true then s.2.2 else s.2.2++[((i:Int),(pAt P i,(pAt P i).1))]))
def dE(P:List bP)(wh:Nat->Bool)(a:Nat):Nat->Int->Int×(List eV×List eV)
 |0,w=>(w,([],[]))
 |k+1,w=>gJ P wh (a+k) (dE P wh a k w)
theorem b0Z(P)(wh)(a)(w):∀k,(dE P wh a k w).2.1.length=k/\(dE P wh a k w).2.2.length<=k/\w<=(dE P wh a k w).1/\(dE P wh a k w).1<=w+k
 |0=>by simp[dE]
 |k+1=>by
  have ih:=b0Z P wh a w k;unfold dE gJ;split
  ·simp[List.length_nil];omega
  ·split<;>simp[List.length_nil]<;>omega
theorem uqZ{x:Ino}{i:Nat}(hi:i<=100000)(hP:x.2.2.2.2.2.1.length<=100000){s}(hs:0<=s.1/\s.1<=2199023255552)(h1:s.2.1.length<=100000)(h2:s.2.2.length<=100000)(whole):
 ∃o,zT aB (i:Int) whole [x] s.1 s.2.1 s.2.2=some o/\(match o with|.inl r=>(r.1,r.2)|.inr r=>(r.1,(r.2.2,r.2.1)))=gJ x.2.2.2.2.2.1 (fun _=>whole) i s:=by
 unfold zT gJ;rw[ZAR,ZAA,kZZ x i hP,ZAA];cases hh:((pAt x.2.2.2.2.2.1 i).1==0)&&((pAt x.2.2.2.2.2.1 i).2==0)
 ·rw[ZAM (by unfold dG;rw[hh];decide)];simp only[ZAD,ZAA,ZAR,ZAK];rw[aeZ (by simp[asZ];omega)];cases whole
  ·simp[ZAK,ZAR,ZAA];rw[aeZ (by simp only[ZAF,ZAm,asZ];omega)];exact⟨_,rfl,rfl⟩
  simp_all
 ·rw[ZAN (by unfold dG;exact hh)];simp only[ZAK,ZAA,ZAR,ZAQ,ZAD];rw[aeZ (by simp only[ZAF,ZAm,asZ];omega),w64 (by omega)]
  simp_all
def eN(q off e:Nat)(i:Nat):Bool:=decide (off<=i*q)&&decide ((i+1)*q<=e)
theorem svZ{P}{w1 w2}{i}{s}(h:w1 i=w2 i):gJ P w1 i s=gJ P w2 i s:=by
 simp_all[gJ]
theorem spZ{x:Ino}{c:aX}{i q off e:Nat}(hq:q<=1000)(hi:i<=100000)(hP:x.2.2.2.2.2.1.length<=100000){s}(hs:0<=s.1/\s.1<=2199023255552)(h1:s.2.1.length<=100000)(h2:s.2.2.length<=100000)(ho:c.2.2.2.2.2.2.2.1=(off:Int)):
 ∃o,HO aB (i:Int) [c] [x] s.1 s.2.1 s.2.2 (q:Int) (e:Int)=some o/\
  (match o with|.inl r1=>(r1.1,(r1.2.1,(r1.2.2.2.2.1,(r1.2.2.2.2.2,([c],(r1.2.2.1,r1.2.2.2.1))))))|.inr r2=>(r2.1,(r2.2.1,(r2.2.2.2.2.2,(r2.2.2.1,([c],(r2.2.2.2.1,r2.2.2.2.2.1)))))))
   =([x],((gJ x.2.2.2.2.2.1 (eN q off e) i s).1,((gJ x.2.2.2.2.2.1 (eN q off e) i s).2.1,((gJ x.2.2.2.2.2.1 (eN q off e) i s).2.2,([c],((q:Int),(e:Int))))))):=by
 unfold HO;have m1:=ZCY hi hq;have m2:(i+1)*q<=100001*1000:=ZCY (by omega) hq;rw[ZAR,ZAA,w64 (x:=((i:Int)+1)) (by omega),show((i:Int)+1)*(q:Int)=(((i+1)*q:Nat):Int) by rw[ZBr,Int.natCast_add];rfl];have fin:∀b,b=eN q off e i->∃o,(zT aB (i:Int) b [x] s.1 s.2.1 s.2.2).bind (fun r1=>match r1 with
  |.inl r2=>some (Sum.inl ([x],(r2.1,((q:Int),((e:Int),r2.2)))))
  |.inr r3=>some (Sum.inr ([x],(r3.1,(r3.2.1,((q:Int),((e:Int),r3.2.2)))))))=some o/\
  (match o with|.inl r1=>(r1.1,(r1.2.1,(r1.2.2.2.2.1,(r1.2.2.2.2.2,([c],(r1.2.2.1,r1.2.2.2.1))))))|.inr r2=>(r2.1,(r2.2.1,(r2.2.2.2.2.2,(r2.2.2.1,([c],(r2.2.2.2.1,r2.2.2.2.2.1)))))))
   =([x],((gJ x.2.2.2.2.2.1 (eN q off e) i s).1,((gJ x.2.2.2.2.2.1 (eN q off e) i s).2.1,((gJ x.2.2.2.2.2.1 (eN q off e) i s).2.2,([c],((q:Int),(e:Int))))))):=fun b hb=>by
  let⟨o,ho,he⟩:=uqZ hi hP hs h1 h2 b
  rw[svZ hb] at he;rw[ho,ZAA];cases o with
  |inl r=>exact⟨_,rfl,by rw[<-he]⟩
  |inr r=>exact⟨_,rfl,by rw[<-he]⟩
 rw[w64 (by omega)];by_cases h:off<=i*q
 ·rw[ZAJ (by omega),ZAK,w64 (by omega)];refine fin _ ?_;unfold eN;rw[ZAJ h,ZBT];exact decide_eq_decide.2 (by omega)
 ·rw[ZAE (by omega),ZAD];refine fin _ ?_;unfold eN;rw[ZAE h];rfl
theorem lJZ{x:Ino}{c:aX}{q a n off e:Nat}{w}(hq:1<=q/\q<=1000)(hn:a+n<=90000)(hP:x.2.2.2.2.2.1.length<=100000)(hw:0<=w/\w<=1099511627776)(ho:c.2.2.2.2.2.2.2.1=(off:Int))
 (hin:∀k,k<n->(a+k)*q<e)(hout:e<=(a+n)*q)(hf:off/q=a):
 qK aB (q:Int) (off:Int) (e:Int) [x] w [c] (q:Int) (e:Int)=some ([x],((dE x.2.2.2.2.2.1 (eN q off e) a n w).1,([c],((q:Int),((e:Int),(dE x.2.2.2.2.2.1 (eN q off e) a n w).2))))):=by
 unfold qK;have hm:∀z,z<=a+n->z*q<=90000*1000:=fun z hz=>ZCY (by omega) hq.2;rw[aeZ (by rw[ZAE (by omega)];rfl),f6Z,hf,w64 (by omega)];have loop:jN aB (q:Int) (e:Int) ((a:Int),([x],(w,([],([],([c],((q:Int),(e:Int))))))))=some ([x],((dE x.2.2.2.2.2.1 (eN q off e) a n w).1,((dE x.2.2.2.2.2.1 (eN q off e) a n w).2.1,((dE x.2.2.2.2.2.1 (eN q off e) a n w).2.2,([c],((q:Int),(e:Int))))))):=by
  unfold jN;refine aoZ (fun k:Nat=>(((a+k:Nat):Int),([x],((dE x.2.2.2.2.2.1 (eN q off e) a k w).1,((dE x.2.2.2.2.2.1 (eN q off e) a k w).2.1,((dE x.2.2.2.2.2.1 (eN q off e) a k w).2.2,([c],((q:Int),(e:Int))))))))) n (by omega) (fun k hk=> ?_) ?_
  ·show iE aB (q:Int) (e:Int) ((a+k:Nat):Int) [x] _ _ _ [c] (q:Int) (e:Int)=_;unfold iE;have h1:=hin k hk;have h2:=hm (a+k) (by omega);have hr:=b0Z x.2.2.2.2.2.1 (eN q off e) a w k;rw[show((a+k:Nat):Int)*(q:Int)=(((a+k)*q:Nat):Int) by rw[ZBr],w64 (by omega),ZAJ (by omega),ZAK];obtain⟨o,ho,he⟩:=spZ (i:=a+k) (s:=dE x.2.2.2.2.2.1 (eN q off e) a k w) hq.2 (by omega) hP ⟨by omega,by omega⟩ (by omega) (by omega) ho;rw[ho,ZAA,w64 (by omega)];cases o with
   |inl r=>
    simp only[ZAA];simp only at he;rw[he];rfl
   |inr r=>
    simp only[ZAA];simp only at he;rw[he];rfl
  ·show iE aB (q:Int) (e:Int) ((a+n:Nat):Int) [x] _ _ _ [c] (q:Int) (e:Int)=_;unfold iE;have h2:=hm (a+n) (by omega);rw[show((a+n:Nat):Int)*(q:Int)=(((a+n)*q:Nat):Int) by rw[ZBr],w64 (by omega),ZAE (by omega),ZAD]
 simp_all
def fO(q:Nat)(c:aX):Nat:=if c.2.2.1=uO 5 then c.2.2.2.2.2.2.2.1.toNat/q else c.2.2.2.2.2.2.2.2.1.toNat/q
def fP(x:Ino)(q:Nat)(c:aX):Nat:=
 if c.2.2.1=uO 5 then
  if c.2.2.2.2.2.2.2.2.2.length=0 then 0 else(c.2.2.2.2.2.2.2.1.toNat+c.2.2.2.2.2.2.2.2.2.length+q-1)/q-c.2.2.2.2.2.2.2.1.toNat/q
 else if c.2.2.2.2.2.2.2.2.1<x.2.2.2.2.1/\c.2.2.2.2.2.2.2.2.1.toNat%q≠0/\dG (pAt x.2.2.2.2.2.1 (c.2.2.2.2.2.2.2.2.1.toNat/q))=false then 1 else 0
def iW(q:Nat)(c:aX):Nat->Bool:=if c.2.2.1=uO 5 then eN q c.2.2.2.2.2.2.2.1.toNat (c.2.2.2.2.2.2.2.1.toNat+c.2.2.2.2.2.2.2.2.2.length) else fun _=>false
def lK(x:Ino)(w:Int)(q:Nat)(c:aX):Int×(List eV×List eV):=dE x.2.2.2.2.2.1 (iW q c) (fO q c) (fP x q c) w
theorem op56{c:aX}(h:c.2.2.1=uO 5\/c.2.2.1=uO 6):c.2.2.1≠uO 5->c.2.2.1=uO 6:=fun h5=>h.resolve_left h5
theorem pEZ{x:Ino}{c:aX}{q:Nat}{w}(hq:16<=q/\q<=65)(hP:x.2.2.2.2.2.1.length<=4096)(hw:0<=w/\w<=1099511627776)(hop:c.2.2.1=uO 5\/c.2.2.1=uO 6)
 (ho:0<=c.2.2.2.2.2.2.2.1)(h5:c.2.2.1=uO 5->c.2.2.2.2.2.2.2.1+((c.2.2.2.2.2.2.2.2.2.length:Nat):Int)<=65536)(hn:0<=c.2.2.2.2.2.2.2.2.1/\c.2.2.2.2.2.2.2.2.1<=2147483648)(hb:c.2.2.2.2.2.2.2.2.2.length<=4096)(hoo:c.2.2.2.2.2.2.2.1<=2147483648):
 VR aB x w (q:Int) c=some (lK x w q c).2:=by
 unfold VR lK Pa Pb Pc Pd Pg Ph PD PH;have hoc:=ZBn ho;have hnc:=ZBn hn.1;rw[w64 (by omega)];by_cases e5:c.2.2.1=uO 5
 ·have h5:=h5 e5;unfold iW fO fP;rw[ZAN e5,ZAN e5,ZAN e5,e5,show(((uO 5).toNat:Nat):Int)=5 from rfl];simp only[ZAd,ZAK,ZAA];by_cases hl:c.2.2.2.2.2.2.2.2.2.length=0
  ·rw[ZAE (by omega),ZAN hl];simp only[ZAD,ZAR,ZAA];rw[e5]
   rfl
  ·rw[ZAJ (by omega),ZAM hl];simp only[ZAK,ZAR,ZAA];rw[<-hoc,show((c.2.2.2.2.2.2.2.1.toNat:Nat):Int)+((c.2.2.2.2.2.2.2.2.2.length:Nat):Int)=((c.2.2.2.2.2.2.2.1.toNat+c.2.2.2.2.2.2.2.2.2.length:Nat):Int) by omega,ZBw];have hdu:=qaZ (q:=q) (a:=c.2.2.2.2.2.2.2.1.toNat) (b:=c.2.2.2.2.2.2.2.1.toNat+c.2.2.2.2.2.2.2.2.2.length) (by omega) (by omega);have hup:(c.2.2.2.2.2.2.2.1.toNat+c.2.2.2.2.2.2.2.2.2.length+q-1)/q<=4096:=lZZ (by omega) (by have:4096*16<=4096*q:=ZB8 _ hq.1;omega);have hin:∀k,k<(c.2.2.2.2.2.2.2.1.toNat+c.2.2.2.2.2.2.2.2.2.length+q-1)/q-c.2.2.2.2.2.2.2.1.toNat/q->(c.2.2.2.2.2.2.2.1.toNat/q+k)*q<c.2.2.2.2.2.2.2.1.toNat+c.2.2.2.2.2.2.2.2.2.length:=fun k hk=>(oOZ (by omega)).1 (by omega);have hout:c.2.2.2.2.2.2.2.1.toNat+c.2.2.2.2.2.2.2.2.2.length<=(c.2.2.2.2.2.2.2.1.toNat/q+((c.2.2.2.2.2.2.2.1.toNat+c.2.2.2.2.2.2.2.2.2.length+q-1)/q-c.2.2.2.2.2.2.2.1.toNat/q))*q:=by
    rw[show c.2.2.2.2.2.2.2.1.toNat/q+((c.2.2.2.2.2.2.2.1.toNat+c.2.2.2.2.2.2.2.2.2.length+q-1)/q-c.2.2.2.2.2.2.2.1.toNat/q)=(c.2.2.2.2.2.2.2.1.toNat+c.2.2.2.2.2.2.2.2.2.length+q-1)/q by omega];by_cases h:(c.2.2.2.2.2.2.2.1.toNat+c.2.2.2.2.2.2.2.2.2.length+q-1)/q<(c.2.2.2.2.2.2.2.1.toNat+c.2.2.2.2.2.2.2.2.2.length+q-1)/q
    ·omega
    ·rw[oOZ (by omega)] at h;omega
   rw[lJZ ⟨by omega,by omega⟩ (by omega) (by omega) hw hoc.symm hin hout rfl,ZAA]
 ·have e6:=op56 hop e5;have h56:¬(uO 6=uO 5):=by decide
  unfold iW fO fP;rw[ZAM e5,ZAM e5,ZAM e5,e6,show(((uO 6).toNat:Nat):Int)=6 from rfl];simp only[show((6:Int)==5)=false from rfl,ZAD,ZAA,ZAR];rw[e6,show(((uO 6).toNat:Nat):Int)=6 from rfl];simp only[ZAd,ZAK];have hd:c.2.2.2.2.2.2.2.2.1.toNat/q<=c.2.2.2.2.2.2.2.2.1.toNat/16:=Nat.div_le_div_left hq.1 (by decide);have hm:Int.tmod c.2.2.2.2.2.2.2.2.1 (q:Int)=((c.2.2.2.2.2.2.2.2.1.toNat%q:Nat):Int):=by rw[<-hnc];exact(Int.ofNat_tmod _ _).symm
  have hv:Int.tdiv c.2.2.2.2.2.2.2.2.1 (q:Int)=((c.2.2.2.2.2.2.2.2.1.toNat/q:Nat):Int):=by rw[<-hnc];exact f6Z _ _
  have hq0:(!(decide ((q:Int)=0)))=true:=by rw[ZAE (by omega)];rfl
  generalize c.2.2.2.2.2.2.2.2.1.toNat/q=k at*;rw[hm,hv,w64 (by omega),kZZ x _ (by omega)];by_cases c1:c.2.2.2.2.2.2.2.2.1<x.2.2.2.2.1
  ·rw[ZAJ c1,ZAK,aeZ hq0];by_cases c2:c.2.2.2.2.2.2.2.2.1.toNat%q=0
   ·rw[c2,ZAM (fun z=>z.2.1 rfl)]
    rfl
   ·rw[show(((c.2.2.2.2.2.2.2.2.1.toNat%q:Nat):Int)==0)=false from ZAW.2 (by omega),aeZ hq0,ZAA];simp only[ZAn,ZAK,ZAA];cases c3:dG (pAt x.2.2.2.2.2.1 k)
    ·rw[ZAN ⟨c1,c2,rfl⟩];rw[show((pAt x.2.2.2.2.2.1 k).1==0&&(pAt x.2.2.2.2.2.1 k).2==0)=false from c3];simp only[ZAn,ZAK,ZAR,ZAA];rw[aeZ hq0,hv,w64 (by omega)];unfold GG;rw[ZAR,ZAA,kZZ x _ (by omega),ZAA,show((pAt x.2.2.2.2.2.1 k).1==0&&(pAt x.2.2.2.2.2.1 k).2==0)=false from c3];simp only[ZAD,ZAn,ZAK,ZAR,ZAA];rw[aeZ (by simp only[ZAF,ZAm,asZ];decide)];unfold dE dE gJ;rw[ZCb,c3]
     rfl
    ·rw[ZAM (fun z=>absurd z.2.2 (by decide))];rw[show((pAt x.2.2.2.2.2.1 k).1==0&&(pAt x.2.2.2.2.2.1 k).2==0)=true from c3]
     rfl
  ·rw[ZAE c1,ZAM (fun z=>c1 z.1)]
   rfl
abbrev vO:Type:=Int×(aY×(List eV×List eV))
def pM(c:aX)(r:Mod×Int×Rep):aY:=(c.1,(c.2.1,(r.2.1,(r.2.2.1,(r.2.2.2.1,(r.2.2.2.2.1,(r.2.2.2.2.2.1,(r.2.2.2.2.2.2.1,(r.2.2.2.2.2.2.2.1,r.2.2.2.2.2.2.2.2)))))))))
def noB(r:aY):aY:=(r.1,(r.2.1,(r.2.2.1,(r.2.2.2.1,(r.2.2.2.2.1,(r.2.2.2.2.2.1,([],r.2.2.2.2.2.2.2)))))))
def jW(o:UInt8):Bool:=(o.toNat==1)||((o.toNat==4)||((o.toNat==10)||((o.toNat==11)||(o.toNat==12))))
theorem rOZ:∀n,n<256->RA aB ((n:Nat):Int)=some ((n==1)||((n==4)||((n==10)||((n==11)||(n==12))))):=by decide+kernel
theorem uQZ(o):RA aB ((o.toNat:Nat):Int)=some (jW o):=rOZ _ o.toNat_lt
def UN:Ino:=(0,0,false,false,0,[],0,[])
def mR(s:bT)(c:aX):Ino:=(s.2.1.1[(c.2.2.2.1.1-1).toNat]?).getD UN
theorem mJZ{t}{i:Nat}{y}(h:(aI t).1.1[i]? =some y):∃x,t.1[i]? =some x/\y=dU x:=by
 simp[aI] at h
 grind
structure jT (s:bT) (c:aX) (x:Ino):Prop where
 at_:s.2.1.1[(c.2.2.2.1.1-1).toNat]? =some x
 h1:1<=c.2.2.2.1.1
 used:x.2.2.1=true
 dir:x.2.2.2.1=false
 gen:x.2.1=c.2.2.2.1.2
theorem jT.p{s}{c}{x}(h:jT s c x):mR s c=x:=by
 unfold mR;rw[h.at_];rfl
theorem gzZ{s}{c}(h:(cH (aI s.2.1) c.2.2.2.1).2.2=0):∃x,jT s c x:=by
 let⟨y,hy,_⟩:=dUZ h
 let⟨hH,hd,_⟩:=hy
 let⟨h1,h2,h3,h4⟩:=hH
 obtain⟨x,hx,rfl⟩:=mJZ h2;exact⟨x,hx,h1,h3,hd,h4⟩
theorem act4{m}{c}(h:c.2.2.1=uO 4):bI m c=nT m c:=by simp_all[bI]
theorem act5{m}{c}(h:c.2.2.1=uO 5):bI m c=iU m c:=by simp_all[bI]
theorem act6{m}{c}(h:c.2.2.1=uO 6):bI m c=mQ m c:=by simp_all[bI]
theorem res0{m}{c}(hr:aL c=true)(h:(aU m c).2.1=0):(bI m c).1=0:=by
 unfold aU at h
 grind
theorem vzZ{s}{c}(hr:aL c=true)(h4:c.2.2.1=uO 4)(h:(aU (aI s.2.1) c).2.1=0):∃x,jT s c x:=by
 have h:=res0 hr h;rw[act4 h4] at h;unfold nT at h;split at h
 ·rename_i hf;exact gzZ hf
 ·rename_i hf;exact absurd h hf
theorem tXZ{s}{c}(hr:aL c=true)(h5:c.2.2.1=uO 5)(h:(aU (aI s.2.1) c).2.1=0):(∃x,jT s c x)/\c.2.2.2.2.2.2.2.1+((c.2.2.2.2.2.2.2.2.2.length:Nat):Int)<=65536:=by
 have h:=res0 hr h;rw[act5 h5] at h;unfold iU at h;split at h
 ·rename_i hf;refine⟨gzZ hf,?_⟩;split at h
  ·cases h
  ·omega
 ·rename_i hf;exact absurd h hf
theorem uBZ{s}{c}(hr:aL c=true)(h6:c.2.2.1=uO 6)(h:(aU (aI s.2.1) c).2.1=0):(∃x,jT s c x)/\c.2.2.2.2.2.2.2.2.1<=65536:=by
 have h:=res0 hr h;rw[act6 h6] at h;unfold mQ at h;split at h
 ·rename_i hf;refine⟨gzZ hf,?_⟩;split at h
  ·cases h
  ·omega
 ·rename_i hf;exact absurd h hf
def dN(s:bT)(q:Nat)(c:aX):vO×Int:=
 if aL c=true then
  if jW c.2.2.1=true then
   if c.2.2.1=uO 4/\(aU (aI s.2.1) c).2.1=0 then((1,(noB (pM c (aU (aI s.2.1) c)),(iV (mR s c) q c,[]))),0)
   else((1,(pM c (aU (aI s.2.1) c),([],[]))),0)
  else if(look s.2.2.1 c.1 c.2.1).2=1 then((3,((look s.2.2.1 c.1 c.2.1).1,([],[]))),0)
  else if(look s.2.2.1 c.1 c.2.1).2=2 then((4,(zR,([],[]))),0)
  else if(aU (aI s.2.1) c).2.1=0/\(c.2.2.1=uO 5\/c.2.2.1=uO 6) then((2,(zR,((lK (mR s c) s.2.1.2 q c).2.2,(lK (mR s c) s.2.1.2 q c).2.1))),0)
  else((2,(zR,([],[]))),0)
 else((0,(zR,([],[]))),179)
theorem opB(o)(n:Nat)(hn:n<256):((((o.toNat:Nat):Int))==(n:Int))=decide (o=uO n):=by
 by_cases h:o=uO n
 ·rw[ZAJ h,h];have:(uO n).toNat=n:=Nat.mod_eq_of_lt hn;rw[this];exact ZAd _
 grind[ZAE,ZAW,uOt]
theorem op4(o):(((o.toNat:Nat):Int)==4)=decide (o=uO 4):=opB o 4 (by decide)
theorem op5(o):(((o.toNat:Nat):Int)==5)=decide (o=uO 5):=opB o 5 (by decide)
theorem op6(o):(((o.toNat:Nat):Int)==6)=decide (o=uO 6):=opB o 6 (by decide)
theorem ejZ{s}{q}(h:lU s q)(c:aX):mM aB s (q:Int) c=some (dN s q c):=by
 unfold mM dN Pa Pb Pc Pd Pe Pf Pg Ph Pi Pj Pk PB PC PF PJ;rw[h.right,ZAA,ayZ];simp only[ZAQ,ZAD,ZAA];cases hr:aL c
 ·rfl
 simp only[ZAQ,ZAD,ZCt]
 let⟨ho,hn,hb⟩:=a6Z hr
 rw[f2Z h.t,ZAA,show(((aI s.2.1).1.1,(aI s.2.1).1.2),(aI s.2.1).2)=aI s.2.1 from rfl,p5Z (bdZ h.t),ZAA,uQZ,ZAA];generalize hR:aU (aI s.2.1) c=R at*;cases ha:jW c.2.2.1
 ·simp only[ZAD];rw[ZAM (by decide),qtZ s.2.2.1 (bDZ h.c),ZAA,jsZ];by_cases l1:(look s.2.2.1 c.1 c.2.1).2=1
  ·rw[ZAN l1,l1];rfl
  rw[ZAM l1,(ZAW.2 l1),ZAD];by_cases l2:(look s.2.2.1 c.1 c.2.1).2=2
  ·rw[ZAN l2,l2];rfl
  rw[ZAM l2,(ZAW.2 l2),ZAD];rw[show(doT R c).2.2.2.1=R.2.1 from rfl];by_cases e0:R.2.1=0
  ·rw[e0];simp only[ZAd,ZAK];rw[op5,op6];have file:(c.2.2.1=uO 5\/c.2.2.1=uO 6)->∃x,jT s c x/\(c.2.2.1=uO 5->c.2.2.2.2.2.2.2.1+((c.2.2.2.2.2.2.2.2.2.length:Nat):Int)<=65536):=fun hop=>by
    rcases hop with h5|h6
    ·obtain⟨⟨x,hx⟩,hl⟩:=tXZ hr h5 (by rw[hR];exact e0);exact⟨x,hx,fun _=>hl⟩
    ·obtain⟨⟨x,hx⟩,hl⟩:=uBZ hr h6 (by rw[hR];exact e0);exact⟨x,hx,fun h5=>by rw[h6] at h5;exact absurd h5 (by decide)⟩
   by_cases hop:c.2.2.1=uO 5\/c.2.2.1=uO 6
   ·obtain⟨x,hx,hl⟩:=file hop;rw[ZAN ⟨trivial,hop⟩,hx.p];have step:∀{α} (S:α),(bif decide (c.2.2.1=uO 5) then some (true,S) else some (decide (c.2.2.1=uO 6),S))=some (true,S):=fun S=>by
     rcases hop with e|e<;>rw[e]<;>rfl
    rw[step,ZAA];simp only[ZAK,ZAR,ZAA];have hlt:=(ZAB.1 hx.at_).1;have hlen:=h.t.r.len;have h1:=hx.h1;rw[w64 (by omega),show c.2.2.2.1.1-1=(((c.2.2.2.1.1-1).toNat:Nat):Int) by omega,acZ hlt,ZAA,hx.at_,ZAA];rw[pEZ h.q (h.t.r.ino _ _ hx.at_|>.file hx.used hx.dir).2.2.1 h.t.r.str hop ho.1 hl hn hb ho.2,ZAA]
    rfl
   ·rw[ZAM (fun z=>hop z.2)];have step:∀{α} (S:α),(bif decide (c.2.2.1=uO 5) then some (true,S) else some (decide (c.2.2.1=uO 6),S))=some (false,S):=fun S=>by
     rw[ZAE (fun e=>hop (.inl e)),ZAE (fun e=>hop (.inr e))];rfl
    rw[step,ZAA]
    rfl
  ·rw[ZAM (fun z=>e0 z.1),(ZAW.2 e0)]
   rfl
 ·simp only[ZAK,ZCt];rw[op4];by_cases h4:c.2.2.1=uO 4
  ·rw[ZAJ h4,ZAK,ZAA,show(doT R c).2.2.2.1=R.2.1 from rfl];by_cases e0:R.2.1=0
   ·rw[ZAN ⟨h4,e0⟩,e0];obtain⟨x,hx⟩:=vzZ hr h4 (by rw[hR];exact e0);have hlt:=(ZAB.1 hx.at_).1;have hlen:=h.t.r.len;have h1:=hx.h1;have hf:=(h.t.r.ino _ _ hx.at_).file hx.used hx.dir;simp only[ZAd,ZAK,ZAR,ZAA];rw[w64 (by omega),show c.2.2.2.1.1-1=(((c.2.2.2.1.1-1).toNat:Nat):Int) by omega,acZ hlt,ZAA,hx.at_,ZAA];rw[s3Z h.q hf.1 (h.l _ _ hx.at_ hx.used hx.dir) ho hn,ZAA,hx.p];simp only[pM,noB,e0]
    rfl
   ·rw[ZAM (fun z=>e0 z.2),(ZAW.2 e0)]
    rfl
  ·rw[ZAE h4,ZAD,ZAM (fun z=>h4 z.1)]
   rfl
structure eO (l l':List Ino):Prop where
 len:l.length<=l'.length
 at_:∀(i:Nat) y,l'[i]? =some y->y.2.2.1=true->(∃x,l[i]? =some x/\x.2.2.1=true/\x.2.1=y.2.1/\x.2.2.2.1=y.2.2.2.1/\x.2.2.2.2.1=y.2.2.2.2.1)\/(y.2.2.2.2.1=0/\∀x,l[i]? =some x->x.2.1≠y.2.1)
theorem eO.refl(l):eO l l:=⟨ZAL _,fun i y h hu=>.inl ⟨y,h,hu,rfl,rfl,rfl⟩⟩
theorem eO.mod{l l'}(h:eO l l')(i)(f)(hf:∀n,(f n).2.2.1=true->n.2.2.1=true/\(f n).2.1=n.2.1/\(f n).2.2.2.1=n.2.2.2.1/\(f n).2.2.2.2.1=n.2.2.2.2.1):eO l (vX l' i f):=by
 refine⟨by rw[aXZ];exact h.len,fun j y hy hu=> ?_⟩;rw[bnZ] at hy;split at hy
 ·cases hn:l'[j]? with
  |none=>rw[hn] at hy;cases hy
  |some n=>
   rw[hn] at hy;simp[ZAO] at hy;subst hy
   let⟨q1,q2,q3,q4⟩:=hf n hu
   rw[q2,q3,q4];exact h.at_ j n hn q1
 ·exact h.at_ j y hy hu
theorem eO.put{l l'}(h:eO l l')(a)(s)(id):eO l (iT l' a s id):=h.mod _ _ fun _ h=>⟨h,rfl,rfl,rfl⟩
theorem eO.take{l l'}(h:eO l l')(a)(s):eO l (bO l' a s):=h.mod _ _ fun _ h=>⟨h,rfl,rfl,rfl⟩
theorem eO.drop{l l'}(h:eO l l')(a):eO l (cR l' a):=h.mod _ _ fun _ h=>by cases h
theorem eO.mv{l l'}(h:eO l l')(a)(old)(b)(name)(id):eO l (mvL l' a old b name id):=((h.take a old).put b name id).mod _ _ fun _ h=>⟨h,rfl,rfl,rfl⟩
theorem eO.alloc{l l'}{dir}{parent g}{i}(ha:nM l dir parent=some (l',i,g)):eO l l':=by
 unfold nM at ha;cases hf:nL l with
 |none=>
  rw[hf] at ha;simp only at ha;split at ha
  ·obtain⟨rfl,rfl,rfl⟩:=ha;refine⟨by simp,fun j y hy hu=> ?_⟩;by_cases hj:j<l.length
   ·rw[ZAT hj] at hy;exact .inl ⟨y,hy,hu,rfl,rfl,rfl⟩
   ·rw[ZAV (by omega)] at hy;cases hq:j-l.length with
    |succ q=>rw[hq] at hy;simp at hy
    |zero=>
     rw[hq] at hy;simp[ZAO] at hy;subst hy;exact .inr ⟨rfl,fun x hx=>by rw[ZAw (by omega)] at hx;cases hx⟩
  simp_all
 |some k=>
  rw[hf] at ha;simp at ha
  let⟨hk,hused,_⟩:=ZA2.1 hf
  have hg:=ZAC hk;rw[hg] at ha;simp only at ha;split at ha
  ·simp[ZA3] at ha;obtain⟨rfl,rfl,rfl⟩:=ha;refine⟨by rw[ZAv];exact ZAL _,fun j y hy hu=> ?_⟩;by_cases hj:j=k
   ·subst hj;rw[ZAU hk] at hy;simp at hy;subst hy;exact .inr ⟨rfl,fun x hx=>by rw[hg] at hx;obtain rfl:=ZAh hx;simp;omega⟩
   ·rw[ZAa (fun e=>hj e.symm)] at hy;exact .inl ⟨y,hy,hu,rfl,rfl,rfl⟩
  simp_all
theorem rgZ(t)(d)(s)(is):eO t.1 (fW t d s is).1.1/\(fW t d s is).1.2=t.2:=by
 unfold fW
 (repeat' split)<;>first|exact⟨eO.refl _,rfl⟩|(rename_i h;exact⟨(eO.alloc h).put _ _ _,rfl⟩)
theorem lIZ(t)(d)(s)(is):eO t.1 (dV t d s is).1.1/\(dV t d s is).1.2=t.2:=by
 unfold dV
 (repeat' split)<;>first|exact⟨eO.refl _,rfl⟩|exact⟨((eO.refl _).take _ _).drop _,rfl⟩
theorem lGZ(t)(a)(old)(b)(name):eO t.1 (dW t a old b name).1.1/\(dW t a old b name).1.2=t.2:=by
 unfold dW
 (repeat' split)<;>first|exact⟨eO.refl _,rfl⟩|exact⟨(((eO.refl _).take _ _).drop _).mv _ _ _ _ _,rfl⟩|exact⟨(eO.refl _).mv _ _ _ _ _,rfl⟩
theorem isZ(l)(h):0<=eD l h/\eD l h<=1000:=by
 unfold eD;(repeat' split)<;>decide
theorem mpZ(d)(n):0<=kD d n/\kD d n<=1000:=by
 grind[kD]
theorem mEZ(t)(d)(s)(is):0<=(fW t d s is).2.2/\(fW t d s is).2.2<=1000:=by
 unfold fW;(repeat' split)<;>first|decide|(dsimp;decide)|exact isZ _ _
theorem hGZ(t)(d)(s)(is):0<=(dV t d s is).2.2/\(dV t d s is).2.2<=1000:=by
 unfold dV;(repeat' split)<;>first|decide|(dsimp;decide)|exact isZ _ _|exact mpZ _ _
theorem obZ(t)(a)(old)(b)(name):0<=(dW t a old b name).2.2/\(dW t a old b name).2.2<=1000:=by
 unfold dW;(repeat' split)<;>first|decide|(dsimp;decide)|exact isZ _ _|exact mpZ _ _
theorem nhZ(m)(h):0<=(cH m h).2.2/\(cH m h).2.2<=1000:=by
 unfold cH;split
 ·decide
 ·rename_i x _;cases x.2.2.2.1
  ·split<;>(dsimp;decide)
  simp_all
theorem kXZ{t}(h:aM t)(d)(s)(is)(h0:(fW t d s is).2.2=0):jE (fW t d s is).2.1=true:=by
 rcases oeZ h d s is with⟨e,he,hm⟩|⟨T,f,n,l',i,hm,mo⟩
 ·simp_all[jjZ,ZA3]
 ·rw[(jjZ h d s is).1] at hm;simp[ZA3] at hm;have hT:=mo.tree h;have hn:=mo.new h;have o:=hT.r.ino _ _ hn;have hl:=(ZAB.1 hn).1;have hlen:=hT.r.len;have hf:=mo.f;have g:=o.gen;unfold jE;rw[hm.2.2.2.1];refine ZAJ ⟨by omega,by omega,g.1,g.2⟩
def dO(x:Ino)(c:aX):Int:=if c.2.2.1=uO 5 then max x.2.2.2.2.1 (if c.2.2.2.2.2.2.2.2.2.length=0 then 0 else c.2.2.2.2.2.2.2.1+((c.2.2.2.2.2.2.2.2.2.length:Nat):Int)) else c.2.2.2.2.2.2.2.2.1
theorem f3Z{s}{c}{x}(h:aM s.2.1)(hr:aL c=true)(hop:c.2.2.1=uO 5\/c.2.2.1=uO 6)(h0:(aU (aI s.2.1) c).2.1=0)(hx:jT s c x):
 (aU (aI s.2.1) c).1.1=((aI s.2.1).1.1.set (c.2.2.2.1.1-1).toNat (wS (dU x) (dO x c)),s.2.1.2)/\(aU (aI s.2.1) c).2.2=(c.2.2.2.1,false,dO x c,[],[],false,0)/\0<=dO x c/\dO x c<=65536:=by
 let⟨ho,hn,hb⟩:=a6Z hr
 have ha:=res0 hr h0;have hb0:(aI s.2.1).1.1[(c.2.2.2.1.1-1).toNat]? =some (dU x):=by
  unfold aI;simp only[ZAY,hx.at_];rfl
 have hd0:(aI s.2.1).2[(c.2.2.2.1.1-1).toNat]? =some (iJ x):=by
  unfold aI;simp only[ZAY,hx.at_];rfl
 have hf:cH (aI s.2.1) c.2.2.2.1=(c.2.2.2.1.1,iJ x,0):=by
  unfold cH;rw[cCZ.2 ((⟨hx.h1,hb0,hx.used,hx.gen⟩))];simp only;rw[show(dU x).2.2.2.1=false from hx.dir,hd0];rfl
 have aS:∀b:Byt,qN (aI s.2.1).1.1 c.2.2.2.1 ((b.length:Nat):Int)=(aI s.2.1).1.1.set (c.2.2.2.1.1-1).toNat (wS (dU x) ((b.length:Nat):Int)):=fun b=>by
  unfold qN;rw[hb0];rfl
 have hsz:=edZ h hx.at_;have hz:((iJ x).length:Int)=x.2.2.2.2.1:=by unfold iJ;rw[ZCD];omega
 have hres:aU (aI s.2.1) c=(((bI (aI s.2.1) c).2.1.1,nU (bI (aI s.2.1) c).2.1.1.1 (bI (aI s.2.1) c).2.1.2),0,(bI (aI s.2.1) c).2.2):=by
  unfold aU;rw[ZAN hr,ZAN ha]
 rw[hres];by_cases e5:c.2.2.1=uO 5
 ·rw[act5 e5] at ha⊢;unfold iU at ha⊢;rw[hf,ZAN rfl] at ha⊢;split at ha
  ·cases ha
  ·rename_i hle;rw[ZAM hle];have hN:((dP (iJ x) c.2.2.2.2.2.2.2.1 c.2.2.2.2.2.2.2.2.2:Nat):Int)=dO x c:=by
    unfold dP dO;rw[ZAN e5];split<;>omega
   simp only;rw[hN];refine⟨?_,rfl,?_⟩
   ·unfold nX;rw[aS,d8Z,hN];rfl
   ·unfold dO;rw[ZAN e5];split<;>omega
 ·have e6:=op56 hop e5;rw[act6 e6] at ha⊢;unfold mQ at ha⊢;rw[hf,ZAN rfl] at ha⊢;split at ha
  ·cases ha
  ·rename_i hle;rw[ZAM hle];have hN:dO x c=c.2.2.2.2.2.2.2.2.1:=by unfold dO;rw[ZAM e5]
   refine⟨?_,by rw[hN],by omega⟩;simp only;unfold nX;rw[aS,brZ,hN,ZBn hn.1];rfl
theorem ngZ{m}(c)(hop:(aU m c).2.1=0->¬(c.2.2.1=uO 5\/c.2.2.1=uO 6)):eO m.1.1 (aU m c).1.1.1/\(aU m c).1.1.2=m.1.2:=by
 unfold aU at hop⊢;by_cases hr:aL c=true
 ·rw[ZAN hr] at hop⊢;by_cases h0:(bI m c).1=0
  ·rw[ZAN h0] at hop⊢;have hop:=hop rfl;have hself:(bI m c).2.1=m->eO m.1.1 (bI m c).2.1.1.1/\(bI m c).2.1.1.2=m.1.2:=fun e=>by rw[e];exact⟨eO.refl _,rfl⟩
   have hmk:bI m c=iI m c->eO m.1.1 (bI m c).2.1.1.1/\(bI m c).2.1.1.2=m.1.2:=fun e=>by
    rw[e];unfold iI;split
    ·exact rgZ _ _ _ _
    ·exact⟨eO.refl _,rfl⟩
   have hrm:bI m c=dH m c->eO m.1.1 (bI m c).2.1.1.1/\(bI m c).2.1.1.2=m.1.2:=fun e=>by
    rw[e];unfold dH;split
    ·exact lIZ _ _ _ _
    ·exact⟨eO.refl _,rfl⟩
   rcases jgZ hr with e|e|e|e|e|e|e|e|e|e|e|e
   ·refine hself ?_;unfold bI rK;rw[e];simp;(repeat' split)<;>rfl
   ·exact hmk (by unfold bI;rw[e];rfl)
   ·exact hmk (by unfold bI;rw[e];rfl)
   ·refine hself ?_;rw[act4 e];unfold nT;split<;>rfl
   ·exact absurd (.inl e) hop
   ·exact absurd (.inr e) hop
   ·exact hrm (by unfold bI;rw[e];rfl)
   ·exact hrm (by unfold bI;rw[e];rfl)
   ·rw[show bI m c=eQ m c by unfold bI;rw[e];rfl];unfold eQ;split
    ·exact lGZ _ _ _ _ _
    ·exact⟨eO.refl _,rfl⟩
   ·refine hself ?_;rw[show bI m c=EQ m c by unfold bI;rw[e];rfl];rfl
   ·refine hself ?_;rw[show bI m c=yN m c by unfold bI;rw[e];rfl];unfold yN;split<;>rfl
   ·refine hself ?_;rw[show bI m c=HU m by unfold bI;rw[e];rfl];rfl
  ·rw[ZAM h0];exact⟨eO.refl _,rfl⟩
 simp_all[eO.refl]
section
variable {α : Type} {key : α → Int}
theorem uniq{l:List α}(hs:(l.map key).Pairwise (·<·)){i j:Nat}{a b}(hi:l[i]? =some a)(hj:l[j]? =some b)(h:key a=key b):i=j:=by
 grind[ZAB,Nat.lt_trichotomy,ZBa,ZB9]
theorem sUZ{l:List α}(hs:(l.map key).Pairwise (·<·)){x}{a}:l.find? (fun a=>key a==x)=some a↔a∈l/\key a=x:=by
 constructor
 ·grind
 ·cases hf:l.find? (fun a=>key a==x)<;>grind[ZB1,ZCO,ZCr,ZAP,uniq]
theorem hCZ{l:List α}(hs:(l.map key).Pairwise (·<·)){x}{a}(ha:key a=x)(hno:l.find? (fun a=>key a==x)=none):
 ((l.take (pre (fun a=>decide (key a<x)) l)++[a]++l.drop (pre (fun a=>decide (key a<x)) l)).map key).Pairwise (·<·):=by
 have hlt:∀b∈l.take (pre (fun a=>decide (key a<x)) l),key b<x:=fun b hb=>of_decide_eq_true (rQZ _ l b hb);have hgt:∀b∈l.drop (pre (fun a=>decide (key a<x)) l),x<key b:=fun b hb=>by
  obtain⟨i,hi⟩:=ZAP hb;rw[ZA4] at hi;have h1:=fun hc=>by
   have:=(iWZ hs x _ b hi).1 hc;omega
  have h2:=by
   have:=ZB1.1 hno b (ZAG hi);simpa using this
  omega
 grind
theorem lkZ{l:List α}{n}{a b}:b∈l.take n++[a]++l.drop n↔b=a\/b∈l:=by
 have:b∈l↔b∈l.take n\/b∈l.drop n:=by rw[<-List.mem_append,ZBA]
 grind
theorem uMZ{l:List α}{i}{a b}(h:l[i]? =some a)(hk:key b=key a):(l.set i b).map key=l.map key:=by
 simp_all[d4Z]
theorem u0Z{l:List α}(hs:(l.map key).Pairwise (·<·)){i}{a b c}(h:l[i]? =some a):c∈l.set i b↔c=b\/(c∈l/\key c≠key a):=by
 constructor
 ·grind[ZAP,ZAU,ZAa,ZAG,uniq]
 ·rintro(rfl|⟨h1,h2⟩)
  ·grind[ZAG,ZAU]
  ·let⟨j,hj⟩:=ZAP h1
   by_cases e:j=i
   ·simp_all
   ·exact ZAG (by rw[ZAa (ZBf e)];omega)
end
theorem iwZ{ks}(hs:(ks.map (·.1)).Pairwise (·<·)){x}{k}:kOf ks x=some k↔k∈ks/\k.1=x:=sUZ hs
theorem qkZ{c}(h:fB c=true){cl x}:(look c cl x).2=0↔∀k,kOf c.2 cl=some k->k.2.1<x/\rOf k.2.2 x=none:=by
 unfold look
 grind
theorem sjZ(w)(k)(r):(sS w k r).1=k.1:=by
 grind[sS]
theorem oZZ{w}(_hw:1<=w){k}{r}(hk:kX w k=true)(hr:bC r=true)(h1:r.1=k.1)(h2:k.2.1<r.2.1)(h3:rOf k.2.2 r.2.1=none):kX w (sS w k r)=true:=by
 let⟨a1,a2,a3,a4,a5⟩:=cfZ.1 hk
 have hs:=hCZ a4 rfl h3;have hle:eS k.2.2 r.2.1<=k.2.2.length:=fGZ _ _;have hm:∀b,b∈k.2.2.take (eS k.2.2 r.2.1)++[r]++k.2.2.drop (eS k.2.2 r.2.1)->b.1=k.1/\k.2.1<b.2.1/\bC b=true:=fun b hb=>by
  rcases lkZ.1 hb with rfl|hb
  ·exact⟨h1,h2,hr⟩
  ·exact a5 b hb
 have hlen:(k.2.2.take (eS k.2.2 r.2.1)++[r]++k.2.2.drop (eS k.2.2 r.2.1)).length=k.2.2.length+1:=by simp;omega
 unfold sS;simp only;unfold eS at hm hlen⊢;generalize k.2.2.take (pre (fun k=>decide (k.2.1<r.2.1)) k.2.2)++[r]++k.2.2.drop (pre (fun k=>decide (k.2.1<r.2.1)) k.2.2)=L at hs hm hlen⊢;by_cases hw:((L.length:Nat):Int)>w
 ·rw[ZAN hw];cases L with
  |nil=>simp at hlen
  |cons x L=>
   simp only[ZCp,ZA6] at hs;have hx:=hm x (by simp);have hxr:=bFZ hx.2.2;simp only[ZAR,List.drop_one,List.tail_cons];refine cfZ.2 ⟨by simp only;omega,by simp only;omega,by simp only;simp only[ZBl] at hlen;omega,hs.2,fun b hb=> ?_⟩;have:=hm b (by simp[hb]);exact⟨this.1,hs.1 _ (ZBM.2 ⟨b,hb,rfl⟩),this.2.2⟩
 ·rw[ZAM hw];exact cfZ.2 ⟨a1,a2,by simp only;omega,hs,hm⟩
theorem oFZ{w}{ks}(hw:1<=w)(hs:(ks.map (·.1)).Pairwise (·<·))(hb:∀k∈ks,0<=k.1/\k.1<16/\kX w k=true){x}(hx:0<=x/\x<16):
 ((fU ks x).map (·.1)).Pairwise (·<·)/\(∀k∈fU ks x,0<=k.1/\k.1<16/\kX w k=true)/\(fU ks x)[dQ ks x]? =some (eU ks x)/\(eU ks x).1=x/\∀k,k.1≠x->(k∈fU ks x↔k∈ks):=by
 unfold fU eU;cases hk:kOf ks x with
 |some k=>
  simp[Option.isSome_some,ZCt,ZCk]
  let⟨h1,h2⟩:=pHZ hs hk<;>grind
 |none=>
  simp only[Option.isSome_none,ZA7,ZCR,Option.getD_none];refine⟨hCZ hs rfl hk,fun k hk'=> ?_,?_,by first|trivial|rfl,fun k hne=> ?_⟩
  ·rcases lkZ.1 hk' with rfl|h
   ·exact⟨hx.1,hx.2,cfZ.2 ⟨by simp,by simp,by simp;omega,by simp,by simp⟩⟩
   ·exact hb k h
  ·have hle:dQ ks x<=ks.length:=fGZ _ _;have e1:(ks.take (dQ ks x)).length=dQ ks x:=by rw[ZAS];omega
   rw[ZAp,ZAV (by omega),e1,ZBv]
   rfl
  grind[lkZ]
theorem rWZ{w}{ks}{r}(h:fB (w,ks)=true)(hr:bC r=true)(hl:(look (w,ks) r.1 r.2.1).2=0):
 fB (w,gI w ks r)=true/\∀x,kOf (gI w ks r) x=if x=r.1 then some (sS w (eU ks r.1) r) else kOf ks x:=by
 let⟨g1,g2,g3⟩:=b9Z.1 h
 have hwho:=(bFZ hr).1
 let⟨w1,w2,w3,w4,w5⟩:=oFZ g1.1 g2 g3 hwho
 have hz:=(qkZ h).1 hl;have hkept:=(w2 _ (ZAG w3)).2.2;have hgone:(eU ks r.1).2.1<r.2.1/\rOf (eU ks r.1).2.2 r.2.1=none:=by
  unfold eU;cases hk:kOf ks r.1 with
  |none=>
   simp;have:=(bFZ hr).2.1;exact⟨by omega,rfl⟩
  |some k=>exact hz k hk
 have hnew:=oZZ g1.1 hkept hr w4.symm hgone.1 hgone.2;have hfst:(sS w (eU ks r.1) r).1=(eU ks r.1).1:=sjZ _ _ _;have hs:((gI w ks r).map (·.1)).Pairwise (·<·):=by
  unfold gI;rw[uMZ w3 hfst];exact w1
 have hmem:∀k,k∈gI w ks r↔k=sS w (eU ks r.1) r\/(k∈fU ks r.1/\k.1≠(eU ks r.1).1):=fun k=>u0Z w1 w3;refine⟨b9Z.2 ⟨g1,hs,fun k hk=> ?_⟩,fun x=> ?_⟩
 ·rcases(hmem k).1 hk with rfl|⟨h1,_⟩
  ·rw[hfst,w4];exact⟨hwho.1,hwho.2,hnew⟩
  ·exact w2 k h1
 ·by_cases hx:x=r.1
  ·rw[ZAN hx];exact(iwZ hs).2 ⟨(hmem _).2 (.inl rfl),by rw[hfst,w4,hx]⟩
  ·rw[ZAM hx];apply Option.ext;intro k;rw[iwZ hs,iwZ g2,hmem];constructor
   ·rintro⟨rfl|⟨h1,_⟩,h2⟩
    ·rw[hfst,w4] at h2;exact absurd h2.symm hx
    ·exact⟨(w5 k (by omega)).1 h1,h2⟩
   ·rintro⟨h1,h2⟩;exact⟨.inr ⟨(w5 k (by omega)).2 h1,by rw[w4];omega⟩,h2⟩
end Go.Ab.D
