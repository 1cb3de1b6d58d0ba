/- What the functions compute; the plain law. -/
import Derived.Test.YtjngohmkdmdecaaGreatStateSizesQ1
import Derived.KernelRfl
set_option linter.all false
open Prod renaming A->PA,B->PB,C->PC,D->PD,E->PE,F->PF,H->PH,I->PI,J->PJ,O->PO,P->PP,Q->PQ,V->PV,W->PW,X->PX,Y->PY,ZA->PZA,ZC->PZC,ZX->PZX,a->Pa,b->Pb,c->Pc,d->Pd,e->Pe,f->Pf,g->Pg,h->Ph,i->Pi,j->Pj,k->Pk,l->Pl,m->Pm,n->Pn,o->Po,p->Pp,q->Pq,r->Pr,s->Ps,t->Pt,u->Pu,v->Pv,w->Pw,x->Px,y->Py,z->Pz,za->Pza,zb->Pzb,zc->Pzc,zd->Pzd,ze->Pze,zf->Pzf,zg->Pzg,zh->Pzh,zi->Pzi,zj->Pzj,zk->Pzk,zl->Pzl,zm->Pzm,zn->Pzn,zo->Pzo,zp->Pzp,zq->Pzq,zr->Pzr,zs->Pzs,zt->Pzt,zu->Pzu,zv->Pzv,zw->Pzw,zx->Pzx
namespace Go.Ab
theorem ZAP:type_of% @List.getElem?_cons_zero:=@List.getElem?_cons_zero
theorem ZBW:type_of% @Int.toNat_natCast:=@Int.toNat_natCast
theorem ZBu:type_of% @List.find?_eq_none:=@List.find?_eq_none
theorem ZB2:type_of% @Nat.mul_le_mul_left:=@Nat.mul_le_mul_left
theorem ZCF:type_of% @List.mem_of_find?_eq_some:=@List.mem_of_find?_eq_some
theorem ZCI:type_of% @List.getElem?_mapIdx:=@List.getElem?_mapIdx
theorem ZCJ:type_of% @Nat.div_le_div_right:=@Nat.div_le_div_right
theorem ZCM:type_of% @List.map_append:=@List.map_append
theorem ZCT:type_of% @Bool.and_assoc:=@Bool.and_assoc
theorem ZCU:type_of% @Nat.mul_le_mul:=@Nat.mul_le_mul
theorem ZCq:type_of% @List.find?_some:=@List.find?_some
end Go.Ab
namespace Go.Ab.D
open Go Go.Ab
theorem f4Z(l:List Ent)(hl:l.length<=100000):xG bB l l=some true:=by
 unfold xG rX;have e:iter bB (fun tt=>oP bB l l tt) 0=some (.inl ()):=by
  refine aoZ (fun k=>(k:Int)) l.length (by omega) (fun k hk=> ?_) ?_
  ·unfold oP;obtain⟨x,hg⟩:∃x,l[k]? =some x:=⟨_,ZAC hk⟩;rw[aDZ hk,adZ hk,ZAA,hg,ZAA,ZAA,hg,w64 (by omega)];simp
  ·unfold oP;rw[aEZ (ZAz _),ZAD]
 simp_all
def vX(x n:Int):Int:=if Int.tmod x n<0 then wI (Int.tmod x n+n) else Int.tmod x n
theorem jkZ(x n)(hn:1<=n):gY bB x n=some (vX x n):=by
 unfold gY vX;rw[show decide (n<1)=false from by simp;omega,acZ (by simp;omega)]
 grind
theorem iBZ(x){n}(hn:1<=n)(hn2:n<=1000000):0<=vX x n/\vX x n<n:=by
 unfold vX;have h1:=Int.tmod_lt_of_pos x (show 0<n by omega);have h2:=by
  have:=Int.tmod_lt_of_pos (-x) (show 0<n by omega);rw[Int.neg_tmod] at this;omega
 grind[w64]
theorem kkZ{dir}{x}(h:lB dir x=0):x.2.2.2.2.2.2.2=[]/\x.2.2.2.1=dir:=by
 grind[lB]
section
variable {t : dH} {a b d : Int × Int} {na nb n x z : Ino} {old name s : List UInt8} {id other : Int}
def vV(t:dH)(d:Int×Int)(s:List UInt8)(h:Int×Int):Prop:=∃n x,IsD t.1 d n/\(s,h.1)∈n.2.2.2.2.2.2.2/\t.1[(h.1-1).toNat]? =some x/\x.2.1=h.2/\x.2.2.1=true
structure zB (t:dH) (d:Int×Int) (s:List UInt8) (is:Bool) (T:dH) (f:Int×Int) (n:Ino) (l':List Ino) (i:Nat):Prop where
 dir:IsD t.1 d n
 nm:cS s=true
 no:fC n.2.2.2.2.2.2.2 s=false
 few:n.2.2.2.2.2.2.2.length<100
 alc:Alc t.1 is d.1 l' i f.2
 T:T=(jT l' d.1 s ((i:Int)+1),t.2)
 f:f.1=(i:Int)+1
theorem mIZ{l'}{i}{g}{is}(hn:IsD t.1 d n)(hA:Alc t.1 is d.1 l' i g)(id):IJ l' d.1 n s id=jT l' d.1 s id:=by
 have hne:(d.1-1).toNat≠i:=fun hc=>by
  have:=hA.was n (by rw[<-hc];exact hn.1.2.1);rw[hn.1.2.2.1] at this;grind
 unfold IJ jT;rw[bGZ _ (by rw[hA.old _ hne];exact hn.1.2.1)]
theorem o1Z(h:bL t)(d)(s)(is):(∃e,e≠0/\dR bB t d s is=some (t.1,(t.2,(0,(0,e)))))\/∃T f n l' i,dR bB t d s is=some (T.1,(T.2,(f.1,(f.2,0))))/\zB t d s is T f n l' i:=by
 rcases bwZ t.1 d with⟨n,hn⟩|⟨hb,hb'⟩
 ·cases hs:cS s with
  |false=>exact .inl ⟨176,by decide,kfZ h is hn hs⟩
  |true=>
   cases hh:fC n.2.2.2.2.2.2.2 s with
   |true=>exact .inl ⟨172,by decide,hxZ h is hn hs hh⟩
   |false=>
    by_cases hl:n.2.2.2.2.2.2.2.length<100
    ·rcases hOZ h is hn hs hh hl with⟨_,hm⟩|⟨l',i,g,hA,hm⟩
     ·exact .inl ⟨5,by decide,hm⟩
     ·refine .inr ⟨(jT l' d.1 s ((i:Int)+1),t.2),((i:Int)+1,g),n,l',i,?_,⟨hn,hs,hh,hl,hA,rfl,rfl⟩⟩;rw[hm,mIZ hn hA]
    ·exact .inl ⟨5,by decide,k4Z h is hn hs hh (by omega)⟩
 ·exact .inl ⟨_,hb,mvZ h s is hb⟩
theorem zB.tree{is}{T}{f}{l'}{i}(h:bL t)(m:zB t d s is T f n l' i):bL T:=by
 rw[m.T];exact mOZ h m.dir m.nm m.no m.few m.alc
theorem zB.new{is}{T}{f}{l'}{i}(h:bL t)(m:zB t d s is T f n l' i):T.1[(f.1-1).toNat]? =some (f.1,f.2,true,is,0,[],d.1,[]):=by
 rw[m.T,m.f];rw[show((i:Int)+1-1).toNat=i from by omega,vWZ h m.dir m.alc,ZAK,ZAM rfl];intro hc;have:=m.alc.was n (by rw[hc];exact m.dir.1.2.1);rw[m.dir.1.2.2.1] at this;grind
structure VC (t:dH) (d:Int×Int) (s:List UInt8) (is:Bool) (T:dH) (gone:List dC) (n:Ino) (id:Int) (x:Ino):Prop where
 dir:IsD t.1 d n
 e:(s,id)∈n.2.2.2.2.2.2.2
 at_:t.1[(id-1).toNat]? =some x
 mis:lB is x=0
 T:T=(dV (cR t.1 d.1 s) id,t.2)
 gone:gone=rZ x.2.2.2.2.2.1
theorem wiZ(h:bL t)(ha:IsD t.1 a na)(hb:IsD t.1 b nb)(hea:(old,id)∈na.2.2.2.2.2.2.2)(hx:t.1[(id-1).toNat]? =some x)(hanc:x.2.2.2.1=true->¬Anc t.1 id b.1):¬Anc t.1 id b.1:=by
 cases hd:x.2.2.2.1 with
 |true=>simp_all
 |false=>
  intro hc
  let⟨_,h2,_,y,hy,hu,_⟩:=h.ent ha hea
  rw[hx] at hy;cases hy;have hxe:=((h.r.ino _ x hx).file hu hd).2.1;have:=trZ h hx h2 hxe hc hb.1.1;have hn:=hb.1.2.1;rw[this,hx] at hn;cases hn;rw[hb.2] at hd;cases hd
theorem tOZ(h:bL t)(ha:IsD t.1 a na)(hb:IsD t.1 b nb)(hs:cS name=true)(hea:(old,id)∈na.2.2.2.2.2.2.2)(hx:t.1[(id-1).toNat]? =some x)(hanc:¬Anc t.1 id b.1)(heb:(name,other)∈nb.2.2.2.2.2.2.2)(hne:other≠id)(hz:t.1[(other-1).toNat]? =some z)(hze:z.2.2.2.2.2.2.2=[]):
 ∃na' nb',zA (dV (cR t.1 b.1 name) other,t.2) a old b name id na' nb' x/\nb'=wE nb (eT nb.2.2.2.2.2.2.2 name):=by
 let⟨_,i2,i3,y,hy,hu,hp⟩:=h.ent ha hea
 rw[hx] at hy;cases hy
 let⟨_,o2,o3,w,hw,hzu,hzp⟩:=h.ent hb heb
 rw[hz] at hw;cases hw;have hk:=tbZ heb hb hz hze;have hka:(other-1).toNat≠(a.1-1).toNat:=fun hc=>by
  have:=ha.1.2.1;rw[<-hc,hz] at this;cases this;rw[hze] at hea;cases hea
 have hat:=fun j=>vYZ (s:=name) hk hb hz j;have hb1:=hb.1.1;have hfb:=h.few hb.1;have hdl:=mUZ (h.srt hb.1) heb;have hkb:(id-1).toNat≠(b.1-1).toNat:=fun hc=>by
  have:id=b.1:=by omega
  exact hanc (by rw[this];exact .refl)
 have hno:fC (eT nb.2.2.2.2.2.2.2 name) name=false:=by
  cases hh:fC (eT nb.2.2.2.2.2.2.2 name) name with
  |false=>rfl
  |true=>let⟨i,hi⟩:=aBZ.1 hh;exact absurd rfl (bBZ.1 hi).2
 have hdb:IsD (dV (cR t.1 b.1 name) other) b (wE nb (eT nb.2.2.2.2.2.2.2 name)):=⟨⟨hb1,by rw[hat,ZAK (by omega),ZAM rfl],hb.1.2.2.1,hb.1.2.2.2⟩,hb.2⟩;have hda:∃na',IsD (dV (cR t.1 b.1 name) other) a na'/\(old,id)∈na'.2.2.2.2.2.2.2:=by
  by_cases hab:(a.1-1).toNat=(b.1-1).toNat
  ·have hnn:na=nb:=by
    have:=ha.1.2.1;rw[hab,hb.1.2.1] at this;injection this with this;exact this.symm
   subst hnn;refine⟨wE na (eT na.2.2.2.2.2.2.2 name),⟨⟨ha.1.1,by rw[hat,ZAK (by omega),ZAM hab],ha.1.2.2.1,ha.1.2.2.2⟩,ha.2⟩,bBZ.2 ⟨hea,fun hc=> ?_⟩⟩;have hc:=hc;subst hc;exact hne (dRZ (h.srt hb.1) heb hea)
  ·exact⟨na,⟨⟨ha.1.1,by rw[hat,ZAK (by omega),ZAK hab];exact ha.1.2.1,ha.1.2.2.1,ha.1.2.2.2⟩,ha.2⟩,hea⟩
 let⟨na',hda,hea'⟩:=hda
 refine⟨na',_,⟨hda,hdb,hea',?_,hs,hno,fun _=> ?_,fun hc=>hanc ?_⟩,rfl⟩
 ·show(dV (cR t.1 b.1 name) other)[(id-1).toNat]? =_;rw[hat,ZAK (by omega),ZAK hkb];exact hx
 ·show(eT _ _).length<100;omega
 ·have go:∀i,Anc (dV (cR t.1 b.1 name) other) id i->1<=i->Anc t.1 id i:=fun i hi=>by
   induction hi with
   |refl=>intro _;exact .refl
   | @step i y h1 hy hyu _ ih=>
     intro hi1;rw[hat] at hy;by_cases c1:(i-1).toNat=(other-1).toNat
     ·rw[ZAM c1] at hy;cases hy;cases hyu
     ·rw[ZAK c1] at hy;by_cases c2:(i-1).toNat=(b.1-1).toNat
      ·rw[ZAM c2] at hy;cases hy;exact .step h1 (by rw[c2];exact hb.1.2.1) hb.1.2.2.1 (ih ((h.r.ino _ nb hb.1.2.1).par hb.1.2.2.1).1)
      ·rw[ZAK c2] at hy;exact .step h1 hy hyu (ih ((h.r.ino _ y hy).par hyu).1)
  exact go _ hc hb1
inductive NP (t:dH) (a:Int×Int) (old:List UInt8) (b:Int×Int) (name:List UInt8) (T:dH) (gone:List dC) (id:Int) (x:Ino):Prop
 |same {na nb:Ino}:T=t->gone=[]->IsD t.1 a na->IsD t.1 b nb->(old,id)∈na.2.2.2.2.2.2.2->(name,id)∈nb.2.2.2.2.2.2.2->t.1[(id-1).toNat]? =some x->NP t a old b name T gone id x
 |move {na nb:Ino}:T=(mvL t.1 a.1 old b.1 name id,t.2)->gone=[]->zA t a old b name id na nb x->NP t a old b name T gone id x
 |over {na nb na' nb' z:Ino} {other:Int}:T=(mvL (dV (cR t.1 b.1 name) other) a.1 old b.1 name id,t.2)->gone=rZ z.2.2.2.2.2.1->IsD t.1 a na->IsD t.1 b nb->(old,id)∈na.2.2.2.2.2.2.2->t.1[(id-1).toNat]? =some x->(name,other)∈nb.2.2.2.2.2.2.2->other≠id->t.1[(other-1).toNat]? =some z->lB x.2.2.2.1 z=0->bL (dV (cR t.1 b.1 name) other,t.2)->zA (dV (cR t.1 b.1 name) other,t.2) a old b name id na' nb' x->NP t a old b name T gone id x
end
theorem t0Z:bL ([(1,1,true,true,0,[],1,[])],0):=by
 refine⟨⟨by simp,by simp,fun i n hn=> ?_,by simp[bD,bR],_,rfl,rfl,rfl,rfl⟩,fun i n hn s id he=> ?_,fun j x hx hu hj=> ?_,fun j x hx hu=> ?_⟩
 ·cases i with
  |zero=>simp at hn;subst hn;exact⟨rfl,by simp,by simp,fun _ _=>⟨rfl,rfl,by simp,trivial⟩,by simp,by simp⟩
  |succ i=>grind
 ·cases i<;>grind
 ·simp_all
 ·cases j with
  |zero=>exact .root
  |succ i=>grind
def oR(l:List Ino)(dir:Bool)(parent:Int):Option (List Ino×Nat×Int):=
 match oQ l with
 |none=>if l.length<500 then some (l++[((l.length:Int)+1,1,true,dir,0,[],parent,[])],l.length,1) else none
 |some i=>match l[i]? with
  |none=>none
  |some n=>if n.2.1<1099511627776 then some (l.set i ((i:Int)+1,n.2.1+1,true,dir,0,[],parent,[]),i,n.2.1+1) else none
theorem utZ{l l'}{dir}{parent g}{i}(h:Alc l dir parent l' i g):oR l dir parent=some (l',i,g):=by
 unfold oR;have hs:=h.slot;have hlen:=h.len;cases hf:oQ l with
 |none=>
  rw[hf] at hs;have hs:i=l.length:=hs;rw[ZAK (by omega)] at hlen;have:=h.few;have hg:=by
   have:=h.gen;rw[ZAg (by omega)] at this;exact this
  rw[ZAM (by omega)];subst hs hg;show some (l++[((l.length:Int)+1,1,true,dir,0,[],parent,[])],l.length,(1:Int))=some (l',l.length,0+1);have e:l++[((l.length:Int)+1,1,true,dir,0,[],parent,[])]=l':= ?_
  ·rw[e];rfl
  refine ZA8 fun j=> ?_;by_cases hj:j=l.length
  ·subst hj;rw[h.new];simp
  ·rw[h.old j hj];by_cases hj2:j<l.length
   ·rw[ZAT hj2]
   ·rw[ZAg (by simp;omega),ZAg (by omega)]
 |some k=>
  rw[hf] at hs;have hs:=hs;subst hs
  let⟨hk,_,_⟩:=ZA2.1 hf
  have hg:=ZAC hk;have hgen:=h.gen;rw[hg] at hgen;have hgen:g=l[i].2.1+1:=hgen;have:=h.top;simp only[hg];rw[ZAM (by omega),<-hgen];congr 2;refine ZA8 fun j=> ?_;by_cases hj:j=i
  ·subst hj;rw[h.new,ZAQ hk]
  ·rw[h.old j hj,ZAX (by omega)]
theorem oYZ{l}(h:vN l)(dir)(parent):oR l dir parent=none:=by
 unfold vN at h;unfold oR
 grind
def vY(l:List Ent)(s:List UInt8):Option Int:=(l.find? fun e=>e.1==s).map (·.2)
theorem dIZ{l}(h:Srt l){s}{id}(hm:(s,id)∈l):vY l s=some id:=by
 unfold vY;cases hf:l.find? (fun e=>e.1==s)<;>grind[ZBu,ZCF,ZCq,dRZ]
theorem dTZ{l}{s}(h:fC l s=false):vY l s=none:=by
 grind[vY,ZBu,aBZ]
def HE(l:List Ino)(top:Int):Nat->Int->Bool
 |0,id=>id==top
 |k+1,id=>bif id==top then true else bif id==1 then false else match l[(id-1).toNat]? with
  |some n=>n.2.2.1&&HE l top k n.2.2.2.2.2.2.1
  |none=>false
theorem qXZ{l}(top):∀(k) (id),dA l k id=true->(HE l top k id=true↔Anc l top id)
 |0,id,h=>by
  have h:=by unfold dA at h;simpa using h
  unfold HE;rw[ZBp];constructor
  ·rintro rfl;exact .refl
  ·intro ha;cases ha<;>grind
 |k+1,id,h=>by
  unfold HE;cases h1:(id==top) with
  |true=>rw[ZBp] at h1;subst h1;simp;exact .refl
  |false=>
   cases h2:(id==1) with
   |true=>
    simp only[ZAL];constructor
    ·simp_all
    ·intro ha;cases ha<;>grind
   |false=>
    unfold dA at h;rw[h2] at h;simp only[ZAD] at h⊢;cases hg:l[(id-1).toNat]? with
    |none=>simp_all
    |some n=>
     rw[hg] at h;simp at h⊢;rw[qXZ top k _ h.2];constructor
     ·rintro⟨h3,h4⟩;exact .step (by simpa using h2) hg h3 h4
     ·intro ha;cases ha with
      |refl=>rw[ZAb] at h1;cases h1
      |step _ h4 h5 h6=>rw[hg] at h4;cases h4;exact⟨h5,h6⟩
theorem mLZ{t}(h:bL t){b}{nb}(hb:IsD t.1 b nb)(top):HE t.1 top t.1.length b.1=true↔Anc t.1 top b.1:=by
 have hlt:=(ZAB.1 hb.1.2.1).1;have hdb:=eXZ hb;have hb1:=hb.1.1;exact qXZ top _ _ (eYZ h.r.len.1 (fun j x hx hxu=>(h.r.ino j x hx).par hxu) hb1 (by omega) (by have:=h.a _ nb hb.1.2.1 hb.1.2.2.1;simp_all))
def fO(t:dH)(d:Int×Int)(s:List UInt8)(is:Bool):dH×(Int×Int)×Int:=
 if fB t.1 d=0 then
  if cS s=true then
   match t.1[(d.1-1).toNat]? with
   |none=>(t,(0,0),170)
   |some n=>if fC n.2.2.2.2.2.2.2 s=true then(t,(0,0),172) else if 100<=n.2.2.2.2.2.2.2.length then(t,(0,0),5) else
    match oR t.1 is d.1 with
    |none=>(t,(0,0),5)
    |some (l',i,g)=>((jT l' d.1 s ((i:Int)+1),t.2),((i:Int)+1,g),0)
  else(t,(0,0),176)
 else(t,(0,0),fB t.1 d)
theorem jrZ{t}(h:bL t)(d)(s)(is):dR bB t d s is=some ((fO t d s is).1.1,((fO t d s is).1.2,((fO t d s is).2.1.1,((fO t d s is).2.1.2,(fO t d s is).2.2))))/\bL (fO t d s is).1:=by
 unfold fO;rcases bwZ t.1 d with⟨n,hn⟩|⟨hb,_⟩
 ·rw[ZAM (cnZ hn),hn.1.2.1];simp;cases hs:cS s with
  |false=>exact⟨kfZ h is hn hs,h⟩
  |true=>
   rw[ZAM rfl];cases hh:fC n.2.2.2.2.2.2.2 s with
   |true=>exact⟨hxZ h is hn hs hh,h⟩
   |false=>
    by_cases hl:100<=n.2.2.2.2.2.2.2.length
    ·rw[ZAM hl];exact⟨k4Z h is hn hs hh hl,h⟩
    ·rw[ZAK hl];rcases hOZ h is hn hs hh (by omega) with⟨hno,hm⟩|⟨l',i,g,hA,hm⟩
     ·rw[oYZ hno];exact⟨hm,h⟩
     ·rw[utZ hA,hm,mIZ hn hA];exact⟨rfl,mOZ h hn hs hh (by omega) hA⟩
 ·rw[ZAK hb];exact⟨mvZ h s is hb,h⟩
def dZ(t:dH)(d:Int×Int)(s:List UInt8)(is:Bool):dH×List dC×Int:=
 if fB t.1 d=0 then
  if cS s=true then
   match t.1[(d.1-1).toNat]? with
   |none=>(t,[],170)
   |some n=>match vY n.2.2.2.2.2.2.2 s with
    |none=>(t,[],171)
    |some id=>match t.1[(id-1).toNat]? with
     |none=>(t,[],170)
     |some x=>if lB is x=0 then((dV (cR t.1 d.1 s) id,t.2),rZ x.2.2.2.2.2.1,0) else(t,[],lB is x)
  else(t,[],176)
 else(t,[],fB t.1 d)
theorem jXZ{t}(h:bL t)(d)(s)(is):yQ bB t d s is=some ((dZ t d s is).1.1,((dZ t d s is).1.2,((dZ t d s is).2.1,(dZ t d s is).2.2)))/\bL (dZ t d s is).1:=by
 unfold dZ;rcases bwZ t.1 d with⟨n,hn⟩|⟨hb,_⟩
 ·rw[ZAM (cnZ hn),hn.1.2.1];simp only;cases hs:cS s with
  |false=>exact⟨l3Z h is hn hs,h⟩
  |true=>
   cases hh:fC n.2.2.2.2.2.2.2 s with
   |false=>rw[dTZ hh];exact⟨laZ h is hn hs hh,h⟩
   |true=>
    let⟨id,he⟩:=aBZ.1 hh
    let⟨_,_,_,x,hx,hu,_⟩:=h.ent hn he
    rw[dIZ (h.srt hn.1) he];simp only[hx];have hr:=msZ h is hn he hx;by_cases hm:lB is x=0
    ·rw[ZAM hm] at hr⊢;exact⟨hr,mWZ h hn he hx (kkZ hm).1⟩
    ·rw[ZAK hm] at hr⊢;exact⟨hr,h⟩
 ·rw[ZAK hb];exact⟨peZ h s is hb,h⟩
def eA(t:dH)(a:Int×Int)(old:List UInt8)(b:Int×Int)(name:List UInt8):dH×List dC×Int:=
 if fB t.1 a=0 then
  if fB t.1 b=0 then
   if(cS old&&cS name)=true then
    match t.1[(a.1-1).toNat]? with
    |none=>(t,[],170)
    |some na=>match t.1[(b.1-1).toNat]? with
     |none=>(t,[],170)
     |some nb=>match vY na.2.2.2.2.2.2.2 old with
      |none=>(t,[],171)
      |some id=>match t.1[(id-1).toNat]? with
       |none=>(t,[],170)
       |some x=>if(x.2.2.2.1&&HE t.1 id t.1.length b.1)=true then(t,[],178) else
        match vY nb.2.2.2.2.2.2.2 name with
        |none=>if a.1≠b.1/\100<=nb.2.2.2.2.2.2.2.length then(t,[],5) else((mvL t.1 a.1 old b.1 name id,t.2),[],0)
        |some other=>if other=id then(t,[],0) else match t.1[(other-1).toNat]? with
         |none=>(t,[],170)
         |some z=>if lB x.2.2.2.1 z=0 then((mvL (dV (cR t.1 b.1 name) other) a.1 old b.1 name id,t.2),rZ z.2.2.2.2.2.1,0) else(t,[],lB x.2.2.2.1 z)
   else(t,[],176)
  else(t,[],fB t.1 b)
 else(t,[],fB t.1 a)
theorem kNZ{t}(h:bL t)(a)(old)(b)(name):lO bB t a old b name=some ((eA t a old b name).1.1,((eA t a old b name).1.2,((eA t a old b name).2.1,(eA t a old b name).2.2)))/\bL (eA t a old b name).1:=by
 unfold eA;rcases bwZ t.1 a with⟨na,ha⟩|⟨hb,_⟩
 ·rw[ZAM (cnZ ha)];rcases bwZ t.1 b with⟨nb,hb⟩|⟨hb,_⟩
  ·rw[ZAM (cnZ hb)];cases hsn:(cS old&&cS name) with
   |false=>grind[l6Z]
   |true=>
    rw[ha.1.2.1,hb.1.2.1];simp only;rw[ZAE] at hsn
    let⟨hso,hs⟩:=hsn
    cases hh:fC na.2.2.2.2.2.2.2 old with
    |false=>rw[dTZ hh];exact⟨lAZ h ha hb hso hs hh,h⟩
    |true=>
     let⟨id,hea⟩:=aBZ.1 hh
     let⟨_,_,_,x,hx,hu,hp⟩:=h.ent ha hea
     rw[dIZ (h.srt ha.1) hea];simp only[hx];by_cases hl:(x.2.2.2.1&&HE t.1 id t.1.length b.1)=true
     ·rw[ZAM hl];rw[ZAE] at hl;exact⟨kXZ h ha hb hs hea hx hl.1 ((mLZ h hb id).1 hl.2),h⟩
     ·rw[ZAK hl];have hanc:x.2.2.2.1=true->¬Anc t.1 id b.1:=fun h1 h2=>hl (by rw[h1,(mLZ h hb id).2 h2];rfl);have hanc':=wiZ h ha hb hea hx hanc;cases hhb:fC nb.2.2.2.2.2.2.2 name with
      |false=>
       rw[dTZ hhb];simp;by_cases hfull:a.1≠b.1/\100<=nb.2.2.2.2.2.2.2.length
       ·rw[ZAM hfull];exact⟨lCZ h ha hb hs hea hx hanc hhb hfull.1 hfull.2,h⟩
       ·rw[ZAK hfull];have hfw:a.1≠b.1->nb.2.2.2.2.2.2.2.length<100:=fun hc=>by
         have:=fun hh=>hfull ⟨hc,hh⟩;omega
        have m:zA t a old b name id na nb x:=⟨ha,hb,hea,hx,hs,hhb,hfw,hanc'⟩;exact⟨lVZ h m hanc,m9Z h m⟩
      |true=>
       let⟨other,heb⟩:=aBZ.1 hhb
       let⟨_,_,_,z,hz,hzu,hzp⟩:=h.ent hb heb
       rw[dIZ (h.srt hb.1) heb];simp only;by_cases hne:other=id
       ·subst hne;rw[ZAM rfl];exact⟨l2Z h ha hb hs hea hx hanc heb,h⟩
       ·rw[ZAK hne,hz];simp;by_cases hm:lB x.2.2.2.1 z=0
        ·rw[ZAM hm];have hze:=(kkZ hm).1;have h0:=mWZ h hb heb hz hze
         let⟨na',nb',m,_⟩:=tOZ h ha hb hs hea hx hanc' heb hne hz hze
         exact⟨lcZ h ha hb hs hea hx hanc heb hne hz hm h0 m,m9Z h0 m⟩
        ·rw[ZAK hm];exact⟨nFZ h ha hb hs hea hx hanc heb hne hz hm,h⟩
  ·rw[ZAK hb];exact⟨l7Z h ha hb,h⟩
 ·rw[ZAK hb];exact⟨kWZ h hb,h⟩
abbrev bV:Type:=Int×(Int×(UInt8×((Int×Int)×(List UInt8×((Int×Int)×(List UInt8×(Int×(Int×List UInt8))))))))
abbrev Has:Type:=Bool×(Bool×(Bool×(Bool×(Int×(Bool×Bool)))))
instance UU:DecidableEq (Int×(Bool×Bool)):=instDecidableEqProd
instance UV:DecidableEq (Bool×(Int×(Bool×Bool))):=instDecidableEqProd
instance UW:DecidableEq (Bool×(Bool×(Int×(Bool×Bool)))):=instDecidableEqProd
instance UX:DecidableEq (Bool×(Bool×(Bool×(Int×(Bool×Bool))))):=instDecidableEqProd
instance UY:DecidableEq Has:=instDecidableEqProd
def tG(o:Nat):Has:=
 if o=1\/o=2\/o=3\/o=7\/o=8 then(true,(true,(false,(false,(0,(false,true))))))
 else if o=4 then(true,(false,(false,(true,(4096,(false,true))))))
 else if o=5 then(true,(false,(false,(true,(0,(true,true))))))
 else if o=6 then(true,(false,(false,(false,(2147483648,(false,true))))))
 else if o=9 then(true,(true,(true,(false,(0,(false,true))))))
 else if o=10 then(true,(true,(false,(false,(4096,(false,true))))))
 else if o=11 then(true,(false,(false,(false,(0,(false,true))))))
 else if o=12 then(false,(false,(false,(false,(0,(false,true))))))
 else(false,(false,(false,(false,(0,(false,false))))))
theorem qQZ:∀n,n<256->QC bB ((n:Nat):Int)=some (tG n):=by decide+kernel
theorem sJZ(o:UInt8):QC bB ((o.toNat:Nat):Int)=some (tG o.toNat):=qQZ _ o.toNat_lt
def CY(a b:Int):Bool:=decide (0<=a/\a<16/\1<=b/\b<=1099511627776)
theorem tsZ(a b):GA bB a b=some (CY a b):=by
 grind[GA,CY]
def CZ(h:Int×Int):Bool:=decide (1<=h.1/\h.1<=500/\1<=h.2/\h.2<=1099511627776)
theorem pMZ(h):GB bB h=some (CZ h):=by
 grind[GB,CZ]
def ofB(is:Bool)(h:Int×Int):Bool:=bif is then CZ h else((h.1==0)&&(h.2==0))
theorem vuZ(is)(h):pQ bB is h=some (ofB is h):=by
 unfold pQ ofB;cases is with
 |true=>
  grind[pMZ,ZAA]
 |false=>rfl
def AK(is:Bool)(l:List UInt8):Bool:=(l==[])||(is&&decide (l.length<=100))
theorem rfZ(is)(l):pR bB is l=some (AK is l):=by
 unfold pR AK
 grind[ZAJ,ZAF]
def vO(s:Has)(c:bV):Bool:=
 s.2.2.2.2.2.2&&(CY c.1 c.2.1&&(ofB s.1 c.2.2.2.1&&(ofB s.2.2.1 c.2.2.2.2.2.1&&(AK s.2.1 c.2.2.2.2.1&&(AK s.2.2.1 c.2.2.2.2.2.2.1&&
  (decide (0<=c.2.2.2.2.2.2.2.1/\c.2.2.2.2.2.2.2.1<=2147483648)&&((s.2.2.2.1||(c.2.2.2.2.2.2.2.1==0))&&(decide (0<=c.2.2.2.2.2.2.2.2.1/\c.2.2.2.2.2.2.2.2.1<=s.2.2.2.2.1)&&
   (decide (c.2.2.2.2.2.2.2.2.2.length=0)||(s.2.2.2.2.2.1&&decide (c.2.2.2.2.2.2.2.2.2.length<=4096)))))))))))
def bK(c:bV):Bool:=vO (tG c.2.2.1.toNat) c
theorem axZ(c:bV):oG bB c=some (bK c):=by
 let⟨c1,c2,c3,⟨h1,h2⟩,nm,⟨t1,t2⟩,nw,off,n,bs⟩:=c
 unfold oG bK Pa Pb Pc Pd Pe Pf Pg Ph Pi Pj Pk Pl Pm Pn Po Pp Pq PE PH PQ;simp only;rw[sJZ];generalize tG c3.toNat=s
 let⟨sh,sn,st,so,sN,sb,ok⟩:=s
 unfold vO;simp only[ZAA];cases ok with
 |false=>rfl
 |true=>
  simp only[ZAO];rw[tsZ];generalize CY c1 c2=w;cases w with
  |false=>rfl
  |true=>
   simp only[ZAA,ZAD];rw[vuZ];generalize ofB sh (h1,h2)=a1;cases a1 with
   |false=>rfl
   |true=>
    simp only[ZAO];rw[vuZ];generalize ofB st (t1,t2)=a2;cases a2 with
    |false=>rfl
    |true=>
     simp only[ZAD];rw[rfZ];generalize AK sn nm=a3;cases a3 with
     |false=>rfl
     |true=>
      simp only[ZAA,ZAD];rw[rfZ];generalize AK st nw=a4;cases a4 with
      |false=>rfl
      |true=>
       simp only[ZAA,ZAO,ZAD];by_cases o1:off<0
       ·rw[ZAJ o1,ZAF (show¬(0<=off/\off<=2147483648) by omega)];rfl
       by_cases o2:off>2147483648
       ·rw[ZAF o1,ZAJ o2,ZAF (show¬(0<=off/\off<=2147483648) by omega)];rfl
       rw[ZAF o1,ZAF o2,ZAJ (show 0<=off/\off<=2147483648 by omega)];have eb:decide (((bs.length:Nat):Int)<=4096)=decide (bs.length<=4096):=by
        by_cases h:bs.length<=4096
        ·rw[ZAJ h,ZAJ (by omega)]
        ·rw[ZAF h,ZAF (by omega)]
       have e0:(((bs.length:Nat):Int)==0)=decide (bs.length=0):=by
        by_cases h:bs.length=0
        ·rw[ZAJ h,h];rfl
        ·rw[ZAF h,ZAa.2 (by omega)]
       by_cases n1:n<0
       ·rw[ZAJ n1,ZAF (show¬(0<=n/\n<=sN) by omega)];cases so<;>cases(off==0)<;>rfl
       by_cases n2:n>sN
       ·rw[ZAF n1,ZAJ n2,ZAF (show¬(0<=n/\n<=sN) by omega)];cases so<;>cases(off==0)<;>rfl
       rw[ZAF n1,ZAF n2,ZAJ (show 0<=n/\n<=sN by omega),<-e0,<-eb];cases so<;>cases(off==0)<;>simp only[ZAL,ZAD,ZAO,ZAl,ZAA,ZBP,Bool.or_false,Bool.or_true,Bool.false_and,e0,eb]<;>
        (generalize decide (bs.length=0)=x0)<;>(generalize decide (bs.length<=4096)=x1)<;>cases x0<;>cases sb<;>cases x1<;>rfl
abbrev Byt:=List UInt8
abbrev Mod:=dH×List Byt
structure bW (m:Mod):Prop where
 t:bL m.1
 n:m.2.length=m.1.1.length
 p:∀(i:Nat) x,m.1.1[i]? =some x->x.2.2.2.2.2.1=[]
 s:∀(i:Nat) x b,m.1.1[i]? =some x->m.2[i]? =some b->((b.length:Nat):Int)=x.2.2.2.2.1
theorem epZ{t}(h:bL t){i:Nat}{x}(hx:t.1[i]? =some x):0<=x.2.2.2.2.1/\x.2.2.2.2.1<=65536/\(x.2.2.1=false->x.2.2.2.2.1=0)/\(x.2.2.2.1=true->x.2.2.2.2.1=0):=by
 have o:=h.r.ino i x hx;cases hu:x.2.2.1 with
 |false=>have:=o.bare hu;omega
 |true=>
  cases hd:x.2.2.2.1 with
  |true=>have:=o.dir hu hd;omega
  |false=>have:=o.file hu hd;simp_all
theorem bW.at{m}(h:bW m){i:Nat}{x}(hx:m.1.1[i]? =some x):∃b,m.2[i]? =some b/\((b.length:Nat):Int)=x.2.2.2.2.1/\b.length<=65536:=by
 have hlt:=(ZAB.1 hx).1;obtain⟨b,hb⟩:∃b,m.2[i]? =some b:=⟨_,ZAC (by rw[h.n];exact hlt)⟩;have h1:=h.s i x b hx hb;have h2:=epZ h.t hx
 grind
theorem bW.byt{m}(h:bW m){i:Nat}{b}(hb:m.2[i]? =some b):b.length<=65536:=by
 have hlt:=(ZAB.1 hb).1;obtain⟨x,hx⟩:∃x,m.1.1[i]? =some x:=⟨_,ZAC (by rw[<-h.n];exact hlt)⟩
 let⟨b',hb',_,h2⟩:=h.at hx<;>grind
theorem bW.len{m}(h:bW m):1<=m.1.1.length/\m.1.1.length<=500:=h.t.r.len
theorem bW.fit{m}(h:bW m):Fit m.1.1:=h.t.r.fit
theorem a4Z{m}(h:bW m):QA bB m=some true:=by
 unfold QA;have hl:=h.len;rw[b6Z h.t];simp[ZAA];rw[h.n,ZAb];simp[ZAD];have loop:sP bB (false,(m.1.1,(m.1.2,m.2))) (0,(m.1.1,(m.1.2,m.2)))=some (.inl ()):=by
  unfold sP;refine aoZ (fun k=>((k:Int),(m.1.1,(m.1.2,m.2)))) m.1.1.length (by omega) (fun k hk=> ?_) ?_
  ·unfold BX;obtain⟨x,hx⟩:∃x,m.1.1[k]? =some x:=⟨_,ZAC hk⟩
   let⟨b,hb,hs,_⟩:=h.at hx
   simp only[aDZ hk];rw[adZ hk];simp[hx];rw[h.p k x hx];simp[ZAD];rw[adZ (by rw[h.n];exact hk)];simp[hb];rw[hs,ZAb,w64 (by omega)]
   rfl
  ·unfold BX;simp[ZAD]
 simp_all
theorem dXZ{t:dH}(h:Fit t.1):CG bB t=some (t.2,t.1):=by
 unfold CG;rw[dcZ h.n];have loop:yN bB t.1 (0,(t.2,(t.1,0)))=some (t.2,(t.1,0)):=by
  refine aoZ (fun k=>((k:Int),(t.2,(t.1,0)))) t.1.length (by have:=h.n;omega) (fun k hk=> ?_) ?_
  ·unfold CF Pb Pc Pd Pe PE;obtain⟨n,hg⟩:∃n,t.1[k]? =some n:=⟨_,ZAC hk⟩;have hsm:=h.at hg;have hs:=dGZ hg;simp only[aDZ hk];rw[adZ hk];simp only[ZAA,hg];rw[cGZ hsm.1,dPZ hsm.2];show((bH ((k:Nat):Int) (t.1.set k n).length).bind fun q3=>((t.1.set k n)[q3]?.bind _))=_;rw[hs,adZ hk,ZAA,hg,w64 (by have:=h.n;omega)];show some (Sum.inl (_,(t.2,(t.1.set k n,0))))=_;rw[hs]
   rfl
  ·unfold CF Pb Pc Pd Pe PE;simp[ZAD]
 simp_all
theorem jhZ{l:Byt}(h:l.length<=100000):rU bB l=some l:=by
 unfold rU;rw[cKZ]
 ·simp;rw[acZ (by simp[arZ];omega)]
 ·intro h0;obtain rfl:=ZAY h0
  rfl
theorem ksZ{l:List Byt}(h:l.length<=100000):EK bB l=some l:=by
 unfold EK;rw[cKZ]
 ·simp;rw[acZ (by simp[arZ];omega)]
 ·intro h0;obtain rfl:=ZAY h0
  rfl
abbrev Rep:=(Int×Int)×Bool×Int×Byt×List Ent×Bool×Int
abbrev DoR:=Int×Mod×Rep
def kR:Rep:=((0,0),false,0,[],[],false,0)
def stO(q:DoR)(c:bV):Int×(List Ino×(Int×(List Byt×(Int×(Int×(Int×(Int×(Int×(Byt×(Int×(Int×(Byt×(Int×(Int×(Byt×JG))))))))))))))):=(q.1,(q.2.1.1.1,(q.2.1.1.2,(q.2.1.2,(c.1,(c.2.1,(((c.2.2.1.toNat:Nat):Int),(c.2.2.2.1.1,(c.2.2.2.1.2,(c.2.2.2.2.1,(c.2.2.2.2.2.1.1,(c.2.2.2.2.2.1.2,(c.2.2.2.2.2.2.1,(c.2.2.2.2.2.2.2.1,(c.2.2.2.2.2.2.2.2.1,(c.2.2.2.2.2.2.2.2.2,(c.1,(c.2.1,(0,(q.2.2.1.1,(q.2.2.1.2,(q.2.2.2.1,(q.2.2.2.2.1,(q.2.2.2.2.2.2.2.1,q.2.2.2.2.2.2.2.2))))))))))))))))))))))))
def stB(q:DoR)(c:bV):Int×(List Ino×(Int×(List Byt×(Int×(Int×(Int×(Int×(Int×(Byt×(Int×(Int×(Byt×(Int×(Int×(Byt×(Int×(Int×(Int×(Int×(Int×(Bool×(Int×(Byt×(Bool×Int)))))))))))))))))))))))):=(q.1,(q.2.1.1.1,(q.2.1.1.2,(q.2.1.2,(c.1,(c.2.1,(((c.2.2.1.toNat:Nat):Int),(c.2.2.2.1.1,(c.2.2.2.1.2,(c.2.2.2.2.1,(c.2.2.2.2.2.1.1,(c.2.2.2.2.2.1.2,(c.2.2.2.2.2.2.1,(c.2.2.2.2.2.2.2.1,(c.2.2.2.2.2.2.2.2.1,(c.2.2.2.2.2.2.2.2.2,(c.1,(c.2.1,(0,(q.2.2.1.1,(q.2.2.1.2,(q.2.2.2.1,(q.2.2.2.2.1,(q.2.2.2.2.2.1,(q.2.2.2.2.2.2.2.1,q.2.2.2.2.2.2.2.2)))))))))))))))))))))))))
def stE(q:DoR)(c:bV):Int×(List Ino×(Int×(List Byt×(Int×(Int×(Int×(Int×(Int×(Byt×(Int×(Int×(Byt×(Int×(Int×(Byt×(Int×(Int×(Int×(Int×(Int×(Bool×(Int×(List Ent×(Bool×Int)))))))))))))))))))))))):=(q.1,(q.2.1.1.1,(q.2.1.1.2,(q.2.1.2,(c.1,(c.2.1,(((c.2.2.1.toNat:Nat):Int),(c.2.2.2.1.1,(c.2.2.2.1.2,(c.2.2.2.2.1,(c.2.2.2.2.2.1.1,(c.2.2.2.2.2.1.2,(c.2.2.2.2.2.2.1,(c.2.2.2.2.2.2.2.1,(c.2.2.2.2.2.2.2.2.1,(c.2.2.2.2.2.2.2.2.2,(c.1,(c.2.1,(0,(q.2.2.1.1,(q.2.2.1.2,(q.2.2.2.1,(q.2.2.2.2.1,(q.2.2.2.2.2.2.1,(q.2.2.2.2.2.2.2.1,q.2.2.2.2.2.2.2.2)))))))))))))))))))))))))
def jZ(t:dH)(d:Int×Int)(s:Byt):Int×(Int×Int):=
 if fB t.1 d=0 then
  if cS s=true then
   match t.1[(d.1-1).toNat]? with
   |none=>(170,(0,0))
   |some n=>match vY n.2.2.2.2.2.2.2 s with
    |none=>(171,(0,0))
    |some id=>match t.1[(id-1).toNat]? with
     |none=>(170,(0,0))
     |some x=>(0,(id,x.2.1))
  else(176,(0,0))
 else(fB t.1 d,(0,0))
theorem ufZ{t}(h:bL t)(d)(s:Byt):yK bB t d s=some ((jZ t d s).2.1,((jZ t d s).2.2,(jZ t d s).1))/\((jZ t d s).1=0->1<=(jZ t d s).2.1/\(jZ t d s).2.1<=t.1.length/\∃x,t.1[((jZ t d s).2.1-1).toNat]? =some x):=by
 unfold jZ;rcases bwZ t.1 d with⟨n,hn⟩|⟨hb,_⟩
 ·rw[ZAM (cnZ hn),hn.1.2.1];simp only;cases hs:cS s with
  |false=>exact⟨mfZ h hn hs,fun h0=>by cases h0⟩
  |true=>
   rw[ZAM rfl];cases hh:fC n.2.2.2.2.2.2.2 s with
   |false=>rw[dTZ hh];exact⟨lFZ h hn hs hh,fun h0=>by cases h0⟩
   |true=>
    let⟨id,he⟩:=aBZ.1 hh
    let⟨_,q1,q2,x,hx,hu,_⟩:=h.ent hn he
    rw[dIZ (h.srt hn.1) he];simp only[hx];exact⟨lyZ h hn he hx,fun _=>⟨by omega,q2,x,rfl⟩⟩
 ·rw[ZAK hb];exact⟨oGZ h s hb,fun h0=>absurd h0 hb⟩
def DA(l:List Ino)(h:Int×Int):Option Ino:=
 if 1<=h.1 then match l[(h.1-1).toNat]? with
  |some n=>if n.2.2.1=true/\n.2.1=h.2 then some n else none
  |none=>none
 else none
theorem cgZ{l}{h}{n}:DA l h=some n↔IsH l h n:=by
 unfold DA IsH;by_cases h1:1<=h.1
 ·rw[ZAM h1];cases hx:l[(h.1-1).toNat]? with
  |none=>simp
  |some x=>
   simp only;by_cases hc:x.2.2.1=true/\x.2.1=h.2
   ·rw[ZAM hc];constructor
    ·rintro⟨⟩;exact⟨h1,rfl,hc.1,hc.2⟩
    ·rintro⟨_,⟨⟩,_,_⟩;rfl
   ·rw[ZAK hc];constructor
    ·intro h;cases h
    ·rintro⟨_,⟨⟩,h2,h3⟩;exact absurd ⟨h2,h3⟩ hc
 grind
theorem jNZ{l}{h}(hn:DA l h=none):¬∃n,IsH l h n:=fun⟨n,h1⟩=>by rw[cgZ.2 h1] at hn;grind
theorem pKZ{t}(ht:bL t){h}{n}(hn:IsH t.1 h n):n.1=h.1/\1<=h.1/\(h.1-1).toNat<t.1.length:=by
 have h1:=ht.r.id hn.2.1;have h2:=hn.1;exact⟨by omega,h2,(ZAB.1 hn.2.1).1⟩
def uS(t:dH)(d:Int×Int)(s:Byt)(most:Int):Int×Bool×List Ent:=
 if fB t.1 d=0 then
  if most<0\/most>4096 then(2,false,[])
  else match t.1[(d.1-1).toNat]? with
   |none=>(170,false,[])
   |some n=>(0,decide ((jD n.2.2.2.2.2.2.2 s).length>most.toNat),(jD n.2.2.2.2.2.2.2 s).take most.toNat)
 else(fB t.1 d,false,[])
theorem uyZ{t}(h:bL t)(d)(s:Byt)(most):gM bB t d s most=some ((uS t d s most).2.1,((uS t d s most).1,(uS t d s most).2.2)):=by
 unfold uS;rcases bwZ t.1 d with⟨n,hn⟩|⟨hb,_⟩
 ·rw[ZAM (cnZ hn)];by_cases hm:most<0\/most>4096
  ·grind[tcZ]
  ·rw[ZAK hm,hn.1.2.1];have:=qpZ h s (most:=most.toNat) hn (by omega);rw[show((most.toNat:Nat):Int)=most by omega] at this;exact this
 ·rw[ZAK hb];exact rSZ h s most hb
def jE(m:Mod)(c:bV):DoR:=
 if(jZ m.1 c.2.2.2.1 c.2.2.2.2.1).1=0 then match m.1.1[((jZ m.1 c.2.2.2.1 c.2.2.2.2.1).2.1-1).toNat]? with
  |some x=>(0,m,((jZ m.1 c.2.2.2.1 c.2.2.2.2.1).2,x.2.2.2.1,x.2.2.2.2.1,[],[],false,0))
  |none=>(170,m,kR)
 else((jZ m.1 c.2.2.2.1 c.2.2.2.2.1).1,m,kR)
def gJ(m:Mod)(c:bV):DoR:=
 if(fO m.1 c.2.2.2.1 c.2.2.2.2.1 (((c.2.2.1.toNat:Nat):Int)==3)).2.2=0 then
  (0,((fO m.1 c.2.2.2.1 c.2.2.2.2.1 (((c.2.2.1.toNat:Nat):Int)==3)).1,m.2),((fO m.1 c.2.2.2.1 c.2.2.2.2.1 (((c.2.2.1.toNat:Nat):Int)==3)).2.1,(((c.2.2.1.toNat:Nat):Int)==3),0,[],[],false,0))
 else((fO m.1 c.2.2.2.1 c.2.2.2.2.1 (((c.2.2.1.toNat:Nat):Int)==3)).2.2,m,kR)
def dI(m:Mod)(c:bV):DoR:=
 if(dZ m.1 c.2.2.2.1 c.2.2.2.2.1 (((c.2.2.1.toNat:Nat):Int)==8)).2.2=0 then
  (0,((dZ m.1 c.2.2.2.1 c.2.2.2.2.1 (((c.2.2.1.toNat:Nat):Int)==8)).1,m.2),kR)
 else((dZ m.1 c.2.2.2.1 c.2.2.2.2.1 (((c.2.2.1.toNat:Nat):Int)==8)).2.2,m,kR)
def eV(m:Mod)(c:bV):DoR:=
 if(eA m.1 c.2.2.2.1 c.2.2.2.2.1 c.2.2.2.2.2.1 c.2.2.2.2.2.2.1).2.2=0 then
  (0,((eA m.1 c.2.2.2.1 c.2.2.2.2.1 c.2.2.2.2.2.1 c.2.2.2.2.2.2.1).1,m.2),kR)
 else((eA m.1 c.2.2.2.1 c.2.2.2.2.1 c.2.2.2.2.2.1 c.2.2.2.2.2.2.1).2.2,m,kR)
def zC(m:Mod)(c:bV):DoR:=
 ((uS m.1 c.2.2.2.1 c.2.2.2.2.1 c.2.2.2.2.2.2.2.2.1).1,m,((0,0),false,0,[],(uS m.1 c.2.2.2.1 c.2.2.2.2.1 c.2.2.2.2.2.2.2.2.1).2.2,(uS m.1 c.2.2.2.1 c.2.2.2.2.1 c.2.2.2.2.2.2.2.2.1).2.1,0))
def rP(m:Mod)(c:bV):DoR:=
 match DA m.1.1 c.2.2.2.1 with
 |some x=>(0,m,(c.2.2.2.1,x.2.2.2.1,x.2.2.2.2.1,[],[],false,0))
 |none=>(170,m,kR)
def sA(l:List Ino):Nat:=l.countP (·.2.2.1)
def AL(m:Mod):DoR:=(0,m,((0,0),false,0,[],[],false,500-((sA m.1.1:Nat):Int)))
theorem tmZ{m}(h:bW m)(c):wX bB m.1.1 m.1.2 m.2 c.1 c.2.1 ((c.2.2.1.toNat:Nat):Int) c.2.2.2.1.1 c.2.2.2.1.2 c.2.2.2.2.1 c.2.2.2.2.2.1.1 c.2.2.2.2.2.1.2 c.2.2.2.2.2.2.1 c.2.2.2.2.2.2.2.1 c.2.2.2.2.2.2.2.2.1 c.2.2.2.2.2.2.2.2.2 c.1 c.2.1 0 0 0 false 0 false 0=some (stO (jE m c) c):=by
 unfold wX jE
 let⟨h1,h2⟩:=ufZ h.t c.2.2.2.1 c.2.2.2.2.1
 rw[h1,ZAA];by_cases h0:(jZ m.1 c.2.2.2.1 c.2.2.2.2.1).1=0
 ·let⟨q1,q2,x,hx⟩:=h2 h0
  have hl:=h.len;rw[h0];rw[w64 (by omega),azZ (by omega) (by omega),ZAA,hx]
  rfl
 ·rw[ZAK h0,ZAa.2 h0]
  rfl
theorem tuZ{m}(h:bW m)(c):uB bB m.1.1 m.1.2 m.2 c.1 c.2.1 ((c.2.2.1.toNat:Nat):Int) c.2.2.2.1.1 c.2.2.2.1.2 c.2.2.2.2.1 c.2.2.2.2.2.1.1 c.2.2.2.2.2.1.2 c.2.2.2.2.2.2.1 c.2.2.2.2.2.2.2.1 c.2.2.2.2.2.2.2.2.1 c.2.2.2.2.2.2.2.2.2 c.1 c.2.1 0 0 0 false 0 false 0=some (stO (gJ m c) c):=by
 unfold uB gJ;rw[(jrZ h.t c.2.2.2.1 c.2.2.2.2.1 _).1,ZAA];by_cases h0:(fO m.1 c.2.2.2.1 c.2.2.2.2.1 (((c.2.2.1.toNat:Nat):Int)==3)).2.2=0
 ·rw[h0];rfl
 ·rw[ZAK h0,ZAa.2 h0];rfl
theorem mzZ{m}(h:bW m)(c):uG bB m.1.1 m.1.2 m.2 c.1 c.2.1 ((c.2.2.1.toNat:Nat):Int) c.2.2.2.1.1 c.2.2.2.1.2 c.2.2.2.2.1 c.2.2.2.2.2.1.1 c.2.2.2.2.2.1.2 c.2.2.2.2.2.2.1 c.2.2.2.2.2.2.2.1 c.2.2.2.2.2.2.2.2.1 c.2.2.2.2.2.2.2.2.2 c.1 c.2.1 0 0 0 false 0 false 0=some (stO (dI m c) c):=by
 unfold uG dI;rw[(jXZ h.t c.2.2.2.1 c.2.2.2.2.1 _).1,ZAA];by_cases h0:(dZ m.1 c.2.2.2.1 c.2.2.2.2.1 (((c.2.2.1.toNat:Nat):Int)==8)).2.2=0
 ·rw[h0];rfl
 ·rw[ZAK h0,ZAa.2 h0];rfl
theorem smZ{m}(h:bW m)(c):xB bB m.1.1 m.1.2 m.2 c.1 c.2.1 ((c.2.2.1.toNat:Nat):Int) c.2.2.2.1.1 c.2.2.2.1.2 c.2.2.2.2.1 c.2.2.2.2.2.1.1 c.2.2.2.2.2.1.2 c.2.2.2.2.2.2.1 c.2.2.2.2.2.2.2.1 c.2.2.2.2.2.2.2.2.1 c.2.2.2.2.2.2.2.2.2 c.1 c.2.1 0 0 0 false 0 false 0=some (stO (eV m c) c):=by
 unfold xB eV;rw[(kNZ h.t _ _ _ _).1,ZAA];by_cases h0:(eA m.1 c.2.2.2.1 c.2.2.2.2.1 c.2.2.2.2.2.1 c.2.2.2.2.2.2.1).2.2=0
 ·rw[h0];rfl
 ·rw[ZAK h0,ZAa.2 h0];rfl
theorem vUZ{m}(h:bW m)(c):xC bB m.1.1 m.1.2 m.2 c.1 c.2.1 ((c.2.2.1.toNat:Nat):Int) c.2.2.2.1.1 c.2.2.2.1.2 c.2.2.2.2.1 c.2.2.2.2.2.1.1 c.2.2.2.2.2.1.2 c.2.2.2.2.2.2.1 c.2.2.2.2.2.2.2.1 c.2.2.2.2.2.2.2.2.1 c.2.2.2.2.2.2.2.2.2 c.1 c.2.1 0 0 0 false 0 false 0=some (stE (zC m c) c):=by
 unfold xC zC;rw[uyZ h.t]
 rfl
theorem waZ{m}(h:bW m)(c):xD bB m.1.1 m.1.2 m.2 c.1 c.2.1 ((c.2.2.1.toNat:Nat):Int) c.2.2.2.1.1 c.2.2.2.1.2 c.2.2.2.2.1 c.2.2.2.2.2.1.1 c.2.2.2.2.2.1.2 c.2.2.2.2.2.2.1 c.2.2.2.2.2.2.2.1 c.2.2.2.2.2.2.2.2.1 c.2.2.2.2.2.2.2.2.2 c.1 c.2.1 0 0 0 false 0 false 0=some (stO (rP m c) c):=by
 unfold xD rP;cases hg:DA m.1.1 c.2.2.2.1 with
 |none=>rw[iVZ h.fit (jNZ hg)];rfl
 |some x=>rw[fCZ h.fit (cgZ.1 hg)];rfl
def cV(m:Mod)(h:Int×Int):Int×Byt×Int:=
 match DA m.1.1 h with
 |none=>(0,[],170)
 |some x=>bif x.2.2.2.1 then(0,[],174) else match m.2[(h.1-1).toNat]? with
  |some b=>(h.1,b,0)
  |none=>(0,[],170)
abbrev stF(q:Int×Byt×Int)(m:Mod)(c:bV):Int×(Byt×(Int×(List Ino×(Int×(List Byt×(Int×(Int×(Int×(Int×(Int×(Byt×(Int×(Int×(Byt×(Int×(Int×(Byt×JG))))))))))))))))):=(q.1,(q.2.1,(q.2.2,(m.1.1,(m.1.2,(m.2,(c.1,(c.2.1,(((c.2.2.1.toNat:Nat):Int),(c.2.2.2.1.1,(c.2.2.2.1.2,(c.2.2.2.2.1,(c.2.2.2.2.2.1.1,(c.2.2.2.2.2.1.2,(c.2.2.2.2.2.2.1,(c.2.2.2.2.2.2.2.1,(c.2.2.2.2.2.2.2.2.1,(c.2.2.2.2.2.2.2.2.2,(c.1,(c.2.1,(0,(0,(0,(false,(0,(false,0))))))))))))))))))))))))))
def IsF(m:Mod)(h:Int×Int)(x:Ino)(b:Byt):Prop:=IsH m.1.1 h x/\x.2.2.2.1=false/\m.2[(h.1-1).toNat]? =some b
theorem dNZ{m}{h}(h0:(cV m h).2.2=0):∃x,IsF m h x (cV m h).2.1/\(cV m h).1=h.1:=by
 unfold cV at h0⊢;cases hg:DA m.1.1 h with
 |none=>simp_all
 |some x=>
  rw[hg] at h0;simp only at h0⊢;cases hd:x.2.2.2.1 with
  |true=>rw[hd] at h0;cases h0
  |false=>
   rw[hd] at h0;cases hb:m.2[(h.1-1).toNat]? with
   |none=>rw[hb] at h0;cases h0
   |some b=>exact⟨x,⟨cgZ.1 hg,hd,hb⟩,rfl⟩
theorem p4Z{m}(h:bW m)(c):qT bB m.1.1 m.1.2 m.2 c.1 c.2.1 ((c.2.2.1.toNat:Nat):Int) c.2.2.2.1.1 c.2.2.2.1.2 c.2.2.2.2.1 c.2.2.2.2.2.1.1 c.2.2.2.2.2.1.2 c.2.2.2.2.2.2.1 c.2.2.2.2.2.2.2.1 c.2.2.2.2.2.2.2.2.1 c.2.2.2.2.2.2.2.2.2 c.1 c.2.1 0 0 0 false 0 false 0=some (stF (cV m c.2.2.2.1) m c):=by
 unfold qT cV;cases hg:DA m.1.1 c.2.2.2.1 with
 |none=>rw[iVZ h.fit (jNZ hg)];rfl
 |some x=>
  have hx:=cgZ.1 hg
  let⟨q1,q2,q3⟩:=pKZ h.t hx
  rw[fCZ h.fit hx,ZAA];simp only[ZAb,ZAO];cases hd:x.2.2.2.1 with
  |true=>rfl
  |false=>
   simp only[ZAD];have hl:=h.len
   let⟨b,hb,_⟩:=h.at hx.2.1
   rw[q1,w64 (by omega),azZ (by omega) (by rw[h.n];omega),ZAA,hb,ZAA]
def FD(b:Byt)(off n:Int):Byt:=(b.take (max (min off.toNat b.length) (min (off+n).toNat b.length))).drop (min off.toNat b.length)
def jL(m:Mod)(c:bV):DoR:=
 if(cV m c.2.2.2.1).2.2=0 then
  (0,m,((0,0),false,(((cV m c.2.2.2.1).2.1.length:Nat):Int),FD (cV m c.2.2.2.1).2.1 c.2.2.2.2.2.2.2.1 c.2.2.2.2.2.2.2.2.1,[],decide (c.2.2.2.2.2.2.2.1+c.2.2.2.2.2.2.2.2.1<(((cV m c.2.2.2.1).2.1.length:Nat):Int)),0))
 else((cV m c.2.2.2.1).2.2,m,kR)
theorem v3Z{m}(h:bW m)(c)(ho:0<=c.2.2.2.2.2.2.2.1/\c.2.2.2.2.2.2.2.1<=2147483648)(hn:0<=c.2.2.2.2.2.2.2.2.1/\c.2.2.2.2.2.2.2.2.1<=2147483648):
 wY bB m.1.1 m.1.2 m.2 c.1 c.2.1 ((c.2.2.1.toNat:Nat):Int) c.2.2.2.1.1 c.2.2.2.1.2 c.2.2.2.2.1 c.2.2.2.2.2.1.1 c.2.2.2.2.2.1.2 c.2.2.2.2.2.2.1 c.2.2.2.2.2.2.2.1 c.2.2.2.2.2.2.2.2.1 c.2.2.2.2.2.2.2.2.2 c.1 c.2.1 0 0 0 false 0 false 0=some (stB (jL m c) c):=by
 unfold wY jL Pa Pb Pc Pd Pe Pf Pg Ph Pi Pj Pk Pl Pm Pn Po Pp Pq Pr Ps Pt Pu Pv Pw Px PX PY;rw[p4Z h c,ZAA];by_cases h0:(cV m c.2.2.2.1).2.2=0
 ·rw[ZAM h0]
  let⟨x,hx,hid⟩:=dNZ h0
  have hbl:=h.byt hx.2.2;simp;rw[h0];simp[ZAD];rw[w64 (by omega)];rw[show(if(((cV m c.2.2.2.1).2.1.length:Nat):Int)<c.2.2.2.2.2.2.2.1+c.2.2.2.2.2.2.2.2.1 then(((cV m c.2.2.2.1).2.1.length:Nat):Int) else c.2.2.2.2.2.2.2.1+c.2.2.2.2.2.2.2.2.1)=((min (c.2.2.2.2.2.2.2.1+c.2.2.2.2.2.2.2.2.1).toNat (cV m c.2.2.2.1).2.1.length:Nat):Int) from by split<;>omega,
   show(if(((cV m c.2.2.2.1).2.1.length:Nat):Int)<c.2.2.2.2.2.2.2.1 then(((cV m c.2.2.2.1).2.1.length:Nat):Int) else c.2.2.2.2.2.2.2.1)=((min c.2.2.2.2.2.2.2.1.toNat (cV m c.2.2.2.1).2.1.length:Nat):Int) from by split<;>omega]
  rw[show(if((min (c.2.2.2.2.2.2.2.1+c.2.2.2.2.2.2.2.2.1).toNat (cV m c.2.2.2.1).2.1.length:Nat):Int)>((min c.2.2.2.2.2.2.2.1.toNat (cV m c.2.2.2.1).2.1.length:Nat):Int) then((min (c.2.2.2.2.2.2.2.1+c.2.2.2.2.2.2.2.2.1).toNat (cV m c.2.2.2.1).2.1.length:Nat):Int) else((min c.2.2.2.2.2.2.2.1.toNat (cV m c.2.2.2.1).2.1.length:Nat):Int))=((max (min c.2.2.2.2.2.2.2.1.toNat (cV m c.2.2.2.1).2.1.length) (min (c.2.2.2.2.2.2.2.1+c.2.2.2.2.2.2.2.2.1).toNat (cV m c.2.2.2.1).2.1.length):Nat):Int) from by split<;>omega];rw[aLZ (by omega),ZAA,aLZ (by omega),ZAA,jhZ (by rw[ZAu,ZAS];omega)]
  rfl
 ·rw[ZAK h0];simp[ZAa.2 h0,ZAl,ZAL]
  rfl
def lT(b:Byt)(n:Nat):Byt:=b.take n++List.replicate (n-b.length) 0
theorem aRZ(b)(n):(lT b n).length=n:=by grind[lT]
theorem mgZ(b:Byt)(n):bY (List.replicate n 0) 0 (List.take (List.replicate (α:=UInt8) n 0).length b)=lT b n:=by
 unfold bY lT
 grind
def rE(l:List Ino)(h:Int×Int)(n:Int):List Ino:=
 match l[(h.1-1).toNat]? with
 |some x=>l.set (h.1-1).toNat (x.1,x.2.1,x.2.2.1,x.2.2.2.1,n,x.2.2.2.2.2)
 |none=>l
def nS(m:Mod)(h:Int×Int)(b:Byt):Mod:=((rE m.1.1 h ((b.length:Nat):Int),m.1.2),m.2.set (h.1-1).toNat b)
def lU(m:Mod)(c:bV):DoR:=
 if(cV m c.2.2.2.1).2.2=0 then
  if c.2.2.2.2.2.2.2.2.1>65536 then(177,m,kR)
  else(0,nS m c.2.2.2.1 (lT (cV m c.2.2.2.1).2.1 c.2.2.2.2.2.2.2.2.1.toNat),(c.2.2.2.1,false,c.2.2.2.2.2.2.2.2.1,[],[],false,0))
 else((cV m c.2.2.2.1).2.2,m,kR)
theorem vRZ{m}(h:bW m)(c)(hn:0<=c.2.2.2.2.2.2.2.2.1):
 xA bB m.1.1 m.1.2 m.2 c.1 c.2.1 ((c.2.2.1.toNat:Nat):Int) c.2.2.2.1.1 c.2.2.2.1.2 c.2.2.2.2.1 c.2.2.2.2.2.1.1 c.2.2.2.2.2.1.2 c.2.2.2.2.2.2.1 c.2.2.2.2.2.2.2.1 c.2.2.2.2.2.2.2.2.1 c.2.2.2.2.2.2.2.2.2 c.1 c.2.1 0 0 0 false 0 false 0=some (stO (lU m c) c):=by
 unfold xA lU Pb Pc Pd Pe Pf Pg Ph Pi Pj Pk Pl Pm Pn Po Pp Pq Pr Ps Pt Pu Pv Pw Px Py PW PY;rw[p4Z h c,ZAA];by_cases h0:(cV m c.2.2.2.1).2.2=0
 ·rw[ZAM h0]
  let⟨x,hx,hid⟩:=dNZ h0
  have hbl:=h.byt hx.2.2;have hl:=h.len
  let⟨q1,q2,q3⟩:=pKZ h.t hx.1
  simp only;rw[h0];simp[ZAD];by_cases hb:c.2.2.2.2.2.2.2.2.1>65536
  ·rw[ZAM hb,ZAJ hb];rfl
  ·rw[ZAK hb,ZAF hb];simp;unfold yO;rw[hid,b0Z hn (by rw[arZ];omega),ZAA,b0Z hn (by omega),ZAA,acZ (by rw[ZAm,arZ];omega),w64 (by omega),azZ (by omega) (by rw[h.n];omega),ZAA,hx.2.2,ZAA,
    ksZ (by rw[h.n];omega),ZAA,azZ (by omega) (by rw[h.n];omega),ZAA,hx.2.2,ZAA,dXZ h.fit,ZAA]
   simp only;rw[azZ (by omega) (by omega),ZAA,hx.1.2.1,ZAA,ZAA,mgZ];simp only[stO,nS,rE,hx.1.2.1,aRZ];rw[show((c.2.2.2.2.2.2.2.2.1.toNat:Nat):Int)=c.2.2.2.2.2.2.2.2.1 by omega]
 ·rw[ZAK h0];simp only[stF,ZAa.2 h0,ZAl,ZAL]
  rfl
def dP(b:Byt)(off:Int)(bs:Byt):Nat:=max b.length (if bs.length=0 then 0 else off.toNat+bs.length)
def mV(b:Byt)(off:Int)(bs:Byt):Byt:=bY (lT b (dP b off bs)) (min off.toNat (dP b off bs)) bs
def iL(m:Mod)(c:bV):DoR:=
 if(cV m c.2.2.2.1).2.2=0 then
  if c.2.2.2.2.2.2.2.1+((c.2.2.2.2.2.2.2.2.2.length:Nat):Int)>65536 then(177,m,kR)
  else(0,nS m c.2.2.2.1 (mV (cV m c.2.2.2.1).2.1 c.2.2.2.2.2.2.2.1 c.2.2.2.2.2.2.2.2.2),(c.2.2.2.1,false,((dP (cV m c.2.2.2.1).2.1 c.2.2.2.2.2.2.2.1 c.2.2.2.2.2.2.2.2.2:Nat):Int),[],[],false,0))
 else((cV m c.2.2.2.1).2.2,m,kR)
theorem cUZ(b)(off)(bs):(mV b off bs).length=dP b off bs:=by
 unfold mV bY;rw[ZAe,ZAe,ZAS,ZAu,aRZ];unfold dP
 grind
theorem h2Z(g)(hg:∀b,g (.inl b)=some b)(y:Byt⊕Option (Nat×(Nat×Nat)))(v)(hy:g y=some v):∀(l:List Byt) (i),i<l.length->cJ g ((l.map Sum.inl).set i y)=some (l.set i v)
 |[],i,h=>by grind
 |a::l,0,_=>by
  have e:cJ g (l.map Sum.inl)=some l:=by
   induction l with
   |nil=>rfl
   |cons x l ih=>simp[cJ,hg,ih]
  simp_all[cJ]
 |a::l,i+1,h=>by
  have:=h2Z g hg y v hy l i (by simpa using h);simp[cJ,hg,this]
theorem hZZ(l:Byt)(k):bY l k []=l:=by simp_all[bY]
theorem tfZ(out bs:Byt)(q)(hq:q<=out.length)(hb:bs=[]\/q+bs.length<=out.length):
 ∃k,sF [(1,out)] (lI (.inr (some (0,(0,out.length)))) q (out.length-q)) bs=some ([(1,bY out q bs)],k):=by
 unfold lI;by_cases h0:out.length-q=0
 ·have hbs:bs=[]:=by
   rcases hb with h|h
   ·exact h
   ·exact ZAY (by omega)
  subst hbs;rw[h0,hZZ];exact⟨0,rfl⟩
 ·rw[(ahZ h0)];unfold sF;simp[ZAA];rw[acZ (by simp;omega)];have:bs.take (out.length-q)=bs:=ZAv (by
   rcases hb with h|h
   ·simp[h]
   ·omega)
  simp_all
theorem tgZ(w:Byt)(n)(hn:n=w.length):bT [⟨3,.byte,List.map bX [(1,w)]⟩] (.ref 3 .byte) (.inr (some (0,(0,n))))=some w:=by
 subst hn;show FH [(2,w)] 0 0 w.length=some w;unfold FH
 simp_all[aVZ]
theorem upZ{m}(h:bW m)(c)(ho:0<=c.2.2.2.2.2.2.2.1/\c.2.2.2.2.2.2.2.1<=2147483648)(hbs:c.2.2.2.2.2.2.2.2.2.length<=4096):
 wZ bB m.1.1 m.1.2 m.2 c.1 c.2.1 ((c.2.2.1.toNat:Nat):Int) c.2.2.2.1.1 c.2.2.2.1.2 c.2.2.2.2.1 c.2.2.2.2.2.1.1 c.2.2.2.2.2.1.2 c.2.2.2.2.2.2.1 c.2.2.2.2.2.2.2.1 c.2.2.2.2.2.2.2.2.1 c.2.2.2.2.2.2.2.2.2 c.1 c.2.1 0 0 0 false 0 false 0=some (stO (iL m c) c):=by
 unfold wZ iL Pa Pb Pc Pd Pe Pf Pg Ph Pi Pj Pk Pl Pm Pn Po Pp Pq Pr Ps Pt Pu Pv Pw Px PB PW PX;rw[p4Z h c,ZAA];by_cases h0:(cV m c.2.2.2.1).2.2=0
 ·rw[ZAM h0];obtain⟨x,hx,hid⟩:=dNZ h0;have hbl:=h.byt hx.2.2;have hl:=h.len;obtain⟨q1,q2,q3⟩:=pKZ h.t hx.1;simp only[stF];rw[h0,hid];simp only[ZAb,ZAO,ZAD];have hx2:=hx.2.2;generalize (cV m c.2.2.2.1).2.1=b at hbl hx2⊢;rw[w64 (by omega)];by_cases hb:c.2.2.2.2.2.2.2.1+((c.2.2.2.2.2.2.2.2.2.length:Nat):Int)>65536
  ·rw[ZAM hb,ZAJ hb];rfl
  ·rw[ZAK hb,ZAF hb];simp only[ZAD];have hN:dP b c.2.2.2.2.2.2.2.1 c.2.2.2.2.2.2.2.2.2<=65536:=by unfold dP;split<;>omega
   have key:∀(e),(if e>((b.length:Nat):Int) then e else((b.length:Nat):Int))=((dP b c.2.2.2.2.2.2.2.1 c.2.2.2.2.2.2.2.2.2:Nat):Int)->
    ((uC bB c.2.2.2.1.1 (if e>((b.length:Nat):Int) then e else((b.length:Nat):Int)) m.1.1 m.1.2 m.2 c.1 c.2.1 ((c.2.2.1.toNat:Nat):Int) c.2.2.2.1.1 c.2.2.2.1.2 c.2.2.2.2.1 c.2.2.2.2.2.1.1 c.2.2.2.2.2.1.2 c.2.2.2.2.2.2.1 c.2.2.2.2.2.2.2.1 c.2.2.2.2.2.2.2.2.1 c.2.2.2.2.2.2.2.2.2 c.1 c.2.1 0 0 0 false 0 false 0).bind fun r1=>
      (cT (if(((fM (s:=.byte) r1.1):Nat):Int)<r1.2.2.2.2.2.2.2.2.2.2.2.1 then(((fM (s:=.byte) r1.1):Nat):Int) else r1.2.2.2.2.2.2.2.2.2.2.2.1) (fM (s:=.byte) r1.1)).bind fun q=>
      (sF r1.2.2.2.2.2.2.2.2.2.2.2.2.2.2.2.2.2.2.2.2.2.2.2.2.2 (lI r1.1 q ((fM (s:=.byte) r1.1)-q)) r1.2.2.2.2.2.2.2.2.2.2.2.2.2.1).bind fun m=>
      (cJ (bT [⟨3,.byte,(List.map bX m.1)⟩] (.ref 3 .byte)) r1.2.2.2.2.2.2.2.2.2.2.2.2.2.2.2.2.2.2.2.2.2.2.2.2.1).bind fun l=>
      some ((0:Int),(r1.2.2.2.2.2.2.2.2.2.2.2.2.2.2.2.2.2.2.2.2.2.2.2.1,(r1.2.1,(l,(r1.2.2.1,(r1.2.2.2.1,(r1.2.2.2.2.1,(r1.2.2.2.2.2.1,(r1.2.2.2.2.2.2.1,(r1.2.2.2.2.2.2.2.1,(r1.2.2.2.2.2.2.2.2.1,(r1.2.2.2.2.2.2.2.2.2.1,(r1.2.2.2.2.2.2.2.2.2.2.1,(r1.2.2.2.2.2.2.2.2.2.2.2.1,(r1.2.2.2.2.2.2.2.2.2.2.2.2.1,(r1.2.2.2.2.2.2.2.2.2.2.2.2.2.1,(r1.2.2.2.2.2.2.2.2.2.2.2.2.2.2.1,(r1.2.2.2.2.2.2.2.2.2.2.2.2.2.2.2.1,(r1.2.2.2.2.2.2.2.2.2.2.2.2.2.2.2.2.1,(r1.2.2.2.2.2.2.2.2.2.2.2.2.2.2.2.2.2.1,(r1.2.2.2.2.2.2.2.2.2.2.2.2.2.2.2.2.2.2.1,(r1.2.2.2.2.2.2.2.2.2.2.2.2.2.2.2.2.2.2.2.1,(r1.2.2.2.2.2.2.2.2.2.2.2.2.2.2.2.2.2.2.2.2.1,(r1.2.2.2.2.2.2.2.2.2.2.2.2.2.2.2.2.2.2.2.2.2.1,r1.2.2.2.2.2.2.2.2.2.2.2.2.2.2.2.2.2.2.2.2.2.2.1)))))))))))))))))))))))))=
    some (stO (0,nS m c.2.2.2.1 (mV b c.2.2.2.2.2.2.2.1 c.2.2.2.2.2.2.2.2.2),(c.2.2.2.1,false,((dP b c.2.2.2.2.2.2.2.1 c.2.2.2.2.2.2.2.2.2:Nat):Int),[],[],false,0)) c):=by
    intro e he;rw[he];have hlen:=(show(List.map (dE (.ref 3 .byte)) m.2).length=m.2.length from ZAs _).trans h.n;have bG:(List.map (dE (.ref 3 .byte)) m.2)[(c.2.2.2.1.1-1).toNat]? =some (.inl b):=((ZAW)).trans (congrArg (Option.map (dE (.ref 3 .byte))) hx2);unfold uC;rw[aLZ (by rw[arZ];omega),ZAA,aLZ (ZAN _),ZAA,acZ (by rw[ZAm,arZ];omega),w64 (by omega),azZ (by omega) (by rw[h.n];omega),ZAA,hx2,ZAA,
     ksZ (by rw[h.n];omega),ZAA,azZ (by omega) (by rw[hlen];omega),ZAA,bG,ZAA,show((m.1.1,m.1.2):dH)=m.1 from rfl,dXZ h.fit,ZAA]
    simp only;rw[azZ (by omega) (by omega),ZAA,hx.1.2.1,ZAA,ZAA,mgZ,aRZ];simp only[ZBe];have hR:fM (s:=.byte) (.inr (some (0,(0,dP b c.2.2.2.2.2.2.2.1 c.2.2.2.2.2.2.2.2.2))))=dP b c.2.2.2.2.2.2.2.1 c.2.2.2.2.2.2.2.2.2:=rfl;rw[hR,show(if((dP b c.2.2.2.2.2.2.2.1 c.2.2.2.2.2.2.2.2.2:Nat):Int)<c.2.2.2.2.2.2.2.1 then((dP b c.2.2.2.2.2.2.2.1 c.2.2.2.2.2.2.2.2.2:Nat):Int) else c.2.2.2.2.2.2.2.1)=((min c.2.2.2.2.2.2.2.1.toNat (dP b c.2.2.2.2.2.2.2.1 c.2.2.2.2.2.2.2.2.2):Nat):Int) from by split<;>omega,
     aLZ (by omega),ZAA]
    obtain⟨k,hk⟩:=tfZ (lT b (dP b c.2.2.2.2.2.2.2.1 c.2.2.2.2.2.2.2.2.2)) c.2.2.2.2.2.2.2.2.2 (min c.2.2.2.2.2.2.2.1.toNat (dP b c.2.2.2.2.2.2.2.1 c.2.2.2.2.2.2.2.2.2)) (by rw[aRZ];omega) (by
     by_cases hz:c.2.2.2.2.2.2.2.2.2.length=0
     ·exact .inl (ZAY hz)
     ·right;rw[aRZ];unfold dP;rw[ZAK hz];omega)
    rw[aRZ] at hk;rw[hk,ZAA];have hu:=h2Z (bT [⟨3,.byte,List.map bX [(1,mV b c.2.2.2.2.2.2.2.1 c.2.2.2.2.2.2.2.2.2)]⟩] (.ref 3 .byte)) (fun _=>rfl) (.inr (some (0,(0,dP b c.2.2.2.2.2.2.2.1 c.2.2.2.2.2.2.2.2.2)))) _ (tgZ _ _ (cUZ b _ _).symm) m.2 (c.2.2.2.1.1-1).toNat (by rw[h.n];omega);have hu':=hu;refine(congrArg (fun o=>Option.bind o _) hu').trans ?_;have bS:nS m c.2.2.2.1 (mV b c.2.2.2.2.2.2.2.1 c.2.2.2.2.2.2.2.2.2)=((m.1.1.set (c.2.2.2.1.1-1).toNat (x.1,x.2.1,x.2.2.1,x.2.2.2.1,((dP b c.2.2.2.2.2.2.2.1 c.2.2.2.2.2.2.2.2.2:Nat):Int),x.2.2.2.2.2),m.1.2),m.2.set (c.2.2.2.1.1-1).toNat (mV b c.2.2.2.2.2.2.2.1 c.2.2.2.2.2.2.2.2.2)):=by
     unfold nS rE;rw[hx.1.2.1,cUZ]
    rw[bS]
    rfl
   by_cases hz:c.2.2.2.2.2.2.2.2.2.length=0
   ·rw[show(((c.2.2.2.2.2.2.2.2.2.length:Nat):Int)==0)=true from by rw[hz];rfl];simp only[ZAL,ZAA];exact key 0 (by unfold dP;rw[ZAM hz];split<;>omega)
   ·rw[(ZAa.2 (by omega))];simp only[ZAD,ZAA];exact key _ (by unfold dP;rw[ZAK hz];split<;>omega)
 ·rw[ZAK h0];simp only[stF,ZAa.2 h0,ZAl,ZAL]
  rfl
def IK(m:Mod)(c:bV)(k:Nat):Int×(List Ino×(Int×(List Byt×(Int×(Int×(Int×(Int×(Int×(Byt×(Int×(Int×(Byt×(Int×(Int×(Byt×JG))))))))))))))):=(fun fr:Int=>((k:Int),(m.1.1,(m.1.2,(m.2,(c.1,(c.2.1,(((c.2.2.1.toNat:Nat):Int),(c.2.2.2.1.1,(c.2.2.2.1.2,(c.2.2.2.2.1,(c.2.2.2.2.2.1.1,(c.2.2.2.2.2.1.2,(c.2.2.2.2.2.2.1,(c.2.2.2.2.2.2.2.1,(c.2.2.2.2.2.2.2.2.1,(c.2.2.2.2.2.2.2.2.2,(c.1,(c.2.1,(0,(0,(0,(false,(0,(false,fr))))))))))))))))))))))))) (500-((sA (m.1.1.take k):Nat):Int))
theorem vHZ{m}(h:bW m)(c):xE bB m.1.1 m.1.2 m.2 c.1 c.2.1 ((c.2.2.1.toNat:Nat):Int) c.2.2.2.1.1 c.2.2.2.1.2 c.2.2.2.2.1 c.2.2.2.2.2.1.1 c.2.2.2.2.2.1.2 c.2.2.2.2.2.2.1 c.2.2.2.2.2.2.2.1 c.2.2.2.2.2.2.2.2.1 c.2.2.2.2.2.2.2.2.2 c.1 c.2.1 0 0 0 false 0 false 0=some (stO (AL m) c):=by
 unfold xE;have hl:=h.len;have hS:∀k,sA (m.1.1.take k)<=500:=fun k=>by
  unfold sA
  grind[List.countP_le_length,ZAS]
 have loop:mP bB m.1.1 (IK m c 0)=some ((fun fr=>(m.1.1,(m.1.2,(m.2,(c.1,(c.2.1,(((c.2.2.1.toNat:Nat):Int),(c.2.2.2.1.1,(c.2.2.2.1.2,(c.2.2.2.2.1,(c.2.2.2.2.2.1.1,(c.2.2.2.2.2.1.2,(c.2.2.2.2.2.2.1,(c.2.2.2.2.2.2.2.1,(c.2.2.2.2.2.2.2.2.1,(c.2.2.2.2.2.2.2.2.2,(c.1,(c.2.1,(0,(0,(0,(false,(0,(false,fr)))))))))))))))))))))))) (500-((sA m.1.1:Nat):Int))):=by
  unfold mP;refine aoZ (IK m c) m.1.1.length (by omega) (fun k hk=> ?_) ?_
  ·simp only[IK];unfold sS Ph Pi Pj Pk Pl Pm Pn Po Pp Pq Pr Ps Pt Pu Pv PV;obtain⟨x,hx⟩:∃x,m.1.1[k]? =some x:=⟨_,ZAC hk⟩;have hk1:=hS k;simp only[aDZ hk];rw[adZ hk,ZAA,hx,ZAA];have ht:m.1.1.take (k+1)=m.1.1.take k++[x]:=by rw[List.take_add_one,hx];rfl
   have hu:sA (m.1.1.take (k+1))=sA (m.1.1.take k)+(if x.2.2.1=true then 1 else 0):=by
    rw[ht];unfold sA;rw[List.countP_append];cases hb:x.2.2.1<;>simp[hb]
   cases hb:x.2.2.1 with
   |true=>
    rw[hb,ZAM rfl] at hu;simp only[ZAL];rw[w64 (by omega),w64 (by omega),show(500:Int)-((sA (m.1.1.take k):Nat):Int)-1=500-((sA (m.1.1.take (k+1)):Nat):Int) by omega]
    rfl
   |false=>
    rw[hb,ZAK (by simp)] at hu;simp only[ZAD,ZAA];rw[w64 (by omega),hu]
    rfl
  ·simp only[IK];unfold sS Ph Pi Pj Pk Pl Pm Pn Po Pp Pq Pr Ps Pt Pu Pv PV;simp only[aEZ (ZAz _),ZAD];rw[ZAx]
 refine(congrArg (fun o=>Option.bind o _) loop).trans ?_
 rfl
def kC(l:List Ino)(d:List Byt):List Byt:=l.mapIdx fun i x=>bif x.2.2.1 then(d[i]?).getD [] else[]
theorem ghZ(l)(d):(kC l d).length=l.length:=by simp_all[kC]
theorem dvZ{l}(d){i:Nat}{x}(h:l[i]? =some x):(kC l d)[i]? =some (bif x.2.2.1 then(d[i]?).getD [] else[]):=by
 simp_all[kC]
theorem aWZ{α:Type}{l:List α}{k}{x}(h:l[k]? =some x):l.take (k+1)=l.take k++[x]:=by simp_all[List.take_add_one]
def IL(l:List Ino)(s:Int)(d:List Byt)(x3:Int)(x4:Int)(x5:Int)(x6:Int)(x7:Int)(x8:Byt)(x9:Int)(x10:Int)(x11:Byt)(x12:Int)(x13:Int)(x14:Byt)(x15:Int)(x16:Int)(x17:Int)(x18:Int)(x19:Int)(x20:Bool)(x21:Int)(x22:Byt)(x23:List Ent)(x24:Bool)(x25:Int)(k:Nat):Int×(List Ino×(Int×(List Byt×(Int×(Int×(Int×(Int×(Int×(Byt×(Int×(Int×(Byt×(Int×(Int×(Byt×(Int×(Int×(Int×(Int×(Int×(Bool×(Int×(Byt×(List Ent×(Bool×(Int×(Int×(Int×(List Ino×(List Byt)))))))))))))))))))))))))))))):=((k:Int),(l,(s,(d,(x3,(x4,(x5,(x6,(x7,(x8,(x9,(x10,(x11,(x12,(x13,(x14,(x15,(x16,(x17,(x18,(x19,(x20,(x21,(x22,(x23,(x24,(x25,(0,(s,(l,(kC l d).take k))))))))))))))))))))))))))))))
theorem v4Z(l)(s)(d:List Byt)(x3)(x4)(x5)(x6)(x7)(x8:Byt)(x9)(x10)(x11:Byt)(x12)(x13)(x14:Byt)(x15)(x16)(x17)(x18)(x19)(x20)(x21)(x22:Byt)(x23:List Ent)(x24)(x25)(hf:Fit l)(hl:l.length<=500)(hd:∀(i:Nat) b,d[i]? =some b->b.length<=65536):
 uH bB l s d x3 x4 x5 x6 x7 x8 x9 x10 x11 x12 x13 x14 x15 x16 x17 x18 x19 x20 x21 x22 x23 x24 x25=some (s,(l,(s,(d,(x3,(x4,(x5,(x6,(x7,(x8,(x9,(x10,(x11,(x12,(x13,(x14,(x15,(x16,(x17,(x18,(x19,(x20,(x21,(x22,(x23,(x24,(x25,(l,kC l d)))))))))))))))))))))))))))):=by
 unfold uH Pd Pe Pf Pg Ph Pi Pj Pk Pl Pm Pn Po Pp Pq Pr Ps Pt Pu Pv Pw Px Py Pza PZA;rw[dXZ hf];have loop:mQ bB (s,l) (IL l s d x3 x4 x5 x6 x7 x8 x9 x10 x11 x12 x13 x14 x15 x16 x17 x18 x19 x20 x21 x22 x23 x24 x25 0)=some (l,(s,(d,(x3,(x4,(x5,(x6,(x7,(x8,(x9,(x10,(x11,(x12,(x13,(x14,(x15,(x16,(x17,(x18,(x19,(x20,(x21,(x22,(x23,(x24,(x25,(0,(s,(l,kC l d))))))))))))))))))))))))))))):=by
  unfold mQ;refine aoZ (IL l s d x3 x4 x5 x6 x7 x8 x9 x10 x11 x12 x13 x14 x15 x16 x17 x18 x19 x20 x21 x22 x23 x24 x25) l.length (by omega) (fun k hk=> ?_) ?_
  ·simp only[IL];unfold sU Pb Pc Pd Pe Pf Pg Ph Pi Pj Pk Pl Pm Pn Po Pp Pq Pr Ps Pt Pu Pv Pw Px Py Pz Pza Pzb Pzc PZC;obtain⟨x,hx⟩:∃x,l[k]? =some x:=⟨_,ZAC hk⟩;have hm:=dvZ d hx;have hlen:((kC l d).take k).length<=500:=by rw[ZAS];omega
   simp only[aDZ hk];rw[adZ hk,ZAA,hx,aWZ hm];by_cases hkd:k<d.length
   ·obtain⟨b,hb⟩:∃b,d[k]? =some b:=⟨_,ZAC hkd⟩;have hbl:=hd k b hb;rw[aDZ hkd];simp only[ZAL,ZAA];cases hu:x.2.2.1 with
    |true=>
     simp only[ZAL];rw[adZ hkd,ZAA,hb,ZAA,jhZ (by omega),ZAA,ZAA];simp only;rw[acZ (by simp only[ZAE,ZAm,arZ];omega),w64 (by omega)]
     rfl
    |false=>
     simp only[ZAD,ZAA];rw[acZ (by simp only[ZAE,ZAm,arZ];omega),w64 (by omega)]
     rfl
   ·rw[aEZ hkd,ZAg (show d.length<=k by omega)];simp only[ZAD,ZAA];rw[acZ (by simp only[ZAE,ZAm,arZ];omega),w64 (by omega)];cases hu:x.2.2.1<;>rfl
  ·simp only[IL];unfold sU Pb Pc Pd Pe Pf Pg Ph Pi Pj Pk Pl Pm Pn Po Pp Pq Pr Ps Pt Pu Pv Pw Px Py Pz Pza Pzb Pzc PZC;simp only[aEZ (ZAz _),ZAD];rw[ZAv (by rw[ghZ];exact ZAN _)]
 refine(congrArg (fun o=>Option.bind o _) loop).trans ?_
 rfl
def doS(y1:Int)(y2:Int)(y3:Int)(y4:Int)(y5:Int)(y6:Byt)(y7:Int)(y8:Int)(y9:Byt)(y10:Int)(y11:Int)(y12:Byt)(y13:Int)(y14:Int)(y15:Int)(y16:Int)(y17:Int)(y18:Int)(y19:Bool)(y20:Int)(y21:Bool)(y22:Int)(st:Int)(l:List Ino)(d:List Byt)(k:Nat):Int×(Int×(Int×(Int×(Int×(Int×(Byt×(Int×(Int×(Byt×(Int×(Int×(Byt×(Int×(Int×(Int×(Int×(Int×(Int×(Bool×(Int×(Bool×(Int×(Int×(List Ino×(List Byt))))))))))))))))))))))))):=((k:Int),(y1,(y2,(y3,(y4,(y5,(y6,(y7,(y8,(y9,(y10,(y11,(y12,(y13,(y14,(y15,(y16,(y17,(y18,(y19,(y20,(y21,(y22,(st,(l,d.take k)))))))))))))))))))))))))
theorem wlZ(o1:Int×(List Ino×(Int×(List Byt×(Int×(Int×(Int×(Int×(Int×(Byt×(Int×(Int×(Byt×(Int×(Int×(Byt×(Int×(Int×(Int×(Int×(Int×(Int×(Bool×(Int×(Bool×(Int×(List Ino×(Int×(List Byt×(Int×(Int×(Int×(Int×(Int×(Byt×(Int×(Int×(Byt×(Int×(Int×(Byt×(Int×(Int×(Int×(Int×(Int×(Bool×(Int×(Byt×(List Ent×(Bool×Int)))))))))))))))))))))))))))))))))))))))))))))))))))(y1)(y2)(y3)(y4)(y5)(y6)(y7)(y8)(y9)(y10)(y11)(y12)(y13)(y14)(y15)(y16)(y17)(y18)(y19)(y20)(y21)(y22)(st)(l)(d)(ho:o1.2.2.2.1=d)(hl:d.length<=501)(hd:∀(i:Nat) b,d[i]? =some b->b.length<=65536):
 gH bB o1 (doS y1 y2 y3 y4 y5 y6 y7 y8 y9 y10 y11 y12 y13 y14 y15 y16 y17 y18 y19 y20 y21 y22 st l d 0)=some (y1,(y2,(y3,(y4,(y5,(y6,(y7,(y8,(y9,(y10,(y11,(y12,(y13,(y14,(y15,(y16,(y17,(y18,(y19,(y20,(y21,(y22,(st,(l,d)))))))))))))))))))))))):=by
 subst ho;unfold gH;refine aoZ (doS y1 y2 y3 y4 y5 y6 y7 y8 y9 y10 y11 y12 y13 y14 y15 y16 y17 y18 y19 y20 y21 y22 st l o1.2.2.2.1) o1.2.2.2.1.length (by omega) (fun k hk=> ?_) ?_
 ·simp only[doS];unfold pX;obtain⟨b,hb⟩:∃b,o1.2.2.2.1[k]? =some b:=⟨_,ZAC hk⟩;have hbl:=hd k b hb;have hlen:(o1.2.2.2.1.take k).length<=501:=by rw[ZAS];omega
  simp only[aDZ hk];rw[adZ hk,ZAA,hb,ZAA,jhZ (by omega),ZAA,acZ (by simp[arZ];omega),w64 (by omega),aWZ hb]
  rfl
 ·simp only[doS];unfold pX;simp only[aEZ (ZAz _),ZAD];rw[ZAx]
theorem vwZ(o1:Int×(List Ino×(Int×(List Byt×(Int×(Int×(Int×(Int×(Int×(Byt×(Int×(Int×(Byt×(Int×(Int×(Byt×(Int×(Int×(Int×(Int×(Int×(Int×(Bool×(Int×(Bool×(Int×(List Ino×(Int×(List Byt×(Int×(Int×(Int×(Int×(Int×(Byt×(Int×(Int×(Byt×(Int×(Int×(Byt×(Int×(Int×(Int×(Int×(Int×(Bool×(Int×(Byt×(List Ent×(Bool×Int)))))))))))))))))))))))))))))))))))))))))))))))))))(y1)(y2)(y3)(y4)(y5)(y6:Byt)(y7)(y8)(y9:Byt)(y10)(y11)(y12:Byt)(y13)(y14)(y15)(y16)(y17)(y18)(y19)(y20)(y21)(y22)(st)(l:List Ino)(d)(ho:o1.2.2.2.1=d)(hl:d.length<=501)(hd:∀(i:Nat) b,d[i]? =some b->b.length<=65536):
 gH bB o1 (0,(y1,(y2,(y3,(y4,(y5,(y6,(y7,(y8,(y9,(y10,(y11,(y12,(y13,(y14,(y15,(y16,(y17,(y18,(y19,(y20,(y21,(y22,(st,(l,[])))))))))))))))))))))))))=some (y1,(y2,(y3,(y4,(y5,(y6,(y7,(y8,(y9,(y10,(y11,(y12,(y13,(y14,(y15,(y16,(y17,(y18,(y19,(y20,(y21,(y22,(st,(l,d)))))))))))))))))))))))):=wlZ o1 y1 y2 y3 y4 y5 y6 y7 y8 y9 y10 y11 y12 y13 y14 y15 y16 y17 y18 y19 y20 y21 y22 st l d ho hl hd
def mW(l:List Ino)(d:List Byt):Prop:=∀(i:Nat) x,l[i]? =some x->x.2.2.1=true->x.2.2.2.2.2.1=[]/\((((d[i]?).getD []).length:Nat):Int)=x.2.2.2.2.1
theorem bW.kept{m}(h:bW m):mW m.1.1 m.2:=fun i x hx _=>by
 let⟨b,hb,hs,_⟩:=h.at hx
 rw[hb];exact⟨h.p i x hx,hs⟩
theorem mW.model{t}{d}(h:bL t)(k:mW t.1 d):bW (t,kC t.1 d):=by
 refine⟨h,ghZ _ _,fun i x hx=> ?_,fun i x b hx hb=> ?_⟩
 ·cases hu:x.2.2.1 with
  |true=>exact(k i x hx hu).1
  |false=>exact((h.r.ino i x hx).bare hu).2.2.2.1
 ·rw[dvZ d hx] at hb;simp at hb;subst hb;cases hu:x.2.2.1 with
  |true=>exact(k i x hx hu).2
  |false=>rw[((h.r.ino i x hx).bare hu).2.1];rfl
theorem eHZ{l}{d}(k:mW l d)(i)(f)(hf:∀n,(f n).2.2.1=true->n.2.2.1=true/\(f n).2.2.2.2.2.1=n.2.2.2.2.2.1/\(f n).2.2.2.2.1=n.2.2.2.2.1):mW (wM l i f) d:=by
 intro j x hx hu;rw[bnZ] at hx;split at hx
 ·cases hn:l[j]? with
  |none=>rw[hn] at hx;cases hx
  |some n=>
   rw[hn] at hx;simp[ZAV] at hx;subst hx
   let⟨q1,q2,q3⟩:=hf n hu
   rw[q2,q3];exact k j n hn q1
 ·exact k j x hx hu
theorem kLZ{l}{d}(k:mW l d)(a)(s)(id):mW (jT l a s id) d:=eHZ k _ _ fun _ h=>⟨h,rfl,rfl⟩
theorem ffZ{l}{d}(k:mW l d)(a)(s):mW (cR l a s) d:=eHZ k _ _ fun _ h=>⟨h,rfl,rfl⟩
theorem qjZ{l}{d}(k:mW l d)(a p):mW (NO l a p) d:=eHZ k _ _ fun _ h=>⟨h,rfl,rfl⟩
theorem h8Z{l}{d}(k:mW l d)(a):mW (dV l a) d:=eHZ k _ _ fun _ h=>by cases h
theorem mQZ{l}{d}(k:mW l d)(a)(old)(b)(name)(id):mW (mvL l a old b name id) d:=qjZ (kLZ (ffZ k _ _) _ _ _) _ _
theorem owZ{m}(h:bW m){dir}{parent g}{l'}{i}(ha:oR m.1.1 dir parent=some (l',i,g)):mW l' m.2:=by
 unfold oR at ha;cases hf:oQ m.1.1 with
 |none=>
  rw[hf] at ha;simp only at ha;split at ha
  ·obtain⟨rfl,rfl,rfl⟩:=ha;intro j x hx hu;by_cases hj:j<m.1.1.length
   ·rw[ZAT hj] at hx;exact h.kept j x hx hu
   ·rw[ZAU (by omega)] at hx;have hj0:j-m.1.1.length=0:=by
     cases hq:j-m.1.1.length with
     |zero=>rfl
     |succ q=>rw[hq] at hx;simp at hx
    rw[hj0] at hx;simp[ZAV] at hx;subst hx;rw[ZAg (by rw[h.n];omega)];exact⟨rfl,rfl⟩
  simp_all
 |some k=>
  rw[hf] at ha;simp at ha
  let⟨hk,hused,_⟩:=ZA2.1 hf
  have hg:=ZAC hk;rw[hg] at ha;simp only at ha;split at ha
  ·simp[ZA0] at ha;obtain⟨rfl,rfl,rfl⟩:=ha;intro j x hx hu;by_cases hj:j=k
   ·subst hj;rw[ZAQ hk] at hx;simp at hx;subst hx
    let⟨b,hb,hs,_⟩:=h.at hg
    have hun:=by simpa using hused
    rw[((h.t.r.ino j _ hg).bare hun).2.1] at hs;rw[hb];exact⟨rfl,hs⟩
   ·rw[ZAX (fun e=>hj e.symm)] at hx;exact h.kept j x hx hu
  ·cases ha
theorem rwZ{m}(h:bW m)(d)(s)(is):mW (fO m.1 d s is).1.1 m.2:=by
 unfold fO;have k:=h.kept;split
 ·split
  ·split
   ·exact k
   ·split
    ·exact k
    ·split
     ·exact k
     ·split
      ·exact k
      ·rename_i l' i g ha;exact kLZ (owZ h ha) _ _ _
  ·exact k
 ·exact k
theorem kVZ{m}(h:bW m)(d)(s)(is):mW (dZ m.1 d s is).1.1 m.2:=by
 unfold dZ;have k:=h.kept;split
 ·split
  ·split
   ·exact k
   ·split
    ·exact k
    ·split
     ·exact k
     ·split
      ·exact h8Z (ffZ k _ _) _
      ·exact k
  ·exact k
 ·exact k
theorem lLZ{m}(h:bW m)(a)(old)(b)(name):mW (eA m.1 a old b name).1.1 m.2:=by
 unfold eA;have k:=h.kept;split
 ·split
  ·split
   ·split
    ·exact k
    ·split
     ·exact k
     ·split
      ·exact k
      ·split
       ·exact k
       ·split
        ·exact k
        ·split
         ·split
          ·exact k
          ·exact mQZ k _ _ _ _ _
         ·split
          ·exact k
          ·split
           ·exact k
           ·split
            ·exact mQZ (h8Z (ffZ k _ _) _) _ _ _ _ _
            ·exact k
   ·exact k
  ·exact k
 omega
def wS(x:Ino)(n:Int):Ino:=(x.1,x.2.1,x.2.2.1,x.2.2.2.1,n,x.2.2.2.2.2)
theorem mTZ{l:List Ino}{i}{x}(hx:l[i]? =some x)(n){j:Nat}{y}(hy:l[j]? =some y):∃y',(l.set i (wS x n))[j]? =some y'/\y'=wS y y'.2.2.2.2.1:=by
 by_cases hj:j=i
 ·subst hj;rw[hx] at hy;cases hy;exact⟨_,ZAQ (ZAB.1 hx).1,rfl⟩
 ·exact⟨y,by rw[ZAX (fun e=>hj e.symm)];exact hy,rfl⟩
theorem kQZ{l:List Ino}{i}{x}(hx:l[i]? =some x)(n){j}{y'}(hy:(l.set i (wS x n))[j]? =some y'):∃y,l[j]? =some y/\y'=wS y y'.2.2.2.2.1/\(j≠i->y'=y)/\(j=i->y=x/\y'=wS x n):=by
 by_cases hj:j=i
 ·subst hj;rw[ZAQ (ZAB.1 hx).1] at hy;simp at hy;subst hy;exact⟨x,hx,rfl,fun h=>absurd rfl h,fun _=>⟨rfl,rfl⟩⟩
 ·rw[ZAX (fun e=>hj e.symm)] at hy;exact⟨y',hy,rfl,fun _=>rfl,fun h=>absurd h hj⟩
theorem v6Z{l}{i}{x}(hx:l[i]? =some x)(n){id}(h:Rch l id):Rch (l.set i (wS x n)) id:=by
 induction h with
 |root=>exact .root
 |step hy hu _ ih=>
  let⟨y',h1,h2⟩:=mTZ hx n hy
  have hu':y'.2.2.1=true:=by rw[h2];exact hu
  have:=Rch.step h1 hu';rw[h2] at this;exact this ih
theorem pgZ{t}(h:bL t){i}{x}(hx:t.1[i]? =some x)(hu:x.2.2.1=true)(hd:x.2.2.2.1=false){n}(hn:0<=n/\n<=65536):bL (t.1.set i (wS x n),t.2):=by
 have hlen:(t.1.set i (wS x n)).length=t.1.length:=ZAt;refine⟨⟨by rw[hlen];exact h.r.len,h.r.str,fun j y' hy=> ?_,?_,?_⟩,fun j y' hy s id he=> ?_,fun j y' hy hu' hj=> ?_,fun j y' hy hu'=> ?_⟩
 ·let⟨y,h1,h2,h3,h4⟩:=kQZ hx n hy
  have o:=h.r.ino j y h1;show iS (t.1.set i (wS x n)).length t.2 j y';rw[hlen];by_cases hj:j=i
  ·obtain⟨rfl,h5⟩:=h4 hj;have f:=o.file hu hd;subst h5;exact⟨o.id,o.gen,o.par,fun _ hq=>(by have hq:y.2.2.2.1=true:=hq;rw[hd] at hq;cases hq),fun _ _=>⟨hn,f.2.1,f.2.2.1,f.2.2.2⟩,fun hq=>(by have hq:y.2.2.1=false:=hq;rw[hu] at hq;cases hq)⟩
  grind
 ·have e:bD (t.1.set i (wS x n))=bD t.1:=by
   unfold bD;rw[show(t.1.set i (wS x n)).flatMap (fun n=>bR n.2.2.2.2.2.1)=((t.1.set i (wS x n)).map fun n=>n.2.2.2.2.2.1).flatMap bR from by rw[List.flatMap_map],
    show t.1.flatMap (fun n=>bR n.2.2.2.2.2.1)=(t.1.map fun n=>n.2.2.2.2.2.1).flatMap bR from by rw[List.flatMap_map],List.map_set]
   congr 1;exact dGZ (by rw[ZAW,hx];rfl)
  show(bD (t.1.set i (wS x n))).Nodup;rw[e];exact h.r.nod
 ·let⟨r,q1,q2,q3,q4⟩:=h.r.root
  let⟨r',h1,h2⟩:=mTZ hx n q1
  refine⟨r',h1,?_,?_,?_⟩<;>rw[h2]
  ·exact q2
  ·exact q3
  ·exact q4
 ·let⟨y,h1,h2,_⟩:=kQZ hx n hy
  rw[h2] at he
  let⟨q1,q2,z,q3,q4,q5⟩:=h.e j y h1 s id he
  let⟨z',h3,h4⟩:=mTZ hx n q3
  exact⟨q1,q2,z',h3,by rw[h4];exact q4,by rw[h4];exact q5⟩
 ·let⟨y,h1,h2,_⟩:=kQZ hx n hy
  rw[h2] at hu'
  let⟨z,s,q1,q2,q3⟩:=h.u j y h1 hu' hj
  let⟨z',h3,h4⟩:=mTZ hx n q1
  refine⟨z',s,by rw[h2];exact h3,by rw[h4];exact q2,fun s' hs=> ?_⟩;rw[h4] at hs;exact q3 s' hs
 ·let⟨y,h1,h2,_⟩:=kQZ hx n hy
  rw[h2] at hu';exact v6Z hx n (h.a j y h1 hu')
theorem q7Z{m}(h:bW m){hd}{x}{b}(hx:IsF m hd x b){c}(hc:c.length<=65536):bL (nS m hd c).1/\mW (nS m hd c).1.1 (nS m hd c).2/\(nS m hd c).1.1.length=m.1.1.length/\(nS m hd c).2.length=m.2.length/\
 ∀(i:Nat) z,(nS m hd c).2[i]? =some z->z.length<=65536:=by
 let⟨⟨h1,hg,hu,hgen⟩,hdir,hb⟩:=hx
 have e:nS m hd c=((m.1.1.set (hd.1-1).toNat (wS x ((c.length:Nat):Int)),m.1.2),m.2.set (hd.1-1).toNat c):=by
  unfold nS rE;rw[hg]
  rfl
 rw[e];have hlt:=(ZAB.1 hg).1;refine⟨pgZ h.t hg hu hdir (by omega),fun j y' hy hu'=> ?_,ZAt,ZAt,fun i z hz=> ?_⟩
 ·let⟨y,q1,q2,q3,q4⟩:=kQZ hg _ hy
  by_cases hj:j=(hd.1-1).toNat
  ·obtain⟨rfl,q5⟩:=q4 hj;subst q5 hj;rw[ZAQ (by rw[h.n];exact hlt)];exact⟨h.p _ y q1,rfl⟩
  ·rw[q3 hj] at hu'⊢;rw[ZAX (fun e=>hj e.symm)];exact h.kept j y q1 hu'
 ·by_cases hi:i=(hd.1-1).toNat
  ·subst hi;rw[ZAQ (by rw[h.n];exact hlt)] at hz;cases hz;exact hc
  ·have hz:=hz;rw[ZAX (fun e=>hi e.symm)] at hz;exact h.byt hz
def cL(m:Mod)(c:bV):DoR:=if c.2.2.1=uO 1 then jE m c else if c.2.2.1=uO 2 then gJ m c else if c.2.2.1=uO 3 then gJ m c else if c.2.2.1=uO 4 then jL m c else if c.2.2.1=uO 5 then iL m c else if c.2.2.1=uO 6 then lU m c else if c.2.2.1=uO 7 then dI m c else if c.2.2.1=uO 8 then dI m c else if c.2.2.1=uO 9 then eV m c else if c.2.2.1=uO 10 then zC m c else if c.2.2.1=uO 11 then rP m c else if c.2.2.1=uO 12 then AL m else(179,m,kR)
structure wN (q:DoR):Prop where
 t:bL q.2.1.1
 k:mW q.2.1.1.1 q.2.1.2
 n:q.2.1.2.length<=501
 b:∀(i:Nat) z,q.2.1.2[i]? =some z->z.length<=65536
theorem wN.same{m}(h:bW m){q}(e:q.2.1=m):wN q:=by
 subst e;exact⟨h.t,h.kept,by have:=h.len;have:=h.n;grind,fun i z hz=>h.byt hz⟩
section
variable {m : Mod} (h : bW m) (c : bV)
include h
theorem dlen:m.2.length<=501:=by have:=h.len;have:=h.n;omega
theorem riZ:wN (jE m c):=.same h (by unfold jE;split<;>first|rfl|(split<;>rfl))
theorem qGZ:wN (jL m c):=.same h (by grind[jL])
theorem sdZ:wN (rP m c):=.same h (by grind[rP])
theorem jZZ:wN (gJ m c):=by
 unfold gJ;split
 ·exact⟨(jrZ h.t _ _ _).2,rwZ h _ _ _,dlen (m:=m) h,fun i z hz=>h.byt hz⟩
 ·exact .same h rfl
theorem giZ:wN (dI m c):=by
 unfold dI;split
 ·exact⟨(jXZ h.t _ _ _).2,kVZ h _ _ _,dlen (m:=m) h,fun i z hz=>h.byt hz⟩
 ·exact .same h rfl
theorem mkZ:wN (eV m c):=by
 unfold eV;split
 ·exact⟨(kNZ h.t _ _ _ _).2,lLZ h _ _ _ _,dlen (m:=m) h,fun i z hz=>h.byt hz⟩
 ·exact .same h rfl
theorem qbZ(hn:0<=c.2.2.2.2.2.2.2.2.1/\c.2.2.2.2.2.2.2.2.1<=2147483648):wN (lU m c):=by
 unfold lU;split
 ·rename_i h0
  let⟨x,hx,_⟩:=dNZ h0
  split
  ·exact .same h rfl
  ·let⟨q1,q2,q3,q4,q5⟩:=q7Z h hx (c:=lT (cV m c.2.2.2.1).2.1 c.2.2.2.2.2.2.2.2.1.toNat) (by rw[aRZ];omega)
   exact⟨q1,q2,by have:=dlen h;show(nS m _ _).2.length<=501;omega,q5⟩
 ·exact .same h rfl
theorem oPZ(hbs:c.2.2.2.2.2.2.2.2.2.length<=4096):wN (iL m c):=by
 unfold iL;split
 ·rename_i h0
  let⟨x,hx,_⟩:=dNZ h0
  have hbl:=h.byt hx.2.2;split
  ·exact .same h rfl
  ·let⟨q1,q2,q3,q4,q5⟩:=q7Z h hx (c:=mV (cV m c.2.2.2.1).2.1 c.2.2.2.2.2.2.2.1 c.2.2.2.2.2.2.2.2.2) (by rw[cUZ];unfold dP;split<;>omega)
   exact⟨q1,q2,by have:=dlen h;show(nS m _ _).2.length<=501;omega,q5⟩
 ·exact .same h rfl
theorem bhZ(hn:0<=c.2.2.2.2.2.2.2.2.1/\c.2.2.2.2.2.2.2.2.1<=2147483648)(hbs:c.2.2.2.2.2.2.2.2.2.length<=4096):wN (cL m c):=by
 unfold cL;by_cases h1:c.2.2.1=uO 1
 ·rw[ZAM h1];exact riZ h c
 rw[ZAK h1];by_cases h2:c.2.2.1=uO 2
 ·rw[ZAM h2];exact jZZ h c
 rw[ZAK h2];by_cases h3:c.2.2.1=uO 3
 ·rw[ZAM h3];exact jZZ h c
 rw[ZAK h3];by_cases h4:c.2.2.1=uO 4
 ·rw[ZAM h4];exact qGZ h c
 rw[ZAK h4];by_cases h5:c.2.2.1=uO 5
 ·rw[ZAM h5];exact oPZ h c hbs
 rw[ZAK h5];by_cases h6:c.2.2.1=uO 6
 ·rw[ZAM h6];exact qbZ h c hn
 rw[ZAK h6];by_cases h7:c.2.2.1=uO 7
 ·rw[ZAM h7];exact giZ h c
 rw[ZAK h7];by_cases h8:c.2.2.1=uO 8
 ·rw[ZAM h8];exact giZ h c
 rw[ZAK h8];by_cases h9:c.2.2.1=uO 9
 ·rw[ZAM h9];exact mkZ h c
 rw[ZAK h9];by_cases h10:c.2.2.1=uO 10
 ·rw[ZAM h10];exact .same h rfl
 rw[ZAK h10];by_cases h11:c.2.2.1=uO 11
 ·rw[ZAM h11];exact sdZ h c
 rw[ZAK h11];by_cases h12:c.2.2.1=uO 12
 ·rw[ZAM h12];exact .same h rfl
 rw[ZAK h12];exact .same h rfl
end
theorem r4Z(o):(tG o).2.2.2.2.1<=2147483648:=by grind[tG]
theorem a1Z{c}(hr:bK c=true):(0<=c.2.2.2.2.2.2.2.1/\c.2.2.2.2.2.2.2.1<=2147483648)/\(0<=c.2.2.2.2.2.2.2.2.1/\c.2.2.2.2.2.2.2.2.1<=2147483648)/\c.2.2.2.2.2.2.2.2.2.length<=4096:=by
 unfold bK vO at hr;have hs:=r4Z c.2.2.1.toNat
 grind
theorem ulZ:∀n,n<256->(tG n).2.2.2.2.2.2=true->uO n=uO 1\/uO n=uO 2\/uO n=uO 3\/uO n=uO 4\/uO n=uO 5\/uO n=uO 6\/uO n=uO 7\/uO n=uO 8\/uO n=uO 9\/uO n=uO 10\/uO n=uO 11\/uO n=uO 12:=by decide+kernel
theorem i3Z{c}(hr:bK c=true):c.2.2.1=uO 1\/c.2.2.1=uO 2\/c.2.2.1=uO 3\/c.2.2.1=uO 4\/c.2.2.1=uO 5\/c.2.2.1=uO 6\/c.2.2.1=uO 7\/c.2.2.1=uO 8\/c.2.2.1=uO 9\/c.2.2.1=uO 10\/c.2.2.1=uO 11\/c.2.2.1=uO 12:=by
 unfold bK vO at hr;simp at hr;have:=ulZ c.2.2.1.toNat c.2.2.1.toNat_lt hr.1
 simp_all
theorem mdZ(m)(c):(jE m c).2.2.2.2.2.1=[]/\(jE m c).2.2.2.2.2.2.1=[]:=by unfold jE;(repeat' split)<;>exact⟨rfl,rfl⟩
theorem fbZ(m)(c):(gJ m c).2.2.2.2.2.1=[]/\(gJ m c).2.2.2.2.2.2.1=[]:=by unfold gJ;(repeat' split)<;>exact⟨rfl,rfl⟩
theorem cEZ(m)(c):(dI m c).2.2.2.2.2.1=[]/\(dI m c).2.2.2.2.2.2.1=[]:=by unfold dI;(repeat' split)<;>exact⟨rfl,rfl⟩
theorem gOZ(m)(c):(eV m c).2.2.2.2.2.1=[]/\(eV m c).2.2.2.2.2.2.1=[]:=by unfold eV;(repeat' split)<;>exact⟨rfl,rfl⟩
theorem lWZ(m)(c):(lU m c).2.2.2.2.2.1=[]/\(lU m c).2.2.2.2.2.2.1=[]:=by unfold lU;(repeat' split)<;>exact⟨rfl,rfl⟩
theorem iGZ(m)(c):(iL m c).2.2.2.2.2.1=[]/\(iL m c).2.2.2.2.2.2.1=[]:=by unfold iL;(repeat' split)<;>exact⟨rfl,rfl⟩
theorem rEZ(m)(c):(rP m c).2.2.2.2.2.1=[]/\(rP m c).2.2.2.2.2.2.1=[]:=by unfold rP;(repeat' split)<;>exact⟨rfl,rfl⟩
theorem q5Z(m)(c):(jL m c).2.2.2.2.2.2.1=[]:=by unfold jL;(repeat' split)<;>rfl
def bN(m:Mod)(c:bV):Mod×Int×Rep:=
 if bK c=true then
  if(cL m c).1=0 then(((cL m c).2.1.1,kC (cL m c).2.1.1.1 (cL m c).2.1.2),0,(cL m c).2.2)
  else(m,(cL m c).1,kR)
 else(m,179,kR)
def doT(r:Mod×Int×Rep)(c:bV):Int×(Int×(Int×(Int×(Int×(Int×(Bool×(Int×(Byt×(List Ent×(Bool×(Int×(List Ino×List Byt)))))))))))):=(r.1.1.2,(c.1,(c.2.1,(r.2.1,(r.2.2.1.1,(r.2.2.1.2,(r.2.2.2.1,(r.2.2.2.2.1,(r.2.2.2.2.2.1,(r.2.2.2.2.2.2.1,(r.2.2.2.2.2.2.2.1,(r.2.2.2.2.2.2.2.2,(r.1.1.1,r.1.2)))))))))))))
theorem hyZ{m}(h:bW m)(c):bW (bN m c).1:=by
 unfold bN;by_cases hr:bK c=true
 ·rw[ZAM hr]
  let⟨ho,hn,hbs⟩:=a1Z hr
  have s:=bhZ h c hn hbs;by_cases h0:(cL m c).1=0
  ·rw[ZAM h0];exact s.k.model s.t
  ·rw[ZAK h0];exact h
 simp_all
set_option maxHeartbeats 4000000
set_option maxRecDepth 100000
theorem aQZ(u):pA ((u.toNat:Nat):Int)=some u:=by rw[iYZ u.toNat_lt];simp
def JT(m:Mod)(q:DoR):Mod×Int×Rep:=
 if q.1=0 then((q.2.1.1,kC q.2.1.1.1 q.2.1.2),0,q.2.2) else(m,q.1,kR)
theorem bRZ{m}{c}(hr:bK c=true):bN m c=JT m (cL m c):=by simp_all[bN,JT]
def mkO(q:DoR)(by_:Byt)(en:List Ent)(m:Mod)(c:bV):IY:=(q.1,(m.1.1,(m.1.2,(m.2,(c.1,(c.2.1,(((c.2.2.1.toNat:Nat):Int),(c.2.2.2.1.1,(c.2.2.2.1.2,(c.2.2.2.2.1,(c.2.2.2.2.2.1.1,(c.2.2.2.2.2.1.2,(c.2.2.2.2.2.2.1,(c.2.2.2.2.2.2.2.1,(c.2.2.2.2.2.2.2.2.1,(c.2.2.2.2.2.2.2.2.2,(0,(0,(0,(0,(0,(0,(false,(0,(false,(0,(q.2.1.1.1,(q.2.1.1.2,(q.2.1.2,(c.1,(c.2.1,(((c.2.2.1.toNat:Nat):Int),(c.2.2.2.1.1,(c.2.2.2.1.2,(c.2.2.2.2.1,(c.2.2.2.2.2.1.1,(c.2.2.2.2.2.1.2,(c.2.2.2.2.2.2.1,(c.2.2.2.2.2.2.2.1,(c.2.2.2.2.2.2.2.2.1,(c.2.2.2.2.2.2.2.2.2,(c.1,(c.2.1,(0,(q.2.2.1.1,(q.2.2.1.2,(q.2.2.2.1,(q.2.2.2.2.1,(by_,(en,(q.2.2.2.2.2.2.2.1,q.2.2.2.2.2.2.2.2)))))))))))))))))))))))))))))))))))))))))))))))))))
noncomputable def NQ (o1 : IY) : Option (Int × (Int × (Int × (Int × (Int × (Int × (Bool × (Int × (Byt × (List Ent × (Bool × (Int × (List Ino × List Byt))))))))))))) :=
 bif (!(o1.1==0)) then
  (CG bB (o1.2.1,o1.2.2.1)).bind fun r14=>
  (gH bB o1 (0,(o1.2.2.2.2.1,(o1.2.2.2.2.2.1,(o1.2.2.2.2.2.2.1,(o1.2.2.2.2.2.2.2.1,(o1.2.2.2.2.2.2.2.2.1,(o1.2.2.2.2.2.2.2.2.2.1,(o1.2.2.2.2.2.2.2.2.2.2.1,(o1.2.2.2.2.2.2.2.2.2.2.2.1,(o1.2.2.2.2.2.2.2.2.2.2.2.2.1,(o1.2.2.2.2.2.2.2.2.2.2.2.2.2.1,(o1.2.2.2.2.2.2.2.2.2.2.2.2.2.2.1,(o1.2.2.2.2.2.2.2.2.2.2.2.2.2.2.2.1,(o1.2.2.2.2.2.2.2.2.2.2.2.2.2.2.2.2.1,(o1.2.2.2.2.2.2.2.2.2.2.2.2.2.2.2.2.2.1,(o1.2.2.2.2.2.2.2.2.2.2.2.2.2.2.2.2.2.2.1,(o1.2.2.2.2.2.2.2.2.2.2.2.2.2.2.2.2.2.2.2.1,(o1.2.2.2.2.2.2.2.2.2.2.2.2.2.2.2.2.2.2.2.2.1,(o1.2.2.2.2.2.2.2.2.2.2.2.2.2.2.2.2.2.2.2.2.2.1,(o1.2.2.2.2.2.2.2.2.2.2.2.2.2.2.2.2.2.2.2.2.2.2.1,(o1.2.2.2.2.2.2.2.2.2.2.2.2.2.2.2.2.2.2.2.2.2.2.2.1,(o1.2.2.2.2.2.2.2.2.2.2.2.2.2.2.2.2.2.2.2.2.2.2.2.2.1,(o1.2.2.2.2.2.2.2.2.2.2.2.2.2.2.2.2.2.2.2.2.2.2.2.2.2.1,(r14.1,(r14.2,[])))))))))))))))))))))))))).bind fun o2=>
  some (o2.2.2.2.2.2.2.2.2.2.2.2.2.2.2.2.2.2.2.2.2.2.2.1,(o2.1,(o2.2.1,(o1.1,(0,(0,(false,(0,([],([],(false,(0,(o2.2.2.2.2.2.2.2.2.2.2.2.2.2.2.2.2.2.2.2.2.2.2.2.1,o2.2.2.2.2.2.2.2.2.2.2.2.2.2.2.2.2.2.2.2.2.2.2.2.2)))))))))))))
 else
  (uH bB o1.2.2.2.2.2.2.2.2.2.2.2.2.2.2.2.2.2.2.2.2.2.2.2.2.2.2.1 o1.2.2.2.2.2.2.2.2.2.2.2.2.2.2.2.2.2.2.2.2.2.2.2.2.2.2.2.1 o1.2.2.2.2.2.2.2.2.2.2.2.2.2.2.2.2.2.2.2.2.2.2.2.2.2.2.2.2.1 o1.2.2.2.2.2.2.2.2.2.2.2.2.2.2.2.2.2.2.2.2.2.2.2.2.2.2.2.2.2.1 o1.2.2.2.2.2.2.2.2.2.2.2.2.2.2.2.2.2.2.2.2.2.2.2.2.2.2.2.2.2.2.1 o1.2.2.2.2.2.2.2.2.2.2.2.2.2.2.2.2.2.2.2.2.2.2.2.2.2.2.2.2.2.2.2.1 o1.2.2.2.2.2.2.2.2.2.2.2.2.2.2.2.2.2.2.2.2.2.2.2.2.2.2.2.2.2.2.2.2.1 o1.2.2.2.2.2.2.2.2.2.2.2.2.2.2.2.2.2.2.2.2.2.2.2.2.2.2.2.2.2.2.2.2.2.1 o1.2.2.2.2.2.2.2.2.2.2.2.2.2.2.2.2.2.2.2.2.2.2.2.2.2.2.2.2.2.2.2.2.2.2.1 o1.2.2.2.2.2.2.2.2.2.2.2.2.2.2.2.2.2.2.2.2.2.2.2.2.2.2.2.2.2.2.2.2.2.2.2.1 o1.2.2.2.2.2.2.2.2.2.2.2.2.2.2.2.2.2.2.2.2.2.2.2.2.2.2.2.2.2.2.2.2.2.2.2.2.1 o1.2.2.2.2.2.2.2.2.2.2.2.2.2.2.2.2.2.2.2.2.2.2.2.2.2.2.2.2.2.2.2.2.2.2.2.2.2.1 o1.2.2.2.2.2.2.2.2.2.2.2.2.2.2.2.2.2.2.2.2.2.2.2.2.2.2.2.2.2.2.2.2.2.2.2.2.2.2.1 o1.2.2.2.2.2.2.2.2.2.2.2.2.2.2.2.2.2.2.2.2.2.2.2.2.2.2.2.2.2.2.2.2.2.2.2.2.2.2.2.1 o1.2.2.2.2.2.2.2.2.2.2.2.2.2.2.2.2.2.2.2.2.2.2.2.2.2.2.2.2.2.2.2.2.2.2.2.2.2.2.2.2.1 o1.2.2.2.2.2.2.2.2.2.2.2.2.2.2.2.2.2.2.2.2.2.2.2.2.2.2.2.2.2.2.2.2.2.2.2.2.2.2.2.2.2.1 o1.2.2.2.2.2.2.2.2.2.2.2.2.2.2.2.2.2.2.2.2.2.2.2.2.2.2.2.2.2.2.2.2.2.2.2.2.2.2.2.2.2.2.1 o1.2.2.2.2.2.2.2.2.2.2.2.2.2.2.2.2.2.2.2.2.2.2.2.2.2.2.2.2.2.2.2.2.2.2.2.2.2.2.2.2.2.2.2.1 o1.2.2.2.2.2.2.2.2.2.2.2.2.2.2.2.2.2.2.2.2.2.2.2.2.2.2.2.2.2.2.2.2.2.2.2.2.2.2.2.2.2.2.2.2.1 o1.2.2.2.2.2.2.2.2.2.2.2.2.2.2.2.2.2.2.2.2.2.2.2.2.2.2.2.2.2.2.2.2.2.2.2.2.2.2.2.2.2.2.2.2.2.1 o1.2.2.2.2.2.2.2.2.2.2.2.2.2.2.2.2.2.2.2.2.2.2.2.2.2.2.2.2.2.2.2.2.2.2.2.2.2.2.2.2.2.2.2.2.2.2.1 o1.2.2.2.2.2.2.2.2.2.2.2.2.2.2.2.2.2.2.2.2.2.2.2.2.2.2.2.2.2.2.2.2.2.2.2.2.2.2.2.2.2.2.2.2.2.2.2.1 o1.2.2.2.2.2.2.2.2.2.2.2.2.2.2.2.2.2.2.2.2.2.2.2.2.2.2.2.2.2.2.2.2.2.2.2.2.2.2.2.2.2.2.2.2.2.2.2.2.1 o1.2.2.2.2.2.2.2.2.2.2.2.2.2.2.2.2.2.2.2.2.2.2.2.2.2.2.2.2.2.2.2.2.2.2.2.2.2.2.2.2.2.2.2.2.2.2.2.2.2.1 o1.2.2.2.2.2.2.2.2.2.2.2.2.2.2.2.2.2.2.2.2.2.2.2.2.2.2.2.2.2.2.2.2.2.2.2.2.2.2.2.2.2.2.2.2.2.2.2.2.2.2.1 o1.2.2.2.2.2.2.2.2.2.2.2.2.2.2.2.2.2.2.2.2.2.2.2.2.2.2.2.2.2.2.2.2.2.2.2.2.2.2.2.2.2.2.2.2.2.2.2.2.2.2.2).bind fun r17=>
  some (r17.1,(o1.2.2.2.2.2.2.2.2.2.2.2.2.2.2.2.2.2.2.2.2.2.2.2.2.2.2.2.2.2.2.2.2.2.2.2.2.2.2.2.2.2.1,(o1.2.2.2.2.2.2.2.2.2.2.2.2.2.2.2.2.2.2.2.2.2.2.2.2.2.2.2.2.2.2.2.2.2.2.2.2.2.2.2.2.2.2.1,(o1.2.2.2.2.2.2.2.2.2.2.2.2.2.2.2.2.2.2.2.2.2.2.2.2.2.2.2.2.2.2.2.2.2.2.2.2.2.2.2.2.2.2.2.1,(o1.2.2.2.2.2.2.2.2.2.2.2.2.2.2.2.2.2.2.2.2.2.2.2.2.2.2.2.2.2.2.2.2.2.2.2.2.2.2.2.2.2.2.2.2.1,(o1.2.2.2.2.2.2.2.2.2.2.2.2.2.2.2.2.2.2.2.2.2.2.2.2.2.2.2.2.2.2.2.2.2.2.2.2.2.2.2.2.2.2.2.2.2.1,(o1.2.2.2.2.2.2.2.2.2.2.2.2.2.2.2.2.2.2.2.2.2.2.2.2.2.2.2.2.2.2.2.2.2.2.2.2.2.2.2.2.2.2.2.2.2.2.1,(o1.2.2.2.2.2.2.2.2.2.2.2.2.2.2.2.2.2.2.2.2.2.2.2.2.2.2.2.2.2.2.2.2.2.2.2.2.2.2.2.2.2.2.2.2.2.2.2.1,(o1.2.2.2.2.2.2.2.2.2.2.2.2.2.2.2.2.2.2.2.2.2.2.2.2.2.2.2.2.2.2.2.2.2.2.2.2.2.2.2.2.2.2.2.2.2.2.2.2.1,(o1.2.2.2.2.2.2.2.2.2.2.2.2.2.2.2.2.2.2.2.2.2.2.2.2.2.2.2.2.2.2.2.2.2.2.2.2.2.2.2.2.2.2.2.2.2.2.2.2.2.1,(o1.2.2.2.2.2.2.2.2.2.2.2.2.2.2.2.2.2.2.2.2.2.2.2.2.2.2.2.2.2.2.2.2.2.2.2.2.2.2.2.2.2.2.2.2.2.2.2.2.2.2.1,(o1.2.2.2.2.2.2.2.2.2.2.2.2.2.2.2.2.2.2.2.2.2.2.2.2.2.2.2.2.2.2.2.2.2.2.2.2.2.2.2.2.2.2.2.2.2.2.2.2.2.2.2,(r17.2.2.2.2.2.2.2.2.2.2.2.2.2.2.2.2.2.2.2.2.2.2.2.2.2.2.2.1,r17.2.2.2.2.2.2.2.2.2.2.2.2.2.2.2.2.2.2.2.2.2.2.2.2.2.2.2.2)))))))))))))
theorem b4Z{m}(h:bW m)(c){q}(s:wN q){by_}{en}(n1:q.2.2.2.2.2.1=by_)(n2:q.2.2.2.2.2.2.1=en):NQ (mkO q by_ en m c)=some (doT (JT m q) c):=by
 have hl:=h.len;unfold JT NQ;by_cases h0:q.1=0
 ·rw[ZAM h0];simp[mkO,h0,ZAD];rw[v4Z (hf:=s.t.r.fit) (hl:=s.t.r.len.2) (hd:=s.b),ZAA];simp[doT,n1,n2]
 ·rw[ZAK h0];simp[mkO,ZAa.2 h0,ZAl,ZAL];rw[show((m.1.1,m.1.2):dH)=m.1 from rfl,dXZ h.fit,ZAA,vwZ _ _ _ _ _ _ _ _ _ _ _ _ _ _ _ _ _ _ _ _ _ _ _ _ _ m.2 rfl (dlen h) (fun i z hz=>h.byt hz),ZAA]
  rfl
theorem do_1{m}(h:bW m)(c)(hr:bK c=true)(hk:c.2.2.1=uO 1):cP bB m c=some (doT (bN m c) c):=by
 let⟨ho,hn,hbs⟩:=a1Z hr
 have s:=bhZ h c hn hbs;have hA:cL m c=jE m c:=by unfold cL;rw[hk];rfl
 have e1:(c.2.2.1==uO 1)=true:=by rw[hk];rfl
 rw[bRZ hr,hA];rw[hA] at s;unfold cP Pa Pb Pc Pd Pe Pf Pg Ph Pi Pj Pk Pl Pm Pn Po Pp Pq Pr Ps Pt Pu Pv Pw Px Py Pz Pza Pzb Pzc Pzd Pze Pzf Pzg Pzh Pzi Pzj Pzk Pzl Pzm Pzn Pzo Pzp Pzq Pzr Pzs Pzt Pzu Pzv Pzw Pzx PH PW PX PZX;rw[acZ (by decide)];rw[a4Z h,ZAA,ZAL,aQZ,ZAA,axZ,ZAA,hr,ZAL];rw[ZAA,e1,ZAL,tmZ h c,ZAA];exact b4Z h c s (mdZ m c).1 (mdZ m c).2
theorem do_2{m}(h:bW m)(c)(hr:bK c=true)(hk:c.2.2.1=uO 2):cP bB m c=some (doT (bN m c) c):=by
 let⟨ho,hn,hbs⟩:=a1Z hr
 have s:=bhZ h c hn hbs;have hA:cL m c=gJ m c:=by unfold cL;rw[hk];rfl
 have e1:(c.2.2.1==uO 1)=false:=by rw[hk];rfl
 have e2:(c.2.2.1==uO 2)=true:=by rw[hk];rfl
 rw[bRZ hr,hA];rw[hA] at s;unfold cP Pa Pb Pc Pd Pe Pf Pg Ph Pi Pj Pk Pl Pm Pn Po Pp Pq Pr Ps Pt Pu Pv Pw Px Py Pz Pza Pzb Pzc Pzd Pze Pzf Pzg Pzh Pzi Pzj Pzk Pzl Pzm Pzn Pzo Pzp Pzq Pzr Pzs Pzt Pzu Pzv Pzw Pzx PH PW PX PZX;rw[acZ (by decide)];rw[a4Z h,ZAA,ZAL,aQZ,ZAA,axZ,ZAA,hr,ZAL];rw[ZAA,e1,ZAD,e2,ZAL,tuZ h c,ZAA];exact b4Z h c s (fbZ m c).1 (fbZ m c).2
theorem do_3{m}(h:bW m)(c)(hr:bK c=true)(hk:c.2.2.1=uO 3):cP bB m c=some (doT (bN m c) c):=by
 let⟨ho,hn,hbs⟩:=a1Z hr
 have s:=bhZ h c hn hbs;have hA:cL m c=gJ m c:=by unfold cL;rw[hk];rfl
 have e1:(c.2.2.1==uO 1)=false:=by rw[hk];rfl
 have e2:(c.2.2.1==uO 2)=false:=by rw[hk];rfl
 have e3:(c.2.2.1==uO 3)=true:=by rw[hk];rfl
 rw[bRZ hr,hA];rw[hA] at s;unfold cP Pa Pb Pc Pd Pe Pf Pg Ph Pi Pj Pk Pl Pm Pn Po Pp Pq Pr Ps Pt Pu Pv Pw Px Py Pz Pza Pzb Pzc Pzd Pze Pzf Pzg Pzh Pzi Pzj Pzk Pzl Pzm Pzn Pzo Pzp Pzq Pzr Pzs Pzt Pzu Pzv Pzw Pzx PH PW PX PZX;rw[acZ (by decide)];rw[a4Z h,ZAA,ZAL,aQZ,ZAA,axZ,ZAA,hr,ZAL];rw[ZAA,e1,ZAD,e2,ZAD,e3,ZAL,tuZ h c,ZAA,ZAA];exact b4Z h c s (fbZ m c).1 (fbZ m c).2
theorem do_4{m}(h:bW m)(c)(hr:bK c=true)(hk:c.2.2.1=uO 4):cP bB m c=some (doT (bN m c) c):=by
 let⟨ho,hn,hbs⟩:=a1Z hr
 have s:=bhZ h c hn hbs;have hA:cL m c=jL m c:=by unfold cL;rw[hk];rfl
 have e1:(c.2.2.1==uO 1)=false:=by rw[hk];rfl
 have e2:(c.2.2.1==uO 2)=false:=by rw[hk];rfl
 have e3:(c.2.2.1==uO 3)=false:=by rw[hk];rfl
 have e4:(c.2.2.1==uO 4)=true:=by rw[hk];rfl
 rw[bRZ hr,hA];rw[hA] at s;unfold cP Pa Pb Pc Pd Pe Pf Pg Ph Pi Pj Pk Pl Pm Pn Po Pp Pq Pr Ps Pt Pu Pv Pw Px Py Pz Pza Pzb Pzc Pzd Pze Pzf Pzg Pzh Pzi Pzj Pzk Pzl Pzm Pzn Pzo Pzp Pzq Pzr Pzs Pzt Pzu Pzv Pzw Pzx PH PW PX PZX;rw[acZ (by decide)];rw[a4Z h,ZAA,ZAL,aQZ,ZAA,axZ,ZAA,hr,ZAL];rw[ZAA,e1,ZAD,e2,ZAD,e3,ZAD,e4,ZAL,v3Z h c ho hn,ZAA,ZAA,ZAA];exact b4Z h c s rfl (q5Z m c)
theorem do_5{m}(h:bW m)(c)(hr:bK c=true)(hk:c.2.2.1=uO 5):cP bB m c=some (doT (bN m c) c):=by
 let⟨ho,hn,hbs⟩:=a1Z hr
 have s:=bhZ h c hn hbs;have hA:cL m c=iL m c:=by unfold cL;rw[hk];rfl
 have e1:(c.2.2.1==uO 1)=false:=by rw[hk];rfl
 have e2:(c.2.2.1==uO 2)=false:=by rw[hk];rfl
 have e3:(c.2.2.1==uO 3)=false:=by rw[hk];rfl
 have e4:(c.2.2.1==uO 4)=false:=by rw[hk];rfl
 have e5:(c.2.2.1==uO 5)=true:=by rw[hk];rfl
 rw[bRZ hr,hA];rw[hA] at s;unfold cP Pa Pb Pc Pd Pe Pf Pg Ph Pi Pj Pk Pl Pm Pn Po Pp Pq Pr Ps Pt Pu Pv Pw Px Py Pz Pza Pzb Pzc Pzd Pze Pzf Pzg Pzh Pzi Pzj Pzk Pzl Pzm Pzn Pzo Pzp Pzq Pzr Pzs Pzt Pzu Pzv Pzw Pzx PH PW PX PZX;rw[acZ (by decide)];rw[a4Z h,ZAA,ZAL,aQZ,ZAA,axZ,ZAA,hr,ZAL];rw[ZAA,e1,ZAD,e2,ZAD,e3,ZAD,e4,ZAD,e5,ZAL,upZ h c ho hbs,ZAA,ZAA,ZAA];exact b4Z h c s (iGZ m c).1 (iGZ m c).2
theorem do_6{m}(h:bW m)(c)(hr:bK c=true)(hk:c.2.2.1=uO 6):cP bB m c=some (doT (bN m c) c):=by
 let⟨ho,hn,hbs⟩:=a1Z hr
 have s:=bhZ h c hn hbs;have hA:cL m c=lU m c:=by unfold cL;rw[hk];rfl
 have e1:(c.2.2.1==uO 1)=false:=by rw[hk];rfl
 have e2:(c.2.2.1==uO 2)=false:=by rw[hk];rfl
 have e3:(c.2.2.1==uO 3)=false:=by rw[hk];rfl
 have e4:(c.2.2.1==uO 4)=false:=by rw[hk];rfl
 have e5:(c.2.2.1==uO 5)=false:=by rw[hk];rfl
 have e6:(c.2.2.1==uO 6)=true:=by rw[hk];rfl
 rw[bRZ hr,hA];rw[hA] at s;unfold cP Pa Pb Pc Pd Pe Pf Pg Ph Pi Pj Pk Pl Pm Pn Po Pp Pq Pr Ps Pt Pu Pv Pw Px Py Pz Pza Pzb Pzc Pzd Pze Pzf Pzg Pzh Pzi Pzj Pzk Pzl Pzm Pzn Pzo Pzp Pzq Pzr Pzs Pzt Pzu Pzv Pzw Pzx PH PW PX PZX;rw[acZ (by decide)];rw[a4Z h,ZAA,ZAL,aQZ,ZAA,axZ,ZAA,hr,ZAL];rw[ZAA,e1,ZAD,e2,ZAD,e3,ZAD,e4,ZAD,e5,ZAD,e6,ZAL,vRZ h c hn.1,ZAA,ZAA,ZAA];exact b4Z h c s (lWZ m c).1 (lWZ m c).2
theorem do_7{m}(h:bW m)(c)(hr:bK c=true)(hk:c.2.2.1=uO 7):cP bB m c=some (doT (bN m c) c):=by
 let⟨ho,hn,hbs⟩:=a1Z hr
 have s:=bhZ h c hn hbs;have hA:cL m c=dI m c:=by unfold cL;rw[hk];rfl
 have e1:(c.2.2.1==uO 1)=false:=by rw[hk];rfl
 have e2:(c.2.2.1==uO 2)=false:=by rw[hk];rfl
 have e3:(c.2.2.1==uO 3)=false:=by rw[hk];rfl
 have e4:(c.2.2.1==uO 4)=false:=by rw[hk];rfl
 have e5:(c.2.2.1==uO 5)=false:=by rw[hk];rfl
 have e6:(c.2.2.1==uO 6)=false:=by rw[hk];rfl
 have e7:(c.2.2.1==uO 7)=true:=by rw[hk];rfl
 rw[bRZ hr,hA];rw[hA] at s;unfold cP Pa Pb Pc Pd Pe Pf Pg Ph Pi Pj Pk Pl Pm Pn Po Pp Pq Pr Ps Pt Pu Pv Pw Px Py Pz Pza Pzb Pzc Pzd Pze Pzf Pzg Pzh Pzi Pzj Pzk Pzl Pzm Pzn Pzo Pzp Pzq Pzr Pzs Pzt Pzu Pzv Pzw Pzx PH PW PX PZX;rw[acZ (by decide)];rw[a4Z h,ZAA,ZAL,aQZ,ZAA,axZ,ZAA,hr,ZAL];rw[ZAA,e1,ZAD,e2,ZAD,e3,ZAD,e4,ZAD,e5,ZAD,e6,ZAD,e7,ZAL,mzZ h c,ZAA,ZAA,ZAA];exact b4Z h c s (cEZ m c).1 (cEZ m c).2
theorem do_8{m}(h:bW m)(c)(hr:bK c=true)(hk:c.2.2.1=uO 8):cP bB m c=some (doT (bN m c) c):=by
 let⟨ho,hn,hbs⟩:=a1Z hr
 have s:=bhZ h c hn hbs;have hA:cL m c=dI m c:=by unfold cL;rw[hk];rfl
 have e1:(c.2.2.1==uO 1)=false:=by rw[hk];rfl
 have e2:(c.2.2.1==uO 2)=false:=by rw[hk];rfl
 have e3:(c.2.2.1==uO 3)=false:=by rw[hk];rfl
 have e4:(c.2.2.1==uO 4)=false:=by rw[hk];rfl
 have e5:(c.2.2.1==uO 5)=false:=by rw[hk];rfl
 have e6:(c.2.2.1==uO 6)=false:=by rw[hk];rfl
 have e7:(c.2.2.1==uO 7)=false:=by rw[hk];rfl
 have e8:(c.2.2.1==uO 8)=true:=by rw[hk];rfl
 rw[bRZ hr,hA];rw[hA] at s;unfold cP Pa Pb Pc Pd Pe Pf Pg Ph Pi Pj Pk Pl Pm Pn Po Pp Pq Pr Ps Pt Pu Pv Pw Px Py Pz Pza Pzb Pzc Pzd Pze Pzf Pzg Pzh Pzi Pzj Pzk Pzl Pzm Pzn Pzo Pzp Pzq Pzr Pzs Pzt Pzu Pzv Pzw Pzx PH PW PX PZX;rw[acZ (by decide)];rw[a4Z h,ZAA,ZAL,aQZ,ZAA,axZ,ZAA,hr,ZAL];rw[ZAA,e1,ZAD,e2,ZAD,e3,ZAD,e4,ZAD,e5,ZAD,e6,ZAD,e7,ZAD,e8,ZAL,mzZ h c,ZAA,ZAA,ZAA];exact b4Z h c s (cEZ m c).1 (cEZ m c).2
theorem do_9{m}(h:bW m)(c)(hr:bK c=true)(hk:c.2.2.1=uO 9):cP bB m c=some (doT (bN m c) c):=by
 let⟨ho,hn,hbs⟩:=a1Z hr
 have s:=bhZ h c hn hbs;have hA:cL m c=eV m c:=by unfold cL;rw[hk];rfl
 have e1:(c.2.2.1==uO 1)=false:=by rw[hk];rfl
 have e2:(c.2.2.1==uO 2)=false:=by rw[hk];rfl
 have e3:(c.2.2.1==uO 3)=false:=by rw[hk];rfl
 have e4:(c.2.2.1==uO 4)=false:=by rw[hk];rfl
 have e5:(c.2.2.1==uO 5)=false:=by rw[hk];rfl
 have e6:(c.2.2.1==uO 6)=false:=by rw[hk];rfl
 have e7:(c.2.2.1==uO 7)=false:=by rw[hk];rfl
 have e8:(c.2.2.1==uO 8)=false:=by rw[hk];rfl
 have e9:(c.2.2.1==uO 9)=true:=by rw[hk];rfl
 rw[bRZ hr,hA];rw[hA] at s;unfold cP Pa Pb Pc Pd Pe Pf Pg Ph Pi Pj Pk Pl Pm Pn Po Pp Pq Pr Ps Pt Pu Pv Pw Px Py Pz Pza Pzb Pzc Pzd Pze Pzf Pzg Pzh Pzi Pzj Pzk Pzl Pzm Pzn Pzo Pzp Pzq Pzr Pzs Pzt Pzu Pzv Pzw Pzx PH PW PX PZX;rw[acZ (by decide)];rw[a4Z h,ZAA,ZAL,aQZ,ZAA,axZ,ZAA,hr,ZAL];rw[ZAA,e1,ZAD,e2,ZAD,e3,ZAD,e4,ZAD,e5,ZAD,e6,ZAD,e7,ZAD,e8,ZAD,e9,ZAL,smZ h c,ZAA,ZAA,ZAA];exact b4Z h c s (gOZ m c).1 (gOZ m c).2
theorem whZ{m}(h:bW m)(c)(hr:bK c=true)(hk:c.2.2.1=uO 10):cP bB m c=some (doT (bN m c) c):=by
 let⟨ho,hn,hbs⟩:=a1Z hr
 have s:=bhZ h c hn hbs;have hA:cL m c=zC m c:=by unfold cL;rw[hk];rfl
 have e1:(c.2.2.1==uO 1)=false:=by rw[hk];rfl
 have e2:(c.2.2.1==uO 2)=false:=by rw[hk];rfl
 have e3:(c.2.2.1==uO 3)=false:=by rw[hk];rfl
 have e4:(c.2.2.1==uO 4)=false:=by rw[hk];rfl
 have e5:(c.2.2.1==uO 5)=false:=by rw[hk];rfl
 have e6:(c.2.2.1==uO 6)=false:=by rw[hk];rfl
 have e7:(c.2.2.1==uO 7)=false:=by rw[hk];rfl
 have e8:(c.2.2.1==uO 8)=false:=by rw[hk];rfl
 have e9:(c.2.2.1==uO 9)=false:=by rw[hk];rfl
 have e10:(c.2.2.1==uO 10)=true:=by rw[hk];rfl
 rw[bRZ hr,hA];rw[hA] at s;unfold cP Pa Pb Pc Pd Pe Pf Pg Ph Pi Pj Pk Pl Pm Pn Po Pp Pq Pr Ps Pt Pu Pv Pw Px Py Pz Pza Pzb Pzc Pzd Pze Pzf Pzg Pzh Pzi Pzj Pzk Pzl Pzm Pzn Pzo Pzp Pzq Pzr Pzs Pzt Pzu Pzv Pzw Pzx PH PW PX PZX;rw[acZ (by decide)];rw[a4Z h,ZAA,ZAL,aQZ,ZAA,axZ,ZAA,hr,ZAL];rw[ZAA,e1,ZAD,e2,ZAD,e3,ZAD,e4,ZAD,e5,ZAD,e6,ZAD,e7,ZAD,e8,ZAD,e9,ZAD,e10,ZAL,vUZ h c,ZAA,ZAA,ZAA];exact b4Z h c s rfl rfl
theorem wkZ{m}(h:bW m)(c)(hr:bK c=true)(hk:c.2.2.1=uO 11):cP bB m c=some (doT (bN m c) c):=by
 let⟨ho,hn,hbs⟩:=a1Z hr
 have s:=bhZ h c hn hbs;have hA:cL m c=rP m c:=by unfold cL;rw[hk];rfl
 have e1:(c.2.2.1==uO 1)=false:=by rw[hk];rfl
 have e2:(c.2.2.1==uO 2)=false:=by rw[hk];rfl
 have e3:(c.2.2.1==uO 3)=false:=by rw[hk];rfl
 have e4:(c.2.2.1==uO 4)=false:=by rw[hk];rfl
 have e5:(c.2.2.1==uO 5)=false:=by rw[hk];rfl
 have e6:(c.2.2.1==uO 6)=false:=by rw[hk];rfl
 have e7:(c.2.2.1==uO 7)=false:=by rw[hk];rfl
 have e8:(c.2.2.1==uO 8)=false:=by rw[hk];rfl
 have e9:(c.2.2.1==uO 9)=false:=by rw[hk];rfl
 have e10:(c.2.2.1==uO 10)=false:=by rw[hk];rfl
 have e11:(c.2.2.1==uO 11)=true:=by rw[hk];rfl
 rw[bRZ hr,hA];rw[hA] at s;unfold cP Pa Pb Pc Pd Pe Pf Pg Ph Pi Pj Pk Pl Pm Pn Po Pp Pq Pr Ps Pt Pu Pv Pw Px Py Pz Pza Pzb Pzc Pzd Pze Pzf Pzg Pzh Pzi Pzj Pzk Pzl Pzm Pzn Pzo Pzp Pzq Pzr Pzs Pzt Pzu Pzv Pzw Pzx PH PW PX PZX;rw[acZ (by decide)];rw[a4Z h,ZAA,ZAL,aQZ,ZAA,axZ,ZAA,hr,ZAL];rw[ZAA,e1,ZAD,e2,ZAD,e3,ZAD,e4,ZAD,e5,ZAD,e6,ZAD,e7,ZAD,e8,ZAD,e9,ZAD,e10,ZAD,e11,ZAL,waZ h c,ZAA,ZAA,ZAA];exact b4Z h c s (rEZ m c).1 (rEZ m c).2
theorem wdZ{m}(h:bW m)(c)(hr:bK c=true)(hk:c.2.2.1=uO 12):cP bB m c=some (doT (bN m c) c):=by
 let⟨ho,hn,hbs⟩:=a1Z hr
 have s:=bhZ h c hn hbs;have hA:cL m c=AL m:=by unfold cL;rw[hk];rfl
 have e1:(c.2.2.1==uO 1)=false:=by rw[hk];rfl
 have e2:(c.2.2.1==uO 2)=false:=by rw[hk];rfl
 have e3:(c.2.2.1==uO 3)=false:=by rw[hk];rfl
 have e4:(c.2.2.1==uO 4)=false:=by rw[hk];rfl
 have e5:(c.2.2.1==uO 5)=false:=by rw[hk];rfl
 have e6:(c.2.2.1==uO 6)=false:=by rw[hk];rfl
 have e7:(c.2.2.1==uO 7)=false:=by rw[hk];rfl
 have e8:(c.2.2.1==uO 8)=false:=by rw[hk];rfl
 have e9:(c.2.2.1==uO 9)=false:=by rw[hk];rfl
 have e10:(c.2.2.1==uO 10)=false:=by rw[hk];rfl
 have e11:(c.2.2.1==uO 11)=false:=by rw[hk];rfl
 have e12:(c.2.2.1==uO 12)=true:=by rw[hk];rfl
 rw[bRZ hr,hA];rw[hA] at s;unfold cP Pa Pb Pc Pd Pe Pf Pg Ph Pi Pj Pk Pl Pm Pn Po Pp Pq Pr Ps Pt Pu Pv Pw Px Py Pz Pza Pzb Pzc Pzd Pze Pzf Pzg Pzh Pzi Pzj Pzk Pzl Pzm Pzn Pzo Pzp Pzq Pzr Pzs Pzt Pzu Pzv Pzw Pzx PH PW PX PZX;rw[acZ (by decide)];rw[a4Z h,ZAA,ZAL,aQZ,ZAA,axZ,ZAA,hr,ZAL];rw[ZAA,e1,ZAD,e2,ZAD,e3,ZAD,e4,ZAD,e5,ZAD,e6,ZAD,e7,ZAD,e8,ZAD,e9,ZAD,e10,ZAD,e11,ZAD,e12,ZAL,vHZ h c,ZAA,ZAA,ZAA];exact b4Z h c s rfl rfl
theorem pSZ{m}(h:bW m)(c:bV):cP bB m c=some (doT (bN m c) c):=by
 cases hr:bK c with
 |true=>
  rcases i3Z hr with hk|hk|hk|hk|hk|hk|hk|hk|hk|hk|hk|hk
  ·exact do_1 h c hr hk
  ·exact do_2 h c hr hk
  ·exact do_3 h c hr hk
  ·exact do_4 h c hr hk
  ·exact do_5 h c hr hk
  ·exact do_6 h c hr hk
  ·exact do_7 h c hr hk
  ·exact do_8 h c hr hk
  ·exact do_9 h c hr hk
  ·exact whZ h c hr hk
  ·exact wkZ h c hr hk
  simp_all[wdZ]
 |false=>
  have e:bN m c=JT m (179,m,kR):=by unfold bN JT;rw[hr,ZAK (by simp),ZAK (show¬((179:Int)=0) by decide)]
  rw[e];unfold cP Pa Pb Pc Pd Pe Pf Pg Ph Pi Pj Pk Pl Pm Pn Po Pp Pq Pr Ps Pt Pu Pv Pw Px Py Pz Pza Pzb Pzc Pzd Pze Pzf Pzg Pzh Pzi Pzj Pzk Pzl Pzm Pzn Pzo Pzp Pzq Pzr Pzs Pzt Pzu Pzv Pzw Pzx PH PW PX PZX;rw[acZ (by decide)];rw[a4Z h,ZAA,aQZ,ZAA,axZ,ZAA,hr,ZAD,ZAA];exact b4Z h c (q:=(179,m,kR)) (.same h rfl) rfl rfl
abbrev DB:Type:=List UInt8×Int
abbrev bU:Type:=Int×(Int×(Int×((Int×Int)×(Bool×(Int×(List UInt8×(List DB×(Bool×Int))))))))
def oS(a b:Int):Bool:=decide (0<=a/\a<16/\1<=b/\b<=1099511627776)
theorem ppZ(a b):GA bB a b=some (oS a b):=by
 grind[GA,oS]
def kD(h:Int×Int):Bool:=decide (1<=h.1/\h.1<=500/\1<=h.2/\h.2<=1099511627776)
theorem oXZ(h):GB bB h=some (kD h):=by
 grind[GB,kD]
def mM(e:DB):Bool:=decide (1<=e.1.length/\e.1.length<=100/\1<=e.2/\e.2<=500)
def zD(h:Int×Int):Bool:=(h.1==0)&&(h.2==0)
def cF(r:bU):Bool:=
 oS r.1 r.2.1&&(decide (0<=r.2.2.1/\r.2.2.1<=1000)&&(if r.2.2.1≠0 then
  zD r.2.2.2.1&&(!r.2.2.2.2.1&&(!r.2.2.2.2.2.2.2.2.1&&((r.2.2.2.2.2.1==0)&&((r.2.2.2.2.2.2.2.2.2==0)&&decide (r.2.2.2.2.2.2.1=[]/\r.2.2.2.2.2.2.2.1=[])))))
 else(zD r.2.2.2.1||kD r.2.2.2.1)&&(decide (0<=r.2.2.2.2.2.1/\r.2.2.2.2.2.1<=65536)&&(decide (0<=r.2.2.2.2.2.2.2.2.2/\r.2.2.2.2.2.2.2.2.2<=1099511627776)&&
  (r.2.2.2.2.2.2.2.1.all mM&&(decide (r.2.2.2.2.2.2.1.length<=4096)&&decide (r.2.2.2.2.2.2.2.1.length<=100)))))))
theorem vaZ{b0}{x1 x2 x3 h1 h2}{d}{sz}{bs}{es:List DB}{mo}{fr}(hes:es.length<4611686018427387904):
 jV bB (b0,(x1,(x2,(x3,(h1,(h2,(d,(sz,(bs,(es,(mo,fr))))))))))) (0,(x1,(x2,(x3,(h1,(h2,(d,(sz,(bs,(es,(mo,fr)))))))))))=some (if es.all mM=true then .inl (x1,(x2,(x3,(h1,(h2,(d,(sz,(bs,(es,(mo,fr)))))))))) else .inr false):=by
 unfold jV;have:=aAZ (f:=fun tt:Int×(Int×(Int×(Int×(Int×(Int×(Bool×(Int×(List UInt8×(List DB×(Bool×Int))))))))))=>iK bB (b0,(x1,(x2,(x3,(h1,(h2,(d,(sz,(bs,(es,(mo,fr))))))))))) tt.1 tt.2.1 tt.2.2.1 tt.2.2.2.1 tt.2.2.2.2.1 tt.2.2.2.2.2.1 tt.2.2.2.2.2.2.1 tt.2.2.2.2.2.2.2.1 tt.2.2.2.2.2.2.2.2.1 tt.2.2.2.2.2.2.2.2.2.1 tt.2.2.2.2.2.2.2.2.2.2.1 tt.2.2.2.2.2.2.2.2.2.2.2)
  (fun n s=>∃k:Nat,s=((k:Int),(x1,(x2,(x3,(h1,(h2,(d,(sz,(bs,(es,(mo,fr)))))))))))/\k+n=es.length/\(es.take k).all mM=true)
  (fun o=>o=if es.all mM=true then .inl (x1,(x2,(x3,(h1,(h2,(d,(sz,(bs,(es,(mo,fr)))))))))) else .inr false)
  (fun n s ⟨k,hs,hk,ha⟩=>by
   subst hs;have hk':k<es.length:=by omega
   show(∃s',iK bB _ (k:Int) x1 x2 x3 h1 h2 d sz bs es mo fr=_/\_)\/∃o,iK bB _ (k:Int) x1 x2 x3 h1 h2 d sz bs es mo fr=_/\_;unfold iK;simp only;rw[ZAJ (show(k:Int)<((es.length:Nat):Int) by omega),adZ hk',w64 ⟨by omega,by omega⟩];simp only[ZAL,ZAA,ZAC hk'];have htk:(es.take (k+1)).all mM=((es.take k).all mM&&mM es[k]):=by rw[ZA9 hk',List.all_append];simp
   have hbad:mM es[k]=false->es.all mM=false:=fun h=>by
    rw[List.all_eq_false];exact⟨es[k],ZBK hk',by rw[h];simp⟩
   generalize es[k]=en at htk hbad⊢
   let⟨nm,id⟩:=en
   by_cases g:mM (nm,id)=true
   ·left;have g':=g;unfold mM at g';simp only[ZAp] at g';rw[ZAF (show¬((nm.length:Nat):Int)<1 by omega),ZAF (show¬((nm.length:Nat):Int)>100 by omega),ZAF (show¬id<1 by omega),ZAF (show¬id>500 by omega)];exact⟨_,rfl,k+1,rfl,by omega,by rw[htk,ha,g];rfl⟩
   ·right;have g0:=by simpa using g
    rw[hbad g0];refine⟨_,?_,rfl⟩;have g':=g0;unfold mM at g';simp only[ZBA] at g';by_cases q1:((nm.length:Nat):Int)<1
    ·rw[ZAJ q1];rfl
    ·by_cases q2:((nm.length:Nat):Int)>100
     ·rw[ZAF q1,ZAJ q2];rfl
     ·by_cases q3:id<1
      ·rw[ZAF q1,ZAF q2,ZAJ q3];rfl
      ·have q4:id>500:=by omega
       rw[ZAF q1,ZAF q2,ZAF q3,ZAJ q4];rfl)
  (fun s ⟨k,hs,hk,ha⟩=>by
   subst hs;have:k=es.length:=by omega
   subst this;rw[ZAx] at ha;rw[ha];refine⟨_,?_,rfl⟩;show iK bB _ ((es.length:Nat):Int) x1 x2 x3 h1 h2 d sz bs es mo fr=_;unfold iK;simp only;rw[ZAF (by omega)]
   rfl)
  es.length (0,(x1,(x2,(x3,(h1,(h2,(d,(sz,(bs,(es,(mo,fr))))))))))) hes ⟨0,rfl,by omega,by simp⟩
 simp_all
theorem eFZ{r:bU}(hb:r.2.2.2.2.2.2.1.length<1000000000000000000)(he:r.2.2.2.2.2.2.2.1.length<1000000000000000000):uI bB r=some (cF r):=by
 let⟨x1,x2,x3,⟨h1,h2⟩,d,sz,bs,es,mo,fr⟩:=r
 simp only at hb he;unfold uI cF Pa Pb Pc Pd Pe Pf Pg Ph Pi Pj PC PJ;simp only;rw[ppZ];simp only[ZAA];cases oS x1 x2 with
 |false=>rfl
 |true=>
  simp only[ZAO,ZAD,ZBP];by_cases e1:x3<0
  ·grind
  by_cases e2:x3>1000
  ·grind
  rw[ZAF e1,ZAF e2,ZAJ (show 0<=x3/\x3<=1000 by omega)];simp only[ZAD,ZAA,ZBP];by_cases e3:x3=0
  ·rw[ZAK (by omega),ZBp.2 e3];simp only[ZAO,ZAD];have hn:((h1==0)&&(h2==0))=zD (h1,h2):=rfl;rw[hn];have tail:∀b0,(bif b0 then some false else(jV bB (b0,(x1,(x2,(x3,(h1,(h2,(d,(sz,(bs,(es,(mo,fr))))))))))) (0,(x1,(x2,(x3,(h1,(h2,(d,(sz,(bs,(es,(mo,fr)))))))))))).bind fun o4=>
    match o4 with
    |.inl s=>
     bif (decide (((s.2.2.2.2.2.2.2.1.length:Nat):Int)<=4096)) then
      some (decide (((s.2.2.2.2.2.2.2.2.1.length:Nat):Int)<=100))
     else
      some false
    |.inr o5=>
     some o5)=some (!b0&&(es.all mM&&(decide (bs.length<=4096)&&decide (es.length<=100)))):=by
    intro b0;cases b0 with
    |true=>rfl
    |false=>
     simp only[ZAD,ZAl,ZBP];rw[vaZ (by omega)];simp only[ZAA];cases es.all mM with
     |false=>rfl
     |true=>
      simp only[ZCr,ZBP]
      grind[ZAJ,ZAF]
   have mid:∀z:Bool,(bif decide (sz<0) then some (true,(x1,(x2,(x3,(h1,(h2,(d,(sz,(bs,(es,(mo,fr))))))))))) else bif decide (sz>65536) then some (true,(x1,(x2,(x3,(h1,(h2,(d,(sz,(bs,(es,(mo,fr))))))))))) else bif decide (fr<0) then some (true,(x1,(x2,(x3,(h1,(h2,(d,(sz,(bs,(es,(mo,fr))))))))))) else some (decide (fr>1099511627776),(x1,(x2,(x3,(h1,(h2,(d,(sz,(bs,(es,(mo,fr))))))))))))=some (!(decide (0<=sz/\sz<=65536)&&decide (0<=fr/\fr<=1099511627776)),(x1,(x2,(x3,(h1,(h2,(d,(sz,(bs,(es,(mo,fr))))))))))):=by
    intro _;by_cases q1:sz<0
    ·simp_all
    by_cases q2:sz>65536
    ·simp_all
    rw[ZAF q1,ZAF q2,ZAJ (show 0<=sz/\sz<=65536 by omega)];by_cases q3:fr<0
    ·simp_all
    by_cases q4:fr>1099511627776
    ·simp_all
    rw[ZAF q3,ZAF q4,ZAJ (show 0<=fr/\fr<=1099511627776 by omega)];rfl
   cases hnone:zD (h1,h2) with
   |true=>
    simp only[ZAO,ZAD,Bool.true_or,ZBP];rw[mid true];simp only[ZAA];refine(tail _).trans ?_
    grind
   |false=>
    simp only[ZAl,ZAL,Bool.false_or];rw[oXZ];simp only[ZAA];cases kD (h1,h2) with
    |false=>rfl
    |true=>
     simp only[ZAO,ZAD,ZBP];rw[mid true];simp only[ZAA];refine(tail _).trans ?_;simp only[Bool.not_not,ZCT]
  ·rw[ZAM e3,ZAa.2 e3];simp only[ZAl,ZAL];have hn:((h1==0)&&(h2==0))=zD (h1,h2):=rfl;rw[hn,w64 ⟨by omega,by omega⟩];have hl:((((bs.length:Nat):Int)+((es.length:Nat):Int))==0)=decide (bs=[]/\es=[]):=by
    by_cases q:bs=[]/\es=[]
    ·obtain⟨rfl,rfl⟩:=q
     rfl
    ·rw[ZAF q,ZAa];intro hc;apply q;exact⟨ZAY (by omega),ZAY (by omega)⟩
   rw[hl];cases zD (h1,h2)<;>cases d<;>cases mo<;>cases(sz==0)<;>cases(fr==0)<;>rfl
theorem orK{α:Type}(a b)(S:α):(bif a then some (true,S) else some (b,S))=some (a||b,S):=by grind
theorem andK2(a b):(bif a then some b else some false)=some (a&&b):=by grind
end Go.Ab.D
namespace Go.Ab
def zP{α σ ο:Type}(step:Nat->σ->α->σ⊕ο)(fin:σ->ο):Nat->σ->List α->ο
 |_,a,[]=>fin a
 |k,a,x::l=>match step k a x with
  |.inl a'=>zP step fin (k+1) a' l
  |.inr o=>o
section
variable {α σ τ ο : Type}
theorem lnZ(l:List α)(f)(S:Nat->σ->τ)(step)(fin:σ->ο)(I:Nat->σ->Prop)(hl:l.length<4611686018427387904)
 (hs:∀k x a,l[k]? =some x->I k a->f (S k a)=some (match step k a x with|.inl a'=>.inl (S (k+1) a')|.inr o=>.inr o)/\∀a',step k a x= .inl a'->I (k+1) a')
 (he:∀a,I l.length a->f (S l.length a)=some (.inr (fin a)))(k0)(hk:k0<=l.length)(a0)(h0:I k0 a0):iter bB f (S k0 a0)=some (zP step fin k0 a0 (l.drop k0)):=by
 have main:∀(n m k:Nat) (a:σ),k+n=l.length->n<m->I k a->iter m f (S k a)=some (zP step fin k a (l.drop k)):=by
  intro n;induction n with
  |zero=>
   intro m k a hk hm hi;obtain rfl:k=l.length:=by omega
   obtain⟨m,rfl⟩:∃q,m=q+1:=⟨m-1,by omega⟩;rw[czZ (he a hi),List.drop_length]
   rfl
  |succ n ih=>
   intro m k a hk hm hi;have hkl:k<l.length:=by omega
   obtain⟨m,rfl⟩:∃q,m=q+1:=⟨m-1,by omega⟩;obtain⟨h1,h2⟩:=hs k _ a (ZAC hkl) hi;rw[ZBT hkl];show _=some (match step k a l[k] with|.inl a'=>zP step fin (k+1) a' (l.drop (k+1))|.inr o=>o);cases hq:step k a l[k] with
   |inl a'=>
    rw[hq] at h1;rw[d7Z h1];exact ih m (k+1) a' (by omega) (by omega) (h2 a' hq)
   |inr o=>
    rw[hq] at h1;rw[czZ h1]
 exact main (l.length-k0) bB k0 a0 (by omega) (by unfold bB;omega) h0
theorem ntZ(l)(f)(S:Nat->σ->τ)(step:Nat->σ->α->σ⊕ο)(fin)(I:Nat->σ->Prop)(hl:l.length<4611686018427387904)
 (hs:∀k x a,l[k]? =some x->I k a->f (S k a)=some (match step k a x with|.inl a'=>.inl (S (k+1) a')|.inr o=>.inr o)/\∀a',step k a x= .inl a'->I (k+1) a')
 (he:∀a,I l.length a->f (S l.length a)=some (.inr (fin a)))(a0)(h0:I 0 a0):iter bB f (S 0 a0)=some (zP step fin 0 a0 l):=
 lnZ l f S step fin I hl hs he 0 (ZBG _) a0 h0
theorem raZ(f)(n N)(hn:n<=N)(hN:N<=1000000000000)
 (hs:∀i j:Nat,i<j->j<=N->f ((i:Int),(j:Int))=some (.inl (if(i+j)/2<n then((((i+j)/2+1:Nat):Int),(j:Int)) else((i:Int),(((i+j)/2:Nat):Int)))))
 (he:∀i:Nat,f ((i:Int),(i:Int))=some (.inr (i:Int))):iter bB f (0,(N:Int))=some (n:Int):=by
 have:=aAZ (f:=f) (fun m s=>∃i j:Nat,s=((i:Int),(j:Int))/\i<=n/\n<=j/\j<=N/\j-i<=m) (fun o=>o=(n:Int)) (fun m s hI=> ?_) (fun s hI=> ?_) N (0,(N:Int)) (by omega) ⟨0,N,rfl,by omega,hn,by omega,by omega⟩
 ·let⟨o,h1,h2⟩:=this;rw[h1,h2]
 ·obtain⟨i,j,rfl,h1,h2,h3,h4⟩:=hI;by_cases hij:i<j
  ·left;rw[hs i j hij h3];by_cases hc:(i+j)/2<n
   ·rw[ZAM hc];exact⟨_,rfl,(i+j)/2+1,j,rfl,by omega,by omega,h3,by omega⟩
   ·rw[ZAK hc];exact⟨_,rfl,i,(i+j)/2,rfl,by omega,by omega,by omega,by omega⟩
  ·right;obtain rfl:i=j:=by omega
   exact⟨_,he i,by omega⟩
 grind
end
theorem q6Z{i j:Nat}(h:i+j<=4000000000000):wI (Int.fdiv (IntKind.wrap .u64 (wI ((i:Int)+(j:Int)))) 2)=(((i+j)/2:Nat):Int):=by
 grind[w64,wu64,mZZ]
def pre{α:Type}(p:α->Bool):List α->Nat
 |[]=>0
 |x::l=>if p x=true then pre p l+1 else 0
theorem gAZ{α}(p):∀l:List α,pre p l<=l.length
 |[]=>ZAN _
 |x::l=>by
  unfold pre;split
  ·have:=gAZ p l;simp;omega
  ·omega
theorem pWZ{α}(p):∀(l) (k) (x:α),k<pre p l->l[k]? =some x->p x=true
 |[],k,x,h,hx=>by grind
 |y::l,0,x,h,hx=>by
  grind[pre]
 |y::l,k+1,x,h,hx=>by
  unfold pre at h;split at h
  ·exact pWZ p l k x (by omega) (by simpa using hx)
  ·omega
theorem tJZ{α}(p):∀(l) (x:α),l[pre p l]? =some x->p x=false
 |[],x,hx=>by grind
 |y::l,x,hx=>by
  unfold pre at hx;split at hx
  ·exact tJZ p l x (by simpa using hx)
  ·rename_i hp;simp at hx;subst hx;simpa using hp
theorem tlZ{α}(p):∀(l:List α),∀x∈l.take (pre p l),p x=true:=fun l x hx=>by
 grind[ZAR,ZAo,pWZ]
end Go.Ab
namespace Go.Ab.D
open Go Go.Ab
abbrev eJ:Type:=Int×(Int×List bU)
abbrev tH:Type:=Int×List eJ
theorem hWZ{α}{l:List α}{c}(hc:c=true):(rH l.length fun isNil=>bif isNil then some [] else bO c<|some l)=some l:=by
 subst hc;rw[cKZ (fun h0=>by
  have:=ZAY h0;subst this
  rfl)]
 rfl
theorem t7Z{l}(h:l.length<=1000000000):rU bB l=some l:=hWZ (by grind[aVZ,arZ])
theorem tHZ{l:List DB}(h:l.length<=1000000000):wK bB l=some l:=hWZ (by grind[aVZ,arZ])
theorem ttZ{l:List eJ}(h:l.length<=1000000000):HT bB l=some l:=hWZ (by grind[aVZ,arZ])
theorem tFZ{l:List bU}(h:l.length<=1000000000):HU bB l=some l:=hWZ (by grind[aVZ,arZ])
def mX(r:bU):Prop:=r.2.2.2.2.2.2.1.length<=100000/\r.2.2.2.2.2.2.2.1.length<=100000
def HG(k:eJ):Prop:=k.2.2.length<=1000/\∀r∈k.2.2,mX r
def vP(c:tH):Prop:=c.2.length<=1000/\∀k∈c.2,HG k
def gO(r:bU):Int×(Int×(Int×(Int×(Int×(Bool×(Int×(Bool×(Int×(List UInt8×List DB))))))))):=
 (r.1,(r.2.1,(r.2.2.1,(r.2.2.2.1.1,(r.2.2.2.1.2,(r.2.2.2.2.1,(r.2.2.2.2.2.1,(r.2.2.2.2.2.2.2.2.1,(r.2.2.2.2.2.2.2.2.2,(r.2.2.2.2.2.2.1,r.2.2.2.2.2.2.2.1))))))))))
theorem qHZ{r}(h:mX r):JO bB r=some (gO r):=by
 unfold JO;rw[t7Z (by have:=h.1;omega),tHZ (by have:=h.2;omega)]
 rfl
def lC(cl:Int):Int->List bU->Bool
 |_,[]=>true
 |last,r::l=>(r.1==cl)&&(decide (last<r.2.1)&&(cF r&&lC cl r.2.1 l))
def lV(w:Int)(k:eJ):Bool:=decide (0<=k.2.1)&&(decide (k.2.1<=1099511627776)&&(decide (((k.2.2.length:Nat):Int)<=w)&&lC k.1 k.2.1 k.2.2))
def lX(w:Int):Int->List eJ->Bool
 |_,[]=>true
 |last,k::l=>decide (last<k.1)&&(decide (k.1<16)&&(lV w k&&lX w k.1 l))
def gD(c:tH):Bool:=lX c.1 (-1) c.2&&decide (1<=c.1/\c.1<=100)
theorem sYZ(r)(last cl gone)(l:List bU)(h:mX r):ID bB r last cl gone l=some (!((r.1==cl)&&(decide (last<r.2.1)&&cF r)),(r.2.1,(cl,(gone,l)))):=by
 unfold ID;have e:=eFZ (r:=r) (by have:=h.1;omega) (by have:=h.2;omega)
 grind
theorem lGZ(cl gone)(l:List bU)(hl:l.length<=1000)(h:∀r∈l,mX r):∃st,uJ bB l gone cl gone l=some (!lC cl gone l,st):=by
 unfold uJ yS pY;have:=ntZ l (fun tt:Int×(Int×(Int×(Int×List bU)))=>gI bB l tt.1 tt.2.1 tt.2.2.1 tt.2.2.2.1 tt.2.2.2.2)
  (fun k last=>((k:Int),(last,(cl,(gone,l)))))
  (fun k last r=>if((r.1==cl)&&(decide (last<r.2.1)&&cF r))=true then .inl r.2.1 else .inr (.inr ((k:Int),(r.2.1,(cl,(gone,l))))))
  (fun last=>.inl (last,(cl,(gone,l)))) (fun _ _=>True) (by omega)
  (fun k r last hr _=>by
   have hk:=(ZAB.1 hr).1;refine⟨?_,fun _ _=>trivial⟩;show gI bB l (k:Int) last cl gone l=_;unfold gI;rw[ZAJ (by omega),adZ hk];simp only[ZAA,hr];rw[sYZ r last cl gone l (h r (ZAI hr)),w64 ⟨by omega,by omega⟩];cases(r.1==cl)&&(decide (last<r.2.1)&&cF r)<;>rfl)
  (fun last _=>by
   show gI bB l ((l.length:Nat):Int) last cl gone l=_;unfold gI;rw[ZAF (by omega)]
   rfl) gone trivial
 have this':iter bB (fun tt:Int×(Int×(Int×(Int×List bU)))=>gI bB l tt.1 tt.2.1 tt.2.2.1 tt.2.2.2.1 tt.2.2.2.2) (0,(gone,(cl,(gone,l))))=_:=this;rw[this'];have g:∀(m) (k) (last),(∃s,zP (fun k last r=>if((r.1==cl)&&(decide (last<r.2.1)&&cF r))=true then .inl r.2.1 else .inr (.inr ((k:Int),(r.2.1,(cl,(gone,l)))))) (fun last=>(.inl (last,(cl,(gone,l))):(Int×(Int×(Int×List bU)))⊕(Int×(Int×(Int×(Int×List bU)))))) k last m= .inl s/\lC cl last m=true)\/∃(n:Nat) (s:_),zP (fun k last r=>if((r.1==cl)&&(decide (last<r.2.1)&&cF r))=true then .inl r.2.1 else .inr (.inr ((k:Int),(r.2.1,(cl,(gone,l)))))) (fun last=>(.inl (last,(cl,(gone,l))):(Int×(Int×(Int×List bU)))⊕(Int×(Int×(Int×(Int×List bU)))))) k last m= .inr ((n:Int),s)/\lC cl last m=false:=by
  intro m;induction m with
  |nil=>intro k last;exact .inl ⟨_,rfl,rfl⟩
  |cons r m ih=>
   intro k last;unfold zP lC;by_cases q:((r.1==cl)&&(decide (last<r.2.1)&&cF r))=true
   ·simp only[q];simp only[ZAE] at q;simp only[q.1,q.2.1,q.2.2];exact ih (k+1) r.2.1
   ·simp only[q];refine .inr ⟨k,_,rfl,?_⟩;rw[<-Bool.and_assoc,<-Bool.and_assoc,ZCT (r.1==cl)];simp only[q,Bool.false_and]
 rcases g l 0 gone with⟨s,h1,h2⟩|⟨n,s,h1,h2⟩
 ·rw[h1,h2];exact⟨_,rfl⟩
 ·rw[h1,h2];simp only[ZAA];rw[ZAJ (show(n:Int)>=0 by omega)];exact⟨_,rfl⟩
theorem tMZ(k)(w)(h:HG k):QX bB k w=some (lV w k):=by
 unfold QX lV
 let⟨st,hst⟩:=lGZ k.1 k.2.1 k.2.2 h.1 h.2<;>grind
theorem jxZ(c)(h:vP c):JK bB c=some (gD c):=by
 let⟨w,ks⟩:=c
 unfold JK yT gD;have:=ntZ ks (fun tt:Int×(Int×(Int×List eJ))=>oK bB (w,ks) tt.1 tt.2.1 tt.2.2.1 tt.2.2.2)
  (fun k last=>(last,((k:Int),(w,ks))))
  (fun _ last k=>if(decide (last<k.1)&&(decide (k.1<16)&&lV w k))=true then .inl k.1 else .inr (.inr false))
  (fun _=>.inl (w,ks)) (fun _ _=>True) (by have:=h.1;simp at this;omega)
  (fun n k last hk _=>by
   have hn:=(ZAB.1 hk).1;have h1:=h.1;simp at h1;refine⟨?_,fun _ _=>trivial⟩;show oK bB (w,ks) last (n:Int) w ks=_;unfold oK;simp only;rw[ZAJ (by omega),adZ hn];simp only[ZAA,hk];have e:=tMZ k w (h.2 k (ZAI hk));rw[e,w64 ⟨by omega,by omega⟩];simp only[ZAA];by_cases q1:last<k.1
   ·by_cases q2:k.1<16
    ·rw[ZAJ q1,ZAJ q2,ZAF (show¬k.1<=last by omega),ZAF (show¬k.1>=16 by omega)];cases lV w k<;>rfl
    ·rw[ZAJ q1,ZAF q2,ZAF (show¬k.1<=last by omega),ZAJ (show k.1>=16 by omega)]
     rfl
   ·rw[ZAF q1,ZAJ (show k.1<=last by omega)]
    rfl)
  (fun last _=>by
   show oK bB (w,ks) last ((ks.length:Nat):Int) w ks=_;unfold oK;simp only;rw[ZAF (by omega)]
   rfl) (-1) trivial
 have this':iter bB (fun tt:Int×(Int×(Int×List eJ))=>oK bB (w,ks) tt.1 tt.2.1 tt.2.2.1 tt.2.2.2) (-1,(0,(w,ks)))=_:=this;simp only;rw[this'];have g:∀(m) (k) (last),zP (fun _ last k=>if(decide (last<k.1)&&(decide (k.1<16)&&lV w k))=true then .inl k.1 else .inr (.inr false)) (fun _=>(.inl (w,ks):(Int×List eJ)⊕Bool)) k last m=if lX w last m=true then .inl (w,ks) else .inr false:=by
  intro m;induction m with
  |nil=>intro k last;rfl
  |cons x m ih=>
   intro k last;unfold zP lX;by_cases q:(decide (last<x.1)&&(decide (x.1<16)&&lV w x))=true
   ·simp only[q,ZCr];simp only[ZAE] at q;simp only[q.1,q.2.1,q.2.2,ZBP];exact ih (k+1) x.1
   ·simp only[q];rw[<-Bool.and_assoc,<-Bool.and_assoc,ZCT (decide (last<x.1))];simp only[q,Bool.false_and]
    rfl
 grind
section
variable {α : Type} {key : α → Int}
theorem itZ{l}(hs:(l.map key).Pairwise (·<·))(x):∀(i) (a),l[i]? =some a->(key a<x↔i<pre (fun a=>decide (key a<x)) l):=by
 intro i a ha;constructor
 ·grind[tJZ,ZAC,ZCp,ZBq]
 ·intro h;exact of_decide_eq_true (pWZ _ l i a h ha)
theorem izZ{l}(hs:(l.map key).Pairwise (·<·))(x):(match l[pre (fun a=>decide (key a<x)) l]? with|some a=>if key a=x then some a else none|none=>none)=l.find? (fun a=>key a==x):=by
 induction l with
 |nil=>rfl
 |cons b l ih=>
  simp[ZA4] at hs;unfold pre
  grind
end
theorem gMZ{cl}:∀{l} {last},lC cl last l=true↔(l.map (·.2.1)).Pairwise (·<·)/\∀r∈l,r.1=cl/\last<r.2.1/\cF r=true
 |[],last=>by simp[lC]
 |r::l,last=>by
  unfold lC;simp only[ZAE,gMZ,ZCt,ZA4,ZBc]
  grind
theorem frZ{w}:∀{l} {last},lX w last l=true↔(l.map (·.1)).Pairwise (·<·)/\∀k∈l,last<k.1/\k.1<16/\lV w k=true
 |[],last=>by simp[lX]
 |k::l,last=>by
  unfold lX;simp[frZ,ZBc]
  grind
theorem clZ{w}{k}:lV w k=true↔0<=k.2.1/\k.2.1<=1099511627776/\((k.2.2.length:Nat):Int)<=w/\(k.2.2.map (·.2.1)).Pairwise (·<·)/\∀r∈k.2.2,r.1=k.1/\k.2.1<r.2.1/\cF r=true:=by
 simp_all[lV,gMZ]
theorem bAZ{c}:gD c=true↔(1<=c.1/\c.1<=100)/\(c.2.map (·.1)).Pairwise (·<·)/\∀k∈c.2,0<=k.1/\k.1<16/\lV c.1 k=true:=by
 unfold gD;simp[frZ]
 grind
theorem bEZ{r}(h:cF r=true):(0<=r.1/\r.1<16)/\1<=r.2.1/\r.2.1<=1099511627776:=by
 simp_all[cF,oS,ZAp]
theorem bmZ{r}(h:cF r=true):mX r:=by
 unfold cF at h;simp only[ZAE] at h;have h2:=h.2.2;split at h2
 ·simp_all[mX]
 ·grind[mX]
theorem pAZ{l:List Int}(h:l.Pairwise (·<·))(hb:∀x∈l,0<=x/\x<16):l.length<=16:=by
 have h2:∀(l:List Int) (a),l.Pairwise (·<·)->(∀x∈l,a<=x/\x<16)->a<=16->(l.length:Int)<=16-a:=by
  intro l;induction l with
  |nil=>simp_all
  |cons x l ih=>
   intro a hp hb ha;rw[ZA4] at hp;have hx:=hb x (by simp);have:=ih (x+1) hp.2 (fun y hy=>⟨by have:=hp.1 y hy;omega,(hb y (by simp[hy])).2⟩) (by omega)
   grind
 have:=h2 l 0 h hb (by omega);omega
theorem b7Z{c}(h:gD c=true):vP c:=by
 let⟨h1,h2,h3⟩:=bAZ.1 h
 refine⟨?_,fun k hk=> ?_⟩
 ·have:=pAZ h2 (fun x hx=>by
   obtain⟨k,hk,rfl⟩:=ZBc.1 hx;exact⟨(h3 k hk).1,(h3 k hk).2.1⟩)
  grind
 ·let⟨g1,g2,g3,g4,g5⟩:=clZ.1 (h3 k hk).2.2
  exact⟨by omega,fun r hr=>bmZ (g5 r hr).2.2⟩
def eR(ks:List eJ)(x:Int):Nat:=pre (fun k=>decide (k.1<x)) ks
def fU(l:List bU)(x:Int):Nat:=pre (fun r=>decide (r.2.1<x)) l
def kOf(ks:List eJ)(x:Int):Option eJ:=ks.find? fun k=>k.1==x
def rOf(l:List bU)(x:Int):Option bU:=l.find? fun r=>r.2.1==x
theorem twZ{w}{ks:List eJ}(hl:ks.length<=1000)(hs:(ks.map (·.1)).Pairwise (·<·))(hb:∀k∈ks,0<=k.1/\k.1<16){x}(hx:0<=x/\x<16):
 rof bB (w,ks) x=some (((eR ks x:Nat):Int),(kOf ks x).isSome):=by
 unfold rof sY nN;have hle:eR ks x<=ks.length:=gAZ _ _;have h1:∀k∈ks,MQ bB k x=some (k.1-x):=fun k hk=>by
  unfold MQ;have:=hb k hk;rw[w64 ⟨by omega,by omega⟩]
 have:=raZ (fun tt:Int×Int=>fZ bB ks x tt.1 tt.2) (eR ks x) ks.length hle (by omega)
  (fun i j hij hj=>by
   show fZ bB ks x (i:Int) (j:Int)=_;unfold fZ;have hh:(i+j)/2<ks.length:=by omega
   rw[ZAJ (show(i:Int)<(j:Int) by omega),q6Z (by omega),adZ hh];simp[ZAC hh];rw[h1 _ (ZBK hh),w64 ⟨by omega,by omega⟩];simp;have hp:=itZ hs x ((i+j)/2) _ (ZAC hh);by_cases hc:(i+j)/2<eR ks x
   ·have hk:=hp.2 hc;rw[ZAM hc,ZAJ (show ks[(i+j)/2].1-x<0 by omega)];simp
   ·have hk:¬ks[(i+j)/2].1<x:=fun h=>hc (hp.1 h);rw[ZAK hc,ZAF (show¬ks[(i+j)/2].1-x<0 by omega)];simp)
  (fun i=>by
   show fZ bB ks x (i:Int) (i:Int)=_;unfold fZ;rw[ZAF (by omega)]
   rfl)
 simp only;rw[this];simp only[ZAA];have hf:=izZ hs x;by_cases hc:eR ks x<ks.length
 ·rw[ZAJ (by omega),adZ hc];simp only[ZAL,ZAA,ZAC hc];rw[h1 _ (ZBK hc)];unfold kOf;rw[<-hf];have:ks[pre (fun k=>decide (k.1<x)) ks]? =some ks[eR ks x]:=ZAC hc;rw[this];simp only[ZAA];by_cases he:ks[eR ks x].1=x
  ·rw[ZAM he,ZBp.2 (by omega)];rfl
  ·rw[ZAK he,ZAa.2 (by omega)];rfl
 grind[ZAF,kOf,pre,ZAg,eR]
theorem hSZ(r:bU)(x):MR bB r x=some (if r.2.1<x then-1 else if r.2.1>x then 1 else 0):=by
 unfold MR
 grind
theorem kRZ{l:List bU}(hl:l.length<=1000)(hs:(l.map (·.2.1)).Pairwise (·<·)){x}:
 nO bB l x=some (((fU l x:Nat):Int),(rOf l x).isSome):=by
 unfold nO oY;have hle:fU l x<=l.length:=gAZ _ _;have:=raZ (fun tt:Int×Int=>gN bB l x tt.1 tt.2) (fU l x) l.length hle (by omega)
  (fun i j hij hj=>by
   show gN bB l x (i:Int) (j:Int)=_;unfold gN;have hh:(i+j)/2<l.length:=by omega
   rw[ZAJ (show(i:Int)<(j:Int) by omega),q6Z (by omega),adZ hh];simp[ZAC hh];rw[hSZ,w64 ⟨by omega,by omega⟩];simp[ZAA];have hp:=itZ hs x ((i+j)/2) _ (ZAC hh);by_cases hc:(i+j)/2<fU l x
   ·have hk:=hp.2 hc;rw[ZAM hc,ZAM hk];simp
   ·have hk:=fun h=>hc (hp.1 h);rw[ZAK hc,ZAK hk];by_cases h2:l[(i+j)/2].2.1>x
    ·rw[ZAM h2];simp
    ·rw[ZAK h2];simp)
  (fun i=>by
   show gN bB l x (i:Int) (i:Int)=_;unfold gN;rw[ZAF (by omega)]
   rfl)
 rw[this];simp only[ZAA];have hf:=izZ hs x;by_cases hc:fU l x<l.length
 ·rw[ZAJ (by omega),adZ hc];simp only[ZAL,ZAA,ZAC hc];rw[hSZ];unfold rOf;rw[<-hf];have:l[pre (fun k=>decide (k.2.1<x)) l]? =some l[fU l x]:=ZAC hc;rw[this];simp only[ZAA];have hnl:¬l[fU l x].2.1<x:=fun h=>by
   have:=(itZ hs x (fU l x) _ (ZAC hc)).1 h;unfold fU at this;omega
  by_cases he:l[fU l x].2.1=x
  ·rw[ZAK hnl,ZAK (by omega),ZAM he];rfl
  ·rw[ZAK hnl,ZAM (by omega),ZAK he];rfl
 grind[ZAF,rOf,pre,ZAg,fU]
theorem qIZ{ks}(hs:(ks.map (·.1)).Pairwise (·<·)){x}{k}(h:kOf ks x=some k):ks[eR ks x]? =some k/\k.1=x:=by
 have hf:=izZ hs x
 grind[kOf,ZCq,eR,pre]
theorem vBZ{l}(hs:(l.map (·.2.1)).Pairwise (·<·)){x}{r}(h:rOf l x=some r):l[fU l x]? =some r/\r.2.1=x:=by
 have hf:=izZ hs x
 grind[rOf,ZCq,fU,pre]
def zR:bU:=(0,(0,(0,((0,0),(false,(0,([],([],(false,0)))))))))
def look(c:tH)(client xid:Int):bU×Int:=
 if gD c=true then match kOf c.2 client with
  |none=>(zR,0)
  |some k=>if xid<=k.2.1 then(zR,2) else match rOf k.2.2 xid with
   |some r=>(r,1)
   |none=>(zR,0)
 else(zR,0)
def ST(x:bU×Int):Int×(Int×(Int×(Int×(Int×(Bool×(Int×(List UInt8×(List DB×(Bool×(Int×Int)))))))))):=
 (x.1.1,(x.1.2.1,(x.1.2.2.1,(x.1.2.2.2.1.1,(x.1.2.2.2.1.2,(x.1.2.2.2.2.1,(x.1.2.2.2.2.2.1,(x.1.2.2.2.2.2.2.1,(x.1.2.2.2.2.2.2.2.1,(x.1.2.2.2.2.2.2.2.2.1,(x.1.2.2.2.2.2.2.2.2.2,x.2)))))))))))
theorem pDZ(c)(h:vP c)(client xid):MT bB c client xid=some (ST (look c client xid)):=by
 let⟨w,ks⟩:=c
 unfold MT Pa Pb Pd Pe Pf Pg Ph Pi PA PI;simp only;rw[jxZ (w,ks) h];simp only[ZAA];unfold look;cases hr:gD (w,ks) with
 |false=>rfl
 |true=>
  let⟨h1,h2,h3⟩:=bAZ.1 hr
  simp only at h1 h2 h3;have hb:∀k∈ks,0<=k.1/\k.1<16:=fun k hk=>⟨(h3 k hk).1,(h3 k hk).2.1⟩;have hnone:¬(0<=client/\client<16)->kOf ks client=none:=fun hn=>ZBu.2 fun k hk=>by
   have:=hb k hk;simp;omega
  simp only[ZCr];by_cases q1:client>=0
  ·by_cases q2:client<16
   ·rw[ZAJ q1,ZAJ q2];simp only[ZAL,ZAA];rw[twZ h.1 h2 hb ⟨by omega,q2⟩];simp only;cases hk:kOf ks client with
    |none=>rfl
    |some k=>
     let⟨g1,g2⟩:=qIZ h2 hk
     have hlt:=(ZAB.1 g1).1;have hkm:=ZAI g1
     let⟨e1,e2,e3,e4,e5⟩:=clZ.1 (h3 k hkm).2.2
     simp[ZAA];rw[adZ hlt];simp[g1];by_cases q3:xid<=k.2.1
     ·rw[ZAJ q3,ZAM q3];rfl
     ·rw[ZAF q3,ZAK q3];simp;rw[kRZ (h.2 k hkm).1 e4];simp;cases hx:rOf k.2.2 xid with
      |none=>rfl
      |some r=>
       let⟨g3,g4⟩:=vBZ e4 hx
       have hlt2:=(ZAB.1 g3).1;simp only[Option.isSome_some,ZAL];rw[adZ hlt2];simp only[ZAA,g3];rw[qHZ ((h.2 k hkm).2 r (ZAI g3))]
       rfl
   ·rw[ZAJ q1,ZAF q2,hnone (by omega)];rfl
  ·rw[ZAF q1,hnone (by omega)];rfl
abbrev uT:Ty:=.pair (.int .i64) (.pair (.int .i64) (.pair (.int .i64) (.pair qY5 (.pair .bool (.pair (.int .i64) (.pair (.sl .byte) (.pair (.sl (.pair .str (.int .i64))) (.pair .bool (.int .i64)))))))))
abbrev TKR:Ty:=.pair (.int .i64) (.pair (.int .i64) (.ref 1 uT))
abbrev KR:Type:=Int×(Int×nR bU)
abbrev DC(rows:List KR)(ms:List (Nat×List bU))(ks:List eJ):Prop:=Fam (fun r:KR=>r.2.2) (fun k:eJ=>k.2.2) (fun r k=>r.1=k.1/\r.2.1=k.2.1) rows ms ks
theorem t3Z(ms:List (Nat×List bU))(x:nR bU):bT [⟨1,uT,ms⟩] (.ref 1 uT) x=NM ms x:=by
 rcases x with l|(_|⟨k,o,n⟩)<;>rfl
theorem DC.pure_{rows}{ms}{ks}(h:DC rows ms ks):cJ (bT [⟨1,uT,ms.map bX⟩] TKR) rows=some ks:=
 h.pure (bT [⟨1,uT,ms.map bX⟩] TKR) fun row k hs hv=>by
  let⟨a,b,x⟩:=row
  let⟨a',b',l⟩:=k
  obtain⟨rfl,rfl⟩:=hs;show((some a).bind fun y=>(((some b).bind fun y=>(bT [⟨1,uT,ms.map bX⟩] (.ref 1 uT) x).map fun z=>(y,z)).map fun z=>(y,z)))=_;rw[t3Z,hv]
  rfl
theorem ownL{l:List bU}{k}{r}(h:l[k]? =some r):l.set k ((gO r).1,((gO r).2.1,((gO r).2.2.1,(((gO r).2.2.2.1,(gO r).2.2.2.2.1),((gO r).2.2.2.2.2.1,((gO r).2.2.2.2.2.2.1,((gO r).2.2.2.2.2.2.2.2.2.1,((gO r).2.2.2.2.2.2.2.2.2.2,((gO r).2.2.2.2.2.2.2.1,(gO r).2.2.2.2.2.2.2.2.1)))))))))=l:=by
 let⟨hk,hr⟩:=ZAB.1 h
 have:(((gO r).1,((gO r).2.1,((gO r).2.2.1,(((gO r).2.2.2.1,(gO r).2.2.2.2.1),((gO r).2.2.2.2.2.1,((gO r).2.2.2.2.2.2.1,((gO r).2.2.2.2.2.2.2.2.2.1,((gO r).2.2.2.2.2.2.2.2.2.2,((gO r).2.2.2.2.2.2.2.1,(gO r).2.2.2.2.2.2.2.2.1))))))))):bU)=l[k]:=by rw[hr];rfl
 grind[ZCY]
theorem duZ{α:Type}{l:List α}{k}{x}(h:l[k]? =some x):l.set k x=l:=by
 grind[ZAB,ZCY]
theorem ueZ{rows:List KR}{ms:List (Nat×List bU)}{q j:Nat}{a b}{l}(hr:rows[q]? =some (a,(b,.inr (some (j,(0,l.length))))))(hm:ms[j]? =some (1,l))(hl:l.length<=1000)(hs:∀r∈l,mX r)(h h2):
 tE bB (a,(b,.inr (some (j,(0,l.length))))) (q,(0,(h,(rows,(h2,ms)))))=some (h,(rows,(h2,ms))):=by
 unfold tE;have:=aoZ (f:=fun tt:Nat×(Int×(Int×(List KR×(Int×List (Nat×List bU)))))=>rC bB (a,(b,.inr (some (j,(0,l.length))))) tt.1 tt.2.1 tt.2.2.1 tt.2.2.2.1 tt.2.2.2.2.1 tt.2.2.2.2.2) (o:=(h,(rows,(h2,ms)))) (fun k=>(q,((k:Int),(h,(rows,(h2,ms)))))) l.length (by omega) (fun k hk=>by
  show rC bB _ q (k:Int) h rows h2 ms=_;unfold rC;have e0:fM (s:=uT) (.inr (some (j,(0,l.length))))=l.length:=rfl;have hx:l[k]? =some l[k]:=ZAC hk;simp only[e0];rw[ZAJ (show(k:Int)<((l.length:Nat):Int) by omega)];simp only[ZAL,hr,ZAA,wF];rw[adZ hk];simp only[ZAA,hm,ZA1,hx];rw[acZ (by rfl),qHZ (hs _ (ZBK hk))];simp only[ZAA,hx];rw[acZ (by rfl),w64 ⟨by omega,by omega⟩];rw[ownL hx,duZ hm]
  rfl) (by
  show rC bB _ q ((l.length:Nat):Int) h rows h2 ms=_;unfold rC;have e0:fM (s:=uT) (.inr (some (j,(0,l.length))))=l.length:=rfl;simp only[e0];rw[ZAF (by omega)]
  rfl)
 omega
theorem qyZ(c)(h:vP c):∃rows ms,RW bB c=some (c.1,(rows,ms))/\DC rows ms c.2:=by
 let⟨w,ks⟩:=c
 have hn:=h.1;simp at hn;unfold RW;simp;rw[ttZ (by omega)];have h0:∀(i:Nat) (k),ks[i]? =some k->(List.map (dE TKR) ((ks)))[i]? =some ((k.1,(k.2.1,.inl k.2.2)):KR):=fun i k hg=>by
  show(List.map (dE TKR) (show List (TKR.unref.den) from ks))[i]? =some (dE TKR k);rw[ZAW];show(((ks))[i]?).map _=_;rw[hg]
  rfl
 have loop:∃o,tF bB ks (0,(w,((List.map (dE TKR) ((ks))),(0,[]))))=some o/\∃rows ms,o=(w,(rows,(0,ms)))/\DC rows ms ks:=by
  unfold tF;refine aAZ (fun m s=>∃(n:Nat) (rows:List KR) (ms:List (Nat×List bU)),s=((n:Int),(w,(rows,(0,ms))))/\n+m=ks.length/\rows.length=ks.length/\ms.length=n/\∀(i) k,ks[i]? =some k->(i<n->rows[i]? =some (k.1,(k.2.1,.inr (some (i,(0,k.2.2.length)))))/\ms[i]? =some (1,k.2.2))/\(n<=i->rows[i]? =some (k.1,(k.2.1,.inl k.2.2)))) _ (fun m s hI=> ?_) (fun s hI=> ?_) ks.length _ (by omega) ⟨0,_,[],rfl,by omega,ZAs _,rfl,fun i k hg=>⟨fun hc=>absurd hc (ZBf _),fun _=>h0 i k hg⟩⟩
  ·obtain⟨n,rows,ms,rfl,hk,g1,g2,g3⟩:=hI;have hlt:n<ks.length:=by omega
   obtain⟨k,hg⟩:∃k,ks[n]? =some k:=⟨_,ZAC hlt⟩;have hrow:=(g3 n k hg).2 (ZAN _);have hsm:=h.2 k (ZAI hg);left;refine⟨(((n+1:Nat):Int),(w,(rows.set n (k.1,(k.2.1,.inr (some (n,(0,k.2.2.length))))),(0,ms++[(1,k.2.2)])))),?_,n+1,_,_,rfl,by omega,by rw[ZAt];exact g1,by simp[g2],fun i k' hg'=>⟨fun hi=> ?_,fun hi=> ?_⟩⟩
   ·unfold CV;simp only;rw[ZAJ (show(n:Int)<((ks.length:Nat):Int) by omega),adZ (by omega)];simp[hrow];rw[show nB (.ref 1 uT) (.inl k.2.2)=some k.2.2 from rfl];erw[ZAA];rw[tFZ (by have:=hsm.1;omega)];simp[ZAA,g2];rw[ZAQ (by omega)];simp only[ZAA];rw[ueZ (ZAQ (by omega)) (by rw[ZAU (by omega),g2,ZBo];rfl) hsm.1 hsm.2,w64 ⟨by omega,by omega⟩]
    rfl
   ·by_cases hin:i=n
    ·subst hin;rw[hg] at hg';cases hg';exact⟨ZAQ (by omega),by rw[ZAU (by omega),g2,ZBo];rfl⟩
    ·have:=(g3 i k' hg').1 (by omega);rw[ZAX (by omega),ZAT (by omega)];exact this
   ·rw[ZAX (by omega)];exact(g3 i k' hg').2 (by omega)
  ·obtain⟨n,rows,ms,rfl,hk,g1,g2,g3⟩:=hI;have:n=ks.length:=by omega
   subst this;refine⟨(w,(rows,(0,ms))),?_,rows,ms,rfl,g1,fun i row k hr hk=> ?_,fun i i' row row' j p p' hii hr hr' hj hj'=> ?_⟩
   ·unfold CV;simp only;rw[ZAF (by omega)]
    rfl
   ·let⟨e1,e2⟩:=(g3 i k hk).1 (ZAB.1 hk).1
    rw[e1] at hr;cases hr;exact⟨⟨rfl,rfl⟩,.inr ⟨i,rfl,e2⟩⟩
   ·have q:∀(i) (row) (p),rows[i]? =some row->row.2.2= .inr (some (j,p))->j=i:=fun i row p hr hj=>by
     have hi:=(ZAB.1 hr).1;have hg:=ZAC (show i<ks.length by omega)
     let⟨e1,_⟩:=(g3 i _ hg).1 (by omega)
     rw[e1] at hr;cases hr;injection hj with hj;injection hj with hj;injection hj with hj;exact hj.symm
    have:=q i row p hr hj;have:=q i' row' p' hr' hj';omega
 grind
def tI(w:Int)(k:eJ)(r:bU):eJ:=
 let l:=k.2.2.take (fU k.2.2 r.2.1)++[r]++k.2.2.drop (fU k.2.2 r.2.1)
 if((l.length:Nat):Int)>w then(k.1,((match l[0]? with|some x=>x.2.1|none=>0),l.drop 1)) else(k.1,(k.2.1,l))
def gP(ks:List eJ)(cl:Int):List eJ:=if(kOf ks cl).isSome=true then ks else ks.take (eR ks cl)++[(cl,(0,[]))]++ks.drop (eR ks cl)
def fV(ks:List eJ)(cl:Int):eJ:=(kOf ks cl).getD (cl,(0,[]))
def iC(w:Int)(ks:List eJ)(r:bU):List eJ:=(gP ks r.1).set (eR ks r.1) (tI w (fV ks r.1) r)
def put(c:tH)(r:bU):tH×Int:=if gD c=true/\cF r=true/\(look c r.1 r.2.1).2=0 then((c.1,iC c.1 c.2 r),0) else(c,2)
def putO(x:tH×Int):Int×(List eJ×Int):=(x.1.1,(x.1.2,x.2))
theorem uZZ{i}{l:List KR}{x:KR}{ms:List (Nat×List bU)}(hi:i<=l.length)(hl:l.length<=1000):IH bB (i:Int) l [x] ms=some ([x],(l.take i++[x]++l.drop i,ms)):=by
 unfold IH;rw[aLZ hi,ZAA];rw[aVZ (by grind[arZ]),aVZ (by grind[arZ])]
 rfl
theorem uFZ{i}{l:List bU}{x:bU}(hi:i<=l.length)(hl:l.length<=1000):II bB (i:Int) l [x]=some ([x],l.take i++[x]++l.drop i):=by
 unfold II;rw[aLZ hi,ZAA];rw[aVZ (by grind[arZ]),aVZ (by grind[arZ])]
 rfl
theorem unZ{l:List bU}(hl:0<l.length):RY bB 0 1 l=some (l.drop 1):=by
 unfold RY;rw[b0Z (by omega) (by omega),ZAA,b0Z (by omega) (by simp),ZAA]
 rfl
theorem ownR(r):(((gO r).1,((gO r).2.1,((gO r).2.2.1,(((gO r).2.2.2.1,(gO r).2.2.2.2.1),((gO r).2.2.2.2.2.1,((gO r).2.2.2.2.2.2.1,((gO r).2.2.2.2.2.2.2.2.2.1,((gO r).2.2.2.2.2.2.2.2.2.2,((gO r).2.2.2.2.2.2.2.1,(gO r).2.2.2.2.2.2.2.2.1))))))))):bU)=r:=rfl
theorem j4Z(c)(cl x):(ST (look c cl x)).2.2.2.2.2.2.2.2.2.2.2=(look c cl x).2:=rfl
theorem rjZ(c)(R)(h:vP c)(hr:mX R):SA bB c R=some (putO (put c R)):=by
 obtain⟨w,ks⟩:=c;obtain⟨rows,ms,hc,hF⟩:=qyZ (w,ks) h;simp only at hc hF;unfold SA Pa Pb Pc Pd Pe Pf Pg Ph Pi Pj Pk Pl Pm Pn Po Pp PA PH PI PJ PO PP;simp only;rw[hc,ZAA,jxZ (w,ks) h];simp only[ZAA];have hrr:=
  eFZ (r:=R) (by have:=hr.1;omega) (by have:=hr.2;omega)
 have hown:=qHZ hr;have hp:=hF.pure_;have hn:=h.1;simp only at hn;unfold put;cases hc1:gD (w,ks) with
 |false=>
  simp only[ZAl,ZAL,ZAA];rw[hp]
  rfl
 |true=>
  simp only[ZAO,ZAD];rw[hrr];simp only[ZAA];cases hc2:cF R with
  |false=>
   simp only[ZAl,ZAL,ZAA];rw[hp]
   rfl
  |true=>
   simp only[ZAO,ZAD,ZAA];rw[pDZ (w,ks) h R.1 R.2.1];simp only[ZAA,j4Z];by_cases hlk:(look (w,ks) R.1 R.2.1).2=0
   ·simp only[hlk,ZAb,ZAO,ZAD];rw[hp];erw[ZAA];obtain⟨g1,g2,g3⟩:=bAZ.1 hc1;simp only at g1 g2 g3;have hwho:=(bEZ hc2).1;have hb:∀k∈ks,0<=k.1/\k.1<16:=fun k hk=>⟨(g3 k hk).1,(g3 k hk).2.1⟩;rw[twZ hn g2 hb hwho];simp only[ZAA];have hat:eR ks R.1<=ks.length:=gAZ _ _;have hlen:=hF.len;refine uPZ (fun z=>z=some _) (fun o=>∃rows1 ms1,o=(w,(ks,(R.1,(R.2.1,(R.2.2.1,(R.2.2.2.1.1,(R.2.2.2.1.2,(R.2.2.2.2.1,(R.2.2.2.2.2.1,(R.2.2.2.2.2.2.1,(R.2.2.2.2.2.2.2.1,(R.2.2.2.2.2.2.2.2.1,(R.2.2.2.2.2.2.2.2.2,(0,(w,(rows1,ms1))))))))))))))))/\DC rows1 ms1 (gP ks R.1)/\(gP ks R.1)[eR ks R.1]? =some (fV ks R.1)/\(fV ks R.1).2.2.length<=1000/\((fV ks R.1).2.2.map (·.2.1)).Pairwise (·<·)) ?_ (fun o ho=> ?_)
    ·unfold gP fV;cases hk:kOf ks R.1 with
     |none=>
      simp only[Option.isSome_none,ZAl,ZAL,ZBI,ZCi,Option.getD_none];rw[uZZ (by omega) (by omega)];refine⟨_,rfl,_,_,rfl,hF.insert (by omega) ⟨rfl,rfl⟩ rfl rfl,?_,by simp,by simp⟩;have e1:(ks.take (eR ks R.1)).length=eR ks R.1:=by rw[ZAS];omega
      rw[ZAw,ZAU (by omega),e1,ZBo]
      rfl
     |some k=>
      simp only[Option.isSome_some,ZAO,ZAD,ZCr,ZCR];obtain⟨q1,q2⟩:=qIZ g2 hk;have hkm:=ZAI q1;have hkb:=clZ.1 (g3 k hkm).2.2;exact⟨_,rfl,_,_,rfl,hF,q1,(h.2 k hkm).1,hkb.2.2.2.1⟩
    obtain⟨rows1,ms1,rfl,hF1,hq,hl1,hs1⟩:=ho;simp only;obtain⟨row,hrow,hsame,hpart⟩:=hF1.row hq;have hqr:=(ZAB.1 hrow).1;rw[adZ hqr];simp only[ZAA,hrow];rw[t3Z,hpart.view];erw[ZAA];rw[kRZ hl1 hs1];simp only[ZAA];rw[hown];simp only[ZAA];obtain⟨ms2,ho2,hm2,hF2⟩:=hF1.open_ hrow hq;rw[ho2];simp only[ZAA];rw[ownR,uFZ (i:=fU (fV ks R.1).2.2 R.2.1) (gAZ _ _) hl1];simp only[ZAA];rw[ZAQ hqr];simp only[ZAA];generalize hL:(fV ks R.1).2.2.take (fU (fV ks R.1).2.2 R.2.1)++[R]++(fV ks R.1).2.2.drop (fU (fV ks R.1).2.2 R.2.1)=L;have hLp:0<L.length:=by rw[<-hL];simp;omega
    have e0:fM (s:=uT) (.inr (some (ms2.length,(0,L.length))))=L.length:=rfl;simp only[e0];have hrow1:=hsame.1;have hrow2:=hsame.2;have hgoal:∀K,tI w (fV ks R.1) R=K->some (w,((gP ks R.1).set (eR ks R.1) K,(0:Int)))=some (putO (if true=true/\true=true/\(0:Int)=0 then((w,iC w ks R),(0:Int)) else((w,ks),2))):=fun K hK=>by
     rw[ZAM ⟨rfl,rfl,rfl⟩,<-hK]
     rfl
    by_cases hw:((L.length:Nat):Int)>w
    ·rw[ZAJ hw];simp only[ZAL];have hx0:=ZAC hLp;have hF3:=hF2 (row.1,(row.2.1,.inr (some (ms2.length,(0,L.length))))) (row.1,(row.2.1,L)) ⟨rfl,rfl⟩ rfl;have hq3:(rows1.set (eR ks R.1) (row.1,(row.2.1,.inr (some (ms2.length,(0,L.length))))))[eR ks R.1]? =some (row.1,(row.2.1,.inr (some (ms2.length,(0,L.length))))):=ZAQ hqr;have hk3:((gP ks R.1).set (eR ks R.1) (row.1,(row.2.1,L)))[eR ks R.1]? =some (row.1,(row.2.1,L)):=ZAQ (by have:=(ZAB.1 hq).1;omega);simp only[wF,ZAA];rw[azZ (by omega) (by omega)];simp only[ZAA,Int.toNat_zero,ZCX];have hm3:(ms2++[(1,L)])[ms2.length]? =some (1,L):=by rw[ZAU (by omega),ZBo];rfl
     rw[hm3];simp only[ZAA];rw[acZ (by rfl)];simp only[hx0,ZAA];have hF4:=hF3.keep hq3 hk3 (row':=(row.1,(L[0].2.1,.inr (some (ms2.length,(0,L.length)))))) (k':=(row.1,(L[0].2.1,L))) ⟨rfl,rfl⟩ rfl rfl;have hq4:((rows1.set (eR ks R.1) (row.1,(row.2.1,.inr (some (ms2.length,(0,L.length)))))).set (eR ks R.1) (row.1,(L[0].2.1,.inr (some (ms2.length,(0,L.length))))))[eR ks R.1]? =some (row.1,(L[0].2.1,.inr (some (ms2.length,(0,L.length))))):=ZAQ (by simpa using hqr);have hk4:(((gP ks R.1).set (eR ks R.1) (row.1,(row.2.1,L))).set (eR ks R.1) (row.1,(L[0].2.1,L)))[eR ks R.1]? =some (row.1,(L[0].2.1,L)):=ZAQ (by rw[ZAt];have:=(ZAB.1 hq).1;omega);rw[hq4];simp only[ZAA];obtain⟨ms5,ho5,hm5,hF5⟩:=hF4.open_ hq4 hk4;simp only at ho5;rw[ho5];simp only[ZAA];rw[unZ hLp];simp only[ZAA];have hF6:=hF5 (row.1,(L[0].2.1,.inr (some (ms5.length,(0,(L.drop 1).length))))) (row.1,(L[0].2.1,L.drop 1)) ⟨rfl,rfl⟩ rfl;rw[DC.pure_ hF6];erw[ZAA];simp only[List.set_set];refine hgoal _ ?_;unfold tI;rw[hL];simp only;rw[ZAM hw,hx0,hrow1]
    ·rw[ZAF hw];simp only[ZAD];have hF3:=hF2 (row.1,(row.2.1,.inr (some (ms2.length,(0,L.length))))) (row.1,(row.2.1,L)) ⟨rfl,rfl⟩ rfl;rw[DC.pure_ hF3];erw[ZAA];refine hgoal _ ?_;unfold tI;rw[hL];simp only;rw[ZAK hw,hrow1,hrow2]
   ·rw[ZAa.2 hlk];simp only[ZAl,ZAL];rw[hp,ZAK (fun hc=>hlk hc.2.2)]
    rfl
abbrev gU:Type:=Int×List Int
abbrev cW:Type:=Int×(dH×(tH×(List gU×List dC)))
theorem iiZ{t:dH}(h:Fit t.1):KZ bB t=some (t.2,t.1):=by
 unfold KZ;rw[dcZ h.n];have loop:yD bB t.1 (0,(t.2,(t.1,0)))=some (t.2,(t.1,0)):=by
  refine aoZ (fun k=>((k:Int),(t.2,(t.1,0)))) t.1.length (by have:=h.n;omega) (fun k hk=> ?_) ?_
  ·unfold BN Pb Pc Pd Pe PE;obtain⟨n,hg⟩:∃n,t.1[k]? =some n:=⟨_,ZAC hk⟩;have hsm:=h.at hg;have hs:=dGZ hg;simp only[aDZ hk];rw[adZ hk];simp only[ZAA,hg];rw[cGZ hsm.1,dPZ hsm.2];show((bH ((k:Nat):Int) (t.1.set k n).length).bind fun q3=>((t.1.set k n)[q3]?.bind _))=_;rw[hs,adZ hk,ZAA,hg,w64 (by have:=h.n;omega)];show some (Sum.inl (_,(t.2,(t.1.set k n,0))))=_;rw[hs]
   rfl
  ·unfold BN Pb Pc Pd Pe PE;simp[ZAD]
 simp_all
theorem nPZ{l:List gU}(h:l.length<=1000000000):LA bB l=some l:=hWZ (by grind[aVZ,arZ])
theorem qTZ{l}(h:l.length<=1000000000):LC bB l=some l:=hWZ (by grind[aVZ,arZ])
abbrev UQ:Type:=Int×(Int×(Int×(List dC×(List Ino×(List KR×(List gU×(Int×(Int×(Int×List (Nat×List bU))))))))))
theorem own0{rows:List KR}{ms:List (Nat×List bU)}{q j:Nat}{a b}{l}(hr:rows[q]? =some (a,(b,.inr (some (j,(0,l.length))))))(hm:ms[j]? =some (1,l))(hl:l.length<=1000)(hs:∀r∈l,mX r)
 (h1 h2 h3)(h4:List dC)(h5:List Ino)(h7:List gU)(h8 h9 h10):
 kH bB (a,(b,.inr (some (j,(0,l.length))))) (q,(0,(h1,(h2,(h3,(h4,(h5,(rows,(h7,(h8,(h9,(h10,ms))))))))))))=some (h1,(h2,(h3,(h4,(h5,(rows,(h7,(h8,(h9,(h10,ms)))))))))):=by
 unfold kH;refine aoZ (fun k:Nat=>((q,((k:Int),(h1,(h2,(h3,(h4,(h5,(rows,(h7,(h8,(h9,(h10,ms)))))))))))):Nat×(Int×UQ))) l.length (by omega) (fun k hk=> ?_) ?_
 ·show iX bB _ q (k:Int) h1 h2 h3 h4 h5 rows h7 h8 h9 h10 ms=_;unfold iX Pa Pc Pd Pe Pf PA PF;have e0:fM (s:=uT) (.inr (some (j,(0,l.length))))=l.length:=rfl;have hx:l[k]? =some l[k]:=ZAC hk;have hsm:=hs _ (ZBK hk);simp only[e0];rw[ZAJ (show(k:Int)<((l.length:Nat):Int) by omega)];simp only[ZAL,hr,ZAA,wF];rw[adZ hk];simp only[ZAA,hm,ZA1,hx];rw[acZ (by rfl),t7Z (by have:=hsm.1;omega)];simp only[ZAA];rw[acZ (by rfl),tHZ (by have:=hsm.2;omega)];simp only[ZAA];rw[acZ (by rfl)];generalize hy:l[k]=y at hx⊢;have es:∀{z:bU},z=y->List.set l k z=l:=fun e=>e▸duZ hx;have em:∀{z:Nat×List bU},z=(1,l)->List.set ms j z=ms:=fun e=>e▸duZ hm;rw[show List.set ms j (1,List.set l k (y.1,(y.2.1,(y.2.2.1,(y.2.2.2.1,(y.2.2.2.2.1,(y.2.2.2.2.2.1,(y.2.2.2.2.2.2.1,y.2.2.2.2.2.2.2))))))))=ms from em (by rw[es rfl])];simp only[hm,ZAA];rw[acZ (by rfl)];simp only[hx,ZAA];rw[show List.set ms j (1,List.set l k (y.1,(y.2.1,(y.2.2.1,(y.2.2.2.1,(y.2.2.2.2.1,(y.2.2.2.2.2.1,(y.2.2.2.2.2.2.1,(y.2.2.2.2.2.2.2.1,y.2.2.2.2.2.2.2.2)))))))))=ms from em (by rw[es rfl]),w64 ⟨by omega,by omega⟩]
  rfl
 ·show iX bB _ q ((l.length:Nat):Int) h1 h2 h3 h4 h5 rows h7 h8 h9 h10 ms=_;unfold iX Pa Pc Pd Pe Pf PA PF;have e0:fM (s:=uT) (.inr (some (j,(0,l.length))))=l.length:=rfl;simp only[e0];rw[ZAF (by omega)]
  rfl
theorem kYZ(ks:List eJ)(hn:ks.length<=1000)(h:∀k∈ks,HG k)(h1 h2 h3)(h4:List dC)(h5:List Ino)(h7:List gU)(h8 h9 h10):
 ∃rows ms,iG bB ks (0,(h1,(h2,(h3,(h4,(h5,(List.map (dE TKR) (show List (TKR.unref.den) from ks),(h7,(h8,(h9,(h10,[])))))))))))=some (h1,(h2,(h3,(h4,(h5,(rows,(h7,(h8,(h9,(h10,ms))))))))))/\DC rows ms ks:=by
 have h0:∀(i:Nat) (k),ks[i]? =some k->(List.map (dE TKR) ((ks)))[i]? =some ((k.1,(k.2.1,.inl k.2.2)):KR):=fun i k hg=>by
  show(List.map (dE TKR) (show List (TKR.unref.den) from ks))[i]? =some (dE TKR k);rw[ZAW];show(((ks))[i]?).map _=_;rw[hg]
  rfl
 have loop:∃o,iG bB ks (0,(h1,(h2,(h3,(h4,(h5,((List.map (dE TKR) ((ks))),(h7,(h8,(h9,(h10,[])))))))))))=some o/\∃rows ms,o=(h1,(h2,(h3,(h4,(h5,(rows,(h7,(h8,(h9,(h10,ms))))))))))/\DC rows ms ks:=by
  unfold iG;refine aAZ (fun m s=>∃(n:Nat) (rows:List KR) (ms:List (Nat×List bU)),s=((n:Int),(h1,(h2,(h3,(h4,(h5,(rows,(h7,(h8,(h9,(h10,ms)))))))))))/\n+m=ks.length/\rows.length=ks.length/\ms.length=n/\∀(i) k,ks[i]? =some k->(i<n->rows[i]? =some (k.1,(k.2.1,.inr (some (i,(0,k.2.2.length)))))/\ms[i]? =some (1,k.2.2))/\(n<=i->rows[i]? =some (k.1,(k.2.1,.inl k.2.2)))) _ (fun m s hI=> ?_) (fun s hI=> ?_) ks.length _ (by omega) ⟨0,_,[],rfl,by omega,ZAs _,rfl,fun i k hg=>⟨fun hc=>absurd hc (ZBf _),fun _=>h0 i k hg⟩⟩
  ·obtain⟨n,rows,ms,rfl,hk,g1,g2,g3⟩:=hI;have hlt:n<ks.length:=by omega
   obtain⟨k,hg⟩:∃k,ks[n]? =some k:=⟨_,ZAC hlt⟩;have hrow:=(g3 n k hg).2 (ZAN _);have hsm:=h k (ZAI hg);left;refine⟨(((n+1:Nat):Int),(h1,(h2,(h3,(h4,(h5,(rows.set n (k.1,(k.2.1,.inr (some (n,(0,k.2.2.length))))),(h7,(h8,(h9,(h10,ms++[(1,k.2.2)]))))))))))),?_,n+1,_,_,rfl,by omega,by rw[ZAt];exact g1,by simp[g2],fun i k' hg'=>⟨fun hi=> ?_,fun hi=> ?_⟩⟩
   ·unfold oD;simp only;rw[ZAJ (show(n:Int)<((ks.length:Nat):Int) by omega),adZ (by omega)];simp only[ZAL,ZAA,hrow];rw[show nB (.ref 1 uT) (.inl k.2.2)=some k.2.2 from rfl];erw[ZAA];rw[tFZ (by have:=hsm.1;omega)];simp only[ZAA,g2];rw[ZAQ (by omega)];simp only[ZAA];rw[own0 (ZAQ (by omega)) (by rw[ZAU (by omega),g2,ZBo];rfl) hsm.1 hsm.2,w64 ⟨by omega,by omega⟩]
    rfl
   ·by_cases hin:i=n
    ·subst hin;rw[hg] at hg';cases hg';exact⟨ZAQ (by omega),by rw[ZAU (by omega),g2,ZBo];rfl⟩
    ·have:=(g3 i k' hg').1 (by omega);rw[ZAX (by omega),ZAT (by omega)];exact this
   ·rw[ZAX (by omega)];exact(g3 i k' hg').2 (by omega)
  ·obtain⟨n,rows,ms,rfl,hk,g1,g2,g3⟩:=hI;have:n=ks.length:=by omega
   subst this;refine⟨(h1,(h2,(h3,(h4,(h5,(rows,(h7,(h8,(h9,(h10,ms)))))))))),?_,rows,ms,rfl,g1,fun i row k hr hk=> ?_,fun i i' row row' j p p' hii hr hr' hj hj'=> ?_⟩
   ·unfold oD;simp only;rw[ZAF (by omega)]
    rfl
   ·obtain⟨e1,e2⟩:=(g3 i k hk).1 (ZAB.1 hk).1;rw[e1] at hr;cases hr;exact⟨⟨rfl,rfl⟩,.inr ⟨i,rfl,e2⟩⟩
   ·have q:∀(i) (row) (p),rows[i]? =some row->row.2.2= .inr (some (j,p))->j=i:=fun i row p hr hj=>by
     have hi:=(ZAB.1 hr).1;have hg:=ZAC (show i<ks.length by omega);obtain⟨e1,_⟩:=(g3 i _ hg).1 (by omega);rw[e1] at hr;cases hr;injection hj with hj;injection hj with hj;injection hj with hj;exact hj.symm
    have:=q i row p hr hj;have:=q i' row' p' hr' hj';omega
 grind
theorem o8Z(pl:List gU)(hn:pl.length<=1000)(h:∀p∈pl,p.2.length<=1000)(h1 h2 h3)(h4:List eJ)(h5:List dC)(h6:List Ino)(h8 h9 h10):
 oW bB pl (0,(h1,(h2,(h3,(h4,(h5,(h6,(pl,(h8,(h9,h10))))))))))=some (h1,(h2,(h3,(h4,(h5,(h6,(pl,(h8,(h9,h10))))))))):=by
 refine aoZ (fun k:Nat=>((k:Int),(h1,(h2,(h3,(h4,(h5,(h6,(pl,(h8,(h9,h10))))))))))) pl.length (by omega) (fun k hk=> ?_) ?_
 ·show iW bB pl (k:Int) h1 h2 h3 h4 h5 h6 pl h8 h9 h10=_;unfold iW;have hx:=ZAC hk;rw[ZAJ (show(k:Int)<((pl.length:Nat):Int) by omega),adZ hk,ZAA,hx,ZAA,qTZ (by have:=h _ (ZBK hk);omega),ZAA,ZAA,hx,ZAA,w64 (by omega)];rw[(duZ hx)]
  rfl
 show iW bB pl (pl.length:Int) h1 h2 h3 h4 h5 h6 pl h8 h9 h10=_;simp_all[iW,ZAF]
theorem uSZ(s:cW)(hf:Fit s.2.1.1)(hc:vP s.2.2.1)(hp:s.2.2.2.1.length<=1000/\∀p∈s.2.2.2.1,p.2.length<=1000)(hd:s.2.2.2.2.length<=100000):
 fX bB s=some (s.1,(s.2.1.2,(s.2.2.1.1,(s.2.2.1.2,(s.2.1.1,(s.2.2.2.1,s.2.2.2.2)))))):=by
 let⟨life,t,⟨w,ks⟩,pl,dead⟩:=s
 unfold fX Pb Pc Pd Pe Pf Pg Ph PH PI;rw[iiZ hf,ZAA,nPZ (by omega),ZAA];rw[o8Z pl hp.1 hp.2,ZAA];rw[ttZ (by have:=hc.1;grind),ZAA]
 let⟨rows,ms,ho,hF⟩:=kYZ ks hc.1 hc.2 life t.2 w dead t.1 pl 0 0 0
 have ho':=ho;erw[ho'];rw[ZAA];simp;rw[cGZ hd];have hp':=hF.pure_;erw[hp']
 rfl
def dJ(x:Ino):Ino:=(x.1,x.2.1,x.2.2.1,x.2.2.2.1,x.2.2.2.2.1,[],x.2.2.2.2.2.2.1,x.2.2.2.2.2.2.2)
def jF(x:Ino):Byt:=List.replicate x.2.2.2.2.1.toNat 0
theorem v1Z{α:Type}{f}{l:List α}{k}{x}(h:l[k]? =some x):((l.take k).map f++l.drop k).set k (f x)=(l.take (k+1)).map f++l.drop (k+1):=by
 obtain⟨hk,rfl⟩:=ZAB.1 h;have e:((l.take k).map f).length=k:=by simp;omega
 rw[List.set_append_right _ _ (by omega),e,ZBo,ZBT hk,aWZ h,ZCM,ZAw]
 rfl
theorem vKZ{α:Type}{f}{l:List α}{k}{x}(h:l[k]? =some x):((l.take k).map f++l.drop k)[k]? =some x:=by
 grind
theorem srZ{T:dH}(hf:Fit T.1)(hs:∀x∈T.1,0<=x.2.2.2.2.1/\x.2.2.2.2.1<=65536)(hn:T.1.length<=1000):JN bB T=some (T.2,(T.1.map dJ,T.1.map jF)):=by
 unfold JN;rw[iiZ hf,ZAA];simp;have loop:sX bB (T.2,T.1) (0,(0,(T.2,(T.1,[]))))=some (0,(T.2,(T.1.map dJ,T.1.map jF))):=by
  unfold sX;have e:((0:Int),((0:Int),(T.2,(T.1,([]:List Byt)))))=(fun k:Nat=>((k:Int),((0:Int),(T.2,((T.1.take k).map dJ++T.1.drop k,(T.1.take k).map jF))))) 0:=by simp
  refine(congrArg (iter bB _) e).trans ?_;refine aoZ (fun k:Nat=>((k:Int),((0:Int),(T.2,((T.1.take k).map dJ++T.1.drop k,(T.1.take k).map jF))))) T.1.length (by omega) (fun k hk=> ?_) ?_
  ·obtain⟨x,hx⟩:∃x,T.1[k]? =some x:=⟨_,ZAC hk⟩;have hsz:=hs x (ZAI hx);have hlen:((T.1.take k).map dJ++T.1.drop k).length=T.1.length:=by simp;omega
   have bS:List.set ((T.1.take k).map dJ++T.1.drop k) k (x.1,(x.2.1,(x.2.2.1,(x.2.2.2.1,(x.2.2.2.2.1,([],x.2.2.2.2.2.2))))))=(T.1.take (k+1)).map dJ++T.1.drop (k+1):=v1Z hx;have hlen2:((T.1.take (k+1)).map dJ++T.1.drop (k+1)).length=T.1.length:=by rw[<-bS,ZAt,hlen]
   have hg:((T.1.take (k+1)).map dJ++T.1.drop (k+1))[k]? =some (dJ x):=by
    rw[<-bS,ZAQ (by rw[hlen];exact hk)];rfl
   show uK bB (T.2,T.1) (k:Int) 0 T.2 ((T.1.take k).map dJ++T.1.drop k) ((T.1.take k).map jF)=_;unfold uK;simp only;rw[ZAJ (show(k:Int)<((T.1.length:Nat):Int) by omega),hlen,adZ hk,ZAA,vKZ hx,ZAA];rw[bS,hlen2,adZ hk,ZAA,hg,ZAA];rw[show(dJ x).2.2.2.2.1=x.2.2.2.2.1 from rfl,b0Z hsz.1 (by rw[arZ];omega),ZAA,b0Z hsz.1 (by omega),ZAA,acZ (by rw[ZAm,arZ];omega),acZ (by simp only[ZAE,ZAm,arZ,ZAs,ZAS];omega),w64 (by omega),aWZ hx];simp only[ZCM]
   rfl
  ·show uK bB (T.2,T.1) ((T.1.length:Nat):Int) 0 T.2 _ _=_;unfold uK;simp only;rw[ZAF (by omega)];simp
 simp_all
structure UZ (P:List dC) (w:Int):Prop where
 n:P.length<=4096
 ok:∀p∈P,dY w p
 nd:(bR P).Nodup
 w:0<=w/\w<=1099511627776
theorem fBZ(a b:Nat):Int.tdiv (a:Int) (b:Int)=((a/b:Nat):Int):=(Int.ofNat_tdiv a b).symm
theorem hEZ{a q:Nat}(ha:a<=1000000)(hq:1<=q/\q<=1000):JL bB (a:Int) (q:Int)=some (((a+q-1)/q:Nat):Int):=by
 unfold JL;have h1:(a+q-1)/q<=a+q-1:=Nat.div_le_self _ _;rw[acZ (by rw[ZAF (by omega)];rfl),w64 (x:=(a:Int)+q) (by omega),w64 (x:=(a:Int)+q-1) (by omega),show(a:Int)+q-1=((a+q-1:Nat):Int) by omega,fBZ];generalize (a+q-1)/q=z at h1⊢;rw[w64 (by omega)]
def pl3:List gU:=[(1,[0,1,2])]
theorem uNZ:OQ bB pl3=some true:=by kernel_rfl
def oT(x:Ino)(P:List dC):Ino:=(x.1,x.2.1,x.2.2.1,x.2.2.2.1,x.2.2.2.2.1,P,x.2.2.2.2.2.2.1,x.2.2.2.2.2.2.2)
def dG(l:List Ino)(P:Nat->List dC):List Ino:=l.mapIdx fun i x=>oT x (P i)
theorem bHZ(l)(P):(dG l P).length=l.length:=List.length_mapIdx
theorem bMZ{l}(P){i}{x}(h:l[i]? =some x):(dG l P)[i]? =some (oT x (P i)):=by
 simp_all[dG]
theorem aXZ{l}{P}{i}{y}(h:(dG l P)[i]? =some y):∃x,l[i]? =some x/\y=oT x (P i):=by
 unfold dG at h
 grind
theorem p6Z{l}(P){id}(h:Rch l id):Rch (dG l P) id:=by
 induction h with
 |root=>exact .root
 |step h1 h2 _ ih=>exact .step (bMZ P h1) h2 ih
theorem iOZ{t}(h:bL t){P}{w}(hw:0<=w/\w<=1099511627776)
 (hp:∀(i) x,t.1[i]? =some x->if x.2.2.1=true/\x.2.2.2.1=false then(P i).length<=4096/\∀p∈P i,dY w p else P i=[])
 (hn:(bD (dG t.1 P)).Nodup):bL (dG t.1 P,w):=by
 refine⟨⟨by rw[bHZ];exact h.r.len,hw,fun i y hy=> ?_,hn,?_⟩,fun i y hy s id he=> ?_,fun j y hy hu hj=> ?_,fun j y hy hu=> ?_⟩
 ·obtain⟨x,hx,rfl⟩:=aXZ hy;have o:=h.r.ino i x hx;have q:=hp i x hx;rw[bHZ];refine⟨o.id,o.gen,o.par,fun hu hd=> ?_,fun hu hd=> ?_,fun hu=> ?_⟩
  ·rw[ZAK (fun z=>by rw[show x.2.2.2.1=true from hd] at z;exact absurd z.2 (by decide))] at q;exact⟨(o.dir hu hd).1,q,(o.dir hu hd).2.2⟩
  ·rw[ZAM ⟨hu,hd⟩] at q;exact⟨(o.file hu hd).1,(o.file hu hd).2.1,q.1,q.2⟩
  ·rw[ZAK (fun z=>by rw[show x.2.2.1=false from hu] at z;exact absurd z.1 (by decide))] at q
   let⟨a,b,c,_,d⟩:=o.bare hu
   exact⟨a,b,c,q,d⟩
 ·let⟨r,hr,a⟩:=h.r.root
  exact⟨_,bMZ P hr,a⟩
 ·obtain⟨x,hx,rfl⟩:=aXZ hy
  let⟨a,b,z,hz,c⟩:=h.e i x hx s id he
  exact⟨a,b,_,bMZ P hz,c⟩
 ·obtain⟨x,hx,rfl⟩:=aXZ hy
  let⟨n,s,hn',c⟩:=h.u j x hx hu hj
  exact⟨_,s,bMZ P hn',c⟩
 ·obtain⟨x,hx,rfl⟩:=aXZ hy;exact p6Z P (h.a j x hx hu)
theorem uKZ(l):l.map dJ=dG l fun _=>[]:=by
 refine ZA8 fun i=> ?_;rw[ZAW];unfold dG;rw[ZCI]
 rfl
theorem fLZ:bR []=[]:=rfl
theorem ngZ{l}(h:∀x∈l,x.2.2.2.2.2.1=[]):bD l=[]:=by
 unfold bD;rw[List.flatMap_eq_nil_iff];intro x hx;rw[h x hx];rfl
theorem plZ{t}(h:bL t):bL (t.1.map dJ,t.2):=by
 rw[uKZ];refine iOZ h h.r.str (fun i x _=>by simp_all) ?_;rw[ngZ]
 ·simp_all
 ·intro y hy
  let⟨i,hi⟩:=ZAR hy
  obtain⟨x,_,rfl⟩:=aXZ hi
  rfl
def bF(t:dH):Mod:=((t.1.map dJ,t.2),t.1.map jF)
theorem aYZ{t}(h:bL t):bW (bF t):=by
 refine⟨plZ h,by simp[bF],fun i y hy=> ?_,fun i y b hy hb=> ?_⟩
 ·simp only[bF,ZAW] at hy;obtain⟨x,_,rfl⟩:=ZAH.1 hy
  rfl
 ·simp only[bF,ZAW] at hy hb;obtain⟨x,hx,rfl⟩:=ZAH.1 hy;rw[hx] at hb;obtain rfl:=ZAf hb;have:=(epZ h hx).1;simp[jF,dJ];omega
theorem fIZ{t}(h:bL t):JN bB t=some ((bF t).1.2,((bF t).1.1,(bF t).2)):=
 srZ h.r.fit (fun x hx=>by
  let⟨i,hi⟩:=ZAR hx
  exact⟨(epZ h hi).1,(epZ h hi).2.1⟩) (by have:=h.r.len;omega)
theorem eoZ{P}{k}:k∈bR P↔k≠0/\∃p∈P,p.1=k:=by
 unfold bR;rw[ZBc];constructor
 ·rintro⟨p,hp,rfl⟩
  let⟨h1,h2⟩:=ZCo.1 hp
  exact⟨by simpa using h2,p,h1,rfl⟩
 simp_all
theorem sgZ{l}{k}:k∈bD l↔∃(i:Nat) (x:Ino),l[i]? =some x/\k∈bR x.2.2.2.2.2.1:=by
 grind[bD,ZCj,ZAR,ZAI]
structure vQ (s:cW) (q:Nat):Prop where
 life:0<=s.1/\s.1<=1099511627776
 t:bL s.2.1
 c:gD s.2.2.1=true
 pl:s.2.2.2.1=pl3
 l:∀(i:Nat) x,s.2.1.1[i]? =some x->x.2.2.1=true->x.2.2.2.1=false->x.2.2.2.2.2.1.length=(x.2.2.2.2.1.toNat+q-1)/q
 q:16<=q/\q<=65
 ds:(s.2.2.2.2.map (·.1)).Pairwise (·<·)
 d:∀p∈s.2.2.2.2,(1<=p.1/\p.1<=s.2.1.2)/\(1<=p.2/\p.2<=1099511627776)/\p.1∉bD s.2.1.1
 dn:s.2.2.2.2.length<=65536
def uU(l:List Ino):List Int:=l.flatMap fun n=>n.2.2.2.2.2.1.map (·.1)
theorem oDZ{l:List Ino}{k}{n}(h:l[k]? =some n):uU (l.take (k+1))=uU (l.take k)++n.2.2.2.2.2.1.map (·.1):=by
 simp_all[uU,aWZ]
theorem sjZ{l}{k}(h0:k≠0)(h:k∉bD l):k∉uU l:=by
 intro hk
 let⟨x,hx,hk⟩:=ZCj.1 hk
 obtain⟨p,hp,rfl⟩:=ZBc.1 hk;exact h (ZCj.2 ⟨x,hx,eoZ.2 ⟨h0,p,hp,rfl⟩⟩)
theorem pHZ(x:Ino)(hx:x.2.2.2.2.2.1.length<=100000)(h:List cW)(M)(S)(hM:MS M S):
 ∃M',sV bB (false,(h,(M,x))) (0,(h,M))=some (h,M')/\MS M' (S++x.2.2.2.2.2.1.map (·.1)):=by
 unfold sV;obtain⟨o,ho,M',hM,hS⟩:=aAZ (f:=fun tt:Int×(List cW×GM)=>qY bB (false,(h,(M,x))) tt.1 tt.2.1 tt.2.2) (fun r s=>∃(k:Nat) (M':GM),s=((k:Int),(h,M'))/\k+r=x.2.2.2.2.2.1.length/\MS M' (S++(x.2.2.2.2.2.1.take k).map (·.1))) (fun o=>∃M',o=(h,M')/\MS M' (S++x.2.2.2.2.2.1.map (·.1))) (fun r s hI=>by
  obtain⟨k,M',rfl,hk,hm⟩:=hI;obtain⟨p,hp⟩:∃p,x.2.2.2.2.2.1[k]? =some p:=⟨_,ZAC (by omega)⟩;left;refine⟨(((k+1:Nat):Int),(h,mN M' p.1 1)),?_,k+1,_,rfl,by omega,?_⟩
  ·show qY bB (false,(h,(M,x))) (k:Int) h M'=_;unfold qY;simp only;rw[ZAJ (by omega),adZ (by omega),ZAA,hp,w64 (by omega)]
   rfl
  ·rw[aWZ hp,ZCM,<-List.append_assoc];exact hm.put p.1) (fun s hI=>by
  obtain⟨k,M',rfl,hk,hm⟩:=hI;have:k=x.2.2.2.2.2.1.length:=by omega
  subst this;refine⟨(h,M'),?_,M',rfl,by rwa [ZAx] at hm⟩;show qY bB (false,(h,(M,x))) _ h M'=_;unfold qY;simp only;rw[ZAF (by omega)]
  rfl) x.2.2.2.2.2.1.length (0,(h,M)) (by omega) ⟨0,M,rfl,by omega,by simpa using hM⟩
 simp_all
theorem pdZ{s}{q}(h:vQ s q){M}(hM:MS M (uU s.2.1.1)):∃M',CO bB s M=some (true,M'):=by
 have key:∀p∈s.2.2.2.2,((Option.getD (lG M p.1) 0:Int)==1)=false:=fun p hp=>by
  have d:=h.d p hp;cases e:((Option.getD (lG M p.1) 0:Int)==1) with
  |false=>rfl
  |true=>exact absurd ((hM p.1).1 e) (sjZ (by omega) d.2.2)
 have loop:∃o,mR bB s.2.2.2.2 (0,(0,(s.1,(s.2.1.1,(s.2.1.2,(s.2.2.1.1,(s.2.2.1.2,(s.2.2.2.1,(s.2.2.2.2,M)))))))))=some o/\∃last,o= .inl (last,(s.1,(s.2.1.1,(s.2.1.2,(s.2.2.1.1,(s.2.2.1.2,(s.2.2.2.1,(s.2.2.2.2,M)))))))):=by
  unfold mR;refine aAZ (f:=fun tt:Int×(Int×(Int×(List Ino×(Int×(Int×(List eJ×(List gU×(List dC×GM))))))))=>jR bB s.2.2.2.2 tt.1 tt.2.1 tt.2.2.1 tt.2.2.2.1 tt.2.2.2.2.1 tt.2.2.2.2.2.1 tt.2.2.2.2.2.2.1 tt.2.2.2.2.2.2.2.1 tt.2.2.2.2.2.2.2.2.1 tt.2.2.2.2.2.2.2.2.2) (fun r st=>∃(k:Nat) (last:Int),st=((k:Int),(last,(s.1,(s.2.1.1,(s.2.1.2,(s.2.2.1.1,(s.2.2.1.2,(s.2.2.2.1,(s.2.2.2.2,M)))))))))/\k+r=s.2.2.2.2.length/\∀(j) p,k<=j->s.2.2.2.2[j]? =some p->last<p.1) (fun o=>∃last,o= .inl (last,(s.1,(s.2.1.1,(s.2.1.2,(s.2.2.1.1,(s.2.2.1.2,(s.2.2.2.1,(s.2.2.2.2,M))))))))) (fun r st hI=> ?_) (fun st hI=> ?_) s.2.2.2.2.length _ (by have:=h.dn;omega) ⟨0,0,rfl,by omega,fun j p _ hj=>by have:=(h.d p (ZAI hj)).1;omega⟩
  ·obtain⟨k,last,rfl,hk,hl⟩:=hI;obtain⟨p,hp⟩:∃p,s.2.2.2.2[k]? =some p:=⟨_,ZAC (by omega)⟩;have d:=h.d p (ZAI hp);have h1:=hl k p (ZAN _) hp;have dn:=h.dn;left;refine⟨(((k+1:Nat):Int),(p.1,(s.1,(s.2.1.1,(s.2.1.2,(s.2.2.1.1,(s.2.2.1.2,(s.2.2.2.1,(s.2.2.2.2,M))))))))),?_,k+1,p.1,rfl,by omega,fun j x hj hx=> ?_⟩
   ·show jR bB s.2.2.2.2 (k:Int) last s.1 s.2.1.1 s.2.1.2 s.2.2.1.1 s.2.2.1.2 s.2.2.2.1 s.2.2.2.2 M=_;unfold jR MM;rw[ZAJ (by omega),adZ (by omega),ZAA,hp,ZAA,ZAF (by omega),ZAD,ZAF (by omega),ZAD,key p (ZAI hp),ZAD,ZAF (by omega),ZAD,ZAF (by omega),ZAA,ZAD,w64 (by omega)]
    rfl
   ·have:=ZBq.1 h.ds k j (by rw[ZAs];omega) (by rw[ZAs];exact(ZAB.1 hx).1) (by omega);rw[List.getElem_map,List.getElem_map,(ZAB.1 hp).2,(ZAB.1 hx).2] at this;exact this
  ·obtain⟨k,last,rfl,hk,hl⟩:=hI;have:k=s.2.2.2.2.length:=by omega
   subst this;refine⟨.inl (last,_),?_,last,rfl⟩;show jR bB s.2.2.2.2 _ last s.1 s.2.1.1 s.2.1.2 s.2.2.1.1 s.2.2.1.2 s.2.2.2.1 s.2.2.2.2 M=_;unfold jR;rw[ZAF (by omega)]
   rfl
 obtain⟨o,ho,last,rfl⟩:=loop;have dn:=h.dn;refine⟨M,?_⟩;unfold CO yU CN
 grind
theorem vQ.right{s}{q}(h:vQ s q):RC bB s (q:Int)=some true:=by
 unfold RC MK;have hT:=h.t;have hq:=h.q;have hn:=hT.r.len;have hl:=h.life;rw[ZAJ (show(q:Int)>=16 by omega),ZAL,ZAA,ZAJ (show(q:Int)<=65536 by omega)];simp only[ZAO];rw[ZAF (show¬s.1<0 by omega),ZAF (show¬s.1>1099511627776 by omega),b6Z hT,jxZ s.2.2.1 (b7Z h.c),h.c];simp[ZAD];rw[h.pl,uNZ,ZAA];simp[ZAA];have loop:∃o,sW bB s (q:Int) (0,([s],([],0)))=some o/\∃M',o= .inl ([s],M')/\MS M' (uU s.2.1.1):=by
  unfold sW;refine aAZ (f:=fun tt:Int×(List cW×GM)=>qZ bB s (q:Int) tt.1 tt.2.1 tt.2.2) (fun r st=>∃(k:Nat) (M':GM),st=((k:Int),([s],M'))/\k+r=s.2.1.1.length/\MS M' (uU (s.2.1.1.take k))) (fun o=>∃M',o= .inl ([s],M')/\MS M' (uU s.2.1.1)) (fun r st hI=> ?_) (fun st hI=> ?_) s.2.1.1.length (0,([s],([],0))) (by omega) ⟨0,([],0),rfl,by omega,by simpa[uU] using MS.nil⟩
  ·obtain⟨k,M',rfl,hk,hm⟩:=hI;obtain⟨x,hx⟩:∃x,s.2.1.1[k]? =some x:=⟨_,ZAC (by omega)⟩;have hf:=(hT.r.fit).at hx;have hz:=epZ hT hx;left
   let⟨M2,hM2,hS2⟩:=pHZ x hf.1 [s] M' _ hm
   refine⟨(((k+1:Nat):Int),([s],M2)),?_,k+1,_,rfl,by omega,by rw[oDZ hx];exact hS2⟩;show qZ bB s (q:Int) (k:Int) [s] M'=_;unfold qZ;rw[ZAJ (by omega),adZ (by omega),ZAA,hx,ZAA];have test:(bif x.2.2.1 then bif (!x.2.2.2.1) then(JL bB x.2.2.2.2.1 (q:Int)).bind fun r6=>some ((!(((x.2.2.2.2.2.1.length:Nat):Int)==r6)),([s],(M',x))) else some (false,([s],(M',x))) else some (false,([s],(M',x))))=some (false,([s],(M',x))):=by
    cases hu:x.2.2.1
    ·rfl
    ·cases hd:x.2.2.2.1
     ·simp only[ZAL,ZAl];rw[show x.2.2.2.2.1=((x.2.2.2.2.1.toNat:Nat):Int) by omega,hEZ (by omega) (by omega),ZAA,h.l k x hx hu hd];simp
     ·rfl
   rw[test,ZAA];simp only[ZAD];rw[hM2,ZAA,w64 (by omega)]
   rfl
  ·obtain⟨k,M',rfl,hk,hm⟩:=hI;have:k=s.2.1.1.length:=by omega
   subst this;refine⟨.inl ([s],M'),?_,M',rfl,by rwa [ZAx] at hm⟩;show qZ bB s (q:Int) _ [s] M'=_;unfold qZ;rw[ZAF (by omega)]
   rfl
 grind[pdZ,ZAA,ZAP]
abbrev fW:Type:=Int×(dC×Int)
theorem hoZ{k to q}(hq:1<=q):k<(to+q-1)/q↔k*q<to:=by
 grind[Nat.le_div_iff_mul_le,ZAn]
theorem lrZ{k to q}(hq:1<=q)(h:to<=k*q):(to+q-1)/q<=k:=by
 grind[hoZ]
theorem iEZ{a b q}(h:a<=b):(a+q-1)/q<=(b+q-1)/q:=ZCJ (by omega)
theorem nbZ{a b q}(hq:1<=q)(h:a<=b):a/q<=(b+q-1)/q:=ZCJ (by omega)
def dK(p:dC):Bool:=(p.1==0)&&(p.2==0)
def pAt(P:List dC)(i:Nat):dC:=(P[i]?).getD (0,0)
theorem lmZ(x:Ino)(i:Nat)(h:x.2.2.2.2.2.1.length<=100000):JP bB x (i:Int)=some (pAt x.2.2.2.2.2.1 i):=by
 unfold JP pAt;by_cases hi:i<x.2.2.2.2.2.1.length
 ·rw[ZAF (by omega),adZ hi,ZAA,ZAC hi]
  rfl
 simp_all
def kS(P:List dC)(a n:Nat):List fW:=(List.range n).map fun j=>(((a+j:Nat):Int),(pAt P (a+j),0))
theorem h1Z(P)(a n):(kS P a n).length=n:=by simp[kS]
theorem l4Z(P)(a n):kS P a (n+1)=kS P a n++[(((a+n:Nat):Int),(pAt P (a+n),0))]:=by
 simp_all[kS,List.range_succ]
theorem oFZ{x:Ino}{q a n from_ to}(hq:1<=q)(hn:a+n<=x.2.2.2.2.2.1.length)(hP:x.2.2.2.2.2.1.length<=4096)(hin:∀k,k<n->(a+k)*q<to)(hout:to<=(a+n)*q)(hb:q<=1000)(hf:from_/q=a):
 rA bB (q:Int) (from_:Int) (to:Int) [x]=some ([x],kS x.2.2.2.2.2.1 a n):=by
 unfold rA;have hm:∀z,z<=a+n->z*q<=4096*1000:=fun z hz=>ZCU (by omega) hb;rw[acZ (by rw[ZAF (by omega)];rfl),fBZ,w64 (by omega)];have loop:kL bB (q:Int) (to:Int) ((a:Int),([],[x]))=some (kS x.2.2.2.2.2.1 a n,[x]):=by
  unfold kL;refine aoZ (fun k:Nat=>(((a+k:Nat):Int),(kS x.2.2.2.2.2.1 a k,[x]))) n (by omega) (fun k hk=> ?_) ?_
  ·show iZ bB (q:Int) (to:Int) ((a+k:Nat):Int) (kS x.2.2.2.2.2.1 a k) [x]=_;unfold iZ MO;have h1:=hin k hk;have h2:=hm (a+k) (by omega);rw[show((a+k:Nat):Int)*(q:Int)=(((a+k)*q:Nat):Int) by rw[ZBl]];generalize (a+k)*q=z at*;rw[w64 (by omega),ZAJ (by omega),ZAP,ZAA,adZ (by omega),ZAA,ZAC (by omega),ZAA,acZ (by simp[arZ,h1Z];omega),w64 (by omega),l4Z];unfold pAt;rw[ZAC (by omega)]
   rfl
  ·show iZ bB (q:Int) (to:Int) ((a+n:Nat):Int) _ [x]=_;unfold iZ;have h2:=hm (a+n) (by omega);rw[show((a+n:Nat):Int)*(q:Int)=(((a+n)*q:Nat):Int) by rw[ZBl]];generalize (a+n)*q=z at*;rw[w64 (by omega),ZAF (by omega),ZAD]
 simp_all
def gV(x:Ino)(q:Nat)(c:bV):List fW:=
 if c.2.2.2.2.2.2.2.2.1>0 then
  kS x.2.2.2.2.2.1 (min x.2.2.2.2.1.toNat c.2.2.2.2.2.2.2.1.toNat/q) ((min x.2.2.2.2.1.toNat (c.2.2.2.2.2.2.2.1.toNat+c.2.2.2.2.2.2.2.2.1.toNat)+q-1)/q-min x.2.2.2.2.1.toNat c.2.2.2.2.2.2.2.1.toNat/q)
 else[]
theorem rVZ{x:Ino}{q}{c:bV}(hq:16<=q/\q<=65)(hs:0<=x.2.2.2.2.1/\x.2.2.2.2.1<=65536)(hl:x.2.2.2.2.2.1.length=(x.2.2.2.2.1.toNat+q-1)/q)
 (ho:0<=c.2.2.2.2.2.2.2.1/\c.2.2.2.2.2.2.2.1<=2147483648)(hn:0<=c.2.2.2.2.2.2.2.2.1/\c.2.2.2.2.2.2.2.2.1<=2147483648):
 RH bB x (q:Int) c=some (gV x q c):=by
 unfold RH gV Pd Pg Ph;by_cases h0:c.2.2.2.2.2.2.2.2.1>0
 ·rw[ZAJ h0,ZAL,ZAM h0];have hz:=ZBg hs.1;have hoo:=ZBg ho.1;have hnn:=ZBg hn.1;rw[w64 (by omega)];rw[show(if x.2.2.2.2.1<c.2.2.2.2.2.2.2.1 then x.2.2.2.2.1 else c.2.2.2.2.2.2.2.1)=((min x.2.2.2.2.1.toNat c.2.2.2.2.2.2.2.1.toNat:Nat):Int) by split<;>omega,
   show(if x.2.2.2.2.1<c.2.2.2.2.2.2.2.1+c.2.2.2.2.2.2.2.2.1 then x.2.2.2.2.1 else c.2.2.2.2.2.2.2.1+c.2.2.2.2.2.2.2.2.1)=((min x.2.2.2.2.1.toNat (c.2.2.2.2.2.2.2.1.toNat+c.2.2.2.2.2.2.2.2.1.toNat):Nat):Int) by split<;>omega]
  generalize he:min x.2.2.2.2.1.toNat (c.2.2.2.2.2.2.2.1.toNat+c.2.2.2.2.2.2.2.2.1.toNat)=to;generalize hf:min x.2.2.2.2.1.toNat c.2.2.2.2.2.2.2.1.toNat=fr;have hto:to<=x.2.2.2.2.1.toNat:=by omega
  have hfr:fr<=to:=by omega
  have hle:=nbZ (q:=q) (by omega) hfr;have hup:=iEZ (q:=q) hto;have hP:(x.2.2.2.2.1.toNat+q-1)/q<=4096:=lrZ (by omega) (by have:4096*16<=4096*q:=ZB2 _ hq.1;omega);rw[oFZ (n:=(to+q-1)/q-fr/q) (by omega) (by omega) (by omega) (fun k hk=>(hoZ (by omega)).1 (by omega)) ?_ (by omega) rfl,ZAA];rw[show fr/q+((to+q-1)/q-fr/q)=(to+q-1)/q by omega];by_cases h:(to+q-1)/q<(to+q-1)/q
  ·omega
  ·rw[hoZ (by omega)] at h;omega
 grind
def iD(P:List dC)(wh:Nat->Bool)(i:Nat)(s:Int×(List fW×List fW)):Int×(List fW×List fW):=
 if dK (pAt P i)=true then(s.1+1,(s.2.1++[((i:Int),(pAt P i,s.1+1))],s.2.2))
 else(s.1,(s.2.1++[((i:Int),(pAt P i,(pAt P i).1))],if wh i=true then s.2.2 else s.2.2++[((i:Int),(pAt P i,(pAt P i).1))]))
def dQ(P:List dC)(wh:Nat->Bool)(a:Nat):Nat->Int->Int×(List fW×List fW)
 |0,w=>(w,([],[]))
 |k+1,w=>iD P wh (a+k) (dQ P wh a k w)
theorem bjZ(P)(wh)(a)(w):∀k,(dQ P wh a k w).2.1.length=k/\(dQ P wh a k w).2.2.length<=k/\w<=(dQ P wh a k w).1/\(dQ P wh a k w).1<=w+k
 |0=>by simp[dQ]
 |k+1=>by
  have ih:=bjZ P wh a w k;unfold dQ iD;split
  ·simp[List.length_nil];omega
  ·split<;>simp[List.length_nil]<;>omega
theorem uTZ{x:Ino}{i:Nat}(hi:i<=100000)(hP:x.2.2.2.2.2.1.length<=100000){s}(hs:0<=s.1/\s.1<=2199023255552)(h1:s.2.1.length<=100000)(h2:s.2.2.length<=100000)(whole):
 ∃o,AJ bB (i:Int) whole [x] s.1 s.2.1 s.2.2=some o/\(match o with|.inl r=>(r.1,r.2)|.inr r=>(r.1,(r.2.2,r.2.1)))=iD x.2.2.2.2.2.1 (fun _=>whole) i s:=by
 unfold AJ iD;rw[ZAP,ZAA,lmZ x i hP,ZAA];cases hh:((pAt x.2.2.2.2.2.1 i).1==0)&&((pAt x.2.2.2.2.2.1 i).2==0)
 ·rw[ZAK (by unfold dK;rw[hh];decide)];simp only[ZAD,ZAA,ZAP,ZAL];rw[acZ (by simp[arZ];omega)];cases whole
  ·simp[ZAL,ZAP,ZAA];rw[acZ (by simp only[ZAE,ZAm,arZ];omega)];exact⟨_,rfl,rfl⟩
  simp_all
 ·rw[ZAM (by unfold dK;exact hh)];simp only[ZAL,ZAA,ZAP,ZAO,ZAD];rw[acZ (by simp only[ZAE,ZAm,arZ];omega),w64 (by omega)]
  simp_all
def fF(q off e:Nat)(i:Nat):Bool:=decide (off<=i*q)&&decide ((i+1)*q<=e)
theorem sMZ{P}{w1 w2}{i}{s}(h:w1 i=w2 i):iD P w1 i s=iD P w2 i s:=by
 simp_all[iD]
theorem sLZ{x:Ino}{c:bV}{i q off e:Nat}(hq:q<=1000)(hi:i<=100000)(hP:x.2.2.2.2.2.1.length<=100000){s}(hs:0<=s.1/\s.1<=2199023255552)(h1:s.2.1.length<=100000)(h2:s.2.2.length<=100000)(ho:c.2.2.2.2.2.2.2.1=(off:Int)):
 ∃o,IE bB (i:Int) [c] [x] s.1 s.2.1 s.2.2 (q:Int) (e:Int)=some o/\
  (match o with|.inl r1=>(r1.1,(r1.2.1,(r1.2.2.2.2.1,(r1.2.2.2.2.2,([c],(r1.2.2.1,r1.2.2.2.1))))))|.inr r2=>(r2.1,(r2.2.1,(r2.2.2.2.2.2,(r2.2.2.1,([c],(r2.2.2.2.1,r2.2.2.2.2.1)))))))
   =([x],((iD x.2.2.2.2.2.1 (fF q off e) i s).1,((iD x.2.2.2.2.2.1 (fF q off e) i s).2.1,((iD x.2.2.2.2.2.1 (fF q off e) i s).2.2,([c],((q:Int),(e:Int))))))):=by
 unfold IE;have m1:=ZCU hi hq;have m2:(i+1)*q<=100001*1000:=ZCU (by omega) hq;rw[ZAP,ZAA,w64 (x:=((i:Int)+1)) (by omega),show((i:Int)+1)*(q:Int)=(((i+1)*q:Nat):Int) by rw[ZBl,Int.natCast_add];rfl];have fin:∀b,b=fF q off e i->∃o,(AJ bB (i:Int) b [x] s.1 s.2.1 s.2.2).bind (fun r1=>match r1 with
  |.inl r2=>some (Sum.inl ([x],(r2.1,((q:Int),((e:Int),r2.2)))))
  |.inr r3=>some (Sum.inr ([x],(r3.1,(r3.2.1,((q:Int),((e:Int),r3.2.2)))))))=some o/\
  (match o with|.inl r1=>(r1.1,(r1.2.1,(r1.2.2.2.2.1,(r1.2.2.2.2.2,([c],(r1.2.2.1,r1.2.2.2.1))))))|.inr r2=>(r2.1,(r2.2.1,(r2.2.2.2.2.2,(r2.2.2.1,([c],(r2.2.2.2.1,r2.2.2.2.2.1)))))))
   =([x],((iD x.2.2.2.2.2.1 (fF q off e) i s).1,((iD x.2.2.2.2.2.1 (fF q off e) i s).2.1,((iD x.2.2.2.2.2.1 (fF q off e) i s).2.2,([c],((q:Int),(e:Int))))))):=fun b hb=>by
  let⟨o,ho,he⟩:=uTZ hi hP hs h1 h2 b
  rw[sMZ hb] at he;rw[ho,ZAA];cases o with
  |inl r=>exact⟨_,rfl,by rw[<-he]⟩
  |inr r=>exact⟨_,rfl,by rw[<-he]⟩
 rw[w64 (by omega)];by_cases h:off<=i*q
 ·rw[ZAJ (by omega),ZAL,w64 (by omega)];refine fin _ ?_;unfold fF;rw[ZAJ h,ZBP];exact decide_eq_decide.2 (by omega)
 ·rw[ZAF (by omega),ZAD];refine fin _ ?_;unfold fF;rw[ZAF h];rfl
theorem ljZ{x:Ino}{c:bV}{q a n off e:Nat}{w}(hq:1<=q/\q<=1000)(hn:a+n<=90000)(hP:x.2.2.2.2.2.1.length<=100000)(hw:0<=w/\w<=1099511627776)(ho:c.2.2.2.2.2.2.2.1=(off:Int))
 (hin:∀k,k<n->(a+k)*q<e)(hout:e<=(a+n)*q)(hf:off/q=a):
 rB bB (q:Int) (off:Int) (e:Int) [x] w [c] (q:Int) (e:Int)=some ([x],((dQ x.2.2.2.2.2.1 (fF q off e) a n w).1,([c],((q:Int),((e:Int),(dQ x.2.2.2.2.2.1 (fF q off e) a n w).2))))):=by
 unfold rB;have hm:∀z,z<=a+n->z*q<=90000*1000:=fun z hz=>ZCU (by omega) hq.2;rw[acZ (by rw[ZAF (by omega)];rfl),fBZ,hf,w64 (by omega)];have loop:kM bB (q:Int) (e:Int) ((a:Int),([x],(w,([],([],([c],((q:Int),(e:Int))))))))=some ([x],((dQ x.2.2.2.2.2.1 (fF q off e) a n w).1,((dQ x.2.2.2.2.2.1 (fF q off e) a n w).2.1,((dQ x.2.2.2.2.2.1 (fF q off e) a n w).2.2,([c],((q:Int),(e:Int))))))):=by
  unfold kM;refine aoZ (fun k:Nat=>(((a+k:Nat):Int),([x],((dQ x.2.2.2.2.2.1 (fF q off e) a k w).1,((dQ x.2.2.2.2.2.1 (fF q off e) a k w).2.1,((dQ x.2.2.2.2.2.1 (fF q off e) a k w).2.2,([c],((q:Int),(e:Int))))))))) n (by omega) (fun k hk=> ?_) ?_
  ·show jA bB (q:Int) (e:Int) ((a+k:Nat):Int) [x] _ _ _ [c] (q:Int) (e:Int)=_;unfold jA;have h1:=hin k hk;have h2:=hm (a+k) (by omega);have hr:=bjZ x.2.2.2.2.2.1 (fF q off e) a w k;rw[show((a+k:Nat):Int)*(q:Int)=(((a+k)*q:Nat):Int) by rw[ZBl],w64 (by omega),ZAJ (by omega),ZAL];obtain⟨o,ho,he⟩:=sLZ (i:=a+k) (s:=dQ x.2.2.2.2.2.1 (fF q off e) a k w) hq.2 (by omega) hP ⟨by omega,by omega⟩ (by omega) (by omega) ho;rw[ho,ZAA,w64 (by omega)];cases o with
   |inl r=>
    simp only[ZAA];simp only at he;rw[he];rfl
   |inr r=>
    simp only[ZAA];simp only at he;rw[he];rfl
  ·show jA bB (q:Int) (e:Int) ((a+n:Nat):Int) [x] _ _ _ [c] (q:Int) (e:Int)=_;unfold jA;have h2:=hm (a+n) (by omega);rw[show((a+n:Nat):Int)*(q:Int)=(((a+n)*q:Nat):Int) by rw[ZBl],w64 (by omega),ZAF (by omega),ZAD]
 simp_all
def cY(q:Nat)(c:bV):Nat:=if c.2.2.1=uO 5 then c.2.2.2.2.2.2.2.1.toNat/q else c.2.2.2.2.2.2.2.2.1.toNat/q
def eK(x:Ino)(q:Nat)(c:bV):Nat:=
 if c.2.2.1=uO 5 then
  if c.2.2.2.2.2.2.2.2.2.length=0 then 0 else(c.2.2.2.2.2.2.2.1.toNat+c.2.2.2.2.2.2.2.2.2.length+q-1)/q-c.2.2.2.2.2.2.2.1.toNat/q
 else if c.2.2.2.2.2.2.2.2.1<x.2.2.2.2.1/\c.2.2.2.2.2.2.2.2.1.toNat%q≠0/\dK (pAt x.2.2.2.2.2.1 (c.2.2.2.2.2.2.2.2.1.toNat/q))=false then 1 else 0
def eU(q:Nat)(c:bV):Nat->Bool:=if c.2.2.1=uO 5 then fF q c.2.2.2.2.2.2.2.1.toNat (c.2.2.2.2.2.2.2.1.toNat+c.2.2.2.2.2.2.2.2.2.length) else fun _=>false
def lD(x:Ino)(w:Int)(q:Nat)(c:bV):Int×(List fW×List fW):=dQ x.2.2.2.2.2.1 (eU q c) (cY q c) (eK x q c) w
theorem op56{c:bV}(h:c.2.2.1=uO 5\/c.2.2.1=uO 6):c.2.2.1≠uO 5->c.2.2.1=uO 6:=fun h5=>h.resolve_left h5
theorem rkZ{x:Ino}{c:bV}{q:Nat}{w}(hq:16<=q/\q<=65)(hP:x.2.2.2.2.2.1.length<=4096)(hw:0<=w/\w<=1099511627776)(hop:c.2.2.1=uO 5\/c.2.2.1=uO 6)
 (ho:0<=c.2.2.2.2.2.2.2.1)(h5:c.2.2.1=uO 5->c.2.2.2.2.2.2.2.1+((c.2.2.2.2.2.2.2.2.2.length:Nat):Int)<=65536)(hn:0<=c.2.2.2.2.2.2.2.2.1/\c.2.2.2.2.2.2.2.2.1<=2147483648)(hb:c.2.2.2.2.2.2.2.2.2.length<=4096)(hoo:c.2.2.2.2.2.2.2.1<=2147483648):
 RP bB x w (q:Int) c=some (lD x w q c).2:=by
 unfold RP lD Pa Pb Pc Pd Pg Ph PD PH;have hoc:=ZBg ho;have hnc:=ZBg hn.1;rw[w64 (by omega)];by_cases e5:c.2.2.1=uO 5
 ·have h5:=h5 e5;unfold eU cY eK;rw[ZAM e5,ZAM e5,ZAM e5,e5,show(((uO 5).toNat:Nat):Int)=5 from rfl];simp only[ZAb,ZAL,ZAA];by_cases hl:c.2.2.2.2.2.2.2.2.2.length=0
  ·rw[ZAF (by omega),ZAM hl];simp only[ZAD,ZAP,ZAA];rw[e5]
   rfl
  ·rw[ZAJ (by omega),ZAK hl];simp only[ZAL,ZAP,ZAA];rw[<-hoc,show((c.2.2.2.2.2.2.2.1.toNat:Nat):Int)+((c.2.2.2.2.2.2.2.2.2.length:Nat):Int)=((c.2.2.2.2.2.2.2.1.toNat+c.2.2.2.2.2.2.2.2.2.length:Nat):Int) by omega,ZBW];have hdu:=nbZ (q:=q) (a:=c.2.2.2.2.2.2.2.1.toNat) (b:=c.2.2.2.2.2.2.2.1.toNat+c.2.2.2.2.2.2.2.2.2.length) (by omega) (by omega);have hup:(c.2.2.2.2.2.2.2.1.toNat+c.2.2.2.2.2.2.2.2.2.length+q-1)/q<=4096:=lrZ (by omega) (by have:4096*16<=4096*q:=ZB2 _ hq.1;omega);have hin:∀k,k<(c.2.2.2.2.2.2.2.1.toNat+c.2.2.2.2.2.2.2.2.2.length+q-1)/q-c.2.2.2.2.2.2.2.1.toNat/q->(c.2.2.2.2.2.2.2.1.toNat/q+k)*q<c.2.2.2.2.2.2.2.1.toNat+c.2.2.2.2.2.2.2.2.2.length:=fun k hk=>(hoZ (by omega)).1 (by omega);have hout:c.2.2.2.2.2.2.2.1.toNat+c.2.2.2.2.2.2.2.2.2.length<=(c.2.2.2.2.2.2.2.1.toNat/q+((c.2.2.2.2.2.2.2.1.toNat+c.2.2.2.2.2.2.2.2.2.length+q-1)/q-c.2.2.2.2.2.2.2.1.toNat/q))*q:=by
    rw[show c.2.2.2.2.2.2.2.1.toNat/q+((c.2.2.2.2.2.2.2.1.toNat+c.2.2.2.2.2.2.2.2.2.length+q-1)/q-c.2.2.2.2.2.2.2.1.toNat/q)=(c.2.2.2.2.2.2.2.1.toNat+c.2.2.2.2.2.2.2.2.2.length+q-1)/q by omega];by_cases h:(c.2.2.2.2.2.2.2.1.toNat+c.2.2.2.2.2.2.2.2.2.length+q-1)/q<(c.2.2.2.2.2.2.2.1.toNat+c.2.2.2.2.2.2.2.2.2.length+q-1)/q
    ·omega
    ·rw[hoZ (by omega)] at h;omega
   rw[ljZ ⟨by omega,by omega⟩ (by omega) (by omega) hw hoc.symm hin hout rfl,ZAA]
 ·have e6:=op56 hop e5;have h56:¬(uO 6=uO 5):=by decide
  unfold eU cY eK;rw[ZAK e5,ZAK e5,ZAK e5,e6,show(((uO 6).toNat:Nat):Int)=6 from rfl];simp only[show((6:Int)==5)=false from rfl,ZAD,ZAA,ZAP];rw[e6,show(((uO 6).toNat:Nat):Int)=6 from rfl];simp only[ZAb,ZAL];have hd:c.2.2.2.2.2.2.2.2.1.toNat/q<=c.2.2.2.2.2.2.2.2.1.toNat/16:=Nat.div_le_div_left hq.1 (by decide);have hm:Int.tmod c.2.2.2.2.2.2.2.2.1 (q:Int)=((c.2.2.2.2.2.2.2.2.1.toNat%q:Nat):Int):=by rw[<-hnc];exact(Int.ofNat_tmod _ _).symm
  have hv:Int.tdiv c.2.2.2.2.2.2.2.2.1 (q:Int)=((c.2.2.2.2.2.2.2.2.1.toNat/q:Nat):Int):=by rw[<-hnc];exact fBZ _ _
  have hq0:(!(decide ((q:Int)=0)))=true:=by rw[ZAF (by omega)];rfl
  generalize c.2.2.2.2.2.2.2.2.1.toNat/q=k at*;rw[hm,hv,w64 (by omega),lmZ x _ (by omega)];by_cases c1:c.2.2.2.2.2.2.2.2.1<x.2.2.2.2.1
  ·rw[ZAJ c1,ZAL,acZ hq0];by_cases c2:c.2.2.2.2.2.2.2.2.1.toNat%q=0
   ·rw[c2,ZAK (fun z=>z.2.1 rfl)]
    rfl
   ·rw[show(((c.2.2.2.2.2.2.2.2.1.toNat%q:Nat):Int)==0)=false from ZAa.2 (by omega),acZ hq0,ZAA];simp only[ZAl,ZAL,ZAA];cases c3:dK (pAt x.2.2.2.2.2.1 k)
    ·rw[ZAM ⟨c1,c2,rfl⟩];rw[show((pAt x.2.2.2.2.2.1 k).1==0&&(pAt x.2.2.2.2.2.1 k).2==0)=false from c3];simp only[ZAl,ZAL,ZAP,ZAA];rw[acZ hq0,hv,w64 (by omega)];unfold GU;rw[ZAP,ZAA,lmZ x _ (by omega),ZAA,show((pAt x.2.2.2.2.2.1 k).1==0&&(pAt x.2.2.2.2.2.1 k).2==0)=false from c3];simp only[ZAD,ZAl,ZAL,ZAP,ZAA];rw[acZ (by simp only[ZAE,ZAm,arZ];decide)];unfold dQ dQ iD;rw[ZCX,c3]
     rfl
    ·rw[ZAK (fun z=>absurd z.2.2 (by decide))];rw[show((pAt x.2.2.2.2.2.1 k).1==0&&(pAt x.2.2.2.2.2.1 k).2==0)=true from c3]
     rfl
  ·rw[ZAF c1,ZAK (fun z=>c1 z.1)]
   rfl
abbrev vZ:Type:=Int×(bU×(List fW×List fW))
def kE(c:bV)(r:Mod×Int×Rep):bU:=(c.1,(c.2.1,(r.2.1,(r.2.2.1,(r.2.2.2.1,(r.2.2.2.2.1,(r.2.2.2.2.2.1,(r.2.2.2.2.2.2.1,(r.2.2.2.2.2.2.2.1,r.2.2.2.2.2.2.2.2)))))))))
def noB(r:bU):bU:=(r.1,(r.2.1,(r.2.2.1,(r.2.2.2.1,(r.2.2.2.2.1,(r.2.2.2.2.2.1,([],r.2.2.2.2.2.2.2)))))))
def jG(o:UInt8):Bool:=(o.toNat==1)||((o.toNat==4)||((o.toNat==10)||((o.toNat==11)||(o.toNat==12))))
theorem s3Z:∀n,n<256->RF bB ((n:Nat):Int)=some ((n==1)||((n==4)||((n==10)||((n==11)||(n==12))))):=by decide+kernel
theorem uqZ(o):RF bB ((o.toNat:Nat):Int)=some (jG o):=s3Z _ o.toNat_lt
def UR:Ino:=(0,0,false,false,0,[],0,[])
def nT(s:cW)(c:bV):Ino:=(s.2.1.1[(c.2.2.2.1.1-1).toNat]?).getD UR
theorem m3Z{t}{i:Nat}{y}(h:(bF t).1.1[i]? =some y):∃x,t.1[i]? =some x/\y=dJ x:=by
 simp[bF] at h
 grind
structure jH (s:cW) (c:bV) (x:Ino):Prop where
 at_:s.2.1.1[(c.2.2.2.1.1-1).toNat]? =some x
 h1:1<=c.2.2.2.1.1
 used:x.2.2.1=true
 dir:x.2.2.2.1=false
 gen:x.2.1=c.2.2.2.1.2
theorem jH.p{s}{c}{x}(h:jH s c x):nT s c=x:=by
 unfold nT;rw[h.at_];rfl
theorem fMZ{s}{c}(h:(cV (bF s.2.1) c.2.2.2.1).2.2=0):∃x,jH s c x:=by
 let⟨y,hy,_⟩:=dNZ h
 let⟨hH,hd,_⟩:=hy
 let⟨h1,h2,h3,h4⟩:=hH
 obtain⟨x,hx,rfl⟩:=m3Z h2;exact⟨x,hx,h1,h3,hd,h4⟩
theorem act4{m}{c}(h:c.2.2.1=uO 4):cL m c=jL m c:=by simp_all[cL]
theorem act5{m}{c}(h:c.2.2.1=uO 5):cL m c=iL m c:=by simp_all[cL]
theorem act6{m}{c}(h:c.2.2.1=uO 6):cL m c=lU m c:=by simp_all[cL]
theorem res0{m}{c}(hr:bK c=true)(h:(bN m c).2.1=0):(cL m c).1=0:=by
 unfold bN at h
 grind
theorem uUZ{s}{c}(hr:bK c=true)(h4:c.2.2.1=uO 4)(h:(bN (bF s.2.1) c).2.1=0):∃x,jH s c x:=by
 have h:=res0 hr h;rw[act4 h4] at h;unfold jL at h;split at h
 ·rename_i hf;exact fMZ hf
 ·rename_i hf;exact absurd h hf
theorem u0Z{s}{c}(hr:bK c=true)(h5:c.2.2.1=uO 5)(h:(bN (bF s.2.1) c).2.1=0):(∃x,jH s c x)/\c.2.2.2.2.2.2.2.1+((c.2.2.2.2.2.2.2.2.2.length:Nat):Int)<=65536:=by
 have h:=res0 hr h;rw[act5 h5] at h;unfold iL at h;split at h
 ·rename_i hf;refine⟨fMZ hf,?_⟩;split at h
  ·cases h
  ·omega
 ·rename_i hf;exact absurd h hf
theorem ujZ{s}{c}(hr:bK c=true)(h6:c.2.2.1=uO 6)(h:(bN (bF s.2.1) c).2.1=0):(∃x,jH s c x)/\c.2.2.2.2.2.2.2.2.1<=65536:=by
 have h:=res0 hr h;rw[act6 h6] at h;unfold lU at h;split at h
 ·rename_i hf;refine⟨fMZ hf,?_⟩;split at h
  ·cases h
  ·omega
 ·rename_i hf;exact absurd h hf
def dW(s:cW)(q:Nat)(c:bV):vZ×Int:=
 if bK c=true then
  if jG c.2.2.1=true then
   if c.2.2.1=uO 4/\(bN (bF s.2.1) c).2.1=0 then((1,(noB (kE c (bN (bF s.2.1) c)),(gV (nT s c) q c,[]))),0)
   else((1,(kE c (bN (bF s.2.1) c),([],[]))),0)
  else if(look s.2.2.1 c.1 c.2.1).2=1 then((3,((look s.2.2.1 c.1 c.2.1).1,([],[]))),0)
  else if(look s.2.2.1 c.1 c.2.1).2=2 then((4,(zR,([],[]))),0)
  else if(bN (bF s.2.1) c).2.1=0/\(c.2.2.1=uO 5\/c.2.2.1=uO 6) then((2,(zR,((lD (nT s c) s.2.1.2 q c).2.2,(lD (nT s c) s.2.1.2 q c).2.1))),0)
  else((2,(zR,([],[]))),0)
 else((0,(zR,([],[]))),179)
theorem opB(o)(n:Nat)(hn:n<256):((((o.toNat:Nat):Int))==(n:Int))=decide (o=uO n):=by
 by_cases h:o=uO n
 ·rw[ZAJ h,h];have:(uO n).toNat=n:=Nat.mod_eq_of_lt hn;rw[this];exact ZAb _
 grind[ZAF,ZAa,uOt]
theorem op4(o):(((o.toNat:Nat):Int)==4)=decide (o=uO 4):=opB o 4 (by decide)
theorem op5(o):(((o.toNat:Nat):Int)==5)=decide (o=uO 5):=opB o 5 (by decide)
theorem op6(o):(((o.toNat:Nat):Int)==6)=decide (o=uO 6):=opB o 6 (by decide)
theorem evZ{s}{q}(h:vQ s q)(c:bV):nP bB s (q:Int) c=some (dW s q c):=by
 unfold nP dW Pa Pb Pc Pd Pe Pf Pg Ph Pi Pj Pk PB PC PF PJ;rw[h.right,ZAA,axZ];simp only[ZAO,ZAD,ZAA];cases hr:bK c
 ·rfl
 simp only[ZAO,ZAD,ZCr]
 let⟨ho,hn,hb⟩:=a1Z hr
 rw[fIZ h.t,ZAA,show(((bF s.2.1).1.1,(bF s.2.1).1.2),(bF s.2.1).2)=bF s.2.1 from rfl,pSZ (aYZ h.t),ZAA,uqZ,ZAA];generalize hR:bN (bF s.2.1) c=R at*;cases ha:jG c.2.2.1
 ·simp only[ZAD];rw[ZAK (by decide),pDZ s.2.2.1 (b7Z h.c),ZAA,j4Z];by_cases l1:(look s.2.2.1 c.1 c.2.1).2=1
  ·rw[ZAM l1,l1];rfl
  rw[ZAK l1,(ZAa.2 l1),ZAD];by_cases l2:(look s.2.2.1 c.1 c.2.1).2=2
  ·rw[ZAM l2,l2];rfl
  rw[ZAK l2,(ZAa.2 l2),ZAD];rw[show(doT R c).2.2.2.1=R.2.1 from rfl];by_cases e0:R.2.1=0
  ·rw[e0];simp only[ZAb,ZAL];rw[op5,op6];have file:(c.2.2.1=uO 5\/c.2.2.1=uO 6)->∃x,jH s c x/\(c.2.2.1=uO 5->c.2.2.2.2.2.2.2.1+((c.2.2.2.2.2.2.2.2.2.length:Nat):Int)<=65536):=fun hop=>by
    rcases hop with h5|h6
    ·obtain⟨⟨x,hx⟩,hl⟩:=u0Z hr h5 (by rw[hR];exact e0);exact⟨x,hx,fun _=>hl⟩
    ·obtain⟨⟨x,hx⟩,hl⟩:=ujZ hr h6 (by rw[hR];exact e0);exact⟨x,hx,fun h5=>by rw[h6] at h5;exact absurd h5 (by decide)⟩
   by_cases hop:c.2.2.1=uO 5\/c.2.2.1=uO 6
   ·obtain⟨x,hx,hl⟩:=file hop;rw[ZAM ⟨trivial,hop⟩,hx.p];have step:∀{α} (S:α),(bif decide (c.2.2.1=uO 5) then some (true,S) else some (decide (c.2.2.1=uO 6),S))=some (true,S):=fun S=>by
     rcases hop with e|e<;>rw[e]<;>rfl
    rw[step,ZAA];simp only[ZAL,ZAP,ZAA];have hlt:=(ZAB.1 hx.at_).1;have hlen:=h.t.r.len;have h1:=hx.h1;rw[w64 (by omega),show c.2.2.2.1.1-1=(((c.2.2.2.1.1-1).toNat:Nat):Int) by omega,adZ hlt,ZAA,hx.at_,ZAA];rw[rkZ h.q (h.t.r.ino _ _ hx.at_|>.file hx.used hx.dir).2.2.1 h.t.r.str hop ho.1 hl hn hb ho.2,ZAA]
    rfl
   ·rw[ZAK (fun z=>hop z.2)];have step:∀{α} (S:α),(bif decide (c.2.2.1=uO 5) then some (true,S) else some (decide (c.2.2.1=uO 6),S))=some (false,S):=fun S=>by
     rw[ZAF (fun e=>hop (.inl e)),ZAF (fun e=>hop (.inr e))];rfl
    rw[step,ZAA]
    rfl
  ·rw[ZAK (fun z=>e0 z.1),(ZAa.2 e0)]
   rfl
 ·simp only[ZAL,ZCr];rw[op4];by_cases h4:c.2.2.1=uO 4
  ·rw[ZAJ h4,ZAL,ZAA,show(doT R c).2.2.2.1=R.2.1 from rfl];by_cases e0:R.2.1=0
   ·rw[ZAM ⟨h4,e0⟩,e0];obtain⟨x,hx⟩:=uUZ hr h4 (by rw[hR];exact e0);have hlt:=(ZAB.1 hx.at_).1;have hlen:=h.t.r.len;have h1:=hx.h1;have hf:=(h.t.r.ino _ _ hx.at_).file hx.used hx.dir;simp only[ZAb,ZAL,ZAP,ZAA];rw[w64 (by omega),show c.2.2.2.1.1-1=(((c.2.2.2.1.1-1).toNat:Nat):Int) by omega,adZ hlt,ZAA,hx.at_,ZAA];rw[rVZ h.q hf.1 (h.l _ _ hx.at_ hx.used hx.dir) ho hn,ZAA,hx.p];simp only[kE,noB,e0]
    rfl
   ·rw[ZAK (fun z=>e0 z.2),(ZAa.2 e0)]
    rfl
  ·rw[ZAF h4,ZAD,ZAK (fun z=>h4 z.1)]
   rfl
structure fN (l l':List Ino):Prop where
 len:l.length<=l'.length
 at_:∀(i:Nat) y,l'[i]? =some y->y.2.2.1=true->(∃x,l[i]? =some x/\x.2.2.1=true/\x.2.1=y.2.1/\x.2.2.2.1=y.2.2.2.1/\x.2.2.2.2.1=y.2.2.2.2.1)\/(y.2.2.2.2.1=0/\∀x,l[i]? =some x->x.2.1≠y.2.1)
theorem fN.refl(l):fN l l:=⟨ZAN _,fun i y h hu=>.inl ⟨y,h,hu,rfl,rfl,rfl⟩⟩
theorem fN.mod{l l'}(h:fN l l')(i)(f)(hf:∀n,(f n).2.2.1=true->n.2.2.1=true/\(f n).2.1=n.2.1/\(f n).2.2.2.1=n.2.2.2.1/\(f n).2.2.2.2.1=n.2.2.2.2.1):fN l (wM l' i f):=by
 refine⟨by rw[aZZ];exact h.len,fun j y hy hu=> ?_⟩;rw[bnZ] at hy;split at hy
 ·cases hn:l'[j]? with
  |none=>rw[hn] at hy;cases hy
  |some n=>
   rw[hn] at hy;simp[ZAV] at hy;subst hy
   let⟨q1,q2,q3,q4⟩:=hf n hu
   rw[q2,q3,q4];exact h.at_ j n hn q1
 ·exact h.at_ j y hy hu
theorem fN.put{l l'}(h:fN l l')(a)(s)(id):fN l (jT l' a s id):=h.mod _ _ fun _ h=>⟨h,rfl,rfl,rfl⟩
theorem fN.take{l l'}(h:fN l l')(a)(s):fN l (cR l' a s):=h.mod _ _ fun _ h=>⟨h,rfl,rfl,rfl⟩
theorem fN.drop{l l'}(h:fN l l')(a):fN l (dV l' a):=h.mod _ _ fun _ h=>by cases h
theorem fN.mv{l l'}(h:fN l l')(a)(old)(b)(name)(id):fN l (mvL l' a old b name id):=((h.take a old).put b name id).mod _ _ fun _ h=>⟨h,rfl,rfl,rfl⟩
theorem fN.alloc{l l'}{dir}{parent g}{i}(ha:oR l dir parent=some (l',i,g)):fN l l':=by
 unfold oR at ha;cases hf:oQ l with
 |none=>
  rw[hf] at ha;simp only at ha;split at ha
  ·obtain⟨rfl,rfl,rfl⟩:=ha;refine⟨by simp,fun j y hy hu=> ?_⟩;by_cases hj:j<l.length
   ·rw[ZAT hj] at hy;exact .inl ⟨y,hy,hu,rfl,rfl,rfl⟩
   ·rw[ZAU (by omega)] at hy;cases hq:j-l.length with
    |succ q=>rw[hq] at hy;simp at hy
    |zero=>
     rw[hq] at hy;simp[ZAV] at hy;subst hy;exact .inr ⟨rfl,fun x hx=>by rw[ZAg (by omega)] at hx;cases hx⟩
  simp_all
 |some k=>
  rw[hf] at ha;simp at ha
  let⟨hk,hused,_⟩:=ZA2.1 hf
  have hg:=ZAC hk;rw[hg] at ha;simp only at ha;split at ha
  ·simp[ZA0] at ha;obtain⟨rfl,rfl,rfl⟩:=ha;refine⟨by rw[ZAt];exact ZAN _,fun j y hy hu=> ?_⟩;by_cases hj:j=k
   ·subst hj;rw[ZAQ hk] at hy;simp at hy;subst hy;exact .inr ⟨rfl,fun x hx=>by rw[hg] at hx;obtain rfl:=ZAf hx;simp;omega⟩
   ·rw[ZAX (fun e=>hj e.symm)] at hy;exact .inl ⟨y,hy,hu,rfl,rfl,rfl⟩
  simp_all
theorem r8Z(t)(d)(s)(is):fN t.1 (fO t d s is).1.1/\(fO t d s is).1.2=t.2:=by
 unfold fO
 (repeat' split)<;>first|exact⟨fN.refl _,rfl⟩|(rename_i h;exact⟨(fN.alloc h).put _ _ _,rfl⟩)
theorem meZ(t)(d)(s)(is):fN t.1 (dZ t d s is).1.1/\(dZ t d s is).1.2=t.2:=by
 unfold dZ
 (repeat' split)<;>first|exact⟨fN.refl _,rfl⟩|exact⟨((fN.refl _).take _ _).drop _,rfl⟩
theorem mlZ(t)(a)(old)(b)(name):fN t.1 (eA t a old b name).1.1/\(eA t a old b name).1.2=t.2:=by
 unfold eA
 (repeat' split)<;>first|exact⟨fN.refl _,rfl⟩|exact⟨(((fN.refl _).take _ _).drop _).mv _ _ _ _ _,rfl⟩|exact⟨(fN.refl _).mv _ _ _ _ _,rfl⟩
theorem iTZ(l)(h):0<=fB l h/\fB l h<=1000:=by
 unfold fB;(repeat' split)<;>decide
theorem mXZ(d)(n):0<=lB d n/\lB d n<=1000:=by
 grind[lB]
theorem mBZ(t)(d)(s)(is):0<=(fO t d s is).2.2/\(fO t d s is).2.2<=1000:=by
 unfold fO;(repeat' split)<;>first|decide|(dsimp;decide)|exact iTZ _ _
theorem idZ(t)(d)(s)(is):0<=(dZ t d s is).2.2/\(dZ t d s is).2.2<=1000:=by
 unfold dZ;(repeat' split)<;>first|decide|(dsimp;decide)|exact iTZ _ _|exact mXZ _ _
theorem o6Z(t)(a)(old)(b)(name):0<=(eA t a old b name).2.2/\(eA t a old b name).2.2<=1000:=by
 unfold eA;(repeat' split)<;>first|decide|(dsimp;decide)|exact iTZ _ _|exact mXZ _ _
theorem mDZ(m)(h):0<=(cV m h).2.2/\(cV m h).2.2<=1000:=by
 unfold cV;split
 ·decide
 ·rename_i x _;cases x.2.2.2.1
  ·split<;>(dsimp;decide)
  simp_all
theorem lwZ{t}(h:bL t)(d)(s)(is)(h0:(fO t d s is).2.2=0):kD (fO t d s is).2.1=true:=by
 rcases o1Z h d s is with⟨e,he,hm⟩|⟨T,f,n,l',i,hm,mo⟩
 ·simp_all[jrZ,ZA0]
 ·rw[(jrZ h d s is).1] at hm;simp[ZA0] at hm;have hT:=mo.tree h;have hn:=mo.new h;have o:=hT.r.ino _ _ hn;have hl:=(ZAB.1 hn).1;have hlen:=hT.r.len;have hf:=mo.f;have g:=o.gen;unfold kD;rw[hm.2.2.2.1];refine ZAJ ⟨by omega,by omega,g.1,g.2⟩
def dN(x:Ino)(c:bV):Int:=if c.2.2.1=uO 5 then max x.2.2.2.2.1 (if c.2.2.2.2.2.2.2.2.2.length=0 then 0 else c.2.2.2.2.2.2.2.1+((c.2.2.2.2.2.2.2.2.2.length:Nat):Int)) else c.2.2.2.2.2.2.2.2.1
theorem e3Z{s}{c}{x}(h:bL s.2.1)(hr:bK c=true)(hop:c.2.2.1=uO 5\/c.2.2.1=uO 6)(h0:(bN (bF s.2.1) c).2.1=0)(hx:jH s c x):
 (bN (bF s.2.1) c).1.1=((bF s.2.1).1.1.set (c.2.2.2.1.1-1).toNat (wS (dJ x) (dN x c)),s.2.1.2)/\(bN (bF s.2.1) c).2.2=(c.2.2.2.1,false,dN x c,[],[],false,0)/\0<=dN x c/\dN x c<=65536:=by
 let⟨ho,hn,hb⟩:=a1Z hr
 have ha:=res0 hr h0;have hb0:(bF s.2.1).1.1[(c.2.2.2.1.1-1).toNat]? =some (dJ x):=by
  unfold bF;simp only[ZAW,hx.at_];rfl
 have hd0:(bF s.2.1).2[(c.2.2.2.1.1-1).toNat]? =some (jF x):=by
  unfold bF;simp only[ZAW,hx.at_];rfl
 have hf:cV (bF s.2.1) c.2.2.2.1=(c.2.2.2.1.1,jF x,0):=by
  unfold cV;rw[cgZ.2 ((⟨hx.h1,hb0,hx.used,hx.gen⟩))];simp only;rw[show(dJ x).2.2.2.1=false from hx.dir,hd0];rfl
 have bS:∀b:Byt,rE (bF s.2.1).1.1 c.2.2.2.1 ((b.length:Nat):Int)=(bF s.2.1).1.1.set (c.2.2.2.1.1-1).toNat (wS (dJ x) ((b.length:Nat):Int)):=fun b=>by
  unfold rE;rw[hb0];rfl
 have hsz:=epZ h hx.at_;have hz:((jF x).length:Int)=x.2.2.2.2.1:=by unfold jF;rw[ZB6];omega
 have hres:bN (bF s.2.1) c=(((cL (bF s.2.1) c).2.1.1,kC (cL (bF s.2.1) c).2.1.1.1 (cL (bF s.2.1) c).2.1.2),0,(cL (bF s.2.1) c).2.2):=by
  unfold bN;rw[ZAM hr,ZAM ha]
 rw[hres];by_cases e5:c.2.2.1=uO 5
 ·rw[act5 e5] at ha⊢;unfold iL at ha⊢;rw[hf,ZAM rfl] at ha⊢;split at ha
  ·cases ha
  ·rename_i hle;rw[ZAK hle];have hN:((dP (jF x) c.2.2.2.2.2.2.2.1 c.2.2.2.2.2.2.2.2.2:Nat):Int)=dN x c:=by
    unfold dP dN;rw[ZAM e5];split<;>omega
   simp only;rw[hN];refine⟨?_,rfl,?_⟩
   ·unfold nS;rw[bS,cUZ,hN];rfl
   ·unfold dN;rw[ZAM e5];split<;>omega
 ·have e6:=op56 hop e5;rw[act6 e6] at ha⊢;unfold lU at ha⊢;rw[hf,ZAM rfl] at ha⊢;split at ha
  ·cases ha
  ·rename_i hle;rw[ZAK hle];have hN:dN x c=c.2.2.2.2.2.2.2.2.1:=by unfold dN;rw[ZAK e5]
   refine⟨?_,by rw[hN],by omega⟩;simp only;unfold nS;rw[bS,aRZ,hN,ZBg hn.1];rfl
theorem iIZ{m}(c)(hop:(bN m c).2.1=0->¬(c.2.2.1=uO 5\/c.2.2.1=uO 6)):fN m.1.1 (bN m c).1.1.1/\(bN m c).1.1.2=m.1.2:=by
 unfold bN at hop⊢;by_cases hr:bK c=true
 ·rw[ZAM hr] at hop⊢;by_cases h0:(cL m c).1=0
  ·rw[ZAM h0] at hop⊢;have hop:=hop rfl;have hself:(cL m c).2.1=m->fN m.1.1 (cL m c).2.1.1.1/\(cL m c).2.1.1.2=m.1.2:=fun e=>by rw[e];exact⟨fN.refl _,rfl⟩
   have hmk:cL m c=gJ m c->fN m.1.1 (cL m c).2.1.1.1/\(cL m c).2.1.1.2=m.1.2:=fun e=>by
    rw[e];unfold gJ;split
    ·exact r8Z _ _ _ _
    ·exact⟨fN.refl _,rfl⟩
   have hrm:cL m c=dI m c->fN m.1.1 (cL m c).2.1.1.1/\(cL m c).2.1.1.2=m.1.2:=fun e=>by
    rw[e];unfold dI;split
    ·exact meZ _ _ _ _
    ·exact⟨fN.refl _,rfl⟩
   rcases i3Z hr with e|e|e|e|e|e|e|e|e|e|e|e
   ·refine hself ?_;unfold cL jE;rw[e];simp;(repeat' split)<;>rfl
   ·exact hmk (by unfold cL;rw[e];rfl)
   ·exact hmk (by unfold cL;rw[e];rfl)
   ·refine hself ?_;rw[act4 e];unfold jL;split<;>rfl
   ·exact absurd (.inl e) hop
   ·exact absurd (.inr e) hop
   ·exact hrm (by unfold cL;rw[e];rfl)
   ·exact hrm (by unfold cL;rw[e];rfl)
   ·rw[show cL m c=eV m c by unfold cL;rw[e];rfl];unfold eV;split
    ·exact mlZ _ _ _ _ _
    ·exact⟨fN.refl _,rfl⟩
   ·refine hself ?_;rw[show cL m c=zC m c by unfold cL;rw[e];rfl];rfl
   ·refine hself ?_;rw[show cL m c=rP m c by unfold cL;rw[e];rfl];unfold rP;split<;>rfl
   ·refine hself ?_;rw[show cL m c=AL m by unfold cL;rw[e];rfl];rfl
  ·rw[ZAK h0];exact⟨fN.refl _,rfl⟩
 simp_all[fN.refl]
section
variable {α : Type} {key : α → Int}
theorem uniq{l:List α}(hs:(l.map key).Pairwise (·<·)){i j:Nat}{a b}(hi:l[i]? =some a)(hj:l[j]? =some b)(h:key a=key b):i=j:=by
 grind[ZAB,ZCd,ZBq]
theorem soZ{l:List α}(hs:(l.map key).Pairwise (·<·)){x}{a}:l.find? (fun a=>key a==x)=some a↔a∈l/\key a=x:=by
 constructor
 ·grind
 ·cases hf:l.find? (fun a=>key a==x)<;>grind[ZBu,ZCF,ZCq,ZAR,uniq]
theorem hKZ{l:List α}(hs:(l.map key).Pairwise (·<·)){x}{a}(ha:key a=x)(hno:l.find? (fun a=>key a==x)=none):
 ((l.take (pre (fun a=>decide (key a<x)) l)++[a]++l.drop (pre (fun a=>decide (key a<x)) l)).map key).Pairwise (·<·):=by
 have hlt:∀b∈l.take (pre (fun a=>decide (key a<x)) l),key b<x:=fun b hb=>of_decide_eq_true (tlZ _ l b hb);have hgt:∀b∈l.drop (pre (fun a=>decide (key a<x)) l),x<key b:=fun b hb=>by
  obtain⟨i,hi⟩:=ZAR hb;rw[ZAy] at hi;have h1:=fun hc=>by
   have:=(itZ hs x _ b hi).1 hc;omega
  have h2:=by
   have:=ZBu.1 hno b (ZAI hi);simpa using this
  omega
 grind
theorem mnZ{l:List α}{n}{a b}:b∈l.take n++[a]++l.drop n↔b=a\/b∈l:=by
 have:b∈l↔b∈l.take n\/b∈l.drop n:=by rw[<-List.mem_append,ZBB]
 grind
theorem tTZ{l:List α}{i}{a b}(h:l[i]? =some a)(hk:key b=key a):(l.set i b).map key=l.map key:=by
 simp_all[duZ]
theorem tUZ{l:List α}(hs:(l.map key).Pairwise (·<·)){i}{a b c}(h:l[i]? =some a):c∈l.set i b↔c=b\/(c∈l/\key c≠key a):=by
 constructor
 ·grind[ZAR,ZAQ,ZAX,ZAI,uniq]
 ·rintro(rfl|⟨h1,h2⟩)
  ·grind[ZAI,ZAQ]
  ·let⟨j,hj⟩:=ZAR h1
   by_cases e:j=i
   ·simp_all
   ·exact ZAI (by rw[ZAX (ZBj e)];omega)
end
theorem imZ{ks}(hs:(ks.map (·.1)).Pairwise (·<·)){x}{k}:kOf ks x=some k↔k∈ks/\k.1=x:=soZ hs
theorem q1Z{c}(h:gD c=true){cl x}:(look c cl x).2=0↔∀k,kOf c.2 cl=some k->k.2.1<x/\rOf k.2.2 x=none:=by
 unfold look
 grind
theorem tnZ(w)(k)(r):(tI w k r).1=k.1:=by
 grind[tI]
theorem oUZ{w}(_hw:1<=w){k}{r}(hk:lV w k=true)(hr:cF r=true)(h1:r.1=k.1)(h2:k.2.1<r.2.1)(h3:rOf k.2.2 r.2.1=none):lV w (tI w k r)=true:=by
 let⟨a1,a2,a3,a4,a5⟩:=clZ.1 hk
 have hs:=hKZ a4 rfl h3;have hle:fU k.2.2 r.2.1<=k.2.2.length:=gAZ _ _;have hm:∀b,b∈k.2.2.take (fU k.2.2 r.2.1)++[r]++k.2.2.drop (fU k.2.2 r.2.1)->b.1=k.1/\k.2.1<b.2.1/\cF b=true:=fun b hb=>by
  rcases mnZ.1 hb with rfl|hb
  ·exact⟨h1,h2,hr⟩
  ·exact a5 b hb
 have hlen:(k.2.2.take (fU k.2.2 r.2.1)++[r]++k.2.2.drop (fU k.2.2 r.2.1)).length=k.2.2.length+1:=by simp;omega
 unfold tI;simp only;unfold fU at hm hlen⊢;generalize k.2.2.take (pre (fun k=>decide (k.2.1<r.2.1)) k.2.2)++[r]++k.2.2.drop (pre (fun k=>decide (k.2.1<r.2.1)) k.2.2)=L at hs hm hlen⊢;by_cases hw:((L.length:Nat):Int)>w
 ·rw[ZAM hw];cases L with
  |nil=>simp at hlen
  |cons x L=>
   simp only[ZCt,ZA4] at hs;have hx:=hm x (by simp);have hxr:=bEZ hx.2.2;simp only[ZAP,List.drop_one,List.tail_cons];refine clZ.2 ⟨by simp only;omega,by simp only;omega,by simp only;simp only[ZCQ] at hlen;omega,hs.2,fun b hb=> ?_⟩;have:=hm b (by simp[hb]);exact⟨this.1,hs.1 _ (ZBc.2 ⟨b,hb,rfl⟩),this.2.2⟩
 ·rw[ZAK hw];exact clZ.2 ⟨a1,a2,by simp only;omega,hs,hm⟩
theorem oEZ{w}{ks}(hw:1<=w)(hs:(ks.map (·.1)).Pairwise (·<·))(hb:∀k∈ks,0<=k.1/\k.1<16/\lV w k=true){x}(hx:0<=x/\x<16):
 ((gP ks x).map (·.1)).Pairwise (·<·)/\(∀k∈gP ks x,0<=k.1/\k.1<16/\lV w k=true)/\(gP ks x)[eR ks x]? =some (fV ks x)/\(fV ks x).1=x/\∀k,k.1≠x->(k∈gP ks x↔k∈ks):=by
 unfold gP fV;cases hk:kOf ks x with
 |some k=>
  simp[Option.isSome_some,ZCr,ZCR]
  let⟨h1,h2⟩:=qIZ hs hk<;>grind
 |none=>
  simp only[Option.isSome_none,ZBI,ZCi,Option.getD_none];refine⟨hKZ hs rfl hk,fun k hk'=> ?_,?_,by first|trivial|rfl,fun k hne=> ?_⟩
  ·rcases mnZ.1 hk' with rfl|h
   ·exact⟨hx.1,hx.2,clZ.2 ⟨by simp,by simp,by simp;omega,by simp,by simp⟩⟩
   ·exact hb k h
  ·have hle:eR ks x<=ks.length:=gAZ _ _;have e1:(ks.take (eR ks x)).length=eR ks x:=by rw[ZAS];omega
   rw[ZAw,ZAU (by omega),e1,ZBo]
   rfl
  grind[mnZ]
theorem sWZ{w}{ks}{r}(h:gD (w,ks)=true)(hr:cF r=true)(hl:(look (w,ks) r.1 r.2.1).2=0):
 gD (w,iC w ks r)=true/\∀x,kOf (iC w ks r) x=if x=r.1 then some (tI w (fV ks r.1) r) else kOf ks x:=by
 let⟨g1,g2,g3⟩:=bAZ.1 h
 have hwho:=(bEZ hr).1
 let⟨w1,w2,w3,w4,w5⟩:=oEZ g1.1 g2 g3 hwho
 have hz:=(q1Z h).1 hl;have hkept:=(w2 _ (ZAI w3)).2.2;have hgone:(fV ks r.1).2.1<r.2.1/\rOf (fV ks r.1).2.2 r.2.1=none:=by
  unfold fV;cases hk:kOf ks r.1 with
  |none=>
   simp;have:=(bEZ hr).2.1;exact⟨by omega,rfl⟩
  |some k=>exact hz k hk
 have hnew:=oUZ g1.1 hkept hr w4.symm hgone.1 hgone.2;have hfst:(tI w (fV ks r.1) r).1=(fV ks r.1).1:=tnZ _ _ _;have hs:((iC w ks r).map (·.1)).Pairwise (·<·):=by
  unfold iC;rw[tTZ w3 hfst];exact w1
 have hmem:∀k,k∈iC w ks r↔k=tI w (fV ks r.1) r\/(k∈gP ks r.1/\k.1≠(fV ks r.1).1):=fun k=>tUZ w1 w3;refine⟨bAZ.2 ⟨g1,hs,fun k hk=> ?_⟩,fun x=> ?_⟩
 ·rcases(hmem k).1 hk with rfl|⟨h1,_⟩
  ·rw[hfst,w4];exact⟨hwho.1,hwho.2,hnew⟩
  ·exact w2 k h1
 ·by_cases hx:x=r.1
  ·rw[ZAM hx];exact(imZ hs).2 ⟨(hmem _).2 (.inl rfl),by rw[hfst,w4,hx]⟩
  ·rw[ZAK hx];apply Option.ext;intro k;rw[imZ hs,imZ g2,hmem];constructor
   ·rintro⟨rfl|⟨h1,_⟩,h2⟩
    ·rw[hfst,w4] at h2;exact absurd h2.symm hx
    ·exact⟨(w5 k (by omega)).1 h1,h2⟩
   ·rintro⟨h1,h2⟩;exact⟨.inr ⟨(w5 k (by omega)).2 h1,by rw[w4];omega⟩,h2⟩
end Go.Ab.D
