/- What the functions compute; the plain law. -/
import Derived.Test.YtjngohmkdmdecaaGreatStateModelQ2
import Derived.KernelRfl
set_option linter.all false
set_option maxRecDepth 100000
open Prod renaming B->PB,C->PC,D->PD,E->PE,F->PF,G->PG,H->PH,I->PI,J->PJ,K->PK,L->PL,M->PM,S->PS,T->PT,U->PU,V->PV,Y->PY,ZC->PZC,ZF->PZF,a->Pa,b->Pb,c->Pc,d->Pd,e->Pe,f->Pf,g->Pg,h->Ph,i->Pi,j->Pj,k->Pk,l->Pl,m->Pm,n->Pn,o->Po,p->Pp,q->Pq,r->Pr,s->Ps,t->Pt,u->Pu,v->Pv,w->Pw,x->Px,y->Py,z->Pz,za->Pza,zb->Pzb,zc->Pzc,zd->Pzd,ze->Pze,zf->Pzf
namespace Go.Ab
theorem ZBo:type_of% @List.set_cons_zero:=@List.set_cons_zero
end Go.Ab
namespace Go.Ab.D
open Go Go.Ab
def wY(n:Int)(ks:List eO):Prop:=∀k∈ks,k.2.1<=n/\∀r∈k.2.2,r.2.1<=n
theorem wY.mono{n m}{ks}(h:wY n ks)(hm:n<=m):wY m ks:=fun k hk=>⟨by have:=(h k hk).1;omega,fun r hr=>by have:=(h k hk).2 r hr;omega⟩
theorem lIZ{ks}{x}{k}(h:kOf ks x=some k):k∈ks:=ZCN h
theorem sRZ{c}{cl x n}(hc:gG c=true)(h:wY n c.2)(hx:n<x):look c cl x=(zR,0):=by
 unfold look;rw[ZAL hc];cases hk:kOf c.2 cl with
 |none=>rfl
 |some k=>
  have hm:=h k (lIZ hk);simp;rw[ZAJ (by omega)];cases hr:rOf k.2.2 x with
  |none=>rfl
  |some r=>
   have h1:=hm.2 r (ZCN hr);have h2:=ZCu hr;have h2:=by simpa using h2
   omega
theorem rNZ{α}(p):∀{l:List α},(∀x∈l,p x=true)->pre p l=l.length
 |[],_=>rfl
 |x::l,h=>by
  unfold pre;rw[ZAL (h x (ZAr ..)),rNZ p fun y hy=>h y (ZAc _ hy)];rfl
theorem t3Z{w n}{k}{r}(hw:1<=w)(h1:k.2.1<=n)(h2:∀r∈k.2.2,r.2.1<=n)(hr:n<r.2.1):(tS w k r).2.1<=n/\(∀x∈(tS w k r).2.2,x=r\/x∈k.2.2)/\rOf (tS w k r).2.2 r.2.1=some r:=by
 have hp:fY k.2.2 r.2.1=k.2.2.length:=rNZ _ fun x hx=>ZAK (by have:=h2 x hx;omega);have no:∀l,(∀x∈l,x.2.1<=n)->rOf (l++[r]) r.2.1=some r:=fun l hl=>by
  unfold rOf;rw[List.find?_append,ZBv.2 (fun x hx=>by have:=hl x hx;simp;omega)];simp
 unfold tS;rw[hp,ZAu,List.drop_length,ZAs]
 grind
theorem sBZ(c)(cl x):(look c cl x).2=0\/(look c cl x).2=1\/(look c cl x).2=2:=by
 grind[look]
theorem vGZ{c}{r}(hc:gG c=true)(h:wY r.2.1 c.2)(hr:cF r=true)(h1:1<=r.2.1)(hl:(look c r.1 r.2.1).2=0):
 put c r=((c.1,iC c.1 c.2 r),0)/\gG (c.1,iC c.1 c.2 r)=true/\wY r.2.1 (iC c.1 c.2 r)/\look (c.1,iC c.1 c.2 r) r.1 r.2.1=(r,1):=by
 let⟨ok,kof⟩:=s9Z hc hr hl
 let⟨g1,g2,g3⟩:=b2Z.1 hc
 let⟨o1,o2,o3⟩:=b2Z.1 ok
 have hk:(fZ c.2 r.1).2.1<=r.2.1-1/\∀x∈(fZ c.2 r.1).2.2,x.2.1<=r.2.1-1:=by
  unfold fZ;unfold look at hl;rw[ZAL hc] at hl;cases e:kOf c.2 r.1 with
  |none=>exact⟨by show(0:Int)<=_;omega,fun x hx=>by cases hx⟩
  |some k=>
   rw[e] at hl;simp at hl;have hm:=h k (lIZ e);split at hl
   ·cases hl
   ·rename_i hgt;refine⟨by show k.2.1<=_;omega,fun x hx=> ?_⟩;have:=hm.2 x hx;cases hrr:rOf k.2.2 r.2.1 with
    |some y=>rw[hrr] at hl;cases hl
    |none=>
     have:=ZBv.1 hrr x hx;have:=by simpa using this
     omega
 let⟨p1,p2,p3⟩:=t3Z (r:=r) g1.1 hk.1 hk.2 (by omega)
 refine⟨?_,ok,fun k hkm=> ?_,?_⟩
 ·unfold put;rw[ZAL ⟨hc,hr,hl⟩]
 ·have hf:=(iKZ o2).2 ⟨hkm,rfl⟩;rw[kof] at hf;split at hf
  ·obtain rfl:=ZAg hf;refine⟨by omega,fun x hx'=> ?_⟩;rcases p2 x hx' with rfl|e
   ·exact ZB8 _
   ·have:=hk.2 x e;omega
  ·exact h k (lIZ hf)
 ·unfold look;rw[ZAL ok,kof,ZAL rfl];simp only;rw[ZAJ (by omega),p3]
set_option maxHeartbeats 4000000
theorem gyZ{c}(hr:bK c=true):oT c.1 c.2.1=true:=by
 unfold bK vY at hr;simp at hr;exact hr.2.1
theorem snZ{c}(hr:bK c=true)(hop:c.2.2.1=uO 5\/c.2.2.1=uO 6):kF c.2.2.2.1=true:=by
 unfold bK vY at hr;simp at hr;have h:=hr.2.2.1;rcases hop with e|e<;>(rw[e] at h;exact h)
def JA(c:bT)(e:Int):bX:=(c.1,(c.2.1,(e,((0,0),(false,(0,([],([],(false,0)))))))))
theorem qQZ{c}{e}(hr:bK c=true)(he:1<=e/\e<=1000):cF (JA c e)=true:=by
 unfold cF JA;rw[gyZ hr,ZAK (show 0<=e/\e<=1000 by omega),ZAL (show e≠0 by omega)]
 rfl
theorem jcZ{c}{H}{d}{sz}(hr:bK c=true)(hH:(zM H||kF H)=true)(hs:0<=sz/\sz<=65536):cF (c.1,(c.2.1,(0,(H,(d,(sz,([],([],(false,0)))))))))=true:=by
 simp_all[cF,gyZ,ZAK]
theorem lFZ{m}{c}(hr:bK c=true)(h:(bN m c).2.1≠0):(bN m c).2.1=(cK m c).1/\(bN m c).2.2=kT:=by
 unfold bN at h⊢
 grind
theorem rrZ{s:cS}{c}(h:bL s.2.1)(hr:bK c=true)(ha:jI c.2.2.1=false):cF (kG c (bN (bG s.2.1) c))=true:=by
 have hm:=aZZ h;have no:∀n:Nat,n<256->c.2.2.1=uO n->jI (uO n)=false:=fun n _ e=>by simp_all
 have op:=jjZ hr;by_cases h0:(bN (bG s.2.1) c).2.1=0
 ·by_cases h56:c.2.2.1=uO 5\/c.2.2.1=uO 6
  ·have hf:∃x,jJ s c x:=by
    rcases h56 with e|e
    ·exact(uxZ hr e h0).1
    ·exact(vhZ hr e h0).1
   obtain⟨x,hx⟩:=hf;obtain⟨_,r2,r3⟩:=eAZ h hr h56 h0 hx
   simp_all[kG,jcZ,snZ]
  ·have hres:(bN (bG s.2.1) c).2.2=(cK (bG s.2.1) c).2.2:=by
    unfold bN;rw[ZAL hr,ZAL (res0 hr h0)]
   have h1:=res0 hr h0;have hmk:cK (bG s.2.1) c=gN (bG s.2.1) c->cF (kG c (bN (bG s.2.1) c))=true:=fun e=>by
    rw[e] at h1;unfold kG;rw[h0,hres,e];unfold gN at h1⊢;split at h1
    ·rename_i hk;rw[ZAL hk];exact jcZ hr (by rw[lnZ hm.t _ _ _ hk];simp) ⟨ZB8 0,show(0:Int)<=65536 by decide⟩
    ·rename_i hk;exact absurd h1 hk
   have hrep:(cK (bG s.2.1) c).2.2=kT->cF (kG c (bN (bG s.2.1) c))=true:=fun e=>by
    unfold kG;rw[h0,hres,e];exact jcZ hr rfl ⟨by decide,by decide⟩
   rcases op with e|e|e|e|e|e|e|e|e|e|e|e
   ·exact absurd (no 1 (by decide) e) (by decide)
   ·exact hmk (by unfold cK;rw[e];rfl)
   ·exact hmk (by unfold cK;rw[e];rfl)
   ·exact absurd (no 4 (by decide) e) (by decide)
   ·exact absurd (.inl e) h56
   ·exact absurd (.inr e) h56
   ·exact hrep (by rw[show cK (bG s.2.1) c=dM (bG s.2.1) c by unfold cK;rw[e];rfl];unfold dM;split<;>rfl)
   ·exact hrep (by rw[show cK (bG s.2.1) c=dM (bG s.2.1) c by unfold cK;rw[e];rfl];unfold dM;split<;>rfl)
   ·exact hrep (by rw[show cK (bG s.2.1) c=fB (bG s.2.1) c by unfold cK;rw[e];rfl];unfold fB;split<;>rfl)
   ·exact absurd (no 10 (by decide) e) (by decide)
   ·exact absurd (no 11 (by decide) e) (by decide)
   ·exact absurd (no 12 (by decide) e) (by decide)
 ·obtain⟨e1,e2⟩:=lFZ hr h0;have rng:0<=(cK (bG s.2.1) c).1/\(cK (bG s.2.1) c).1<=1000:=by
   rcases op with e|e|e|e|e|e|e|e|e|e|e|e
   ·exact absurd (no 1 (by decide) e) (by decide)
   ·rw[show cK (bG s.2.1) c=gN (bG s.2.1) c by unfold cK;rw[e];rfl];unfold gN;split<;>first|(dsimp only;decide)|exact ncZ _ _ _ _
   ·rw[show cK (bG s.2.1) c=gN (bG s.2.1) c by unfold cK;rw[e];rfl];unfold gN;split<;>first|(dsimp only;decide)|exact ncZ _ _ _ _
   ·exact absurd (no 4 (by decide) e) (by decide)
   ·rw[act5 e];unfold iM;split
    ·split<;>(dsimp only;decide)
    ·exact n9Z _ _
   ·rw[act6 e];unfold lY;split
    ·split<;>(dsimp only;decide)
    ·exact n9Z _ _
   ·rw[show cK (bG s.2.1) c=dM (bG s.2.1) c by unfold cK;rw[e];rfl];unfold dM;split<;>first|(dsimp only;decide)|exact hRZ _ _ _ _
   ·rw[show cK (bG s.2.1) c=dM (bG s.2.1) c by unfold cK;rw[e];rfl];unfold dM;split<;>first|(dsimp only;decide)|exact hRZ _ _ _ _
   ·rw[show cK (bG s.2.1) c=fB (bG s.2.1) c by unfold cK;rw[e];rfl];unfold fB;split<;>first|(dsimp only;decide)|exact oOZ _ _ _ _ _
   ·exact absurd (no 10 (by decide) e) (by decide)
   ·exact absurd (no 11 (by decide) e) (by decide)
   ·exact absurd (no 12 (by decide) e) (by decide)
  have:=qQZ hr (e:=(bN (bG s.2.1) c).2.1) (by omega);unfold kG;rw[e2];exact this
theorem cAZ{s}{q}{c}(h:(dZ s q c).1.1=2):(dZ s q c).2=0/\bK c=true/\jI c.2.2.1=false:=by
 unfold dZ at h⊢;by_cases hr:bK c=true
 ·rw[ZAL hr] at h⊢;cases ha:jI c.2.2.1
  ·rw[ZAJ (by decide)];refine⟨?_,hr,rfl⟩;split
   ·rfl
   ·split
    ·rfl
    ·split<;>rfl
  ·rw[ha,ZAL rfl] at h;split at h<;>cases h
 simp_all
theorem p0Z{s}{q}{c}(h:(dZ s q c).1.1=2):(look s.2.2.1 c.1 c.2.1).2=0:=by
 let⟨_,hr,ha⟩:=cAZ h
 unfold dZ at h;rcases sBZ s.2.2.1 c.1 c.2.1 with e|e|e<;>simp_all
theorem vsZ{c}(hr:bK c=true):1<=c.2.1:=by
 have:=gyZ hr
 simp_all[oT]
theorem wA.own{s}{q}(h:wA s q):gA bB s=some (s.1,(s.2.1.2,(s.2.2.1.1,(s.2.2.1.2,(s.2.1.1,(s.2.2.2.1,s.2.2.2.2)))))):=
 uNZ s h.t.r.fit (b6Z h.c) (by rw[h.pl];exact⟨by decide,by decide⟩) (by have:=h.dn;omega)
def nZ(r y:Ino):Bool:=y.2.2.1&&(y.2.1==r.2.1)
def cM(l0 l1:List Ino)(i:Nat):List cV:=match l0[i]?,l1[i]? with
 |some r,some y=>if nZ r y=true then r.2.2.2.2.2.1 else[]
 |_,_=>[]
def mB(l0 l1:List Ino)(i:Nat):List cV:=match l0[i]?,l1[i]? with
 |some r,some y=>if nZ r y=true then[] else r.2.2.2.2.2.1
 |_,_=>[]
def fM(l0 l1:List Ino):Nat->List cV
 |0=>[]
 |k+1=>fM l0 l1 k++mB l0 l1 k
theorem exZ{l}{P Q}(h:∀(i) x,l[i]? =some x->P i=Q i):dH l P=dH l Q:=by
 refine ZA9 fun i=> ?_
 grind[dH,ZBz,ZBM]
theorem kmZ{l}{P}{k}{y}(h:l[k]? =some y)(Q):(dH l P).set k (oU y Q)=dH l fun i=>if i=k then Q else P i:=by
 refine ZA9 fun i=> ?_;by_cases hi:i=k
 ·subst hi;rw[ZAR (by grind[bJZ,ZAC]),bIZ _ h,ZAL rfl]
 ·rw[ZAX (fun e=>hi e.symm)]
  simp_all[dH,ZAJ]
theorem oDZ{l}(h:∀(i:Nat) y,l[i]? =some y->y.2.2.2.2.2.1=[]):dH l (fun _=>[])=l:=by
 refine ZA9 fun i=> ?_;unfold dH;rw[ZBz];cases e:l[i]? with
 |none=>rfl
 |some x=>
  have:=h i x e
  let⟨a,b,c,d,f,P,g⟩:=x
  subst this;rfl
theorem eHZ{l0 l1}(h:∀x∈l0,x.2.2.2.2.2.1.length<=4096):∀k,(fM l0 l1 k).length<=k*4096
 |0=>ZAN _
 |k+1=>by
  have ih:=eHZ (l1:=l1) h k;have:(mB l0 l1 k).length<=4096:=by
   unfold mB;split
   ·rename_i r y hr hy;split
    ·exact ZBF _
    ·exact h r (ZAI hr)
   ·exact ZBF _
  grind[fM,ZAf,ZAk]
theorem naZ{l0 l1:List Ino}(hlen:l0.length<=l1.length/\l1.length<=500)(hP:∀x∈l0,x.2.2.2.2.2.1.length<=4096)(hn:∀(i:Nat) y,l1[i]? =some y->y.2.2.2.2.2.1=[])(t life s win)(ks:List eO)(q)(pl:List iN)(dead:List cV):
 rF bB t life s win ks q l0 pl dead l1=some (life,(t,(win,(ks,(q,(dH l1 (cM l0 l1),(pl,(dead,(l0,fM l0 l1 l0.length))))))))):=by
 unfold rF Pd Pe Pf Pg Ph Pi Pj PJ;have loop:kR bB l0 (t,(0,(life,(s,(win,(ks,(q,(l0,(pl,(dead,([],(l1,t))))))))))))=some (t,(life,(s,(win,(ks,(q,(l0,(pl,(dead,(fM l0 l1 l0.length,(dH l1 (cM l0 l1),t))))))))))):=by
  unfold kR;have e0:(t,((0:Int),(life,(s,(win,(ks,(q,(l0,(pl,(dead,(([]:List cV),(l1,t))))))))))))=(fun k:Nat=>(t,((k:Int),(life,(s,(win,(ks,(q,(l0,(pl,(dead,(fM l0 l1 k,(dH l1 (fun i=>if i<k then cM l0 l1 i else[]),t))))))))))))) 0:=by
   simp only[ZBh,ZCl,oDZ hn,fM];rfl
  refine(congrArg (iter bB _) e0).trans ?_;refine alZ (fun k:Nat=>(t,((k:Int),(life,(s,(win,(ks,(q,(l0,(pl,(dead,(fM l0 l1 k,(dH l1 (fun i=>if i<k then cM l0 l1 i else[]),t))))))))))))) l0.length (by omega) (fun k hk=> ?_) ?_
  ·obtain⟨r,hr⟩:∃r,l0[k]? =some r:=⟨_,ZAB hk⟩;obtain⟨y,hy⟩:∃y,l1[k]? =some y:=⟨_,ZAB (by omega)⟩;have hyk:(dH l1 (fun i=>if i<k then cM l0 l1 i else[]))[k]? =some (oU y []):=by
    rw[bIZ _ hy,ZAJ (ZA0 k)]
   have hg:=eHZ (l1:=l1) hP k;have hr4:=hP r (ZAI hr);have hm:cM l0 l1 k=if nZ r y=true then r.2.2.2.2.2.1 else[]:=by unfold cM;rw[hr,hy]
   have hga:mB l0 l1 k=if nZ r y=true then[] else r.2.2.2.2.2.1:=by unfold mB;rw[hr,hy]
   show jD bB l0 t (k:Int) life s win ks q l0 pl dead (fM l0 l1 k) (dH l1 (fun i=>if i<k then cM l0 l1 i else[])) t=_;unfold jD Pb Pc Pd Pe Pf Pg Ph Pi Pj Pk Pl Pr;rw[ZAK (by omega),ZAM,acZ hk,ZAA,hr,ZAA,bJZ,acZ (by omega),ZAA,hyk,ZAA];have test:∀{β} (a b:β),(bif (oU y []).2.2.1 then(some k).bind fun q2=>((dH l1 (fun i=>if i<k then cM l0 l1 i else[]))[q2]?).bind fun r2=>some (t,((r2.2.1==r.2.1),(life,(s,(win,(ks,(q,(l0,(pl,(dead,(fM l0 l1 k,(dH l1 (fun i=>if i<k then cM l0 l1 i else[]),(t,r))))))))))))) else some (t,(false,(life,(s,(win,(ks,(q,(l0,(pl,(dead,(fM l0 l1 k,(dH l1 (fun i=>if i<k then cM l0 l1 i else[]),(t,r))))))))))))))=some (t,(nZ r y,(life,(s,(win,(ks,(q,(l0,(pl,(dead,(fM l0 l1 k,(dH l1 (fun i=>if i<k then cM l0 l1 i else[]),(t,r))))))))))))):=fun _ _=>by
    unfold nZ;rw[show(oU y []).2.2.1=y.2.2.1 from rfl];cases hu:y.2.2.1
    ·rfl
    ·rw[ZAM,ZAA,hyk,ZAA];rfl
   rw[test () (),ZAA];simp only;cases hk2:nZ r y
   ·rw[hk2] at hm hga;simp only[ZAD];rw[adZ (by simp only[ZAF,ZAm,aqZ];omega),ZAA,w64 (by omega)];rw[show fM l0 l1 (k+1)=fM l0 l1 k++r.2.2.2.2.2.1 by
     show fM l0 l1 k++mB l0 l1 k=_;rw[hga];rfl]
    rw[exZ (Q:=fun i=>if i<k+1 then cM l0 l1 i else[]) (fun i x _=>by
     by_cases h:i=k
     ·subst h;rw[ZAJ (ZA0 _),ZAL (Nat.lt_succ_self _),hm];rfl
     ·by_cases h2:i<k
      ·rw[ZAL h2,ZAL (by omega)]
      ·rw[ZAJ h2,ZAJ (by omega)])]
    rfl
   ·rw[hk2] at hm hga;simp only[ZAM];rw[acZ (by rw[bJZ];omega),ZAA,hyk,ZAA,ZAA,w64 (by omega)];rw[show fM l0 l1 (k+1)=fM l0 l1 k by
     show fM l0 l1 k++mB l0 l1 k=_;rw[hga];simp]
    rw[show((oU y []).1,((oU y []).2.1,((oU y []).2.2.1,((oU y []).2.2.2.1,((oU y []).2.2.2.2.1,(r.2.2.2.2.2.1,(oU y []).2.2.2.2.2.2))))))=oU y r.2.2.2.2.2.1 from rfl,kmZ hy];rw[exZ (Q:=fun i=>if i<k+1 then cM l0 l1 i else[]) (fun i x _=>by
     by_cases h:i=k
     ·subst h;rw[ZAL rfl,ZAL (Nat.lt_succ_self _),hm];rfl
     ·rw[ZAJ h];by_cases h2:i<k
      ·rw[ZAL h2,ZAL (by omega)]
      ·rw[ZAJ h2,ZAJ (by omega)])]
    rfl
  ·show jD bB l0 t ((l0.length:Nat):Int) life s win ks q l0 pl dead (fM l0 l1 l0.length) _ t=_;unfold jD Pb Pc Pd Pe Pf Pg Ph Pi Pj Pk Pl Pr;rw[ZAE (by omega),ZAD];rw[exZ (fun i x _=>by
    by_cases h:i<l0.length
    ·rw[ZAL h]
    ·rw[ZAJ h];unfold cM;rw[ZAd (by omega)])]
 grind
theorem kPZ(x)(l):bD (x::l)=bS x.2.2.2.2.2.1++bD l:=rfl
theorem erZ(a b):bD (a++b)=bD a++bD b:=by simp_all[bD]
theorem g1Z{l}{P}{k}{x}(h:l[k]? =some x):bD ((dH l P).take (k+1))=bD ((dH l P).take k)++bS (P k):=by
 rw[bDZ (bIZ P h)];rfl
theorem ihZ{l0 l1}(hlen:l0.length<=l1.length):∀k,k<=l0.length->(bD ((dH l1 (cM l0 l1)).take k)++bS (fM l0 l1 k)).Perm (bD (l0.take k))
 |0,_=>List.Perm.refl _
 |k+1,hk=>by
  have ih:=ihZ hlen k (by omega);obtain⟨r,hr⟩:∃r,l0[k]? =some r:=⟨_,ZAB (by omega)⟩;obtain⟨y,hy⟩:∃y,l1[k]? =some y:=⟨_,ZAB (by omega)⟩;have hm:cM l0 l1 k=if nZ r y=true then r.2.2.2.2.2.1 else[]:=by unfold cM;rw[hr,hy]
  have hg:mB l0 l1 k=if nZ r y=true then[] else r.2.2.2.2.2.1:=by unfold mB;rw[hr,hy]
  rw[g1Z hy,bDZ hr,show fM l0 l1 (k+1)=fM l0 l1 k++mB l0 l1 k from rfl,a2Z,hm,hg];cases nZ r y
  ·rw[ZAJ (by decide),gOZ,ZAs,<-List.append_assoc]
   grind
  ·rw[ZAL rfl,ZAL rfl,gOZ,ZAs,ZAx]
   grind
theorem k5Z{l0 l1}(hlen:l0.length<=l1.length):(bD (dH l1 (cM l0 l1))++bS (fM l0 l1 l0.length)).Perm (bD l0):=by
 have h:=ihZ hlen l0.length (ZAN _);have e:bD (dH l1 (cM l0 l1))=bD ((dH l1 (cM l0 l1)).take l0.length):=by
  conv=>lhs;rw[<-List.take_append_drop l0.length (dH l1 (cM l0 l1)),erZ]
  rw[n5Z (l:=(dH l1 (cM l0 l1)).drop l0.length),ZAs];intro x hx
  let⟨i,hi⟩:=ZAT hx
  rw[ZAy] at hi;obtain⟨z,_,rfl⟩:=aYZ hi;show cM l0 l1 (l0.length+i)=[];unfold cM;rw[ZAd (by omega)]
 simp_all
theorem trZ{l}{k}{x}(h:l[k]? =some x):∃rest,(bD l).Perm (bS x.2.2.2.2.2.1++rest)/\∀y,(bD (l.set k y)).Perm (bS y.2.2.2.2.2.1++rest):=by
 have hk:=(ZAC.1 h).1;refine⟨bD (l.take k)++bD (l.drop (k+1)),?_,fun y=> ?_⟩
 ·have e:l=l.take k++x::l.drop (k+1):=by
   rw[<-(ZAC.1 h).2,<-List.drop_eq_getElem_cons hk,ZBD]
  grind[erZ,kPZ,ZAx,List.perm_append_comm]
 ·rw[List.set_eq_take_append_cons_drop,ZAL hk,erZ,kPZ,<-List.append_assoc]
  grind
open Go Go.Ab Go.Shelf Go.Sort Go.Proofs
theorem ooZ{α} [Inhabited α]{lt}{d d':Array α}(h:PermIn 0 d.size d d')(hs:SortedIn lt 0 d.size d'):d'.toList.Perm d.toList/\d'.toList.Pairwise (fun x y=>lt y x=false):=by
 have hsz:=h.1;have hp:=h.2.2;have e:d'.extract 0 d.size=d':=by rw[<-hsz,Array.extract_size]
 rw[Array.extract_size,e] at hp;refine⟨hp,ZBs.2 fun i j hi hj hij=> ?_⟩;rw[ZA5] at hi hj;have:=hs i j (ZBF _) hij (by omega)
 simp_all
theorem ttZ{l:List cV}(h:∀x∈l,okP x=true):∃l',yG l=some l'/\l'.Perm l/\(l'.map (·.1)).Pairwise (·<=·):=by
 have hl:DX l=some (l.attach.map fun x=>⟨x.1,h x.1 x.2⟩):=by unfold DX;rw[dif_pos h]
 generalize ht:(l.attach.map fun x=>(⟨x.1,h x.1 x.2⟩:yF))=t at hl;have hv:=mWZ l t hl;have hs:=ijZ swoP t
 let⟨s1,s2⟩:=ooZ hs.1 hs.2
 refine⟨(pM (ltOf cfP) t).map fun x=>x.1,by simp_all[yG],?_,?_⟩
 ·have:=s1.map fun x:yF=>x.1;rw[hv] at this;exact this
 ·rw[List.map_map,List.pairwise_map];refine List.Pairwise.imp (fun{a b} hab=> ?_) s2;have hab:=ZCt hab;unfold cfP at hab;simp;omega
theorem lJZ(gone:List cV)(life w win q)(ks:List eO)(l:List Ino)(pl:List iN)(dead:List cV)(hg:gone.length<=10000000)(hd:dead.length<=1000000):
 mX bB gone (0,(life,(w,(win,(ks,(q,(l,(pl,(dead,gone)))))))))=some (life,(w,(win,(ks,(q,(l,(pl,(dead++gone.filter fun p=> !dF p,gone)))))))):=by
 unfold mX;have e0:((0:Int),(life,(w,(win,(ks,(q,(l,(pl,(dead,gone)))))))))=(fun k:Nat=>((k:Int),(life,(w,(win,(ks,(q,(l,(pl,(dead++(gone.take k).filter (fun p=> !dF p),gone)))))))))) 0:=by simp
 refine(congrArg (iter bB _) e0).trans ?_;refine alZ (fun k:Nat=>((k:Int),(life,(w,(win,(ks,(q,(l,(pl,(dead++(gone.take k).filter (fun p=> !dF p),gone)))))))))) gone.length (by omega) (fun k hk=> ?_) ?_
 ·obtain⟨r,hr⟩:∃r,gone[k]? =some r:=⟨_,ZAB hk⟩;have hf:=by
   have:=ZBj (fun p=> !dF p) (gone.take k);rw[ZAQ] at this;omega
  show lU bB gone (k:Int) life w win ks q l pl (dead++(gone.take k).filter (fun p=> !dF p)) gone=_;unfold lU;rw[ZAK (by omega),acZ hk,ZAA,hr,ZAA,aUZ hr,ZCr];cases hh:dF r
  ·rw[show((r.1==0)&&(r.2==0))=false from hh];simp only[ZAo,ZAM];rw[adZ (by simp only[ZAF,ZAm,aqZ,ZAf];omega),ZAA,w64 (by omega),ZB0 (by rw[hh];rfl),List.filter_nil,ZAx]
   rfl
  ·rw[show((r.1==0)&&(r.2==0))=true from hh];simp only[ZAO,ZAD,ZAA];rw[w64 (by omega),List.filter_cons_of_neg (by rw[hh];decide),List.filter_nil,ZAs]
   rfl
 ·show lU bB gone ((gone.length:Nat):Int) life w win ks q l pl _ gone=_;unfold lU;rw[ZAE (by omega),ZAD,ZAu]
theorem kvZ{gone:List cV}{life w win q}{ks:List eO}{l:List Ino}{pl:List iN}{dead dead':List cV}(hg:gone.length<=10000000)(hd:dead.length<=1000000)(hs:yG (dead++gone.filter fun p=> !dF p)=some dead')(hl:dead'.length<=65536)(hw:w<=1099511627776):
 xN bB life w win ks q l pl dead gone=some (true,(life,(w,(win,(ks,(q,(l,(pl,(gone,dead'))))))))):=by
 unfold xN Pb Pc Pd Pe Pf Pg PG;rw[lJZ gone life w win q ks l pl dead hg hd,ZAA];unfold DG;rw[adZ (by grind[ZBg]),hs,ZAA,ZAK (by omega),ZAM,ZAK hw]
theorem nQZ(L):bS L=(L.map (·.1)).filter (fun k=>k !=0):=by
 rw[List.filter_map]
 rfl
theorem f4Z{L}{i}{o p}(h:L[i]? =some o)(e:o.1=p.1):bS (L.set i p)=bS L:=by
 simp_all[nQZ,d9Z]
theorem f7Z{L}{i}{o p}(h:L[i]? =some o)(e:o.1=0)(hp:p.1≠0):(bS (L.set i p)).Perm (bS L++[p.1]):=by
 have hi:=(ZAC.1 h).1;have e1:L=L.take i++o::L.drop (i+1):=by
  rw[<-(ZAC.1 h).2,<-List.drop_eq_getElem_cons hi,ZBD]
 rw[List.set_eq_take_append_cons_drop,ZAL hi]
 conv=>rhs;rw[e1]
 rw[show L.take i++p::L.drop (i+1)=L.take i++([p]++L.drop (i+1)) from rfl,show L.take i++o::L.drop (i+1)=L.take i++([o]++L.drop (i+1)) from rfl,a2Z,a2Z,a2Z,a2Z,dcZ hp,dtZ e,ZAx]
 grind
def nC(P:List cV)(wh:Nat->Bool)(a:Nat)(w:Int)(j:Nat):Int:=if dF (pAt P (a+j))=true then(dS P wh a j w).1+1 else(pAt P (a+j)).1
theorem ddZ(P)(wh)(a)(w):∀(n j),j<n->(dS P wh a n w).2.1[j]? =some (((a+j:Nat):Int),(pAt P (a+j),nC P wh a w j))
 |n+1,j,h=>by
  have hl:=(bjZ P wh a w n).1;unfold nC;by_cases hj:j<n
  ·have ih:=ddZ P wh a w n j hj;show(iD P wh (a+n) (dS P wh a n w)).2.1[j]? =_;unfold iD;split
   ·rw[ZAS (by omega)];exact ih
   ·rw[ZAS (by omega)];exact ih
  ·obtain rfl:j=n:=by omega
   show(iD P wh (a+j) (dS P wh a j w)).2.1[j]? =_;unfold iD;split
   ·rw[ZAU (by omega),hl,ZBr];rfl
   ·rw[ZAU (by omega),hl,ZBr];rfl
theorem mZZ(P)(wh)(a)(w)(k):(dS P wh a (k+1) w).1=if dF (pAt P (a+k))=true then(dS P wh a k w).1+1 else(dS P wh a k w).1:=by
 grind[iD,dS]
def wrF(l:List fU)(vs:List Int):Nat->Int×List cV->Int×List cV
 |0,s=>s
 |k+1,s=>((if((l[k]?).getD (0,((0,0),0))).2.2>(wrF l vs k s).1 then((l[k]?).getD (0,((0,0),0))).2.2 else(wrF l vs k s).1),(wrF l vs k s).2.set ((l[k]?).getD (0,((0,0),0))).1.toNat (((l[k]?).getD (0,((0,0),0))).2.2,(vs[k]?).getD 0))
def gO(P:List cV)(N:Nat):List cV:=P.take N++List.replicate (N-P.length) (0,0)
theorem j2Z(P)(N):(gO P N).length=N:=by grind[gO]
theorem mYZ(P){N i}(h:i<N):(gO P N)[i]? =some (pAt P i):=by
 unfold gO pAt
 grind
structure Wrt (P:List cV) (wh:Nat->Bool) (a:Nat) (w:Int) (N:Nat) (vs:List Int) (k:Nat) (s:Int×List cV):Prop where
 e:s.1=(dS P wh a k w).1
 n:s.2.length=N
 far:∀i,a+k<=i->s.2[i]? =(gO P N)[i]?
 st:∃fresh:List Int,(bS s.2).Perm (bS (gO P N)++fresh)/\fresh.Nodup/\∀x∈fresh,w<x/\x<=s.1
 ok:∀p∈s.2,p∈gO P N\/∃j,j<k/\p=(nC P wh a w j,(vs[j]?).getD 0)/\1<=p.1/\p.1<=s.1
theorem msZ{P}{wh}{a n N}{w W}{vs}(hN0:n≠0->a+n<=N)(hP:∀p∈P,eB W p)(hW:W<=w)(hw:0<=w):∀k,k<=n->Wrt P wh a w N vs k (wrF (dS P wh a n w).2.1 vs k (w,gO P N))
 |0,_=>⟨rfl,j2Z P N,fun _ _=>rfl,⟨[],by simp[wrF],List.nodup_nil,fun x hx=>by grind⟩,fun p hp=>.inl hp⟩
 |k+1,hk=>by
  have ih:=msZ (vs:=vs) (wh:=wh) hN0 hP hW hw k (by omega);have hN:=hN0 (by omega);have hf:=bjZ P wh a w k;have bF:=ddZ P wh a w n k (by omega);have hold:(wrF (dS P wh a n w).2.1 vs k (w,gO P N)).2[a+k]? =some (pAt P (a+k)):=by rw[ih.far _ (ZAN _),mYZ P (by omega)]
  let⟨fr,f1,f2,f3⟩:=ih.st
  have hw1:=ih.e;generalize hs:wrF (dS P wh a n w).2.1 vs k (w,gO P N)=s at*;have e:wrF (dS P wh a n w).2.1 vs (k+1) (w,gO P N)=((if nC P wh a w k>s.1 then nC P wh a w k else s.1),s.2.set (a+k) (nC P wh a w k,(vs[k]?).getD 0)):=by
   unfold wrF;rw[bF,hs];simp only[ZCB,ZBP]
  rw[e];have hpm:pAt P (a+k)=(0,0)\/pAt P (a+k)∈P:=by
   unfold pAt;cases hx:P[a+k]? with
   |none=>simp_all
   |some p=>grind
  have far:∀i,a+(k+1)<=i->(s.2.set (a+k) (nC P wh a w k,(vs[k]?).getD 0))[i]? =(gO P N)[i]? :=fun i hi=>by
   rw[ZAX (by omega)];exact ih.far i (by omega)
  have mem:∀p∈s.2.set (a+k) (nC P wh a w k,(vs[k]?).getD 0),p∈s.2\/p=(nC P wh a w k,(vs[k]?).getD 0):=fun p hp=>List.mem_or_eq_of_mem_set hp;cases hh:dF (pAt P (a+k))
  ·have hst:nC P wh a w k=(pAt P (a+k)).1:=by unfold nC;rw[hh];rfl
   have hin:=hpm.resolve_left fun z=>by rw[z] at hh;cases hh
   have hok:1<=(pAt P (a+k)).1/\(pAt P (a+k)).1<=W:=by
    rcases hP _ hin with z|z
    ·unfold dF at hh;rw[z.1,z.2] at hh;cases hh
    ·exact⟨z.1,z.2.1⟩
   rw[hst] at far mem⊢;have hle:¬(pAt P (a+k)).1>s.1:=by omega
   rw[ZAJ hle];refine⟨by rw[mZZ,hh,ZAJ (by decide)];exact hw1,by rw[ZAt];exact ih.n,far,⟨fr,by
    show(bS (s.2.set (a+k) ((pAt P (a+k)).1,(vs[k]?).getD 0))).Perm _;rw[f4Z (p:=((pAt P (a+k)).1,(vs[k]?).getD 0)) hold rfl];exact f1,f2,f3⟩,fun p hp=> ?_⟩
   rcases mem p hp with h|h
   ·rcases ih.ok p h with z|⟨j,j1,j2,j3⟩
    ·exact .inl z
    ·exact .inr ⟨j,by omega,j2,j3⟩
   grind
  ·have hst:nC P wh a w k=s.1+1:=by unfold nC;rw[hh,ZAL rfl,hw1]
   rw[hst] at far mem⊢;rw[ZAL (by omega)];have h0:=by unfold dF at hh;simp only[ZAF,ZBp] at hh;exact hh.1
   refine⟨by rw[mZZ,hh,ZAL rfl,hw1],by rw[ZAt];exact ih.n,far,⟨fr++[s.1+1],?_,?_,?_⟩,fun p hp=> ?_⟩
   ·rw[<-List.append_assoc];exact(f7Z hold h0 (by simp only;omega)).trans (f1.append_right _)
   ·rw[ZBX];exact⟨f2,by simp,fun x hx y hy=>by
     rw[ZCa] at hy;have:=(f3 x hx).2;omega⟩
   ·intro x hx;rcases ZAh.1 hx with h|h
    ·have:=f3 x h;exact⟨this.1,by simp only;omega⟩
    ·rw[ZCa] at h;simp only;omega
   ·rcases mem p hp with h|h
    ·rcases ih.ok p h with z|⟨j,j1,j2,j3⟩
     ·exact .inl z
     ·exact .inr ⟨j,by omega,j2,by simp only;omega⟩
    ·exact .inr ⟨k,by omega,by rw[hst];exact h,by rw[h];simp only;omega⟩
theorem opZ(P:List cV)(n):bY (List.replicate n (0,0)) 0 (List.take (List.replicate (α:=Int×Int) n (0,0)).length P)=gO P n:=by
 unfold bY gO
 grind
theorem nEZ{l1:List Ino}{i q N a n:Nat}{x}{w win life}{ks:List eO}{pl:List iN}{dead gone:List cV}{wh}{vs}(hx:l1[i]? =some x)(hl:l1.length<=500)
 (hs:0<=x.2.2.2.2.1/\x.2.2.2.2.1<=65536)(hq:16<=q/\q<=65)(hN:(x.2.2.2.2.1.toNat+q-1)/q=N)(hn0:n≠0->a+n<=N)(hP:x.2.2.2.2.2.1.length<=4096)(hv:vs.length=n)(hnn:n<=100000)(hg:gone.length<=5000000):
 uX bB ((i:Int)+1) (dS x.2.2.2.2.2.1 wh a n w).2.1 vs life w win ks (q:Int) l1 pl dead gone=
  some (life,((wrF (dS x.2.2.2.2.2.1 wh a n w).2.1 vs n (w,gO x.2.2.2.2.2.1 N)).1,(win,(ks,((q:Int),(l1.set i (oU x (wrF (dS x.2.2.2.2.2.1 wh a n w).2.1 vs n (w,gO x.2.2.2.2.2.1 N)).2),(pl,(dead,gone++x.2.2.2.2.2.1.drop (min x.2.2.2.2.2.1.length N))))))))):=by
 have hi:=(ZAC.1 hx).1;have hN4:N<=4096:=by
  rw[<-hN];exact lEZ (by omega) (by omega)
 have hlen:(dS x.2.2.2.2.2.1 wh a n w).2.1.length=n:=(bjZ _ _ _ _ _).1;unfold uX Pb Pc Pd Pe Pf Pg Ph Pi PE PI;rw[w64 (by omega),show(i:Int)+1-1=(i:Int) by omega,acZ hi,ZAA,hx];simp only[ZAA];rw[show x.2.2.2.2.1=((x.2.2.2.2.1.toNat:Nat):Int) by omega,ipZ (by omega) (by omega),hN,ZAA];rw[b0Z (by omega) (by grind[aqZ]),ZAA,ZBP,b0Z (by omega) (by omega),ZAA,ZBP,adZ (by grind[ZAm,aqZ])];rw[show(if((x.2.2.2.2.2.1.length:Nat):Int)<(N:Int) then((x.2.2.2.2.2.1.length:Nat):Int) else(N:Int))=((min x.2.2.2.2.2.1.length N:Nat):Int) by omega];rw[b0Z (by omega) (by omega),ZAA,ZBP,adZ (by simp only[ZAF,ZAm,aqZ,ZAv];omega),opZ];have loop:∀g:List cV,mW bB (dS x.2.2.2.2.2.1 wh a n w).2.1 vs (i,(0,(life,(w,(win,(ks,((q:Int),(l1,(pl,(dead,(g,gO x.2.2.2.2.2.1 N)))))))))))=
  some (i,(life,((wrF (dS x.2.2.2.2.2.1 wh a n w).2.1 vs n (w,gO x.2.2.2.2.2.1 N)).1,(win,(ks,((q:Int),(l1,(pl,(dead,(g,(wrF (dS x.2.2.2.2.2.1 wh a n w).2.1 vs n (w,gO x.2.2.2.2.2.1 N)).2)))))))))):=fun g=>by
  unfold mW;refine alZ (fun k:Nat=>(i,((k:Int),(life,((wrF (dS x.2.2.2.2.2.1 wh a n w).2.1 vs k (w,gO x.2.2.2.2.2.1 N)).1,(win,(ks,((q:Int),(l1,(pl,(dead,(g,(wrF (dS x.2.2.2.2.2.1 wh a n w).2.1 vs k (w,gO x.2.2.2.2.2.1 N)).2)))))))))))) n (by omega) (fun k hk=> ?_) ?_
  ·have hn:=hn0 (by omega);have bF:=ddZ x.2.2.2.2.2.1 wh a w n k hk;have hLn:∀k,(wrF (dS x.2.2.2.2.2.1 wh a n w).2.1 vs k (w,gO x.2.2.2.2.2.1 N)).2.length=N:=fun k=>by
    induction k<;>grind[j2Z,wrF,ZAt]
   have hLk:=hLn k;show lT bB (dS x.2.2.2.2.2.1 wh a n w).2.1 vs i (k:Int) life _ win ks (q:Int) l1 pl dead g _=_;unfold lT;rw[hlen,ZAK (by omega),ZAM,acZ hk,ZAA,bF,ZAA,hv,acZ hk,ZAA,ZAB (by omega),ZAA,hLk];simp only;rw[acZ (by omega),ZAA,ZAB (by omega),ZAA,w64 (by omega)];show _=some (Sum.inl (i,(((k+1:Nat):Int),(life,((wrF (dS x.2.2.2.2.2.1 wh a n w).2.1 vs (k+1) (w,gO x.2.2.2.2.2.1 N)).1,(win,(ks,((q:Int),(l1,(pl,(dead,(g,(wrF (dS x.2.2.2.2.2.1 wh a n w).2.1 vs (k+1) (w,gO x.2.2.2.2.2.1 N)).2))))))))))));rw[show wrF (dS x.2.2.2.2.2.1 wh a n w).2.1 vs (k+1) (w,gO x.2.2.2.2.2.1 N)=((if nC x.2.2.2.2.2.1 wh a w k>(wrF (dS x.2.2.2.2.2.1 wh a n w).2.1 vs k (w,gO x.2.2.2.2.2.1 N)).1 then nC x.2.2.2.2.2.1 wh a w k else(wrF (dS x.2.2.2.2.2.1 wh a n w).2.1 vs k (w,gO x.2.2.2.2.2.1 N)).1),(wrF (dS x.2.2.2.2.2.1 wh a n w).2.1 vs k (w,gO x.2.2.2.2.2.1 N)).2.set (a+k) (nC x.2.2.2.2.2.1 wh a w k,vs[k]'(by omega))) by
    grind[wrF,bF,ZAB,ZCB,ZBP]]
   rfl
  ·show lT bB (dS x.2.2.2.2.2.1 wh a n w).2.1 vs i (n:Int) life _ win ks (q:Int) l1 pl dead g _=_
   simp_all[lT,ZAE,ZAD]
 rw[loop,ZAA];simp only;rw[hx,ZAA]
 rfl
def jK{β:Type}(r:bX)(e:β):Int×(Int×(Int×(Int×(Int×(Bool×(Int×(List UInt8×(List DK×(Bool×(Int×β)))))))))):=(r.1,(r.2.1,(r.2.2.1,(r.2.2.2.1.1,(r.2.2.2.1.2,(r.2.2.2.2.1,(r.2.2.2.2.2.1,(r.2.2.2.2.2.2.1,(r.2.2.2.2.2.2.2.1,(r.2.2.2.2.2.2.2.2.1,(r.2.2.2.2.2.2.2.2.2,e)))))))))))
def VC(s:cS)(r:bX):cS:=(s.1,(s.2.1,((s.2.2.1.1,iC s.2.2.1.1 s.2.2.1.2 r),s.2.2.2)))
def OE(s:cS)(r:bX)(l:List Ino)(w:Int)(dead:List cV):cS:=(s.1,((l,w),((s.2.2.1.1,iC s.2.2.1.1 s.2.2.1.2 r),(s.2.2.2.1,dead))))
section
variable {s : cS} {q : Nat} {c : bT} {vs : List Int}
structure Ask (s:cS) (q:Nat) (c:bT) (vs:List Int):Prop where
 ok:wA s q
 two:(dZ s q c).1.1=2
 xs:wY c.2.1 s.2.2.1.2
 fit:KF bB (dZ s q c).1 vs 0=some true
def dO(s:cS)(c:bT):bX:=kG c (bN (bG s.2.1) c)
theorem Ask.right(h:Ask s q c vs):cF (dO s c)=true:=rrZ h.ok.t (cAZ h.two).2.1 (cAZ h.two).2.2
theorem Ask.put(h:Ask s q c vs):put s.2.2.1 (dO s c)=((s.2.2.1.1,iC s.2.2.1.1 s.2.2.1.2 (dO s c)),0)/\gG (s.2.2.1.1,iC s.2.2.1.1 s.2.2.1.2 (dO s c))=true/\wY c.2.1 (iC s.2.2.1.1 s.2.2.1.2 (dO s c))/\look (s.2.2.1.1,iC s.2.2.1.1 s.2.2.1.2 (dO s c)) c.1 c.2.1=(dO s c,1):=
 vGZ h.ok.c h.xs h.right (vsZ (cAZ h.two).2.1) (p0Z h.two)
theorem peZ(h:Ask s q c vs)(h0:(bN (bG s.2.1) c).2.1≠0):nV bB s (q:Int) c vs 0=some (VC s (dO s c),jK (dO s c) (0:Int)):=by
 unfold nV Pa Pb Pc Pd Pe Pf Pg Ph Pi Pj Pk Pl Pm Pn Po Pp Pq Pr Ps Pt Pu Pv Pw Px Py Pz Pza Pzb Pzc Pzd Pze Pzf PD PH PL PM PT PY PZC PZF;rw[eiZ h.ok,ZAA,(cAZ h.two).1,h.fit];simp only[ZAb,ZAO,ZAD,ZAA];rw[fFZ h.ok.t,ZAA,qBZ (aZZ h.ok.t)];simp[ZAP];rw[h.ok.own];have hd:(((doT (bN (bG s.2.1) c) c).2.1,((doT (bN (bG s.2.1) c) c).2.2.1,((doT (bN (bG s.2.1) c) c).2.2.2.1,(((doT (bN (bG s.2.1) c) c).2.2.2.2.1,(doT (bN (bG s.2.1) c) c).2.2.2.2.2.1),((doT (bN (bG s.2.1) c) c).2.2.2.2.2.2.1,((doT (bN (bG s.2.1) c) c).2.2.2.2.2.2.2.1,((doT (bN (bG s.2.1) c) c).2.2.2.2.2.2.2.2.1,((doT (bN (bG s.2.1) c) c).2.2.2.2.2.2.2.2.2.1,((doT (bN (bG s.2.1) c) c).2.2.2.2.2.2.2.2.2.2.1,(doT (bN (bG s.2.1) c) c).2.2.2.2.2.2.2.2.2.2.2.1))))))))):bX)=dO s c:=rfl;rw[hd,qHZ s.2.2.1 (dO s c) (b6Z h.ok.c) (bmZ h.right),h.put.1,show(doT (bN (bG s.2.1) c) c).2.2.2.1=(bN (bG s.2.1) c).2.1 from rfl,(ZAa.2 h0)]
 rfl
theorem lpZ(h:Ask s q c vs)(h0:(bN (bG s.2.1) c).2.1=0)(hop:¬(c.2.2.1=uO 5\/c.2.2.1=uO 6)){dead':List cV}
 (hs:yG (s.2.2.2.2++(fM s.2.1.1 (bN (bG s.2.1) c).1.1.1 s.2.1.1.length).filter fun p=> !dF p)=some dead')(hl:dead'.length<=65536):
 nV bB s (q:Int) c vs 0=some (OE s (dO s c) (dH (bN (bG s.2.1) c).1.1.1 (cM s.2.1.1 (bN (bG s.2.1) c).1.1.1)) (bN (bG s.2.1) c).1.1.2 dead',jK (dO s c) (0:Int)):=by
 have hm:=k0Z (aZZ h.ok.t) c
 let⟨st,sw⟩:=jnZ (m:=bG s.2.1) c fun _=>hop
 have hlen:s.2.1.1.length<=(bN (bG s.2.1) c).1.1.1.length/\(bN (bG s.2.1) c).1.1.1.length<=500:=⟨by have:=st.len;simp_all[bG],hm.t.r.len.2⟩;have hP:∀x∈s.2.1.1,x.2.2.2.2.2.1.length<=4096:=fun x hx=>by
  let⟨i,hi⟩:=ZAT hx
  have o:=h.ok.t.r.ino i x hi;cases hu:x.2.2.1
  ·rw[(o.bare hu).2.2.2.1];simp
  ·cases hd:x.2.2.2.1
   ·exact(o.file hu hd).2.2.1
   ·rw[(o.dir hu hd).2.1];simp
 have hn:=fun i y hy=>hm.p i y hy;have hgl:=eHZ (l1:=(bN (bG s.2.1) c).1.1.1) hP s.2.1.1.length;have hTl:=h.ok.t.r.len;have hws:=h.ok.t.r.str;unfold nV Pa Pb Pc Pd Pe Pf Pg Ph Pi Pj Pk Pl Pm Pn Po Pp Pq Pr Ps Pt Pu Pv Pw Px Py Pz Pza Pzb Pzc Pzd Pze Pzf PD PH PL PM PT PY PZC PZF;rw[eiZ h.ok,ZAA,(cAZ h.two).1,h.fit];simp only[ZAb,ZAO,ZAD,ZAA];rw[fFZ h.ok.t,ZAA,qBZ (aZZ h.ok.t)];simp only[ZAA,ZAP];rw[h.ok.own,ZAA];have hd:(((doT (bN (bG s.2.1) c) c).2.1,((doT (bN (bG s.2.1) c) c).2.2.1,((doT (bN (bG s.2.1) c) c).2.2.2.1,(((doT (bN (bG s.2.1) c) c).2.2.2.2.1,(doT (bN (bG s.2.1) c) c).2.2.2.2.2.1),((doT (bN (bG s.2.1) c) c).2.2.2.2.2.2.1,((doT (bN (bG s.2.1) c) c).2.2.2.2.2.2.2.1,((doT (bN (bG s.2.1) c) c).2.2.2.2.2.2.2.2.1,((doT (bN (bG s.2.1) c) c).2.2.2.2.2.2.2.2.2.1,((doT (bN (bG s.2.1) c) c).2.2.2.2.2.2.2.2.2.2.1,(doT (bN (bG s.2.1) c) c).2.2.2.2.2.2.2.2.2.2.2.1))))))))):bX)=dO s c:=rfl;rw[hd,qHZ s.2.2.1 (dO s c) (b6Z h.ok.c) (bmZ h.right),ZAA,h.put.1,show(doT (bN (bG s.2.1) c) c).2.2.2.1=(bN (bG s.2.1) c).2.1 from rfl,h0];simp only[putO,ZAb,ZAO,ZAD];rw[show(doT (bN (bG s.2.1) c) c).1=(bN (bG s.2.1) c).1.1.2 from rfl,show(doT (bN (bG s.2.1) c) c).2.2.2.2.2.2.2.2.2.2.2.2.1=(bN (bG s.2.1) c).1.1.1 from rfl,naZ hlen hP hn,ZAA,op5,op6,ZAE (fun e=>hop (.inl e)),ZAE (fun e=>hop (.inr e))];simp only[ZAD,ZAA];rw[kvZ (by omega) (by have:=h.ok.dn;omega) hs hl (by rw[sw];exact hws.2),ZAA];simp only[ZAO,ZAD,ZAP,ZAA,ZBo];have e0:(dO s c).2.2.1=0:=h0;unfold jK;rw[e0]
 rfl
end
def atC(c:bT):Nat:=(c.2.2.2.1.1-1).toNat
def jL(x:Ino)(q:Nat)(c:bT):Nat:=((dQ x c).toNat+q-1)/q
structure Wri (s:cS) (q:Nat) (c:bT) (x:Ino):Prop where
 hop:c.2.2.1=uO 5\/c.2.2.1=uO 6
 h0:(bN (bG s.2.1) c).2.1=0
 f:jJ s c x
 b5:c.2.2.1=uO 5->c.2.2.2.2.2.2.2.1+((c.2.2.2.2.2.2.2.2.2.length:Nat):Int)<=65536
 r:bK c=true
theorem nmZ{s}{q}{c}(hr:bK c=true)(hop:c.2.2.1=uO 5\/c.2.2.1=uO 6)(h0:(bN (bG s.2.1) c).2.1=0):∃x,Wri s q c x:=by
 rcases hop with h5|h6
 ·let⟨⟨x,hx⟩,hl⟩:=uxZ hr h5 h0
  exact⟨x,.inl h5,h0,hx,fun _=>hl,hr⟩
 ·let⟨⟨x,hx⟩,hl⟩:=vhZ hr h6 h0
  exact⟨x,.inr h6,h0,hx,fun h5=>by rw[h6] at h5;exact absurd h5 (by decide),hr⟩
theorem lLZ{x}{q}{c}(hq:16<=q)(hb:c.2.2.2.2.2.2.2.2.2.length<=4096):eQ x q c<=258:=by
 unfold eQ;generalize c.2.2.2.2.2.2.2.1.toNat=o;generalize c.2.2.2.2.2.2.2.2.2.length=n at*;split
 ·split
  ·omega
  ·have h1:(o+n+q-1)/q<=o/q+258:=by
    refine lEZ (by omega) ?_;have h2:=ZB5 o q;have h3:=ZCV o (show 0<q by omega);have h4:258*16<=258*q:=ZB9 _ hq;have h5:1*q<=1*q:=ZAN _;rw[ZAk,ZCF (o/q) q];generalize q*(o/q)=z at*;have h6:257*16<=257*q:=ZB9 _ hq;omega
   omega
 grind
theorem Wri.span{s}{q}{c}{x}(h:Wri s q c x)(hq:16<=q):eQ x q c≠0->cY q c+eQ x q c<=jL x q c:=by
 let⟨ho,hn,hb⟩:=ayZ h.r
 unfold eQ cY jL dQ;by_cases e5:c.2.2.1=uO 5
 ·simp only[ZAL e5];by_cases hl:c.2.2.2.2.2.2.2.2.2.length=0
  ·simp_all
  ·rw[ZAJ hl,ZAJ hl];intro _;have h1:=n8Z (q:=q) (a:=c.2.2.2.2.2.2.2.1.toNat) (b:=c.2.2.2.2.2.2.2.1.toNat+c.2.2.2.2.2.2.2.2.2.length) (by omega) (by omega);have h2:=jkZ (q:=q) (a:=c.2.2.2.2.2.2.2.1.toNat+c.2.2.2.2.2.2.2.2.2.length) (b:=(max x.2.2.2.2.1 (c.2.2.2.2.2.2.2.1+((c.2.2.2.2.2.2.2.2.2.length:Nat):Int))).toNat) (by omega);omega
 ·simp only[ZAJ e5];split
  ·rename_i hc;intro _;have h1:=ZB5 c.2.2.2.2.2.2.2.2.1.toNat q;have:=(hqZ (k:=c.2.2.2.2.2.2.2.2.1.toNat/q) (to:=c.2.2.2.2.2.2.2.2.1.toNat) (q:=q) (by omega)).2 (by
    rw[ZCF];have:=hc.2.1;omega)
   omega
  ·exact fun z=>absurd rfl z
theorem gXZ{s}{q}{c}{x}(h2:(dZ s q c).1.1=2)(h:Wri s q c x):dZ s q c=((2,(zR,((lD x s.2.1.2 q c).2.2,(lD x s.2.1.2 q c).2.1))),0):=by
 let⟨_,hr,ha⟩:=cAZ h2
 unfold dZ at h2⊢;rw[ZAL hr,ha,ZAJ (by decide)] at h2⊢;split at h2
 ·cases h2
 ·rename_i h1;rw[ZAJ h1];split at h2
  ·cases h2
  ·rename_i h3;rw[ZAJ h3,ZAL ⟨h.h0,h.hop⟩,h.f.p]
theorem qLZ{s}{q}{c}(h2:(dZ s q c).1.1=2)(h:¬((bN (bG s.2.1) c).2.1=0/\(c.2.2.1=uO 5\/c.2.2.1=uO 6))):dZ s q c=((2,(zR,([],[]))),0):=by
 let⟨_,hr,ha⟩:=cAZ h2
 unfold dZ at h2⊢;rw[ZAL hr,ha,ZAJ (by decide)] at h2⊢;split at h2
 ·cases h2
 ·rename_i h1;rw[ZAJ h1];split at h2
  ·cases h2
  ·rename_i h3;rw[ZAJ h3,ZAJ h]
def wrL(s:cS)(q:Nat)(c:bT)(vs:List Int)(x:Ino):Int×List cV:=wrF (lD x s.2.1.2 q c).2.1 vs (eQ x q c) (s.2.1.2,gO x.2.2.2.2.2.1 (jL x q c))
def l1W(s:cS)(c:bT)(x:Ino):List Ino:=(bG s.2.1).1.1.set (atC c) (wS (dG x) (dQ x c))
def lW(s:cS)(q:Nat)(c:bT)(vs:List Int)(x:Ino):List Ino:=(dH (l1W s c x) (cM s.2.1.1 (l1W s c x))).set (atC c) (oU (wS x (dQ x c)) (wrL s q c vs x).2)
def wM(s:cS)(q:Nat)(c:bT)(x:Ino):List cV:=fM s.2.1.1 (l1W s c x) s.2.1.1.length++x.2.2.2.2.2.1.drop (min x.2.2.2.2.2.1.length (jL x q c))
theorem fHZ(t):(bG t).1.1.length=t.1.length:=by simp[bG]
theorem eeZ{s}{q}{c}{x}(h:Wri s q c x):(l1W s c x)[atC c]? =some (wS (dG x) (dQ x c)):=by
 exact ZAR (by rw[fHZ];exact(ZAC.1 h.f.at_).1)
theorem vSZ{s}{q}{c}{x}(h:Wri s q c x):(dH (l1W s c x) (cM s.2.1.1 (l1W s c x)))[atC c]? =some (wS x (dQ x c)):=by
 have hx:s.2.1.1[atC c]? =some x:=h.f.at_;rw[bIZ _ (eeZ h)];have:cM s.2.1.1 (l1W s c x) (atC c)=x.2.2.2.2.2.1:=by
  unfold cM;rw[hx,eeZ h];simp only;unfold nZ;rw[show(wS (dG x) (dQ x c)).2.2.1=x.2.2.1 from rfl,show(wS (dG x) (dQ x c)).2.1=x.2.1 from rfl,h.f.used,ZAb];rfl
 rw[this];rfl
theorem hDZ{l}{w}(h:bL (l,w)):∀x∈l,x.2.2.2.2.2.1.length<=4096/\∀p∈x.2.2.2.2.2.1,eB w p:=fun x hx=>by
 let⟨i,hi⟩:=ZAT hx
 have o:=h.r.ino i x hi;cases hu:x.2.2.1
 ·rw[(o.bare hu).2.2.2.1];simp
 ·cases hd:x.2.2.2.1
  ·exact(o.file hu hd).2.2
  ·rw[(o.dir hu hd).2.1];simp
section
variable {s : cS} {q : Nat} {c : bT} {vs : List Int} {x : Ino}
theorem lyZ(h:Ask s q c vs)(hw:Wri s q c x)(hv:vs.length=eQ x q c){dead':List cV}
 (hs:yG (s.2.2.2.2++(wM s q c x).filter fun p=> !dF p)=some dead')(hl:dead'.length<=65536)(hb:(wrL s q c vs x).1<=1099511627776):
 nV bB s (q:Int) c vs 0=some (OE s (dO s c) (lW s q c vs x) (wrL s q c vs x).1 dead',jK (dO s c) (0:Int)):=by
 have hm:=k0Z (aZZ h.ok.t) c;obtain⟨r1,r2,r3⟩:=eAZ h.ok.t hw.r hw.hop hw.h0 hw.f;have e1:(bN (bG s.2.1) c).1.1.1=l1W s c x:=by rw[r1];rfl
 have e2:(bN (bG s.2.1) c).1.1.2=s.2.1.2:=by rw[r1]
 have hlen:s.2.1.1.length<=(l1W s c x).length/\(l1W s c x).length<=500:=⟨by simp_all[l1W,ZAt,fHZ,ZAN],by rw[<-e1];exact hm.t.r.len.2⟩;have hP:=fun x hx=>(hDZ h.ok.t x hx).1;have hn:∀(i:Nat) y,(l1W s c x)[i]? =some y->y.2.2.2.2.2.1=[]:=fun i y hy=>hm.p i y (by simp_all);have hgl:=eHZ (l1:=l1W s c x) hP s.2.1.1.length;have hTl:=h.ok.t.r.len;have hq:=h.ok.q;have hxP:=hP x (ZAI hw.f.at_);have hlm:(dH (l1W s c x) (cM s.2.1.1 (l1W s c x))).length<=500:=by rw[bJZ];exact hlen.2
 have hmn:=lLZ (x:=x) hq.1 (ayZ hw.r).2.2;have hpl:=gXZ h.two hw;have hid:c.2.2.2.1.1=((atC c:Nat):Int)+1:=by have:=hw.f.h1;unfold atC;omega
 unfold nV Pa Pb Pc Pd Pe Pf Pg Ph Pi Pj Pk Pl Pm Pn Po Pp Pq Pr Ps Pt Pu Pv Pw Px Py Pz Pza Pzb Pzc Pzd Pze Pzf PD PH PL PM PT PY PZC PZF;rw[eiZ h.ok,ZAA,(cAZ h.two).1,h.fit,h.ok.own];simp only[ZAb,ZAO,ZAD,ZAA];rw[fFZ h.ok.t,ZAA,show(((bG s.2.1).1.1,(bG s.2.1).1.2),(bG s.2.1).2)=bG s.2.1 from rfl,qBZ (aZZ h.ok.t),ZAA];simp only[ZAA,ZAP];rw[h.ok.own,ZAA];have hd:(((doT (bN (bG s.2.1) c) c).2.1,((doT (bN (bG s.2.1) c) c).2.2.1,((doT (bN (bG s.2.1) c) c).2.2.2.1,(((doT (bN (bG s.2.1) c) c).2.2.2.2.1,(doT (bN (bG s.2.1) c) c).2.2.2.2.2.1),((doT (bN (bG s.2.1) c) c).2.2.2.2.2.2.1,((doT (bN (bG s.2.1) c) c).2.2.2.2.2.2.2.1,((doT (bN (bG s.2.1) c) c).2.2.2.2.2.2.2.2.1,((doT (bN (bG s.2.1) c) c).2.2.2.2.2.2.2.2.2.1,((doT (bN (bG s.2.1) c) c).2.2.2.2.2.2.2.2.2.2.1,(doT (bN (bG s.2.1) c) c).2.2.2.2.2.2.2.2.2.2.2.1))))))))):bX)=dO s c:=rfl;rw[hd,qHZ s.2.2.1 (dO s c) (b6Z h.ok.c) (bmZ h.right),ZAA,h.put.1,show(doT (bN (bG s.2.1) c) c).2.2.2.1=(bN (bG s.2.1) c).2.1 from rfl,hw.h0];simp only[putO,ZAb,ZAO,ZAD];rw[show(doT (bN (bG s.2.1) c) c).1=(bN (bG s.2.1) c).1.1.2 from rfl,show(doT (bN (bG s.2.1) c) c).2.2.2.2.2.2.2.2.2.2.2.2.1=(bN (bG s.2.1) c).1.1.1 from rfl,e1,e2,naZ hlen hP hn,ZAA,op5,op6];have step:∀{α} (S:α),(bif decide (c.2.2.1=uO 5) then some (true,S) else some (decide (c.2.2.1=uO 6),S))=some (true,S):=fun S=>by
  rcases hw.hop with e|e<;>rw[e]<;>rfl
 rw[step,ZAA];simp only[ZAM,ZAP,ZAA];rw[hpl];simp only;have hwr:=nEZ (x:=wS x (dQ x c)) (N:=jL x q c) (a:=cY q c) (n:=eQ x q c) (w:=s.2.1.2) (win:=s.2.2.1.1) (life:=s.1) (ks:=iC s.2.2.1.1 s.2.2.1.2 (dO s c)) (pl:=s.2.2.2.1) (dead:=s.2.2.2.2) (gone:=fM s.2.1.1 (l1W s c x) s.2.1.1.length) (wh:=eZ q c) (vs:=vs) (q:=q) (vSZ hw) hlm r3 hq rfl (hw.span hq.1) hxP hv (by omega) (ZBC hgl (ZBC (ZAe _ hTl.2) (by decide)));rw[hid];rw[show uX bB (((atC c:Nat):Int)+1) (lD x s.2.1.2 q c).2.1 _ _ _ _ _ _ _ _ _ _=_ from hwr,ZAA];have hdr:(x.2.2.2.2.2.1.drop (min x.2.2.2.2.2.1.length (jL x q c))).length<=4096:=by rw[ZAv];omega
 have hd6:=h.ok.dn;refine(congrArg (fun o=>Option.bind o _) (kvZ (gone:=wM s q c x) (w:=(wrL s q c vs x).1) (by grind[wM,ZAf,ZAe]) (by omega) hs hl hb)).trans ?_;rw[ZAA];simp only[ZAO,ZAD,ZAP,ZAA,ZBo];have e0:(dO s c).2.2.1=0:=hw.h0;unfold jK;rw[e0]
 rfl
end
theorem ggZ{w}{l}(h:∀p∈l,eB w p):(l.filter fun p=> !dF p).map (·.1)=bS l:=by
 congr 1;refine List.filter_congr fun p hp=> ?_;rcases h p hp with z|z
 ·simp_all[dF]
 ·have:p.1≠0:=by omega
  show(!((p.1==0)&&(p.2==0)))= !(p.1==0)
  simp_all
theorem rgZ:∀{l:List Int} {a b},l.Pairwise (·<·)->(∀x∈l,a<x/\x<=b)->l.length<=(b-a).toNat
 |[],_,_,_,_=>ZBF _
 |x::r,a,b,h,hb=>by
  let⟨h1,h2⟩:=ZA4.1 h
  have:=rgZ h2 fun y hy=>⟨h1 y hy,(hb y (ZAc _ hy)).2⟩
  grind[ZAr,ZCA]
theorem hCZ{t}(h:bL t){k}(hk:k∈bD t.1):1<=k/\k<=t.2:=by
 let⟨i,x,hx,hk⟩:=sOZ.1 hk
 obtain⟨h0,p,hp,rfl⟩:=egZ.1 hk;rcases(hDZ h x (ZAI hx)).2 p hp with z|z
 ·exact absurd z.1 h0
 omega
section
variable {s : cS} {q : Nat} {c : bT} {vs : List Int}
theorem qjZ(h:Ask s q c vs){l2}{w2}{gone}(ht:bL (l2,w2))
 (hl:∀(i:Nat) x,l2[i]? =some x->x.2.2.1=true->x.2.2.2.1=false->x.2.2.2.2.2.1.length=(x.2.2.2.2.1.toNat+q-1)/q)(hw:s.2.1.2<=w2)(hw2:w2<=65536)
 {fresh}(hp:(bD l2++bS gone).Perm (bD s.2.1.1++fresh))(fn:fresh.Nodup)(ff:∀x∈fresh,s.2.1.2<x/\x<=w2)(hg:∀p∈gone,eB s.2.1.2 p):
 ∃dead',yG (s.2.2.2.2++gone.filter fun p=> !dF p)=some dead'/\dead'.Perm (s.2.2.2.2++gone.filter fun p=> !dF p)/\dead'.length<=65536/\wA (OE s (dO s c) l2 w2 dead') q:=by
 have hok:=h.ok;have in_:∀p∈gone.filter (fun p=> !dF p),1<=p.1/\p.1<=s.2.1.2/\(1<=p.2/\p.2<=1099511627776)/\p.1∈bS gone:=fun p hp=>by
  obtain⟨h1,h2⟩:=ZCs.1 hp;rcases hg p h1 with z|z
  ·unfold dF at h2;rw[z.1,z.2] at h2;cases h2
  ·exact⟨z.1,z.2.1,⟨z.2.2.1,z.2.2.2⟩,egZ.2 ⟨by omega,p,h1,rfl⟩⟩
 have hst:=hok.t.r.str;obtain⟨dead',e1,e2,e3⟩:=ttZ (l:=s.2.2.2.2++gone.filter fun p=> !dF p) fun p hp=>by
  refine ZAK ?_;rcases ZAh.1 hp with z|z
  ·have:=(hok.d p z).1;omega
  ·have:=in_ p z;omega
 have keys:(dead'.map (·.1)).Perm (s.2.2.2.2.map (·.1)++bS gone):=by
  have:=e2.map (·.1);rwa [ZCR,ggZ hg] at this
 have nod:(bD s.2.1.1++fresh).Nodup:=ZBX.2 ⟨hok.t.r.nod,fn,fun a ha b hb=>by
  have:=hCZ hok.t ha;have:=ff b hb;omega⟩
 have nod2:=ZBX.1 (hp.nodup_iff.2 nod);have dis:∀p∈s.2.2.2.2,p.1∉bD l2++bS gone:=fun p hp' hm=>by
  have d:=hok.d p hp';rcases ZAh.1 (hp.mem_iff.1 hm) with z|z
  ·exact d.2.2 z
  ·have:=ff _ z;omega
 have asc:(dead'.map (·.1)).Pairwise (·<·):=by
  have nd:(dead'.map (·.1)).Nodup:=keys.nodup_iff.2 (ZBX.2 ⟨hok.ds.imp fun hab=>by omega,nod2.2.1,fun a ha b hb e=>by
   obtain⟨p,hp',rfl⟩:=ZBf.1 ha;exact dis p hp' (ZAh.2 (.inr (e▸hb)))⟩)
  exact List.Pairwise.imp₂ (fun a b h1 h2=>by omega) e3 nd
 have dd:∀p∈dead',(1<=p.1/\p.1<=w2)/\(1<=p.2/\p.2<=1099511627776)/\p.1∉bD l2:=fun p hp'=>by
  rcases ZAh.1 (e2.mem_iff.1 hp') with z|z
  ·have d:=hok.d p z;exact⟨⟨d.1.1,by omega⟩,d.2.1,fun hm=>dis p z (ZAh.2 (.inl hm))⟩
  ·have d:=in_ p z;exact⟨⟨d.1,by omega⟩,d.2.2.1,fun hm=>nod2.2.2 _ hm _ d.2.2.2 rfl⟩
 have len:dead'.length<=65536:=by
  have:=rgZ (a:=0) (b:=w2) asc fun x hx=>by
   obtain⟨p,hp',rfl⟩:=ZBf.1 hx;have:=(dd p hp').1;omega
  rw[ZAp] at this;omega
 exact⟨dead',e1,e2,len,⟨hok.life,ht,h.put.2.1,hok.pl,hl,hok.q,asc,dd,len⟩⟩
end
def OF(l0 l1:List Ino):Prop:=∀(i:Nat) y,l1[i]? =some y->y.2.2.1=true->(∃x,l0[i]? =some x/\x.2.2.1=true/\x.2.1=y.2.1/\x.2.2.2.1=y.2.2.2.1)\/(y.2.2.2.2.1=0/\∀x,l0[i]? =some x->x.2.1≠y.2.1)
theorem dTZ{l0 l1}{i}{x y}(hx:l0[i]? =some x)(hy:l1[i]? =some y)(hu:y.2.2.1=true)(hg:x.2.1=y.2.1):cM l0 l1 i=x.2.2.2.2.2.1:=by
 simp_all[cM,ZAL,nZ,ZAb]
theorem cKZ{l0 l1}{i}{y}(hy:l1[i]? =some y)(hn:y.2.2.1=true->∀x,l0[i]? =some x->x.2.1≠y.2.1):cM l0 l1 i=[]:=by
 unfold cM;rw[hy];cases hx:l0[i]? with
 |none=>rfl
 |some x=>
  simp only;unfold nZ
  grind
theorem merge_ok{t}{l1}(h:bL t)(st:OF t.1 l1){i}{y}(hy:l1[i]? =some y):
 if y.2.2.1=true/\y.2.2.2.1=false then(cM t.1 l1 i).length<=4096/\∀p∈cM t.1 l1 i,eB t.2 p else cM t.1 l1 i=[]:=by
 by_cases hu:y.2.2.1=true
 ·rcases st i y hy hu with⟨x,hx,xu,xg,xd⟩|⟨_,hno⟩
  ·rw[dTZ hx hy hu xg];have o:=h.r.ino i x hx;split
   ·rename_i hc;exact(o.file xu (xd.trans hc.2)).2.2
   ·rename_i hc;exact(o.dir xu (xd.trans (by cases e:y.2.2.2.1<;>simp_all))).2.1
  ·rw[cKZ hy fun _=>hno];split<;>simp
 simp_all[cKZ]
theorem jpZ{l0 l1}{w}(h:∀x∈l0,∀p∈x.2.2.2.2.2.1,eB w p):∀k,∀p∈fM l0 l1 k,eB w p
 |0,p,hp=>by cases hp
 |k+1,p,hp=>by
  rcases ZAh.1 ((hp)) with z|z
  ·exact jpZ h k p z
  grind[mB,ZAI]
theorem qmZ{l0 l1}(st:fS (l0.map dG) l1):OF l0 l1/\∀(i:Nat) y,l1[i]? =some y->y.2.2.1=true->(∃x,l0[i]? =some x/\x.2.2.1=true/\x.2.1=y.2.1/\x.2.2.2.1=y.2.2.2.1/\x.2.2.2.2.1=y.2.2.2.2.1)\/(y.2.2.2.2.1=0/\∀x,l0[i]? =some x->x.2.1≠y.2.1):=by
 have h2:∀(i:Nat) y,l1[i]? =some y->y.2.2.1=true->(∃x,l0[i]? =some x/\x.2.2.1=true/\x.2.1=y.2.1/\x.2.2.2.1=y.2.2.2.1/\x.2.2.2.2.1=y.2.2.2.2.1)\/(y.2.2.2.2.1=0/\∀x,l0[i]? =some x->x.2.1≠y.2.1):=fun i y hy hu=>by
  rcases st.at_ i y hy hu with⟨x,hx,a⟩|⟨z,hno⟩
  ·rw[ZAV] at hx;obtain⟨r,hr,rfl⟩:=ZAH.1 hx;exact .inl ⟨r,hr,a⟩
  ·exact .inr ⟨z,fun x hx=>hno (dG x) (by rw[ZAV,hx];rfl)⟩
 exact⟨fun i y hy hu=>(h2 i y hy hu).imp (fun⟨x,a,b,c,d,_⟩=>⟨x,a,b,c,d⟩) id,h2⟩
theorem gwZ{w v}(h:w<=v){p}(hp:eB w p):eB v p:=by
 rcases hp with z|z
 ·exact .inl z
 ·exact .inr ⟨z.1,by omega,z.2.2⟩
theorem kZZ(n):bS (List.replicate n (0,0))=[]:=by
 simp_all[bS,List.mem_replicate]
theorem llZ(P)(N):bS (gO P N)=bS (P.take N):=by
 simp_all[gO,a2Z,kZZ]
theorem uwZ{P}{w}(h:∀p∈P,eB w p)(N):∀p∈gO P N,eB w p:=fun p hp=>by
 rcases ZAh.1 hp with z|z
 ·grind
 ·rw[(List.mem_replicate.1 z).2];exact .inl ⟨rfl,rfl⟩
def wN(s:cS)(q:Nat)(c:bT)(vs:List Int):List Ino:=
 if(bN (bG s.2.1) c).2.1=0 then
  if c.2.2.1=uO 5\/c.2.2.1=uO 6 then lW s q c vs (nY s c) else dH (bN (bG s.2.1) c).1.1.1 (cM s.2.1.1 (bN (bG s.2.1) c).1.1.1)
 else s.2.1.1
def FN(s:cS)(q:Nat)(c:bT)(vs:List Int):Int:=
 if(bN (bG s.2.1) c).2.1=0 then if c.2.2.1=uO 5\/c.2.2.1=uO 6 then(wrL s q c vs (nY s c)).1 else s.2.1.2 else s.2.1.2
def wO(s:cS)(q:Nat)(c:bT):List cV:=
 if(bN (bG s.2.1) c).2.1=0 then if c.2.2.1=uO 5\/c.2.2.1=uO 6 then wM s q c (nY s c) else fM s.2.1.1 (bN (bG s.2.1) c).1.1.1 s.2.1.1.length else[]
structure Next (s:cS) (q:Nat) (c:bT) (vs:List Int) (s':cS):Prop where
 ok:wA s' q
 xs:wY c.2.1 s'.2.2.1.2
 w:s.2.1.2<=s'.2.1.2/\s'.2.1.2<=s.2.1.2+258
 tree:s'.2.1.1=wN s q c vs
 ww:s'.2.1.2=FN s q c vs
 life:s'.1=s.1
 ca:s'.2.2.1=(s.2.2.1.1,iC s.2.2.1.1 s.2.2.1.2 (dO s c))
 dd:s'.2.2.2.2.Perm (s.2.2.2.2++(wO s q c).filter fun p=> !dF p)
 st:∃fresh,(bD s'.2.1.1++s'.2.2.2.2.map (·.1)).Perm (bD s.2.1.1++s.2.2.2.2.map (·.1)++fresh)
section
variable {s : cS} {q : Nat} {c : bT} {vs : List Int}
theorem laZ{d d' gone:List cV}{a b f}{w}(h:d'.Perm (d++gone.filter fun p=> !dF p))(hg:∀p∈gone,eB w p)(hp:(b++bS gone).Perm (a++f)):(b++d'.map (·.1)).Perm (a++d.map (·.1)++f):=by
 have h1:=h.map (·.1);rw[ZCR,ggZ hg] at h1;refine List.perm_iff_count.2 fun k=> ?_;have h3:=hp.count_eq k
 grind
theorem qkZ(h:Ask s q c vs)(h0:(bN (bG s.2.1) c).2.1≠0):∃s',nV bB s (q:Int) c vs 0=some (s',jK (dO s c) (0:Int))/\Next s q c vs s':=by
 refine⟨_,peZ h h0,⟨h.ok.life,h.ok.t,h.put.2.1,h.ok.pl,h.ok.l,h.ok.q,h.ok.ds,h.ok.d,h.ok.dn⟩,h.put.2.2.1,⟨ZB8 _,by show s.2.1.2<=_;omega⟩,?_,?_,rfl,rfl,?_,⟨[],by rw[ZAs];exact List.Perm.refl _⟩⟩
 ·unfold wN;rw[ZAJ h0];rfl
 ·unfold FN;rw[ZAJ h0];rfl
 ·unfold wO;rw[ZAJ h0,List.filter_nil,ZAs];exact List.Perm.refl _
theorem o9Z(h:Ask s q c vs)(h0:(bN (bG s.2.1) c).2.1=0)(hop:¬(c.2.2.1=uO 5\/c.2.2.1=uO 6))(hw:s.2.1.2<=65536):
 ∃s',nV bB s (q:Int) c vs 0=some (s',jK (dO s c) (0:Int))/\Next s q c vs s':=by
 have hm:=k0Z (aZZ h.ok.t) c;obtain⟨st,sw⟩:=jnZ c fun _=>hop;have sw:(bN (bG s.2.1) c).1.1.2=s.2.1.2:=sw
 let⟨sg,sb⟩:=qmZ st
 have hlen:=by have:=st.len;rwa [fHZ] at this
 have hP:=hDZ h.ok.t;have hperm:=k5Z hlen;have hnod:=(ZBX.1 (hperm.nodup_iff.2 h.ok.t.r.nod)).1;have hT:=j3Z hm.t h.ok.t.r.str (fun i y hy=>merge_ok h.ok.t sg hy) hnod;have hg:=fun x hx=>(hP x hx).2;obtain⟨dead',d1,d2,d3,d4⟩:=qjZ h hT (fun i y hy hu hd=>by
  obtain⟨z,hz,rfl⟩:=aYZ hy;have hu:=hu;have hd:=hd;show(cM _ _ i).length=(z.2.2.2.2.1.toNat+q-1)/q;rcases sb i z hz hu with⟨x,hx,xu,xg,xd,xs⟩|⟨z0,hno⟩
  ·rw[dTZ hx hz hu xg,<-xs];exact h.ok.l i x hx xu (xd.trans hd)
  ·rw[cKZ hz fun _=>hno,z0];have:=h.ok.q;show 0=((0:Int).toNat+q-1)/q;rw[Nat.div_eq_of_lt (by omega)]) (ZB8 _) hw (by rw[ZAs];exact hperm) List.nodup_nil (fun x hx=>by cases hx) (jpZ hg _)
 refine⟨_,by rw[lpZ h h0 hop d1 d3,sw],d4,h.put.2.2.1,⟨ZB8 _,by show s.2.1.2<=_;omega⟩,?_,?_,rfl,rfl,?_,⟨[],laZ d2 (jpZ hg _) (by rw[ZAs];exact hperm)⟩⟩
 ·unfold wN;rw[ZAL h0,ZAJ hop];rfl
 ·unfold FN;rw[ZAL h0,ZAJ hop];rfl
 ·unfold wO;rw[ZAL h0,ZAJ hop];exact d2
theorem moZ{x}(h:Wri s q c x){i}{y}(hy:(l1W s c x)[i]? =some y):∃r,s.2.1.1[i]? =some r/\((i=atC c/\r=x/\y=wS (dG x) (dQ x c))\/(i≠atC c/\y=dG r)):=by
 by_cases hi:i=atC c
 ·subst hi;rw[eeZ h] at hy;exact⟨x,h.f.at_,.inl ⟨rfl,rfl,(ZAg hy).symm⟩⟩
 ·unfold l1W at hy;rw[ZAX (fun e=>hi e.symm)] at hy;obtain⟨r,hr,rfl⟩:=mTZ hy;exact⟨r,hr,.inr ⟨hi,rfl⟩⟩
theorem olZ(h:Ask s q c vs){x}(hx:Wri s q c x)(hw:s.2.1.2<=65000)(hv:vs.length=eQ x q c)(hvs:∀v∈vs,1<=v/\v<=1099511627776):
 ∃s',nV bB s (q:Int) c vs 0=some (s',jK (dO s c) (0:Int))/\Next s q c vs s':=by
 have hm:=k0Z (aZZ h.ok.t) c;obtain⟨r1,r2,r3⟩:=eAZ h.ok.t hx.r hx.hop hx.h0 hx.f;have hq:=h.ok.q;have hlen:s.2.1.1.length<=(l1W s c x).length:=by unfold l1W;rw[ZAt,fHZ];exact ZAN _
 have hP:=hDZ h.ok.t;have hg:=fun x hx=>(hP x hx).2;have hxm:=ZAI hx.f.at_;have hst:=h.ok.t.r.str;have hmn:=lLZ (x:=x) hq.1 (ayZ hx.r).2.2;have hN4:jL x q c<=4096:=by
  unfold jL;exact lEZ (by omega) (by have:4096*16<=4096*q:=ZB9 _ hq.1;omega)
 have W:=msZ (wh:=eZ q c) (vs:=vs) (hx.span hq.1) (hg x hxm) (ZB8 _) hst.1 (eQ x q c) (ZAN _);have W:Wrt x.2.2.2.2.2.1 (eZ q c) (cY q c) s.2.1.2 (jL x q c) vs (eQ x q c) (wrL s q c vs x):=W;have hrun:=bjZ x.2.2.2.2.2.1 (eZ q c) (cY q c) s.2.1.2 (eQ x q c);obtain⟨fresh,f1,f2,f3⟩:=W.st;have hw2:s.2.1.2<=(wrL s q c vs x).1/\(wrL s q c vs x).1<=s.2.1.2+258:=by rw[W.e];omega
 have sg:OF s.2.1.1 (l1W s c x):=fun i y hy hu=>by
  obtain⟨r,hr,z⟩:=moZ hx hy;rcases z with⟨_,rfl,rfl⟩|⟨_,rfl⟩<;>exact .inl ⟨r,hr,hu,rfl,rfl⟩
 have hlm:=vSZ hx;have hl2:lW s q c vs x=dH (l1W s c x) (fun i=>if i=atC c then(wrL s q c vs x).2 else cM s.2.1.1 (l1W s c x) i):=by
  unfold lW;rw[<-kmZ (eeZ hx)];rfl
 have hperm:(bD (lW s q c vs x)++bS (wM s q c x)).Perm (bD s.2.1.1++fresh):=by
  obtain⟨rest,u1,u2⟩:=trZ hlm;have u2:=u2 (oU (wS x (dQ x c)) (wrL s q c vs x).2);have m:=k5Z hlen;have u1:(bD (dH (l1W s c x) (cM s.2.1.1 (l1W s c x)))).Perm (bS x.2.2.2.2.2.1++rest):=u1;have u2:(bD (lW s q c vs x)).Perm (bS (wrL s q c vs x).2++rest):=u2;have sp:bS x.2.2.2.2.2.1=bS (x.2.2.2.2.2.1.take (jL x q c))++bS (x.2.2.2.2.2.1.drop (jL x q c)):=by rw[<-a2Z,ZBD]
  have dr:x.2.2.2.2.2.1.drop (min x.2.2.2.2.2.1.length (jL x q c))=x.2.2.2.2.2.1.drop (jL x q c):=by
   by_cases e:x.2.2.2.2.2.1.length<=jL x q c
   ·rw[ZA8 e,List.drop_length,ZCY e]
   ·rw[Nat.min_eq_right (by omega)]
  rw[llZ] at f1;unfold wM;rw[a2Z,dr];rw[sp] at u1;refine List.perm_iff_count.2 fun k=> ?_;have c1:=u1.count_eq k;have c2:=u2.count_eq k;have c3:=m.count_eq k;have c4:=f1.count_eq k;simp only[List.count_append] at*;omega
 have nod:(bD s.2.1.1++fresh).Nodup:=ZBX.2 ⟨h.ok.t.r.nod,f2,fun a ha b hb=>by
  have:=hCZ h.ok.t ha;have:=f3 b hb;omega⟩
 have hres:bL (l1W s c x,s.2.1.2):=by
  have:=hm.t;rw[r1] at this;exact this
 have okW:∀p∈(wrL s q c vs x).2,eB (wrL s q c vs x).1 p:=fun p hp=>by
  rcases W.ok p hp with z|⟨j,j1,j2,j3⟩
  ·exact gwZ hw2.1 (uwZ (hg x hxm) _ p z)
  ·rw[ZAB (by omega)] at j2;have:=hvs _ (ZBN (show j<vs.length by omega));rw[j2] at j3⊢;exact .inr ⟨j3.1,j3.2,this⟩
 have hT:bL (lW s q c vs x,(wrL s q c vs x).1):=by
  rw[hl2];refine j3Z hres ⟨by omega,by omega⟩ (fun i y hy=> ?_) (by rw[<-hl2];exact(ZBX.1 (hperm.nodup_iff.2 nod)).1);by_cases hi:i=atC c
  ·subst hi;rw[eeZ hx] at hy;obtain rfl:=ZAg hy;rw[ZAL ⟨hx.f.used,hx.f.dir⟩,ZAL rfl,W.n];exact⟨hN4,okW⟩
  ·simp only[ZAJ hi];have:=merge_ok (t:=s.2.1) h.ok.t sg hy;split
   ·rename_i hc;rw[ZAL hc] at this;exact⟨this.1,fun p hp=>gwZ hw2.1 (this.2 p hp)⟩
   ·rename_i hc;rw[ZAJ hc] at this;exact this
 have hgn:∀p∈wM s q c x,eB s.2.1.2 p:=fun p hp=>by
  rcases ZAh.1 hp with z|z
  ·exact jpZ hg _ p z
  ·exact hg x hxm p (ZCi z)
 obtain⟨dead',d1,d2,d3,d4⟩:=qjZ h (gone:=wM s q c x) hT (fun i y hy hu hd=>by
  rw[hl2] at hy;obtain⟨z,hz,rfl⟩:=aYZ hy;have hu:z.2.2.1=true:=hu;have hd:z.2.2.2.1=false:=hd;show(if i=atC c then(wrL s q c vs x).2 else cM s.2.1.1 (l1W s c x) i).length=(z.2.2.2.2.1.toNat+q-1)/q;obtain⟨r,hr,w⟩:=moZ hx hz;rcases w with⟨hi,rfl,rfl⟩|⟨hi,rfl⟩
  ·rw[ZAL hi,W.n];rfl
  ·rw[ZAJ hi,dTZ hr hz hu rfl];exact h.ok.l i r hr hu hd) hw2.1 (by omega) hperm f2 f3 hgn
 refine⟨_,lyZ h hx hv d1 d3 (by omega),d4,h.put.2.2.1,hw2,?_,?_,rfl,rfl,?_,⟨fresh,laZ d2 hgn hperm⟩⟩
 ·unfold wN;rw[ZAL hx.h0,ZAL hx.hop,hx.f.p];rfl
 ·unfold FN;rw[ZAL hx.h0,ZAL hx.hop,hx.f.p];rfl
 ·unfold wO;rw[ZAL hx.h0,ZAL hx.hop,hx.f.p];exact d2
theorem nAZ(h:Ask s q c vs)(hw:s.2.1.2<=65000)(hv:vs.length=(dZ s q c).1.2.2.2.length)(hvs:∀v∈vs,1<=v/\v<=1099511627776):
 ∃s',nV bB s (q:Int) c vs 0=some (s',jK (dO s c) (0:Int))/\Next s q c vs s':=by
 by_cases h0:(bN (bG s.2.1) c).2.1=0
 ·by_cases hop:c.2.2.1=uO 5\/c.2.2.1=uO 6
  ·obtain⟨x,hx⟩:=nmZ (cAZ h.two).2.1 hop h0;refine olZ h hx hw ?_ hvs;rw[hv,gXZ h.two hx];exact(bjZ _ _ _ _ _).1
  ·exact o9Z h h0 hop (by omega)
 grind[qkZ]
end
theorem uTZ{p:wL}{vs}(hp:p.1=2)(hl:vs.length=p.2.2.2.length)(hb:vs.length<=100000)(h:∀(j:Nat) nd v,p.2.2.2[j]? =some nd->vs[j]? =some v->nd.2.1.2<v/\1<=v/\v<=1099511627776):KF bB p vs 0=some true:=by
 unfold KF;rw[hp];simp[ZAA];unfold DD;rw[hl,ZAb,ZAO];have loop:mV bB p.2.2.2 vs 0=some (.inl ()):=by
  unfold mV;refine alZ (fun k:Nat=>(k:Int)) p.2.2.2.length (by omega) (fun k hk=> ?_) ?_
  ·unfold tM NT;obtain⟨nd,hn⟩:∃nd,p.2.2.2[k]? =some nd:=⟨_,ZAB hk⟩;obtain⟨v,hv⟩:∃v,vs[k]? =some v:=⟨_,ZAB (by omega)⟩;have:=h k nd v hn hv;rw[ZAK (by omega),acZ hk,ZAA,hn,ZAA,acZ (by omega),ZAA,hv,ZAA];simp;rw[ZAK (show v>nd.2.1.2 by omega),ZAK (show v>=1 by omega),ZAK (show v<=1099511627776 by omega),w64 (by omega)]
   rfl
  ·unfold tM;rw[ZAE (by omega),ZAD]
 simp_all
def xQ(q:Nat)(l:List fU)(bs:List (List UInt8)):Prop:=bs.length=l.length/\l.length<=100000/\(∀b∈bs,b.length=0\/b.length=q)/\∀n∈l,0<=n.1/\n.1<=65536
theorem ntZ{q}{l}{bs}(hq:16<=q/\q<=65)(h:xQ q l bs):NO bB (q:Int) l bs=some true:=by
 let⟨h1,h2,h3,h4⟩:=h
 unfold NO MZ;rw[ZAK (show(q:Int)>=16 by omega),ZAM,ZAA,ZAK (show(q:Int)<=65536 by omega),h1,ZAM];have a:kQ bB bs (0,(q:Int))=some (.inl (q:Int)):=by
  unfold kQ;refine alZ (fun k:Nat=>((k:Int),(q:Int))) bs.length (by omega) (fun k hk=> ?_) ?_
  ·show jC bB bs (k:Int) (q:Int)=_;unfold jC NK;have hb:=h3 _ (ZBN hk);rw[ZAK (by omega),acZ hk,ZAA,ZAB hk,ZAA,w64 (by omega)];rcases hb with e|e
   ·rw[e];rfl
   ·rw[e,(ZAa.2 (by omega)),show(!(((q:Nat):Int)==(q:Int)))=false by rw[ZAb];rfl];rfl
  ·show jC bB bs (bs.length:Int) (q:Int)=_;unfold jC;rw[ZAE (by omega),ZAD]
 have b:lS bB l 0=some (.inl ()):=by
  unfold lS;refine alZ (fun k:Nat=>(k:Int)) l.length (by omega) (fun k hk=> ?_) ?_
  ·unfold qA NM;have hb:=h4 _ (ZBN hk);rw[ZAK (by omega),acZ hk,ZAA,ZAB hk,ZAA,ZAE (by omega),ZAD,ZAE (by omega),w64 (by omega)]
   rfl
  ·unfold qA;rw[ZAE (by omega),ZAD]
 simp_all[zD,vT,zG,zF]
theorem uuZ{α:Type}{F O:List α}{k}{x}(h:F.length=O.length)(hx:F[k]? =some x):(F.take k++O.drop k).set k x=F.take (k+1)++O.drop (k+1):=by
 have hk:=(ZAC.1 hx).1;rw[List.set_append_right k x (by grind),ZAQ,ZA8 (by omega),ZBr,ZBW (by omega:k<O.length),aUZ hx,ZAx]
 rfl
theorem u5Z{α:Type}{F O:List α}{k}(h:F.length=O.length)(hk:k<O.length):(F.take k++O.drop k)[k]? =O[k]? :=by
 grind
def atF(c:bT)(z:Nat)(o:UInt8):UInt8:=
 if c.2.2.1=uO 6 then(if c.2.2.2.2.2.2.2.2.1<=(z:Int) then 0 else o)
 else if c.2.2.1=uO 5/\c.2.2.2.2.2.2.2.1.toNat<=z then(c.2.2.2.2.2.2.2.2.2[z-c.2.2.2.2.2.2.2.1.toNat]?).getD o else o
def qF(q:Nat)(old:List UInt8):List UInt8:=bY (List.replicate (α:=UInt8) q 0) 0 (List.take (List.replicate (α:=UInt8) q 0).length old)
theorem c0Z(q)(old):(qF q old).length=q:=by
 unfold qF bY
 grind
def fR(q:Nat)(c:bT)(i:Nat)(old:List UInt8):List UInt8:=(qF q old).mapIdx fun k o=>atF c (i*q+k) o
theorem dOZ(q)(c)(i)(old):(fR q c i old).length=q:=by simp_all[fR,c0Z]
theorem rUZ{q i}{c}(hq:16<=q/\q<=65)(hi:i<=65536)(hr:bK c=true)(hop:c.2.2.1=uO 5\/c.2.2.1=uO 6)(old):
 IU bB ((i*q:Nat):Int) old [c] (q:Int)=some ((q:Int),fR q c i old):=by
 obtain⟨ho,hn,hb⟩:=ayZ hr;have hi2:=ZB3 hi hq.2;unfold IU;rw[b0Z (by omega) (by grind[aqZ]),ZAA,ZBP,b0Z (by omega) (by omega),ZAA,ZBP,adZ (by grind[ZAm,aqZ])];have hF:(fR q c i old).length=(qF q old).length:=by rw[dOZ,c0Z]
 have loop:qE bB q old [c] ((i*q:Nat):Int) (0,((q:Int),qF q old))=some ((q:Int),fR q c i old):=by
  unfold qE;have e0:((0:Int),((q:Int),qF q old))=(fun k:Nat=>((k:Int),((q:Int),(fR q c i old).take k++(qF q old).drop k))) 0:=by simp
  refine(congrArg (iter bB _) e0).trans ?_;refine alZ (fun k:Nat=>((k:Int),((q:Int),(fR q c i old).take k++(qF q old).drop k))) q (by omega) (fun k hk=> ?_) ?_
  ·show qD bB q old [c] ((i*q:Nat):Int) (k:Int) (q:Int) ((fR q c i old).take k++(qF q old).drop k)=_;unfold qD Pg Ph PH;obtain⟨o,hold⟩:∃o,(qF q old)[k]? =some o:=⟨_,ZAB (by simp_all[c0Z])⟩;have hnew:(fR q c i old)[k]? =some (atF c (i*q+k) o):=by unfold fR;rw[ZBz,hold];rfl
   have bR:=uuZ hF hnew;have bF:=u5Z hF (by rw[c0Z];exact hk);have hlen:((fR q c i old).take k++(qF q old).drop k).length=q:=by rw[ZAf,ZAQ,ZAv,dOZ,c0Z];omega
   generalize (fR q c i old).take k++(qF q old).drop k=B at*;have hpl:(bY (List.replicate (α:=UInt8) q 0) 0 (List.take (List.replicate (α:=UInt8) q 0).length old)).length=q:=c0Z q old;rw[hpl,ZAK (by omega),ZAM,ZAP,ZAA,op6,w64 (by omega),w64 (by omega)];show _=some (Sum.inl (((k+1:Nat):Int),((q:Int),(fR q c i old).take (k+1)++(qF q old).drop (k+1))));rw[<-bR];have keep:atF c (i*q+k) o=o->B=B.set k (atF c (i*q+k) o):=fun e=>by simp_all[d9Z]
   by_cases e6:c.2.2.1=uO 6
   ·have h65:¬(uO 6=uO 5):=by decide
    rw[ZAK e6,ZAM,ZAA,ZAA];by_cases hc:c.2.2.2.2.2.2.2.2.1<=((i*q+k:Nat):Int)
    ·rw[ZAK (by omega)];simp only[ZAM];rw[hlen,acZ hk,ZAA,bF,hold,ZAA];unfold atF;rw[ZAL e6,ZAL hc]
     rfl
    ·rw[ZAE (by omega)];simp only[ZAD];rw[ZAA,op5,e6,ZAE h65];simp only[ZAD,ZAA];rw[<-keep (by unfold atF;rw[ZAL e6,ZAJ hc])]
     rfl
   ·have e5:=hop.resolve_right e6;rw[ZAE e6,ZAD,ZAA];simp only[ZAD];rw[ZAA,op5,ZAK e5];simp only[ZAM,ZAA];by_cases h1:c.2.2.2.2.2.2.2.1.toNat<=i*q+k
    ·rw[ZAK (by omega),ZAM,w64 (by omega),ZAA];have ev:((i*q:Nat):Int)+(k:Int)-c.2.2.2.2.2.2.2.1=((i*q+k-c.2.2.2.2.2.2.2.1.toNat:Nat):Int):=by omega
     rw[ev];by_cases h2:i*q+k-c.2.2.2.2.2.2.2.1.toNat<c.2.2.2.2.2.2.2.2.2.length
     ·rw[ZAK (by omega)];simp only[ZAM];rw[acZ h2,ZAA,ZAB h2,ZAA,hlen,acZ hk,ZAA,iFZ (UInt8.toNat_lt _),ZAA,bF,hold,ZAA,ZAA,ZAA,uOt];unfold atF;rw[ZAJ e6,ZAL ⟨e5,h1⟩,ZAB h2]
      rfl
     ·rw[ZAE (by omega)];simp only[ZAD,ZAA];rw[<-keep (by unfold atF;rw[ZAJ e6,ZAL ⟨e5,h1⟩,ZAd (by omega)];rfl)]
      rfl
    ·rw[ZAE (by omega),ZAD,ZAA];simp only[ZAD,ZAA];rw[<-keep (by unfold atF;rw[ZAJ e6,ZAJ (fun z=>h1 z.2)])]
     rfl
  ·show qD bB q old [c] ((i*q:Nat):Int) (q:Int) (q:Int) ((fR q c i old).take q++(qF q old).drop q)=_;unfold qD Pg Ph PH;have hpl:(bY (List.replicate (α:=UInt8) q 0) 0 (List.take (List.replicate (α:=UInt8) q 0).length old)).length=q:=c0Z q old;rw[hpl,ZAE (by omega),ZAD];have a1:(fR q c i old).take q=fR q c i old:=ZAw (by rw[dOZ];exact ZAN _);have a2:(qF q old).drop q=[]:=ZCY (by rw[c0Z];exact ZAN _);rw[a1,a2,ZAs]
 refine(congrArg (fun o=>Option.bind o _) ((loop))).trans rfl
def iE(q:Nat)(c:bT)(l:List fU)(olds:List (List UInt8)):List (List UInt8):=List.zipWith (fun n o=>fR q c n.1.toNat o) l olds
theorem noZ{q}{c}{l}{olds}{k:Nat}{n}{o}(h1:l[k]? =some n)(h2:olds[k]? =some o):(iE q c l olds)[k]? =some (fR q c n.1.toNat o):=by
 simp_all[iE,List.getElem?_zipWith]
theorem pHZ{q}{c}{l}{olds}(hq:16<=q/\q<=65)(hr:bK c=true)(hop:c.2.2.1=uO 5\/c.2.2.1=uO 6)(h:xQ q l olds):
 NS bB (q:Int) c l olds=some (0,iE q c l olds):=by
 unfold NS;rw[ntZ hq h,ZAA,axZ,hr,ZAA]
 let⟨h1,h2,h3,h4⟩:=h
 simp only[ZAO,ZAD];rw[op5,op6];have step:∀{α} (S:α),(bif (!decide (c.2.2.1=uO 5)) then some ((!decide (c.2.2.1=uO 6)),S) else some (false,S))=some (false,S):=fun S=>by
  rcases hop with e|e<;>rw[e]<;>rfl
 rw[step,ZAA];simp;have hN:(iE q c l olds).length=l.length:=by unfold iE;rw[List.length_zipWith];omega
 have loop:tL bB l olds (0,((q:Int),([],[c])))=some (iE q c l olds):=by
  unfold tL;have e0:((0:Int),((q:Int),(([]:List (List UInt8)),[c])))=(fun k:Nat=>((k:Int),((q:Int),((iE q c l olds).take k,[c])))) 0:=by simp
  refine(congrArg (iter bB _) e0).trans ?_;refine alZ (fun k:Nat=>((k:Int),((q:Int),((iE q c l olds).take k,[c])))) l.length (by omega) (fun k hk=> ?_) ?_
  ·obtain⟨n,hn⟩:∃n,l[k]? =some n:=⟨_,ZAB hk⟩;obtain⟨o,ho⟩:∃o,olds[k]? =some o:=⟨_,ZAB (by omega)⟩;have hb:=h4 n (ZAI hn);have hq2:n.1.toNat*q<=65536*65:=ZB3 (by omega) hq.2;show uW bB l olds (k:Int) (q:Int) ((iE q c l olds).take k) [c]=_;unfold uW;rw[ZAK (by omega),acZ hk,ZAA,hn,ZAA,acZ (by omega),ZAA,ho,ZAA];rw[show n.1*(q:Int)=((n.1.toNat*q:Nat):Int) by rw[ZBn,ZBi hb.1],w64 (by omega),rUZ hq (by omega) hr hop,ZAA,adZ (by simp only[ZAF,ZAm,aqZ,ZAQ];omega),w64 (by omega),aUZ (noZ hn ho)]
   rfl
  ·show uW bB l olds (l.length:Int) (q:Int) ((iE q c l olds).take l.length) [c]=_;unfold uW;rw[ZAE (by omega),ZAD,ZAw (by omega)]
 simp_all
def qG(q fr i:Nat)(b out:List UInt8):List UInt8:=out.mapIdx fun t o=>if i*q<=fr+t then(b[fr+t-i*q]?).getD o else o
theorem fBZ(q fr i)(b out):(qG q fr i b out).length=out.length:=by simp_all[qG]
theorem dIZ(q fr i)(b out)(t):(qG q fr i b out)[t]? =(out[t]?).map fun o=>if i*q<=fr+t then(b[fr+t-i*q]?).getD o else o:=by simp_all[qG]
theorem siZ(q fr i)(out):qG q fr i [] out=out:=by
 refine ZA9 fun t=> ?_
 simp_all[dIZ]
theorem vdZ{q fr i k}{b out:List UInt8}{x}(hk:b[k]? =some x)(h:fr<=i*q+k):qG q fr i (b.take (k+1)) out=(qG q fr i (b.take k) out).set (i*q+k-fr) x:=by
 refine ZA9 fun t=> ?_;rw[dIZ,ZCg,fBZ,dIZ]
 grind
theorem nuZ{q fr i k}{b out:List UInt8}(h:¬(fr<=i*q+k/\i*q+k-fr<out.length)):qG q fr i (b.take (k+1)) out=qG q fr i (b.take k) out:=by
 refine ZA9 fun t=> ?_;rw[dIZ,dIZ]
 grind
theorem pnZ{q fr i:Nat}{b out}(hq:q<=65)(hi:i<=65536)(hf:fr<=65536)(hb:b.length<=65):
 IT bB (i:Int) b (q:Int) (fr:Int) out=some ((q:Int),((fr:Int),qG q fr i b out)):=by
 have hi2:=ZB3 hi hq;unfold IT;have loop:qC bB b (i:Int) (0,((q:Int),((fr:Int),out)))=some ((q:Int),((fr:Int),qG q fr i b out)):=by
  unfold qC;have e0:((0:Int),((q:Int),((fr:Int),out)))=(fun k:Nat=>((k:Int),((q:Int),((fr:Int),qG q fr i (b.take k) out)))) 0:=by simp only[List.take_zero,siZ];rfl
  refine(congrArg (iter bB _) e0).trans ?_;refine alZ (fun k:Nat=>((k:Int),((q:Int),((fr:Int),qG q fr i (b.take k) out)))) b.length (by omega) (fun k hk=> ?_) ?_
  ·obtain⟨x,hx⟩:∃x,b[k]? =some x:=⟨_,ZAB hk⟩;show qB bB b (i:Int) (k:Int) (q:Int) (fr:Int) (qG q fr i (b.take k) out)=_;unfold qB;rw[ZAK (by omega),ZAM,show(i:Int)*(q:Int)=((i*q:Nat):Int) by rw[ZBn],w64 (x:=((i*q:Nat):Int)) (by omega),w64 (x:=((i*q:Nat):Int)+(k:Int)) (by omega),w64 (by omega),w64 (by omega),fBZ];by_cases h:fr<=i*q+k
   ·rw[show((i*q:Nat):Int)+(k:Int)-(fr:Int)=((i*q+k-fr:Nat):Int) by omega,ZAK (by omega),ZAM,ZAA];by_cases hl:i*q+k-fr<out.length
    ·rw[ZAK (by omega)];simp only[ZAM];rw[acZ hk,ZAA,hx,ZAA,fBZ,acZ hl,ZAA,iFZ (UInt8.toNat_lt _),ZAA,ZAB (by rw[fBZ];exact hl),ZAA,ZAA,uOt,vdZ hx h]
     rfl
    ·rw[ZAE (by omega),nuZ (fun z=>hl z.2)]
     rfl
   ·rw[ZAE (by omega),nuZ (fun z=>h z.1)]
    rfl
  ·show qB bB b (i:Int) (b.length:Int) (q:Int) (fr:Int) (qG q fr i (b.take b.length) out)=_;unfold qB;rw[ZAE (by omega),ZAD,ZAu]
 simp_all
def oA(q fr a:Nat)(bs:List (List UInt8)):Nat->List UInt8->List UInt8
 |0,o=>o
 |j+1,o=>qG q fr (a+j) ((bs[j]?).getD []) (oA q fr a bs j o)
def FO(q a file:Nat)(c:bT)(bs:List (List UInt8)):List UInt8:=
 oA q (min c.2.2.2.2.2.2.2.1.toNat file) a bs bs.length (List.replicate (min (file-min c.2.2.2.2.2.2.2.1.toNat file) c.2.2.2.2.2.2.2.2.1.toNat) 0)
theorem rOZ{q a file:Nat}{c}{l}{bs}(hq:16<=q/\q<=65)(hr:bK c=true)(hop:c.2.2.1=uO 4)(hf:file<=65536)(h:xQ q l bs)(ha:∀(j) nd,l[j]? =some nd->nd.1=((a+j:Nat):Int)):
 NQ bB (q:Int) c (file:Int) l bs=some (0,FO q a file c bs):=by
 let⟨ho,hn,hb⟩:=ayZ hr
 unfold NQ Pg Ph;rw[ntZ hq h,axZ,hr,ZAA]
 let⟨h1,h2,h3,h4⟩:=h
 simp only[ZAO];rw[op4,ZAK hop,ZAE (show¬(file:Int)<0 by omega)];simp[ZAP];rw[show(if(file:Int)<c.2.2.2.2.2.2.2.1 then(file:Int) else c.2.2.2.2.2.2.2.1)=((min c.2.2.2.2.2.2.2.1.toNat file:Nat):Int) by split<;>omega];unfold FO;have hfr:min c.2.2.2.2.2.2.2.1.toNat file<=file:=Nat.min_le_right _ _;generalize min c.2.2.2.2.2.2.2.1.toNat file=fr at*;rw[w64 (by omega),show(if(file:Int)-(fr:Int)<c.2.2.2.2.2.2.2.2.1 then(file:Int)-(fr:Int) else c.2.2.2.2.2.2.2.2.1)=((min (file-fr) c.2.2.2.2.2.2.2.2.1.toNat:Nat):Int) by split<;>omega];generalize hm:min (file-fr) c.2.2.2.2.2.2.2.2.1.toNat=m;rw[aBZ (by rw[aqZ];omega),ZAA,aBZ (ZAN _),ZAA,adZ (by rw[ZAm,aqZ];omega)];obtain⟨o,hO,ho⟩:∃o,tK bB l bs (0,(List.replicate m 0,(([],0),((q:Int),(fr:Int)))))=some o/\o=oA q fr a bs bs.length (List.replicate m 0):=by
  unfold tK;refine aAZ (fun r st=>∃(k:Nat) (M:GM),st=((k:Int),(oA q fr a bs k (List.replicate m 0),(M,((q:Int),(fr:Int)))))/\k+r=l.length/\∀j,a+k<=j->kX M (j:Int)=none) (fun o=>o=oA q fr a bs bs.length (List.replicate m 0)) (fun r st hI=> ?_) (fun st hI=> ?_) l.length _ (by omega) ⟨0,([],0),rfl,by omega,fun j _=>rfl⟩
  ·obtain⟨k,M,rfl,hk,hM⟩:=hI;obtain⟨nd,hn⟩:∃nd,l[k]? =some nd:=⟨_,ZAB (by omega)⟩;obtain⟨b,hb⟩:∃b,bs[k]? =some b:=⟨_,ZAB (by omega)⟩;have hi:=ha k nd hn;have h4:=h4 nd (ZAI hn);have h3:=h3 b (ZAI hb);left;refine⟨(((k+1:Nat):Int),(oA q fr a bs (k+1) (List.replicate m 0),(mQ M ((a+k:Nat):Int) 1,((q:Int),(fr:Int))))),?_,k+1,_,rfl,by omega,fun j hj=> ?_⟩
   ·show uV bB l bs (k:Int) (oA q fr a bs k (List.replicate m 0)) M (q:Int) (fr:Int)=_;unfold uV;rw[ZAK (by omega),ZAM,acZ (by omega),ZAA,hn,ZAA,hi,hM _ (ZAN _)];simp only[Option.getD_none,show((0:Int)==0)=true from rfl,ZAM];rw[acZ (by omega),ZAA,hb,ZAA,pnZ hq.2 (by omega) (by omega) (by omega),ZAA,ZAA,w64 (by omega)];rw[show oA q fr a bs (k+1) (List.replicate m 0)=qG q fr (a+k) b (oA q fr a bs k (List.replicate m 0)) by
     conv=>lhs;unfold oA
     rw[hb];rfl]
    rfl
   ·rw[dsZ (dlZ .i64) _ _ _ (show(j:Int)≠((a+k:Nat):Int) by omega)];exact hM j (by omega)
  ·obtain⟨k,M,rfl,hk,hM⟩:=hI;have:k=l.length:=by omega
   subst this;refine⟨_,?_,rfl⟩;show uV bB l bs (l.length:Int) _ M (q:Int) (fr:Int)=_;unfold uV;rw[ZAE (by omega),ZAD,h1]
 grind
abbrev kP:Ty:=.pair (.int .i64) (.int .i64)
abbrev BM:Type:=List ((cV×List UInt8)×Nat)×Nat
theorem h6Z:mO kP:=pmZ (dlZ .i64) (dlZ .i64)
def blk(M:BM)(p:cV):List UInt8:=(kX (k:=kP) (v:=.sl .byte) M p).getD []
abbrev UU(M:BM)(p:cV)(b:List UInt8):BM:=mQ (k:=kP) (v:=.sl .byte) M p b
theorem lSZ(M)(p)(b)(z):blk (UU M p b) z=if z=p then b else blk M z:=by
 unfold blk;by_cases h:z=p
 ·subst h;rw[khZ h6Z,ZAL rfl];rfl
 simp_all[dsZ,h6Z]
abbrev stZ{β:Type}(s:cS)(nx q:Int)(M:BM)(Z:β):Int×(List Ino×(Int×(Int×(List eO×(List iN×(List cV×(Int×(Int×(BM×β))))))))):=(s.1,(s.2.1.1,(s.2.1.2,(s.2.2.1.1,(s.2.2.1.2,(s.2.2.2.1,(s.2.2.2.2,(nx,(q,(M,Z))))))))))
abbrev stD(s:cS)(nx q:Int)(M:BM):Int×(List Ino×(Int×(Int×(List eO×(List iN×(List cV×(Int×(Int×BM)))))))):=(s.1,(s.2.1.1,(s.2.1.2,(s.2.2.1.1,(s.2.2.1.2,(s.2.2.2.1,(s.2.2.2.2,(nx,(q,M)))))))))
abbrev z9{β:Type}(Z:β):Int×(Int×(Int×(Int×(Int×(Bool×(Int×(Bool×(Int×β)))))))):=(0,(0,(0,(0,(0,(false,(0,(false,(0,Z)))))))))
section
variable {s : cS} {nx q : Int} {M : BM} {c : bT}
theorem ndZ{r:wL×Int}(h:r.1.2.2.1.length<=100000):hU bB r (0,stZ s nx q M ([c],z9 ([r.1],[])))=some (stZ s nx q M ([c],z9 ([r.1],r.1.2.2.1.map fun n=>blk M n.2.1))):=by
 refine alZ (fun k:Nat=>((k:Int),stZ s nx q M ([c],z9 ([r.1],(r.1.2.2.1.take k).map fun n=>blk M n.2.1)))) r.1.2.2.1.length (by omega) (fun k hk=> ?_) ?_
 ·obtain⟨nd,hn⟩:∃nd,r.1.2.2.1[k]? =some nd:=⟨_,ZAB hk⟩;show eE bB r (k:Int) s.1 s.2.1.1 s.2.1.2 s.2.2.1.1 s.2.2.1.2 s.2.2.2.1 s.2.2.2.2 nx q M [c] 0 0 0 0 0 false 0 false 0 [r.1] ((r.1.2.2.1.take k).map fun n=>blk M n.2.1)=_;unfold eE;rw[ZAK (by omega),acZ hk,ZAA,hn,ZAA,adZ (by simp[aqZ,ZAQ];omega),w64 (by omega),aUZ hn,ZCR]
  rfl
 ·show eE bB r (r.1.2.2.1.length:Int) s.1 s.2.1.1 s.2.1.2 s.2.2.1.1 s.2.2.1.2 s.2.2.2.1 s.2.2.2.2 nx q M [c] 0 0 0 0 0 false 0 false 0 [r.1] _=_
  simp_all[eE,ZAu]
def JB(r n:fU):Bool:=(r.1==n.1)&&(((r.2.1.1==n.2.1.1)&&(r.2.1.2==n.2.1.2))&&(r.2.2==n.2.2))
theorem liZ(r n):JB r n=true↔r=n:=by
 let⟨a,⟨b,d⟩,e⟩:=r
 let⟨a',⟨b',d'⟩,e'⟩:=n
 simp_all[JB,ZA1]
def inB(l:List fU)(n:fU):Bool:=l.any fun r=>JB r n
theorem pMZ(l)(n):inB l n=true↔n∈l:=by
 unfold inB;rw[List.any_eq_true];exact⟨fun⟨r,hr,e⟩=>(liZ r n).1 e▸hr,fun h=>⟨n,h,(liZ n n).2 rfl⟩⟩
theorem scZ{p:wL}(hp:p.2.2.1.length<=100000)(n){A}{V}{C:List bT}{Q:List wL}:hY bB p (false,(0,stZ s nx q M (C,z9 (Q,(A,(V,(n.1,(n.2.1.1,(n.2.1.2,n.2.2)))))))))=some (inB p.2.2.1 n,stZ s nx q M (C,z9 (Q,(A,(V,(n.1,(n.2.1.1,(n.2.1.2,n.2.2)))))))):=by
 refine alZ (fun k:Nat=>(inB (p.2.2.1.take k) n,((k:Int),stZ s nx q M (C,z9 (Q,(A,(V,(n.1,(n.2.1.1,(n.2.1.2,n.2.2)))))))))) p.2.2.1.length (by omega) (fun k hk=> ?_) ?_
 ·obtain⟨nd,hn⟩:∃nd,p.2.2.1[k]? =some nd:=⟨_,ZAB hk⟩;show eF bB p (inB (p.2.2.1.take k) n) (k:Int) s.1 s.2.1.1 s.2.1.2 s.2.2.1.1 s.2.2.1.2 s.2.2.2.1 s.2.2.2.2 nx q M C 0 0 0 0 0 false 0 false 0 Q A V n.1 n.2.1.1 n.2.1.2 n.2.2=_;unfold eF;rw[ZAK (by omega),acZ hk,ZAA,hn,w64 (by omega)];have e:inB (p.2.2.1.take (k+1)) n=(inB (p.2.2.1.take k) n||JB nd n):=by unfold inB;rw[aUZ hn];simp
  simp[e];cases inB (p.2.2.1.take k) n<;>rfl
 ·show eF bB p _ (p.2.2.1.length:Int) s.1 s.2.1.1 s.2.1.2 s.2.2.1.1 s.2.2.1.2 s.2.2.2.1 s.2.2.2.2 nx q M C 0 0 0 0 0 false 0 false 0 Q A V n.1 n.2.1.1 n.2.1.2 n.2.2=_;unfold eF;rw[ZAE (by omega),ZAD,ZAu]
def oB(rd:List fU)(M:BM)(n:fU):List UInt8:=if inB rd n=true then blk M n.2.1 else[]
def eR(nx:Int)(k:Nat):List Int:=(List.range k).map fun j:Nat=>nx+(j:Int)+1
theorem cDZ(nx)(k):(eR nx k).length=k:=by simp[eR]
theorem d4Z{nx}{k j}(h:j<k):(eR nx k)[j]? =some (nx+(j:Int)+1):=by
 simp_all[eR,ZCp]
theorem oZZ(nx)(k):eR nx (k+1)=eR nx k++[nx+(k:Int)+1]:=by simp_all[eR,List.range_succ]
theorem teZ{r:wL×Int}(h1:r.1.2.2.1.length<=100000)(h2:r.1.2.2.2.length<=100000)(hn:0<=nx/\nx<=1099511627776)(hM:∀n∈r.1.2.2.2,inB r.1.2.2.1 n=true->(blk M n.2.1).length≠0/\(blk M n.2.1).length<=1000):
 fK bB r (0,stZ s nx q M ([c],z9 ([r.1],([],[]))))=some (.inl (stZ s (nx+(r.1.2.2.2.length:Nat)) q M ([c],z9 ([r.1],(r.1.2.2.2.map (oB r.1.2.2.1 M),eR nx r.1.2.2.2.length))))):=by
 unfold fK;have e0:((0:Int),stZ s nx q M ([c],z9 ([r.1],(([]:List (List UInt8)),([]:List Int)))))=(fun k:Nat=>((k:Int),stZ s (nx+(k:Nat)) q M ([c],z9 ([r.1],((r.1.2.2.2.take k).map (oB r.1.2.2.1 M),eR nx k))))) 0:=by simp[eR]
 refine(congrArg (iter bB _) e0).trans ?_;refine alZ (fun k:Nat=>((k:Int),stZ s (nx+(k:Nat)) q M ([c],z9 ([r.1],((r.1.2.2.2.take k).map (oB r.1.2.2.1 M),eR nx k))))) r.1.2.2.2.length (by omega) (fun k hk=> ?_) ?_
 ·obtain⟨nd,hnd⟩:∃nd,r.1.2.2.2[k]? =some nd:=⟨_,ZAB hk⟩;have hm:=hM nd (ZAI hnd);have hlen:((r.1.2.2.2.take k).map (oB r.1.2.2.1 M)).length=k:=by rw[ZAp,ZAQ];omega
  have hv:=cDZ nx k;show eG bB r (k:Int) s.1 s.2.1.1 s.2.1.2 s.2.2.1.1 s.2.2.1.2 s.2.2.2.1 s.2.2.2.2 (nx+(k:Nat)) q M [c] 0 0 0 0 0 false 0 false 0 [r.1] ((r.1.2.2.2.take k).map (oB r.1.2.2.1 M)) (eR nx k)=_;show _=some (Sum.inl (((k+1:Nat):Int),stZ s (nx+((k+1:Nat):Int)) q M ([c],z9 ([r.1],((r.1.2.2.2.take (k+1)).map (oB r.1.2.2.1 M),eR nx (k+1))))));rw[oZZ,aUZ hnd,ZCR,show nx+((k+1:Nat):Int)=nx+(k:Nat)+1 by omega];generalize (r.1.2.2.2.take k).map (oB r.1.2.2.1 M)=A at*;generalize eR nx k=V at*;unfold eG Pb Pc Pd Pe Pf Pg Ph Pi Pj Pk Pl Pm Pn Po Pp Pq Pr Ps Pt Pu Pv Pw Py Pz PV;rw[ZAK (by omega),acZ hk,ZAA,hnd,ZAA];refine(congrArg (fun o=>Option.bind o _) (scZ (n:=nd) h1)).trans ?_;rw[ZAA];cases hb:inB r.1.2.2.1 nd
  ·simp[ZAA];rw[adZ (by simp only[ZAF,ZAm,aqZ];omega),adZ (by simp only[ZAF,ZAm,aqZ];omega),w64 (by omega),w64 (by omega)]
   simp_all[oB,ZCw,List.map_nil]
  ·have hm:=hm hb;simp only[ZAM];rw[(ZAa.2 (by
    show((blk M nd.2.1).length:Int)≠0;omega))]
   simp only[ZAD,ZAA];rw[adZ (by simp only[ZAF,ZAm,aqZ];omega),adZ (by simp only[ZAF,ZAm,aqZ];omega),w64 (by omega),w64 (by omega)];unfold oB;simp only[ZCw,List.map_nil,hb,ZCq]
   rfl
 ·show eG bB r (r.1.2.2.2.length:Int) s.1 s.2.1.1 s.2.1.2 s.2.2.1.1 s.2.2.1.2 s.2.2.2.1 s.2.2.2.2 _ q M [c] 0 0 0 0 0 false 0 false 0 [r.1] _ _=_;unfold eG Pb Pc Pd Pe Pf Pg Ph Pi Pj Pk Pl Pm Pn Po Pp Pq Pr Ps Pt Pu Pv Pw Py Pz PV;rw[ZAE (by omega),ZAD,ZAu]
def qH(l:List fU)(vs:List Int)(bs:List (List UInt8)):Nat->BM->BM
 |0,M=>M
 |k+1,M=>UU (qH l vs bs k M) (((l[k]?).getD (0,((0,0),0))).2.2,(vs[k]?).getD 0) ((bs[k]?).getD [])
theorem sFZ{p:wL}{vs}{bs}(h1:p.2.2.2.length<=100000)(h2:vs.length=p.2.2.2.length)(h3:bs.length=p.2.2.2.length):
 iA bB p (0,stZ s nx q M ([c],z9 (vs,bs)))=some (stZ s nx q (qH p.2.2.2 vs bs p.2.2.2.length M) ([c],z9 vs)):=by
 refine alZ (fun k:Nat=>((k:Int),stZ s nx q (qH p.2.2.2 vs bs k M) ([c],z9 (vs,bs)))) p.2.2.2.length (by omega) (fun k hk=> ?_) ?_
 ·obtain⟨nd,hn⟩:∃nd,p.2.2.2[k]? =some nd:=⟨_,ZAB hk⟩;obtain⟨v,hv⟩:∃v,vs[k]? =some v:=⟨_,ZAB (by omega)⟩;obtain⟨b,hb⟩:∃b,bs[k]? =some b:=⟨_,ZAB (by omega)⟩;show eH bB p (k:Int) s.1 s.2.1.1 s.2.1.2 s.2.2.1.1 s.2.2.1.2 s.2.2.2.1 s.2.2.2.2 nx q (qH p.2.2.2 vs bs k M) [c] 0 0 0 0 0 false 0 false 0 vs bs=_;unfold eH;rw[ZAK (by omega),acZ hk,ZAA,hn,ZAA,acZ (by omega),ZAA,hv,ZAA,acZ (by omega),ZAA,hb,w64 (by omega)];show _=some (Sum.inl (((k+1:Nat):Int),stZ s nx q (qH p.2.2.2 vs bs (k+1) M) ([c],z9 (vs,bs))))
  conv=>rhs;unfold qH
  rw[hn,hv,hb]
  rfl
 show eH bB p (p.2.2.2.length:Int) s.1 s.2.1.1 s.2.1.2 s.2.2.1.1 s.2.2.1.2 s.2.2.2.1 s.2.2.2.2 nx q _ [c] 0 0 0 0 0 false 0 false 0 vs bs=_;simp_all[eH,ZAD]
end
structure lE (s:cS) (q:Nat) (nx:Int) (M:BM) (n:Int):Prop where
 ok:wA s q
 xs:wY n s.2.2.1.2
 i:0<=n/\n<=30
 w:s.2.1.2<=258*n
 x:0<=nx/\nx<=258*n
 b:∀p,(blk M p).length=0\/(blk M p).length=q
 z:blk M (0,0)=[]
 v:∀x∈s.2.1.1,∀p∈x.2.2.2.2.2.1,dF p=true\/(p.2<=nx/\(blk M p).length=q)
def OG(r:bX)(b:List UInt8):bX:=(r.1,(r.2.1,(r.2.2.1,(r.2.2.2.1,(r.2.2.2.2.1,(r.2.2.2.2.2.1,(b,r.2.2.2.2.2.2.2)))))))
def zN(M:BM)(l:List fU):List (List UInt8):=l.map fun n=>blk M n.2.1
def AU(s:cS)(q:Nat)(M:BM)(c:bT):bX:=
 if c.2.2.1=uO 4/\(bN (bG s.2.1) c).2.1=0 then OG (dO s c) (FO q (min (nY s c).2.2.2.2.1.toNat c.2.2.2.2.2.2.2.1.toNat/q) (nY s c).2.2.2.2.1.toNat c (zN M (gY (nY s c) q c))) else dO s c
def cN(s:cS)(q:Nat)(c:bT):List fU:=(dZ s q c).1.2.2.2
def newM(s:cS)(q:Nat)(nx:Int)(M:BM)(c:bT):BM:=qH (cN s q c) (eR nx (cN s q c).length) (iE q c (cN s q c) ((cN s q c).map (oB (dZ s q c).1.2.2.1 M))) (cN s q c).length M
inductive vR (s:cS) (q:Nat) (nx:Int) (M:BM) (c:bT):bX->cS->Int->BM->Prop
 |bad:bK c=false->vR s q nx M c (JA c 179) s nx M
 |tell:bK c=true->jI c.2.2.1=true->vR s q nx M c (AU s q M c) s nx M
 |done {s'}:bK c=true->jI c.2.2.1=false->Next s q c (eR nx (cN s q c).length) s'->vR s q nx M c (dO s c) s' (nx+((cN s q c).length:Nat)) (newM s q nx M c)
theorem sUZ{s}{q}{c}(hr:bK c=true)(ha:jI c.2.2.1=false)(hl:(look s.2.2.1 c.1 c.2.1).2=0):(dZ s q c).1.1=2:=by
 unfold dZ
 grind
theorem gjZ(P)(wh)(a)(w):∀(k) (nd),nd∈(dS P wh a k w).2.2↔∃j,j<k/\nd=(((a+j:Nat):Int),(pAt P (a+j),(pAt P (a+j)).1))/\dF (pAt P (a+j))=false/\wh (a+j)=false
 |0,nd=>⟨fun h=>(by cases h),fun⟨j,h,_⟩=>(by omega)⟩
 |k+1,nd=>by
  have ih:=gjZ P wh a w k nd;have up:∀{Q:Nat->Prop},(∃j,j<k+1/\Q j)↔(∃j,j<k/\Q j)\/Q k:=fun{Q}=>⟨fun⟨j,h,q⟩=>by
   by_cases e:j=k
   ·exact .inr (e▸q)
   ·exact .inl ⟨j,by omega,q⟩,fun h=>h.elim (fun⟨j,h,q⟩=>⟨j,by omega,q⟩) fun q=>⟨k,by omega,q⟩⟩
  show nd∈(iD P wh (a+k) (dS P wh a k w)).2.2↔_;unfold iD
  grind
theorem reZ(P)(i):pAt P i=(0,0)\/pAt P i∈P:=by
 unfold pAt
 grind
section
variable {s : cS} {q : Nat} {nx : Int} {M : BM} {n : Int} {c : bT}
structure TL (s:cS) (q:Nat) (nx:Int) (M:BM) (c:bT):Prop where
 len:(cN s q c).length<=258
 rd:(dZ s q c).1.2.2.1.length<=258
 op:(cN s q c).length≠0->c.2.2.1=uO 5\/c.2.2.1=uO 6
 at_:∀nd∈cN s q c,(0<=nd.1/\nd.1<=4096)/\nd.2.1.2<=nx
 old:∀nd∈cN s q c,inB (dZ s q c).1.2.2.1 nd=true->(blk M nd.2.1).length=q
theorem s4Z(h:lE s q nx M n)(h2:(dZ s q c).1.1=2):TL s q nx M c:=by
 let⟨_,hr,_⟩:=cAZ h2
 have hq:=h.ok.q;by_cases hw:(bN (bG s.2.1) c).2.1=0/\(c.2.2.1=uO 5\/c.2.2.1=uO 6)
 ·let⟨x,hx⟩:=nmZ (q:=q) hr hw.2 hw.1
  have hxm:=ZAI hx.f.at_;have hmn:=lLZ (x:=x) hq.1 (ayZ hr).2.2;have hf:=bjZ x.2.2.2.2.2.1 (eZ q c) (cY q c) s.2.1.2 (eQ x q c);have e:cN s q c=(dS x.2.2.2.2.2.1 (eZ q c) (cY q c) (eQ x q c) s.2.1.2).2.1:=by unfold cN;rw[gXZ h2 hx];rfl
  have e2:(dZ s q c).1.2.2.1=(dS x.2.2.2.2.2.1 (eZ q c) (cY q c) (eQ x q c) s.2.1.2).2.2:=by rw[gXZ h2 hx];rfl
  have hN4:jL x q c<=4096:=by
   have r3:=(eAZ h.ok.t hx.r hx.hop hx.h0 hx.f).2.2;unfold jL;exact lEZ (by omega) (by omega)
  have nx0:=h.x;refine⟨by simp_all,by grind,fun _=>hw.2,fun nd hnd=> ?_,fun nd _ hi=> ?_⟩
  ·rw[e] at hnd
   let⟨j,hj⟩:=ZAT hnd
   have hj2:=(ZAC.1 hj).1;rw[ddZ _ _ _ _ _ _ (by omega:j<eQ x q c)] at hj;obtain rfl:=ZAg hj;have:=hx.span hq.1 (by omega);refine⟨by simp;omega,?_⟩;show(pAt x.2.2.2.2.2.1 (cY q c+j)).2<=nx;rcases reZ x.2.2.2.2.2.1 (cY q c+j) with z|z
   ·rw[z];exact nx0.1
   ·rcases h.v x hxm _ z with u|u
    ·unfold dF at u;simp[ZBp] at u;omega
    ·exact u.1
  ·rw[pMZ,e2,gjZ] at hi;obtain⟨j,_,rfl,h1,_⟩:=hi;show(blk M (pAt x.2.2.2.2.2.1 (cY q c+j))).length=q;rcases reZ x.2.2.2.2.2.1 (cY q c+j) with z|z
   ·rw[z] at h1;cases h1
   ·rcases h.v x hxm _ z with u|u
    ·rw[h1] at u;cases u
    ·exact u.2
 ·have e:=qLZ h2 hw;have en:cN s q c=[]:=by unfold cN;rw[e]
  refine⟨by rw[en];decide,by rw[e];decide,fun z=>absurd (by rw[en];rfl) z,fun nd h=> ?_,fun nd h=> ?_⟩<;>(rw[en] at h;cases h)
theorem e8Z{l}{k}{bs}{p}(h:p.2<=nx):∀m,m<=k->blk (qH l (eR nx k) bs m M) p=blk M p
 |0,_=>rfl
 |m+1,hm=>by
  unfold qH;rw[d4Z (by omega),lSZ,ZAJ,e8Z h m (by omega)];rintro rfl;simp at h;omega
theorem iAZ{l}{k}{bs}{j}{nd}(hn:l[j]? =some nd):∀m,j<m->m<=k->blk (qH l (eR nx k) bs m M) (nd.2.2,nx+(j:Int)+1)=(bs[j]?).getD []
 |m+1,hj,hm=>by
  unfold qH;rw[d4Z (by omega),lSZ];by_cases e:j=m
  ·simp_all
  ·rw[iAZ hn m (by omega) (by omega)]
   grind
theorem nfZ{l}{vs}{bs}(hb:∀b∈bs,b.length=q)(h:∀p,(blk M p).length=0\/(blk M p).length=q):∀m p,(blk (qH l vs bs m M) p).length=0\/(blk (qH l vs bs m M) p).length=q
 |0,p=>h p
 |m+1,p=>by
  unfold qH;rw[lSZ];split
  ·grind
  ·exact nfZ hb h m p
theorem mMZ{l}{olds}:∀b∈iE q c l olds,b.length=q:=fun b hb=>by
 let⟨j,hj⟩:=ZAT hb
 unfold iE at hj
 grind[ZAg,dOZ]
end
section
variable {s : cS} {q : Nat} {nx : Int} {M : BM} {n : Int} {c : bT}
noncomputable abbrev jM (s : cS) (q : Nat) (nx ) (M : BM) (c : bT) := dN bB c s.1 s.2.1.1 s.2.1.2 s.2.2.1.1 s.2.2.1.2 s.2.2.2.1 s.2.2.2.2 nx (q : Int) M
theorem vPZ(h:wA s q)(hr:bK c=false):jM s q nx M c=some (jK (JA c 179) (true,stD s nx q M)):=by
 unfold jM dN Pa Pb Pc Pd Pe Pf Pg Ph Pi Pj Pk Pl Pm Pn Po Pp Pq Pr Ps Pt Pu PH PS PU;rw[(eiZ h c)];rw[show dZ s q c=((0,(zR,([],[]))),179) by unfold dZ;rw[hr];rfl]
 rfl
theorem oaZ(hr:bK c=true)(ha:jI c.2.2.1=true):dZ s q c=if c.2.2.1=uO 4/\(bN (bG s.2.1) c).2.1=0 then((1,(noB (dO s c),(gY (nY s c) q c,[]))),0) else((1,(dO s c,([],[]))),0):=by
 unfold dZ;rw[ZAL hr,ZAL ha];rfl
theorem wwZ(r):(noB r).2.2.1=r.2.2.1:=rfl
theorem r6Z{x}(hx:jJ s c x):cW (bG s.2.1) c.2.2.2.1=(c.2.2.2.1.1,jH x,0):=by
 have hb0:(bG s.2.1).1.1[(c.2.2.2.1.1-1).toNat]? =some (dG x):=by
  unfold bG;simp only[ZAV,hx.at_];rfl
 have hd0:(bG s.2.1).2[(c.2.2.2.1.1-1).toNat]? =some (jH x):=by
  unfold bG;simp only[ZAV,hx.at_];rfl
 unfold cW;rw[coZ.2 ((⟨hx.h1,hb0,hx.used,hx.gen⟩))];simp only;rw[show(dG x).2.2.2.1=false from hx.dir,hd0];rfl
theorem tvZ{x}(hr:bK c=true)(h4:c.2.2.1=uO 4)(h0:(bN (bG s.2.1) c).2.1=0)(hx:jJ s c x):(bN (bG s.2.1) c).2.2=((0,0),false,(((jH x).length:Nat):Int),FM (jH x) c.2.2.2.2.2.2.2.1 c.2.2.2.2.2.2.2.2.1,[],decide (c.2.2.2.2.2.2.2.1+c.2.2.2.2.2.2.2.2.1<(((jH x).length:Nat):Int)),0):=by
 unfold bN;rw[ZAL hr,ZAL (res0 hr h0),act4 h4];unfold jN;rw[r6Z hx,ZAL rfl]
theorem otZ{R:bX}{l:List fU}{b}(hp:nU bB s (q:Int) c=some ((1,(R,(l,[]))),0))(h4:c.2.2.1=uO 4)(h0:R.2.2.1=0)(hl:l.length<=100000)(hg:NQ bB (q:Int) c R.2.2.2.2.2.1 l (zN M l)=some (0,b)):
 jM s q nx M c=some (jK (OG R b) (true,stD s nx q M)):=by
 unfold jM dN Pa Pb Pc Pd Pe Pf Pg Ph Pi Pj Pk Pl Pm Pn Po Pp Pq Pr Ps Pt Pu PH PS PU;rw[(hp),ZAA];simp[ZAM];refine(congrArg (fun o=>Option.bind o _) (ndZ hl)).trans ?_;rw[ZAA];simp[ZAA];rw[op4,ZAK h4]
 let⟨r0,r1,r2,r3⟩:=R
 simp at h0 hg;subst h0;simp only[ZAM,(rfl),ZAA,ZAP,ZBo];refine(congrArg (fun o=>Option.bind o _) hg).trans ?_
 rfl
theorem qTZ{R:bX}(hp:nU bB s (q:Int) c=some ((1,(R,([],[]))),0))(h4:c.2.2.1=uO 4->R.2.2.1≠0):jM s q nx M c=some (jK R (true,stD s nx q M)):=by
 unfold jM dN Pa Pb Pc Pd Pe Pf Pg Ph Pi Pj Pk Pl Pm Pn Po Pp Pq Pr Ps Pt Pu PH PS PU;rw[(hp),ZAA];simp[ZAM];refine(congrArg (fun o=>Option.bind o _) (ndZ (by simp))).trans ?_;rw[ZAA];simp[ZAA];rw[op4];by_cases e4:c.2.2.1=uO 4
 ·rw[ZAK e4];simp[(ZAa.2 (h4 e4)),ZAA,ZAP,ZBo]
  rfl
 ·rw[ZAE e4];simp only[ZAD,ZAA,ZAP,ZBo]
  rfl
theorem uRZ(h:lE s q nx M n)(hr:bK c=true)(ha:jI c.2.2.1=true):jM s q nx M c=some (jK (AU s q M c) (true,stD s nx q M)):=by
 have hq:=h.ok.q;have hp:=eiZ h.ok c;rw[oaZ hr ha] at hp;unfold AU;by_cases h4:c.2.2.1=uO 4/\(bN (bG s.2.1) c).2.1=0
 ·rw[ZAL h4] at hp⊢
  let⟨x,hx⟩:=uAZ hr h4.1 h4.2
  have hsz:=dxZ h.ok.t hx.at_;have hl:=h.ok.l _ _ hx.at_ hx.used hx.dir;have hN4:(x.2.2.2.2.1.toNat+q-1)/q<=4096:=lEZ (by omega) (by have:4096*16<=4096*q:=ZB9 _ hq.1;omega);have hrd:gY (nY s c) q c=gY x q c:=by rw[hx.p]
  have hmono:=jkZ (q:=q) (a:=min x.2.2.2.2.1.toNat (c.2.2.2.2.2.2.2.1.toNat+c.2.2.2.2.2.2.2.2.1.toNat)) (Nat.min_le_left _ _);have at_:∀(j) nd,(gY x q c)[j]? =some nd->nd.1=((min x.2.2.2.2.1.toNat c.2.2.2.2.2.2.2.1.toNat/q+j:Nat):Int)/\nd.1<=4096:=fun j nd hj=>by
   unfold gY at hj;split at hj
   ·unfold kU at hj;have hlt:=(ZAC.1 hj).1;rw[ZAp,List.length_range] at hlt;rw[ZAV,ZCp hlt] at hj;obtain rfl:=ZAg hj;exact⟨rfl,by simp;omega⟩
   ·cases hj
  have hlen:(gY x q c).length<=4096:=by
   unfold gY;split
   ·rw[hLZ];exact ZBC (Nat.sub_le _ _) (ZBC hmono hN4)
   ·exact ZBF _
  have hg:xQ q (gY x q c) (zN M (gY x q c)):=⟨by unfold zN;rw[ZAp],by omega,fun b hb=>by
   obtain⟨nd,_,rfl⟩:=ZBf.1 hb;exact h.b _,fun nd hnd=>by
   let⟨j,hj⟩:=ZAT hnd
   have:=at_ j nd hj;exact⟨by rw[this.1];exact Int.natCast_nonneg _,by omega⟩⟩
  have hf:(dO s c).2.2.2.2.2.1=((x.2.2.2.2.1.toNat:Nat):Int):=by
   show(bN (bG s.2.1) c).2.2.2.2.1=_;rw[tvZ hr h4.1 h4.2 hx];show(((jH x).length:Nat):Int)=_;unfold jH;rw[ZBL]
  rw[hrd] at hp⊢;refine(otZ hp h4.1 ((wwZ _).trans h4.2) (by omega) ?_).trans rfl;rw[hx.p];refine Eq.trans ?_ (rOZ hq hr h4.1 (by omega) hg fun j nd hj=>(at_ j nd hj).1);rw[<-hf];rfl
 ·rw[ZAJ h4] at hp⊢;exact qTZ hp fun e z=>h4 ⟨e,z⟩
end
section
variable {s : cS} {q : Nat} {nx : Int} {M : BM} {n : Int} {c : bT}
theorem ojZ{p:wL}{s':cS}{r}(hp:nU bB s (q:Int) c=some (p,0))(h2:p.1=2)(h1:p.2.2.1.length<=258)(hl:p.2.2.2.length<=258)(hn:0<=nx/\nx<=1099511627776)
 (hM:∀n∈p.2.2.2,inB p.2.2.1 n=true->(blk M n.2.1).length≠0/\(blk M n.2.1).length<=1000)
 (hb:p.2.2.2.length≠0->NS bB (q:Int) c p.2.2.2 (p.2.2.2.map (oB p.2.2.1 M))=some (0,iE q c p.2.2.2 (p.2.2.2.map (oB p.2.2.1 M))))
 (ha:nV bB s (q:Int) c (eR nx p.2.2.2.length) 0=some (s',jK r (0:Int))):
 jM s q nx M c=some (jK r (true,stD s' (nx+(p.2.2.2.length:Nat)) q (qH p.2.2.2 (eR nx p.2.2.2.length) (iE q c p.2.2.2 (p.2.2.2.map (oB p.2.2.1 M))) p.2.2.2.length M))):=by
 unfold jM dN Pa Pb Pc Pd Pe Pf Pg Ph Pi Pj Pk Pl Pm Pn Po Pp Pq Pr Ps Pt Pu PH PS PU;rw[(hp),ZAA];simp only;rw[h2];simp only[(rfl),(rfl),(rfl),show((2:Int)==2)=true from rfl,ZAO,ZAD,ZAM];refine(congrArg (fun o=>Option.bind o _) (teZ (by grind) (by grind) hn hM)).trans ?_;rw[ZAA];simp only[ZAP,ZAA];have hol:(p.2.2.2.map (oB p.2.2.1 M)).length=p.2.2.2.length:=ZAp ..;have hnl:(iE q c p.2.2.2 (p.2.2.2.map (oB p.2.2.1 M))).length=p.2.2.2.length:=by unfold iE;rw[List.length_zipWith,hol];omega
 have hvl:=cDZ nx p.2.2.2.length;by_cases h0:p.2.2.2.length=0
 ·have hnil:=ZBd.1 h0;rw[ZAE (by omega)];simp only[ZAD,ZAA,ZAP];refine(congrArg (fun o=>Option.bind o _) ((ha))).trans ?_;rw[ZAA];simp only[ZAP,ZAA,ZBo];rw[show qH p.2.2.2 (eR nx p.2.2.2.length) (iE q c p.2.2.2 (p.2.2.2.map (oB p.2.2.1 M))) p.2.2.2.length M=M by rw[h0];rfl]
  rfl
 ·rw[ZAK (by omega)];simp only[ZAM];rw[hb h0,ZAA];simp only[show((0:Int)==0)=true from rfl,ZAO,ZAD,ZAA];rw[hnl,ZAb];simp only[ZAO,ZAD,ZAA,ZAP];refine(congrArg (fun o=>Option.bind (Option.bind o _) _) (sFZ (by omega) hvl hnl)).trans ?_;rw[ZAA,ZAA];simp only[ZAP,ZAA];refine(congrArg (fun o=>Option.bind o _) ((ha))).trans ?_;rw[ZAA];simp only[ZAP,ZAA,ZBo]
  rfl
theorem p6Z(h:lE s q nx M n)(hr:bK c=true)(ha:jI c.2.2.1=false)(hn:n<c.2.1):Ask s q c (eR nx (cN s q c).length)/\TL s q nx M c:=by
 have h2:=sUZ (q:=q) hr ha (by rw[sRZ h.ok.c h.xs hn]);have N:=s4Z h h2;have h0:=h.x;have hi:=h.i;refine⟨⟨h.ok,h2,h.xs.mono (by omega),uTZ h2 (cDZ _ _) (by rw[cDZ];have:=N.len;omega) fun j nd v hj hv=> ?_⟩,N⟩;have hlt:j<(cN s q c).length:=(ZAC.1 hj).1;rw[d4Z hlt] at hv;obtain rfl:=ZAg hv;have:=(N.at_ nd (ZAI hj)).2;have:=N.len;omega
theorem vnZ(h:lE s q nx M n)(hr:bK c=true)(ha:jI c.2.2.1=false)(hn:n<c.2.1):
 ∃s',jM s q nx M c=some (jK (dO s c) (true,stD s' (nx+((cN s q c).length:Nat)) q (newM s q nx M c)))/\Next s q c (eR nx (cN s q c).length) s':=by
 let⟨A,N⟩:=p6Z h hr ha hn
 have hq:=h.ok.q;have h0:=h.x;have hi:=h.i;have hw:=h.w;obtain⟨s',e1,e2⟩:=nAZ A (by omega) (cDZ _ _) fun v hv=>by
  obtain⟨j,hj,rfl⟩:=ZBf.1 hv;have:=ZCW.1 hj;have:=N.len;omega
 have hp:=eiZ h.ok c;rw[show dZ s q c=((dZ s q c).1,0) from Prod.ext rfl (cAZ A.two).1] at hp;refine⟨s',ojZ hp A.two N.rd N.len (by omega) (fun nd hnd hin=> ?_) (fun hne=> ?_) e1,e2⟩
 ·have:=N.old nd hnd hin;omega
 ·refine pHZ hq hr (N.op hne) ⟨ZAp ..,ZBC N.len (by decide),fun b hb=> ?_,fun nd hnd=> ?_⟩
  ·obtain⟨nd,_,rfl⟩:=ZBf.1 hb;unfold oB;split
   ·exact h.b _
   ·exact .inl rfl
  ·have:=(N.at_ nd hnd).1;omega
theorem hXZ{l0 l1}{i}{p}(h:p∈cM l0 l1 i):∃x∈l0,p∈x.2.2.2.2.2.1:=by
 grind[cM,ZAI]
theorem oWZ{vs}(A:Ask s q c vs)(hv:vs.length=(cN s q c).length){x}(hx:x∈wN s q c vs){p}(hp:p∈x.2.2.2.2.2.1):
 dF p=true\/(∃y∈s.2.1.1,p∈y.2.2.2.2.2.1)\/∃(j:Nat) (nd:fU) (v:Int),(cN s q c)[j]? =some nd/\vs[j]? =some v/\p=(nd.2.2,v):=by
 obtain⟨_,hr,_⟩:=cAZ A.two;obtain⟨i,hi⟩:=ZAT hx;unfold wN at hi;split at hi
 ·rename_i h0;split at hi
  ·rename_i hop;obtain⟨y,hy⟩:=nmZ hr hop h0;rw[hy.f.p] at hi;unfold lW at hi;by_cases e:atC c=i
   ·subst e;rw[ZAR (by rw[bJZ];exact(ZAC.1 (eeZ hy)).1)] at hi;obtain rfl:=ZAg hi;have hp:=hp;have hP:=(hDZ A.ok.t y (ZAI hy.f.at_)).2;have hst:=A.ok.t.r.str;have W:=msZ (wh:=eZ q c) (n:=eQ y q c) (N:=jL y q c) (w:=s.2.1.2) (W:=s.2.1.2) (vs:=vs) (hy.span A.ok.q.1) hP (ZB8 _) hst.1 (eQ y q c) (ZAN _);have en:cN s q c=(dS y.2.2.2.2.2.1 (eZ q c) (cY q c) (eQ y q c) s.2.1.2).2.1:=by unfold cN;rw[gXZ A.two hy];rfl
    have hf:=(bjZ y.2.2.2.2.2.1 (eZ q c) (cY q c) s.2.1.2 (eQ y q c)).1;rcases W.ok p hp with z|⟨j,j1,j2,_⟩
    ·rcases ZAh.1 z with u|u
     ·exact .inr (.inl ⟨y,ZAI hy.f.at_,ZBx u⟩)
     ·rw[(List.mem_replicate.1 u).2];exact .inl rfl
    ·have hj:j<vs.length:=by rw[hv,en,hf];exact j1
     refine .inr (.inr ⟨j,_,vs[j],by rw[en];exact ddZ _ _ _ _ _ _ j1,ZAB hj,?_⟩);rw[j2,ZAB hj];rfl
   ·rw[ZAX e] at hi;obtain⟨z,_,rfl⟩:=aYZ hi;exact .inr (.inl (hXZ hp))
  ·obtain⟨z,_,rfl⟩:=aYZ hi;exact .inr (.inl (hXZ hp))
 grind
theorem lE.next(h:lE s q nx M n)(hr:bK c=true)(ha:jI c.2.2.1=false)(hn:n<c.2.1/\c.2.1<=30){s'}(N:Next s q c (eR nx (cN s q c).length) s'):
 lE s' q (nx+((cN s q c).length:Nat)) (newM s q nx M c) c.2.1:=by
 let⟨A,D⟩:=p6Z h hr ha hn.1
 have h0:=h.x;have hw:=h.w;have nw:=N.w;have dl:=D.len;refine⟨N.ok,N.xs,by omega,by omega,by omega,nfZ mMZ h.b _,?_,fun x hx p hp=> ?_⟩
 ·unfold newM;rw[e8Z h0.1 _ (ZAN _)];exact h.z
 ·rw[N.tree] at hx;rcases oWZ A (cDZ _ _) hx hp with z|⟨y,hy,hpy⟩|⟨j,nd,v,j1,j2,rfl⟩
  ·simp_all
  ·refine(h.v y hy p hpy).imp id fun u=>⟨by omega,?_⟩
   simp_all[newM,e8Z]
  ·have hlt:=(ZAC.1 j1).1;rw[d4Z hlt] at j2;obtain rfl:=ZAg j2;refine .inr ⟨by simp;omega,?_⟩;unfold newM;rw[iAZ j1 _ hlt (ZAN _)];have hnl:(iE q c (cN s q c) ((cN s q c).map (oB (dZ s q c).1.2.2.1 M))).length=(cN s q c).length:=by unfold iE;rw[List.length_zipWith,ZAp];omega
   rw[ZAB (by omega)];exact mMZ _ (ZBN _)
theorem lE.mono(h:lE s q nx M n){m}(hm:n<=m/\m<=30):lE s q nx M m:=by
 have h2:=h.w;have h3:=h.x;exact⟨h.ok,h.xs.mono hm.1,by omega,by omega,by omega,h.b,h.z,h.v⟩
theorem pSZ(h:lE s q nx M n)(hn:n<c.2.1/\c.2.1<=30):∃r s' nx' M',jM s q nx M c=some (jK r (true,stD s' nx' q M'))/\vR s q nx M c r s' nx' M'/\lE s' q nx' M' c.2.1:=by
 cases hr:bK c
 ·exact⟨_,_,_,_,vPZ h.ok hr,.bad hr,h.mono ⟨by omega,hn.2⟩⟩
 ·cases ha:jI c.2.2.1
  ·let⟨s',e1,e2⟩:=vnZ h hr ha hn.1
   exact⟨_,_,_,_,e1,.done hr ha e2,h.next hr ha hn e2⟩
  ·exact⟨_,_,_,_,uRZ h hr ha,.tell hr ha,h.mono ⟨by omega,hn.2⟩⟩
end
theorem tYZ(l:List Ino)(w v:Int)(d:Int×Int)(s:List UInt8)(is:Bool):fT (l,w) d s is=(((fT (l,v) d s is).1.1,w),(fT (l,v) d s is).2):=by
 unfold fT
 (repeat' split)<;>first|rfl|(simp_all;done)|(simp_all;omega)|grind
theorem mQZ(l:List Ino)(w v:Int)(d:Int×Int)(s:List UInt8)(is:Bool):eC (l,w) d s is=(((eC (l,v) d s is).1.1,w),(eC (l,v) d s is).2):=by
 unfold eC
 (repeat' split)<;>first|rfl|simp_all
theorem sdZ(l:List Ino)(w v:Int)(a:Int×Int)(old:List UInt8)(b:Int×Int)(name:List UInt8):eD (l,w) a old b name=(((eD (l,v) a old b name).1.1,w),(eD (l,v) a old b name).2):=by
 unfold eD
 (repeat' split)<;>first|rfl|(simp_all;done)|(simp_all;omega)|grind
structure zO (m n:Mod):Prop where
 t:m.1.1=n.1.1
 l:m.2.length=n.2.length
 s:∀(i:Nat) x y,m.2[i]? =some x->n.2[i]? =some y->x.length=y.length
theorem zO.file{m n:Mod}(h:zO m n)(H:Int×Int):(cW m H).1=(cW n H).1/\(cW m H).2.1.length=(cW n H).2.1.length/\(cW m H).2.2=(cW n H).2.2:=by
 unfold cW;rw[h.t];cases DJ n.1.1 H with
 |none=>exact⟨rfl,rfl,rfl⟩
 |some x=>
  simp only;cases x.2.2.2.1
  ·simp only[ZAD];cases e1:m.2[(H.1-1).toNat]? with
   |none=>
    rw[ZAd (l:=n.2) (by have:=List.getElem?_eq_none_iff.1 e1;rw[<-h.l];exact this)];exact⟨rfl,rfl,rfl⟩
   |some b=>
    have hlt:=(ZAC.1 e1).1;rw[h.l] at hlt;rw[ZAB hlt];exact⟨rfl,h.s _ _ _ e1 (ZAB hlt),rfl⟩
  ·exact⟨rfl,rfl,rfl⟩
def KI(r:Rep):Rep:=(r.1,r.2.1,r.2.2.1,[],r.2.2.2.2)
def OH(c:bT)(q q':DoR):Prop:=q.1=q'.1/\q.2.1.1.1=q'.2.1.1.1/\KI q.2.2=KI q'.2.2/\(c.2.2.1≠uO 4->q.2.2=q'.2.2)
theorem zO.act{m n:Mod}(h:zO m n)(c:bT):OH c (cK m c) (cK n c):=by
 obtain⟨⟨l,w⟩,d⟩:=m;obtain⟨⟨l',v⟩,e⟩:=n;have ht:l=l':=h.t;subst ht;have hf:=h.file c.2.2.2.1;obtain⟨f1,f2,f3⟩:=hf;have all:∀q q':DoR,q.1=q'.1->q.2.1.1.1=q'.2.1.1.1->q.2.2=q'.2.2->OH c q q':=fun q q' a b z=>⟨a,b,by rw[z],fun _=>z⟩;have look:kD (l,w) c.2.2.2.1 c.2.2.2.2.1=kD (l,v) c.2.2.2.1 c.2.2.2.2.1:=rfl;unfold cK;by_cases e1:c.2.2.1=uO 1
 ·rw[ZAL e1,ZAL e1];have e:jG ((l,w),d) c=((jG ((l,v),e) c).1,(((l,w),d),(jG ((l,v),e) c).2.2))/\(jG ((l,v),e) c).2.1=((l,v),e):=by
   unfold jG;rw[look];by_cases h0:(kD (l,v) c.2.2.2.1 c.2.2.2.2.1).1=0
   ·rw[ZAL h0,ZAL h0];simp only;cases l[((kD (l,v) c.2.2.2.1 c.2.2.2.2.1).2.1-1).toNat]? <;>exact⟨rfl,rfl⟩
   ·rw[ZAJ h0,ZAJ h0];exact⟨rfl,rfl⟩
  rw[e.1];exact all _ _ rfl (by rw[e.2]) rfl
 rw[ZAJ e1,ZAJ e1];by_cases e2:c.2.2.1=uO 2
 ·rw[ZAL e2,ZAL e2];refine all _ _ ?_ ?_ ?_<;>(unfold gN;simp only[tYZ l w v];split<;>rfl)
 rw[ZAJ e2,ZAJ e2];by_cases e3:c.2.2.1=uO 3
 ·rw[ZAL e3,ZAL e3];refine all _ _ ?_ ?_ ?_<;>(unfold gN;simp only[tYZ l w v];split<;>rfl)
 rw[ZAJ e3,ZAJ e3];by_cases e4:c.2.2.1=uO 4
 ·rw[ZAL e4,ZAL e4];unfold jN;simp only[f3];split
  ·refine⟨rfl,rfl,?_,fun z=>absurd e4 z⟩;unfold KI;simp only[f2]
  ·exact⟨rfl,rfl,rfl,fun _=>rfl⟩
 rw[ZAJ e4,ZAJ e4];by_cases e5:c.2.2.1=uO 5
 ·rw[ZAL e5,ZAL e5];have hw:dU (cW ((l,w),d) c.2.2.2.1).2.1 c.2.2.2.2.2.2.2.1 c.2.2.2.2.2.2.2.2.2=dU (cW ((l,v),e) c.2.2.2.1).2.1 c.2.2.2.2.2.2.2.1 c.2.2.2.2.2.2.2.2.2:=by unfold dU;rw[f2]
  refine all _ _ ?_ ?_ ?_<;>(unfold iM nX;simp only[f3,c9Z,hw];(repeat' split)<;>rfl)
 rw[ZAJ e5,ZAJ e5];by_cases e6:c.2.2.1=uO 6
 ·rw[ZAL e6,ZAL e6];refine all _ _ ?_ ?_ ?_<;>(unfold lY nX;simp only[f3,aNZ];(repeat' split)<;>rfl)
 rw[ZAJ e6,ZAJ e6];by_cases e7:c.2.2.1=uO 7
 ·rw[ZAL e7,ZAL e7];refine all _ _ ?_ ?_ ?_<;>(unfold dM;simp only[mQZ l w v];split<;>rfl)
 rw[ZAJ e7,ZAJ e7];by_cases e8:c.2.2.1=uO 8
 ·rw[ZAL e8,ZAL e8];refine all _ _ ?_ ?_ ?_<;>(unfold dM;simp only[mQZ l w v];split<;>rfl)
 rw[ZAJ e8,ZAJ e8];by_cases e9:c.2.2.1=uO 9
 ·rw[ZAL e9,ZAL e9];refine all _ _ ?_ ?_ ?_<;>(unfold fB;simp only[sdZ l w v];split<;>rfl)
 rw[ZAJ e9,ZAJ e9];by_cases e10:c.2.2.1=uO 10
 ·rw[ZAL e10,ZAL e10];exact all _ _ rfl rfl rfl
 rw[ZAJ e10,ZAJ e10];by_cases e11:c.2.2.1=uO 11
 ·rw[ZAL e11,ZAL e11];refine all _ _ ?_ ?_ ?_<;>(unfold rV;simp only;split<;>rfl)
 rw[ZAJ e11,ZAJ e11];split<;>exact all _ _ rfl rfl rfl
theorem zO.res{m n:Mod}(h:zO m n)(c:bT):(bN m c).2.1=(bN n c).2.1/\(bN m c).1.1.1=(bN n c).1.1.1/\KI (bN m c).2.2=KI (bN n c).2.2/\(c.2.2.1≠uO 4->(bN m c).2.2=(bN n c).2.2):=by
 obtain⟨a1,a2,a3,a4⟩:=h.act c;unfold bN;split
 ·rw[a1];split
  ·exact⟨rfl,a2,a3,a4⟩
  ·exact⟨rfl,h.t,rfl,fun _=>rfl⟩
 ·exact⟨rfl,h.t,rfl,fun _=>rfl⟩
theorem jbZ{s:cS}{m:Mod}(h:bL s.2.1)(hm:bW m)(ht:m.1.1=s.2.1.1.map dG):zO m (bG s.2.1):=by
 have hb:=aZZ h;refine⟨ht,by rw[hm.n,hb.n,ht];rfl,fun i x y hx hy=> ?_⟩;obtain⟨z,hz⟩:∃z,m.1.1[i]? =some z:=⟨_,ZAB (by rw[<-hm.n];exact(ZAC.1 hx).1)⟩;have a:=hm.s i z x hz hx;have b:=hb.s i z y (by rw[show(bG s.2.1).1.1=m.1.1 from ht.symm];exact hz) hy;omega
def dAt(d:List UInt8)(z:Nat):UInt8:=(d[z]?).getD 0
def byB(M:BM)(q:Nat)(P:List cV)(z:Nat):UInt8:=dAt (blk M (pAt P (z/q))) (z%q)
theorem gcZ(b:List UInt8)(n z:Nat):dAt (lX b n) z=if z<n then dAt b z else 0:=by
 unfold dAt lX;simp only[List.getElem?_append,ZAQ,ZAn,ZCS];by_cases h:z<b.length
 ·by_cases hn:z<n
  ·rw[ZAL (by omega),ZAL hn,ZAL hn]
  ·rw[ZAJ (by omega),ZAJ (by omega),ZAJ hn];rfl
 ·rw[ZAJ (by omega),ZAd (by omega)];split<;>split<;>rfl
theorem ohZ{l m:List UInt8}{k:Nat}(h:m=[]\/k+m.length<=l.length)(z:Nat):dAt (bY l k m) z=if k<=z then(m[z-k]?).getD (dAt l z) else dAt l z:=by
 rcases h with rfl|h
 ·rw[ibZ];simp
 unfold dAt;rw[ifZ h];by_cases h1:k<=z
 ·rw[ZAL h1];by_cases h2:z<k+m.length
  ·rw[ZAL ⟨h1,h2⟩,ZAB (by omega)];rfl
  ·rw[ZAJ (by omega),ZAd (l:=m) (by omega)];rfl
 ·rw[ZAJ (by omega),ZAJ h1]
def OI(c:bT)(b:List UInt8):List UInt8:=if c.2.2.1=uO 5 then mZ b c.2.2.2.2.2.2.2.1 c.2.2.2.2.2.2.2.2.2 else lX b c.2.2.2.2.2.2.2.2.1.toNat
theorem sGZ{c:bT}(h5:c.2.2.1=uO 5)(z:Nat)(o:UInt8):atF c z o=if c.2.2.2.2.2.2.2.1.toNat<=z then(c.2.2.2.2.2.2.2.2.2[z-c.2.2.2.2.2.2.2.1.toNat]?).getD o else o:=by
 unfold atF;rw[h5,ZAJ (by decide)];simp only[true_and]
theorem vJZ{c:bT}(h6:c.2.2.1=uO 6)(z:Nat)(o:UInt8):atF c z o=if c.2.2.2.2.2.2.2.2.1<=(z:Int) then 0 else o:=by
 unfold atF;rw[ZAL h6]
theorem vuZ{c:bT}(b:List UInt8)(hop:c.2.2.1=uO 5\/c.2.2.1=uO 6)(hr:bK c=true)(z:Nat):dAt (OI c b) z=atF c z (dAt b z):=by
 have hl:=ayZ hr;unfold OI;by_cases h5:c.2.2.1=uO 5
 ·rw[ZAL h5,sGZ h5];unfold mZ;rw[ohZ,gcZ]
  ·unfold dU;by_cases hb:c.2.2.2.2.2.2.2.2.2.length=0
   ·rw[ZBd.1 hb];have:¬z<b.length->dAt b z=0:=fun h=>by unfold dAt;rw[ZAd (by omega)];rfl
    simp only[List.getElem?_nil,Option.getD_none,ite_self,List.length_nil,ZCq];split<;>simp_all
   ·rw[ZAJ hb];by_cases hz:c.2.2.2.2.2.2.2.1.toNat<=z
    ·rw[ZAL (by omega),ZAL hz];by_cases hzz:z-c.2.2.2.2.2.2.2.1.toNat<c.2.2.2.2.2.2.2.2.2.length
     ·rw[show min c.2.2.2.2.2.2.2.1.toNat (max b.length (c.2.2.2.2.2.2.2.1.toNat+c.2.2.2.2.2.2.2.2.2.length))=c.2.2.2.2.2.2.2.1.toNat by omega,ZAB hzz];rfl
     ·rw[show min c.2.2.2.2.2.2.2.1.toNat (max b.length (c.2.2.2.2.2.2.2.1.toNat+c.2.2.2.2.2.2.2.2.2.length))=c.2.2.2.2.2.2.2.1.toNat by omega,ZAd (by omega)];unfold dAt;split
      ·rfl
      ·rw[ZAd (by omega)];rfl
    ·rw[ZAJ (by omega),ZAJ hz,ZAL (by omega)]
  ·rw[aNZ];unfold dU;by_cases hb:c.2.2.2.2.2.2.2.2.2.length=0
   ·exact .inl (ZBd.1 hb)
   ·rw[ZAJ hb];omega
 ·rw[ZAJ h5,vJZ (hop.resolve_left h5),gcZ];by_cases hz:z<c.2.2.2.2.2.2.2.2.1.toNat
  ·rw[ZAL hz,ZAJ (by omega)]
  ·rw[ZAJ hz,ZAL (by omega)]
theorem qZZ{q i k:Nat}(c:bT)(old:List UInt8)(hk:k<q):dAt (fR q c i old) k=atF c (i*q+k) (dAt old k):=by
 have e:(qF q old)[k]? =some (dAt old k):=by
  have h:=gcZ old q k;rw[ZAL hk] at h;unfold qF;rw[muZ,ZAB (by rw[aNZ];exact hk),<-h];unfold dAt;rw[ZAB (by rw[aNZ];exact hk)];rfl
 unfold fR;show((List.mapIdx _ _)[k]?).getD 0=_;rw[ZBz,e]
 rfl
theorem tOZ{P:List cV}{wh:Nat->Bool}{a n:Nat}{w:Int}{vs:List Int}(s:Int×List cV):∀k,k<=n->∀i,(wrF (dS P wh a n w).2.1 vs k s).2[i]? =if a<=i/\i<a+k then(s.2[i]?).map fun _=>(nC P wh a w (i-a),(vs[i-a]?).getD 0) else s.2[i]?
 |0,_,i=>by rw[ZAJ (by omega)];rfl
 |k+1,hk,i=>by
  have ih:=tOZ (P:=P) (wh:=wh) (a:=a) (n:=n) (w:=w) (vs:=vs) s k (by omega);unfold wrF;rw[ddZ P wh a w n k (by omega)];simp only[ZCB,ZBP];by_cases e:i=a+k
  ·subst e;rw[ZAL (by omega),show a+k-a=k by omega,ZCg];have:=ih (a+k);rw[ZAJ (by omega)] at this;by_cases hl:a+k<(wrF (dS P wh a n w).2.1 vs k s).2.length
   ·rw[ZAL rfl,ZAL hl,<-this,ZAB hl];rfl
   ·rw[ZAL rfl,ZAJ hl,<-this,List.getElem?_eq_none_iff.2 (Nat.le_of_not_lt hl)];rfl
  ·rw[ZAX (by omega),ih i];by_cases hi:a<=i/\i<a+k
   ·rw[ZAL hi,ZAL (by omega)]
   ·rw[ZAJ hi,ZAJ (by omega)]
section
variable {s : cS} {q : Nat} {nx : Int} {M : BM} {n : Int} {c : bT}
theorem rdZ{l:List fU}{k m:Nat}{bs:List (List UInt8)}{P:List cV}(h:∀p∈P,dF p=true\/p.2<=nx)(h0:0<=nx)(hm:m<=k)(z:Nat):byB (qH l (eR nx k) bs m M) q P z=byB M q P z:=by
 unfold byB;rw[e8Z _ m hm];rcases reZ P (z/q) with e|e
 ·rw[e];exact h0
 ·rcases h _ e with u|u
  ·unfold dF at u;simp only[ZAF,ZBp] at u;omega
  ·exact u
theorem mxZ{p:cV}(h:dF p=true):p=(0,0):=by
 unfold dF at h;simp only[ZAF,ZBp] at h;exact Prod.ext h.1 h.2
theorem t7Z(h:lE s q nx M n)(h2:(dZ s q c).1.1=2){x:Ino}(hx:Wri s q c x){b:List UInt8}(hb:∀z,byB M q x.2.2.2.2.2.1 z=dAt b z)(hl:((b.length:Nat):Int)=x.2.2.2.2.1)(z:Nat):
 byB (newM s q nx M c) q (wrL s q c (eR nx (cN s q c).length) x).2 z=atF c z (dAt b z):=by
 have hq:=h.ok.q;have hr:=ayZ hx.r;have hsp:=hx.span hq.1;have hxm:=ZAI hx.f.at_;have hP:=h.ok.l _ _ hx.f.at_ hx.f.used hx.f.dir;have hnil:dAt (blk M (0,0)) (z%q)=0:=by rw[h.z];rfl
 obtain⟨P,eP⟩:∃P,x.2.2.2.2.2.1=P:=⟨_,rfl⟩;have e:cN s q c=(dS P (eZ q c) (cY q c) (eQ x q c) s.2.1.2).2.1:=by unfold cN;rw[gXZ h2 hx,<-eP];rfl
 have e2:(dZ s q c).1.2.2.1=(dS P (eZ q c) (cY q c) (eQ x q c) s.2.1.2).2.2:=by rw[gXZ h2 hx,<-eP];rfl
 have hf:=(bjZ P (eZ q c) (cY q c) s.2.1.2 (eQ x q c)).1;have hlen:(cN s q c).length=eQ x q c:=by rw[e];exact hf
 have hat:=tOZ (P:=P) (wh:=eZ q c) (a:=cY q c) (w:=s.2.1.2) (vs:=eR nx (cN s q c).length) (s.2.1.2,gO P (jL x q c)) (eQ x q c) (ZAN _) (z/q);have hz:=ZB5 z q;have hzq:=ZCV z (show 0<q by omega);rw[ZCF] at hz;rw[<-hb,eP];have hw:(wrL s q c (eR nx (cN s q c).length) x).2=(wrF (dS P (eZ q c) (cY q c) (eQ x q c) s.2.1.2).2.1 (eR nx (cN s q c).length) (eQ x q c) (s.2.1.2,gO P (jL x q c))).2:=by unfold wrL lD;rw[eP]
 rw[<-hw] at hat;have hN:x.2.2.2.2.2.1.length<=jL x q c\/c.2.2.1=uO 6:=by
  refine hx.hop.imp (fun h5=> ?_) id;rw[hP];unfold jL dQ;rw[ZAL h5];exact jkZ (by omega)
 have hcut:(gO P (jL x q c))[z/q]? =if z/q<jL x q c then some (pAt P (z/q)) else none:=by
  by_cases hi:z/q<jL x q c
  ·rw[ZAL hi,mYZ P hi]
  ·rw[ZAJ hi,ZAd (by rw[j2Z];omega)]
 have hfar:jL x q c<=z/q->x.2.2.2.2.2.1.length<=jL x q c->dAt (blk M (pAt P (z/q))) (z%q)=0:=fun h1 h2=>by
  have:pAt P (z/q)=(0,0):=by unfold pAt;rw[ZAd (by rw[<-eP];omega)];rfl
  rw[this,hnil]
 by_cases hi:cY q c<=z/q/\z/q<cY q c+eQ x q c
 ·
  obtain⟨j,hj⟩:∃j,z/q=cY q c+j:=⟨z/q-cY q c,by omega⟩;have hjm:j<eQ x q c:=by omega
  have hnd:(cN s q c)[j]? =some (((cY q c+j:Nat):Int),(pAt P (cY q c+j),nC P (eZ q c) (cY q c) s.2.1.2 j)):=by rw[e];exact ddZ _ _ _ _ _ _ hjm
  rw[ZAL hi,hcut,ZAL (by have:=hsp (by omega);omega)] at hat;have hp:pAt (wrL s q c (eR nx (cN s q c).length) x).2 (z/q)=(nC P (eZ q c) (cY q c) s.2.1.2 j,nx+(j:Int)+1):=by
   unfold pAt;rw[hat,ZBM,show z/q-cY q c=j by omega,d4Z (by omega)];rfl
  unfold byB;rw[hp];unfold newM;rw[iAZ hnd _ (by omega) (ZAN _),noZ hnd (by rw[ZAV,hnd];rfl)];simp only[ZCB,ZBP];rw[qZZ c _ hzq,show(cY q c+j)*q+z%q=z from by rw[<-hj];exact hz,show pAt P (z/q)=pAt P (cY q c+j) from by rw[hj]];unfold oB;by_cases hin:inB (dZ s q c).1.2.2.1 (((cY q c+j:Nat):Int),(pAt P (cY q c+j),nC P (eZ q c) (cY q c) s.2.1.2 j))=true
  ·rw[ZAL hin]
  ·rw[ZAJ hin];cases hh:dF (pAt P (cY q c+j)) with
   |true=>rw[mxZ hh,h.z]
   |false=>
    cases hwh:eZ q c (cY q c+j) with
    |false=>
     refine absurd ?_ hin;rw[pMZ,e2,gjZ];exact⟨j,hjm,by unfold nC;rw[hh];rfl,hh,hwh⟩
    |true=>
     unfold eZ at hwh;by_cases h5:c.2.2.1=uO 5
     ·rw[ZAL h5] at hwh;unfold fL at hwh;simp only[ZAF,ZAq,<-hj,ZAk] at hwh;rw[sGZ h5,sGZ h5,ZAL (by omega),ZAL (by omega),ZAB (by omega)]
      rfl
     ·rw[ZAJ h5] at hwh;cases hwh
 ·rw[ZAJ hi,hcut] at hat;have hp:byB (newM s q nx M c) q (wrL s q c (eR nx (cN s q c).length) x).2 z=if z/q<jL x q c then byB M q P z else 0:=by
   have hold:=rdZ (q:=q) (nx:=nx) (M:=M) (l:=cN s q c) (k:=(cN s q c).length) (m:=(cN s q c).length) (bs:=iE q c (cN s q c) ((cN s q c).map (oB (dZ s q c).1.2.2.1 M))) (P:=P) (fun p hp=>(h.v x hxm p (eP▸hp)).imp id And.left) h.x.1 (ZAN _) z;split
   ·rename_i hlt;rw[ZAL hlt] at hat;rw[<-hold];show dAt (blk _ (pAt _ _)) _=dAt (blk _ (pAt _ _)) _;rw[show pAt (wrL s q c (eR nx (cN s q c).length) x).2 (z/q)=pAt P (z/q) from by unfold pAt at*;rw[hat];rfl]
    rfl
   ·rename_i hlt;rw[ZAJ hlt] at hat;unfold byB newM;rw[show pAt (wrL s q c (eR nx (cN s q c).length) x).2 (z/q)=(0,0) from by unfold pAt;rw[hat];rfl,e8Z h.x.1 _ (ZAN _),hnil]
  rw[hp];have hbz:=hb z;rw[eP] at hbz;by_cases h5:c.2.2.1=uO 5
  ·
   rw[sGZ h5];have:(if c.2.2.2.2.2.2.2.1.toNat<=z then(c.2.2.2.2.2.2.2.2.2[z-c.2.2.2.2.2.2.2.1.toNat]?).getD (byB M q P z) else byB M q P z)=byB M q P z:=by
    split
    ·rename_i h9;rw[ZAd]
     ·rfl
     ·unfold cY eQ at hi;rw[ZAL h5,ZAL h5] at hi;by_cases h0:c.2.2.2.2.2.2.2.2.2.length=0
      ·omega
      ·rw[ZAJ h0] at hi;refine Nat.le_of_not_lt fun hlt=>hi ⟨ZCP h9,?_⟩;have:=n8Z (q:=q) (a:=c.2.2.2.2.2.2.2.1.toNat) (b:=c.2.2.2.2.2.2.2.1.toNat+c.2.2.2.2.2.2.2.2.2.length) (by omega) (by omega);have:z/q<(c.2.2.2.2.2.2.2.1.toNat+c.2.2.2.2.2.2.2.2.2.length+q-1)/q:=(hqZ (by omega)).2 (by omega);omega
    ·rfl
   rw[this];split
   ·rfl
   ·exact(hfar (by omega) (hN.resolve_right (by rw[h5];decide))).symm
  ·have h6:=hx.hop.resolve_left h5;rw[vJZ h6];have hnn:jL x q c=(c.2.2.2.2.2.2.2.2.1.toNat+q-1)/q:=by unfold jL dQ;rw[ZAJ h5]
   by_cases hzn:c.2.2.2.2.2.2.2.2.1<=(z:Int)
   ·rw[ZAL hzn];split
    ·rename_i hlt;rw[hnn,hqZ (by omega)] at hlt;have hd:c.2.2.2.2.2.2.2.2.1.toNat/q=z/q:=Nat.le_antisymm (ZCP (by omega)) ((Nat.le_div_iff_mul_le (by omega)).2 (by omega));unfold cY eQ at hi;rw[ZAJ h5,ZAJ h5,hd] at hi;split at hi
     ·omega
     ·rename_i hno;have hm:c.2.2.2.2.2.2.2.2.1.toNat%q≠0:=fun h0=>by
       have:=ZB5 c.2.2.2.2.2.2.2.2.1.toNat q;rw[hd,h0,ZCF] at this;omega
      cases hh:dF (pAt P (z/q)) with
      |true=>unfold byB;rw[mxZ hh,hnil]
      |false=>
       have:¬c.2.2.2.2.2.2.2.2.1<x.2.2.2.2.1:=fun hlt=>hno ⟨hlt,hm,by rw[eP];exact hh⟩;rw[hbz];unfold dAt;rw[ZAd (by omega)];rfl
    ·rfl
   ·rw[ZAJ hzn,ZAL];rw[hnn,hqZ (by omega)];omega
end
theorem tdZ(t:dI):∃b,qT bB t=some b/\(b=false->t.1.length<=40/\∀n∈t.1,n.2.2.2.2.2.1.length<=120/\n.2.2.2.2.2.2.2.length<=120):=by
 unfold qT;by_cases h0:t.1.length>40
 ·rw[show decide (((t.1.length:Nat):Int)>40)=true from by simp;omega];exact⟨true,rfl,by simp⟩
 rw[show decide (((t.1.length:Nat):Int)>40)=false from by simp;omega];have loop:∃o,kL bB t (0,(t.1,t.2))=some o/\((o= .inl ()/\∀n∈t.1,n.2.2.2.2.2.1.length<=120/\n.2.2.2.2.2.2.2.length<=120)\/o= .inr true):=by
  unfold kL;refine aAZ (fun m s=>∃(k:Nat),s=((k:Int),(t.1,t.2))/\k+m=t.1.length/\∀(i) n,i<k->t.1[i]? =some n->n.2.2.2.2.2.1.length<=120/\n.2.2.2.2.2.2.2.length<=120) _ (fun m s hI=> ?_) (fun s hI=> ?_) t.1.length _ (by omega) ⟨0,rfl,by omega,fun i n h=>absurd h (ZBh _)⟩
  ·obtain⟨k,rfl,hk,g1⟩:=hI;have hlt:k<t.1.length:=by omega
   obtain⟨n,hg⟩:∃n,t.1[k]? =some n:=⟨_,ZAB hlt⟩;unfold oI;simp only[aHZ hlt];rw[acZ hlt];simp only[ZAA,hg];by_cases h1:n.2.2.2.2.2.1.length>120
   ·rw[show decide (((n.2.2.2.2.2.1.length:Nat):Int)>120)=true from by simp;omega];exact .inr ⟨_,rfl,.inr rfl⟩
   rw[show decide (((n.2.2.2.2.2.1.length:Nat):Int)>120)=false from by simp;omega,ZAD,ZAA];by_cases h2:n.2.2.2.2.2.2.2.length>120
   ·rw[show decide (((n.2.2.2.2.2.2.2.length:Nat):Int)>120)=true from by simp;omega];exact .inr ⟨_,rfl,.inr rfl⟩
   rw[show decide (((n.2.2.2.2.2.2.2.length:Nat):Int)>120)=false from by simp;omega];simp only;rw[acZ hlt];simp only[ZAA,hg];have inner:∃o,kK bB n (k:Int) (0,(t.1,t.2))=some o/\(o= .inl (t.1,t.2)\/o= .inr (.inr (.inr true))):=by
    unfold kK;refine aAZ (fun m s=>∃(j:Nat),s=((j:Int),(t.1,t.2))/\j+m=n.2.2.2.2.2.2.2.length) _ (fun m s hI=> ?_) (fun s hI=> ?_) n.2.2.2.2.2.2.2.length _ (by omega) ⟨0,rfl,by omega⟩
    ·obtain⟨j,rfl,hj⟩:=hI;have hjl:j<n.2.2.2.2.2.2.2.length:=by omega
     obtain⟨e,he⟩:∃e,n.2.2.2.2.2.2.2[j]? =some e:=⟨_,ZAB hjl⟩;unfold oH;simp only[aHZ hjl,ZAM];rw[acZ hlt];simp only[ZAA,hg];rw[acZ hjl];simp only[ZAA,he];by_cases h3:e.1.length>3000
     ·rw[show decide (((e.1.length:Nat):Int)>3000)=true from by simp;omega];exact .inr ⟨_,rfl,.inr rfl⟩
     ·rw[show decide (((e.1.length:Nat):Int)>3000)=false from by simp;omega,w64 (by omega)];exact .inl ⟨_,rfl,j+1,by simp,by omega⟩
    ·obtain⟨j,rfl,hj⟩:=hI;have:=by omega
     subst this;unfold oH;simp only[aDZ (ZA0 _),ZAD];exact⟨_,rfl,.inl rfl⟩
   let⟨o,ho,hq⟩:=inner
   rw[ho,ZAA];rcases hq with rfl|rfl
   ·rw[w64 (by omega)];refine .inl ⟨_,rfl,k+1,by simp,by omega,fun i n' hi hg'=> ?_⟩;by_cases hik:i=k
    ·subst hik;rw[hg] at hg';cases hg';omega
    ·exact g1 i n' (by omega) hg'
   ·exact .inr ⟨_,rfl,.inr rfl⟩
  ·obtain⟨k,rfl,hk,g1⟩:=hI;have:k=t.1.length:=by omega
   subst this;unfold oI;simp only[aDZ (ZA0 _),ZAD];refine⟨_,rfl,.inl ⟨rfl,fun n hn=> ?_⟩⟩
   let⟨i,hi⟩:=ZAT hn
   exact g1 i n (ZAC.1 hi).1 hi
 let⟨o,ho,hq⟩:=loop
 rw[ho,ZAA];rcases hq with⟨rfl,hq⟩|rfl<;>grind
theorem rEZ(c:bT):lO bB c (0,(0,(0,((0,0),(false,(0,([],([],(false,0)))))))))=some true\/lO bB c (0,(0,(0,((0,0),(false,(0,([],([],(false,0)))))))))=some false:=by
 unfold lO Pa Pb Pc Pd Pf Pg PC PH;have it:∀o,o.2.2.2.2.2.2.2.2.2.1=[]->∀s,nQ bB o (0,s)=some (.inl ()):=by
  intro o ho s;refine i4Z ?_;unfold sC;rw[ho]
  rfl
 grind
theorem uBZ{m}(h:bW m):∃b,mK bB m=some b:=by
 unfold mK
 let⟨b,hb,_⟩:=tdZ m.1
 rw[hb];cases b with
 |true=>simp_all
 |false=>
  simp only[ZAA];by_cases h60:((m.2.length:Nat):Int)>60
  ·simp_all
  ·rw[ZAE h60];simp only[ZAD];have loop:∃o,iZ bB (false,(m.1.1,(m.1.2,m.2))) (0,(0,(m.1.1,(m.1.2,m.2))))=some o/\True:=by
    unfold iZ;refine aAZ (fun r s=>∃(k:Nat) (n:Int),s=(n,((k:Int),(m.1.1,(m.1.2,m.2))))/\k+r=m.2.length/\0<=n/\n<=65536*k) _ (fun r s hI=> ?_) (fun s hI=> ?_) m.2.length _ (by have:=h.n;omega) ⟨0,0,rfl,by omega,by omega,by omega⟩
    ·obtain⟨k,n,rfl,hk,h0,h1⟩:=hI;have hlt:k<m.2.length:=by omega
     obtain⟨b,hb⟩:∃b,m.2[k]? =some b:=⟨_,ZAB hlt⟩;have:=h.byt hb;unfold lN;simp only[aHZ hlt];rw[acZ hlt,ZAA,hb,ZAA,w64 (by omega),w64 (by omega)];exact .inl ⟨_,rfl,k+1,_,rfl,by omega,by omega,by omega⟩
    ·obtain⟨k,n,rfl,hk,h0,h1⟩:=hI;have:k=m.2.length:=by omega
     subst this;unfold lN;simp only[aDZ (ZA0 _)];exact⟨_,rfl,trivial⟩
   grind
abbrev VD:=Int×(Int×(Int×((Int×Int)×(Bool×(Int×(Byt×(List Ent×(Bool×Int))))))))
theorem hgZ(r:VD)(h:r.2.2.2.2.2.2.2.1.length<=100000):iH bB r r=some true:=by
 unfold iH rG Pb Pc Pd Pe Pf Pg Ph PH
 simp_all[djZ]
def M0:Mod:=(([(1,1,true,true,0,[],1,[])],0),[[]])
theorem w4Z:bW M0:=by
 refine⟨tZZ,rfl,fun i x hx=> ?_,fun i x b hx hb=> ?_⟩
 ·cases i with
  |zero=>simp[M0] at hx;subst hx;rfl
  |succ i=>simp[M0] at hx
 grind[M0]
theorem weZ:qS bB=some (M0.1.2,(M0.1.1,M0.2)):=by kernel_rfl
def cA:bT:=(0,(1,(uO 2,((1,1),([102],((0,0),([],(0,(0,[])))))))))
def MA:Mod:=(([(1,1,true,true,0,[],1,[([102],2)]),(2,1,true,false,0,[],1,[])],0),[[],[]])
def cB:bT:=(0,(1,(uO 5,((2,1),([],((0,0),([],(2,(0,[uO 97,uO 98,uO 99])))))))))
def MB:Mod:=(([(1,1,true,true,0,[],1,[([102],2)]),(2,1,true,false,5,[],1,[])],0),[[],[0,0,97,98,99]])
def cC:bT:=(0,(1,(uO 4,((2,1),([],((0,0),([],(0,(9,[])))))))))
def cD:bT:=(0,(1,(uO 6,((2,1),([],((0,0),([],(0,(3,[])))))))))
def MD:Mod:=(([(1,1,true,true,0,[],1,[([102],2)]),(2,1,true,false,3,[],1,[])],0),[[],[0,0,97]])
def cE:bT:=(0,(1,(uO 6,((2,1),([],((0,0),([],(0,(5,[])))))))))
def ME:Mod:=(([(1,1,true,true,0,[],1,[([102],2)]),(2,1,true,false,5,[],1,[])],0),[[],[0,0,97,0,0]])
def cG:bT:=(0,(1,(uO 12,((0,0),([],((0,0),([],(0,(0,[])))))))))
theorem x1:bN M0 cA=(MA,0,((2,1),false,0,[],[],false,0)):=by kernel_rfl
theorem x2:bN MA cB=(MB,0,((2,1),false,5,[],[],false,0)):=by kernel_rfl
theorem x3:bN MB cC=(MB,0,((0,0),false,5,[0,0,97,98,99],[],false,0)):=by kernel_rfl
theorem x4:bN MB cD=(MD,0,((2,1),false,3,[],[],false,0)):=by kernel_rfl
theorem x5:bN MD cE=(ME,0,((2,1),false,5,[],[],false,0)):=by kernel_rfl
theorem x6:bN ME cC=(ME,0,((0,0),false,5,[0,0,97,0,0],[],false,0)):=by kernel_rfl
theorem x7:bN ME cG=(ME,0,((0,0),false,0,[],[],false,498)):=by kernel_rfl
theorem rBZ{m:Mod}(h:bW m):kE m.1.1 m.2=m.2:=by
 refine ZA9 fun i=> ?_;by_cases hi:i<m.1.1.length
 ·obtain⟨x,hx⟩:∃x,m.1.1[i]? =some x:=⟨_,ZAB hi⟩;obtain⟨b,hb,hs,_⟩:=h.at hx;rw[doZ _ hx,hb];cases hu:x.2.2.1 with
  |true=>rfl
  |false=>
   rw[((h.t.r.ino i x hx).bare hu).2.1] at hs;have:b=[]:=ZAY (by omega);rw[this];rfl
 ·rw[ZAd (by rw[gtZ];omega),ZAd (by rw[h.n];omega)]
def OJ(o:UInt8):Bool:=o==uO 1||o==uO 4||o==uO 10||o==uO 11||o==uO 12
theorem unZ{m:Mod}{c:bT}(ha:OJ c.2.2.1=true):(cK m c).2.1=m:=by
 unfold OJ at ha;simp only[ZA2,ZBp] at ha;unfold cK;rcases ha with(((hk|hk)|hk)|hk)|hk<;>rw[hk]
 ·show(jG m c).2.1=m;unfold jG;(repeat' split)<;>rfl
 ·show(jN m c).2.1=m;unfold jN;(repeat' split)<;>rfl
 ·rfl
 ·show(rV m c).2.1=m;unfold rV;(repeat' split)<;>rfl
 ·rfl
theorem vgZ{m:Mod}(h:bW m){c:bT}(ha:OJ c.2.2.1=true):(bN m c).1=m:=by
 unfold bN;split
 ·split
  ·rw[unZ ha];show(m.1,kE m.1.1 m.2)=m;rw[rBZ h]
  ·rfl
 ·rfl
theorem qyZ(m:Mod)(c:bT):(zL m c).2.2.2.2.2.2.1.length<=4096:=by
 show(vC m.1 c.2.2.2.1 c.2.2.2.2.1 c.2.2.2.2.2.2.2.2.1).2.2.length<=4096;unfold vC;by_cases h1:fH m.1.1 c.2.2.2.1=0
 ·rw[ZAL h1];by_cases h2:c.2.2.2.2.2.2.2.2.1<0\/c.2.2.2.2.2.2.2.2.1>4096
  ·rw[ZAL h2];simp
  ·rw[ZAJ h2];cases m.1.1[(c.2.2.2.1.1-1).toNat]? with
   |none=>simp
   |some n=>simp only[ZAQ];omega
 ·rw[ZAJ h1];simp
theorem s3Z(m:Mod)(c:bT):(cK m c).2.2.2.2.2.2.1.length<=4096:=by
 unfold cK;by_cases h1:c.2.2.1=uO 1
 ·rw[ZAL h1];rw[(lqZ m c).2];simp
 rw[ZAJ h1];by_cases h2:c.2.2.1=uO 2
 ·rw[ZAL h2];rw[(fhZ m c).2];simp
 rw[ZAJ h2];by_cases h3:c.2.2.1=uO 3
 ·rw[ZAL h3];rw[(fhZ m c).2];simp
 rw[ZAJ h3];by_cases h4:c.2.2.1=uO 4
 ·rw[ZAL h4];rw[pTZ m c];simp
 rw[ZAJ h4];by_cases h5:c.2.2.1=uO 5
 ·rw[ZAL h5];rw[(iUZ m c).2];simp
 rw[ZAJ h5];by_cases h6:c.2.2.1=uO 6
 ·rw[ZAL h6];rw[(lGZ m c).2];simp
 rw[ZAJ h6];by_cases h7:c.2.2.1=uO 7
 ·rw[ZAL h7];rw[(cMZ m c).2];simp
 rw[ZAJ h7];by_cases h8:c.2.2.1=uO 8
 ·rw[ZAL h8];rw[(cMZ m c).2];simp
 rw[ZAJ h8];by_cases h9:c.2.2.1=uO 9
 ·rw[ZAL h9];rw[(gSZ m c).2];simp
 rw[ZAJ h9];by_cases h10:c.2.2.1=uO 10
 ·rw[ZAL h10];exact qyZ m c
 rw[ZAJ h10];by_cases h11:c.2.2.1=uO 11
 ·rw[ZAL h11];rw[(r8Z m c).2];simp
 rw[ZAJ h11];by_cases h12:c.2.2.1=uO 12
 ·rw[ZAL h12];simp[AT]
 rw[ZAJ h12];simp[kT]
theorem slZ(m:Mod)(c:bT):(bN m c).2.2.2.2.2.2.1.length<=4096:=by
 unfold bN;split
 ·split
  ·exact s3Z m c
  ·simp[kT]
 ·simp[kT]
theorem qJZ{q fr a:Nat}{bs:List (List UInt8)}(hq:1<=q)(hb:∀b∈bs,b.length<=q)(o:List UInt8):∀j t:Nat,(oA q fr a bs j o)[t]? =(o[t]?).map fun y=>if a<=(fr+t)/q/\(fr+t)/q<a+j then(((bs[(fr+t)/q-a]?).getD [])[(fr+t)%q]?).getD y else y
 |0,t=>by
  unfold oA;cases o[t]? with
  |none=>rfl
  |some y=>rw[ZBM,ZAJ (by omega)]
 |j+1,t=>by
  unfold oA;rw[dIZ,qJZ hq hb o j t];cases o[t]? with
  |none=>rfl
  |some y=>
   simp only[ZBM];have h1:=ZB5 (fr+t) q;have h2:=ZCV (fr+t) (show 0<q by omega);rw[ZCF] at h1;generalize (fr+t)/q=u at*;generalize (fr+t)%q=r at*;rcases ZCf u (a+j) with h|h|h
   ·have:(u+1)*q<=(a+j)*q:=ZAe q h;rw[ZAk] at this;rw[ZAJ (by omega)];by_cases ha:a<=u
    ·rw[ZAL ⟨ha,h⟩,ZAL (by omega)]
    ·rw[ZAJ (by omega),ZAJ (by omega)]
   ·subst h;rw[ZAL (by omega),ZAJ (by omega),ZAL (by omega),show a+j-a=j by omega,show fr+t-(a+j)*q=r by omega]
   ·have:(a+j+1)*q<=u*q:=ZAe q h;rw[ZAk] at this;rw[ZAL (by omega),ZAJ (by omega),ZAJ (by omega),ZAd]
    ·rfl
    ·cases hj:bs[j]? with
     |none=>exact ZBF _
     |some b=>
      have:=hb b (ZAI hj);show b.length<=_;omega
section
variable {s : cS} {q : Nat} {nx : Int} {M : BM} {n : Int} {c : bT} {m : Mod}
theorem vzZ(h:lE s q nx M n){x:Ino}(hx:jJ s c x)(hr:bK c=true){b:List UInt8}(hb:∀z,byB M q x.2.2.2.2.2.1 z=dAt b z)(hl:((b.length:Nat):Int)=x.2.2.2.2.1):
 FO q (min x.2.2.2.2.1.toNat c.2.2.2.2.2.2.2.1.toNat/q) x.2.2.2.2.1.toNat c (zN M (gY x q c))=FM b c.2.2.2.2.2.2.2.1 c.2.2.2.2.2.2.2.2.1:=by
 have hlim:=ayZ hr;have hq:=h.ok.q;unfold FO FM;refine ZA9 fun t=> ?_;rw[qJZ (by omega) (fun b hb=>by
  obtain⟨nd,_,rfl⟩:=ZBf.1 hb;have:=h.b nd.2.1;omega),ZAy,ZAn,ZCS,<-hl]
 simp only[ZBP];by_cases ht:t<min (b.length-min c.2.2.2.2.2.2.2.1.toNat b.length) c.2.2.2.2.2.2.2.2.1.toNat
 ·have hlt:min c.2.2.2.2.2.2.2.1.toNat b.length+t<b.length:=by omega
  rw[ZAL ht,ZAL (by omega),ZBM,ZAB hlt,Nat.min_comm b.length];have hd:=hb (min c.2.2.2.2.2.2.2.1.toNat b.length+t);unfold dAt at hd;rw[ZAB hlt] at hd;have hd:=hd.symm;rw[show(some b[min c.2.2.2.2.2.2.2.1.toNat b.length+t]).getD 0=b[min c.2.2.2.2.2.2.2.1.toNat b.length+t] from rfl] at hd;rw[hd];have h1:min c.2.2.2.2.2.2.2.1.toNat b.length/q<=(min c.2.2.2.2.2.2.2.1.toNat b.length+t)/q:=ZCP (by omega);have h2:(min c.2.2.2.2.2.2.2.1.toNat b.length+t)/q<(min b.length (c.2.2.2.2.2.2.2.1.toNat+c.2.2.2.2.2.2.2.2.1.toNat)+q-1)/q:=(hqZ (by omega)).2 (by
   have:=Nat.div_mul_le_self (min c.2.2.2.2.2.2.2.1.toNat b.length+t) q;omega)
  have hbs:(zN M (gY x q c))[(min c.2.2.2.2.2.2.2.1.toNat b.length+t)/q-min c.2.2.2.2.2.2.2.1.toNat b.length/q]? =some (blk M (pAt x.2.2.2.2.2.1 ((min c.2.2.2.2.2.2.2.1.toNat b.length+t)/q))):=by
   unfold zN gY kU;rw[ZAL (by omega),<-hl];simp only[ZBP,Nat.min_comm b.length c.2.2.2.2.2.2.2.1.toNat,ZAV];rw[ZCp (by omega),ZBM,ZBM,show min c.2.2.2.2.2.2.2.1.toNat b.length/q+((min c.2.2.2.2.2.2.2.1.toNat b.length+t)/q-min c.2.2.2.2.2.2.2.1.toNat b.length/q)=(min c.2.2.2.2.2.2.2.1.toNat b.length+t)/q by omega]
  have hlen:=(ZAC.1 hbs).1;rw[ZAL ⟨h1,by omega⟩,hbs]
  rfl
 ·rw[ZAJ ht,ZAJ (by omega)];rfl
structure Rel (s:cS) (q:Nat) (M:BM) (m:Mod):Prop where
 ok:bW m
 t:m.1.1=s.2.1.1.map dG
 b:∀(i:Nat) x d,s.2.1.1[i]? =some x->m.2[i]? =some d->∀z,byB M q x.2.2.2.2.2.1 z=dAt d z
theorem Rel.file(R:Rel s q M m){x:Ino}(hx:jJ s c x):∃b,m.1.1[atC c]? =some (dG x)/\m.2[atC c]? =some b/\cW m c.2.2.2.1=(c.2.2.2.1.1,b,0)/\((b.length:Nat):Int)=x.2.2.2.2.1/\∀z,byB M q x.2.2.2.2.2.1 z=dAt b z:=by
 have hb0:m.1.1[(c.2.2.2.1.1-1).toNat]? =some (dG x):=by rw[R.t,ZAV,hx.at_];rfl
 obtain⟨b,hb,hl,_⟩:=R.ok.at hb0;refine⟨b,hb0,hb,?_,hl,R.b _ _ _ hx.at_ hb⟩;unfold cW;rw[coZ.2 (show IsH m.1.1 c.2.2.2.1 (dG x) from⟨hx.h1,hb0,hx.used,hx.gen⟩)];simp only;rw[show(dG x).2.2.2.1=false from hx.dir,hb];rfl
theorem umZ(h:lE s q nx M n)(R:Rel s q M m)(hr:bK c=true):AU s q M c=kG c (bN m c):=by
 obtain⟨e1,_,e3,e4⟩:=(jbZ h.ok.t R.ok R.t).res c;by_cases h4:c.2.2.1=uO 4/\(bN (bG s.2.1) c).2.1=0
 ·obtain⟨x,hx⟩:=uAZ hr h4.1 h4.2;obtain⟨b,_,_,hf,hl,hb⟩:=R.file hx;have hby:(bN m c).2.2.2.2.2.1=FM b c.2.2.2.2.2.2.2.1 c.2.2.2.2.2.2.2.2.1:=by
   unfold bN;rw[ZAL hr,ZAL (res0 hr (e1▸h4.2)),act4 h4.1];unfold jN;rw[hf]
   rfl
  unfold AU;rw[ZAL h4,hx.p,vzZ h hx hr hb hl,<-hby];unfold KI at e3;simp only[ZA1] at e3;unfold OG dO kG;simp only[e1,e3]
 ·unfold AU dO kG;rw[ZAJ h4];have:(bN (bG s.2.1) c).2.2=(bN m c).2.2:=by
   by_cases h5:c.2.2.1=uO 4
   ·have h0:=fun z=>h4 ⟨h5,z⟩;rw[(lFZ hr h0).2,(lFZ hr (e1▸h0)).2]
   ·exact(e4 h5).symm
  rw[this,e1]
theorem qaZ(h:blk M (0,0)=[])(z:Nat):byB M q [] z=0:=by
 show dAt (blk M (0,0)) _=0;rw[h];rfl
theorem tnZ(hop:¬(c.2.2.1=uO 5\/c.2.2.1=uO 6)):(cK m c).2.1.2=m.2:=by
 have k1:(jG m c).2.1.2=m.2:=by unfold jG;(repeat' split)<;>rfl
 have k2:(gN m c).2.1.2=m.2:=by unfold gN;split<;>rfl
 have k3:(jN m c).2.1.2=m.2:=by unfold jN;split<;>rfl
 have k4:(dM m c).2.1.2=m.2:=by unfold dM;split<;>rfl
 have k5:(fB m c).2.1.2=m.2:=by unfold fB;split<;>rfl
 have k6:(rV m c).2.1.2=m.2:=by unfold rV;split<;>rfl
 unfold cK;rw[ZAJ fun h:c.2.2.1=uO 5=>hop (.inl h),ZAJ fun h:c.2.2.1=uO 6=>hop (.inr h)];simp only[apply_ite (fun q:DoR=>q.2.1.2),k1,k2,k3,k4,k5,k6,show(zL m c).2.1.2=m.2 from rfl,show(AT m).2.1.2=m.2 from rfl,ite_self]
theorem uiZ(hr:bK c=true)(h:(bN m c).2.1=0):(bN m c).1=((cK m c).2.1.1,kE (cK m c).2.1.1.1 (cK m c).2.1.2):=by
 unfold bN;rw[ZAL hr,ZAL (res0 hr h)]
theorem idZ{l:List Ino}{P:Nat->List cV}(h:∀(i:Nat) y,l[i]? =some y->y.2.2.2.2.2.1=[]):(dH l P).map dG=l:=by
 refine ZA9 fun i=> ?_;unfold dH;rw[ZAV,ZBz];cases hy:l[i]? with
 |none=>rfl
 |some y=>rw[ZBM,ZBM,show dG (oU y (P i))=y from by unfold dG oU;simp only[<-h i y hy]]
theorem jPZ{M':BM}{s':cS}{n' nx':Int}(S:lE s' q nx' M' n')(R:Rel s q M m)(hold:∀r∈s.2.1.1,∀z,byB M' q r.2.2.2.2.2.1 z=byB M q r.2.2.2.2.2.1 z)(hm:bW (bN m c).1){l0:List Byt}(hd:(bN m c).1.2=kE (bN m c).1.1.1 l0){i:Nat}(hi:l0[i]? =m.2[i]?)
 (st:∀y,(bN m c).1.1.1[i]? =some y->y.2.2.1=true->(∃x,s.2.1.1[i]? =some x/\x.2.1=y.2.1)\/(y.2.2.2.2.1=0/\∀x,s.2.1.1[i]? =some x->x.2.1≠y.2.1))
 {y:Ino}{d:List UInt8}(hy:(bN m c).1.1.1[i]? =some y)(h2:(bN m c).1.2[i]? =some d)(z:Nat):byB M' q (cM s.2.1.1 (bN m c).1.1.1 i) z=dAt d z:=by
 have hl:=hm.s i y d hy h2;rw[hd,doZ _ hy] at h2;obtain rfl:=ZAg h2;have nil:∀e:cM s.2.1.1 (bN m c).1.1.1 i=[],(bif y.2.2.1 then(l0[i]?).getD [] else[])=[]->byB M' q (cM s.2.1.1 (bN m c).1.1.1 i) z=dAt (bif y.2.2.1 then(l0[i]?).getD [] else[]) z:=fun e1 e2=>by rw[e1,e2,qaZ S.z];rfl
 cases hu:y.2.2.1 with
 |false=>
  rw[hu] at nil;exact nil (cKZ hy fun z=>by rw[hu] at z;cases z) rfl
 |true=>
  rw[hu] at nil hl;rcases st y hy hu with⟨r,hr,hg⟩|⟨y0,hno⟩
  ·rw[dTZ hr hy hu hg,hold r (ZAI hr),hi];obtain⟨b,hb,_⟩:=R.ok.at (i:=i) (x:=dG r) (by rw[R.t,ZAV,hr];rfl);rw[R.b i r b hr hb,hb];rfl
  ·refine nil (cKZ hy fun _=>hno) (ZBd.1 ?_);rw[y0] at hl;omega
theorem Rel.next(h:lE s q nx M n)(R:Rel s q M m)(hr:bK c=true)(ha:jI c.2.2.1=false)(hn:n<c.2.1/\c.2.1<=30){s':cS}(N:Next s q c (eR nx (cN s q c).length) s'):Rel s' q (newM s q nx M c) (bN m c).1:=by
 obtain⟨e1,e2,_,_⟩:=(jbZ h.ok.t R.ok R.t).res c;have S:=h.next hr ha hn N;have A2:=(p6Z h hr ha hn.1).1.two;have hm:=k0Z R.ok c;have tr:=N.tree;unfold wN at tr;by_cases h0:(bN (bG s.2.1) c).2.1=0
 ·have hm0:(bN m c).2.1=0:=e1.trans h0;have rp:=uiZ hr hm0;rw[ZAL h0] at tr;by_cases hop:c.2.2.1=uO 5\/c.2.2.1=uO 6
  ·obtain⟨x,hx⟩:=nmZ (q:=q) hr hop h0;obtain⟨b,_,hb,hf,hl,hbz⟩:=R.file hx.f;have hw:=t7Z h A2 hx hbz hl;obtain⟨r1,_,_,r4⟩:=eAZ h.ok.t hr hop h0 hx.f;have eL:(bN m c).1.1.1=l1W s c x:=by rw[e2,r1];rfl
   have hd:(cK m c).2.1.2=m.2.set (atC c) (OI c b):=by
    unfold OI;by_cases h5:c.2.2.1=uO 5
    ·rw[act5 h5,ZAL h5];unfold iM;rw[hf,ZAL rfl,ZAJ (by have:=hx.b5 h5;omega)];rfl
    ·have h6:=hop.resolve_left h5;rw[act6 h6,ZAJ h5];unfold dQ at r4;rw[ZAJ h5] at r4;unfold lY;rw[hf,ZAL rfl,ZAJ (by omega)];rfl
   have hd2:(bN m c).1.2=kE (bN m c).1.1.1 (m.2.set (atC c) (OI c b)):=by rw[rp,<-hd]
   rw[ZAL hop,hx.f.p] at tr;have hnil:∀(i:Nat) y,(l1W s c x)[i]? =some y->y.2.2.2.2.2.1=[]:=fun i y hy=>hm.p i y (by rw[eL];exact hy);refine⟨hm,?_,fun i x' d hx' hd' z=> ?_⟩
   ·rw[tr,eL];unfold lW;rw[List.map_set,idZ hnil];refine ZA9 fun i=> ?_;by_cases hi:atC c=i
    ·subst hi;rw[ZAR (ZAC.1 (eeZ hx)).1,eeZ hx];rfl
    ·rw[ZAX hi]
   ·rw[tr] at hx';unfold lW at hx';by_cases hi:atC c=i
    ·subst hi;rw[ZAR (by rw[bJZ];exact(ZAC.1 (eeZ hx)).1)] at hx';obtain rfl:=ZAg hx';rw[hd2,doZ _ (by rw[eL];exact eeZ hx),show(wS (dG x) (dQ x c)).2.2.1=true from hx.f.used,ZAR (ZAC.1 hb).1] at hd';obtain rfl:=ZAg hd';exact(hw z).trans (vuZ b hop hr z).symm
    ·rw[ZAX hi] at hx';obtain⟨y,hy,rfl⟩:=aYZ hx';rw[<-eL] at hy⊢;refine jPZ S R (fun r hr z=>rdZ (fun p hp=>(h.v r hr p hp).imp id And.left) h.x.1 (ZAN _) z) hm hd2 (ZAX hi) (fun y hy hu=> ?_) hy hd' z;rw[eL] at hy;obtain⟨r,hr,⟨rfl,_⟩|⟨_,rfl⟩⟩:=moZ hx hy
     ·exact absurd rfl hi
     ·exact .inl ⟨r,hr,rfl⟩
  ·rw[ZAJ hop,<-e2] at tr;have eM:newM s q nx M c=M:=by
    unfold newM cN;rw[qLZ A2 fun z=>hop z.2]
    rfl
   rw[eM] at S⊢;refine⟨hm,by rw[tr,idZ hm.p],fun i x d hx hd z=> ?_⟩;rw[tr] at hx;obtain⟨y,hy,rfl⟩:=aYZ hx;refine jPZ S R (fun _ _ _=>rfl) hm (by rw[rp,tnZ hop]) rfl (fun y hy hu=> ?_) hy hd z;rcases(jnZ (m:=m) c fun _=>hop).1.at_ i y hy hu with⟨x,hx,_,hg,_⟩|⟨y0,hno⟩
   ·rw[R.t,ZAV] at hx;obtain⟨r,hr,rfl⟩:=ZAH.1 hx;exact .inl ⟨r,hr,hg⟩
   ·exact .inr ⟨y0,fun r hr=>hno (dG r) (by rw[R.t,ZAV,hr];rfl)⟩
 ·rw[ZAJ h0] at tr;have eM:newM s q nx M c=M:=by
   unfold newM cN;rw[qLZ A2 fun z=>h0 z.1]
   rfl
  have em:(bN m c).1=m:=by
   have:=e1▸h0;unfold bN at this⊢;rw[ZAL hr] at this⊢;split
   ·rename_i z;rw[ZAL z] at this;exact absurd rfl this
   ·rfl
  rw[eM,em];exact⟨R.ok,by rw[tr];exact R.t,by rw[tr];exact R.b⟩
theorem wjZ{o:UInt8}(h:jI o=true):OJ o=true:=by
 unfold jI at h;unfold OJ;simp only[ZA2,ZBp] at*;have e:o=uO o.toNat:=by simp
 rcases h with h|h|h|h|h<;>rw[h] at e<;>simp[e]
theorem vfZ(h:lE s q nx M n)(R:Rel s q M m)(hn:n<c.2.1/\c.2.1<=30){r:bX}{s':cS}{nx':Int}{M':BM}(D:vR s q nx M c r s' nx' M'):r=kG c (bN m c)/\Rel s' q M' (bN m c).1:=by
 cases D with
 |bad hr=>
  have e:bN m c=(m,179,kT):=by unfold bN;rw[hr];rfl
  rw[e];exact⟨rfl,R⟩
 |tell hr ha=>
  rw[vgZ R.ok (wjZ ha)];exact⟨umZ h R hr,R⟩
 |done hr ha N=>
  refine⟨?_,R.next h hr ha hn N⟩;obtain⟨e1,_,_,e4⟩:=(jbZ h.ok.t R.ok R.t).res c;unfold dO kG;rw[e1,e4 fun z=>by rw[z] at ha;cases ha]
end
def DM(M:BM)(q:Nat)(p:cV):List UInt8:=bif (p.1==0)&&(p.2==0) then List.replicate q 0 else blk M p
def rW(M:BM)(q:Nat)(P:List cV):List UInt8:=P.flatMap (DM M q)
section
variable {s : cS} {q : Nat} {nx : Int} {M : BM} {n : Int} {c : bT} {m : Mod}
theorem l4Z{P:List cV}(h:∀p∈P,dF p=true\/(blk M p).length=q):(rW M q P).length=P.length*q:=by
 unfold rW;induction P with
 |nil=>simp
 |cons p P ih=>
  rw[List.flatMap_cons,ZAf,ih fun p hp=>h p (.tail _ hp),ZCA,ZAk];have:(DM M q p).length=q:=by
   unfold DM;cases hh:(p.1==0)&&(p.2==0)
   ·exact(h p (.head _)).resolve_left fun z=>by unfold dF at z;rw[hh] at z;cases z
   ·exact ZBL
  omega
theorem v8Z{P:List cV}(hq:1<=q)(hz:blk M (0,0)=[])(h:∀p∈P,dF p=true\/(blk M p).length=q)(z:Nat):dAt (rW M q P) z=byB M q P z:=by
 induction P generalizing z with
 |nil=>rw[qaZ hz];rfl
 |cons p P ih=>
  have hl:(DM M q p).length=q:=by
   have:=l4Z (M:=M) (q:=q) (P:=[p]) fun x hx=>h x (by rw[ZCa.1 hx];exact .head _);simpa[rW] using this
  have hp:∀k,k<q->dAt (DM M q p) k=dAt (blk M p) k:=fun k hk=>by
   unfold DM;cases hh:(p.1==0)&&(p.2==0)
   ·rfl
   ·rw[mxZ (p:=p) hh,hz];unfold dAt;rw[ZAM,ZCS,ZAL hk];rfl
  unfold rW byB;rw[List.flatMap_cons];by_cases hk:z<q
  ·rw[Nat.div_eq_of_lt hk,Nat.mod_eq_of_lt hk];show dAt _ z=dAt (blk M p) z;rw[<-hp z hk];unfold dAt;rw[ZAS (by omega)]
  ·have e:z/q=(z-q)/q+1:=by
    rw[<-Nat.add_div_right _ (by omega:0<q),Nat.sub_add_cancel (by omega)]
   rw[e,Nat.mod_eq_sub_mod (by omega)];have:=ih (fun p hp=>h p (.tail _ hp)) (z-q);unfold byB at this;rw[show pAt (p::P) ((z-q)/q+1)=pAt P ((z-q)/q) from by unfold pAt;rw[List.getElem?_cons_succ],<-this];unfold dAt rW;rw[ZAU (by omega),hl]
theorem uzZ{a b:List UInt8}(hl:a.length=b.length)(h:∀z,z<a.length->dAt a z=dAt b z):a=b:=by
 refine List.ext_getElem hl fun z h1 h2=> ?_;have:=h z h1;unfold dAt at this;rwa [ZAB h1,ZAB h2] at this
theorem w3Z(b:List UInt8):rG bB b b=some true:=by unfold rG;simp
theorem t4Z{r:Ino}{X:List Mod×List Ino}(hP:r.2.2.2.2.2.1.length<=4096)(hq:q<=65)(hv:∀p∈r.2.2.2.2.2.1,dF p=true\/(blk M p).length=q):
 eS bB r (0,stZ s nx q M (X.1,(X.2,[])))=some (stZ s nx q M (X.1,(X.2,rW M q r.2.2.2.2.2.1))):=by
 unfold eS;refine alZ (fun k:Nat=>((k:Int),stZ s nx q M (X.1,(X.2,rW M q (r.2.2.2.2.2.1.take k))))) r.2.2.2.2.2.1.length (by omega) (fun k hk=> ?_) ?_
 ·obtain⟨p,hp⟩:∃p,r.2.2.2.2.2.1[k]? =some p:=⟨_,ZAB hk⟩;show dJ bB r (k:Int) s.1 s.2.1.1 s.2.1.2 s.2.2.1.1 s.2.2.1.2 s.2.2.2.1 s.2.2.2.2 nx q M X.1 X.2 (rW M q (r.2.2.2.2.2.1.take k))=_;have h1:=l4Z (M:=M) (q:=q) (P:=r.2.2.2.2.2.1.take (k+1)) fun p hp=>hv p (ZBx hp);have h2:(rW M q (r.2.2.2.2.2.1.take (k+1)))=rW M q (r.2.2.2.2.2.1.take k)++DM M q p:=by unfold rW;rw[aUZ hp,List.flatMap_append];simp
  have h3:(r.2.2.2.2.2.1.take (k+1)).length*q<=4096*65:=ZB3 (by rw[ZAQ];omega) hq;rw[h2,ZAf] at h1;unfold dJ Pe Ph Pi Pj Pk Pl PL;rw[ZAK (by omega),ZAM,acZ hk,ZAA,hp,ZAA];refine(congrArg (fun o=>Option.bind o _) (show _=some (DM M q p,stZ s nx (q:Int) M (X.1,(X.2,rW M q (r.2.2.2.2.2.1.take k)))) from ?_)).trans ?_
  ·unfold DM;cases hh:(p.1==0)&&(p.2==0)
   ·rfl
   ·rw[ZAM,aBZ (by rw[aqZ];omega),ZAA,aBZ (ZAN _),ZAA,adZ (by rw[ZAm,aqZ];omega)]
    rfl
  ·rw[ZAA,adZ (by simp only[ZAF,ZAm,aqZ];omega),w64 (by omega),h2]
   rfl
 ·show dJ bB r (r.2.2.2.2.2.1.length:Int) s.1 s.2.1.1 s.2.1.2 s.2.2.1.1 s.2.2.1.2 s.2.2.2.1 s.2.2.2.2 nx q M X.1 X.2 _=_;unfold dJ Pe Ph Pi Pj Pk Pl PL;rw[ZAE (by omega),ZAD,ZAu]
theorem sSZ{a:List UInt8}{k:Nat}{X:List Mod×List Ino}(b:Bool)(hk:k<=a.length)(ha:a.length<=1000000)(h:∀z,k<=z->dAt a z=0):
 eT bB (b,stZ s nx q M (X.1,(X.2,a))) k (k,(a.length-k,(0,stZ s nx q M (X.1,(X.2,a)))))=some (.inl (stZ s nx q M (X.1,X.2))):=by
 unfold eT;refine alZ (fun j:Nat=>(k,(a.length-k,((j:Int),stZ s nx q M (X.1,(X.2,a)))))) (a.length-k) (by omega) (fun j hj=> ?_) ?_
 ·show dK bB (b,stZ s nx q M (X.1,(X.2,a))) k k (a.length-k) (j:Int) s.1 s.2.1.1 s.2.1.2 s.2.2.1.1 s.2.2.1.2 s.2.2.2.1 s.2.2.2.2 nx q M X.1 X.2 a=_;have hz:=h (k+j) (by omega);unfold dAt at hz;rw[ZAB (by omega:k+j<a.length)] at hz;have hz:a[k+j]=0:=hz;unfold dK;rw[ZAK (by show(j:Int)<((a.length-k:Nat):Int);omega),ZAM,acZ hj,ZAA,ZAB (by omega:k+j<a.length),ZAA,hz,w64 (by omega)]
  rfl
 ·show dK bB (b,stZ s nx q M (X.1,(X.2,a))) k k (a.length-k) ((a.length-k:Nat):Int) s.1 s.2.1.1 s.2.1.2 s.2.2.1.1 s.2.2.1.2 s.2.2.2.1 s.2.2.2.2 nx q M X.1 X.2 a=_;unfold dK;rw[ZAE (by show¬((a.length-k:Nat):Int)<((a.length-k:Nat):Int);omega)]
  rfl
theorem seZ(h:lE s q nx M n)(R:Rel s q M m):fA bB m s.1 s.2.1.1 s.2.1.2 s.2.2.1.1 s.2.2.1.2 s.2.2.2.1 s.2.2.2.2 nx (q:Int) M=some (true,stD s nx q M):=by
 have hlen:m.1.1.length=s.2.1.1.length:=by rw[R.t,ZAp]
 have hn:=R.ok.len;have hq:=h.ok.q;unfold fA;rw[hlen,ZAb];simp only[ZAO,ZAD];refine(congrArg (fun o=>Option.bind o _) (show eU bB s.2.1.1 (0,stZ s nx (q:Int) M [m])=some (.inl (stD s nx (q:Int) M)) from ?_)).trans rfl;unfold eU;refine alZ (fun k:Nat=>((k:Int),stZ s nx (q:Int) M [m])) s.2.1.1.length (by omega) (fun k hk=> ?_) ?_
 ·show dL bB s.2.1.1 (k:Int) s.1 s.2.1.1 s.2.1.2 s.2.2.1.1 s.2.2.1.2 s.2.2.2.1 s.2.2.2.2 nx q M [m]=_;obtain⟨r,hr⟩:∃r,s.2.1.1[k]? =some r:=⟨_,ZAB hk⟩;have hrm:=ZAI hr;have hm:m.1.1[k]? =some (dG r):=by rw[R.t,ZAV,hr];rfl
  obtain⟨d,hd,hl,hdl⟩:=R.ok.at hm;have hl:((d.length:Nat):Int)=r.2.2.2.2.1:=hl;have hv:∀p∈r.2.2.2.2.2.1,dF p=true\/(blk M p).length=q:=fun p hp=>(h.v r hrm p hp).imp id And.right;have hP:=(hDZ (l:=s.2.1.1) (w:=s.2.1.2) h.ok.t r hrm).1;have hsz:=dxZ h.ok.t hr;have hcl:=l4Z hv;have hca:=v8Z (by omega:1<=q) h.z hv;have hb:=R.b k r d hr hd;have hge:d.length<=(rW M q r.2.2.2.2.2.1).length:=by
   rw[hcl];by_cases hu:r.2.2.1=true/\r.2.2.2.1=false
   ·rw[h.ok.l k r hr hu.1 hu.2,<-hl];have h1:=ZB5 (((d.length:Nat):Int).toNat+q-1) q;have h2:=ZCV (((d.length:Nat):Int).toNat+q-1) (by omega:0<q);rw[ZCF] at h1;omega
   ·have:r.2.2.2.2.1=0:=by
     cases hu1:r.2.2.1
     ·exact hsz.2.2.1 hu1
     ·cases hu2:r.2.2.2.1
      ·exact absurd ⟨hu1,hu2⟩ hu
      ·exact hsz.2.2.2 hu2
    omega
  have hle:(rW M q r.2.2.2.2.2.1).length<=1000000:=by
   have:r.2.2.2.2.2.1.length*q<=4096*65:=ZB3 hP hq.2;omega
  have htake:(rW M q r.2.2.2.2.2.1).take d.length=d:=uzZ (by rw[ZAQ];omega) fun z hz=>by
   rw[ZAQ] at hz;rw[<-hb,<-hca];unfold dAt;rw[ZBa (by omega)]
  unfold dL Pb Pc Pd Pe Pf Pg Ph Pi Pj Pk Pl PJ PK PL;rw[ZAK (by omega),ZAM,acZ hk,ZAA,hr,ZAA];refine(congrArg (fun o=>Option.bind o _) (t4Z (X:=([m],[r])) hP hq.2 hv)).trans ?_;rw[ZAA];simp only[ZAP,ZAA];rw[ZAE (by omega)];simp only[ZAD];rw[<-hl,aBZ hge,ZAA,acZ (by rw[R.ok.n,hlen];exact hk),ZAA,hd,ZAA,adZ (by rw[ZAm];omega),ZB2,htake,w3Z,ZAA];simp only[ZAO,ZAA,ZAD,ZAP];rw[<-hl,aBZ hge,ZAA];refine(congrArg (fun o=>Option.bind o _) (sSZ (X:=([m],[r])) false hge hle fun z hz=>by
   rw[hca,hb];unfold dAt;rw[ZAd (by omega)];rfl)).trans ?_
  rw[ZAA];simp only[ZAP,ZAA];rw[acZ (by rw[hlen];exact hk),ZAA,hm,ZAA];refine(congrArg (fun o=>Option.bind o _) (hxZ (dG r) (R.ok.fit.at hm))).trans ?_;rw[ZAA,w64 (by omega)]
  rfl
 ·show dL bB s.2.1.1 (s.2.1.1.length:Int) s.1 s.2.1.1 s.2.1.2 s.2.2.1.1 s.2.2.1.2 s.2.2.2.1 s.2.2.2.2 nx q M [m]=_;unfold dL Pb Pc Pd Pe Pf Pg Ph Pi Pj Pk Pl PJ PK PL;rw[ZAE (by omega)]
  rfl
end
def g0(k:Int):cS:=(0,(M0.1,((k,[]),(pl3,[]))))
theorem u1Z{k}{q}(hk:1<=k/\k<=100)(hq:16<=q/\q<=65):wA (g0 k) q:=by
 refine⟨by simp[g0],tZZ,?_,rfl,fun i x hx hu hd=> ?_,hq,List.Pairwise.nil,fun p hp=>(by cases hp),by simp[g0]⟩
 ·unfold gG;rw[ZAK (show 1<=(g0 k).2.2.1.1/\(g0 k).2.2.1.1<=100 from hk)];rfl
 grind[g0,M0]
theorem rLZ(k)(hk:1<=k/\k<=100):nP bB k pl3=some (0,(M0.1.1,(0,(k,([],(pl3,([],0))))))):=by
 unfold nP TW;rw[ZAE (by omega),ZAD,ZAE (by omega),ZAA,ZAD,ZAA];refine(congrArg (fun o=>Option.bind o _) (((u1Z (q:=16) hk (by omega)).own))).trans ?_
 rfl
def cr1:bT:=(0,(1,(uO 2,((1,1),([102],((0,0),([],(0,(0,[])))))))))
def wr1(x:Int)(off n:Nat):bT:=(0,(x,(uO 5,((2,1),([],((0,0),([],((off:Int),(0,List.replicate n 0)))))))))
def sz1(n:Int):bT:=(0,(3,(uO 6,((2,1),([],((0,0),([],(0,(n,[])))))))))
def rd1:bT:=(0,(3,(uO 4,((2,1),([],((0,0),([],(15,(30,[])))))))))
def fI(n:Int)(P:List cV):List Ino:=[(1,1,true,true,0,[],1,[([102],2)]),(2,1,true,false,n,P,1,[])]
def gS1:cS:=(0,((fI 0 [],0),((3,[(0,(0,[(0,(1,(0,((2,1),(false,(0,([],([],(false,0)))))))))]))]),(pl3,[]))))
def gS2:cS:=(0,((fI 20 [(1,5),(2,5)],2),((3,[(0,(0,[(0,(1,(0,((2,1),(false,(0,([],([],(false,0))))))))),(0,(2,(0,((2,1),(false,(20,([],([],(false,0)))))))))]))]),(pl3,[]))))
theorem m3Z{s:cS}{c:bT}{vs:List Int}{l:List Ino}{w win:Int}{ks:List eO}(h:wA s 16)(x:wY c.2.1 s.2.2.1.2)(h2:(dZ s 16 c).1.1=2)(hf:KF bB (dZ s 16 c).1 vs 0=some true)(hv:vs.length=(dZ s 16 c).1.2.2.2.length)(hvs:∀v∈vs,1<=v/\v<=1099511627776)
 (hw:s.2.1.2<=65000)(e1:wN s 16 c vs=l)(e2:FN s 16 c vs=w)(e3:(s.2.2.1.1,iC s.2.2.1.1 s.2.2.1.2 (dO s c))=(win,ks)):
 ∃dead:List cV,nV bB s ((16:Nat):Int) c vs 0=some ((s.1,((l,w),((win,ks),(pl3,dead)))),jK (dO s c) (0:Int))/\dead.Perm (s.2.2.2.2++(wO s 16 c).filter fun p=> !dF p)/\Next s 16 c vs (s.1,((l,w),((win,ks),(pl3,dead)))):=by
 obtain⟨s',a,N⟩:=nAZ ⟨h,h2,x,hf⟩ hw hv hvs;have e:s'=(s.1,((l,w),((win,ks),(pl3,s'.2.2.2.2)))):=by
  rw[<-e1,<-e2,<-e3,<-N.tree,<-N.ww,<-N.ca,<-N.life,<-N.ok.pl]
 rw[e] at a N;exact⟨_,a,N.dd,N⟩
theorem uWZ:mN bB=some true:=by
 have x0:wY cr1.2.1 (g0 3).2.2.1.2:=fun k hk=>(by cases hk);obtain⟨d1,a1,p1,N1⟩:=m3Z (c:=cr1) (vs:=[]) (l:=fI 0 []) (w:=0) (win:=3) (ks:=gS1.2.2.1.2) (u1Z (k:=3) (by omega) (by omega)) x0 (by show _=_;kernel_rfl) (by show _=_;kernel_rfl) (by show _=_;kernel_rfl) (fun v hv=>(by cases hv)) (by decide) (by show _=_;kernel_rfl) (by show _=_;kernel_rfl) (by show _=_;kernel_rfl);rw[show(g0 3).2.2.2.2++(wO (g0 3) 16 cr1).filter (fun p=> !dF p)=[] from by show _=_;kernel_rfl] at p1;obtain rfl:=p1.eq_nil;have N1:Next (g0 3) 16 cr1 [] gS1:=N1;obtain⟨d2,a2,p2,N2⟩:=m3Z (s:=gS1) (c:=wr1 2 0 20) (vs:=[5,5]) (l:=fI 20 [(1,5),(2,5)]) (w:=2) (win:=3) (ks:=gS2.2.2.1.2) N1.ok (N1.xs.mono (by decide)) (by show _=_;kernel_rfl) (by show _=_;kernel_rfl) (by show _=_;kernel_rfl) (fun v hv=>(by simp at hv;omega)) (by decide) (by show _=_;kernel_rfl) (by show _=_;kernel_rfl) (by show _=_;kernel_rfl);rw[show gS1.2.2.2.2++(wO gS1 16 (wr1 2 0 20)).filter (fun p=> !dF p)=[] from by show _=_;kernel_rfl] at p2;obtain rfl:=p2.eq_nil;have N2:Next gS1 16 (wr1 2 0 20) [5,5] gS2:=N2;obtain⟨d3,a3,p3,N3⟩:=m3Z (s:=gS2) (c:=sz1 16) (vs:=[]) (l:=fI 16 [(1,5)]) (w:=2) (win:=3) (ks:=(iC 3 gS2.2.2.1.2 (dO gS2 (sz1 16)))) N2.ok (N2.xs.mono (by decide)) (by show _=_;kernel_rfl) (by show _=_;kernel_rfl) (by show _=_;kernel_rfl) (fun v hv=>(by cases hv)) (by decide) (by show _=_;kernel_rfl) (by show _=_;kernel_rfl) rfl;rw[show gS2.2.2.2.2++(wO gS2 16 (sz1 16)).filter (fun p=> !dF p)=[(2,5)] from by show _=_;kernel_rfl] at p3;obtain rfl:=p3.eq_singleton;have pl:=fun c=>eiZ N2.ok c;unfold mN Pa Pb Pc Pd Pe Pf Pg Ph Pi Pj Pk PB PC PF PK;rw[show kC bB=some pl3 from rfl,ZAA,rLZ 3 (by omega),ZAA];simp only;refine(congrArg (fun o=>Option.bind o _) (show nV bB _ 16 _ [] 0=_ from a1)).trans ?_;rw[ZAA];simp only;refine(congrArg (fun o=>Option.bind o _) (show nV bB _ 16 _ [5,5] 0=_ from a2)).trans ?_;rw[ZAA];simp only
 refine(congrArg (fun o=>Option.bind o _) (show nU bB _ 16 _=_ from pl rd1)).trans ?_;rw[ZAA];refine(congrArg (fun o=>Option.bind o _) (show nU bB _ 16 _=_ from pl (wr1 3 15 2))).trans ?_;rw[ZAA];refine(congrArg (fun o=>Option.bind o _) (show nU bB _ 16 _=_ from pl (wr1 3 16 16))).trans ?_;rw[ZAA];refine(congrArg (fun o=>Option.bind o _) (show nU bB _ 16 _=_ from pl (wr1 3 50 1))).trans ?_;rw[ZAA];refine(congrArg (fun o=>Option.bind o _) (show _=some (false,[gS2],(0:Int),(1:Int),(0:Int),(2:Int),(1:Int),false,(0:Int),([]:List UInt8),([]:List DK),false,(0:Int)) from by kernel_rfl)).trans ?_;rw[ZAA];simp only[ZAD,ZAP,ZAA];refine(congrArg (fun o=>Option.bind o _) (show nU bB _ 16 _=_ from pl (sz1 18))).trans ?_;rw[ZAA];refine(congrArg (fun o=>Option.bind o _) (show nU bB _ 16 _=_ from pl (sz1 16))).trans ?_;rw[ZAA];refine(congrArg (fun o=>Option.bind o _) (show nV bB _ 16 _ [] 0=_ from a3)).trans ?_;rw[ZAA];show _=_
 kernel_rfl
theorem s7Z{s:cS}{q:Nat}{nx:Int}{M:BM}{n:Int}{m m':Mod}{c:bT}{r:bX}(h:lE s q nx M n)(R:Rel s q M m)(hr:r=kG c (bN m' c)):eV bB m c r r s.1 s.2.1.1 s.2.1.2 s.2.2.1.1 s.2.2.1.2 s.2.2.2.1 s.2.2.2.2 nx (q:Int) M=some (true,stD s nx q M):=by
 unfold eV;rw[hgZ r (by rw[hr];have:=slZ m' c;show(bN m' c).2.2.2.2.2.2.1.length<=100000;omega),ZAA,ZAM];refine(congrArg (fun o=>Option.bind o _) (show KA bB s (q:Int)=some true from h.ok.right)).trans ?_;rw[ZAA,ZAM,seZ h R]
 rfl
theorem uUZ{α β γ:Type}{P:Option β->Prop}{x:Option (α⊕γ)}{f:α⊕γ->Option β}(J:α->Prop)(h:∃w,x=some (.inl w)/\J w)(hf:∀w,J w->P (f (.inl w))):P (x.bind f):=by
 obtain⟨w,rfl,hw⟩:=h;exact hf w hw
theorem kSZ{α β:Type}{P:Option β->Prop}{x:Option α}{f:α->Option β}(J:α->Prop)(h:∃w,x=some w/\J w)(hf:∀w,J w->P (f w)):P (x.bind f):=by
 obtain⟨w,rfl,hw⟩:=h;exact hf w hw
abbrev TY:=bT×(Int×Int)
abbrev OK:=Int×(List Ino×(Int×(Int×(List eO×(List iN×(List cV×(Int×(Int×(BM×(List Mod×List (Int×Int)))))))))))
def FP(q k:Nat)(v:OK):Prop:=∃s nx M m hs,v=stZ s nx q M ([m],hs)/\lE s q nx M (k:Int)/\Rel s q M m/\1<=hs.length/\hs.length<=k+1
def InW{γ:Type}(J:OK->Prop)(x:Option (OK⊕γ)):Prop:=∃w,x=some (.inl w)/\J w
def TM(q k:Nat)(x:Option ((Int×OK)⊕(Unit⊕Bool))):Prop:=x=some (.inr (.inl ()))\/∃v,x=some (.inl (((k+1:Nat):Int),v))/\FP q (k+1) v
theorem mdZ{l:List TY}{q k:Nat}{s:cS}{nx:Int}{M:BM}{m:Mod}{hs:List (Int×Int)}(hk:k<l.length)(hk30:k<30)(h:lE s q nx M (k:Int))(R:Rel s q M m)(h1:1<=hs.length)(h2:hs.length<=k+1):
 TM q k (dC bB l (k:Int) s.1 s.2.1.1 s.2.1.2 s.2.2.1.1 s.2.2.1.2 s.2.2.2.1 s.2.2.2.2 nx (q:Int) M [m] hs):=by
 obtain⟨o,ho⟩:∃o,l[k]? =some o:=⟨_,ZAB hk⟩;obtain⟨g,hgr⟩:=uBZ R.ok;unfold dC Pa Pb Pc Pd Pe Pf Pg Ph Pi Pj Pk Pl Pm Pn Po Pp Pq Pr Ps Pt PK PL PM PT;rw[aHZ hk,ZAM,ZAK (show(k:Int)<30 by omega),ZAM,ZAP,ZAA,hgr,ZAA,ZAA];cases g with
 |true=>left;rfl
 |false=>
  simp only[ZAo,ZAM];rw[w64 (by omega)];refine uUZ (P:=TM q k) (FP q (k+1)) ?_ fun w hw=>.inr ⟨w,rfl,hw⟩;rw[acZ hk,ZAA,ho,ZAA];have hk1:lE s q nx M ((k+1:Nat):Int):=h.mono (by omega);rcases rEZ o.1 with hh|hh
  ·rw[hh,ZAA];exact⟨_,rfl,s,nx,M,m,hs,rfl,hk1,R,h1,by omega⟩
  rw[hh,ZAA,ZAD];simp only[ZAA,ho];have pa:=iZZ o.2.1 (n:=hs.length) (by omega) (by omega);have pb:=iZZ o.2.2 (n:=hs.length) (by omega) (by omega);obtain⟨a,hga⟩:∃a,hs[(wJ o.2.1 hs.length).toNat]? =some a:=⟨_,ZAB (by omega)⟩;obtain⟨b,hgb⟩:∃b,hs[(wJ o.2.2 hs.length).toNat]? =some b:=⟨_,ZAB (by omega)⟩;refine kSZ (P:=InW (FP q (k+1))) (fun v=>∃(t:Bool) (c:bT),c.2.1=((k+1:Nat):Int)/\v=(t,stZ s nx (q:Int) M ([m],(hs,[c])))) ?_ ?_
  ·cases decide (o.2.1>=0) with
   |true=>exact⟨_,rfl,_,(o.1.1,(((k+1:Nat):Int),o.1.2.2)),rfl,rfl⟩
   |false=>exact⟨_,rfl,_,(o.1.1,(((k+1:Nat):Int),o.1.2.2)),rfl,rfl⟩
  rintro v ⟨t,c,hc,rfl⟩;refine kSZ (P:=InW (FP q (k+1))) (fun v=>∃(c:bT),c.2.1=((k+1:Nat):Int)/\v=stZ s nx (q:Int) M ([m],(hs,[c]))) ?_ ?_
  ·cases t with
   |true=>
    simp only[ZAM];rw[jdZ _ _ (by omega),ZAA,a0Z (by omega) (by omega),ZAA,hga,ZAA,ZAP,ZAA];exact⟨_,rfl,(c.1,(c.2.1,(c.2.2.1,(a,c.2.2.2.2)))),hc,rfl⟩
   |false=>exact⟨_,rfl,c,hc,rfl⟩
  rintro v ⟨c,hc,rfl⟩;refine kSZ (P:=InW (FP q (k+1))) (fun v=>∃(t:Bool),v=(t,stZ s nx (q:Int) M ([m],(hs,[c])))) ?_ ?_
  ·cases decide (o.2.2>=0) with
   |true=>exact⟨_,rfl,_,rfl⟩
   |false=>exact⟨_,rfl,_,rfl⟩
  rintro v ⟨t,rfl⟩;refine kSZ (P:=InW (FP q (k+1))) (fun v=>∃(c:bT),c.2.1=((k+1:Nat):Int)/\v=stZ s nx (q:Int) M ([m],(hs,[c]))) ?_ ?_
  ·cases t with
   |true=>
    simp only[ZAM];rw[jdZ _ _ (by omega),ZAA,a0Z (by omega) (by omega),ZAA,hgb,ZAA,ZAP,ZAA];exact⟨_,rfl,(c.1,(c.2.1,(c.2.2.1,(c.2.2.2.1,(c.2.2.2.2.1,(b,c.2.2.2.2.2.2)))))),hc,rfl⟩
   |false=>exact⟨_,rfl,c,hc,rfl⟩
  rintro v ⟨c,hc,rfl⟩;simp only[ZAP,ZAA,ZBo];rw[qBZ R.ok,ZAA];obtain⟨r,s',nx',M',e,D,hs'⟩:=pSZ (c:=c) h (by omega);obtain⟨er,R'⟩:=vfZ h R (by omega) D;rw[hc] at hs';refine(congrArg (InW _) (congrArg (fun o=>Option.bind o _) e)).mpr ?_;rw[ZAA];unfold jK;simp only;refine kSZ (P:=InW (FP q (k+1))) (fun v=>∃(hs2:List (Int×Int)),1<=hs2.length/\hs2.length<=k+2/\v=stZ s' nx' (q:Int) M' ([(bN m c).1],(hs2,([c],([r],[r]))))) ?_ ?_
  ·cases decide (r.2.2.2.1.1>0) with
   |true=>
    simp only[ZAM];rw[adZ (by simp only[ZAF,ZAm,aqZ];omega)];exact⟨_,rfl,hs++[_],by simp,by simp;omega,by rw[er];rfl⟩
   |false=>exact⟨_,rfl,hs,h1,by omega,by rw[er];rfl⟩
  rintro v ⟨hs2,g1,g2,rfl⟩;simp only[ZAO,ZAD,ZAP,ZAA];refine(congrArg (InW _) (congrArg (fun o=>Option.bind (Option.bind o _) _) (s7Z (c:=c) hs' R' er))).mpr ?_;exact⟨_,rfl,s',nx',M',(bN m c).1,hs2,rfl,hs',R',g1,by omega⟩
theorem wzZ{n:Int}(hn:1<=n/\n<=1000)(x:Int):∃v:Nat,lM bB x n=some (v:Int)/\(v:Int)<n:=by
 have:=iZZ x hn.1 (by omega);exact⟨(wJ x n).toNat,by rw[jdZ x n hn.1];congr 1;omega,by omega⟩
theorem knZ(size:Int)(l:List TY):gS bB size l=some true:=by
 unfold gS jE;obtain⟨p,hp,hp2⟩:=wzZ (n:=50) (by omega) size;rw[hp,ZAA,show kC bB=some pl3 from rfl,ZAA,rLZ 4 (by omega),ZAA];simp only[show((0:Int)==0)=true from rfl,ZAO,ZAD];rw[weZ,ZAA,w64 (by omega)];have h0:lE (g0 4) (16+p) 0 ([],0) ((0:Nat):Int):=⟨u1Z (by omega) (by omega),fun k hk=>(by cases hk),by omega,by show(0:Int)<=_;omega,by omega,fun p=>.inl rfl,rfl,fun x hx p hp=>by
  simp[g0,M0] at hx;subst hx;cases hp⟩
 have r0:Rel (g0 4) (16+p) ([],0) M0:=⟨w4Z,rfl,fun i x d hx hd z=>by
  cases i with
  |zero=>cases hx;cases hd;rfl
  |succ i=>cases hx⟩
 obtain⟨o,ho,hq⟩:∃o,iter bB (fun tt=>dC bB l tt.1 tt.2.1 tt.2.2.1 tt.2.2.2.1 tt.2.2.2.2.1 tt.2.2.2.2.2.1 tt.2.2.2.2.2.2.1 tt.2.2.2.2.2.2.2.1 tt.2.2.2.2.2.2.2.2.1 tt.2.2.2.2.2.2.2.2.2.1 tt.2.2.2.2.2.2.2.2.2.2.1 tt.2.2.2.2.2.2.2.2.2.2.2.1 tt.2.2.2.2.2.2.2.2.2.2.2.2) ((0:Int),stZ (g0 4) 0 ((16+p:Nat):Int) ([],0) ([M0],[((1:Int),(1:Int))]))=some o/\o= .inl ():=by
  refine aAZ (fun n v=>∃(k:Nat) (w:OK),v=((k:Int),w)/\k+n=30/\FP (16+p) k w) _ (fun n v hI=> ?_) (fun v hI=> ?_) 30 _ (by omega) ⟨0,_,rfl,by omega,g0 4,0,([],0),M0,_,rfl,h0,r0,by simp,by simp⟩
  ·obtain⟨k,w,rfl,hk,s,nx,M,m,hs,rfl,i1,i2,i3,i4⟩:=hI;by_cases hkl:k<l.length
   ·rcases mdZ hkl (by omega) i1 i2 i3 i4 with e|⟨w,e,hw⟩
    ·exact .inr ⟨_,e,rfl⟩
    ·exact .inl ⟨_,e,k+1,w,rfl,by omega,hw⟩
   ·refine .inr ⟨.inl (),?_,rfl⟩;show dC bB l (k:Int) s.1 s.2.1.1 s.2.1.2 s.2.2.1.1 s.2.2.1.2 s.2.2.2.1 s.2.2.2.2 nx _ M [m] hs=_;unfold dC Pa Pb Pc Pd Pe Pf Pg Ph Pi Pj Pk Pl Pm Pn Po Pp Pq Pr Ps Pt PK PL PM PT;rw[aDZ hkl];simp only[ZAD,ZAA]
  ·obtain⟨k,w,rfl,hk,s,nx,M,m,hs,rfl,i1,i2,i3,i4⟩:=hI;refine⟨.inl (),?_,rfl⟩;show dC bB l (k:Int) s.1 s.2.1.1 s.2.1.2 s.2.2.1.1 s.2.2.1.2 s.2.2.2.1 s.2.2.2.2 nx _ M [m] hs=_;unfold dC Pa Pb Pc Pd Pe Pf Pg Ph Pi Pj Pk Pl Pm Pn Po Pp Pq Pr Ps Pt PK PL PM PT;by_cases hkl:k<l.length
   ·rw[aHZ hkl,ZAM,ZAE (show¬((k:Int)<30) by omega)];simp only[ZAD,ZAA]
   ·rw[aDZ hkl];simp only[ZAD,ZAA]
 subst hq;rw[show(16:Int)+(p:Int)=((16+p:Nat):Int) by omega];refine(congrArg (fun o=>Option.bind o _) ho).trans ?_
 rfl
theorem law25_StateModel_true(size:Int)(l:List TY)(_k0:OkV (.int .i64) size)(_k1:OkV (.sl (.pair nN qY5)) l):jT bB size l=some true:=by
 unfold jT;rw[knZ,ZAA,ZAM,uWZ,ZAA]
end Go.Ab.D
