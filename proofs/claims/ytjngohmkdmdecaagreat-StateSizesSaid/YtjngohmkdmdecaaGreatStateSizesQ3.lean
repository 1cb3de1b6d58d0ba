/- What the functions compute; the plain law. -/
import Derived.Test.YtjngohmkdmdecaaGreatStateSizesQ2
import Derived.KernelRfl
set_option linter.all false
set_option maxRecDepth 100000
open Prod renaming B->PB,C->PC,D->PD,E->PE,F->PF,G->PG,H->PH,I->PI,J->PJ,K->PK,L->PL,M->PM,S->PS,T->PT,U->PU,V->PV,Y->PY,ZC->PZC,ZF->PZF,a->Pa,b->Pb,c->Pc,d->Pd,e->Pe,f->Pf,g->Pg,h->Ph,i->Pi,j->Pj,k->Pk,l->Pl,m->Pm,n->Pn,o->Po,p->Pp,q->Pq,r->Pr,s->Ps,t->Pt,u->Pu,v->Pv,w->Pw,x->Px,y->Py,z->Pz,za->Pza,zb->Pzb,zc->Pzc,zd->Pzd,ze->Pze,zf->Pzf
namespace Go.Ab
theorem ZBm:type_of% @List.set_cons_zero:=@List.set_cons_zero
end Go.Ab
namespace Go.Ab.D
open Go Go.Ab
def wO(n:Int)(ks:List eJ):Prop:=∀k∈ks,k.2.1<=n/\∀r∈k.2.2,r.2.1<=n
theorem wO.mono{n m}{ks}(h:wO n ks)(hm:n<=m):wO m ks:=fun k hk=>⟨by have:=(h k hk).1;omega,fun r hr=>by have:=(h k hk).2 r hr;omega⟩
theorem mcZ{ks}{x}{k}(h:kOf ks x=some k):k∈ks:=ZCF h
theorem sDZ{c}{cl x n}(hc:gD c=true)(h:wO n c.2)(hx:n<x):look c cl x=(zR,0):=by
 unfold look;rw[ZAM hc];cases hk:kOf c.2 cl with
 |none=>rfl
 |some k=>
  have hm:=h k (mcZ hk);simp;rw[ZAK (by omega)];cases hr:rOf k.2.2 x with
  |none=>rfl
  |some r=>
   have h1:=hm.2 r (ZCF hr);have h2:=ZCq hr;have h2:=by simpa using h2
   omega
theorem pvZ{α}(p):∀{l:List α},(∀x∈l,p x=true)->pre p l=l.length
 |[],_=>rfl
 |x::l,h=>by
  unfold pre;rw[ZAM (h x (ZAq ..)),pvZ p fun y hy=>h y (ZAc _ hy)];rfl
theorem rZZ{w n}{k}{r}(hw:1<=w)(h1:k.2.1<=n)(h2:∀r∈k.2.2,r.2.1<=n)(hr:n<r.2.1):(tI w k r).2.1<=n/\(∀x∈(tI w k r).2.2,x=r\/x∈k.2.2)/\rOf (tI w k r).2.2 r.2.1=some r:=by
 have hp:fU k.2.2 r.2.1=k.2.2.length:=pvZ _ fun x hx=>ZAJ (by have:=h2 x hx;omega);have no:∀l,(∀x∈l,x.2.1<=n)->rOf (l++[r]) r.2.1=some r:=fun l hl=>by
  unfold rOf;rw[List.find?_append,ZBu.2 (fun x hx=>by have:=hl x hx;simp;omega)];simp
 unfold tI;rw[hp,ZAx,List.drop_length,ZAr]
 grind
theorem ssZ(c)(cl x):(look c cl x).2=0\/(look c cl x).2=1\/(look c cl x).2=2:=by
 grind[look]
theorem vnZ{c}{r}(hc:gD c=true)(h:wO r.2.1 c.2)(hr:cF r=true)(h1:1<=r.2.1)(hl:(look c r.1 r.2.1).2=0):
 put c r=((c.1,iC c.1 c.2 r),0)/\gD (c.1,iC c.1 c.2 r)=true/\wO r.2.1 (iC c.1 c.2 r)/\look (c.1,iC c.1 c.2 r) r.1 r.2.1=(r,1):=by
 let⟨ok,kof⟩:=sWZ hc hr hl
 let⟨g1,g2,g3⟩:=bAZ.1 hc
 let⟨o1,o2,o3⟩:=bAZ.1 ok
 have hk:(fV c.2 r.1).2.1<=r.2.1-1/\∀x∈(fV c.2 r.1).2.2,x.2.1<=r.2.1-1:=by
  unfold fV;unfold look at hl;rw[ZAM hc] at hl;cases e:kOf c.2 r.1 with
  |none=>exact⟨by show(0:Int)<=_;omega,fun x hx=>by cases hx⟩
  |some k=>
   rw[e] at hl;simp at hl;have hm:=h k (mcZ e);split at hl
   ·cases hl
   ·rename_i hgt;refine⟨by show k.2.1<=_;omega,fun x hx=> ?_⟩;have:=hm.2 x hx;cases hrr:rOf k.2.2 r.2.1 with
    |some y=>rw[hrr] at hl;cases hl
    |none=>
     have:=ZBu.1 hrr x hx;have:=by simpa using this
     omega
 let⟨p1,p2,p3⟩:=rZZ (r:=r) g1.1 hk.1 hk.2 (by omega)
 refine⟨?_,ok,fun k hkm=> ?_,?_⟩
 ·unfold put;rw[ZAM ⟨hc,hr,hl⟩]
 ·have hf:=(imZ o2).2 ⟨hkm,rfl⟩;rw[kof] at hf;split at hf
  ·obtain rfl:=ZAf hf;refine⟨by omega,fun x hx'=> ?_⟩;rcases p2 x hx' with rfl|e
   ·exact ZB1 _
   ·have:=hk.2 x e;omega
  ·exact h k (mcZ hf)
 ·unfold look;rw[ZAM ok,kof,ZAM rfl];simp only;rw[ZAK (by omega),p3]
set_option maxHeartbeats 4000000
theorem gxZ{c}(hr:bK c=true):oS c.1 c.2.1=true:=by
 unfold bK vO at hr;simp at hr;exact hr.2.1
theorem sRZ{c}(hr:bK c=true)(hop:c.2.2.1=uO 5\/c.2.2.1=uO 6):kD c.2.2.2.1=true:=by
 unfold bK vO at hr;simp at hr;have h:=hr.2.2.1;rcases hop with e|e<;>(rw[e] at h;exact h)
def IM(c:bV)(e:Int):bU:=(c.1,(c.2.1,(e,((0,0),(false,(0,([],([],(false,0)))))))))
theorem qeZ{c}{e}(hr:bK c=true)(he:1<=e/\e<=1000):cF (IM c e)=true:=by
 unfold cF IM;rw[gxZ hr,ZAJ (show 0<=e/\e<=1000 by omega),ZAM (show e≠0 by omega)]
 rfl
theorem jdZ{c}{H}{d}{sz}(hr:bK c=true)(hH:(zD H||kD H)=true)(hs:0<=sz/\sz<=65536):cF (c.1,(c.2.1,(0,(H,(d,(sz,([],([],(false,0)))))))))=true:=by
 simp_all[cF,gxZ,ZAJ]
theorem lMZ{m}{c}(hr:bK c=true)(h:(bN m c).2.1≠0):(bN m c).2.1=(cL m c).1/\(bN m c).2.2=kR:=by
 unfold bN at h⊢
 grind
theorem rmZ{s:cW}{c}(h:bL s.2.1)(hr:bK c=true)(ha:jG c.2.2.1=false):cF (kE c (bN (bF s.2.1) c))=true:=by
 have hm:=aYZ h;have no:∀n:Nat,n<256->c.2.2.1=uO n->jG (uO n)=false:=fun n _ e=>by simp_all
 have op:=i3Z hr;by_cases h0:(bN (bF s.2.1) c).2.1=0
 ·by_cases h56:c.2.2.1=uO 5\/c.2.2.1=uO 6
  ·have hf:∃x,jH s c x:=by
    rcases h56 with e|e
    ·exact(u0Z hr e h0).1
    ·exact(ujZ hr e h0).1
   obtain⟨x,hx⟩:=hf;obtain⟨_,r2,r3⟩:=e3Z h hr h56 h0 hx
   simp_all[kE,jdZ,sRZ]
  ·have hres:(bN (bF s.2.1) c).2.2=(cL (bF s.2.1) c).2.2:=by
    unfold bN;rw[ZAM hr,ZAM (res0 hr h0)]
   have h1:=res0 hr h0;have hmk:cL (bF s.2.1) c=gJ (bF s.2.1) c->cF (kE c (bN (bF s.2.1) c))=true:=fun e=>by
    rw[e] at h1;unfold kE;rw[h0,hres,e];unfold gJ at h1⊢;split at h1
    ·rename_i hk;rw[ZAM hk];exact jdZ hr (by rw[lwZ hm.t _ _ _ hk];simp) ⟨ZB1 0,show(0:Int)<=65536 by decide⟩
    ·rename_i hk;exact absurd h1 hk
   have hrep:(cL (bF s.2.1) c).2.2=kR->cF (kE c (bN (bF s.2.1) c))=true:=fun e=>by
    unfold kE;rw[h0,hres,e];exact jdZ hr rfl ⟨by decide,by decide⟩
   rcases op with e|e|e|e|e|e|e|e|e|e|e|e
   ·exact absurd (no 1 (by decide) e) (by decide)
   ·exact hmk (by unfold cL;rw[e];rfl)
   ·exact hmk (by unfold cL;rw[e];rfl)
   ·exact absurd (no 4 (by decide) e) (by decide)
   ·exact absurd (.inl e) h56
   ·exact absurd (.inr e) h56
   ·exact hrep (by rw[show cL (bF s.2.1) c=dI (bF s.2.1) c by unfold cL;rw[e];rfl];unfold dI;split<;>rfl)
   ·exact hrep (by rw[show cL (bF s.2.1) c=dI (bF s.2.1) c by unfold cL;rw[e];rfl];unfold dI;split<;>rfl)
   ·exact hrep (by rw[show cL (bF s.2.1) c=eV (bF s.2.1) c by unfold cL;rw[e];rfl];unfold eV;split<;>rfl)
   ·exact absurd (no 10 (by decide) e) (by decide)
   ·exact absurd (no 11 (by decide) e) (by decide)
   ·exact absurd (no 12 (by decide) e) (by decide)
 ·obtain⟨e1,e2⟩:=lMZ hr h0;have rng:0<=(cL (bF s.2.1) c).1/\(cL (bF s.2.1) c).1<=1000:=by
   rcases op with e|e|e|e|e|e|e|e|e|e|e|e
   ·exact absurd (no 1 (by decide) e) (by decide)
   ·rw[show cL (bF s.2.1) c=gJ (bF s.2.1) c by unfold cL;rw[e];rfl];unfold gJ;split<;>first|(dsimp only;decide)|exact mBZ _ _ _ _
   ·rw[show cL (bF s.2.1) c=gJ (bF s.2.1) c by unfold cL;rw[e];rfl];unfold gJ;split<;>first|(dsimp only;decide)|exact mBZ _ _ _ _
   ·exact absurd (no 4 (by decide) e) (by decide)
   ·rw[act5 e];unfold iL;split
    ·split<;>(dsimp only;decide)
    ·exact mDZ _ _
   ·rw[act6 e];unfold lU;split
    ·split<;>(dsimp only;decide)
    ·exact mDZ _ _
   ·rw[show cL (bF s.2.1) c=dI (bF s.2.1) c by unfold cL;rw[e];rfl];unfold dI;split<;>first|(dsimp only;decide)|exact idZ _ _ _ _
   ·rw[show cL (bF s.2.1) c=dI (bF s.2.1) c by unfold cL;rw[e];rfl];unfold dI;split<;>first|(dsimp only;decide)|exact idZ _ _ _ _
   ·rw[show cL (bF s.2.1) c=eV (bF s.2.1) c by unfold cL;rw[e];rfl];unfold eV;split<;>first|(dsimp only;decide)|exact o6Z _ _ _ _ _
   ·exact absurd (no 10 (by decide) e) (by decide)
   ·exact absurd (no 11 (by decide) e) (by decide)
   ·exact absurd (no 12 (by decide) e) (by decide)
  have:=qeZ hr (e:=(bN (bF s.2.1) c).2.1) (by omega);unfold kE;rw[e2];exact this
theorem cHZ{s}{q}{c}(h:(dW s q c).1.1=2):(dW s q c).2=0/\bK c=true/\jG c.2.2.1=false:=by
 unfold dW at h⊢;by_cases hr:bK c=true
 ·rw[ZAM hr] at h⊢;cases ha:jG c.2.2.1
  ·rw[ZAK (by decide)];refine⟨?_,hr,rfl⟩;split
   ·rfl
   ·split
    ·rfl
    ·split<;>rfl
  ·rw[ha,ZAM rfl] at h;split at h<;>cases h
 simp_all
theorem qFZ{s}{q}{c}(h:(dW s q c).1.1=2):(look s.2.2.1 c.1 c.2.1).2=0:=by
 let⟨_,hr,ha⟩:=cHZ h
 unfold dW at h;rcases ssZ s.2.2.1 c.1 c.2.1 with e|e|e<;>simp_all
theorem uxZ{c}(hr:bK c=true):1<=c.2.1:=by
 have:=gxZ hr
 simp_all[oS]
theorem vQ.own{s}{q}(h:vQ s q):fX bB s=some (s.1,(s.2.1.2,(s.2.2.1.1,(s.2.2.1.2,(s.2.1.1,(s.2.2.2.1,s.2.2.2.2)))))):=
 uSZ s h.t.r.fit (b7Z h.c) (by rw[h.pl];exact⟨by decide,by decide⟩) (by have:=h.dn;omega)
def nU(r y:Ino):Bool:=y.2.2.1&&(y.2.1==r.2.1)
def cN(l0 l1:List Ino)(i:Nat):List dC:=match l0[i]?,l1[i]? with
 |some r,some y=>if nU r y=true then r.2.2.2.2.2.1 else[]
 |_,_=>[]
def lY(l0 l1:List Ino)(i:Nat):List dC:=match l0[i]?,l1[i]? with
 |some r,some y=>if nU r y=true then[] else r.2.2.2.2.2.1
 |_,_=>[]
def fG(l0 l1:List Ino):Nat->List dC
 |0=>[]
 |k+1=>fG l0 l1 k++lY l0 l1 k
theorem eeZ{l}{P Q}(h:∀(i) x,l[i]? =some x->P i=Q i):dG l P=dG l Q:=by
 refine ZA8 fun i=> ?_
 grind[dG,ZCI,ZBS]
theorem k8Z{l}{P}{k}{y}(h:l[k]? =some y)(Q):(dG l P).set k (oT y Q)=dG l fun i=>if i=k then Q else P i:=by
 refine ZA8 fun i=> ?_;by_cases hi:i=k
 ·subst hi;rw[ZAQ (by grind[bHZ,ZAB]),bMZ _ h,ZAM rfl]
 ·rw[ZAX (fun e=>hi e.symm)]
  simp_all[dG,ZAK]
theorem oMZ{l}(h:∀(i:Nat) y,l[i]? =some y->y.2.2.2.2.2.1=[]):dG l (fun _=>[])=l:=by
 refine ZA8 fun i=> ?_;unfold dG;rw[ZCI];cases e:l[i]? with
 |none=>rfl
 |some x=>
  have:=h i x e
  let⟨a,b,c,d,f,P,g⟩:=x
  subst this;rfl
theorem eTZ{l0 l1}(h:∀x∈l0,x.2.2.2.2.2.1.length<=4096):∀k,(fG l0 l1 k).length<=k*4096
 |0=>ZAN _
 |k+1=>by
  have ih:=eTZ (l1:=l1) h k;have:(lY l0 l1 k).length<=4096:=by
   unfold lY;split
   ·rename_i r y hr hy;split
    ·exact ZBG _
    ·exact h r (ZAI hr)
   ·exact ZBG _
  grind[fG,ZAe,ZAn]
theorem nvZ{l0 l1:List Ino}(hlen:l0.length<=l1.length/\l1.length<=500)(hP:∀x∈l0,x.2.2.2.2.2.1.length<=4096)(hn:∀(i:Nat) y,l1[i]? =some y->y.2.2.2.2.2.1=[])(t life s win)(ks:List eJ)(q)(pl:List gU)(dead:List dC):
 rD bB t life s win ks q l0 pl dead l1=some (life,(t,(win,(ks,(q,(dG l1 (cN l0 l1),(pl,(dead,(l0,fG l0 l1 l0.length))))))))):=by
 unfold rD Pd Pe Pf Pg Ph Pi Pj PJ;have loop:kO bB l0 (t,(0,(life,(s,(win,(ks,(q,(l0,(pl,(dead,([],(l1,t))))))))))))=some (t,(life,(s,(win,(ks,(q,(l0,(pl,(dead,(fG l0 l1 l0.length,(dG l1 (cN l0 l1),t))))))))))):=by
  unfold kO;have e0:(t,((0:Int),(life,(s,(win,(ks,(q,(l0,(pl,(dead,(([]:List dC),(l1,t))))))))))))=(fun k:Nat=>(t,((k:Int),(life,(s,(win,(ks,(q,(l0,(pl,(dead,(fG l0 l1 k,(dG l1 (fun i=>if i<k then cN l0 l1 i else[]),t))))))))))))) 0:=by
   simp only[ZBf,ZCi,oMZ hn,fG];rfl
  refine(congrArg (iter bB _) e0).trans ?_;refine aoZ (fun k:Nat=>(t,((k:Int),(life,(s,(win,(ks,(q,(l0,(pl,(dead,(fG l0 l1 k,(dG l1 (fun i=>if i<k then cN l0 l1 i else[]),t))))))))))))) l0.length (by omega) (fun k hk=> ?_) ?_
  ·obtain⟨r,hr⟩:∃r,l0[k]? =some r:=⟨_,ZAC hk⟩;obtain⟨y,hy⟩:∃y,l1[k]? =some y:=⟨_,ZAC (by omega)⟩;have hyk:(dG l1 (fun i=>if i<k then cN l0 l1 i else[]))[k]? =some (oT y []):=by
    rw[bMZ _ hy,ZAK (ZAz k)]
   have hg:=eTZ (l1:=l1) hP k;have hr4:=hP r (ZAI hr);have hm:cN l0 l1 k=if nU r y=true then r.2.2.2.2.2.1 else[]:=by unfold cN;rw[hr,hy]
   have hga:lY l0 l1 k=if nU r y=true then[] else r.2.2.2.2.2.1:=by unfold lY;rw[hr,hy]
   show jC bB l0 t (k:Int) life s win ks q l0 pl dead (fG l0 l1 k) (dG l1 (fun i=>if i<k then cN l0 l1 i else[])) t=_;unfold jC Pb Pc Pd Pe Pf Pg Ph Pi Pj Pk Pl Pr;rw[ZAJ (by omega),ZAL,adZ hk,ZAA,hr,ZAA,bHZ,adZ (by omega),ZAA,hyk,ZAA];have test:∀{β} (a b:β),(bif (oT y []).2.2.1 then(some k).bind fun q2=>((dG l1 (fun i=>if i<k then cN l0 l1 i else[]))[q2]?).bind fun r2=>some (t,((r2.2.1==r.2.1),(life,(s,(win,(ks,(q,(l0,(pl,(dead,(fG l0 l1 k,(dG l1 (fun i=>if i<k then cN l0 l1 i else[]),(t,r))))))))))))) else some (t,(false,(life,(s,(win,(ks,(q,(l0,(pl,(dead,(fG l0 l1 k,(dG l1 (fun i=>if i<k then cN l0 l1 i else[]),(t,r))))))))))))))=some (t,(nU r y,(life,(s,(win,(ks,(q,(l0,(pl,(dead,(fG l0 l1 k,(dG l1 (fun i=>if i<k then cN l0 l1 i else[]),(t,r))))))))))))):=fun _ _=>by
    unfold nU;rw[show(oT y []).2.2.1=y.2.2.1 from rfl];cases hu:y.2.2.1
    ·rfl
    ·rw[ZAL,ZAA,hyk,ZAA];rfl
   rw[test () (),ZAA];simp only;cases hk2:nU r y
   ·rw[hk2] at hm hga;simp only[ZAD];rw[acZ (by simp only[ZAE,ZAm,arZ];omega),ZAA,w64 (by omega)];rw[show fG l0 l1 (k+1)=fG l0 l1 k++r.2.2.2.2.2.1 by
     show fG l0 l1 k++lY l0 l1 k=_;rw[hga];rfl]
    rw[eeZ (Q:=fun i=>if i<k+1 then cN l0 l1 i else[]) (fun i x _=>by
     by_cases h:i=k
     ·subst h;rw[ZAK (ZAz _),ZAM (Nat.lt_succ_self _),hm];rfl
     ·by_cases h2:i<k
      ·rw[ZAM h2,ZAM (by omega)]
      ·rw[ZAK h2,ZAK (by omega)])]
    rfl
   ·rw[hk2] at hm hga;simp only[ZAL];rw[adZ (by rw[bHZ];omega),ZAA,hyk,ZAA,ZAA,w64 (by omega)];rw[show fG l0 l1 (k+1)=fG l0 l1 k by
     show fG l0 l1 k++lY l0 l1 k=_;rw[hga];simp]
    rw[show((oT y []).1,((oT y []).2.1,((oT y []).2.2.1,((oT y []).2.2.2.1,((oT y []).2.2.2.2.1,(r.2.2.2.2.2.1,(oT y []).2.2.2.2.2.2))))))=oT y r.2.2.2.2.2.1 from rfl,k8Z hy];rw[eeZ (Q:=fun i=>if i<k+1 then cN l0 l1 i else[]) (fun i x _=>by
     by_cases h:i=k
     ·subst h;rw[ZAM rfl,ZAM (Nat.lt_succ_self _),hm];rfl
     ·rw[ZAK h];by_cases h2:i<k
      ·rw[ZAM h2,ZAM (by omega)]
      ·rw[ZAK h2,ZAK (by omega)])]
    rfl
  ·show jC bB l0 t ((l0.length:Nat):Int) life s win ks q l0 pl dead (fG l0 l1 l0.length) _ t=_;unfold jC Pb Pc Pd Pe Pf Pg Ph Pi Pj Pk Pl Pr;rw[ZAF (by omega),ZAD];rw[eeZ (fun i x _=>by
    by_cases h:i<l0.length
    ·rw[ZAM h]
    ·rw[ZAK h];unfold cN;rw[ZAg (by omega)])]
 grind
theorem jFZ(x)(l):bD (x::l)=bR x.2.2.2.2.2.1++bD l:=rfl
theorem ekZ(a b):bD (a++b)=bD a++bD b:=by simp_all[bD]
theorem fVZ{l}{P}{k}{x}(h:l[k]? =some x):bD ((dG l P).take (k+1))=bD ((dG l P).take k)++bR (P k):=by
 rw[bDZ (bMZ P h)];rfl
theorem ihZ{l0 l1}(hlen:l0.length<=l1.length):∀k,k<=l0.length->(bD ((dG l1 (cN l0 l1)).take k)++bR (fG l0 l1 k)).Perm (bD (l0.take k))
 |0,_=>List.Perm.refl _
 |k+1,hk=>by
  have ih:=ihZ hlen k (by omega);obtain⟨r,hr⟩:∃r,l0[k]? =some r:=⟨_,ZAC (by omega)⟩;obtain⟨y,hy⟩:∃y,l1[k]? =some y:=⟨_,ZAC (by omega)⟩;have hm:cN l0 l1 k=if nU r y=true then r.2.2.2.2.2.1 else[]:=by unfold cN;rw[hr,hy]
  have hg:lY l0 l1 k=if nU r y=true then[] else r.2.2.2.2.2.1:=by unfold lY;rw[hr,hy]
  rw[fVZ hy,bDZ hr,show fG l0 l1 (k+1)=fG l0 l1 k++lY l0 l1 k from rfl,a2Z,hm,hg];cases nU r y
  ·rw[ZAK (by decide),fLZ,ZAr,<-List.append_assoc]
   grind
  ·rw[ZAM rfl,ZAM rfl,fLZ,ZAr,ZAw]
   grind
theorem kHZ{l0 l1}(hlen:l0.length<=l1.length):(bD (dG l1 (cN l0 l1))++bR (fG l0 l1 l0.length)).Perm (bD l0):=by
 have h:=ihZ hlen l0.length (ZAN _);have e:bD (dG l1 (cN l0 l1))=bD ((dG l1 (cN l0 l1)).take l0.length):=by
  conv=>lhs;rw[<-List.take_append_drop l0.length (dG l1 (cN l0 l1)),ekZ]
  rw[ngZ (l:=(dG l1 (cN l0 l1)).drop l0.length),ZAr];intro x hx
  let⟨i,hi⟩:=ZAR hx
  rw[ZAy] at hi;obtain⟨z,_,rfl⟩:=aXZ hi;show cN l0 l1 (l0.length+i)=[];unfold cN;rw[ZAg (by omega)]
 simp_all
theorem slZ{l}{k}{x}(h:l[k]? =some x):∃rest,(bD l).Perm (bR x.2.2.2.2.2.1++rest)/\∀y,(bD (l.set k y)).Perm (bR y.2.2.2.2.2.1++rest):=by
 have hk:=(ZAB.1 h).1;refine⟨bD (l.take k)++bD (l.drop (k+1)),?_,fun y=> ?_⟩
 ·have e:l=l.take k++x::l.drop (k+1):=by
   rw[<-(ZAB.1 h).2,<-List.drop_eq_getElem_cons hk,ZBB]
  grind[ekZ,jFZ,ZAw,List.perm_append_comm]
 ·rw[List.set_eq_take_append_cons_drop,ZAM hk,ekZ,jFZ,<-List.append_assoc]
  grind
open Go Go.Ab Go.Shelf Go.Sort Go.Proofs
theorem omZ{α} [Inhabited α]{lt}{d d':Array α}(h:PermIn 0 d.size d d')(hs:SortedIn lt 0 d.size d'):d'.toList.Perm d.toList/\d'.toList.Pairwise (fun x y=>lt y x=false):=by
 have hsz:=h.1;have hp:=h.2.2;have e:d'.extract 0 d.size=d':=by rw[<-hsz,Array.extract_size]
 rw[Array.extract_size,e] at hp;refine⟨hp,ZBq.2 fun i j hi hj hij=> ?_⟩;rw[ZBD] at hi hj;have:=hs i j (ZBG _) hij (by omega)
 simp_all
theorem tqZ{l:List dC}(h:∀x∈l,okP x=true):∃l',xY l=some l'/\l'.Perm l/\(l'.map (·.1)).Pairwise (·<=·):=by
 have hl:DN l=some (l.attach.map fun x=>⟨x.1,h x.1 x.2⟩):=by unfold DN;rw[dif_pos h]
 generalize ht:(l.attach.map fun x=>(⟨x.1,h x.1 x.2⟩:xX))=t at hl;have hv:=mJZ l t hl;have hs:=h3Z swoP t
 let⟨s1,s2⟩:=omZ hs.1 hs.2
 refine⟨(pL (ltOf cfP) t).map fun x=>x.1,by simp_all[xY],?_,?_⟩
 ·have:=s1.map fun x:xX=>x.1;rw[hv] at this;exact this
 ·rw[List.map_map,List.pairwise_map];refine List.Pairwise.imp (fun{a b} hab=> ?_) s2;have hab:=ZCp hab;unfold cfP at hab;simp;omega
theorem lhZ(gone:List dC)(life w win q)(ks:List eJ)(l:List Ino)(pl:List gU)(dead:List dC)(hg:gone.length<=10000000)(hd:dead.length<=1000000):
 mU bB gone (0,(life,(w,(win,(ks,(q,(l,(pl,(dead,gone)))))))))=some (life,(w,(win,(ks,(q,(l,(pl,(dead++gone.filter fun p=> !dK p,gone)))))))):=by
 unfold mU;have e0:((0:Int),(life,(w,(win,(ks,(q,(l,(pl,(dead,gone)))))))))=(fun k:Nat=>((k:Int),(life,(w,(win,(ks,(q,(l,(pl,(dead++(gone.take k).filter (fun p=> !dK p),gone)))))))))) 0:=by simp
 refine(congrArg (iter bB _) e0).trans ?_;refine aoZ (fun k:Nat=>((k:Int),(life,(w,(win,(ks,(q,(l,(pl,(dead++(gone.take k).filter (fun p=> !dK p),gone)))))))))) gone.length (by omega) (fun k hk=> ?_) ?_
 ·obtain⟨r,hr⟩:∃r,gone[k]? =some r:=⟨_,ZAC hk⟩;have hf:=by
   have:=ZBi (fun p=> !dK p) (gone.take k);rw[ZAS] at this;omega
  show lR bB gone (k:Int) life w win ks q l pl (dead++(gone.take k).filter (fun p=> !dK p)) gone=_;unfold lR;rw[ZAJ (by omega),adZ hk,ZAA,hr,ZAA,aWZ hr,ZCn];cases hh:dK r
  ·rw[show((r.1==0)&&(r.2==0))=false from hh];simp only[ZAl,ZAL];rw[acZ (by simp only[ZAE,ZAm,arZ,ZAe];omega),ZAA,w64 (by omega),ZBx (by rw[hh];rfl),List.filter_nil,ZAw]
   rfl
  ·rw[show((r.1==0)&&(r.2==0))=true from hh];simp only[ZAO,ZAD,ZAA];rw[w64 (by omega),List.filter_cons_of_neg (by rw[hh];decide),List.filter_nil,ZAr]
   rfl
 ·show lR bB gone ((gone.length:Nat):Int) life w win ks q l pl _ gone=_;unfold lR;rw[ZAF (by omega),ZAD,ZAx]
theorem j6Z{gone:List dC}{life w win q}{ks:List eJ}{l:List Ino}{pl:List gU}{dead dead':List dC}(hg:gone.length<=10000000)(hd:dead.length<=1000000)(hs:xY (dead++gone.filter fun p=> !dK p)=some dead')(hl:dead'.length<=65536)(hw:w<=1099511627776):
 xF bB life w win ks q l pl dead gone=some (true,(life,(w,(win,(ks,(q,(l,(pl,(gone,dead'))))))))):=by
 unfold xF Pb Pc Pd Pe Pf Pg PG;rw[lhZ gone life w win q ks l pl dead hg hd,ZAA];unfold CX;rw[acZ (by grind[ZBd]),hs,ZAA,ZAJ (by omega),ZAL,ZAJ hw]
theorem oIZ(L):bR L=(L.map (·.1)).filter (fun k=>k !=0):=by
 rw[List.filter_map]
 rfl
theorem f3Z{L}{i}{o p}(h:L[i]? =some o)(e:o.1=p.1):bR (L.set i p)=bR L:=by
 simp_all[oIZ,dGZ]
theorem f2Z{L}{i}{o p}(h:L[i]? =some o)(e:o.1=0)(hp:p.1≠0):(bR (L.set i p)).Perm (bR L++[p.1]):=by
 have hi:=(ZAB.1 h).1;have e1:L=L.take i++o::L.drop (i+1):=by
  rw[<-(ZAB.1 h).2,<-List.drop_eq_getElem_cons hi,ZBB]
 rw[List.set_eq_take_append_cons_drop,ZAM hi]
 conv=>rhs;rw[e1]
 rw[show L.take i++p::L.drop (i+1)=L.take i++([p]++L.drop (i+1)) from rfl,show L.take i++o::L.drop (i+1)=L.take i++([o]++L.drop (i+1)) from rfl,a2Z,a2Z,a2Z,a2Z,deZ hp,d5Z e,ZAw]
 grind
def mY(P:List dC)(wh:Nat->Bool)(a:Nat)(w:Int)(j:Nat):Int:=if dK (pAt P (a+j))=true then(dQ P wh a j w).1+1 else(pAt P (a+j)).1
theorem dfZ(P)(wh)(a)(w):∀(n j),j<n->(dQ P wh a n w).2.1[j]? =some (((a+j:Nat):Int),(pAt P (a+j),mY P wh a w j))
 |n+1,j,h=>by
  have hl:=(bjZ P wh a w n).1;unfold mY;by_cases hj:j<n
  ·have ih:=dfZ P wh a w n j hj;show(iD P wh (a+n) (dQ P wh a n w)).2.1[j]? =_;unfold iD;split
   ·rw[ZAT (by omega)];exact ih
   ·rw[ZAT (by omega)];exact ih
  ·obtain rfl:j=n:=by omega
   show(iD P wh (a+j) (dQ P wh a j w)).2.1[j]? =_;unfold iD;split
   ·rw[ZAU (by omega),hl,ZBo];rfl
   ·rw[ZAU (by omega),hl,ZBo];rfl
theorem mVZ(P)(wh)(a)(w)(k):(dQ P wh a (k+1) w).1=if dK (pAt P (a+k))=true then(dQ P wh a k w).1+1 else(dQ P wh a k w).1:=by
 grind[iD,dQ]
def wrF(l:List fW)(vs:List Int):Nat->Int×List dC->Int×List dC
 |0,s=>s
 |k+1,s=>((if((l[k]?).getD (0,((0,0),0))).2.2>(wrF l vs k s).1 then((l[k]?).getD (0,((0,0),0))).2.2 else(wrF l vs k s).1),(wrF l vs k s).2.set ((l[k]?).getD (0,((0,0),0))).1.toNat (((l[k]?).getD (0,((0,0),0))).2.2,(vs[k]?).getD 0))
def gK(P:List dC)(N:Nat):List dC:=P.take N++List.replicate (N-P.length) (0,0)
theorem iXZ(P)(N):(gK P N).length=N:=by grind[gK]
theorem nmZ(P){N i}(h:i<N):(gK P N)[i]? =some (pAt P i):=by
 unfold gK pAt
 grind
structure Wrt (P:List dC) (wh:Nat->Bool) (a:Nat) (w:Int) (N:Nat) (vs:List Int) (k:Nat) (s:Int×List dC):Prop where
 e:s.1=(dQ P wh a k w).1
 n:s.2.length=N
 far:∀i,a+k<=i->s.2[i]? =(gK P N)[i]?
 st:∃fresh:List Int,(bR s.2).Perm (bR (gK P N)++fresh)/\fresh.Nodup/\∀x∈fresh,w<x/\x<=s.1
 ok:∀p∈s.2,p∈gK P N\/∃j,j<k/\p=(mY P wh a w j,(vs[j]?).getD 0)/\1<=p.1/\p.1<=s.1
theorem mqZ{P}{wh}{a n N}{w W}{vs}(hN0:n≠0->a+n<=N)(hP:∀p∈P,dY W p)(hW:W<=w)(hw:0<=w):∀k,k<=n->Wrt P wh a w N vs k (wrF (dQ P wh a n w).2.1 vs k (w,gK P N))
 |0,_=>⟨rfl,iXZ P N,fun _ _=>rfl,⟨[],by simp[wrF],List.nodup_nil,fun x hx=>by grind⟩,fun p hp=>.inl hp⟩
 |k+1,hk=>by
  have ih:=mqZ (vs:=vs) (wh:=wh) hN0 hP hW hw k (by omega);have hN:=hN0 (by omega);have hf:=bjZ P wh a w k;have bG:=dfZ P wh a w n k (by omega);have hold:(wrF (dQ P wh a n w).2.1 vs k (w,gK P N)).2[a+k]? =some (pAt P (a+k)):=by rw[ih.far _ (ZAN _),nmZ P (by omega)]
  let⟨fr,f1,f2,f3⟩:=ih.st
  have hw1:=ih.e;generalize hs:wrF (dQ P wh a n w).2.1 vs k (w,gK P N)=s at*;have e:wrF (dQ P wh a n w).2.1 vs (k+1) (w,gK P N)=((if mY P wh a w k>s.1 then mY P wh a w k else s.1),s.2.set (a+k) (mY P wh a w k,(vs[k]?).getD 0)):=by
   unfold wrF;rw[bG,hs];simp only[ZCR,ZBW]
  rw[e];have hpm:pAt P (a+k)=(0,0)\/pAt P (a+k)∈P:=by
   unfold pAt;cases hx:P[a+k]? with
   |none=>simp_all
   |some p=>grind
  have far:∀i,a+(k+1)<=i->(s.2.set (a+k) (mY P wh a w k,(vs[k]?).getD 0))[i]? =(gK P N)[i]? :=fun i hi=>by
   rw[ZAX (by omega)];exact ih.far i (by omega)
  have mem:∀p∈s.2.set (a+k) (mY P wh a w k,(vs[k]?).getD 0),p∈s.2\/p=(mY P wh a w k,(vs[k]?).getD 0):=fun p hp=>List.mem_or_eq_of_mem_set hp;cases hh:dK (pAt P (a+k))
  ·have hst:mY P wh a w k=(pAt P (a+k)).1:=by unfold mY;rw[hh];rfl
   have hin:=hpm.resolve_left fun z=>by rw[z] at hh;cases hh
   have hok:1<=(pAt P (a+k)).1/\(pAt P (a+k)).1<=W:=by
    rcases hP _ hin with z|z
    ·unfold dK at hh;rw[z.1,z.2] at hh;cases hh
    ·exact⟨z.1,z.2.1⟩
   rw[hst] at far mem⊢;have hle:¬(pAt P (a+k)).1>s.1:=by omega
   rw[ZAK hle];refine⟨by rw[mVZ,hh,ZAK (by decide)];exact hw1,by rw[ZAt];exact ih.n,far,⟨fr,by
    show(bR (s.2.set (a+k) ((pAt P (a+k)).1,(vs[k]?).getD 0))).Perm _;rw[f3Z (p:=((pAt P (a+k)).1,(vs[k]?).getD 0)) hold rfl];exact f1,f2,f3⟩,fun p hp=> ?_⟩
   rcases mem p hp with h|h
   ·rcases ih.ok p h with z|⟨j,j1,j2,j3⟩
    ·exact .inl z
    ·exact .inr ⟨j,by omega,j2,j3⟩
   grind
  ·have hst:mY P wh a w k=s.1+1:=by unfold mY;rw[hh,ZAM rfl,hw1]
   rw[hst] at far mem⊢;rw[ZAM (by omega)];have h0:=by unfold dK at hh;simp only[ZAE,ZBp] at hh;exact hh.1
   refine⟨by rw[mVZ,hh,ZAM rfl,hw1],by rw[ZAt];exact ih.n,far,⟨fr++[s.1+1],?_,?_,?_⟩,fun p hp=> ?_⟩
   ·rw[<-List.append_assoc];exact(f2Z hold h0 (by simp only;omega)).trans (f1.append_right _)
   ·rw[ZBV];exact⟨f2,by simp,fun x hx y hy=>by
     rw[ZCW] at hy;have:=(f3 x hx).2;omega⟩
   ·intro x hx;rcases ZAh.1 hx with h|h
    ·have:=f3 x h;exact⟨this.1,by simp only;omega⟩
    ·rw[ZCW] at h;simp only;omega
   ·rcases mem p hp with h|h
    ·rcases ih.ok p h with z|⟨j,j1,j2,j3⟩
     ·exact .inl z
     ·exact .inr ⟨j,by omega,j2,by simp only;omega⟩
    ·exact .inr ⟨k,by omega,by rw[hst];exact h,by rw[h];simp only;omega⟩
theorem nIZ(P:List dC)(n):bY (List.replicate n (0,0)) 0 (List.take (List.replicate (α:=Int×Int) n (0,0)).length P)=gK P n:=by
 unfold bY gK
 grind
theorem nSZ{l1:List Ino}{i q N a n:Nat}{x}{w win life}{ks:List eJ}{pl:List gU}{dead gone:List dC}{wh}{vs}(hx:l1[i]? =some x)(hl:l1.length<=500)
 (hs:0<=x.2.2.2.2.1/\x.2.2.2.2.1<=65536)(hq:16<=q/\q<=65)(hN:(x.2.2.2.2.1.toNat+q-1)/q=N)(hn0:n≠0->a+n<=N)(hP:x.2.2.2.2.2.1.length<=4096)(hv:vs.length=n)(hnn:n<=100000)(hg:gone.length<=5000000):
 uN bB ((i:Int)+1) (dQ x.2.2.2.2.2.1 wh a n w).2.1 vs life w win ks (q:Int) l1 pl dead gone=
  some (life,((wrF (dQ x.2.2.2.2.2.1 wh a n w).2.1 vs n (w,gK x.2.2.2.2.2.1 N)).1,(win,(ks,((q:Int),(l1.set i (oT x (wrF (dQ x.2.2.2.2.2.1 wh a n w).2.1 vs n (w,gK x.2.2.2.2.2.1 N)).2),(pl,(dead,gone++x.2.2.2.2.2.1.drop (min x.2.2.2.2.2.1.length N))))))))):=by
 have hi:=(ZAB.1 hx).1;have hN4:N<=4096:=by
  rw[<-hN];exact lrZ (by omega) (by omega)
 have hlen:(dQ x.2.2.2.2.2.1 wh a n w).2.1.length=n:=(bjZ _ _ _ _ _).1;unfold uN Pb Pc Pd Pe Pf Pg Ph Pi PE PI;rw[w64 (by omega),show(i:Int)+1-1=(i:Int) by omega,adZ hi,ZAA,hx];simp only[ZAA];rw[show x.2.2.2.2.1=((x.2.2.2.2.1.toNat:Nat):Int) by omega,hEZ (by omega) (by omega),hN,ZAA];rw[b0Z (by omega) (by grind[arZ]),ZAA,ZBW,b0Z (by omega) (by omega),ZAA,ZBW,acZ (by grind[ZAm,arZ])];rw[show(if((x.2.2.2.2.2.1.length:Nat):Int)<(N:Int) then((x.2.2.2.2.2.1.length:Nat):Int) else(N:Int))=((min x.2.2.2.2.2.1.length N:Nat):Int) by omega];rw[b0Z (by omega) (by omega),ZAA,ZBW,acZ (by simp only[ZAE,ZAm,arZ,ZAu];omega),nIZ];have loop:∀g:List dC,mT bB (dQ x.2.2.2.2.2.1 wh a n w).2.1 vs (i,(0,(life,(w,(win,(ks,((q:Int),(l1,(pl,(dead,(g,gK x.2.2.2.2.2.1 N)))))))))))=
  some (i,(life,((wrF (dQ x.2.2.2.2.2.1 wh a n w).2.1 vs n (w,gK x.2.2.2.2.2.1 N)).1,(win,(ks,((q:Int),(l1,(pl,(dead,(g,(wrF (dQ x.2.2.2.2.2.1 wh a n w).2.1 vs n (w,gK x.2.2.2.2.2.1 N)).2)))))))))):=fun g=>by
  unfold mT;refine aoZ (fun k:Nat=>(i,((k:Int),(life,((wrF (dQ x.2.2.2.2.2.1 wh a n w).2.1 vs k (w,gK x.2.2.2.2.2.1 N)).1,(win,(ks,((q:Int),(l1,(pl,(dead,(g,(wrF (dQ x.2.2.2.2.2.1 wh a n w).2.1 vs k (w,gK x.2.2.2.2.2.1 N)).2)))))))))))) n (by omega) (fun k hk=> ?_) ?_
  ·have hn:=hn0 (by omega);have bG:=dfZ x.2.2.2.2.2.1 wh a w n k hk;have hLn:∀k,(wrF (dQ x.2.2.2.2.2.1 wh a n w).2.1 vs k (w,gK x.2.2.2.2.2.1 N)).2.length=N:=fun k=>by
    induction k<;>grind[iXZ,wrF,ZAt]
   have hLk:=hLn k;show lQ bB (dQ x.2.2.2.2.2.1 wh a n w).2.1 vs i (k:Int) life _ win ks (q:Int) l1 pl dead g _=_;unfold lQ;rw[hlen,ZAJ (by omega),ZAL,adZ hk,ZAA,bG,ZAA,hv,adZ hk,ZAA,ZAC (by omega),ZAA,hLk];simp only;rw[adZ (by omega),ZAA,ZAC (by omega),ZAA,w64 (by omega)];show _=some (Sum.inl (i,(((k+1:Nat):Int),(life,((wrF (dQ x.2.2.2.2.2.1 wh a n w).2.1 vs (k+1) (w,gK x.2.2.2.2.2.1 N)).1,(win,(ks,((q:Int),(l1,(pl,(dead,(g,(wrF (dQ x.2.2.2.2.2.1 wh a n w).2.1 vs (k+1) (w,gK x.2.2.2.2.2.1 N)).2))))))))))));rw[show wrF (dQ x.2.2.2.2.2.1 wh a n w).2.1 vs (k+1) (w,gK x.2.2.2.2.2.1 N)=((if mY x.2.2.2.2.2.1 wh a w k>(wrF (dQ x.2.2.2.2.2.1 wh a n w).2.1 vs k (w,gK x.2.2.2.2.2.1 N)).1 then mY x.2.2.2.2.2.1 wh a w k else(wrF (dQ x.2.2.2.2.2.1 wh a n w).2.1 vs k (w,gK x.2.2.2.2.2.1 N)).1),(wrF (dQ x.2.2.2.2.2.1 wh a n w).2.1 vs k (w,gK x.2.2.2.2.2.1 N)).2.set (a+k) (mY x.2.2.2.2.2.1 wh a w k,vs[k]'(by omega))) by
    grind[wrF,bG,ZAC,ZCR,ZBW]]
   rfl
  ·show lQ bB (dQ x.2.2.2.2.2.1 wh a n w).2.1 vs i (n:Int) life _ win ks (q:Int) l1 pl dead g _=_
   simp_all[lQ,ZAF,ZAD]
 rw[loop,ZAA];simp only;rw[hx,ZAA]
 rfl
def jI{β:Type}(r:bU)(e:β):Int×(Int×(Int×(Int×(Int×(Bool×(Int×(List UInt8×(List DB×(Bool×(Int×β)))))))))):=(r.1,(r.2.1,(r.2.2.1,(r.2.2.2.1.1,(r.2.2.2.1.2,(r.2.2.2.2.1,(r.2.2.2.2.2.1,(r.2.2.2.2.2.2.1,(r.2.2.2.2.2.2.2.1,(r.2.2.2.2.2.2.2.2.1,(r.2.2.2.2.2.2.2.2.2,e)))))))))))
def US(s:cW)(r:bU):cW:=(s.1,(s.2.1,((s.2.2.1.1,iC s.2.2.1.1 s.2.2.1.2 r),s.2.2.2)))
def NR(s:cW)(r:bU)(l:List Ino)(w:Int)(dead:List dC):cW:=(s.1,((l,w),((s.2.2.1.1,iC s.2.2.1.1 s.2.2.1.2 r),(s.2.2.2.1,dead))))
section
variable {s : cW} {q : Nat} {c : bV} {vs : List Int}
structure Ask (s:cW) (q:Nat) (c:bV) (vs:List Int):Prop where
 ok:vQ s q
 two:(dW s q c).1.1=2
 xs:wO c.2.1 s.2.2.1.2
 fit:JR bB (dW s q c).1 vs 0=some true
def dL(s:cW)(c:bV):bU:=kE c (bN (bF s.2.1) c)
theorem Ask.right(h:Ask s q c vs):cF (dL s c)=true:=rmZ h.ok.t (cHZ h.two).2.1 (cHZ h.two).2.2
theorem Ask.put(h:Ask s q c vs):put s.2.2.1 (dL s c)=((s.2.2.1.1,iC s.2.2.1.1 s.2.2.1.2 (dL s c)),0)/\gD (s.2.2.1.1,iC s.2.2.1.1 s.2.2.1.2 (dL s c))=true/\wO c.2.1 (iC s.2.2.1.1 s.2.2.1.2 (dL s c))/\look (s.2.2.1.1,iC s.2.2.1.1 s.2.2.1.2 (dL s c)) c.1 c.2.1=(dL s c,1):=
 vnZ h.ok.c h.xs h.right (uxZ (cHZ h.two).2.1) (qFZ h.two)
theorem n5Z(h:Ask s q c vs)(h0:(bN (bF s.2.1) c).2.1≠0):nQ bB s (q:Int) c vs 0=some (US s (dL s c),jI (dL s c) (0:Int)):=by
 unfold nQ Pa Pb Pc Pd Pe Pf Pg Ph Pi Pj Pk Pl Pm Pn Po Pp Pq Pr Ps Pt Pu Pv Pw Px Py Pz Pza Pzb Pzc Pzd Pze Pzf PD PH PL PM PT PY PZC PZF;rw[evZ h.ok,ZAA,(cHZ h.two).1,h.fit];simp only[ZAb,ZAO,ZAD,ZAA];rw[fIZ h.ok.t,ZAA,pSZ (aYZ h.ok.t)];simp[ZAP];rw[h.ok.own];have hd:(((doT (bN (bF s.2.1) c) c).2.1,((doT (bN (bF s.2.1) c) c).2.2.1,((doT (bN (bF s.2.1) c) c).2.2.2.1,(((doT (bN (bF s.2.1) c) c).2.2.2.2.1,(doT (bN (bF s.2.1) c) c).2.2.2.2.2.1),((doT (bN (bF s.2.1) c) c).2.2.2.2.2.2.1,((doT (bN (bF s.2.1) c) c).2.2.2.2.2.2.2.1,((doT (bN (bF s.2.1) c) c).2.2.2.2.2.2.2.2.1,((doT (bN (bF s.2.1) c) c).2.2.2.2.2.2.2.2.2.1,((doT (bN (bF s.2.1) c) c).2.2.2.2.2.2.2.2.2.2.1,(doT (bN (bF s.2.1) c) c).2.2.2.2.2.2.2.2.2.2.2.1))))))))):bU)=dL s c:=rfl;rw[hd,rjZ s.2.2.1 (dL s c) (b7Z h.ok.c) (bmZ h.right),h.put.1,show(doT (bN (bF s.2.1) c) c).2.2.2.1=(bN (bF s.2.1) c).2.1 from rfl,(ZAa.2 h0)]
 rfl
theorem leZ(h:Ask s q c vs)(h0:(bN (bF s.2.1) c).2.1=0)(hop:¬(c.2.2.1=uO 5\/c.2.2.1=uO 6)){dead':List dC}
 (hs:xY (s.2.2.2.2++(fG s.2.1.1 (bN (bF s.2.1) c).1.1.1 s.2.1.1.length).filter fun p=> !dK p)=some dead')(hl:dead'.length<=65536):
 nQ bB s (q:Int) c vs 0=some (NR s (dL s c) (dG (bN (bF s.2.1) c).1.1.1 (cN s.2.1.1 (bN (bF s.2.1) c).1.1.1)) (bN (bF s.2.1) c).1.1.2 dead',jI (dL s c) (0:Int)):=by
 have hm:=hyZ (aYZ h.ok.t) c
 let⟨st,sw⟩:=iIZ (m:=bF s.2.1) c fun _=>hop
 have hlen:s.2.1.1.length<=(bN (bF s.2.1) c).1.1.1.length/\(bN (bF s.2.1) c).1.1.1.length<=500:=⟨by have:=st.len;simp_all[bF],hm.t.r.len.2⟩;have hP:∀x∈s.2.1.1,x.2.2.2.2.2.1.length<=4096:=fun x hx=>by
  let⟨i,hi⟩:=ZAR hx
  have o:=h.ok.t.r.ino i x hi;cases hu:x.2.2.1
  ·rw[(o.bare hu).2.2.2.1];simp
  ·cases hd:x.2.2.2.1
   ·exact(o.file hu hd).2.2.1
   ·rw[(o.dir hu hd).2.1];simp
 have hn:=fun i y hy=>hm.p i y hy;have hgl:=eTZ (l1:=(bN (bF s.2.1) c).1.1.1) hP s.2.1.1.length;have hTl:=h.ok.t.r.len;have hws:=h.ok.t.r.str;unfold nQ Pa Pb Pc Pd Pe Pf Pg Ph Pi Pj Pk Pl Pm Pn Po Pp Pq Pr Ps Pt Pu Pv Pw Px Py Pz Pza Pzb Pzc Pzd Pze Pzf PD PH PL PM PT PY PZC PZF;rw[evZ h.ok,ZAA,(cHZ h.two).1,h.fit];simp only[ZAb,ZAO,ZAD,ZAA];rw[fIZ h.ok.t,ZAA,pSZ (aYZ h.ok.t)];simp only[ZAA,ZAP];rw[h.ok.own,ZAA];have hd:(((doT (bN (bF s.2.1) c) c).2.1,((doT (bN (bF s.2.1) c) c).2.2.1,((doT (bN (bF s.2.1) c) c).2.2.2.1,(((doT (bN (bF s.2.1) c) c).2.2.2.2.1,(doT (bN (bF s.2.1) c) c).2.2.2.2.2.1),((doT (bN (bF s.2.1) c) c).2.2.2.2.2.2.1,((doT (bN (bF s.2.1) c) c).2.2.2.2.2.2.2.1,((doT (bN (bF s.2.1) c) c).2.2.2.2.2.2.2.2.1,((doT (bN (bF s.2.1) c) c).2.2.2.2.2.2.2.2.2.1,((doT (bN (bF s.2.1) c) c).2.2.2.2.2.2.2.2.2.2.1,(doT (bN (bF s.2.1) c) c).2.2.2.2.2.2.2.2.2.2.2.1))))))))):bU)=dL s c:=rfl;rw[hd,rjZ s.2.2.1 (dL s c) (b7Z h.ok.c) (bmZ h.right),ZAA,h.put.1,show(doT (bN (bF s.2.1) c) c).2.2.2.1=(bN (bF s.2.1) c).2.1 from rfl,h0];simp only[putO,ZAb,ZAO,ZAD];rw[show(doT (bN (bF s.2.1) c) c).1=(bN (bF s.2.1) c).1.1.2 from rfl,show(doT (bN (bF s.2.1) c) c).2.2.2.2.2.2.2.2.2.2.2.2.1=(bN (bF s.2.1) c).1.1.1 from rfl,nvZ hlen hP hn,ZAA,op5,op6,ZAF (fun e=>hop (.inl e)),ZAF (fun e=>hop (.inr e))];simp only[ZAD,ZAA];rw[j6Z (by omega) (by have:=h.ok.dn;omega) hs hl (by rw[sw];exact hws.2),ZAA];simp only[ZAO,ZAD,ZAP,ZAA,ZBm];have e0:(dL s c).2.2.1=0:=h0;unfold jI;rw[e0]
 rfl
end
def atC(c:bV):Nat:=(c.2.2.2.1.1-1).toNat
def jJ(x:Ino)(q:Nat)(c:bV):Nat:=((dN x c).toNat+q-1)/q
structure Wri (s:cW) (q:Nat) (c:bV) (x:Ino):Prop where
 hop:c.2.2.1=uO 5\/c.2.2.1=uO 6
 h0:(bN (bF s.2.1) c).2.1=0
 f:jH s c x
 b5:c.2.2.1=uO 5->c.2.2.2.2.2.2.2.1+((c.2.2.2.2.2.2.2.2.2.length:Nat):Int)<=65536
 r:bK c=true
theorem mFZ{s}{q}{c}(hr:bK c=true)(hop:c.2.2.1=uO 5\/c.2.2.1=uO 6)(h0:(bN (bF s.2.1) c).2.1=0):∃x,Wri s q c x:=by
 rcases hop with h5|h6
 ·let⟨⟨x,hx⟩,hl⟩:=u0Z hr h5 h0
  exact⟨x,.inl h5,h0,hx,fun _=>hl,hr⟩
 ·let⟨⟨x,hx⟩,hl⟩:=ujZ hr h6 h0
  exact⟨x,.inr h6,h0,hx,fun h5=>by rw[h6] at h5;exact absurd h5 (by decide),hr⟩
theorem lYZ{x}{q}{c}(hq:16<=q)(hb:c.2.2.2.2.2.2.2.2.2.length<=4096):eK x q c<=258:=by
 unfold eK;generalize c.2.2.2.2.2.2.2.1.toNat=o;generalize c.2.2.2.2.2.2.2.2.2.length=n at*;split
 ·split
  ·omega
  ·have h1:(o+n+q-1)/q<=o/q+258:=by
    refine lrZ (by omega) ?_;have h2:=ZCL o q;have h3:=ZCc o (show 0<q by omega);have h4:258*16<=258*q:=ZB2 _ hq;have h5:1*q<=1*q:=ZAN _;rw[ZAn,ZCN (o/q) q];generalize q*(o/q)=z at*;have h6:257*16<=257*q:=ZB2 _ hq;omega
   omega
 grind
theorem Wri.span{s}{q}{c}{x}(h:Wri s q c x)(hq:16<=q):eK x q c≠0->cY q c+eK x q c<=jJ x q c:=by
 let⟨ho,hn,hb⟩:=a1Z h.r
 unfold eK cY jJ dN;by_cases e5:c.2.2.1=uO 5
 ·simp only[ZAM e5];by_cases hl:c.2.2.2.2.2.2.2.2.2.length=0
  ·simp_all
  ·rw[ZAK hl,ZAK hl];intro _;have h1:=nbZ (q:=q) (a:=c.2.2.2.2.2.2.2.1.toNat) (b:=c.2.2.2.2.2.2.2.1.toNat+c.2.2.2.2.2.2.2.2.2.length) (by omega) (by omega);have h2:=iEZ (q:=q) (a:=c.2.2.2.2.2.2.2.1.toNat+c.2.2.2.2.2.2.2.2.2.length) (b:=(max x.2.2.2.2.1 (c.2.2.2.2.2.2.2.1+((c.2.2.2.2.2.2.2.2.2.length:Nat):Int))).toNat) (by omega);omega
 ·simp only[ZAK e5];split
  ·rename_i hc;intro _;have h1:=ZCL c.2.2.2.2.2.2.2.2.1.toNat q;have:=(hoZ (k:=c.2.2.2.2.2.2.2.2.1.toNat/q) (to:=c.2.2.2.2.2.2.2.2.1.toNat) (q:=q) (by omega)).2 (by
    rw[ZCN];have:=hc.2.1;omega)
   omega
  ·exact fun z=>absurd rfl z
theorem g3Z{s}{q}{c}{x}(h2:(dW s q c).1.1=2)(h:Wri s q c x):dW s q c=((2,(zR,((lD x s.2.1.2 q c).2.2,(lD x s.2.1.2 q c).2.1))),0):=by
 let⟨_,hr,ha⟩:=cHZ h2
 unfold dW at h2⊢;rw[ZAM hr,ha,ZAK (by decide)] at h2⊢;split at h2
 ·cases h2
 ·rename_i h1;rw[ZAK h1];split at h2
  ·cases h2
  ·rename_i h3;rw[ZAK h3,ZAM ⟨h.h0,h.hop⟩,h.f.p]
theorem rNZ{s}{q}{c}(h2:(dW s q c).1.1=2)(h:¬((bN (bF s.2.1) c).2.1=0/\(c.2.2.1=uO 5\/c.2.2.1=uO 6))):dW s q c=((2,(zR,([],[]))),0):=by
 let⟨_,hr,ha⟩:=cHZ h2
 unfold dW at h2⊢;rw[ZAM hr,ha,ZAK (by decide)] at h2⊢;split at h2
 ·cases h2
 ·rename_i h1;rw[ZAK h1];split at h2
  ·cases h2
  ·rename_i h3;rw[ZAK h3,ZAK h]
def wrL(s:cW)(q:Nat)(c:bV)(vs:List Int)(x:Ino):Int×List dC:=wrF (lD x s.2.1.2 q c).2.1 vs (eK x q c) (s.2.1.2,gK x.2.2.2.2.2.1 (jJ x q c))
def l1W(s:cW)(c:bV)(x:Ino):List Ino:=(bF s.2.1).1.1.set (atC c) (wS (dJ x) (dN x c))
def lW(s:cW)(q:Nat)(c:bV)(vs:List Int)(x:Ino):List Ino:=(dG (l1W s c x) (cN s.2.1.1 (l1W s c x))).set (atC c) (oT (wS x (dN x c)) (wrL s q c vs x).2)
def wA(s:cW)(q:Nat)(c:bV)(x:Ino):List dC:=fG s.2.1.1 (l1W s c x) s.2.1.1.length++x.2.2.2.2.2.1.drop (min x.2.2.2.2.2.1.length (jJ x q c))
theorem fGZ(t):(bF t).1.1.length=t.1.length:=by simp[bF]
theorem ebZ{s}{q}{c}{x}(h:Wri s q c x):(l1W s c x)[atC c]? =some (wS (dJ x) (dN x c)):=by
 exact ZAQ (by rw[fGZ];exact(ZAB.1 h.f.at_).1)
theorem vqZ{s}{q}{c}{x}(h:Wri s q c x):(dG (l1W s c x) (cN s.2.1.1 (l1W s c x)))[atC c]? =some (wS x (dN x c)):=by
 have hx:s.2.1.1[atC c]? =some x:=h.f.at_;rw[bMZ _ (ebZ h)];have:cN s.2.1.1 (l1W s c x) (atC c)=x.2.2.2.2.2.1:=by
  unfold cN;rw[hx,ebZ h];simp only;unfold nU;rw[show(wS (dJ x) (dN x c)).2.2.1=x.2.2.1 from rfl,show(wS (dJ x) (dN x c)).2.1=x.2.1 from rfl,h.f.used,ZAb];rfl
 rw[this];rfl
theorem kiZ{l}{w}(h:bL (l,w)):∀x∈l,x.2.2.2.2.2.1.length<=4096/\∀p∈x.2.2.2.2.2.1,dY w p:=fun x hx=>by
 let⟨i,hi⟩:=ZAR hx
 have o:=h.r.ino i x hi;cases hu:x.2.2.1
 ·rw[(o.bare hu).2.2.2.1];simp
 ·cases hd:x.2.2.2.1
  ·exact(o.file hu hd).2.2
  ·rw[(o.dir hu hd).2.1];simp
section
variable {s : cW} {q : Nat} {c : bV} {vs : List Int} {x : Ino}
theorem lRZ(h:Ask s q c vs)(hw:Wri s q c x)(hv:vs.length=eK x q c){dead':List dC}
 (hs:xY (s.2.2.2.2++(wA s q c x).filter fun p=> !dK p)=some dead')(hl:dead'.length<=65536)(hb:(wrL s q c vs x).1<=1099511627776):
 nQ bB s (q:Int) c vs 0=some (NR s (dL s c) (lW s q c vs x) (wrL s q c vs x).1 dead',jI (dL s c) (0:Int)):=by
 have hm:=hyZ (aYZ h.ok.t) c;obtain⟨r1,r2,r3⟩:=e3Z h.ok.t hw.r hw.hop hw.h0 hw.f;have e1:(bN (bF s.2.1) c).1.1.1=l1W s c x:=by rw[r1];rfl
 have e2:(bN (bF s.2.1) c).1.1.2=s.2.1.2:=by rw[r1]
 have hlen:s.2.1.1.length<=(l1W s c x).length/\(l1W s c x).length<=500:=⟨by simp_all[l1W,ZAt,fGZ,ZAN],by rw[<-e1];exact hm.t.r.len.2⟩;have hP:=fun x hx=>(kiZ h.ok.t x hx).1;have hn:∀(i:Nat) y,(l1W s c x)[i]? =some y->y.2.2.2.2.2.1=[]:=fun i y hy=>hm.p i y (by simp_all);have hgl:=eTZ (l1:=l1W s c x) hP s.2.1.1.length;have hTl:=h.ok.t.r.len;have hq:=h.ok.q;have hxP:=hP x (ZAI hw.f.at_);have hlm:(dG (l1W s c x) (cN s.2.1.1 (l1W s c x))).length<=500:=by rw[bHZ];exact hlen.2
 have hmn:=lYZ (x:=x) hq.1 (a1Z hw.r).2.2;have hpl:=g3Z h.two hw;have hid:c.2.2.2.1.1=((atC c:Nat):Int)+1:=by have:=hw.f.h1;unfold atC;omega
 unfold nQ Pa Pb Pc Pd Pe Pf Pg Ph Pi Pj Pk Pl Pm Pn Po Pp Pq Pr Ps Pt Pu Pv Pw Px Py Pz Pza Pzb Pzc Pzd Pze Pzf PD PH PL PM PT PY PZC PZF;rw[evZ h.ok,ZAA,(cHZ h.two).1,h.fit,h.ok.own];simp only[ZAb,ZAO,ZAD,ZAA];rw[fIZ h.ok.t,ZAA,show(((bF s.2.1).1.1,(bF s.2.1).1.2),(bF s.2.1).2)=bF s.2.1 from rfl,pSZ (aYZ h.ok.t),ZAA];simp only[ZAA,ZAP];rw[h.ok.own,ZAA];have hd:(((doT (bN (bF s.2.1) c) c).2.1,((doT (bN (bF s.2.1) c) c).2.2.1,((doT (bN (bF s.2.1) c) c).2.2.2.1,(((doT (bN (bF s.2.1) c) c).2.2.2.2.1,(doT (bN (bF s.2.1) c) c).2.2.2.2.2.1),((doT (bN (bF s.2.1) c) c).2.2.2.2.2.2.1,((doT (bN (bF s.2.1) c) c).2.2.2.2.2.2.2.1,((doT (bN (bF s.2.1) c) c).2.2.2.2.2.2.2.2.1,((doT (bN (bF s.2.1) c) c).2.2.2.2.2.2.2.2.2.1,((doT (bN (bF s.2.1) c) c).2.2.2.2.2.2.2.2.2.2.1,(doT (bN (bF s.2.1) c) c).2.2.2.2.2.2.2.2.2.2.2.1))))))))):bU)=dL s c:=rfl;rw[hd,rjZ s.2.2.1 (dL s c) (b7Z h.ok.c) (bmZ h.right),ZAA,h.put.1,show(doT (bN (bF s.2.1) c) c).2.2.2.1=(bN (bF s.2.1) c).2.1 from rfl,hw.h0];simp only[putO,ZAb,ZAO,ZAD];rw[show(doT (bN (bF s.2.1) c) c).1=(bN (bF s.2.1) c).1.1.2 from rfl,show(doT (bN (bF s.2.1) c) c).2.2.2.2.2.2.2.2.2.2.2.2.1=(bN (bF s.2.1) c).1.1.1 from rfl,e1,e2,nvZ hlen hP hn,ZAA,op5,op6];have step:∀{α} (S:α),(bif decide (c.2.2.1=uO 5) then some (true,S) else some (decide (c.2.2.1=uO 6),S))=some (true,S):=fun S=>by
  rcases hw.hop with e|e<;>rw[e]<;>rfl
 rw[step,ZAA];simp only[ZAL,ZAP,ZAA];rw[hpl];simp only;have hwr:=nSZ (x:=wS x (dN x c)) (N:=jJ x q c) (a:=cY q c) (n:=eK x q c) (w:=s.2.1.2) (win:=s.2.2.1.1) (life:=s.1) (ks:=iC s.2.2.1.1 s.2.2.1.2 (dL s c)) (pl:=s.2.2.2.1) (dead:=s.2.2.2.2) (gone:=fG s.2.1.1 (l1W s c x) s.2.1.1.length) (wh:=eU q c) (vs:=vs) (q:=q) (vqZ hw) hlm r3 hq rfl (hw.span hq.1) hxP hv (by omega) (ZBF hgl (ZBF (ZAd _ hTl.2) (by decide)));rw[hid];rw[show uN bB (((atC c:Nat):Int)+1) (lD x s.2.1.2 q c).2.1 _ _ _ _ _ _ _ _ _ _=_ from hwr,ZAA];have hdr:(x.2.2.2.2.2.1.drop (min x.2.2.2.2.2.1.length (jJ x q c))).length<=4096:=by rw[ZAu];omega
 have hd6:=h.ok.dn;refine(congrArg (fun o=>Option.bind o _) (j6Z (gone:=wA s q c x) (w:=(wrL s q c vs x).1) (by grind[wA,ZAe,ZAd]) (by omega) hs hl hb)).trans ?_;rw[ZAA];simp only[ZAO,ZAD,ZAP,ZAA,ZBm];have e0:(dL s c).2.2.1=0:=hw.h0;unfold jI;rw[e0]
 rfl
end
theorem g4Z{w}{l}(h:∀p∈l,dY w p):(l.filter fun p=> !dK p).map (·.1)=bR l:=by
 congr 1;refine List.filter_congr fun p hp=> ?_;rcases h p hp with z|z
 ·simp_all[dK]
 ·have:p.1≠0:=by omega
  show(!((p.1==0)&&(p.2==0)))= !(p.1==0)
  simp_all
theorem pQZ:∀{l:List Int} {a b},l.Pairwise (·<·)->(∀x∈l,a<x/\x<=b)->l.length<=(b-a).toNat
 |[],_,_,_,_=>ZBG _
 |x::r,a,b,h,hb=>by
  let⟨h1,h2⟩:=ZA4.1 h
  have:=pQZ h2 fun y hy=>⟨h1 y hy,(hb y (ZAc _ hy)).2⟩
  grind[ZAq,ZCQ]
theorem h4Z{t}(h:bL t){k}(hk:k∈bD t.1):1<=k/\k<=t.2:=by
 let⟨i,x,hx,hk⟩:=sgZ.1 hk
 obtain⟨h0,p,hp,rfl⟩:=eoZ.1 hk;rcases(kiZ h x (ZAI hx)).2 p hp with z|z
 ·exact absurd z.1 h0
 omega
section
variable {s : cW} {q : Nat} {c : bV} {vs : List Int}
theorem qMZ(h:Ask s q c vs){l2}{w2}{gone}(ht:bL (l2,w2))
 (hl:∀(i:Nat) x,l2[i]? =some x->x.2.2.1=true->x.2.2.2.1=false->x.2.2.2.2.2.1.length=(x.2.2.2.2.1.toNat+q-1)/q)(hw:s.2.1.2<=w2)(hw2:w2<=65536)
 {fresh}(hp:(bD l2++bR gone).Perm (bD s.2.1.1++fresh))(fn:fresh.Nodup)(ff:∀x∈fresh,s.2.1.2<x/\x<=w2)(hg:∀p∈gone,dY s.2.1.2 p):
 ∃dead',xY (s.2.2.2.2++gone.filter fun p=> !dK p)=some dead'/\dead'.Perm (s.2.2.2.2++gone.filter fun p=> !dK p)/\dead'.length<=65536/\vQ (NR s (dL s c) l2 w2 dead') q:=by
 have hok:=h.ok;have in_:∀p∈gone.filter (fun p=> !dK p),1<=p.1/\p.1<=s.2.1.2/\(1<=p.2/\p.2<=1099511627776)/\p.1∈bR gone:=fun p hp=>by
  obtain⟨h1,h2⟩:=ZCo.1 hp;rcases hg p h1 with z|z
  ·unfold dK at h2;rw[z.1,z.2] at h2;cases h2
  ·exact⟨z.1,z.2.1,⟨z.2.2.1,z.2.2.2⟩,eoZ.2 ⟨by omega,p,h1,rfl⟩⟩
 have hst:=hok.t.r.str;obtain⟨dead',e1,e2,e3⟩:=tqZ (l:=s.2.2.2.2++gone.filter fun p=> !dK p) fun p hp=>by
  refine ZAJ ?_;rcases ZAh.1 hp with z|z
  ·have:=(hok.d p z).1;omega
  ·have:=in_ p z;omega
 have keys:(dead'.map (·.1)).Perm (s.2.2.2.2.map (·.1)++bR gone):=by
  have:=e2.map (·.1);rwa [ZCM,g4Z hg] at this
 have nod:(bD s.2.1.1++fresh).Nodup:=ZBV.2 ⟨hok.t.r.nod,fn,fun a ha b hb=>by
  have:=h4Z hok.t ha;have:=ff b hb;omega⟩
 have nod2:=ZBV.1 (hp.nodup_iff.2 nod);have dis:∀p∈s.2.2.2.2,p.1∉bD l2++bR gone:=fun p hp' hm=>by
  have d:=hok.d p hp';rcases ZAh.1 (hp.mem_iff.1 hm) with z|z
  ·exact d.2.2 z
  ·have:=ff _ z;omega
 have asc:(dead'.map (·.1)).Pairwise (·<·):=by
  have nd:(dead'.map (·.1)).Nodup:=keys.nodup_iff.2 (ZBV.2 ⟨hok.ds.imp fun hab=>by omega,nod2.2.1,fun a ha b hb e=>by
   obtain⟨p,hp',rfl⟩:=ZBc.1 ha;exact dis p hp' (ZAh.2 (.inr (e▸hb)))⟩)
  exact List.Pairwise.imp₂ (fun a b h1 h2=>by omega) e3 nd
 have dd:∀p∈dead',(1<=p.1/\p.1<=w2)/\(1<=p.2/\p.2<=1099511627776)/\p.1∉bD l2:=fun p hp'=>by
  rcases ZAh.1 (e2.mem_iff.1 hp') with z|z
  ·have d:=hok.d p z;exact⟨⟨d.1.1,by omega⟩,d.2.1,fun hm=>dis p z (ZAh.2 (.inl hm))⟩
  ·have d:=in_ p z;exact⟨⟨d.1,by omega⟩,d.2.2.1,fun hm=>nod2.2.2 _ hm _ d.2.2.2 rfl⟩
 have len:dead'.length<=65536:=by
  have:=pQZ (a:=0) (b:=w2) asc fun x hx=>by
   obtain⟨p,hp',rfl⟩:=ZBc.1 hx;have:=(dd p hp').1;omega
  rw[ZAs] at this;omega
 exact⟨dead',e1,e2,len,⟨hok.life,ht,h.put.2.1,hok.pl,hl,hok.q,asc,dd,len⟩⟩
end
def NS(l0 l1:List Ino):Prop:=∀(i:Nat) y,l1[i]? =some y->y.2.2.1=true->(∃x,l0[i]? =some x/\x.2.2.1=true/\x.2.1=y.2.1/\x.2.2.2.1=y.2.2.2.1)\/(y.2.2.2.2.1=0/\∀x,l0[i]? =some x->x.2.1≠y.2.1)
theorem dBZ{l0 l1}{i}{x y}(hx:l0[i]? =some x)(hy:l1[i]? =some y)(hu:y.2.2.1=true)(hg:x.2.1=y.2.1):cN l0 l1 i=x.2.2.2.2.2.1:=by
 simp_all[cN,ZAM,nU,ZAb]
theorem cWZ{l0 l1}{i}{y}(hy:l1[i]? =some y)(hn:y.2.2.1=true->∀x,l0[i]? =some x->x.2.1≠y.2.1):cN l0 l1 i=[]:=by
 unfold cN;rw[hy];cases hx:l0[i]? with
 |none=>rfl
 |some x=>
  simp only;unfold nU
  grind
theorem merge_ok{t}{l1}(h:bL t)(st:NS t.1 l1){i}{y}(hy:l1[i]? =some y):
 if y.2.2.1=true/\y.2.2.2.1=false then(cN t.1 l1 i).length<=4096/\∀p∈cN t.1 l1 i,dY t.2 p else cN t.1 l1 i=[]:=by
 by_cases hu:y.2.2.1=true
 ·rcases st i y hy hu with⟨x,hx,xu,xg,xd⟩|⟨_,hno⟩
  ·rw[dBZ hx hy hu xg];have o:=h.r.ino i x hx;split
   ·rename_i hc;exact(o.file xu (xd.trans hc.2)).2.2
   ·rename_i hc;exact(o.dir xu (xd.trans (by cases e:y.2.2.2.1<;>simp_all))).2.1
  ·rw[cWZ hy fun _=>hno];split<;>simp
 simp_all[cWZ]
theorem jeZ{l0 l1}{w}(h:∀x∈l0,∀p∈x.2.2.2.2.2.1,dY w p):∀k,∀p∈fG l0 l1 k,dY w p
 |0,p,hp=>by cases hp
 |k+1,p,hp=>by
  rcases ZAh.1 ((hp)) with z|z
  ·exact jeZ h k p z
  grind[lY,ZAI]
theorem pmZ{l0 l1}(st:fN (l0.map dJ) l1):NS l0 l1/\∀(i:Nat) y,l1[i]? =some y->y.2.2.1=true->(∃x,l0[i]? =some x/\x.2.2.1=true/\x.2.1=y.2.1/\x.2.2.2.1=y.2.2.2.1/\x.2.2.2.2.1=y.2.2.2.2.1)\/(y.2.2.2.2.1=0/\∀x,l0[i]? =some x->x.2.1≠y.2.1):=by
 have h2:∀(i:Nat) y,l1[i]? =some y->y.2.2.1=true->(∃x,l0[i]? =some x/\x.2.2.1=true/\x.2.1=y.2.1/\x.2.2.2.1=y.2.2.2.1/\x.2.2.2.2.1=y.2.2.2.2.1)\/(y.2.2.2.2.1=0/\∀x,l0[i]? =some x->x.2.1≠y.2.1):=fun i y hy hu=>by
  rcases st.at_ i y hy hu with⟨x,hx,a⟩|⟨z,hno⟩
  ·rw[ZAW] at hx;obtain⟨r,hr,rfl⟩:=ZAH.1 hx;exact .inl ⟨r,hr,a⟩
  ·exact .inr ⟨z,fun x hx=>hno (dJ x) (by rw[ZAW,hx];rfl)⟩
 exact⟨fun i y hy hu=>(h2 i y hy hu).imp (fun⟨x,a,b,c,d,_⟩=>⟨x,a,b,c,d⟩) id,h2⟩
theorem gmZ{w v}(h:w<=v){p}(hp:dY w p):dY v p:=by
 rcases hp with z|z
 ·exact .inl z
 ·exact .inr ⟨z.1,by omega,z.2.2⟩
theorem kSZ(n):bR (List.replicate n (0,0))=[]:=by
 simp_all[bR,List.mem_replicate]
theorem lpZ(P)(N):bR (gK P N)=bR (P.take N):=by
 simp_all[gK,a2Z,kSZ]
theorem vgZ{P}{w}(h:∀p∈P,dY w p)(N):∀p∈gK P N,dY w p:=fun p hp=>by
 rcases ZAh.1 hp with z|z
 ·grind
 ·rw[(List.mem_replicate.1 z).2];exact .inl ⟨rfl,rfl⟩
def wB(s:cW)(q:Nat)(c:bV)(vs:List Int):List Ino:=
 if(bN (bF s.2.1) c).2.1=0 then
  if c.2.2.1=uO 5\/c.2.2.1=uO 6 then lW s q c vs (nT s c) else dG (bN (bF s.2.1) c).1.1.1 (cN s.2.1.1 (bN (bF s.2.1) c).1.1.1)
 else s.2.1.1
def FE(s:cW)(q:Nat)(c:bV)(vs:List Int):Int:=
 if(bN (bF s.2.1) c).2.1=0 then if c.2.2.1=uO 5\/c.2.2.1=uO 6 then(wrL s q c vs (nT s c)).1 else s.2.1.2 else s.2.1.2
def wC(s:cW)(q:Nat)(c:bV):List dC:=
 if(bN (bF s.2.1) c).2.1=0 then if c.2.2.1=uO 5\/c.2.2.1=uO 6 then wA s q c (nT s c) else fG s.2.1.1 (bN (bF s.2.1) c).1.1.1 s.2.1.1.length else[]
structure Next (s:cW) (q:Nat) (c:bV) (vs:List Int) (s':cW):Prop where
 ok:vQ s' q
 xs:wO c.2.1 s'.2.2.1.2
 w:s.2.1.2<=s'.2.1.2/\s'.2.1.2<=s.2.1.2+258
 tree:s'.2.1.1=wB s q c vs
 ww:s'.2.1.2=FE s q c vs
 life:s'.1=s.1
 ca:s'.2.2.1=(s.2.2.1.1,iC s.2.2.1.1 s.2.2.1.2 (dL s c))
 dd:s'.2.2.2.2.Perm (s.2.2.2.2++(wC s q c).filter fun p=> !dK p)
 st:∃fresh,(bD s'.2.1.1++s'.2.2.2.2.map (·.1)).Perm (bD s.2.1.1++s.2.2.2.2.map (·.1)++fresh)
section
variable {s : cW} {q : Nat} {c : bV} {vs : List Int}
theorem jMZ{d d' gone:List dC}{a b f}{w}(h:d'.Perm (d++gone.filter fun p=> !dK p))(hg:∀p∈gone,dY w p)(hp:(b++bR gone).Perm (a++f)):(b++d'.map (·.1)).Perm (a++d.map (·.1)++f):=by
 have h1:=h.map (·.1);rw[ZCM,g4Z hg] at h1;refine List.perm_iff_count.2 fun k=> ?_;have h3:=hp.count_eq k
 grind
theorem qmZ(h:Ask s q c vs)(h0:(bN (bF s.2.1) c).2.1≠0):∃s',nQ bB s (q:Int) c vs 0=some (s',jI (dL s c) (0:Int))/\Next s q c vs s':=by
 refine⟨_,n5Z h h0,⟨h.ok.life,h.ok.t,h.put.2.1,h.ok.pl,h.ok.l,h.ok.q,h.ok.ds,h.ok.d,h.ok.dn⟩,h.put.2.2.1,⟨ZB1 _,by show s.2.1.2<=_;omega⟩,?_,?_,rfl,rfl,?_,⟨[],by rw[ZAr];exact List.Perm.refl _⟩⟩
 ·unfold wB;rw[ZAK h0];rfl
 ·unfold FE;rw[ZAK h0];rfl
 ·unfold wC;rw[ZAK h0,List.filter_nil,ZAr];exact List.Perm.refl _
theorem okZ(h:Ask s q c vs)(h0:(bN (bF s.2.1) c).2.1=0)(hop:¬(c.2.2.1=uO 5\/c.2.2.1=uO 6))(hw:s.2.1.2<=65536):
 ∃s',nQ bB s (q:Int) c vs 0=some (s',jI (dL s c) (0:Int))/\Next s q c vs s':=by
 have hm:=hyZ (aYZ h.ok.t) c;obtain⟨st,sw⟩:=iIZ c fun _=>hop;have sw:(bN (bF s.2.1) c).1.1.2=s.2.1.2:=sw
 let⟨sg,sb⟩:=pmZ st
 have hlen:=by have:=st.len;rwa [fGZ] at this
 have hP:=kiZ h.ok.t;have hperm:=kHZ hlen;have hnod:=(ZBV.1 (hperm.nodup_iff.2 h.ok.t.r.nod)).1;have hT:=iOZ hm.t h.ok.t.r.str (fun i y hy=>merge_ok h.ok.t sg hy) hnod;have hg:=fun x hx=>(hP x hx).2;obtain⟨dead',d1,d2,d3,d4⟩:=qMZ h hT (fun i y hy hu hd=>by
  obtain⟨z,hz,rfl⟩:=aXZ hy;have hu:=hu;have hd:=hd;show(cN _ _ i).length=(z.2.2.2.2.1.toNat+q-1)/q;rcases sb i z hz hu with⟨x,hx,xu,xg,xd,xs⟩|⟨z0,hno⟩
  ·rw[dBZ hx hz hu xg,<-xs];exact h.ok.l i x hx xu (xd.trans hd)
  ·rw[cWZ hz fun _=>hno,z0];have:=h.ok.q;show 0=((0:Int).toNat+q-1)/q;rw[Nat.div_eq_of_lt (by omega)]) (ZB1 _) hw (by rw[ZAr];exact hperm) List.nodup_nil (fun x hx=>by cases hx) (jeZ hg _)
 refine⟨_,by rw[leZ h h0 hop d1 d3,sw],d4,h.put.2.2.1,⟨ZB1 _,by show s.2.1.2<=_;omega⟩,?_,?_,rfl,rfl,?_,⟨[],jMZ d2 (jeZ hg _) (by rw[ZAr];exact hperm)⟩⟩
 ·unfold wB;rw[ZAM h0,ZAK hop];rfl
 ·unfold FE;rw[ZAM h0,ZAK hop];rfl
 ·unfold wC;rw[ZAM h0,ZAK hop];exact d2
theorem mjZ{x}(h:Wri s q c x){i}{y}(hy:(l1W s c x)[i]? =some y):∃r,s.2.1.1[i]? =some r/\((i=atC c/\r=x/\y=wS (dJ x) (dN x c))\/(i≠atC c/\y=dJ r)):=by
 by_cases hi:i=atC c
 ·subst hi;rw[ebZ h] at hy;exact⟨x,h.f.at_,.inl ⟨rfl,rfl,(ZAf hy).symm⟩⟩
 ·unfold l1W at hy;rw[ZAX (fun e=>hi e.symm)] at hy;obtain⟨r,hr,rfl⟩:=m3Z hy;exact⟨r,hr,.inr ⟨hi,rfl⟩⟩
theorem opZ(h:Ask s q c vs){x}(hx:Wri s q c x)(hw:s.2.1.2<=65000)(hv:vs.length=eK x q c)(hvs:∀v∈vs,1<=v/\v<=1099511627776):
 ∃s',nQ bB s (q:Int) c vs 0=some (s',jI (dL s c) (0:Int))/\Next s q c vs s':=by
 have hm:=hyZ (aYZ h.ok.t) c;obtain⟨r1,r2,r3⟩:=e3Z h.ok.t hx.r hx.hop hx.h0 hx.f;have hq:=h.ok.q;have hlen:s.2.1.1.length<=(l1W s c x).length:=by unfold l1W;rw[ZAt,fGZ];exact ZAN _
 have hP:=kiZ h.ok.t;have hg:=fun x hx=>(hP x hx).2;have hxm:=ZAI hx.f.at_;have hst:=h.ok.t.r.str;have hmn:=lYZ (x:=x) hq.1 (a1Z hx.r).2.2;have hN4:jJ x q c<=4096:=by
  unfold jJ;exact lrZ (by omega) (by have:4096*16<=4096*q:=ZB2 _ hq.1;omega)
 have W:=mqZ (wh:=eU q c) (vs:=vs) (hx.span hq.1) (hg x hxm) (ZB1 _) hst.1 (eK x q c) (ZAN _);have W:Wrt x.2.2.2.2.2.1 (eU q c) (cY q c) s.2.1.2 (jJ x q c) vs (eK x q c) (wrL s q c vs x):=W;have hrun:=bjZ x.2.2.2.2.2.1 (eU q c) (cY q c) s.2.1.2 (eK x q c);obtain⟨fresh,f1,f2,f3⟩:=W.st;have hw2:s.2.1.2<=(wrL s q c vs x).1/\(wrL s q c vs x).1<=s.2.1.2+258:=by rw[W.e];omega
 have sg:NS s.2.1.1 (l1W s c x):=fun i y hy hu=>by
  obtain⟨r,hr,z⟩:=mjZ hx hy;rcases z with⟨_,rfl,rfl⟩|⟨_,rfl⟩<;>exact .inl ⟨r,hr,hu,rfl,rfl⟩
 have hlm:=vqZ hx;have hl2:lW s q c vs x=dG (l1W s c x) (fun i=>if i=atC c then(wrL s q c vs x).2 else cN s.2.1.1 (l1W s c x) i):=by
  unfold lW;rw[<-k8Z (ebZ hx)];rfl
 have hperm:(bD (lW s q c vs x)++bR (wA s q c x)).Perm (bD s.2.1.1++fresh):=by
  obtain⟨rest,u1,u2⟩:=slZ hlm;have u2:=u2 (oT (wS x (dN x c)) (wrL s q c vs x).2);have m:=kHZ hlen;have u1:(bD (dG (l1W s c x) (cN s.2.1.1 (l1W s c x)))).Perm (bR x.2.2.2.2.2.1++rest):=u1;have u2:(bD (lW s q c vs x)).Perm (bR (wrL s q c vs x).2++rest):=u2;have sp:bR x.2.2.2.2.2.1=bR (x.2.2.2.2.2.1.take (jJ x q c))++bR (x.2.2.2.2.2.1.drop (jJ x q c)):=by rw[<-a2Z,ZBB]
  have dr:x.2.2.2.2.2.1.drop (min x.2.2.2.2.2.1.length (jJ x q c))=x.2.2.2.2.2.1.drop (jJ x q c):=by
   by_cases e:x.2.2.2.2.2.1.length<=jJ x q c
   ·rw[ZA7 e,List.drop_length,ZCV e]
   ·rw[Nat.min_eq_right (by omega)]
  rw[lpZ] at f1;unfold wA;rw[a2Z,dr];rw[sp] at u1;refine List.perm_iff_count.2 fun k=> ?_;have c1:=u1.count_eq k;have c2:=u2.count_eq k;have c3:=m.count_eq k;have c4:=f1.count_eq k;simp only[List.count_append] at*;omega
 have nod:(bD s.2.1.1++fresh).Nodup:=ZBV.2 ⟨h.ok.t.r.nod,f2,fun a ha b hb=>by
  have:=h4Z h.ok.t ha;have:=f3 b hb;omega⟩
 have hres:bL (l1W s c x,s.2.1.2):=by
  have:=hm.t;rw[r1] at this;exact this
 have okW:∀p∈(wrL s q c vs x).2,dY (wrL s q c vs x).1 p:=fun p hp=>by
  rcases W.ok p hp with z|⟨j,j1,j2,j3⟩
  ·exact gmZ hw2.1 (vgZ (hg x hxm) _ p z)
  ·rw[ZAC (by omega)] at j2;have:=hvs _ (ZBK (show j<vs.length by omega));rw[j2] at j3⊢;exact .inr ⟨j3.1,j3.2,this⟩
 have hT:bL (lW s q c vs x,(wrL s q c vs x).1):=by
  rw[hl2];refine iOZ hres ⟨by omega,by omega⟩ (fun i y hy=> ?_) (by rw[<-hl2];exact(ZBV.1 (hperm.nodup_iff.2 nod)).1);by_cases hi:i=atC c
  ·subst hi;rw[ebZ hx] at hy;obtain rfl:=ZAf hy;rw[ZAM ⟨hx.f.used,hx.f.dir⟩,ZAM rfl,W.n];exact⟨hN4,okW⟩
  ·simp only[ZAK hi];have:=merge_ok (t:=s.2.1) h.ok.t sg hy;split
   ·rename_i hc;rw[ZAM hc] at this;exact⟨this.1,fun p hp=>gmZ hw2.1 (this.2 p hp)⟩
   ·rename_i hc;rw[ZAK hc] at this;exact this
 have hgn:∀p∈wA s q c x,dY s.2.1.2 p:=fun p hp=>by
  rcases ZAh.1 hp with z|z
  ·exact jeZ hg _ p z
  ·exact hg x hxm p (ZCf z)
 obtain⟨dead',d1,d2,d3,d4⟩:=qMZ h (gone:=wA s q c x) hT (fun i y hy hu hd=>by
  rw[hl2] at hy;obtain⟨z,hz,rfl⟩:=aXZ hy;have hu:z.2.2.1=true:=hu;have hd:z.2.2.2.1=false:=hd;show(if i=atC c then(wrL s q c vs x).2 else cN s.2.1.1 (l1W s c x) i).length=(z.2.2.2.2.1.toNat+q-1)/q;obtain⟨r,hr,w⟩:=mjZ hx hz;rcases w with⟨hi,rfl,rfl⟩|⟨hi,rfl⟩
  ·rw[ZAM hi,W.n];rfl
  ·rw[ZAK hi,dBZ hr hz hu rfl];exact h.ok.l i r hr hu hd) hw2.1 (by omega) hperm f2 f3 hgn
 refine⟨_,lRZ h hx hv d1 d3 (by omega),d4,h.put.2.2.1,hw2,?_,?_,rfl,rfl,?_,⟨fresh,jMZ d2 hgn hperm⟩⟩
 ·unfold wB;rw[ZAM hx.h0,ZAM hx.hop,hx.f.p];rfl
 ·unfold FE;rw[ZAM hx.h0,ZAM hx.hop,hx.f.p];rfl
 ·unfold wC;rw[ZAM hx.h0,ZAM hx.hop,hx.f.p];exact d2
theorem nsZ(h:Ask s q c vs)(hw:s.2.1.2<=65000)(hv:vs.length=(dW s q c).1.2.2.2.length)(hvs:∀v∈vs,1<=v/\v<=1099511627776):
 ∃s',nQ bB s (q:Int) c vs 0=some (s',jI (dL s c) (0:Int))/\Next s q c vs s':=by
 by_cases h0:(bN (bF s.2.1) c).2.1=0
 ·by_cases hop:c.2.2.1=uO 5\/c.2.2.1=uO 6
  ·obtain⟨x,hx⟩:=mFZ (cHZ h.two).2.1 hop h0;refine opZ h hx hw ?_ hvs;rw[hv,g3Z h.two hx];exact(bjZ _ _ _ _ _).1
  ·exact okZ h h0 hop (by omega)
 grind[qmZ]
end
theorem tVZ{p:vZ}{vs}(hp:p.1=2)(hl:vs.length=p.2.2.2.length)(hb:vs.length<=100000)(h:∀(j:Nat) nd v,p.2.2.2[j]? =some nd->vs[j]? =some v->nd.2.1.2<v/\1<=v/\v<=1099511627776):JR bB p vs 0=some true:=by
 unfold JR;rw[hp];simp[ZAA];unfold CU;rw[hl,ZAb,ZAO];have loop:mS bB p.2.2.2 vs 0=some (.inl ()):=by
  unfold mS;refine aoZ (fun k:Nat=>(k:Int)) p.2.2.2.length (by omega) (fun k hk=> ?_) ?_
  ·unfold tD NG;obtain⟨nd,hn⟩:∃nd,p.2.2.2[k]? =some nd:=⟨_,ZAC hk⟩;obtain⟨v,hv⟩:∃v,vs[k]? =some v:=⟨_,ZAC (by omega)⟩;have:=h k nd v hn hv;rw[ZAJ (by omega),adZ hk,ZAA,hn,ZAA,adZ (by omega),ZAA,hv,ZAA];simp;rw[ZAJ (show v>nd.2.1.2 by omega),ZAJ (show v>=1 by omega),ZAJ (show v<=1099511627776 by omega),w64 (by omega)]
   rfl
  ·unfold tD;rw[ZAF (by omega),ZAD]
 simp_all
def xI(q:Nat)(l:List fW)(bs:List (List UInt8)):Prop:=bs.length=l.length/\l.length<=100000/\(∀b∈bs,b.length=0\/b.length=q)/\∀n∈l,0<=n.1/\n.1<=65536
theorem nwZ{q}{l}{bs}(hq:16<=q/\q<=65)(h:xI q l bs):NB bB (q:Int) l bs=some true:=by
 let⟨h1,h2,h3,h4⟩:=h
 unfold NB MK;rw[ZAJ (show(q:Int)>=16 by omega),ZAL,ZAA,ZAJ (show(q:Int)<=65536 by omega),h1,ZAL];have a:kN bB bs (0,(q:Int))=some (.inl (q:Int)):=by
  unfold kN;refine aoZ (fun k:Nat=>((k:Int),(q:Int))) bs.length (by omega) (fun k hk=> ?_) ?_
  ·show jB bB bs (k:Int) (q:Int)=_;unfold jB MX;have hb:=h3 _ (ZBK hk);rw[ZAJ (by omega),adZ hk,ZAA,ZAC hk,ZAA,w64 (by omega)];rcases hb with e|e
   ·rw[e];rfl
   ·rw[e,(ZAa.2 (by omega)),show(!(((q:Nat):Int)==(q:Int)))=false by rw[ZAb];rfl];rfl
  ·show jB bB bs (bs.length:Int) (q:Int)=_;unfold jB;rw[ZAF (by omega),ZAD]
 have b:lP bB l 0=some (.inl ()):=by
  unfold lP;refine aoZ (fun k:Nat=>(k:Int)) l.length (by omega) (fun k hk=> ?_) ?_
  ·unfold pZ MZ;have hb:=h4 _ (ZBK hk);rw[ZAJ (by omega),adZ hk,ZAA,ZAC hk,ZAA,ZAF (by omega),ZAD,ZAF (by omega),w64 (by omega)]
   rfl
  ·unfold pZ;rw[ZAF (by omega),ZAD]
 simp_all[yV,vJ,yX,yW]
theorem tLZ{α:Type}{F O:List α}{k}{x}(h:F.length=O.length)(hx:F[k]? =some x):(F.take k++O.drop k).set k x=F.take (k+1)++O.drop (k+1):=by
 have hk:=(ZAB.1 hx).1;rw[List.set_append_right k x (by grind),ZAS,ZA7 (by omega),ZBo,ZBT (by omega:k<O.length),aWZ hx,ZAw]
 rfl
theorem usZ{α:Type}{F O:List α}{k}(h:F.length=O.length)(hk:k<O.length):(F.take k++O.drop k)[k]? =O[k]? :=by
 grind
def atF(c:bV)(z:Nat)(o:UInt8):UInt8:=
 if c.2.2.1=uO 6 then(if c.2.2.2.2.2.2.2.2.1<=(z:Int) then 0 else o)
 else if c.2.2.1=uO 5/\c.2.2.2.2.2.2.2.1.toNat<=z then(c.2.2.2.2.2.2.2.2.2[z-c.2.2.2.2.2.2.2.1.toNat]?).getD o else o
def qE(q:Nat)(old:List UInt8):List UInt8:=bY (List.replicate (α:=UInt8) q 0) 0 (List.take (List.replicate (α:=UInt8) q 0).length old)
theorem c3Z(q)(old):(qE q old).length=q:=by
 unfold qE bY
 grind
def fS(q:Nat)(c:bV)(i:Nat)(old:List UInt8):List UInt8:=(qE q old).mapIdx fun k o=>atF c (i*q+k) o
theorem dVZ(q)(c)(i)(old):(fS q c i old).length=q:=by simp_all[fS,c3Z]
theorem rGZ{q i}{c}(hq:16<=q/\q<=65)(hi:i<=65536)(hr:bK c=true)(hop:c.2.2.1=uO 5\/c.2.2.1=uO 6)(old):
 IG bB ((i*q:Nat):Int) old [c] (q:Int)=some ((q:Int),fS q c i old):=by
 obtain⟨ho,hn,hb⟩:=a1Z hr;have hi2:=ZCU hi hq.2;unfold IG;rw[b0Z (by omega) (by grind[arZ]),ZAA,ZBW,b0Z (by omega) (by omega),ZAA,ZBW,acZ (by grind[ZAm,arZ])];have hF:(fS q c i old).length=(qE q old).length:=by rw[dVZ,c3Z]
 have loop:qD bB q old [c] ((i*q:Nat):Int) (0,((q:Int),qE q old))=some ((q:Int),fS q c i old):=by
  unfold qD;have e0:((0:Int),((q:Int),qE q old))=(fun k:Nat=>((k:Int),((q:Int),(fS q c i old).take k++(qE q old).drop k))) 0:=by simp
  refine(congrArg (iter bB _) e0).trans ?_;refine aoZ (fun k:Nat=>((k:Int),((q:Int),(fS q c i old).take k++(qE q old).drop k))) q (by omega) (fun k hk=> ?_) ?_
  ·show qC bB q old [c] ((i*q:Nat):Int) (k:Int) (q:Int) ((fS q c i old).take k++(qE q old).drop k)=_;unfold qC Pg Ph PH;obtain⟨o,hold⟩:∃o,(qE q old)[k]? =some o:=⟨_,ZAC (by simp_all[c3Z])⟩;have hnew:(fS q c i old)[k]? =some (atF c (i*q+k) o):=by unfold fS;rw[ZCI,hold];rfl
   have bS:=tLZ hF hnew;have bG:=usZ hF (by rw[c3Z];exact hk);have hlen:((fS q c i old).take k++(qE q old).drop k).length=q:=by rw[ZAe,ZAS,ZAu,dVZ,c3Z];omega
   generalize (fS q c i old).take k++(qE q old).drop k=B at*;have hpl:(bY (List.replicate (α:=UInt8) q 0) 0 (List.take (List.replicate (α:=UInt8) q 0).length old)).length=q:=c3Z q old;rw[hpl,ZAJ (by omega),ZAL,ZAP,ZAA,op6,w64 (by omega),w64 (by omega)];show _=some (Sum.inl (((k+1:Nat):Int),((q:Int),(fS q c i old).take (k+1)++(qE q old).drop (k+1))));rw[<-bS];have keep:atF c (i*q+k) o=o->B=B.set k (atF c (i*q+k) o):=fun e=>by simp_all[dGZ]
   by_cases e6:c.2.2.1=uO 6
   ·have h65:¬(uO 6=uO 5):=by decide
    rw[ZAJ e6,ZAL,ZAA,ZAA];by_cases hc:c.2.2.2.2.2.2.2.2.1<=((i*q+k:Nat):Int)
    ·rw[ZAJ (by omega)];simp only[ZAL];rw[hlen,adZ hk,ZAA,bG,hold,ZAA];unfold atF;rw[ZAM e6,ZAM hc]
     rfl
    ·rw[ZAF (by omega)];simp only[ZAD];rw[ZAA,op5,e6,ZAF h65];simp only[ZAD,ZAA];rw[<-keep (by unfold atF;rw[ZAM e6,ZAK hc])]
     rfl
   ·have e5:=hop.resolve_right e6;rw[ZAF e6,ZAD,ZAA];simp only[ZAD];rw[ZAA,op5,ZAJ e5];simp only[ZAL,ZAA];by_cases h1:c.2.2.2.2.2.2.2.1.toNat<=i*q+k
    ·rw[ZAJ (by omega),ZAL,w64 (by omega),ZAA];have ev:((i*q:Nat):Int)+(k:Int)-c.2.2.2.2.2.2.2.1=((i*q+k-c.2.2.2.2.2.2.2.1.toNat:Nat):Int):=by omega
     rw[ev];by_cases h2:i*q+k-c.2.2.2.2.2.2.2.1.toNat<c.2.2.2.2.2.2.2.2.2.length
     ·rw[ZAJ (by omega)];simp only[ZAL];rw[adZ h2,ZAA,ZAC h2,ZAA,hlen,adZ hk,ZAA,iYZ (UInt8.toNat_lt _),ZAA,bG,hold,ZAA,ZAA,ZAA,uOt];unfold atF;rw[ZAK e6,ZAM ⟨e5,h1⟩,ZAC h2]
      rfl
     ·rw[ZAF (by omega)];simp only[ZAD,ZAA];rw[<-keep (by unfold atF;rw[ZAK e6,ZAM ⟨e5,h1⟩,ZAg (by omega)];rfl)]
      rfl
    ·rw[ZAF (by omega),ZAD,ZAA];simp only[ZAD,ZAA];rw[<-keep (by unfold atF;rw[ZAK e6,ZAK (fun z=>h1 z.2)])]
     rfl
  ·show qC bB q old [c] ((i*q:Nat):Int) (q:Int) (q:Int) ((fS q c i old).take q++(qE q old).drop q)=_;unfold qC Pg Ph PH;have hpl:(bY (List.replicate (α:=UInt8) q 0) 0 (List.take (List.replicate (α:=UInt8) q 0).length old)).length=q:=c3Z q old;rw[hpl,ZAF (by omega),ZAD];have a1:(fS q c i old).take q=fS q c i old:=ZAv (by rw[dVZ];exact ZAN _);have a2:(qE q old).drop q=[]:=ZCV (by rw[c3Z];exact ZAN _);rw[a1,a2,ZAr]
 refine(congrArg (fun o=>Option.bind o _) ((loop))).trans rfl
def iE(q:Nat)(c:bV)(l:List fW)(olds:List (List UInt8)):List (List UInt8):=List.zipWith (fun n o=>fS q c n.1.toNat o) l olds
theorem neZ{q}{c}{l}{olds}{k:Nat}{n}{o}(h1:l[k]? =some n)(h2:olds[k]? =some o):(iE q c l olds)[k]? =some (fS q c n.1.toNat o):=by
 simp_all[iE,List.getElem?_zipWith]
theorem p2Z{q}{c}{l}{olds}(hq:16<=q/\q<=65)(hr:bK c=true)(hop:c.2.2.1=uO 5\/c.2.2.1=uO 6)(h:xI q l olds):
 NF bB (q:Int) c l olds=some (0,iE q c l olds):=by
 unfold NF;rw[nwZ hq h,ZAA,axZ,hr,ZAA]
 let⟨h1,h2,h3,h4⟩:=h
 simp only[ZAO,ZAD];rw[op5,op6];have step:∀{α} (S:α),(bif (!decide (c.2.2.1=uO 5)) then some ((!decide (c.2.2.1=uO 6)),S) else some (false,S))=some (false,S):=fun S=>by
  rcases hop with e|e<;>rw[e]<;>rfl
 rw[step,ZAA];simp;have hN:(iE q c l olds).length=l.length:=by unfold iE;rw[List.length_zipWith];omega
 have loop:tC bB l olds (0,((q:Int),([],[c])))=some (iE q c l olds):=by
  unfold tC;have e0:((0:Int),((q:Int),(([]:List (List UInt8)),[c])))=(fun k:Nat=>((k:Int),((q:Int),((iE q c l olds).take k,[c])))) 0:=by simp
  refine(congrArg (iter bB _) e0).trans ?_;refine aoZ (fun k:Nat=>((k:Int),((q:Int),((iE q c l olds).take k,[c])))) l.length (by omega) (fun k hk=> ?_) ?_
  ·obtain⟨n,hn⟩:∃n,l[k]? =some n:=⟨_,ZAC hk⟩;obtain⟨o,ho⟩:∃o,olds[k]? =some o:=⟨_,ZAC (by omega)⟩;have hb:=h4 n (ZAI hn);have hq2:n.1.toNat*q<=65536*65:=ZCU (by omega) hq.2;show uM bB l olds (k:Int) (q:Int) ((iE q c l olds).take k) [c]=_;unfold uM;rw[ZAJ (by omega),adZ hk,ZAA,hn,ZAA,adZ (by omega),ZAA,ho,ZAA];rw[show n.1*(q:Int)=((n.1.toNat*q:Nat):Int) by rw[ZBl,ZBg hb.1],w64 (by omega),rGZ hq (by omega) hr hop,ZAA,acZ (by simp only[ZAE,ZAm,arZ,ZAS];omega),w64 (by omega),aWZ (neZ hn ho)]
   rfl
  ·show uM bB l olds (l.length:Int) (q:Int) ((iE q c l olds).take l.length) [c]=_;unfold uM;rw[ZAF (by omega),ZAD,ZAv (by omega)]
 simp_all
def qF(q fr i:Nat)(b out:List UInt8):List UInt8:=out.mapIdx fun t o=>if i*q<=fr+t then(b[fr+t-i*q]?).getD o else o
theorem f7Z(q fr i)(b out):(qF q fr i b out).length=out.length:=by simp_all[qF]
theorem dJZ(q fr i)(b out)(t):(qF q fr i b out)[t]? =(out[t]?).map fun o=>if i*q<=fr+t then(b[fr+t-i*q]?).getD o else o:=by simp_all[qF]
theorem syZ(q fr i)(out):qF q fr i [] out=out:=by
 refine ZA8 fun t=> ?_
 simp_all[dJZ]
theorem vhZ{q fr i k}{b out:List UInt8}{x}(hk:b[k]? =some x)(h:fr<=i*q+k):qF q fr i (b.take (k+1)) out=(qF q fr i (b.take k) out).set (i*q+k-fr) x:=by
 refine ZA8 fun t=> ?_;rw[dJZ,List.getElem?_set,f7Z,dJZ]
 grind
theorem ncZ{q fr i k}{b out:List UInt8}(h:¬(fr<=i*q+k/\i*q+k-fr<out.length)):qF q fr i (b.take (k+1)) out=qF q fr i (b.take k) out:=by
 refine ZA8 fun t=> ?_;rw[dJZ,dJZ]
 grind
theorem ooZ{q fr i:Nat}{b out}(hq:q<=65)(hi:i<=65536)(hf:fr<=65536)(hb:b.length<=65):
 IF bB (i:Int) b (q:Int) (fr:Int) out=some ((q:Int),((fr:Int),qF q fr i b out)):=by
 have hi2:=ZCU hi hq;unfold IF;have loop:qB bB b (i:Int) (0,((q:Int),((fr:Int),out)))=some ((q:Int),((fr:Int),qF q fr i b out)):=by
  unfold qB;have e0:((0:Int),((q:Int),((fr:Int),out)))=(fun k:Nat=>((k:Int),((q:Int),((fr:Int),qF q fr i (b.take k) out)))) 0:=by simp only[List.take_zero,syZ];rfl
  refine(congrArg (iter bB _) e0).trans ?_;refine aoZ (fun k:Nat=>((k:Int),((q:Int),((fr:Int),qF q fr i (b.take k) out)))) b.length (by omega) (fun k hk=> ?_) ?_
  ·obtain⟨x,hx⟩:∃x,b[k]? =some x:=⟨_,ZAC hk⟩;show qA bB b (i:Int) (k:Int) (q:Int) (fr:Int) (qF q fr i (b.take k) out)=_;unfold qA;rw[ZAJ (by omega),ZAL,show(i:Int)*(q:Int)=((i*q:Nat):Int) by rw[ZBl],w64 (x:=((i*q:Nat):Int)) (by omega),w64 (x:=((i*q:Nat):Int)+(k:Int)) (by omega),w64 (by omega),w64 (by omega),f7Z];by_cases h:fr<=i*q+k
   ·rw[show((i*q:Nat):Int)+(k:Int)-(fr:Int)=((i*q+k-fr:Nat):Int) by omega,ZAJ (by omega),ZAL,ZAA];by_cases hl:i*q+k-fr<out.length
    ·rw[ZAJ (by omega)];simp only[ZAL];rw[adZ hk,ZAA,hx,ZAA,f7Z,adZ hl,ZAA,iYZ (UInt8.toNat_lt _),ZAA,ZAC (by rw[f7Z];exact hl),ZAA,ZAA,uOt,vhZ hx h]
     rfl
    ·rw[ZAF (by omega),ncZ (fun z=>hl z.2)]
     rfl
   ·rw[ZAF (by omega),ncZ (fun z=>h z.1)]
    rfl
  ·show qA bB b (i:Int) (b.length:Int) (q:Int) (fr:Int) (qF q fr i (b.take b.length) out)=_;unfold qA;rw[ZAF (by omega),ZAD,ZAx]
 simp_all
def nV(q fr a:Nat)(bs:List (List UInt8)):Nat->List UInt8->List UInt8
 |0,o=>o
 |j+1,o=>qF q fr (a+j) ((bs[j]?).getD []) (nV q fr a bs j o)
def FF(q a file:Nat)(c:bV)(bs:List (List UInt8)):List UInt8:=
 nV q (min c.2.2.2.2.2.2.2.1.toNat file) a bs bs.length (List.replicate (min (file-min c.2.2.2.2.2.2.2.1.toNat file) c.2.2.2.2.2.2.2.2.1.toNat) 0)
theorem p0Z{q a file:Nat}{c}{l}{bs}(hq:16<=q/\q<=65)(hr:bK c=true)(hop:c.2.2.1=uO 4)(hf:file<=65536)(h:xI q l bs)(ha:∀(j) nd,l[j]? =some nd->nd.1=((a+j:Nat):Int)):
 ND bB (q:Int) c (file:Int) l bs=some (0,FF q a file c bs):=by
 let⟨ho,hn,hb⟩:=a1Z hr
 unfold ND Pg Ph;rw[nwZ hq h,axZ,hr,ZAA]
 let⟨h1,h2,h3,h4⟩:=h
 simp only[ZAO];rw[op4,ZAJ hop,ZAF (show¬(file:Int)<0 by omega)];simp[ZAP];rw[show(if(file:Int)<c.2.2.2.2.2.2.2.1 then(file:Int) else c.2.2.2.2.2.2.2.1)=((min c.2.2.2.2.2.2.2.1.toNat file:Nat):Int) by split<;>omega];unfold FF;have hfr:min c.2.2.2.2.2.2.2.1.toNat file<=file:=Nat.min_le_right _ _;generalize min c.2.2.2.2.2.2.2.1.toNat file=fr at*;rw[w64 (by omega),show(if(file:Int)-(fr:Int)<c.2.2.2.2.2.2.2.2.1 then(file:Int)-(fr:Int) else c.2.2.2.2.2.2.2.2.1)=((min (file-fr) c.2.2.2.2.2.2.2.2.1.toNat:Nat):Int) by split<;>omega];generalize hm:min (file-fr) c.2.2.2.2.2.2.2.2.1.toNat=m;rw[aLZ (by rw[arZ];omega),ZAA,aLZ (ZAN _),ZAA,acZ (by rw[ZAm,arZ];omega)];obtain⟨o,hO,ho⟩:∃o,sZ bB l bs (0,(List.replicate m 0,(([],0),((q:Int),(fr:Int)))))=some o/\o=nV q fr a bs bs.length (List.replicate m 0):=by
  unfold sZ;refine aAZ (fun r st=>∃(k:Nat) (M:GM),st=((k:Int),(nV q fr a bs k (List.replicate m 0),(M,((q:Int),(fr:Int)))))/\k+r=l.length/\∀j,a+k<=j->lG M (j:Int)=none) (fun o=>o=nV q fr a bs bs.length (List.replicate m 0)) (fun r st hI=> ?_) (fun st hI=> ?_) l.length _ (by omega) ⟨0,([],0),rfl,by omega,fun j _=>rfl⟩
  ·obtain⟨k,M,rfl,hk,hM⟩:=hI;obtain⟨nd,hn⟩:∃nd,l[k]? =some nd:=⟨_,ZAC (by omega)⟩;obtain⟨b,hb⟩:∃b,bs[k]? =some b:=⟨_,ZAC (by omega)⟩;have hi:=ha k nd hn;have h4:=h4 nd (ZAI hn);have h3:=h3 b (ZAI hb);left;refine⟨(((k+1:Nat):Int),(nV q fr a bs (k+1) (List.replicate m 0),(mN M ((a+k:Nat):Int) 1,((q:Int),(fr:Int))))),?_,k+1,_,rfl,by omega,fun j hj=> ?_⟩
   ·show uL bB l bs (k:Int) (nV q fr a bs k (List.replicate m 0)) M (q:Int) (fr:Int)=_;unfold uL;rw[ZAJ (by omega),ZAL,adZ (by omega),ZAA,hn,ZAA,hi,hM _ (ZAN _)];simp only[Option.getD_none,show((0:Int)==0)=true from rfl,ZAL];rw[adZ (by omega),ZAA,hb,ZAA,ooZ hq.2 (by omega) (by omega) (by omega),ZAA,ZAA,w64 (by omega)];rw[show nV q fr a bs (k+1) (List.replicate m 0)=qF q fr (a+k) b (nV q fr a bs k (List.replicate m 0)) by
     conv=>lhs;unfold nV
     rw[hb];rfl]
    rfl
   ·rw[d1Z (dzZ .i64) _ _ _ (show(j:Int)≠((a+k:Nat):Int) by omega)];exact hM j (by omega)
  ·obtain⟨k,M,rfl,hk,hM⟩:=hI;have:k=l.length:=by omega
   subst this;refine⟨_,?_,rfl⟩;show uL bB l bs (l.length:Int) _ M (q:Int) (fr:Int)=_;unfold uL;rw[ZAF (by omega),ZAD,h1]
 grind
abbrev kP:Ty:=.pair (.int .i64) (.int .i64)
abbrev BM:Type:=List ((dC×List UInt8)×Nat)×Nat
theorem hBZ:mL kP:=nJZ (dzZ .i64) (dzZ .i64)
def blk(M:BM)(p:dC):List UInt8:=(lG (k:=kP) (v:=.sl .byte) M p).getD []
abbrev UG(M:BM)(p:dC)(b:List UInt8):BM:=mN (k:=kP) (v:=.sl .byte) M p b
theorem lNZ(M)(p)(b)(z):blk (UG M p b) z=if z=p then b else blk M z:=by
 unfold blk;by_cases h:z=p
 ·subst h;rw[jDZ hBZ,ZAM rfl];rfl
 simp_all[d1Z,hBZ]
abbrev stZ{β:Type}(s:cW)(nx q:Int)(M:BM)(Z:β):Int×(List Ino×(Int×(Int×(List eJ×(List gU×(List dC×(Int×(Int×(BM×β))))))))):=(s.1,(s.2.1.1,(s.2.1.2,(s.2.2.1.1,(s.2.2.1.2,(s.2.2.2.1,(s.2.2.2.2,(nx,(q,(M,Z))))))))))
abbrev stD(s:cW)(nx q:Int)(M:BM):Int×(List Ino×(Int×(Int×(List eJ×(List gU×(List dC×(Int×(Int×BM)))))))):=(s.1,(s.2.1.1,(s.2.1.2,(s.2.2.1.1,(s.2.2.1.2,(s.2.2.2.1,(s.2.2.2.2,(nx,(q,M)))))))))
abbrev z9{β:Type}(Z:β):Int×(Int×(Int×(Int×(Int×(Bool×(Int×(Bool×(Int×β)))))))):=(0,(0,(0,(0,(0,(false,(0,(false,(0,Z)))))))))
section
variable {s : cW} {nx q : Int} {M : BM} {c : bV}
theorem mCZ{r:vZ×Int}(h:r.1.2.2.1.length<=100000):hJ bB r (0,stZ s nx q M ([c],z9 ([r.1],[])))=some (stZ s nx q M ([c],z9 ([r.1],r.1.2.2.1.map fun n=>blk M n.2.1))):=by
 refine aoZ (fun k:Nat=>((k:Int),stZ s nx q M ([c],z9 ([r.1],(r.1.2.2.1.take k).map fun n=>blk M n.2.1)))) r.1.2.2.1.length (by omega) (fun k hk=> ?_) ?_
 ·obtain⟨nd,hn⟩:∃nd,r.1.2.2.1[k]? =some nd:=⟨_,ZAC hk⟩;show eB bB r (k:Int) s.1 s.2.1.1 s.2.1.2 s.2.2.1.1 s.2.2.1.2 s.2.2.2.1 s.2.2.2.2 nx q M [c] 0 0 0 0 0 false 0 false 0 [r.1] ((r.1.2.2.1.take k).map fun n=>blk M n.2.1)=_;unfold eB;rw[ZAJ (by omega),adZ hk,ZAA,hn,ZAA,acZ (by simp[arZ,ZAS];omega),w64 (by omega),aWZ hn,ZCM]
  rfl
 ·show eB bB r (r.1.2.2.1.length:Int) s.1 s.2.1.1 s.2.1.2 s.2.2.1.1 s.2.2.1.2 s.2.2.2.1 s.2.2.2.2 nx q M [c] 0 0 0 0 0 false 0 false 0 [r.1] _=_
  simp_all[eB,ZAx]
def IN(r n:fW):Bool:=(r.1==n.1)&&(((r.2.1.1==n.2.1.1)&&(r.2.1.2==n.2.1.2))&&(r.2.2==n.2.2))
theorem jPZ(r n):IN r n=true↔r=n:=by
 let⟨a,⟨b,d⟩,e⟩:=r
 let⟨a',⟨b',d'⟩,e'⟩:=n
 simp_all[IN,ZA0]
def inB(l:List fW)(n:fW):Bool:=l.any fun r=>IN r n
theorem r9Z(l)(n):inB l n=true↔n∈l:=by
 unfold inB;rw[List.any_eq_true];exact⟨fun⟨r,hr,e⟩=>(jPZ r n).1 e▸hr,fun h=>⟨n,h,(jPZ n n).2 rfl⟩⟩
theorem siZ{p:vZ}(hp:p.2.2.1.length<=100000)(n){A}{V}{C:List bV}{Q:List vZ}:hU bB p (false,(0,stZ s nx q M (C,z9 (Q,(A,(V,(n.1,(n.2.1.1,(n.2.1.2,n.2.2)))))))))=some (inB p.2.2.1 n,stZ s nx q M (C,z9 (Q,(A,(V,(n.1,(n.2.1.1,(n.2.1.2,n.2.2)))))))):=by
 refine aoZ (fun k:Nat=>(inB (p.2.2.1.take k) n,((k:Int),stZ s nx q M (C,z9 (Q,(A,(V,(n.1,(n.2.1.1,(n.2.1.2,n.2.2)))))))))) p.2.2.1.length (by omega) (fun k hk=> ?_) ?_
 ·obtain⟨nd,hn⟩:∃nd,p.2.2.1[k]? =some nd:=⟨_,ZAC hk⟩;show eC bB p (inB (p.2.2.1.take k) n) (k:Int) s.1 s.2.1.1 s.2.1.2 s.2.2.1.1 s.2.2.1.2 s.2.2.2.1 s.2.2.2.2 nx q M C 0 0 0 0 0 false 0 false 0 Q A V n.1 n.2.1.1 n.2.1.2 n.2.2=_;unfold eC;rw[ZAJ (by omega),adZ hk,ZAA,hn,w64 (by omega)];have e:inB (p.2.2.1.take (k+1)) n=(inB (p.2.2.1.take k) n||IN nd n):=by unfold inB;rw[aWZ hn];simp
  simp[e];cases inB (p.2.2.1.take k) n<;>rfl
 ·show eC bB p _ (p.2.2.1.length:Int) s.1 s.2.1.1 s.2.1.2 s.2.2.1.1 s.2.2.1.2 s.2.2.2.1 s.2.2.2.2 nx q M C 0 0 0 0 0 false 0 false 0 Q A V n.1 n.2.1.1 n.2.1.2 n.2.2=_;unfold eC;rw[ZAF (by omega),ZAD,ZAx]
def nW(rd:List fW)(M:BM)(n:fW):List UInt8:=if inB rd n=true then blk M n.2.1 else[]
def eN(nx:Int)(k:Nat):List Int:=(List.range k).map fun j:Nat=>nx+(j:Int)+1
theorem cSZ(nx)(k):(eN nx k).length=k:=by simp[eN]
theorem d6Z{nx}{k j}(h:j<k):(eN nx k)[j]? =some (nx+(j:Int)+1):=by
 simp_all[eN,ZCm]
theorem n3Z(nx)(k):eN nx (k+1)=eN nx k++[nx+(k:Int)+1]:=by simp_all[eN,List.range_succ]
theorem spZ{r:vZ×Int}(h1:r.1.2.2.1.length<=100000)(h2:r.1.2.2.2.length<=100000)(hn:0<=nx/\nx<=1099511627776)(hM:∀n∈r.1.2.2.2,inB r.1.2.2.1 n=true->(blk M n.2.1).length≠0/\(blk M n.2.1).length<=1000):
 fD bB r (0,stZ s nx q M ([c],z9 ([r.1],([],[]))))=some (.inl (stZ s (nx+(r.1.2.2.2.length:Nat)) q M ([c],z9 ([r.1],(r.1.2.2.2.map (nW r.1.2.2.1 M),eN nx r.1.2.2.2.length))))):=by
 unfold fD;have e0:((0:Int),stZ s nx q M ([c],z9 ([r.1],(([]:List (List UInt8)),([]:List Int)))))=(fun k:Nat=>((k:Int),stZ s (nx+(k:Nat)) q M ([c],z9 ([r.1],((r.1.2.2.2.take k).map (nW r.1.2.2.1 M),eN nx k))))) 0:=by simp[eN]
 refine(congrArg (iter bB _) e0).trans ?_;refine aoZ (fun k:Nat=>((k:Int),stZ s (nx+(k:Nat)) q M ([c],z9 ([r.1],((r.1.2.2.2.take k).map (nW r.1.2.2.1 M),eN nx k))))) r.1.2.2.2.length (by omega) (fun k hk=> ?_) ?_
 ·obtain⟨nd,hnd⟩:∃nd,r.1.2.2.2[k]? =some nd:=⟨_,ZAC hk⟩;have hm:=hM nd (ZAI hnd);have hlen:((r.1.2.2.2.take k).map (nW r.1.2.2.1 M)).length=k:=by rw[ZAs,ZAS];omega
  have hv:=cSZ nx k;show eD bB r (k:Int) s.1 s.2.1.1 s.2.1.2 s.2.2.1.1 s.2.2.1.2 s.2.2.2.1 s.2.2.2.2 (nx+(k:Nat)) q M [c] 0 0 0 0 0 false 0 false 0 [r.1] ((r.1.2.2.2.take k).map (nW r.1.2.2.1 M)) (eN nx k)=_;show _=some (Sum.inl (((k+1:Nat):Int),stZ s (nx+((k+1:Nat):Int)) q M ([c],z9 ([r.1],((r.1.2.2.2.take (k+1)).map (nW r.1.2.2.1 M),eN nx (k+1))))));rw[n3Z,aWZ hnd,ZCM,show nx+((k+1:Nat):Int)=nx+(k:Nat)+1 by omega];generalize (r.1.2.2.2.take k).map (nW r.1.2.2.1 M)=A at*;generalize eN nx k=V at*;unfold eD Pb Pc Pd Pe Pf Pg Ph Pi Pj Pk Pl Pm Pn Po Pp Pq Pr Ps Pt Pu Pv Pw Py Pz PV;rw[ZAJ (by omega),adZ hk,ZAA,hnd,ZAA];refine(congrArg (fun o=>Option.bind o _) (siZ (n:=nd) h1)).trans ?_;rw[ZAA];cases hb:inB r.1.2.2.1 nd
  ·simp[ZAA];rw[acZ (by simp only[ZAE,ZAm,arZ];omega),acZ (by simp only[ZAE,ZAm,arZ];omega),w64 (by omega),w64 (by omega)]
   simp_all[nW,ZCt,List.map_nil]
  ·have hm:=hm hb;simp only[ZAL];rw[(ZAa.2 (by
    show((blk M nd.2.1).length:Int)≠0;omega))]
   simp only[ZAD,ZAA];rw[acZ (by simp only[ZAE,ZAm,arZ];omega),acZ (by simp only[ZAE,ZAm,arZ];omega),w64 (by omega),w64 (by omega)];unfold nW;simp only[ZCt,List.map_nil,hb,ZCr]
   rfl
 ·show eD bB r (r.1.2.2.2.length:Int) s.1 s.2.1.1 s.2.1.2 s.2.2.1.1 s.2.2.1.2 s.2.2.2.1 s.2.2.2.2 _ q M [c] 0 0 0 0 0 false 0 false 0 [r.1] _ _=_;unfold eD Pb Pc Pd Pe Pf Pg Ph Pi Pj Pk Pl Pm Pn Po Pp Pq Pr Ps Pt Pu Pv Pw Py Pz PV;rw[ZAF (by omega),ZAD,ZAx]
def qG(l:List fW)(vs:List Int)(bs:List (List UInt8)):Nat->BM->BM
 |0,M=>M
 |k+1,M=>UG (qG l vs bs k M) (((l[k]?).getD (0,((0,0),0))).2.2,(vs[k]?).getD 0) ((bs[k]?).getD [])
theorem sKZ{p:vZ}{vs}{bs}(h1:p.2.2.2.length<=100000)(h2:vs.length=p.2.2.2.length)(h3:bs.length=p.2.2.2.length):
 hY bB p (0,stZ s nx q M ([c],z9 (vs,bs)))=some (stZ s nx q (qG p.2.2.2 vs bs p.2.2.2.length M) ([c],z9 vs)):=by
 refine aoZ (fun k:Nat=>((k:Int),stZ s nx q (qG p.2.2.2 vs bs k M) ([c],z9 (vs,bs)))) p.2.2.2.length (by omega) (fun k hk=> ?_) ?_
 ·obtain⟨nd,hn⟩:∃nd,p.2.2.2[k]? =some nd:=⟨_,ZAC hk⟩;obtain⟨v,hv⟩:∃v,vs[k]? =some v:=⟨_,ZAC (by omega)⟩;obtain⟨b,hb⟩:∃b,bs[k]? =some b:=⟨_,ZAC (by omega)⟩;show eE bB p (k:Int) s.1 s.2.1.1 s.2.1.2 s.2.2.1.1 s.2.2.1.2 s.2.2.2.1 s.2.2.2.2 nx q (qG p.2.2.2 vs bs k M) [c] 0 0 0 0 0 false 0 false 0 vs bs=_;unfold eE;rw[ZAJ (by omega),adZ hk,ZAA,hn,ZAA,adZ (by omega),ZAA,hv,ZAA,adZ (by omega),ZAA,hb,w64 (by omega)];show _=some (Sum.inl (((k+1:Nat):Int),stZ s nx q (qG p.2.2.2 vs bs (k+1) M) ([c],z9 (vs,bs))))
  conv=>rhs;unfold qG
  rw[hn,hv,hb]
  rfl
 show eE bB p (p.2.2.2.length:Int) s.1 s.2.1.1 s.2.1.2 s.2.2.1.1 s.2.2.1.2 s.2.2.2.1 s.2.2.2.2 nx q _ [c] 0 0 0 0 0 false 0 false 0 vs bs=_;simp_all[eE,ZAD]
end
structure mG (s:cW) (q:Nat) (nx:Int) (M:BM) (n:Int):Prop where
 ok:vQ s q
 xs:wO n s.2.2.1.2
 i:0<=n/\n<=30
 w:s.2.1.2<=258*n
 x:0<=nx/\nx<=258*n
 b:∀p,(blk M p).length=0\/(blk M p).length=q
 z:blk M (0,0)=[]
 v:∀x∈s.2.1.1,∀p∈x.2.2.2.2.2.1,dK p=true\/(p.2<=nx/\(blk M p).length=q)
def NT(r:bU)(b:List UInt8):bU:=(r.1,(r.2.1,(r.2.2.1,(r.2.2.2.1,(r.2.2.2.2.1,(r.2.2.2.2.2.1,(b,r.2.2.2.2.2.2.2)))))))
def zF(M:BM)(l:List fW):List (List UInt8):=l.map fun n=>blk M n.2.1
def AM(s:cW)(q:Nat)(M:BM)(c:bV):bU:=
 if c.2.2.1=uO 4/\(bN (bF s.2.1) c).2.1=0 then NT (dL s c) (FF q (min (nT s c).2.2.2.2.1.toNat c.2.2.2.2.2.2.2.1.toNat/q) (nT s c).2.2.2.2.1.toNat c (zF M (gV (nT s c) q c))) else dL s c
def cO(s:cW)(q:Nat)(c:bV):List fW:=(dW s q c).1.2.2.2
def newM(s:cW)(q:Nat)(nx:Int)(M:BM)(c:bV):BM:=qG (cO s q c) (eN nx (cO s q c).length) (iE q c (cO s q c) ((cO s q c).map (nW (dW s q c).1.2.2.1 M))) (cO s q c).length M
inductive vH (s:cW) (q:Nat) (nx:Int) (M:BM) (c:bV):bU->cW->Int->BM->Prop
 |bad:bK c=false->vH s q nx M c (IM c 179) s nx M
 |tell:bK c=true->jG c.2.2.1=true->vH s q nx M c (AM s q M c) s nx M
 |done {s'}:bK c=true->jG c.2.2.1=false->Next s q c (eN nx (cO s q c).length) s'->vH s q nx M c (dL s c) s' (nx+((cO s q c).length:Nat)) (newM s q nx M c)
theorem toZ{s}{q}{c}(hr:bK c=true)(ha:jG c.2.2.1=false)(hl:(look s.2.2.1 c.1 c.2.1).2=0):(dW s q c).1.1=2:=by
 unfold dW
 grind
theorem g1Z(P)(wh)(a)(w):∀(k) (nd),nd∈(dQ P wh a k w).2.2↔∃j,j<k/\nd=(((a+j:Nat):Int),(pAt P (a+j),(pAt P (a+j)).1))/\dK (pAt P (a+j))=false/\wh (a+j)=false
 |0,nd=>⟨fun h=>(by cases h),fun⟨j,h,_⟩=>(by omega)⟩
 |k+1,nd=>by
  have ih:=g1Z P wh a w k nd;have up:∀{Q:Nat->Prop},(∃j,j<k+1/\Q j)↔(∃j,j<k/\Q j)\/Q k:=fun{Q}=>⟨fun⟨j,h,q⟩=>by
   by_cases e:j=k
   ·exact .inr (e▸q)
   ·exact .inl ⟨j,by omega,q⟩,fun h=>h.elim (fun⟨j,h,q⟩=>⟨j,by omega,q⟩) fun q=>⟨k,by omega,q⟩⟩
  show nd∈(iD P wh (a+k) (dQ P wh a k w)).2.2↔_;unfold iD
  grind
theorem pLZ(P)(i):pAt P i=(0,0)\/pAt P i∈P:=by
 unfold pAt
 grind
section
variable {s : cW} {q : Nat} {nx : Int} {M : BM} {n : Int} {c : bV}
structure SU (s:cW) (q:Nat) (nx:Int) (M:BM) (c:bV):Prop where
 len:(cO s q c).length<=258
 rd:(dW s q c).1.2.2.1.length<=258
 op:(cO s q c).length≠0->c.2.2.1=uO 5\/c.2.2.1=uO 6
 at_:∀nd∈cO s q c,(0<=nd.1/\nd.1<=4096)/\nd.2.1.2<=nx
 old:∀nd∈cO s q c,inB (dW s q c).1.2.2.1 nd=true->(blk M nd.2.1).length=q
theorem tjZ(h:mG s q nx M n)(h2:(dW s q c).1.1=2):SU s q nx M c:=by
 let⟨_,hr,_⟩:=cHZ h2
 have hq:=h.ok.q;by_cases hw:(bN (bF s.2.1) c).2.1=0/\(c.2.2.1=uO 5\/c.2.2.1=uO 6)
 ·let⟨x,hx⟩:=mFZ (q:=q) hr hw.2 hw.1
  have hxm:=ZAI hx.f.at_;have hmn:=lYZ (x:=x) hq.1 (a1Z hr).2.2;have hf:=bjZ x.2.2.2.2.2.1 (eU q c) (cY q c) s.2.1.2 (eK x q c);have e:cO s q c=(dQ x.2.2.2.2.2.1 (eU q c) (cY q c) (eK x q c) s.2.1.2).2.1:=by unfold cO;rw[g3Z h2 hx];rfl
  have e2:(dW s q c).1.2.2.1=(dQ x.2.2.2.2.2.1 (eU q c) (cY q c) (eK x q c) s.2.1.2).2.2:=by rw[g3Z h2 hx];rfl
  have hN4:jJ x q c<=4096:=by
   have r3:=(e3Z h.ok.t hx.r hx.hop hx.h0 hx.f).2.2;unfold jJ;exact lrZ (by omega) (by omega)
  have nx0:=h.x;refine⟨by simp_all,by grind,fun _=>hw.2,fun nd hnd=> ?_,fun nd _ hi=> ?_⟩
  ·rw[e] at hnd
   let⟨j,hj⟩:=ZAR hnd
   have hj2:=(ZAB.1 hj).1;rw[dfZ _ _ _ _ _ _ (by omega:j<eK x q c)] at hj;obtain rfl:=ZAf hj;have:=hx.span hq.1 (by omega);refine⟨by simp;omega,?_⟩;show(pAt x.2.2.2.2.2.1 (cY q c+j)).2<=nx;rcases pLZ x.2.2.2.2.2.1 (cY q c+j) with z|z
   ·rw[z];exact nx0.1
   ·rcases h.v x hxm _ z with u|u
    ·unfold dK at u;simp[ZBp] at u;omega
    ·exact u.1
  ·rw[r9Z,e2,g1Z] at hi;obtain⟨j,_,rfl,h1,_⟩:=hi;show(blk M (pAt x.2.2.2.2.2.1 (cY q c+j))).length=q;rcases pLZ x.2.2.2.2.2.1 (cY q c+j) with z|z
   ·rw[z] at h1;cases h1
   ·rcases h.v x hxm _ z with u|u
    ·rw[h1] at u;cases u
    ·exact u.2
 ·have e:=rNZ h2 hw;have en:cO s q c=[]:=by unfold cO;rw[e]
  refine⟨by rw[en];decide,by rw[e];decide,fun z=>absurd (by rw[en];rfl) z,fun nd h=> ?_,fun nd h=> ?_⟩<;>(rw[en] at h;cases h)
theorem eBZ{l}{k}{bs}{p}(h:p.2<=nx):∀m,m<=k->blk (qG l (eN nx k) bs m M) p=blk M p
 |0,_=>rfl
 |m+1,hm=>by
  unfold qG;rw[d6Z (by omega),lNZ,ZAK,eBZ h m (by omega)];rintro rfl;simp at h;omega
theorem j1Z{l}{k}{bs}{j}{nd}(hn:l[j]? =some nd):∀m,j<m->m<=k->blk (qG l (eN nx k) bs m M) (nd.2.2,nx+(j:Int)+1)=(bs[j]?).getD []
 |m+1,hj,hm=>by
  unfold qG;rw[d6Z (by omega),lNZ];by_cases e:j=m
  ·simp_all
  ·rw[j1Z hn m (by omega) (by omega)]
   grind
theorem mxZ{l}{vs}{bs}(hb:∀b∈bs,b.length=q)(h:∀p,(blk M p).length=0\/(blk M p).length=q):∀m p,(blk (qG l vs bs m M) p).length=0\/(blk (qG l vs bs m M) p).length=q
 |0,p=>h p
 |m+1,p=>by
  unfold qG;rw[lNZ];split
  ·grind
  ·exact mxZ hb h m p
theorem nhZ{l}{olds}:∀b∈iE q c l olds,b.length=q:=fun b hb=>by
 let⟨j,hj⟩:=ZAR hb
 unfold iE at hj
 grind[ZAf,dVZ]
end
section
variable {s : cW} {q : Nat} {nx : Int} {M : BM} {n : Int} {c : bV}
noncomputable abbrev jK (s : cW) (q : Nat) (nx ) (M : BM) (c : bV) := dF bB c s.1 s.2.1.1 s.2.1.2 s.2.2.1.1 s.2.2.1.2 s.2.2.2.1 s.2.2.2.2 nx (q : Int) M
theorem vpZ(h:vQ s q)(hr:bK c=false):jK s q nx M c=some (jI (IM c 179) (true,stD s nx q M)):=by
 unfold jK dF Pa Pb Pc Pd Pe Pf Pg Ph Pi Pj Pk Pl Pm Pn Po Pp Pq Pr Ps Pt Pu PH PS PU;rw[(evZ h c)];rw[show dW s q c=((0,(zR,([],[]))),179) by unfold dW;rw[hr];rfl]
 rfl
theorem oBZ(hr:bK c=true)(ha:jG c.2.2.1=true):dW s q c=if c.2.2.1=uO 4/\(bN (bF s.2.1) c).2.1=0 then((1,(noB (dL s c),(gV (nT s c) q c,[]))),0) else((1,(dL s c,([],[]))),0):=by
 unfold dW;rw[ZAM hr,ZAM ha];rfl
theorem wgZ(r):(noB r).2.2.1=r.2.2.1:=rfl
theorem r0Z{x}(hx:jH s c x):cV (bF s.2.1) c.2.2.2.1=(c.2.2.2.1.1,jF x,0):=by
 have hb0:(bF s.2.1).1.1[(c.2.2.2.1.1-1).toNat]? =some (dJ x):=by
  unfold bF;simp only[ZAW,hx.at_];rfl
 have hd0:(bF s.2.1).2[(c.2.2.2.1.1-1).toNat]? =some (jF x):=by
  unfold bF;simp only[ZAW,hx.at_];rfl
 unfold cV;rw[cgZ.2 ((⟨hx.h1,hb0,hx.used,hx.gen⟩))];simp only;rw[show(dJ x).2.2.2.1=false from hx.dir,hd0];rfl
theorem taZ{x}(hr:bK c=true)(h4:c.2.2.1=uO 4)(h0:(bN (bF s.2.1) c).2.1=0)(hx:jH s c x):(bN (bF s.2.1) c).2.2=((0,0),false,(((jF x).length:Nat):Int),FD (jF x) c.2.2.2.2.2.2.2.1 c.2.2.2.2.2.2.2.2.1,[],decide (c.2.2.2.2.2.2.2.1+c.2.2.2.2.2.2.2.2.1<(((jF x).length:Nat):Int)),0):=by
 unfold bN;rw[ZAM hr,ZAM (res0 hr h0),act4 h4];unfold jL;rw[r0Z hx,ZAM rfl]
theorem o0Z{R:bU}{l:List fW}{b}(hp:nP bB s (q:Int) c=some ((1,(R,(l,[]))),0))(h4:c.2.2.1=uO 4)(h0:R.2.2.1=0)(hl:l.length<=100000)(hg:ND bB (q:Int) c R.2.2.2.2.2.1 l (zF M l)=some (0,b)):
 jK s q nx M c=some (jI (NT R b) (true,stD s nx q M)):=by
 unfold jK dF Pa Pb Pc Pd Pe Pf Pg Ph Pi Pj Pk Pl Pm Pn Po Pp Pq Pr Ps Pt Pu PH PS PU;rw[(hp),ZAA];simp[ZAL];refine(congrArg (fun o=>Option.bind o _) (mCZ hl)).trans ?_;rw[ZAA];simp[ZAA];rw[op4,ZAJ h4]
 let⟨r0,r1,r2,r3⟩:=R
 simp at h0 hg;subst h0;simp only[ZAL,(rfl),ZAA,ZAP,ZBm];refine(congrArg (fun o=>Option.bind o _) hg).trans ?_
 rfl
theorem puZ{R:bU}(hp:nP bB s (q:Int) c=some ((1,(R,([],[]))),0))(h4:c.2.2.1=uO 4->R.2.2.1≠0):jK s q nx M c=some (jI R (true,stD s nx q M)):=by
 unfold jK dF Pa Pb Pc Pd Pe Pf Pg Ph Pi Pj Pk Pl Pm Pn Po Pp Pq Pr Ps Pt Pu PH PS PU;rw[(hp),ZAA];simp[ZAL];refine(congrArg (fun o=>Option.bind o _) (mCZ (by simp))).trans ?_;rw[ZAA];simp[ZAA];rw[op4];by_cases e4:c.2.2.1=uO 4
 ·rw[ZAJ e4];simp[(ZAa.2 (h4 e4)),ZAA,ZAP,ZBm]
  rfl
 ·rw[ZAF e4];simp only[ZAD,ZAA,ZAP,ZBm]
  rfl
theorem uQZ(h:mG s q nx M n)(hr:bK c=true)(ha:jG c.2.2.1=true):jK s q nx M c=some (jI (AM s q M c) (true,stD s nx q M)):=by
 have hq:=h.ok.q;have hp:=evZ h.ok c;rw[oBZ hr ha] at hp;unfold AM;by_cases h4:c.2.2.1=uO 4/\(bN (bF s.2.1) c).2.1=0
 ·rw[ZAM h4] at hp⊢
  let⟨x,hx⟩:=uUZ hr h4.1 h4.2
  have hsz:=epZ h.ok.t hx.at_;have hl:=h.ok.l _ _ hx.at_ hx.used hx.dir;have hN4:(x.2.2.2.2.1.toNat+q-1)/q<=4096:=lrZ (by omega) (by have:4096*16<=4096*q:=ZB2 _ hq.1;omega);have hrd:gV (nT s c) q c=gV x q c:=by rw[hx.p]
  have hmono:=iEZ (q:=q) (a:=min x.2.2.2.2.1.toNat (c.2.2.2.2.2.2.2.1.toNat+c.2.2.2.2.2.2.2.2.1.toNat)) (Nat.min_le_left _ _);have at_:∀(j) nd,(gV x q c)[j]? =some nd->nd.1=((min x.2.2.2.2.1.toNat c.2.2.2.2.2.2.2.1.toNat/q+j:Nat):Int)/\nd.1<=4096:=fun j nd hj=>by
   unfold gV at hj;split at hj
   ·unfold kS at hj;have hlt:=(ZAB.1 hj).1;rw[ZAs,List.length_range] at hlt;rw[ZAW,ZCm hlt] at hj;obtain rfl:=ZAf hj;exact⟨rfl,by simp;omega⟩
   ·cases hj
  have hlen:(gV x q c).length<=4096:=by
   unfold gV;split
   ·rw[h1Z];exact ZBF (Nat.sub_le _ _) (ZBF hmono hN4)
   ·exact ZBG _
  have hg:xI q (gV x q c) (zF M (gV x q c)):=⟨by unfold zF;rw[ZAs],by omega,fun b hb=>by
   obtain⟨nd,_,rfl⟩:=ZBc.1 hb;exact h.b _,fun nd hnd=>by
   let⟨j,hj⟩:=ZAR hnd
   have:=at_ j nd hj;exact⟨by rw[this.1];exact Int.natCast_nonneg _,by omega⟩⟩
  have hf:(dL s c).2.2.2.2.2.1=((x.2.2.2.2.1.toNat:Nat):Int):=by
   show(bN (bF s.2.1) c).2.2.2.2.1=_;rw[taZ hr h4.1 h4.2 hx];show(((jF x).length:Nat):Int)=_;unfold jF;rw[ZB6]
  rw[hrd] at hp⊢;refine(o0Z hp h4.1 ((wgZ _).trans h4.2) (by omega) ?_).trans rfl;rw[hx.p];refine Eq.trans ?_ (p0Z hq hr h4.1 (by omega) hg fun j nd hj=>(at_ j nd hj).1);rw[<-hf];rfl
 ·rw[ZAK h4] at hp⊢;exact puZ hp fun e z=>h4 ⟨e,z⟩
end
section
variable {s : cW} {q : Nat} {nx : Int} {M : BM} {n : Int} {c : bV}
theorem ofZ{p:vZ}{s':cW}{r}(hp:nP bB s (q:Int) c=some (p,0))(h2:p.1=2)(h1:p.2.2.1.length<=258)(hl:p.2.2.2.length<=258)(hn:0<=nx/\nx<=1099511627776)
 (hM:∀n∈p.2.2.2,inB p.2.2.1 n=true->(blk M n.2.1).length≠0/\(blk M n.2.1).length<=1000)
 (hb:p.2.2.2.length≠0->NF bB (q:Int) c p.2.2.2 (p.2.2.2.map (nW p.2.2.1 M))=some (0,iE q c p.2.2.2 (p.2.2.2.map (nW p.2.2.1 M))))
 (ha:nQ bB s (q:Int) c (eN nx p.2.2.2.length) 0=some (s',jI r (0:Int))):
 jK s q nx M c=some (jI r (true,stD s' (nx+(p.2.2.2.length:Nat)) q (qG p.2.2.2 (eN nx p.2.2.2.length) (iE q c p.2.2.2 (p.2.2.2.map (nW p.2.2.1 M))) p.2.2.2.length M))):=by
 unfold jK dF Pa Pb Pc Pd Pe Pf Pg Ph Pi Pj Pk Pl Pm Pn Po Pp Pq Pr Ps Pt Pu PH PS PU;rw[(hp),ZAA];simp only;rw[h2];simp only[(rfl),(rfl),(rfl),show((2:Int)==2)=true from rfl,ZAO,ZAD,ZAL];refine(congrArg (fun o=>Option.bind o _) (spZ (by grind) (by grind) hn hM)).trans ?_;rw[ZAA];simp only[ZAP,ZAA];have hol:(p.2.2.2.map (nW p.2.2.1 M)).length=p.2.2.2.length:=ZAs ..;have hnl:(iE q c p.2.2.2 (p.2.2.2.map (nW p.2.2.1 M))).length=p.2.2.2.length:=by unfold iE;rw[List.length_zipWith,hol];omega
 have hvl:=cSZ nx p.2.2.2.length;by_cases h0:p.2.2.2.length=0
 ·have hnil:=ZBY.1 h0;rw[ZAF (by omega)];simp only[ZAD,ZAA,ZAP];refine(congrArg (fun o=>Option.bind o _) ((ha))).trans ?_;rw[ZAA];simp only[ZAP,ZAA,ZBm];rw[show qG p.2.2.2 (eN nx p.2.2.2.length) (iE q c p.2.2.2 (p.2.2.2.map (nW p.2.2.1 M))) p.2.2.2.length M=M by rw[h0];rfl]
  rfl
 ·rw[ZAJ (by omega)];simp only[ZAL];rw[hb h0,ZAA];simp only[show((0:Int)==0)=true from rfl,ZAO,ZAD,ZAA];rw[hnl,ZAb];simp only[ZAO,ZAD,ZAA,ZAP];refine(congrArg (fun o=>Option.bind (Option.bind o _) _) (sKZ (by omega) hvl hnl)).trans ?_;rw[ZAA,ZAA];simp only[ZAP,ZAA];refine(congrArg (fun o=>Option.bind o _) ((ha))).trans ?_;rw[ZAA];simp only[ZAP,ZAA,ZBm]
  rfl
theorem qKZ(h:mG s q nx M n)(hr:bK c=true)(ha:jG c.2.2.1=false)(hn:n<c.2.1):Ask s q c (eN nx (cO s q c).length)/\SU s q nx M c:=by
 have h2:=toZ (q:=q) hr ha (by rw[sDZ h.ok.c h.xs hn]);have N:=tjZ h h2;have h0:=h.x;have hi:=h.i;refine⟨⟨h.ok,h2,h.xs.mono (by omega),tVZ h2 (cSZ _ _) (by rw[cSZ];have:=N.len;omega) fun j nd v hj hv=> ?_⟩,N⟩;have hlt:j<(cO s q c).length:=(ZAB.1 hj).1;rw[d6Z hlt] at hv;obtain rfl:=ZAf hv;have:=(N.at_ nd (ZAI hj)).2;have:=N.len;omega
theorem uXZ(h:mG s q nx M n)(hr:bK c=true)(ha:jG c.2.2.1=false)(hn:n<c.2.1):
 ∃s',jK s q nx M c=some (jI (dL s c) (true,stD s' (nx+((cO s q c).length:Nat)) q (newM s q nx M c)))/\Next s q c (eN nx (cO s q c).length) s':=by
 let⟨A,N⟩:=qKZ h hr ha hn
 have hq:=h.ok.q;have h0:=h.x;have hi:=h.i;have hw:=h.w;obtain⟨s',e1,e2⟩:=nsZ A (by omega) (cSZ _ _) fun v hv=>by
  obtain⟨j,hj,rfl⟩:=ZBc.1 hv;have:=ZCS.1 hj;have:=N.len;omega
 have hp:=evZ h.ok c;rw[show dW s q c=((dW s q c).1,0) from Prod.ext rfl (cHZ A.two).1] at hp;refine⟨s',ofZ hp A.two N.rd N.len (by omega) (fun nd hnd hin=> ?_) (fun hne=> ?_) e1,e2⟩
 ·have:=N.old nd hnd hin;omega
 ·refine p2Z hq hr (N.op hne) ⟨ZAs ..,ZBF N.len (by decide),fun b hb=> ?_,fun nd hnd=> ?_⟩
  ·obtain⟨nd,_,rfl⟩:=ZBc.1 hb;unfold nW;split
   ·exact h.b _
   ·exact .inl rfl
  ·have:=(N.at_ nd hnd).1;omega
theorem hFZ{l0 l1}{i}{p}(h:p∈cN l0 l1 i):∃x∈l0,p∈x.2.2.2.2.2.1:=by
 grind[cN,ZAI]
theorem oxZ{vs}(A:Ask s q c vs)(hv:vs.length=(cO s q c).length){x}(hx:x∈wB s q c vs){p}(hp:p∈x.2.2.2.2.2.1):
 dK p=true\/(∃y∈s.2.1.1,p∈y.2.2.2.2.2.1)\/∃(j:Nat) (nd:fW) (v:Int),(cO s q c)[j]? =some nd/\vs[j]? =some v/\p=(nd.2.2,v):=by
 obtain⟨_,hr,_⟩:=cHZ A.two;obtain⟨i,hi⟩:=ZAR hx;unfold wB at hi;split at hi
 ·rename_i h0;split at hi
  ·rename_i hop;obtain⟨y,hy⟩:=mFZ hr hop h0;rw[hy.f.p] at hi;unfold lW at hi;by_cases e:atC c=i
   ·subst e;rw[ZAQ (by rw[bHZ];exact(ZAB.1 (ebZ hy)).1)] at hi;obtain rfl:=ZAf hi;have hp:=hp;have hP:=(kiZ A.ok.t y (ZAI hy.f.at_)).2;have hst:=A.ok.t.r.str;have W:=mqZ (wh:=eU q c) (n:=eK y q c) (N:=jJ y q c) (w:=s.2.1.2) (W:=s.2.1.2) (vs:=vs) (hy.span A.ok.q.1) hP (ZB1 _) hst.1 (eK y q c) (ZAN _);have en:cO s q c=(dQ y.2.2.2.2.2.1 (eU q c) (cY q c) (eK y q c) s.2.1.2).2.1:=by unfold cO;rw[g3Z A.two hy];rfl
    have hf:=(bjZ y.2.2.2.2.2.1 (eU q c) (cY q c) s.2.1.2 (eK y q c)).1;rcases W.ok p hp with z|⟨j,j1,j2,_⟩
    ·rcases ZAh.1 z with u|u
     ·exact .inr (.inl ⟨y,ZAI hy.f.at_,ZCG u⟩)
     ·rw[(List.mem_replicate.1 u).2];exact .inl rfl
    ·have hj:j<vs.length:=by rw[hv,en,hf];exact j1
     refine .inr (.inr ⟨j,_,vs[j],by rw[en];exact dfZ _ _ _ _ _ _ j1,ZAC hj,?_⟩);rw[j2,ZAC hj];rfl
   ·rw[ZAX e] at hi;obtain⟨z,_,rfl⟩:=aXZ hi;exact .inr (.inl (hFZ hp))
  ·obtain⟨z,_,rfl⟩:=aXZ hi;exact .inr (.inl (hFZ hp))
 grind
theorem mG.next(h:mG s q nx M n)(hr:bK c=true)(ha:jG c.2.2.1=false)(hn:n<c.2.1/\c.2.1<=30){s'}(N:Next s q c (eN nx (cO s q c).length) s'):
 mG s' q (nx+((cO s q c).length:Nat)) (newM s q nx M c) c.2.1:=by
 let⟨A,D⟩:=qKZ h hr ha hn.1
 have h0:=h.x;have hw:=h.w;have nw:=N.w;have dl:=D.len;refine⟨N.ok,N.xs,by omega,by omega,by omega,mxZ nhZ h.b _,?_,fun x hx p hp=> ?_⟩
 ·unfold newM;rw[eBZ h0.1 _ (ZAN _)];exact h.z
 ·rw[N.tree] at hx;rcases oxZ A (cSZ _ _) hx hp with z|⟨y,hy,hpy⟩|⟨j,nd,v,j1,j2,rfl⟩
  ·simp_all
  ·refine(h.v y hy p hpy).imp id fun u=>⟨by omega,?_⟩
   simp_all[newM,eBZ]
  ·have hlt:=(ZAB.1 j1).1;rw[d6Z hlt] at j2;obtain rfl:=ZAf j2;refine .inr ⟨by simp;omega,?_⟩;unfold newM;rw[j1Z j1 _ hlt (ZAN _)];have hnl:(iE q c (cO s q c) ((cO s q c).map (nW (dW s q c).1.2.2.1 M))).length=(cO s q c).length:=by unfold iE;rw[List.length_zipWith,ZAs];omega
   rw[ZAC (by omega)];exact nhZ _ (ZBK _)
theorem mG.mono(h:mG s q nx M n){m}(hm:n<=m/\m<=30):mG s q nx M m:=by
 have h2:=h.w;have h3:=h.x;exact⟨h.ok,h.xs.mono hm.1,by omega,by omega,by omega,h.b,h.z,h.v⟩
theorem qVZ(h:mG s q nx M n)(hn:n<c.2.1/\c.2.1<=30):∃r s' nx' M',jK s q nx M c=some (jI r (true,stD s' nx' q M'))/\vH s q nx M c r s' nx' M'/\mG s' q nx' M' c.2.1:=by
 cases hr:bK c
 ·exact⟨_,_,_,_,vpZ h.ok hr,.bad hr,h.mono ⟨by omega,hn.2⟩⟩
 ·cases ha:jG c.2.2.1
  ·let⟨s',e1,e2⟩:=uXZ h hr ha hn.1
   exact⟨_,_,_,_,e1,.done hr ha e2,h.next hr ha hn e2⟩
  ·exact⟨_,_,_,_,uQZ h hr ha,.tell hr ha,h.mono ⟨by omega,hn.2⟩⟩
end
theorem tvZ(l)(w v)(d)(s)(is):fO (l,w) d s is=(((fO (l,v) d s is).1.1,w),(fO (l,v) d s is).2):=by
 unfold fO
 (repeat' split)<;>first|rfl|(done)|grind|grind
theorem m8Z(l)(w v)(d)(s)(is):dZ (l,w) d s is=(((dZ (l,v) d s is).1.1,w),(dZ (l,v) d s is).2):=by
 unfold dZ
 (repeat' split)<;>first|rfl|grind
theorem sUZ(l)(w v)(a)(old)(b)(name):eA (l,w) a old b name=(((eA (l,v) a old b name).1.1,w),(eA (l,v) a old b name).2):=by
 unfold eA
 (repeat' split)<;>first|rfl|(simp_all;done)|grind|grind
structure zG (m n:Mod):Prop where
 t:m.1.1=n.1.1
 l:m.2.length=n.2.length
 s:∀(i:Nat) x y,m.2[i]? =some x->n.2[i]? =some y->x.length=y.length
theorem zG.file{m n}(h:zG m n)(H):(cV m H).1=(cV n H).1/\(cV m H).2.1.length=(cV n H).2.1.length/\(cV m H).2.2=(cV n H).2.2:=by
 unfold cV;rw[h.t];cases DA n.1.1 H with
 |none=>exact⟨rfl,rfl,rfl⟩
 |some x=>
  simp only;cases x.2.2.2.1
  ·cases e1:m.2[(H.1-1).toNat]? with
   |none=>
    rw[ZAg (by have:=List.getElem?_eq_none_iff.1 e1;rw[<-h.l];exact this)];exact⟨rfl,rfl,rfl⟩
   |some b=>
    have hlt:=(ZAB.1 e1).1;rw[h.l] at hlt;rw[ZAC hlt];exact⟨rfl,h.s _ _ _ e1 (ZAC hlt),rfl⟩
  ·exact⟨rfl,rfl,rfl⟩
def JU(r:Rep):Rep:=(r.1,r.2.1,r.2.2.1,[],r.2.2.2.2)
def NU(c:bV)(q q':DoR):Prop:=q.1=q'.1/\q.2.1.1.1=q'.2.1.1.1/\JU q.2.2=JU q'.2.2/\(c.2.2.1≠uO 4->q.2.2=q'.2.2)
theorem zG.act{m n}(h:zG m n)(c):NU c (cL m c) (cL n c):=by
 let⟨⟨l,w⟩,d⟩:=m
 let⟨⟨l',v⟩,e⟩:=n
 have ht:=h.t;subst ht;have hf:=h.file c.2.2.2.1
 let⟨f1,f2,f3⟩:=hf
 have all:∀q q',q.1=q'.1->q.2.1.1.1=q'.2.1.1.1->q.2.2=q'.2.2->NU c q q':=fun q q' a b z=>⟨a,b,by rw[z],fun _=>z⟩;have look:jZ (l,w) c.2.2.2.1 c.2.2.2.2.1=jZ (l,v) c.2.2.2.1 c.2.2.2.2.1:=rfl;unfold cL;by_cases e1:c.2.2.1=uO 1
 ·rw[ZAM e1,ZAM e1];have e:jE ((l,w),d) c=((jE ((l,v),e) c).1,(((l,w),d),(jE ((l,v),e) c).2.2))/\(jE ((l,v),e) c).2.1=((l,v),e):=by
   unfold jE;rw[look];by_cases h0:(jZ (l,v) c.2.2.2.1 c.2.2.2.2.1).1=0
   ·rw[ZAM h0,ZAM h0];simp only;cases l[((jZ (l,v) c.2.2.2.1 c.2.2.2.2.1).2.1-1).toNat]? <;>exact⟨rfl,rfl⟩
   ·rw[ZAK h0,ZAK h0];exact⟨rfl,rfl⟩
  rw[e.1];exact all _ _ rfl (by rw[e.2]) rfl
 rw[ZAK e1,ZAK e1];by_cases e2:c.2.2.1=uO 2
 ·rw[ZAM e2];refine all _ _ ?_ ?_ ?_<;>(unfold gJ;simp only[tvZ l w v];split<;>rfl)
 rw[ZAK e2,ZAK e2];by_cases e3:c.2.2.1=uO 3
 ·rw[ZAM e3,ZAM e3];refine all _ _ ?_ ?_ ?_<;>(unfold gJ;simp only[tvZ l w v];split<;>rfl)
 rw[ZAK e3,ZAK e3];by_cases e4:c.2.2.1=uO 4
 ·rw[ZAM e4,ZAM e4];unfold jL;simp only[f3];split
  ·refine⟨rfl,rfl,?_,fun z=>absurd e4 z⟩;unfold JU;simp only[f2]
  ·exact⟨rfl,rfl,rfl,fun _=>rfl⟩
 rw[ZAK e4,ZAK e4];by_cases e5:c.2.2.1=uO 5
 ·rw[ZAM e5,ZAM e5];have hw:dP (cV ((l,w),d) c.2.2.2.1).2.1 c.2.2.2.2.2.2.2.1 c.2.2.2.2.2.2.2.2.2=dP (cV ((l,v),e) c.2.2.2.1).2.1 c.2.2.2.2.2.2.2.1 c.2.2.2.2.2.2.2.2.2:=by unfold dP;rw[f2]
  refine all _ _ ?_ ?_ ?_<;>(unfold iL nS;simp only[f3,cUZ,hw];(repeat' split)<;>rfl)
 rw[ZAK e5,ZAK e5];by_cases e6:c.2.2.1=uO 6
 ·rw[ZAM e6,ZAM e6];refine all _ _ ?_ ?_ ?_<;>(unfold lU nS;simp only[f3,aRZ];(repeat' split)<;>rfl)
 rw[ZAK e6,ZAK e6];by_cases e7:c.2.2.1=uO 7
 ·rw[ZAM e7,ZAM e7];refine all _ _ ?_ ?_ ?_<;>(unfold dI;simp only[m8Z l w v];split<;>rfl)
 rw[ZAK e7,ZAK e7];by_cases e8:c.2.2.1=uO 8
 ·rw[ZAM e8,ZAM e8];refine all _ _ ?_ ?_ ?_<;>(unfold dI;simp only[m8Z l w v];split<;>rfl)
 rw[ZAK e8,ZAK e8];by_cases e9:c.2.2.1=uO 9
 ·rw[ZAM e9,ZAM e9];refine all _ _ ?_ ?_ ?_<;>(unfold eV;simp only[sUZ l w v];split<;>rfl)
 rw[ZAK e9,ZAK e9];by_cases e10:c.2.2.1=uO 10
 ·rw[ZAM e10,ZAM e10];exact all _ _ rfl rfl rfl
 rw[ZAK e10,ZAK e10];by_cases e11:c.2.2.1=uO 11
 ·rw[ZAM e11,ZAM e11];refine all _ _ ?_ ?_ ?_<;>(unfold rP;simp only;split<;>rfl)
 rw[ZAK e11,ZAK e11];split<;>exact all _ _ rfl rfl rfl
theorem zG.res{m n}(h:zG m n)(c):(bN m c).2.1=(bN n c).2.1/\(bN m c).1.1.1=(bN n c).1.1.1/\JU (bN m c).2.2=JU (bN n c).2.2/\(c.2.2.1≠uO 4->(bN m c).2.2=(bN n c).2.2):=by
 let⟨a1,a2,a3,a4⟩:=h.act c
 unfold bN;split
 ·rw[a1];split
  ·exact⟨rfl,a2,a3,a4⟩
  ·exact⟨rfl,h.t,rfl,fun _=>rfl⟩
 ·exact⟨rfl,h.t,rfl,fun _=>rfl⟩
theorem i8Z{s:cW}{m}(h:bL s.2.1)(hm:bW m)(ht:m.1.1=s.2.1.1.map dJ):zG m (bF s.2.1):=by
 have hb:=aYZ h;refine⟨ht,by rw[hm.n,hb.n,ht];rfl,fun i x y hx hy=> ?_⟩;obtain⟨z,hz⟩:∃z,m.1.1[i]? =some z:=⟨_,ZAC (by rw[<-hm.n];exact(ZAB.1 hx).1)⟩;have a:=hm.s i z x hz hx;have b:=hb.s i z y (by rw[show(bF s.2.1).1.1=m.1.1 from ht.symm];exact hz) hy;omega
def dAt(d:List UInt8)(z:Nat):UInt8:=(d[z]?).getD 0
def byB(M:BM)(q:Nat)(P:List dC)(z:Nat):UInt8:=dAt (blk M (pAt P (z/q))) (z%q)
theorem gLZ(b:List UInt8)(n z):dAt (lT b n) z=if z<n then dAt b z else 0:=by
 unfold dAt lT
 grind
theorem nEZ{l m}{k}(h:m=[]\/k+m.length<=l.length)(z):dAt (bY l k m) z=if k<=z then(m[z-k]?).getD (dAt l z) else dAt l z:=by
 rcases h with rfl|h
 ·rw[hZZ];simp
 unfold dAt;rw[hDZ h]
 grind
def NV(c:bV)(b:List UInt8):List UInt8:=if c.2.2.1=uO 5 then mV b c.2.2.2.2.2.2.2.1 c.2.2.2.2.2.2.2.2.2 else lT b c.2.2.2.2.2.2.2.2.1.toNat
theorem sQZ{c}(h5:c.2.2.1=uO 5)(z)(o):atF c z o=if c.2.2.2.2.2.2.2.1.toNat<=z then(c.2.2.2.2.2.2.2.2.2[z-c.2.2.2.2.2.2.2.1.toNat]?).getD o else o:=by
 simp_all[atF,true_and]
theorem vDZ{c}(h6:c.2.2.1=uO 6)(z)(o):atF c z o=if c.2.2.2.2.2.2.2.2.1<=(z:Int) then 0 else o:=by
 simp_all[atF]
theorem u6Z{c}(b)(hop:c.2.2.1=uO 5\/c.2.2.1=uO 6)(hr:bK c=true)(z):dAt (NV c b) z=atF c z (dAt b z):=by
 unfold NV;by_cases h5:c.2.2.1=uO 5
 ·rw[ZAM h5,sQZ h5];unfold mV;rw[nEZ,gLZ]
  ·unfold dP;by_cases hb:c.2.2.2.2.2.2.2.2.2.length=0
   ·rw[ZBY.1 hb];have:¬z<b.length->dAt b z=0:=fun h=>by unfold dAt;rw[ZAg (by omega)];rfl
    simp_all
   ·rw[ZAK hb];by_cases hz:c.2.2.2.2.2.2.2.1.toNat<=z
    ·rw[ZAM (by omega),ZAM hz];by_cases hzz:z-c.2.2.2.2.2.2.2.1.toNat<c.2.2.2.2.2.2.2.2.2.length
     ·rw[show min c.2.2.2.2.2.2.2.1.toNat (max b.length (c.2.2.2.2.2.2.2.1.toNat+c.2.2.2.2.2.2.2.2.2.length))=c.2.2.2.2.2.2.2.1.toNat by omega,ZAC hzz];rfl
     ·rw[show min c.2.2.2.2.2.2.2.1.toNat (max b.length (c.2.2.2.2.2.2.2.1.toNat+c.2.2.2.2.2.2.2.2.2.length))=c.2.2.2.2.2.2.2.1.toNat by omega,ZAg (by omega)];unfold dAt;split
      ·rfl
      ·rw[ZAg (by omega)];rfl
    ·rw[ZAK (by omega),ZAK hz,ZAM (by omega)]
  ·rw[aRZ];unfold dP;by_cases hb:c.2.2.2.2.2.2.2.2.2.length=0
   ·exact .inl (ZBY.1 hb)
   ·rw[ZAK hb];omega
 ·rw[ZAK h5,vDZ (hop.resolve_left h5),gLZ];by_cases hz:z<c.2.2.2.2.2.2.2.2.1.toNat
  ·rw[ZAM hz,ZAK (by omega)]
  ·rw[ZAK hz,ZAM (by omega)]
theorem pTZ{q i k}(c)(old)(hk:k<q):dAt (fS q c i old) k=atF c (i*q+k) (dAt old k):=by
 have e:(qE q old)[k]? =some (dAt old k):=by
  have h:=gLZ old q k;rw[ZAM hk] at h;unfold qE;rw[mgZ,<-h];unfold dAt;rw[ZAC (by rw[aRZ];exact hk)];rfl
 show((List.mapIdx _ _)[k]?).getD 0=_
 simp_all
theorem t1Z{P}{wh}{a n}{w}{vs}(s):∀k,k<=n->∀i,(wrF (dQ P wh a n w).2.1 vs k s).2[i]? =if a<=i/\i<a+k then(s.2[i]?).map fun _=>(mY P wh a w (i-a),(vs[i-a]?).getD 0) else s.2[i]?
 |0,_,i=>by rw[ZAK (by omega)];rfl
 |k+1,hk,i=>by
  have ih:=t1Z (P:=P) (wh:=wh) (a:=a) (n:=n) (w:=w) (vs:=vs) s k (by omega);unfold wrF;rw[dfZ P wh a w n k (by omega)]
  grind
section
variable {s : cW} {q : Nat} {nx : Int} {M : BM} {n : Int} {c : bV}
theorem rbZ{l}{k m}{bs}{P}(h:∀p∈P,dK p=true\/p.2<=nx)(h0:0<=nx)(hm:m<=k)(z):byB (qG l (eN nx k) bs m M) q P z=byB M q P z:=by
 unfold byB;rw[eBZ _ m hm];rcases pLZ P (z/q) with e|e
 ·simp_all
 ·rcases h _ e with u|u
  ·unfold dK at u;simp[ZBp] at u;omega
  omega
theorem qCZ{p}(h:dK p=true):p=(0,0):=by
 unfold dK at h
 grind
theorem s8Z(h:mG s q nx M n)(h2:(dW s q c).1.1=2){x}(hx:Wri s q c x){b}(hb:∀z,byB M q x.2.2.2.2.2.1 z=dAt b z)(hl:((b.length:Nat):Int)=x.2.2.2.2.1)(z):
 byB (newM s q nx M c) q (wrL s q c (eN nx (cO s q c).length) x).2 z=atF c z (dAt b z):=by
 have hq:=h.ok.q;have hr:=a1Z hx.r;have hsp:=hx.span hq.1;have hxm:=ZAI hx.f.at_;have hP:=h.ok.l _ _ hx.f.at_ hx.f.used hx.f.dir;have hnil:dAt (blk M (0,0)) (z%q)=0:=by rw[h.z];rfl
 obtain⟨P,eP⟩:∃P,x.2.2.2.2.2.1=P:=⟨_,rfl⟩;have e:cO s q c=(dQ P (eU q c) (cY q c) (eK x q c) s.2.1.2).2.1:=by unfold cO;rw[g3Z h2 hx,<-eP];rfl
 have e2:(dW s q c).1.2.2.1=(dQ P (eU q c) (cY q c) (eK x q c) s.2.1.2).2.2:=by rw[g3Z h2 hx,<-eP];rfl
 have hf:=(bjZ P (eU q c) (cY q c) s.2.1.2 (eK x q c)).1;have hlen:(cO s q c).length=eK x q c:=by rw[e];exact hf
 have hat:=t1Z (P:=P) (wh:=eU q c) (a:=cY q c) (w:=s.2.1.2) (vs:=eN nx (cO s q c).length) (s.2.1.2,gK P (jJ x q c)) (eK x q c) (ZAN _) (z/q);have hz:=ZCL z q;have hzq:=ZCc z (show 0<q by omega);rw[ZCN] at hz;rw[<-hb,eP];have hw:(wrL s q c (eN nx (cO s q c).length) x).2=(wrF (dQ P (eU q c) (cY q c) (eK x q c) s.2.1.2).2.1 (eN nx (cO s q c).length) (eK x q c) (s.2.1.2,gK P (jJ x q c))).2:=by unfold wrL lD;rw[eP]
 rw[<-hw] at hat;have hN:x.2.2.2.2.2.1.length<=jJ x q c\/c.2.2.1=uO 6:=by
  refine hx.hop.imp (fun h5=> ?_) id;rw[hP];unfold jJ dN;rw[ZAM h5];exact iEZ (by omega)
 have hcut:(gK P (jJ x q c))[z/q]? =if z/q<jJ x q c then some (pAt P (z/q)) else none:=by
  by_cases hi:z/q<jJ x q c
  ·rw[ZAM hi,nmZ P hi]
  ·rw[ZAK hi,ZAg (by rw[iXZ];omega)]
 have hfar:jJ x q c<=z/q->x.2.2.2.2.2.1.length<=jJ x q c->dAt (blk M (pAt P (z/q))) (z%q)=0:=fun h1 h2=>by
  have:pAt P (z/q)=(0,0):=by unfold pAt;rw[ZAg (by rw[<-eP];omega)];rfl
  rw[this,hnil]
 by_cases hi:cY q c<=z/q/\z/q<cY q c+eK x q c
 ·
  obtain⟨j,hj⟩:∃j,z/q=cY q c+j:=⟨z/q-cY q c,by omega⟩;have hjm:j<eK x q c:=by omega
  have hnd:(cO s q c)[j]? =some (((cY q c+j:Nat):Int),(pAt P (cY q c+j),mY P (eU q c) (cY q c) s.2.1.2 j)):=by rw[e];exact dfZ _ _ _ _ _ _ hjm
  rw[ZAM hi,hcut,ZAM (by have:=hsp (by omega);omega)] at hat;have hp:pAt (wrL s q c (eN nx (cO s q c).length) x).2 (z/q)=(mY P (eU q c) (cY q c) s.2.1.2 j,nx+(j:Int)+1):=by
   unfold pAt;rw[hat,ZBS,show z/q-cY q c=j by omega,d6Z (by omega)];rfl
  unfold byB;rw[hp];unfold newM;rw[j1Z hnd _ (by omega) (ZAN _),neZ hnd (by rw[ZAW,hnd];rfl)];simp only[ZCR,ZBW];rw[pTZ c _ hzq,show(cY q c+j)*q+z%q=z from by rw[<-hj];exact hz,show pAt P (z/q)=pAt P (cY q c+j) from by rw[hj]];unfold nW;by_cases hin:inB (dW s q c).1.2.2.1 (((cY q c+j:Nat):Int),(pAt P (cY q c+j),mY P (eU q c) (cY q c) s.2.1.2 j))=true
  ·rw[ZAM hin]
  ·rw[ZAK hin];cases hh:dK (pAt P (cY q c+j)) with
   |true=>rw[qCZ hh,h.z]
   |false=>
    cases hwh:eU q c (cY q c+j) with
    |false=>
     refine absurd ?_ hin;rw[r9Z,e2,g1Z];exact⟨j,hjm,by unfold mY;rw[hh];rfl,hh,hwh⟩
    |true=>
     unfold eU at hwh;by_cases h5:c.2.2.1=uO 5
     ·rw[ZAM h5] at hwh;unfold fF at hwh;simp only[ZAE,ZAp,<-hj,ZAn] at hwh;rw[sQZ h5,sQZ h5,ZAM (by omega),ZAM (by omega),ZAC (by omega)]
      rfl
     ·rw[ZAK h5] at hwh;cases hwh
 ·rw[ZAK hi,hcut] at hat;have hp:byB (newM s q nx M c) q (wrL s q c (eN nx (cO s q c).length) x).2 z=if z/q<jJ x q c then byB M q P z else 0:=by
   have hold:=rbZ (q:=q) (nx:=nx) (M:=M) (l:=cO s q c) (k:=(cO s q c).length) (m:=(cO s q c).length) (bs:=iE q c (cO s q c) ((cO s q c).map (nW (dW s q c).1.2.2.1 M))) (P:=P) (fun p hp=>(h.v x hxm p (eP▸hp)).imp id And.left) h.x.1 (ZAN _) z;split
   ·rename_i hlt;rw[ZAM hlt] at hat;rw[<-hold];show dAt (blk _ (pAt _ _)) _=dAt (blk _ (pAt _ _)) _;rw[show pAt (wrL s q c (eN nx (cO s q c).length) x).2 (z/q)=pAt P (z/q) from by unfold pAt at*;rw[hat];rfl]
    rfl
   ·rename_i hlt;rw[ZAK hlt] at hat;unfold byB newM;rw[show pAt (wrL s q c (eN nx (cO s q c).length) x).2 (z/q)=(0,0) from by unfold pAt;rw[hat];rfl,eBZ h.x.1 _ (ZAN _),hnil]
  rw[hp];have hbz:=hb z;rw[eP] at hbz;by_cases h5:c.2.2.1=uO 5
  ·
   rw[sQZ h5];have:(if c.2.2.2.2.2.2.2.1.toNat<=z then(c.2.2.2.2.2.2.2.2.2[z-c.2.2.2.2.2.2.2.1.toNat]?).getD (byB M q P z) else byB M q P z)=byB M q P z:=by
    split
    ·rename_i h9;rw[ZAg]
     ·rfl
     ·unfold cY eK at hi;rw[ZAM h5,ZAM h5] at hi;by_cases h0:c.2.2.2.2.2.2.2.2.2.length=0
      ·omega
      ·rw[ZAK h0] at hi;refine Nat.le_of_not_lt fun hlt=>hi ⟨ZCJ h9,?_⟩;have:=nbZ (q:=q) (a:=c.2.2.2.2.2.2.2.1.toNat) (b:=c.2.2.2.2.2.2.2.1.toNat+c.2.2.2.2.2.2.2.2.2.length) (by omega) (by omega);have:z/q<(c.2.2.2.2.2.2.2.1.toNat+c.2.2.2.2.2.2.2.2.2.length+q-1)/q:=(hoZ (by omega)).2 (by omega);omega
    ·rfl
   rw[this];split
   ·rfl
   ·exact(hfar (by omega) (hN.resolve_right (by rw[h5];decide))).symm
  ·have h6:=hx.hop.resolve_left h5;rw[vDZ h6];have hnn:jJ x q c=(c.2.2.2.2.2.2.2.2.1.toNat+q-1)/q:=by unfold jJ dN;rw[ZAK h5]
   by_cases hzn:c.2.2.2.2.2.2.2.2.1<=(z:Int)
   ·rw[ZAM hzn];split
    ·rename_i hlt;rw[hnn,hoZ (by omega)] at hlt;have hd:c.2.2.2.2.2.2.2.2.1.toNat/q=z/q:=Nat.le_antisymm (ZCJ (by omega)) ((Nat.le_div_iff_mul_le (by omega)).2 (by omega));unfold cY eK at hi;rw[ZAK h5,ZAK h5,hd] at hi;split at hi
     ·omega
     ·rename_i hno;have hm:c.2.2.2.2.2.2.2.2.1.toNat%q≠0:=fun h0=>by
       have:=ZCL c.2.2.2.2.2.2.2.2.1.toNat q;rw[hd,h0,ZCN] at this;omega
      cases hh:dK (pAt P (z/q)) with
      |true=>unfold byB;rw[qCZ hh,hnil]
      |false=>
       have:¬c.2.2.2.2.2.2.2.2.1<x.2.2.2.2.1:=fun hlt=>hno ⟨hlt,hm,by rw[eP];exact hh⟩;rw[hbz];unfold dAt;rw[ZAg (by omega)];rfl
    ·rfl
   ·rw[ZAK hzn,ZAM];rw[hnn,hoZ (by omega)];omega
end
theorem rWZ(t:dH):∃b,qR bB t=some b/\(b=false->t.1.length<=40/\∀n∈t.1,n.2.2.2.2.2.1.length<=120/\n.2.2.2.2.2.2.2.length<=120):=by
 unfold qR;by_cases h0:t.1.length>40
 ·rw[show decide (((t.1.length:Nat):Int)>40)=true from by simp;omega];exact⟨true,rfl,by simp⟩
 rw[show decide (((t.1.length:Nat):Int)>40)=false from by simp;omega];have loop:∃o,kJ bB t (0,(t.1,t.2))=some o/\((o= .inl ()/\∀n∈t.1,n.2.2.2.2.2.1.length<=120/\n.2.2.2.2.2.2.2.length<=120)\/o= .inr true):=by
  unfold kJ;refine aAZ (fun m s=>∃(k:Nat),s=((k:Int),(t.1,t.2))/\k+m=t.1.length/\∀(i) n,i<k->t.1[i]? =some n->n.2.2.2.2.2.1.length<=120/\n.2.2.2.2.2.2.2.length<=120) _ (fun m s hI=> ?_) (fun s hI=> ?_) t.1.length _ (by omega) ⟨0,rfl,by omega,fun i n h=>absurd h (ZBf _)⟩
  ·obtain⟨k,rfl,hk,g1⟩:=hI;have hlt:k<t.1.length:=by omega
   obtain⟨n,hg⟩:∃n,t.1[k]? =some n:=⟨_,ZAC hlt⟩;unfold oF;simp only[aDZ hlt];rw[adZ hlt];simp only[ZAA,hg];by_cases h1:n.2.2.2.2.2.1.length>120
   ·rw[show decide (((n.2.2.2.2.2.1.length:Nat):Int)>120)=true from by simp;omega];exact .inr ⟨_,rfl,.inr rfl⟩
   rw[show decide (((n.2.2.2.2.2.1.length:Nat):Int)>120)=false from by simp;omega,ZAD,ZAA];by_cases h2:n.2.2.2.2.2.2.2.length>120
   ·rw[show decide (((n.2.2.2.2.2.2.2.length:Nat):Int)>120)=true from by simp;omega];exact .inr ⟨_,rfl,.inr rfl⟩
   rw[show decide (((n.2.2.2.2.2.2.2.length:Nat):Int)>120)=false from by simp;omega];simp only;rw[adZ hlt];simp only[ZAA,hg];have inner:∃o,kI bB n (k:Int) (0,(t.1,t.2))=some o/\(o= .inl (t.1,t.2)\/o= .inr (.inr (.inr true))):=by
    unfold kI;refine aAZ (fun m s=>∃(j:Nat),s=((j:Int),(t.1,t.2))/\j+m=n.2.2.2.2.2.2.2.length) _ (fun m s hI=> ?_) (fun s hI=> ?_) n.2.2.2.2.2.2.2.length _ (by omega) ⟨0,rfl,by omega⟩
    ·obtain⟨j,rfl,hj⟩:=hI;have hjl:j<n.2.2.2.2.2.2.2.length:=by omega
     obtain⟨e,he⟩:∃e,n.2.2.2.2.2.2.2[j]? =some e:=⟨_,ZAC hjl⟩;unfold oE;simp only[aDZ hjl,ZAL];rw[adZ hlt];simp only[ZAA,hg];rw[adZ hjl];simp only[ZAA,he];by_cases h3:e.1.length>3000
     ·rw[show decide (((e.1.length:Nat):Int)>3000)=true from by simp;omega];exact .inr ⟨_,rfl,.inr rfl⟩
     ·rw[show decide (((e.1.length:Nat):Int)>3000)=false from by simp;omega,w64 (by omega)];exact .inl ⟨_,rfl,j+1,by simp,by omega⟩
    ·obtain⟨j,rfl,hj⟩:=hI;have:=by omega
     subst this;unfold oE;simp only[aEZ (ZAz _),ZAD];exact⟨_,rfl,.inl rfl⟩
   let⟨o,ho,hq⟩:=inner
   rw[ho,ZAA];rcases hq with rfl|rfl
   ·rw[w64 (by omega)];refine .inl ⟨_,rfl,k+1,by simp,by omega,fun i n' hi hg'=> ?_⟩;by_cases hik:i=k
    ·subst hik;rw[hg] at hg';cases hg';omega
    ·exact g1 i n' (by omega) hg'
   ·exact .inr ⟨_,rfl,.inr rfl⟩
  ·obtain⟨k,rfl,hk,g1⟩:=hI;have:k=t.1.length:=by omega
   subst this;unfold oF;simp only[aEZ (ZAz _),ZAD];refine⟨_,rfl,.inl ⟨rfl,fun n hn=> ?_⟩⟩
   let⟨i,hi⟩:=ZAR hn
   exact g1 i n (ZAB.1 hi).1 hi
 let⟨o,ho,hq⟩:=loop
 rw[ho,ZAA];rcases hq with⟨rfl,hq⟩|rfl<;>grind
theorem rpZ(c:bV):jO bB c (0,(0,(0,((0,0),(false,(0,([],([],(false,0)))))))))=some true\/jO bB c (0,(0,(0,((0,0),(false,(0,([],([],(false,0)))))))))=some false:=by
 unfold jO Pa Pb Pc Pd Pf Pg PC PH;have it:∀o,o.2.2.2.2.2.2.2.2.2.1=[]->∀s,nL bB o (0,s)=some (.inl ()):=by
  intro o ho s;refine i6Z ?_;unfold rV;rw[ho]
  rfl
 grind
theorem uGZ{m}(h:bW m):∃b,jY bB m=some b:=by
 unfold jY
 let⟨b,hb,_⟩:=rWZ m.1
 rw[hb];cases b with
 |true=>simp_all
 |false=>
  simp only[ZAA];by_cases h60:((m.2.length:Nat):Int)>60
  ·simp_all
  ·rw[ZAF h60];simp only[ZAD];have loop:∃o,iY bB (false,(m.1.1,(m.1.2,m.2))) (0,(0,(m.1.1,(m.1.2,m.2))))=some o/\True:=by
    unfold iY;refine aAZ (fun r s=>∃(k:Nat) (n:Int),s=(n,((k:Int),(m.1.1,(m.1.2,m.2))))/\k+r=m.2.length/\0<=n/\n<=65536*k) _ (fun r s hI=> ?_) (fun s hI=> ?_) m.2.length _ (by have:=h.n;omega) ⟨0,0,rfl,by omega,by omega,by omega⟩
    ·obtain⟨k,n,rfl,hk,h0,h1⟩:=hI;have hlt:k<m.2.length:=by omega
     obtain⟨b,hb⟩:∃b,m.2[k]? =some b:=⟨_,ZAC hlt⟩;have:=h.byt hb;unfold lL;simp only[aDZ hlt];rw[adZ hlt,ZAA,hb,ZAA,w64 (by omega),w64 (by omega)];exact .inl ⟨_,rfl,k+1,_,rfl,by omega,by omega,by omega⟩
    ·obtain⟨k,n,rfl,hk,h0,h1⟩:=hI;have:k=m.2.length:=by omega
     subst this;unfold lL;simp only[aEZ (ZAz _)];exact⟨_,rfl,trivial⟩
   grind
def M0:Mod:=(([(1,1,true,true,0,[],1,[])],0),[[]])
theorem vvZ:bW M0:=by
 refine⟨t0Z,rfl,fun i x hx=> ?_,fun i x b hx hb=> ?_⟩
 ·cases i with
  |zero=>simp[M0] at hx;subst hx;rfl
  |succ i=>simp[M0] at hx
 grind[M0]
theorem vTZ:nK bB=some (M0.1.2,(M0.1.1,M0.2)):=by kernel_rfl
def cA:bV:=(0,(1,(uO 2,((1,1),([102],((0,0),([],(0,(0,[])))))))))
def MA:Mod:=(([(1,1,true,true,0,[],1,[([102],2)]),(2,1,true,false,0,[],1,[])],0),[[],[]])
def cB:bV:=(0,(1,(uO 5,((2,1),([],((0,0),([],(2,(0,[uO 97,uO 98,uO 99])))))))))
def MB:Mod:=(([(1,1,true,true,0,[],1,[([102],2)]),(2,1,true,false,5,[],1,[])],0),[[],[0,0,97,98,99]])
def cC:bV:=(0,(1,(uO 4,((2,1),([],((0,0),([],(0,(9,[])))))))))
def cD:bV:=(0,(1,(uO 6,((2,1),([],((0,0),([],(0,(3,[])))))))))
def MD:Mod:=(([(1,1,true,true,0,[],1,[([102],2)]),(2,1,true,false,3,[],1,[])],0),[[],[0,0,97]])
def cE:bV:=(0,(1,(uO 6,((2,1),([],((0,0),([],(0,(5,[])))))))))
def ME:Mod:=(([(1,1,true,true,0,[],1,[([102],2)]),(2,1,true,false,5,[],1,[])],0),[[],[0,0,97,0,0]])
def cG:bV:=(0,(1,(uO 12,((0,0),([],((0,0),([],(0,(0,[])))))))))
theorem x1:bN M0 cA=(MA,0,((2,1),false,0,[],[],false,0)):=by kernel_rfl
theorem x2:bN MA cB=(MB,0,((2,1),false,5,[],[],false,0)):=by kernel_rfl
theorem x3:bN MB cC=(MB,0,((0,0),false,5,[0,0,97,98,99],[],false,0)):=by kernel_rfl
theorem x4:bN MB cD=(MD,0,((2,1),false,3,[],[],false,0)):=by kernel_rfl
theorem x5:bN MD cE=(ME,0,((2,1),false,5,[],[],false,0)):=by kernel_rfl
theorem x6:bN ME cC=(ME,0,((0,0),false,5,[0,0,97,0,0],[],false,0)):=by kernel_rfl
theorem x7:bN ME cG=(ME,0,((0,0),false,0,[],[],false,498)):=by kernel_rfl
theorem poZ{m:Mod}(h:bW m):kC m.1.1 m.2=m.2:=by
 refine ZA8 fun i=> ?_;by_cases hi:i<m.1.1.length
 ·obtain⟨x,hx⟩:∃x,m.1.1[i]? =some x:=⟨_,ZAC hi⟩;obtain⟨b,hb,hs,_⟩:=h.at hx;rw[dvZ _ hx,hb];cases hu:x.2.2.1 with
  |true=>rfl
  |false=>
   rw[((h.t.r.ino i x hx).bare hu).2.1] at hs;have:b=[]:=ZAY (by omega);rw[this];rfl
 ·rw[ZAg (by rw[ghZ];omega),ZAg (by rw[h.n];omega)]
def NW(o:UInt8):Bool:=o==uO 1||o==uO 4||o==uO 10||o==uO 11||o==uO 12
theorem vcZ{m:Mod}{c:bV}(ha:NW c.2.2.1=true):(cL m c).2.1=m:=by
 unfold NW at ha;simp only[ZA3,ZBp] at ha;unfold cL;rcases ha with(((hk|hk)|hk)|hk)|hk<;>rw[hk]
 ·show(jE m c).2.1=m;unfold jE;(repeat' split)<;>rfl
 ·show(jL m c).2.1=m;unfold jL;(repeat' split)<;>rfl
 ·rfl
 ·show(rP m c).2.1=m;unfold rP;(repeat' split)<;>rfl
 ·rfl
theorem uWZ{m:Mod}(h:bW m){c:bV}(ha:NW c.2.2.1=true):(bN m c).1=m:=by
 unfold bN;split
 ·split
  ·rw[vcZ ha];show(m.1,kC m.1.1 m.2)=m;rw[poZ h]
  ·rfl
 ·rfl
theorem rIZ(m:Mod)(c:bV):(zC m c).2.2.2.2.2.2.1.length<=4096:=by
 show(uS m.1 c.2.2.2.1 c.2.2.2.2.1 c.2.2.2.2.2.2.2.2.1).2.2.length<=4096;unfold uS;by_cases h1:fB m.1.1 c.2.2.2.1=0
 ·rw[ZAM h1];by_cases h2:c.2.2.2.2.2.2.2.2.1<0\/c.2.2.2.2.2.2.2.2.1>4096
  ·rw[ZAM h2];simp
  ·rw[ZAK h2];cases m.1.1[(c.2.2.2.1.1-1).toNat]? with
   |none=>simp
   |some n=>simp only[ZAS];omega
 ·rw[ZAK h1];simp
theorem tkZ(m:Mod)(c:bV):(cL m c).2.2.2.2.2.2.1.length<=4096:=by
 unfold cL;by_cases h1:c.2.2.1=uO 1
 ·rw[ZAM h1];rw[(mdZ m c).2];simp
 rw[ZAK h1];by_cases h2:c.2.2.1=uO 2
 ·rw[ZAM h2];rw[(fbZ m c).2];simp
 rw[ZAK h2];by_cases h3:c.2.2.1=uO 3
 ·rw[ZAM h3];rw[(fbZ m c).2];simp
 rw[ZAK h3];by_cases h4:c.2.2.1=uO 4
 ·rw[ZAM h4];rw[q5Z m c];simp
 rw[ZAK h4];by_cases h5:c.2.2.1=uO 5
 ·rw[ZAM h5];rw[(iGZ m c).2];simp
 rw[ZAK h5];by_cases h6:c.2.2.1=uO 6
 ·rw[ZAM h6];rw[(lWZ m c).2];simp
 rw[ZAK h6];by_cases h7:c.2.2.1=uO 7
 ·rw[ZAM h7];rw[(cEZ m c).2];simp
 rw[ZAK h7];by_cases h8:c.2.2.1=uO 8
 ·rw[ZAM h8];rw[(cEZ m c).2];simp
 rw[ZAK h8];by_cases h9:c.2.2.1=uO 9
 ·rw[ZAM h9];rw[(gOZ m c).2];simp
 rw[ZAK h9];by_cases h10:c.2.2.1=uO 10
 ·rw[ZAM h10];exact rIZ m c
 rw[ZAK h10];by_cases h11:c.2.2.1=uO 11
 ·rw[ZAM h11];rw[(rEZ m c).2];simp
 rw[ZAK h11];by_cases h12:c.2.2.1=uO 12
 ·rw[ZAM h12];simp[AL]
 rw[ZAK h12];simp[kR]
theorem sZZ(m:Mod)(c:bV):(bN m c).2.2.2.2.2.2.1.length<=4096:=by
 unfold bN;split
 ·split
  ·exact tkZ m c
  ·simp[kR]
 ·simp[kR]
theorem rlZ{q fr a}{bs}(hq:1<=q)(hb:∀b∈bs,b.length<=q)(o):∀j t,(nV q fr a bs j o)[t]? =(o[t]?).map fun y=>if a<=(fr+t)/q/\(fr+t)/q<a+j then(((bs[(fr+t)/q-a]?).getD [])[(fr+t)%q]?).getD y else y
 |0,t=>by
  simp_all[nV,ZAK]
 |j+1,t=>by
  unfold nV;rw[dJZ,rlZ hq hb o j t];cases o[t]? with
  |none=>rfl
  |some y=>
   have h1:=ZCL (fr+t) q;have h2:=ZCc (fr+t) (show 0<q by omega);rw[ZCN] at h1;generalize (fr+t)/q=u at*;generalize (fr+t)%q=r at*;rcases ZCd u (a+j) with h|h|h
   ·have:=ZAd q h
    grind
   ·grind
   ·have:=ZAd q h
    grind
section
variable {s : cW} {q : Nat} {nx : Int} {M : BM} {n : Int} {c : bV} {m : Mod}
theorem u8Z(h:mG s q nx M n){x}(hx:jH s c x)(hr:bK c=true){b}(hb:∀z,byB M q x.2.2.2.2.2.1 z=dAt b z)(hl:((b.length:Nat):Int)=x.2.2.2.2.1):
 FF q (min x.2.2.2.2.1.toNat c.2.2.2.2.2.2.2.1.toNat/q) x.2.2.2.2.1.toNat c (zF M (gV x q c))=FD b c.2.2.2.2.2.2.2.1 c.2.2.2.2.2.2.2.2.1:=by
 have hlim:=a1Z hr;have hq:=h.ok.q;unfold FF FD;refine ZA8 fun t=> ?_;rw[rlZ (by omega) (fun b hb=>by
  obtain⟨nd,_,rfl⟩:=ZBc.1 hb;have:=h.b nd.2.1;omega),ZAy,ZAo,List.getElem?_replicate,<-hl]
 simp only[ZBW];by_cases ht:t<min (b.length-min c.2.2.2.2.2.2.2.1.toNat b.length) c.2.2.2.2.2.2.2.2.1.toNat
 ·have hlt:min c.2.2.2.2.2.2.2.1.toNat b.length+t<b.length:=by omega
  rw[ZAM ht,ZAM (by omega),ZBS,ZAC hlt,Nat.min_comm b.length];have hd:=hb (min c.2.2.2.2.2.2.2.1.toNat b.length+t);unfold dAt at hd;rw[ZAC hlt] at hd;have hd:=hd.symm;rw[show(some b[min c.2.2.2.2.2.2.2.1.toNat b.length+t]).getD 0=b[min c.2.2.2.2.2.2.2.1.toNat b.length+t] from rfl] at hd;rw[hd];have h1:min c.2.2.2.2.2.2.2.1.toNat b.length/q<=(min c.2.2.2.2.2.2.2.1.toNat b.length+t)/q:=ZCJ (by omega);have h2:(min c.2.2.2.2.2.2.2.1.toNat b.length+t)/q<(min b.length (c.2.2.2.2.2.2.2.1.toNat+c.2.2.2.2.2.2.2.2.1.toNat)+q-1)/q:=(hoZ (by omega)).2 (by
   have:=Nat.div_mul_le_self (min c.2.2.2.2.2.2.2.1.toNat b.length+t) q;omega)
  have hbs:(zF M (gV x q c))[(min c.2.2.2.2.2.2.2.1.toNat b.length+t)/q-min c.2.2.2.2.2.2.2.1.toNat b.length/q]? =some (blk M (pAt x.2.2.2.2.2.1 ((min c.2.2.2.2.2.2.2.1.toNat b.length+t)/q))):=by
   unfold zF gV kS;rw[ZAM (by omega),<-hl];simp only[ZBW,Nat.min_comm b.length c.2.2.2.2.2.2.2.1.toNat,ZAW];rw[ZCm (by omega),ZBS,ZBS,show min c.2.2.2.2.2.2.2.1.toNat b.length/q+((min c.2.2.2.2.2.2.2.1.toNat b.length+t)/q-min c.2.2.2.2.2.2.2.1.toNat b.length/q)=(min c.2.2.2.2.2.2.2.1.toNat b.length+t)/q by omega]
  have hlen:=(ZAB.1 hbs).1;rw[ZAM ⟨h1,by omega⟩,hbs]
  rfl
 grind
structure Rel (s:cW) (q:Nat) (M:BM) (m:Mod):Prop where
 ok:bW m
 t:m.1.1=s.2.1.1.map dJ
 b:∀(i:Nat) x d,s.2.1.1[i]? =some x->m.2[i]? =some d->∀z,byB M q x.2.2.2.2.2.1 z=dAt d z
theorem Rel.file(R:Rel s q M m){x}(hx:jH s c x):∃b,m.1.1[atC c]? =some (dJ x)/\m.2[atC c]? =some b/\cV m c.2.2.2.1=(c.2.2.2.1.1,b,0)/\((b.length:Nat):Int)=x.2.2.2.2.1/\∀z,byB M q x.2.2.2.2.2.1 z=dAt b z:=by
 have hb0:m.1.1[(c.2.2.2.1.1-1).toNat]? =some (dJ x):=by rw[R.t,ZAW,hx.at_];rfl
 obtain⟨b,hb,hl,_⟩:=R.ok.at hb0;refine⟨b,hb0,hb,?_,hl,R.b _ _ _ hx.at_ hb⟩;unfold cV;rw[cgZ.2 (show IsH m.1.1 c.2.2.2.1 (dJ x) from⟨hx.h1,hb0,hx.used,hx.gen⟩)];simp only;rw[show(dJ x).2.2.2.1=false from hx.dir,hb];rfl
theorem uYZ(h:mG s q nx M n)(R:Rel s q M m)(hr:bK c=true):AM s q M c=kE c (bN m c):=by
 let⟨e1,_,e3,e4⟩:=(i8Z h.ok.t R.ok R.t).res c
 by_cases h4:c.2.2.1=uO 4/\(bN (bF s.2.1) c).2.1=0
 ·let⟨x,hx⟩:=uUZ hr h4.1 h4.2
  let⟨b,_,_,hf,hl,hb⟩:=R.file hx
  have hby:(bN m c).2.2.2.2.2.1=FD b c.2.2.2.2.2.2.2.1 c.2.2.2.2.2.2.2.2.1:=by
   unfold bN;rw[ZAM hr,act4 h4.1];unfold jL;rw[hf]
   rfl
  unfold AM;rw[ZAM h4,hx.p,u8Z h hx hr hb hl,<-hby];unfold JU at e3;simp only[ZA0] at e3;unfold NT dL kE;simp only[e1,e3]
 ·unfold AM dL kE;rw[ZAK h4];have:(bN (bF s.2.1) c).2.2=(bN m c).2.2:=by
   by_cases h5:c.2.2.1=uO 4
   ·have h0:=fun z=>h4 ⟨h5,z⟩;rw[(lMZ hr h0).2,(lMZ hr (e1▸h0)).2]
   ·exact(e4 h5).symm
  rw[this,e1]
theorem uoZ(h:blk M (0,0)=[])(z):byB M q [] z=0:=by
 show dAt (blk M (0,0)) _=0;rw[h];rfl
theorem saZ(hop:¬(c.2.2.1=uO 5\/c.2.2.1=uO 6)):(cL m c).2.1.2=m.2:=by
 have k1:(jE m c).2.1.2=m.2:=by unfold jE;(repeat' split)<;>rfl
 have k2:(gJ m c).2.1.2=m.2:=by unfold gJ;split<;>rfl
 have k3:(jL m c).2.1.2=m.2:=by unfold jL;split<;>rfl
 have k4:(dI m c).2.1.2=m.2:=by unfold dI;split<;>rfl
 have k5:(eV m c).2.1.2=m.2:=by unfold eV;split<;>rfl
 have k6:(rP m c).2.1.2=m.2:=by unfold rP;split<;>rfl
 unfold cL;rw[ZAK fun h:c.2.2.1=uO 5=>hop (.inl h),ZAK fun h:c.2.2.1=uO 6=>hop (.inr h)];simp[apply_ite (fun q:DoR=>q.2.1.2),k1,k2,k3,k4,k5,k6,show(zC m c).2.1.2=m.2 from rfl,show(AL m).2.1.2=m.2 from rfl,ite_self]
theorem u2Z(hr:bK c=true)(h:(bN m c).2.1=0):(bN m c).1=((cL m c).2.1.1,kC (cL m c).2.1.1.1 (cL m c).2.1.2):=by
 simp_all[bN,res0]
theorem hJZ{l}{P}(h:∀(i:Nat) y,l[i]? =some y->y.2.2.2.2.2.1=[]):(dG l P).map dJ=l:=by
 refine ZA8 fun i=> ?_;unfold dG;rw[ZAW,ZCI];cases hy:l[i]? with
 |none=>rfl
 |some y=>rw[ZBS,ZBS,show dJ (oT y (P i))=y from by unfold dJ oT;simp[<-h i y hy]]
theorem j5Z{M'}{s'}{n' nx'}(S:mG s' q nx' M' n')(R:Rel s q M m)(hold:∀r∈s.2.1.1,∀z,byB M' q r.2.2.2.2.2.1 z=byB M q r.2.2.2.2.2.1 z)(hm:bW (bN m c).1){l0}(hd:(bN m c).1.2=kC (bN m c).1.1.1 l0){i:Nat}(hi:l0[i]? =m.2[i]?)
 (st:∀y,(bN m c).1.1.1[i]? =some y->y.2.2.1=true->(∃x,s.2.1.1[i]? =some x/\x.2.1=y.2.1)\/(y.2.2.2.2.1=0/\∀x,s.2.1.1[i]? =some x->x.2.1≠y.2.1))
 {y}{d:List UInt8}(hy:(bN m c).1.1.1[i]? =some y)(h2:(bN m c).1.2[i]? =some d)(z):byB M' q (cN s.2.1.1 (bN m c).1.1.1 i) z=dAt d z:=by
 have hl:=hm.s i y d hy h2;rw[hd,dvZ _ hy] at h2;obtain rfl:=ZAf h2;have nil:∀e:cN s.2.1.1 (bN m c).1.1.1 i=[],(bif y.2.2.1 then(l0[i]?).getD [] else[])=[]->byB M' q (cN s.2.1.1 (bN m c).1.1.1 i) z=dAt (bif y.2.2.1 then(l0[i]?).getD [] else[]) z:=fun e1 e2=>by rw[e1,e2,uoZ S.z];rfl
 cases hu:y.2.2.1 with
 |false=>
  rw[hu] at nil;exact nil (cWZ hy fun z=>by rw[hu] at z;cases z) rfl
 |true=>
  rw[hu] at nil hl;rcases st y hy hu with⟨r,hr,hg⟩|⟨y0,hno⟩
  ·rw[dBZ hr hy hu hg,hold r (ZAI hr),hi];obtain⟨b,hb,_⟩:=R.ok.at (by rw[R.t,ZAW,hr];rfl);rw[R.b i r b hr hb,hb];rfl
  ·refine nil (cWZ hy fun _=>hno) (ZBY.1 ?_);omega
theorem Rel.next(h:mG s q nx M n)(R:Rel s q M m)(hr:bK c=true)(ha:jG c.2.2.1=false)(hn:n<c.2.1/\c.2.1<=30){s'}(N:Next s q c (eN nx (cO s q c).length) s'):Rel s' q (newM s q nx M c) (bN m c).1:=by
 let⟨e1,e2,_,_⟩:=(i8Z h.ok.t R.ok R.t).res c
 have S:=h.next hr ha hn N;have A2:=(qKZ h hr ha hn.1).1.two;have hm:=hyZ R.ok c;have tr:=N.tree;unfold wB at tr;by_cases h0:(bN (bF s.2.1) c).2.1=0
 ·have hm0:=e1.trans h0;have rp:=u2Z hr hm0;rw[ZAM h0] at tr;by_cases hop:c.2.2.1=uO 5\/c.2.2.1=uO 6
  ·obtain⟨x,hx⟩:=mFZ hr hop h0;obtain⟨b,_,hb,hf,hl,hbz⟩:=R.file hx.f;have hw:=s8Z h A2 hx hbz hl;obtain⟨r1,_,_,r4⟩:=e3Z h.ok.t hr hop h0 hx.f;have eL:(bN m c).1.1.1=l1W s c x:=by rw[e2,r1];rfl
   have hd:(cL m c).2.1.2=m.2.set (atC c) (NV c b):=by
    unfold NV;by_cases h5:c.2.2.1=uO 5
    ·rw[act5 h5,ZAM h5];unfold iL;rw[hf,ZAM rfl,ZAK (by have:=hx.b5 h5;omega)];rfl
    ·have h6:=hop.resolve_left h5;rw[act6 h6,ZAK h5];unfold dN at r4;rw[ZAK h5] at r4;unfold lU;rw[hf,ZAM rfl,ZAK (by omega)];rfl
   have hd2:(bN m c).1.2=kC (bN m c).1.1.1 (m.2.set (atC c) (NV c b)):=by rw[rp,<-hd]
   rw[ZAM hop,hx.f.p] at tr;have hnil:=fun i y hy=>hm.p i y (by rw[eL];exact hy);refine⟨hm,?_,fun i x' d hx' hd' z=> ?_⟩
   ·rw[tr,eL];unfold lW;rw[List.map_set,hJZ hnil];refine ZA8 fun i=> ?_;by_cases hi:atC c=i
    ·subst hi;rw[ZAQ (ZAB.1 (ebZ hx)).1,ebZ hx];rfl
    ·rw[ZAX hi]
   ·rw[tr] at hx';unfold lW at hx';by_cases hi:atC c=i
    ·subst hi;rw[ZAQ (by rw[bHZ];exact(ZAB.1 (ebZ hx)).1)] at hx';obtain rfl:=ZAf hx';rw[hd2,dvZ _ (by rw[eL];exact ebZ hx),show(wS (dJ x) (dN x c)).2.2.1=true from hx.f.used,ZAQ (ZAB.1 hb).1] at hd';obtain rfl:=ZAf hd';exact(hw z).trans (u6Z b hop hr z).symm
    ·rw[ZAX hi] at hx';obtain⟨y,hy,rfl⟩:=aXZ hx';rw[<-eL] at hy⊢;refine j5Z S R (fun r hr z=>rbZ (fun p hp=>(h.v r hr p hp).imp id And.left) h.x.1 (ZAN _) z) hm hd2 (ZAX hi) (fun y hy hu=> ?_) hy hd' z;rw[eL] at hy;obtain⟨r,hr,⟨rfl,_⟩|⟨_,rfl⟩⟩:=mjZ hx hy
     ·exact absurd rfl hi
     ·exact .inl ⟨r,hr,rfl⟩
  ·rw[ZAK hop,<-e2] at tr;have eM:newM s q nx M c=M:=by
    unfold newM cO;rw[rNZ A2 fun z=>hop z.2]
    rfl
   rw[eM] at S⊢;refine⟨hm,by rw[tr,hJZ hm.p],fun i x d hx hd z=> ?_⟩;rw[tr] at hx;obtain⟨y,hy,rfl⟩:=aXZ hx;refine j5Z S R (fun _ _ _=>rfl) hm (by rw[rp,saZ hop]) rfl (fun y hy hu=> ?_) hy hd z;rcases(iIZ c fun _=>hop).1.at_ i y hy hu with⟨x,hx,_,hg,_⟩|⟨y0,hno⟩
   ·rw[R.t,ZAW] at hx;obtain⟨r,hr,rfl⟩:=ZAH.1 hx;exact .inl ⟨r,hr,hg⟩
   ·exact .inr ⟨y0,fun r hr=>hno (dJ r) (by rw[R.t,ZAW,hr];rfl)⟩
 ·rw[ZAK h0] at tr;have eM:newM s q nx M c=M:=by
   unfold newM cO;rw[rNZ A2 fun z=>h0 z.1]
   rfl
  have em:(bN m c).1=m:=by
   have:=e1▸h0;unfold bN at this⊢;rw[ZAM hr] at this⊢;split
   ·rename_i z;rw[ZAM z] at this;exact absurd rfl this
   ·rfl
  rw[eM,em];exact⟨R.ok,by rw[tr];exact R.t,by rw[tr];exact R.b⟩
theorem vEZ{o}(h:jG o=true):NW o=true:=by
 unfold jG at h;unfold NW;simp[ZBp] at*;have e:o=uO o.toNat:=by simp
 rcases h with h|h|h|h|h<;>rw[h] at e<;>simp[e]
theorem vbZ(h:mG s q nx M n)(R:Rel s q M m)(hn:n<c.2.1/\c.2.1<=30){r}{s'}{nx'}{M'}(D:vH s q nx M c r s' nx' M'):r=kE c (bN m c)/\Rel s' q M' (bN m c).1:=by
 cases D with
 |bad hr=>
  have e:bN m c=(m,179,kR):=by unfold bN;rw[hr];rfl
  rw[e];exact⟨rfl,R⟩
 |tell hr ha=>
  rw[uWZ R.ok (vEZ ha)];exact⟨uYZ h R hr,R⟩
 |done hr ha N=>
  refine⟨?_,R.next h hr ha hn N⟩
  let⟨e1,_,_,e4⟩:=(i8Z h.ok.t R.ok R.t).res c
  unfold dL kE;rw[e1,e4 fun z=>by rw[z] at ha;cases ha]
end
def g0(k:Int):cW:=(0,(M0.1,((k,[]),(pl3,[]))))
theorem uIZ{k}{q}(hk:1<=k/\k<=100)(hq:16<=q/\q<=65):vQ (g0 k) q:=by
 refine⟨by simp[g0],t0Z,?_,rfl,fun i x hx hu hd=> ?_,hq,List.Pairwise.nil,fun p hp=>(by cases hp),by simp[g0]⟩
 ·unfold gD;rw[ZAJ (show 1<=(g0 k).2.2.1.1/\(g0 k).2.2.1.1<=100 from hk)];rfl
 grind[g0,M0]
theorem rLZ(k)(hk:1<=k/\k<=100):lF bB k pl3=some (0,(M0.1.1,(0,(k,([],(pl3,([],0))))))):=by
 unfold lF TG;rw[ZAF (by omega),ZAD,ZAF (by omega),ZAA,ZAD,ZAA];refine(congrArg (fun o=>Option.bind o _) (((uIZ (q:=16) hk (by omega)).own))).trans ?_
 rfl
def cr1:bV:=(0,(1,(uO 2,((1,1),([102],((0,0),([],(0,(0,[])))))))))
def wr1(x:Int)(off n:Nat):bV:=(0,(x,(uO 5,((2,1),([],((0,0),([],((off:Int),(0,List.replicate n 0)))))))))
def sz1(n:Int):bV:=(0,(3,(uO 6,((2,1),([],((0,0),([],(0,(n,[])))))))))
def rd1:bV:=(0,(3,(uO 4,((2,1),([],((0,0),([],(15,(30,[])))))))))
def fI(n:Int)(P:List dC):List Ino:=[(1,1,true,true,0,[],1,[([102],2)]),(2,1,true,false,n,P,1,[])]
def gS1:cW:=(0,((fI 0 [],0),((3,[(0,(0,[(0,(1,(0,((2,1),(false,(0,([],([],(false,0)))))))))]))]),(pl3,[]))))
def gS2:cW:=(0,((fI 20 [(1,5),(2,5)],2),((3,[(0,(0,[(0,(1,(0,((2,1),(false,(0,([],([],(false,0))))))))),(0,(2,(0,((2,1),(false,(20,([],([],(false,0)))))))))]))]),(pl3,[]))))
theorem luZ{s:cW}{c:bV}{vs:List Int}{l:List Ino}{w win:Int}{ks:List eJ}(h:vQ s 16)(x:wO c.2.1 s.2.2.1.2)(h2:(dW s 16 c).1.1=2)(hf:JR bB (dW s 16 c).1 vs 0=some true)(hv:vs.length=(dW s 16 c).1.2.2.2.length)(hvs:∀v∈vs,1<=v/\v<=1099511627776)
 (hw:s.2.1.2<=65000)(e1:wB s 16 c vs=l)(e2:FE s 16 c vs=w)(e3:(s.2.2.1.1,iC s.2.2.1.1 s.2.2.1.2 (dL s c))=(win,ks)):
 ∃dead:List dC,nQ bB s ((16:Nat):Int) c vs 0=some ((s.1,((l,w),((win,ks),(pl3,dead)))),jI (dL s c) (0:Int))/\dead.Perm (s.2.2.2.2++(wC s 16 c).filter fun p=> !dK p)/\Next s 16 c vs (s.1,((l,w),((win,ks),(pl3,dead)))):=by
 obtain⟨s',a,N⟩:=nsZ ⟨h,h2,x,hf⟩ hw hv hvs;have e:s'=(s.1,((l,w),((win,ks),(pl3,s'.2.2.2.2)))):=by
  rw[<-e1,<-e2,<-e3,<-N.tree,<-N.ww,<-N.ca,<-N.life,<-N.ok.pl]
 rw[e] at a N;exact⟨_,a,N.dd,N⟩
theorem uwZ:mK bB=some true:=by
 have x0:wO cr1.2.1 (g0 3).2.2.1.2:=fun k hk=>(by cases hk);obtain⟨d1,a1,p1,N1⟩:=luZ (c:=cr1) (vs:=[]) (l:=fI 0 []) (w:=0) (win:=3) (ks:=gS1.2.2.1.2) (uIZ (k:=3) (by omega) (by omega)) x0 (by show _=_;kernel_rfl) (by show _=_;kernel_rfl) (by show _=_;kernel_rfl) (fun v hv=>(by cases hv)) (by decide) (by show _=_;kernel_rfl) (by show _=_;kernel_rfl) (by show _=_;kernel_rfl);rw[show(g0 3).2.2.2.2++(wC (g0 3) 16 cr1).filter (fun p=> !dK p)=[] from by show _=_;kernel_rfl] at p1;obtain rfl:=p1.eq_nil;have N1:Next (g0 3) 16 cr1 [] gS1:=N1;obtain⟨d2,a2,p2,N2⟩:=luZ (s:=gS1) (c:=wr1 2 0 20) (vs:=[5,5]) (l:=fI 20 [(1,5),(2,5)]) (w:=2) (win:=3) (ks:=gS2.2.2.1.2) N1.ok (N1.xs.mono (by decide)) (by show _=_;kernel_rfl) (by show _=_;kernel_rfl) (by show _=_;kernel_rfl) (fun v hv=>(by simp at hv;omega)) (by decide) (by show _=_;kernel_rfl) (by show _=_;kernel_rfl) (by show _=_;kernel_rfl);rw[show gS1.2.2.2.2++(wC gS1 16 (wr1 2 0 20)).filter (fun p=> !dK p)=[] from by show _=_;kernel_rfl] at p2;obtain rfl:=p2.eq_nil;have N2:Next gS1 16 (wr1 2 0 20) [5,5] gS2:=N2;obtain⟨d3,a3,p3,N3⟩:=luZ (s:=gS2) (c:=sz1 16) (vs:=[]) (l:=fI 16 [(1,5)]) (w:=2) (win:=3) (ks:=(iC 3 gS2.2.2.1.2 (dL gS2 (sz1 16)))) N2.ok (N2.xs.mono (by decide)) (by show _=_;kernel_rfl) (by show _=_;kernel_rfl) (by show _=_;kernel_rfl) (fun v hv=>(by cases hv)) (by decide) (by show _=_;kernel_rfl) (by show _=_;kernel_rfl) rfl;rw[show gS2.2.2.2.2++(wC gS2 16 (sz1 16)).filter (fun p=> !dK p)=[(2,5)] from by show _=_;kernel_rfl] at p3;obtain rfl:=p3.eq_singleton;have pl:=fun c=>evZ N2.ok c;unfold mK Pa Pb Pc Pd Pe Pf Pg Ph Pi Pj Pk PB PC PF PK;rw[show iO bB=some pl3 from rfl,ZAA,rLZ 3 (by omega),ZAA];simp only;refine(congrArg (fun o=>Option.bind o _) (show nQ bB _ 16 _ [] 0=_ from a1)).trans ?_;rw[ZAA];simp only;refine(congrArg (fun o=>Option.bind o _) (show nQ bB _ 16 _ [5,5] 0=_ from a2)).trans ?_;rw[ZAA];simp only
 refine(congrArg (fun o=>Option.bind o _) (show nP bB _ 16 _=_ from pl rd1)).trans ?_;rw[ZAA];refine(congrArg (fun o=>Option.bind o _) (show nP bB _ 16 _=_ from pl (wr1 3 15 2))).trans ?_;rw[ZAA];refine(congrArg (fun o=>Option.bind o _) (show nP bB _ 16 _=_ from pl (wr1 3 16 16))).trans ?_;rw[ZAA];refine(congrArg (fun o=>Option.bind o _) (show nP bB _ 16 _=_ from pl (wr1 3 50 1))).trans ?_;rw[ZAA];refine(congrArg (fun o=>Option.bind o _) (show _=some (false,[gS2],(0:Int),(1:Int),(0:Int),(2:Int),(1:Int),false,(0:Int),([]:List UInt8),([]:List DB),false,(0:Int)) from by kernel_rfl)).trans ?_;rw[ZAA];simp only[ZAD,ZAP,ZAA];refine(congrArg (fun o=>Option.bind o _) (show nP bB _ 16 _=_ from pl (sz1 18))).trans ?_;rw[ZAA];refine(congrArg (fun o=>Option.bind o _) (show nP bB _ 16 _=_ from pl (sz1 16))).trans ?_;rw[ZAA];refine(congrArg (fun o=>Option.bind o _) (show nQ bB _ 16 _ [] 0=_ from a3)).trans ?_;rw[ZAA];show _=_
 kernel_rfl
abbrev SF:=bV×(Int×Int)
abbrev TI:=List bU×(Int×(List Ino×(Int×(Int×(List eJ×(List gU×(List dC×(Int×(Int×(BM×(List Mod×List (Int×Int))))))))))))
abbrev UH:=List bU⊕((Bool×List bU)⊕(Bool×List bU))
abbrev SV:=Int->List bU->Int->List Ino->Int->Int->List eJ->List gU->List dC->Int->Int->BM->List Mod->List (Int×Int)->Option ((Int×TI)⊕UH)
def Rnd(f:SV)(k:Nat)(A:List bU)(s:cW)(nx:Int)(q:Nat)(M:BM)(m:Mod)(hs:List (Int×Int)):Option ((Int×TI)⊕UH):=f k A s.1 s.2.1.1 s.2.1.2 s.2.2.1.1 s.2.2.1.2 s.2.2.2.1 s.2.2.2.2 nx q M [m] hs
def UI(f:SV)(k:Nat)(A:List bU)(m:Mod)(hs:List (Int×Int))(o:Option (List bU×Mod×List (Int×Int))):Prop:=
 ∀(q:Nat) (s:cW) (nx:Int) (M:BM),mG s q nx M (k:Int)->Rel s q M m->match o with
  |none=>Rnd f k A s nx q M m hs=some (.inr (.inl A))
  |some v=>∃s' nx' M',Rnd f k A s nx q M m hs=some (.inl (((k+1:Nat):Int),(v.1,stZ s' nx' (q:Int) M' ([v.2.1],v.2.2))))/\mG s' q nx' M' ((k+1:Nat):Int)/\Rel s' q M' v.2.1
theorem h0Z{α β:Type}{x:Option α}{f:α->Option β}{P:Option β->Prop}(w:α)(h:x=some w)(hf:P (f w)):P (x.bind f):=by rw[h];exact hf
def zH(A:List bU):Prop:=∀r∈A,r.2.2.2.2.2.2.2.1.length<=4096
theorem nBZ{l:List SF}{k:Nat}{A:List bU}{m:Mod}{hs:List (Int×Int)}(hk:k<l.length)(hk30:k<30)(hm:bW m)(h1:1<=hs.length)(h2:hs.length<=k+1)(hA:A.length<=k)(hE:zH A):
 ∃o,UI (cK bB l) k A m hs o/\∀v,o=some v->bW v.2.1/\1<=v.2.2.length/\v.2.2.length<=k+2/\v.1.length<=k+1/\zH v.1:=by
 obtain⟨o,ho⟩:∃o,l[k]? =some o:=⟨_,ZAC hk⟩;obtain⟨g,hgr⟩:=uGZ hm;cases g with
 |true=>
  refine⟨none,fun q s nx M h R=> ?_,fun v h=>by cases h⟩;show Rnd _ _ _ _ _ _ _ _ _=_;unfold Rnd cK Pa Pb Pc Pd Pe Pf Pg Ph Pi Pj Pk Pl Pm Pn Po Pp Pq Pr Ps Pt PL PM PT;rw[aDZ hk,ZAL,ZAJ (show(k:Int)<30 by omega),ZAL,ZAP,ZAA,hgr,ZAA,ZAA]
  rfl
 |false=>
  rcases rpZ o.1 with hh|hh
  ·refine⟨some (A,m,hs),fun q s nx M h R=>⟨s,nx,M,?_,h.mono (by omega),R⟩,fun v hv=>by cases hv;exact⟨hm,h1,by simp only;omega,by simp only;omega,hE⟩⟩;unfold Rnd cK Pa Pb Pc Pd Pe Pf Pg Ph Pi Pj Pk Pl Pm Pn Po Pp Pq Pr Ps Pt PL PM PT;rw[aDZ hk,ZAL,ZAJ (show(k:Int)<30 by omega),ZAL,ZAP,ZAA,hgr,ZAA,ZAA];simp only[ZAl,ZAL];rw[w64 (by omega),adZ hk,ZAA,ho,ZAA,hh,ZAA]
   rfl
  have pa:=iBZ o.2.1 (n:=hs.length) (by omega) (by omega);have pb:=iBZ o.2.2 (n:=hs.length) (by omega) (by omega);obtain⟨a,hga⟩:∃a,hs[(vX o.2.1 hs.length).toNat]? =some a:=⟨_,ZAC (by omega)⟩;obtain⟨b,hgb⟩:∃b,hs[(vX o.2.2 hs.length).toNat]? =some b:=⟨_,ZAC (by omega)⟩;obtain⟨t,ht⟩:∃t:Bool,t=(decide (o.2.1>=0)&&decide (o.1.2.2.2.1.1>0)):=⟨_,rfl⟩;obtain⟨d,hd⟩:∃d:bV,d=bif t then(o.1.1,(((k+1:Nat):Int),(o.1.2.2.1,(a,o.1.2.2.2.2)))) else(o.1.1,(((k+1:Nat):Int),o.1.2.2)):=⟨_,rfl⟩;have d1:d.2.1=((k+1:Nat):Int):=by rw[hd];cases t<;>rfl
  obtain⟨u,hu⟩:∃u:Bool,u=(decide (o.2.2>=0)&&decide (d.2.2.2.2.2.1.1>0)):=⟨_,rfl⟩;obtain⟨c,hc⟩:∃c:bV,c=bif u then(d.1,(d.2.1,(d.2.2.1,(d.2.2.2.1,(d.2.2.2.2.1,(b,d.2.2.2.2.2.2)))))) else d:=⟨_,rfl⟩;have c1:c.2.1=((k+1:Nat):Int):=by rw[hc];cases u<;>exact d1
  obtain⟨r,hr⟩:∃r,r=kE c (bN m c):=⟨_,rfl⟩;refine⟨some (A++[r],(bN m c).1,bif decide (r.2.2.2.1.1>0) then hs++[r.2.2.2.1] else hs),fun q s nx M h R=> ?_,fun v hv=>by
   cases hv;refine⟨hyZ hm c,?_,?_,by simp;omega,fun x hx=> ?_⟩
   ·cases decide (r.2.2.2.1.1>0)<;>simp<;>omega
   ·cases decide (r.2.2.2.1.1>0)<;>simp<;>omega
   ·rcases ZAh.1 hx with hx|hx
    ·exact hE x hx
    ·rw[ZCW.1 hx,hr];exact sZZ m c⟩
  obtain⟨r',s',nx',M',e,D,hs'⟩:=qVZ (c:=c) h (by omega);obtain⟨er,R'⟩:=vbZ h R (by omega) D;rw[<-hr] at er;subst er;rw[c1] at hs';refine⟨s',nx',M',?_,hs',R'⟩;unfold Rnd cK Pa Pb Pc Pd Pe Pf Pg Ph Pi Pj Pk Pl Pm Pn Po Pp Pq Pr Ps Pt PL PM PT;rw[aDZ hk,ZAL,ZAJ (show(k:Int)<30 by omega),ZAL,ZAP,ZAA,hgr,ZAA,ZAA];simp only[ZAl,ZAL];rw[w64 (by omega),adZ hk,ZAA,ho,ZAA,hh,ZAA,ZAD];simp only[ZAA,ho];refine h0Z (P:=fun x=>x=_) (.inl (A++[r'],stZ s' nx' (q:Int) M' ([(bN m c).1],bif decide (r'.2.2.2.1.1>0) then hs++[r'.2.2.2.1] else hs))) ?_ rfl;refine h0Z (P:=fun x=>x=_) (t,(A,stZ s nx (q:Int) M ([m],(hs,[(o.1.1,(((k+1:Nat):Int),o.1.2.2))])))) (by rw[ht];cases decide (o.2.1>=0)<;>rfl) ?_;refine h0Z (P:=fun x=>x=_) (A,stZ s nx (q:Int) M ([m],(hs,[d]))) ?_ ?_
  ·rw[hd];cases t with
   |true=>
    simp only[ZAL];rw[jkZ _ _ (by omega),ZAA,azZ (by omega) (by omega),ZAA,hga,ZAA,ZAP,ZAA]
    rfl
   |false=>rfl
  refine h0Z (P:=fun x=>x=_) (u,(A,stZ s nx (q:Int) M ([m],(hs,[d])))) (by rw[hu];cases decide (o.2.2>=0)<;>rfl) ?_;refine h0Z (P:=fun x=>x=_) (A,stZ s nx (q:Int) M ([m],(hs,[c]))) ?_ ?_
  ·rw[hc];cases u with
   |true=>
    simp only[ZAL];rw[jkZ _ _ (by omega),ZAA,azZ (by omega) (by omega),ZAA,hgb,ZAA,ZAP,ZAA]
    rfl
   |false=>rfl
  simp only[ZAP,ZAA,ZBm];rw[pSZ hm,ZAA];refine(congrArg (fun o=>Option.bind o _) e).trans ?_;rw[ZAA];unfold jI;simp only;refine h0Z (P:=fun x=>x=_) (A,stZ s' nx' (q:Int) M' ([(bN m c).1],(bif decide (r'.2.2.2.1.1>0) then hs++[r'.2.2.2.1] else hs,([c],([r'],[r']))))) ?_ ?_
  ·cases decide (r'.2.2.2.1.1>0) with
   |true=>
    simp only[ZAL];rw[acZ (by simp only[ZAE,ZAm,arZ];omega),hr]
    rfl
   |false=>rw[hr];rfl
  simp only[ZAO,ZAD,ZAP,ZAA];unfold fE;rw[acZ (by simp only[ZAE,ZAm,arZ];omega)]
  rfl
theorem lBZ(l:List SF):∀(n k:Nat) (A:List bU) (m:Mod) (hs:List (Int×Int)),k+n=30->bW m->1<=hs.length->hs.length<=k+1->A.length<=k->zH A->∃L:List bU,L.length<=30/\zH L/\∀(fu q:Nat) (s:cW) (nx:Int) (M:BM),n<fu->mG s q nx M (k:Int)->Rel s q M m->
 iter fu (fun tt:Int×TI=>cK bB l tt.1 tt.2.1 tt.2.2.1 tt.2.2.2.1 tt.2.2.2.2.1 tt.2.2.2.2.2.1 tt.2.2.2.2.2.2.1 tt.2.2.2.2.2.2.2.1 tt.2.2.2.2.2.2.2.2.1 tt.2.2.2.2.2.2.2.2.2.1 tt.2.2.2.2.2.2.2.2.2.2.1 tt.2.2.2.2.2.2.2.2.2.2.2.1 tt.2.2.2.2.2.2.2.2.2.2.2.2.1 tt.2.2.2.2.2.2.2.2.2.2.2.2.2) ((k:Int),(A,stZ s nx (q:Int) M ([m],hs)))=some (.inl L):=by
 intro n;induction n with
 |zero=>
  intro k A m hs hk hm h1 h2 h3 h4;refine⟨A,by omega,h4,fun fu q s nx M hf h R=> ?_⟩;obtain⟨fu,rfl⟩:∃z,fu=z+1:=⟨fu-1,by omega⟩;show(cK bB l (k:Int) A s.1 s.2.1.1 s.2.1.2 s.2.2.1.1 s.2.2.1.2 s.2.2.2.1 s.2.2.2.2 nx q M [m] hs).ob _=_;unfold cK Pa Pb Pc Pd Pe Pf Pg Ph Pi Pj Pk Pl Pm Pn Po Pp Pq Pr Ps Pt PL PM PT;rw[ZAF (show¬((k:Int)<30) by omega)];cases decide ((k:Int)<((l.length:Nat):Int))<;>rfl
 |succ n ih=>
  intro k A m hs hk hm h1 h2 h3 h4;by_cases hl:k<l.length
  ·obtain⟨o,ho,hv⟩:=nBZ hl (by omega) hm h1 h2 h3 h4;cases o with
   |none=>
    refine⟨A,by omega,h4,fun fu q s nx M hf h R=> ?_⟩;obtain⟨fu,rfl⟩:∃z,fu=z+1:=⟨fu-1,by omega⟩;exact congrArg (fun x=>Option.ob x _) (ho q s nx M h R)
   |some v=>
    obtain⟨v1,v2,v3,v4,v5⟩:=hv v rfl;obtain⟨L,hL,hE,hi⟩:=ih (k+1) v.1 v.2.1 v.2.2 (by omega) v1 v2 v3 v4 v5;refine⟨L,hL,hE,fun fu q s nx M hf h R=> ?_⟩;obtain⟨fu,rfl⟩:∃z,fu=z+1:=⟨fu-1,by omega⟩;obtain⟨s',nx',M',e,S',R'⟩:=ho q s nx M h R;exact(congrArg (fun x=>Option.ob x _) e).trans (hi fu q s' nx' M' (by omega) S' R')
  ·refine⟨A,by omega,h4,fun fu q s nx M hf h R=> ?_⟩;obtain⟨fu,rfl⟩:∃z,fu=z+1:=⟨fu-1,by omega⟩;show(cK bB l (k:Int) A s.1 s.2.1.1 s.2.1.2 s.2.2.1.1 s.2.2.1.2 s.2.2.2.1 s.2.2.2.2 nx q M [m] hs).ob _=_;unfold cK Pa Pb Pc Pd Pe Pf Pg Ph Pi Pj Pk Pl Pm Pn Po Pp Pq Pr Ps Pt PL PM PT;rw[aEZ hl]
   rfl
theorem wmZ{n}(hn:1<=n/\n<=1000)(x):∃v:Nat,gY bB x n=some (v:Int)/\(v:Int)<n:=by
 have:=iBZ x hn.1 (by omega);exact⟨(vX x n).toNat,by grind[jkZ],by omega⟩
theorem lgZ(l:List SF):∃L:List bU,L.length<=30/\zH L/\∀size,eO bB size l []=some (.inr (true,L)):=by
 obtain⟨L,hL,hE,hi⟩:=lBZ l 30 0 [] M0 [(1,1)] (by omega) vvZ (by decide) (by decide) (by decide) (fun r hr=>by cases hr);refine⟨L,hL,hE,fun size=> ?_⟩;unfold eO gQ;obtain⟨p,hp,hp2⟩:=wmZ (n:=50) (by omega) size;rw[hp,ZAA,show iO bB=some pl3 from rfl,ZAA,rLZ 4 (by omega),ZAA];simp only[show((0:Int)==0)=true from rfl,ZAO,ZAD];rw[vTZ,ZAA,w64 (by omega)];have h0:mG (g0 4) (16+p) 0 ([],0) ((0:Nat):Int):=⟨uIZ (by omega) (by omega),fun k hk=>(by cases hk),by omega,by show(0:Int)<=_;omega,by omega,fun p=>.inl rfl,rfl,fun x hx p hp=>by
  simp[g0,M0] at hx;subst hx;cases hp⟩
 have r0:Rel (g0 4) (16+p) ([],0) M0:=⟨vvZ,rfl,fun i x d hx hd z=>by
  cases i with
  |zero=>cases hx;cases hd;rfl
  |succ i=>cases hx⟩
 have:=hi bB (16+p) (g0 4) 0 ([],0) (by obtain⟨m,hm⟩:=nqZ (n:=30) (by omega);omega) h0 r0;rw[show(16:Int)+(p:Int)=((16+p:Nat):Int) by omega];refine(congrArg (fun o=>Option.bind o _) this).trans ?_
 rfl
theorem law25_StateSizes_true(one two:Int)(l:List SF)(_k0:OkV (.int .i64) one)(_k1:OkV (.int .i64) two)(_k2:OkV (.sl (.pair qY8 qY5)) l):jS bB one two l=some true:=by
 obtain⟨L,hL,hE,hp⟩:=lgZ l;have h22:fK bB two l []=eO bB two l []:=rfl;unfold jS;rw[hp one,ZAA];simp only[ZAL];rw[h22,hp two,ZAA];simp only[ZAA,ZAO,ZAD,ZAb];have e:fR bB (false,(L,L)) (0,(L,L))=some (.inl ()):=by
  unfold fR;refine aoZ (fun k:Nat=>((k:Int),(L,L))) L.length (by omega) (fun k hk=> ?_) ?_
  ·show eQ bB (false,(L,L)) (k:Int) L L=_;obtain⟨r,hr⟩:∃r,L[k]? =some r:=⟨_,ZAC hk⟩;unfold eQ;rw[aDZ hk,ZAL];simp only[adZ hk,ZAA,hr,ZAb,Bool.and_self,ZAO,ZAD];rw[f4Z r.2.2.2.2.2.2.2.1 (by have:=hE r (ZAI hr);omega),ZAA,ZAA,w64 (by omega)]
   rfl
  ·show eQ bB (false,(L,L)) (L.length:Int) L L=_;unfold eQ;rw[aEZ (ZAz _)]
   rfl
 rw[e,ZAA];simp only;rw[uwZ,ZAA]
end Go.Ab.D
