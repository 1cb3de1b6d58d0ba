/- What the functions compute; the plain law. -/
import Derived.Test.YtjngohmkdmdecaaGreatStateDeadQ2
import Derived.KernelRfl
set_option linter.all false
set_option maxRecDepth 100000
open Prod renaming B->PB,C->PC,D->PD,E->PE,F->PF,G->PG,H->PH,I->PI,J->PJ,K->PK,L->PL,M->PM,N->PN,S->PS,T->PT,U->PU,V->PV,Y->PY,ZC->PZC,ZF->PZF,a->Pa,b->Pb,c->Pc,d->Pd,e->Pe,f->Pf,g->Pg,h->Ph,i->Pi,j->Pj,k->Pk,l->Pl,m->Pm,n->Pn,o->Po,p->Pp,q->Pq,r->Pr,s->Ps,t->Pt,u->Pu,v->Pv,w->Pw,x->Px,y->Py,z->Pz,za->Pza,zb->Pzb,zc->Pzc,zd->Pzd,ze->Pze,zf->Pzf
namespace Go.Ab
theorem ZBt:type_of% @List.set_cons_zero:=@List.set_cons_zero
end Go.Ab
namespace Go.Ab.D
open Go Go.Ab
def vZ(n:Int)(ks:List cS):Prop:=∀k∈ks,k.2.1<=n/\∀r∈k.2.2,r.2.1<=n
theorem vZ.mono{n m}{ks}(h:vZ n ks)(hm:n<=m):vZ m ks:=fun k hk=>⟨by have:=(h k hk).1;omega,fun r hr=>by have:=(h k hk).2 r hr;omega⟩
theorem lHZ{ks}{x}{k}(h:kOf ks x=some k):k∈ks:=ZCO h
theorem s1Z{c}{cl x n}(hc:fB c=true)(h:vZ n c.2)(hx:n<x):look c cl x=(zR,0):=by
 unfold look;rw[ZAN hc];cases hk:kOf c.2 cl with
 |none=>rfl
 |some k=>
  have hm:=h k (lHZ hk);simp;rw[ZAM (by omega)];cases hr:rOf k.2.2 x with
  |none=>rfl
  |some r=>
   have h1:=hm.2 r (ZCO hr);have h2:=ZCr hr;have h2:=by simpa using h2
   omega
theorem qiZ{α}(p):∀{l:List α},(∀x∈l,p x=true)->pre p l=l.length
 |[],_=>rfl
 |x::l,h=>by
  unfold pre;rw[ZAN (h x (ZAk ..)),qiZ p fun y hy=>h y (ZAb _ hy)];rfl
theorem rTZ{w n}{k}{r}(hw:1<=w)(h1:k.2.1<=n)(h2:∀r∈k.2.2,r.2.1<=n)(hr:n<r.2.1):(sS w k r).2.1<=n/\(∀x∈(sS w k r).2.2,x=r\/x∈k.2.2)/\rOf (sS w k r).2.2 r.2.1=some r:=by
 have hp:eS k.2.2 r.2.1=k.2.2.length:=qiZ _ fun x hx=>ZAJ (by have:=h2 x hx;omega);have no:∀l,(∀x∈l,x.2.1<=n)->rOf (l++[r]) r.2.1=some r:=fun l hl=>by
  unfold rOf;rw[List.find?_append,ZB1.2 (fun x hx=>by have:=hl x hx;simp;omega)];simp
 unfold sS;rw[hp,ZAu,List.drop_length,ZAo]
 grind
theorem s2Z(c)(cl x):(look c cl x).2=0\/(look c cl x).2=1\/(look c cl x).2=2:=by
 grind[look]
theorem vMZ{c}{r}(hc:fB c=true)(h:vZ r.2.1 c.2)(hr:bC r=true)(h1:1<=r.2.1)(hl:(look c r.1 r.2.1).2=0):
 put c r=((c.1,gI c.1 c.2 r),0)/\fB (c.1,gI c.1 c.2 r)=true/\vZ r.2.1 (gI c.1 c.2 r)/\look (c.1,gI c.1 c.2 r) r.1 r.2.1=(r,1):=by
 let⟨ok,kof⟩:=rWZ hc hr hl
 let⟨g1,g2,g3⟩:=b9Z.1 hc
 let⟨o1,o2,o3⟩:=b9Z.1 ok
 have hk:(eU c.2 r.1).2.1<=r.2.1-1/\∀x∈(eU c.2 r.1).2.2,x.2.1<=r.2.1-1:=by
  unfold eU;unfold look at hl;rw[ZAN hc] at hl;cases e:kOf c.2 r.1 with
  |none=>exact⟨by show(0:Int)<=_;omega,fun x hx=>by cases hx⟩
  |some k=>
   rw[e] at hl;simp at hl;have hm:=h k (lHZ e);split at hl
   ·cases hl
   ·rename_i hgt;refine⟨by show k.2.1<=_;omega,fun x hx=> ?_⟩;have:=hm.2 x hx;cases hrr:rOf k.2.2 r.2.1 with
    |some y=>rw[hrr] at hl;cases hl
    |none=>
     have:=ZB1.1 hrr x hx;have:=by simpa using this
     omega
 let⟨p1,p2,p3⟩:=rTZ (r:=r) g1.1 hk.1 hk.2 (by omega)
 refine⟨?_,ok,fun k hkm=> ?_,?_⟩
 ·unfold put;rw[ZAN ⟨hc,hr,hl⟩]
 ·have hf:=(iwZ o2).2 ⟨hkm,rfl⟩;rw[kof] at hf;split at hf
  ·obtain rfl:=ZAh hf;refine⟨by omega,fun x hx'=> ?_⟩;rcases p2 x hx' with rfl|e
   ·exact ZB6 _
   ·have:=hk.2 x e;omega
  ·exact h k (lHZ hf)
 ·unfold look;rw[ZAN ok,kof,ZAN rfl];simp only;rw[ZAM (by omega),p3]
set_option maxHeartbeats 4000000
theorem gEZ{c}(hr:aL c=true):nN c.1 c.2.1=true:=by
 unfold aL vE at hr;simp at hr;exact hr.2.1
theorem sXZ{c}(hr:aL c=true)(hop:c.2.2.1=uO 5\/c.2.2.1=uO 6):jE c.2.2.2.1=true:=by
 unfold aL vE at hr;simp at hr;have h:=hr.2.2.1;rcases hop with e|e<;>(rw[e] at h;exact h)
def HY(c:aX)(e:Int):aY:=(c.1,(c.2.1,(e,((0,0),(false,(0,([],([],(false,0)))))))))
theorem p7Z{c}{e}(hr:aL c=true)(he:1<=e/\e<=1000):bC (HY c e)=true:=by
 unfold bC HY;rw[gEZ hr,ZAJ (show 0<=e/\e<=1000 by omega),ZAN (show e≠0 by omega)]
 rfl
theorem iMZ{c}{H}{d}{sz}(hr:aL c=true)(hH:(yO H||jE H)=true)(hs:0<=sz/\sz<=65536):bC (c.1,(c.2.1,(0,(H,(d,(sz,([],([],(false,0)))))))))=true:=by
 simp_all[bC,gEZ,ZAJ]
theorem tIZ{m}{c}(hr:aL c=true)(h:(aU m c).2.1≠0):(aU m c).2.1=(bI m c).1/\(aU m c).2.2=lR:=by
 unfold aU at h⊢
 grind
theorem rqZ{s:bT}{c}(h:aM s.2.1)(hr:aL c=true)(ha:jW c.2.2.1=false):bC (pM c (aU (aI s.2.1) c))=true:=by
 have hm:=bdZ h;have no:∀n:Nat,n<256->c.2.2.1=uO n->jW (uO n)=false:=fun n _ e=>by simp_all
 have op:=jgZ hr;by_cases h0:(aU (aI s.2.1) c).2.1=0
 ·by_cases h56:c.2.2.1=uO 5\/c.2.2.1=uO 6
  ·have hf:∃x,jT s c x:=by
    rcases h56 with e|e
    ·exact(tXZ hr e h0).1
    ·exact(uBZ hr e h0).1
   obtain⟨x,hx⟩:=hf;obtain⟨_,r2,r3⟩:=f3Z h hr h56 h0 hx
   simp_all[pM,iMZ,sXZ]
  ·have hres:(aU (aI s.2.1) c).2.2=(bI (aI s.2.1) c).2.2:=by
    unfold aU;rw[ZAN hr,ZAN (res0 hr h0)]
   have h1:=res0 hr h0;have hmk:bI (aI s.2.1) c=iI (aI s.2.1) c->bC (pM c (aU (aI s.2.1) c))=true:=fun e=>by
    rw[e] at h1;unfold pM;rw[h0,hres,e];unfold iI at h1⊢;split at h1
    ·rename_i hk;rw[ZAN hk];exact iMZ hr (by rw[kXZ hm.t _ _ _ hk];simp) ⟨ZB6 0,show(0:Int)<=65536 by decide⟩
    ·rename_i hk;exact absurd h1 hk
   have hrep:(bI (aI s.2.1) c).2.2=lR->bC (pM c (aU (aI s.2.1) c))=true:=fun e=>by
    unfold pM;rw[h0,hres,e];exact iMZ hr rfl ⟨by decide,by decide⟩
   rcases op with e|e|e|e|e|e|e|e|e|e|e|e
   ·exact absurd (no 1 (by decide) e) (by decide)
   ·exact hmk (by unfold bI;rw[e];rfl)
   ·exact hmk (by unfold bI;rw[e];rfl)
   ·exact absurd (no 4 (by decide) e) (by decide)
   ·exact absurd (.inl e) h56
   ·exact absurd (.inr e) h56
   ·exact hrep (by rw[show bI (aI s.2.1) c=dH (aI s.2.1) c by unfold bI;rw[e];rfl];unfold dH;split<;>rfl)
   ·exact hrep (by rw[show bI (aI s.2.1) c=dH (aI s.2.1) c by unfold bI;rw[e];rfl];unfold dH;split<;>rfl)
   ·exact hrep (by rw[show bI (aI s.2.1) c=eQ (aI s.2.1) c by unfold bI;rw[e];rfl];unfold eQ;split<;>rfl)
   ·exact absurd (no 10 (by decide) e) (by decide)
   ·exact absurd (no 11 (by decide) e) (by decide)
   ·exact absurd (no 12 (by decide) e) (by decide)
 ·obtain⟨e1,e2⟩:=tIZ hr h0;have rng:0<=(bI (aI s.2.1) c).1/\(bI (aI s.2.1) c).1<=1000:=by
   rcases op with e|e|e|e|e|e|e|e|e|e|e|e
   ·exact absurd (no 1 (by decide) e) (by decide)
   ·rw[show bI (aI s.2.1) c=iI (aI s.2.1) c by unfold bI;rw[e];rfl];unfold iI;split<;>first|(dsimp only;decide)|exact mEZ _ _ _ _
   ·rw[show bI (aI s.2.1) c=iI (aI s.2.1) c by unfold bI;rw[e];rfl];unfold iI;split<;>first|(dsimp only;decide)|exact mEZ _ _ _ _
   ·exact absurd (no 4 (by decide) e) (by decide)
   ·rw[act5 e];unfold iU;split
    ·split<;>(dsimp only;decide)
    ·exact nhZ _ _
   ·rw[act6 e];unfold mQ;split
    ·split<;>(dsimp only;decide)
    ·exact nhZ _ _
   ·rw[show bI (aI s.2.1) c=dH (aI s.2.1) c by unfold bI;rw[e];rfl];unfold dH;split<;>first|(dsimp only;decide)|exact hGZ _ _ _ _
   ·rw[show bI (aI s.2.1) c=dH (aI s.2.1) c by unfold bI;rw[e];rfl];unfold dH;split<;>first|(dsimp only;decide)|exact hGZ _ _ _ _
   ·rw[show bI (aI s.2.1) c=eQ (aI s.2.1) c by unfold bI;rw[e];rfl];unfold eQ;split<;>first|(dsimp only;decide)|exact obZ _ _ _ _ _
   ·exact absurd (no 10 (by decide) e) (by decide)
   ·exact absurd (no 11 (by decide) e) (by decide)
   ·exact absurd (no 12 (by decide) e) (by decide)
  have:=p7Z hr (e:=(aU (aI s.2.1) c).2.1) (by omega);unfold pM;rw[e2];exact this
theorem cDZ{s}{q}{c}(h:(dN s q c).1.1=2):(dN s q c).2=0/\aL c=true/\jW c.2.2.1=false:=by
 unfold dN at h⊢;by_cases hr:aL c=true
 ·rw[ZAN hr] at h⊢;cases ha:jW c.2.2.1
  ·rw[ZAM (by decide)];refine⟨?_,hr,rfl⟩;split
   ·rfl
   ·split
    ·rfl
    ·split<;>rfl
  ·rw[ha,ZAN rfl] at h;split at h<;>cases h
 simp_all
theorem pPZ{s}{q}{c}(h:(dN s q c).1.1=2):(look s.2.2.1 c.1 c.2.1).2=0:=by
 let⟨_,hr,ha⟩:=cDZ h
 unfold dN at h;rcases s2Z s.2.2.1 c.1 c.2.1 with e|e|e<;>simp_all
theorem tGZ{c}(hr:aL c=true):1<=c.2.1:=by
 have:=gEZ hr
 simp_all[nN]
theorem lU.own{s}{q}(h:lU s q):eK aB s=some (s.1,(s.2.1.2,(s.2.2.1.1,(s.2.2.1.2,(s.2.1.1,(s.2.2.2.1,s.2.2.2.2)))))):=
 uxZ s h.t.r.fit (bDZ h.c) (by rw[h.pl];exact⟨by decide,by decide⟩) (by have:=h.dn;omega)
def mS(r y:Ino):Bool:=y.2.2.1&&(y.2.1==r.2.1)
def bJ(l0 l1:List Ino)(i:Nat):List bP:=match l0[i]?,l1[i]? with
 |some r,some y=>if mS r y=true then r.2.2.2.2.2.1 else[]
 |_,_=>[]
def lA(l0 l1:List Ino)(i:Nat):List bP:=match l0[i]?,l1[i]? with
 |some r,some y=>if mS r y=true then[] else r.2.2.2.2.2.1
 |_,_=>[]
def eE(l0 l1:List Ino):Nat->List bP
 |0=>[]
 |k+1=>eE l0 l1 k++lA l0 l1 k
theorem ecZ{l}{P Q}(h:∀(i) x,l[i]? =some x->P i=Q i):cJ l P=cJ l Q:=by
 refine ZBW fun i=> ?_
 grind[cJ,ZCg,ZB5]
theorem kAZ{l}{P}{k}{y}(h:l[k]? =some y)(Q):(cJ l P).set k (pL y Q)=cJ l fun i=>if i=k then Q else P i:=by
 refine ZBW fun i=> ?_;by_cases hi:i=k
 ·subst hi;rw[ZAU (by grind[clZ,ZAB]),bNZ _ h,ZAN rfl]
 ·rw[ZAa (fun e=>hi e.symm)]
  simp_all[cJ,ZAM]
theorem oWZ{l}(h:∀(i:Nat) y,l[i]? =some y->y.2.2.2.2.2.1=[]):cJ l (fun _=>[])=l:=by
 refine ZBW fun i=> ?_;unfold cJ;rw[ZCg];cases e:l[i]? with
 |none=>rfl
 |some x=>
  have:=h i x e
  let⟨a,b,c,d,f,P,g⟩:=x
  subst this;rfl
theorem e6Z{l0 l1}(h:∀x∈l0,x.2.2.2.2.2.1.length<=4096):∀k,(eE l0 l1 k).length<=k*4096
 |0=>ZAL _
 |k+1=>by
  have ih:=e6Z (l1:=l1) h k;have:(lA l0 l1 k).length<=4096:=by
   unfold lA;split
   ·rename_i r y hr hy;split
    ·exact ZBI _
    ·exact h r (ZAG hr)
   ·exact ZBI _
  grind[eE,ZAe,ZAr]
theorem npZ{l0 l1:List Ino}(hlen:l0.length<=l1.length/\l1.length<=500)(hP:∀x∈l0,x.2.2.2.2.2.1.length<=4096)(hn:∀(i:Nat) y,l1[i]? =some y->y.2.2.2.2.2.1=[])(t life s win)(ks:List cS)(q)(pl:List fC)(dead:List bP):
 qM aB t life s win ks q l0 pl dead l1=some (life,(t,(win,(ks,(q,(cJ l1 (bJ l0 l1),(pl,(dead,(l0,eE l0 l1 l0.length))))))))):=by
 unfold qM Pd Pe Pf Pg Ph Pi Pj PJ;have loop:jQ aB l0 (t,(0,(life,(s,(win,(ks,(q,(l0,(pl,(dead,([],(l1,t))))))))))))=some (t,(life,(s,(win,(ks,(q,(l0,(pl,(dead,(eE l0 l1 l0.length,(cJ l1 (bJ l0 l1),t))))))))))):=by
  unfold jQ;have e0:(t,((0:Int),(life,(s,(win,(ks,(q,(l0,(pl,(dead,(([]:List bP),(l1,t))))))))))))=(fun k:Nat=>(t,((k:Int),(life,(s,(win,(ks,(q,(l0,(pl,(dead,(eE l0 l1 k,(cJ l1 (fun i=>if i<k then bJ l0 l1 i else[]),t))))))))))))) 0:=by
   simp only[ZBk,ZCR,oWZ hn,eE];rfl
  refine(congrArg (iter aB _) e0).trans ?_;refine aoZ (fun k:Nat=>(t,((k:Int),(life,(s,(win,(ks,(q,(l0,(pl,(dead,(eE l0 l1 k,(cJ l1 (fun i=>if i<k then bJ l0 l1 i else[]),t))))))))))))) l0.length (by omega) (fun k hk=> ?_) ?_
  ·obtain⟨r,hr⟩:∃r,l0[k]? =some r:=⟨_,ZAC hk⟩;obtain⟨y,hy⟩:∃y,l1[k]? =some y:=⟨_,ZAC (by omega)⟩;have hyk:(cJ l1 (fun i=>if i<k then bJ l0 l1 i else[]))[k]? =some (pL y []):=by
    rw[bNZ _ hy,ZAM (ZA1 k)]
   have hg:=e6Z (l1:=l1) hP k;have hr4:=hP r (ZAG hr);have hm:bJ l0 l1 k=if mS r y=true then r.2.2.2.2.2.1 else[]:=by unfold bJ;rw[hr,hy]
   have hga:lA l0 l1 k=if mS r y=true then[] else r.2.2.2.2.2.1:=by unfold lA;rw[hr,hy]
   show iG aB l0 t (k:Int) life s win ks q l0 pl dead (eE l0 l1 k) (cJ l1 (fun i=>if i<k then bJ l0 l1 i else[])) t=_;unfold iG Pb Pc Pd Pe Pf Pg Ph Pi Pj Pk Pl Pr;rw[ZAJ (by omega),ZAK,acZ hk,ZAA,hr,ZAA,clZ,acZ (by omega),ZAA,hyk,ZAA];have test:∀{β} (a b:β),(bif (pL y []).2.2.1 then(some k).bind fun q2=>((cJ l1 (fun i=>if i<k then bJ l0 l1 i else[]))[q2]?).bind fun r2=>some (t,((r2.2.1==r.2.1),(life,(s,(win,(ks,(q,(l0,(pl,(dead,(eE l0 l1 k,(cJ l1 (fun i=>if i<k then bJ l0 l1 i else[]),(t,r))))))))))))) else some (t,(false,(life,(s,(win,(ks,(q,(l0,(pl,(dead,(eE l0 l1 k,(cJ l1 (fun i=>if i<k then bJ l0 l1 i else[]),(t,r))))))))))))))=some (t,(mS r y,(life,(s,(win,(ks,(q,(l0,(pl,(dead,(eE l0 l1 k,(cJ l1 (fun i=>if i<k then bJ l0 l1 i else[]),(t,r))))))))))))):=fun _ _=>by
    unfold mS;rw[show(pL y []).2.2.1=y.2.2.1 from rfl];cases hu:y.2.2.1
    ·rfl
    ·rw[ZAK,ZAA,hyk,ZAA];rfl
   rw[test () (),ZAA];simp only;cases hk2:mS r y
   ·rw[hk2] at hm hga;simp only[ZAD];rw[aeZ (by simp only[ZAF,ZAm,asZ];omega),ZAA,w64 (by omega)];rw[show eE l0 l1 (k+1)=eE l0 l1 k++r.2.2.2.2.2.1 by
     show eE l0 l1 k++lA l0 l1 k=_;rw[hga];rfl]
    rw[ecZ (Q:=fun i=>if i<k+1 then bJ l0 l1 i else[]) (fun i x _=>by
     by_cases h:i=k
     ·subst h;rw[ZAM (ZA1 _),ZAN (Nat.lt_succ_self _),hm];rfl
     ·by_cases h2:i<k
      ·rw[ZAN h2,ZAN (by omega)]
      ·rw[ZAM h2,ZAM (by omega)])]
    rfl
   ·rw[hk2] at hm hga;simp only[ZAK];rw[acZ (by rw[clZ];omega),ZAA,hyk,ZAA,ZAA,w64 (by omega)];rw[show eE l0 l1 (k+1)=eE l0 l1 k by
     show eE l0 l1 k++lA l0 l1 k=_;rw[hga];simp]
    rw[show((pL y []).1,((pL y []).2.1,((pL y []).2.2.1,((pL y []).2.2.2.1,((pL y []).2.2.2.2.1,(r.2.2.2.2.2.1,(pL y []).2.2.2.2.2.2))))))=pL y r.2.2.2.2.2.1 from rfl,kAZ hy];rw[ecZ (Q:=fun i=>if i<k+1 then bJ l0 l1 i else[]) (fun i x _=>by
     by_cases h:i=k
     ·subst h;rw[ZAN rfl,ZAN (Nat.lt_succ_self _),hm];rfl
     ·rw[ZAM h];by_cases h2:i<k
      ·rw[ZAN h2,ZAN (by omega)]
      ·rw[ZAM h2,ZAM (by omega)])]
    rfl
  ·show iG aB l0 t ((l0.length:Nat):Int) life s win ks q l0 pl dead (eE l0 l1 l0.length) _ t=_;unfold iG Pb Pc Pd Pe Pf Pg Ph Pi Pj Pk Pl Pr;rw[ZAE (by omega),ZAD];rw[ecZ (fun i x _=>by
    by_cases h:i<l0.length
    ·rw[ZAN h]
    ·rw[ZAM h];unfold bJ;rw[ZAw (by omega)])]
 grind
theorem jSZ(x)(l):aD (x::l)=aO x.2.2.2.2.2.1++aD l:=rfl
theorem ddZ(a b):aD (a++b)=aD a++aD b:=by simp_all[aD]
theorem g3Z{l}{P}{k}{x}(h:l[k]? =some x):aD ((cJ l P).take (k+1))=aD ((cJ l P).take k)++aO (P k):=by
 rw[bjZ (bNZ P h)];rfl
theorem hQZ{l0 l1}(hlen:l0.length<=l1.length):∀k,k<=l0.length->(aD ((cJ l1 (bJ l0 l1)).take k)++aO (eE l0 l1 k)).Perm (aD (l0.take k))
 |0,_=>List.Perm.refl _
 |k+1,hk=>by
  have ih:=hQZ hlen k (by omega);obtain⟨r,hr⟩:∃r,l0[k]? =some r:=⟨_,ZAC (by omega)⟩;obtain⟨y,hy⟩:∃y,l1[k]? =some y:=⟨_,ZAC (by omega)⟩;have hm:bJ l0 l1 k=if mS r y=true then r.2.2.2.2.2.1 else[]:=by unfold bJ;rw[hr,hy]
  have hg:lA l0 l1 k=if mS r y=true then[] else r.2.2.2.2.2.1:=by unfold lA;rw[hr,hy]
  rw[g3Z hy,bjZ hr,show eE l0 l1 (k+1)=eE l0 l1 k++lA l0 l1 k from rfl,axZ,hm,hg];cases mS r y
  ·rw[ZAM (by decide),g7Z,ZAo,<-List.append_assoc]
   grind
  ·rw[ZAN rfl,ZAN rfl,g7Z,ZAo,ZAp]
   grind
theorem j2Z{l0 l1}(hlen:l0.length<=l1.length):(aD (cJ l1 (bJ l0 l1))++aO (eE l0 l1 l0.length)).Perm (aD l0):=by
 have h:=hQZ hlen l0.length (ZAL _);have e:aD (cJ l1 (bJ l0 l1))=aD ((cJ l1 (bJ l0 l1)).take l0.length):=by
  conv=>lhs;rw[<-List.take_append_drop l0.length (cJ l1 (bJ l0 l1)),ddZ]
  rw[mTZ (l:=(cJ l1 (bJ l0 l1)).drop l0.length),ZAo];intro x hx
  let⟨i,hi⟩:=ZAP hx
  rw[ZA4] at hi;obtain⟨z,_,rfl⟩:=biZ hi;show bJ l0 l1 (l0.length+i)=[];unfold bJ;rw[ZAw (by omega)]
 simp_all
theorem sgZ{l}{k}{x}(h:l[k]? =some x):∃rest,(aD l).Perm (aO x.2.2.2.2.2.1++rest)/\∀y,(aD (l.set k y)).Perm (aO y.2.2.2.2.2.1++rest):=by
 have hk:=(ZAB.1 h).1;refine⟨aD (l.take k)++aD (l.drop (k+1)),?_,fun y=> ?_⟩
 ·have e:l=l.take k++x::l.drop (k+1):=by
   rw[<-(ZAB.1 h).2,<-List.drop_eq_getElem_cons hk,ZBA]
  grind[ddZ,jSZ,ZAp,List.perm_append_comm]
 ·rw[List.set_eq_take_append_cons_drop,ZAN hk,ddZ,jSZ,<-List.append_assoc]
  grind
open Go Go.Ab Go.Shelf Go.Sort Go.Proofs
theorem nrZ{α} [Inhabited α]{lt}{d d':Array α}(h:PermIn 0 d.size d d')(hs:SortedIn lt 0 d.size d'):d'.toList.Perm d.toList/\d'.toList.Pairwise (fun x y=>lt y x=false):=by
 have hsz:=h.1;have hp:=h.2.2;have e:d'.extract 0 d.size=d':=by rw[<-hsz,Array.extract_size]
 rw[Array.extract_size,e] at hp;refine⟨hp,ZBa.2 fun i j hi hj hij=> ?_⟩;rw[ZA8] at hi hj;have:=hs i j (ZBI _) hij (by omega)
 simp_all
theorem rHZ{l:List bP}(h:∀x∈l,okP x=true):∃l',xJ l=some l'/\l'.Perm l/\(l'.map (·.1)).Pairwise (·<=·):=by
 have hl:CY l=some (l.attach.map fun x=>⟨x.1,h x.1 x.2⟩):=by unfold CY;rw[dif_pos h]
 generalize ht:(l.attach.map fun x=>(⟨x.1,h x.1 x.2⟩:xI))=t at hl;have hv:=mLZ l t hl;have hs:=hJZ swoP t
 let⟨s1,s2⟩:=nrZ hs.1 hs.2
 refine⟨(oL (ltOf cfP) t).map fun x=>x.1,by simp_all[xJ],?_,?_⟩
 ·have:=s1.map fun x:xI=>x.1;rw[hv] at this;exact this
 ·rw[List.map_map,List.pairwise_map];refine List.Pairwise.imp (fun{a b} hab=> ?_) s2;have hab:=ZCq hab;unfold cfP at hab;simp;omega
theorem mlZ(gone:List bP)(life w win q)(ks:List cS)(l:List Ino)(pl:List fC)(dead:List bP)(hg:gone.length<=10000000)(hd:dead.length<=1000000):
 lQ aB gone (0,(life,(w,(win,(ks,(q,(l,(pl,(dead,gone)))))))))=some (life,(w,(win,(ks,(q,(l,(pl,(dead++gone.filter fun p=> !dG p,gone)))))))):=by
 unfold lQ;have e0:((0:Int),(life,(w,(win,(ks,(q,(l,(pl,(dead,gone)))))))))=(fun k:Nat=>((k:Int),(life,(w,(win,(ks,(q,(l,(pl,(dead++(gone.take k).filter (fun p=> !dG p),gone)))))))))) 0:=by simp
 refine(congrArg (iter aB _) e0).trans ?_;refine aoZ (fun k:Nat=>((k:Int),(life,(w,(win,(ks,(q,(l,(pl,(dead++(gone.take k).filter (fun p=> !dG p),gone)))))))))) gone.length (by omega) (fun k hk=> ?_) ?_
 ·obtain⟨r,hr⟩:∃r,gone[k]? =some r:=⟨_,ZAC hk⟩;have hf:=by
   have:=ZBe (fun p=> !dG p) (gone.take k);rw[ZAS] at this;omega
  show kU aB gone (k:Int) life w win ks q l pl (dead++(gone.take k).filter (fun p=> !dG p)) gone=_;unfold kU;rw[ZAJ (by omega),acZ hk,ZAA,hr,ZAA,aOZ hr,ZCo];cases hh:dG r
  ·rw[show((r.1==0)&&(r.2==0))=false from hh];simp only[ZAn,ZAK];rw[aeZ (by simp only[ZAF,ZAm,asZ,ZAe];omega),ZAA,w64 (by omega),ZBs (by rw[hh];rfl),List.filter_nil,ZAp]
   rfl
  ·rw[show((r.1==0)&&(r.2==0))=true from hh];simp only[ZAQ,ZAD,ZAA];rw[w64 (by omega),ZCV (by rw[hh];decide),List.filter_nil,ZAo]
   rfl
 ·show kU aB gone ((gone.length:Nat):Int) life w win ks q l pl _ gone=_;unfold kU;rw[ZAE (by omega),ZAD,ZAu]
theorem k5Z{gone:List bP}{life w win q}{ks:List cS}{l:List Ino}{pl:List fC}{dead dead':List bP}(hg:gone.length<=10000000)(hd:dead.length<=1000000)(hs:xJ (dead++gone.filter fun p=> !dG p)=some dead')(hl:dead'.length<=65536)(hw:w<=1099511627776):
 wR aB life w win ks q l pl dead gone=some (true,(life,(w,(win,(ks,(q,(l,(pl,(gone,dead'))))))))):=by
 unfold wR Pb Pc Pd Pe Pf Pg PG;rw[mlZ gone life w win q ks l pl dead hg hd,ZAA];unfold CG;rw[aeZ (by grind[ZBX]),hs,ZAA,ZAJ (by omega),ZAK,ZAJ hw]
theorem oQZ(L):aO L=(L.map (·.1)).filter (fun k=>k !=0):=by
 rw[List.filter_map]
 rfl
theorem fwZ{L}{i}{o p}(h:L[i]? =some o)(e:o.1=p.1):aO (L.set i p)=aO L:=by
 simp_all[oQZ,dNZ]
theorem fzZ{L}{i}{o p}(h:L[i]? =some o)(e:o.1=0)(hp:p.1≠0):(aO (L.set i p)).Perm (aO L++[p.1]):=by
 have hi:=(ZAB.1 h).1;have e1:L=L.take i++o::L.drop (i+1):=by
  rw[<-(ZAB.1 h).2,<-List.drop_eq_getElem_cons hi,ZBA]
 rw[List.set_eq_take_append_cons_drop,ZAN hi]
 conv=>rhs;rw[e1]
 rw[show L.take i++p::L.drop (i+1)=L.take i++([p]++L.drop (i+1)) from rfl,show L.take i++o::L.drop (i+1)=L.take i++([o]++L.drop (i+1)) from rfl,axZ,axZ,axZ,axZ,cjZ hp,c0Z e,ZAp]
 grind
def qY(P:List bP)(wh:Nat->Bool)(a:Nat)(w:Int)(j:Nat):Int:=if dG (pAt P (a+j))=true then(dE P wh a j w).1+1 else(pAt P (a+j)).1
theorem eJZ(P)(wh)(a)(w):∀(n j),j<n->(dE P wh a n w).2.1[j]? =some (((a+j:Nat):Int),(pAt P (a+j),qY P wh a w j))
 |n+1,j,h=>by
  have hl:=(b0Z P wh a w n).1;unfold qY;by_cases hj:j<n
  ·have ih:=eJZ P wh a w n j hj;show(gJ P wh (a+n) (dE P wh a n w)).2.1[j]? =_;unfold gJ;split
   ·rw[ZAT (by omega)];exact ih
   ·rw[ZAT (by omega)];exact ih
  ·obtain rfl:j=n:=by omega
   show(gJ P wh (a+j) (dE P wh a j w)).2.1[j]? =_;unfold gJ;split
   ·rw[ZAV (by omega),hl,ZBv];rfl
   ·rw[ZAV (by omega),hl,ZBv];rfl
theorem mvZ(P)(wh)(a)(w)(k):(dE P wh a (k+1) w).1=if dG (pAt P (a+k))=true then(dE P wh a k w).1+1 else(dE P wh a k w).1:=by
 grind[gJ,dE]
def wrF(l:List eV)(vs:List Int):Nat->Int×List bP->Int×List bP
 |0,s=>s
 |k+1,s=>((if((l[k]?).getD (0,((0,0),0))).2.2>(wrF l vs k s).1 then((l[k]?).getD (0,((0,0),0))).2.2 else(wrF l vs k s).1),(wrF l vs k s).2.set ((l[k]?).getD (0,((0,0),0))).1.toNat (((l[k]?).getD (0,((0,0),0))).2.2,(vs[k]?).getD 0))
def gK(P:List bP)(N:Nat):List bP:=P.take N++List.replicate (N-P.length) (0,0)
theorem mZZ(P)(N):(gK P N).length=N:=by grind[gK]
theorem sNZ(P){N i}(h:i<N):(gK P N)[i]? =some (pAt P i):=by
 unfold gK pAt
 grind
structure Wrt (P:List bP) (wh:Nat->Bool) (a:Nat) (w:Int) (N:Nat) (vs:List Int) (k:Nat) (s:Int×List bP):Prop where
 e:s.1=(dE P wh a k w).1
 n:s.2.length=N
 far:∀i,a+k<=i->s.2[i]? =(gK P N)[i]?
 st:∃fresh:List Int,(aO s.2).Perm (aO (gK P N)++fresh)/\fresh.Nodup/\∀x∈fresh,w<x/\x<=s.1
 ok:∀p∈s.2,p∈gK P N\/∃j,j<k/\p=(qY P wh a w j,(vs[j]?).getD 0)/\1<=p.1/\p.1<=s.1
theorem lQZ{P}{wh}{a n N}{w W}{vs}(hN0:n≠0->a+n<=N)(hP:∀p∈P,cV W p)(hW:W<=w)(hw:0<=w):∀k,k<=n->Wrt P wh a w N vs k (wrF (dE P wh a n w).2.1 vs k (w,gK P N))
 |0,_=>⟨rfl,mZZ P N,fun _ _=>rfl,⟨[],by simp[wrF],List.nodup_nil,fun x hx=>by grind⟩,fun p hp=>.inl hp⟩
 |k+1,hk=>by
  have ih:=lQZ (vs:=vs) (wh:=wh) hN0 hP hW hw k (by omega);have hN:=hN0 (by omega);have hf:=b0Z P wh a w k;have aG:=eJZ P wh a w n k (by omega);have hold:(wrF (dE P wh a n w).2.1 vs k (w,gK P N)).2[a+k]? =some (pAt P (a+k)):=by rw[ih.far _ (ZAL _),sNZ P (by omega)]
  let⟨fr,f1,f2,f3⟩:=ih.st
  have hw1:=ih.e;generalize hs:wrF (dE P wh a n w).2.1 vs k (w,gK P N)=s at*;have e:wrF (dE P wh a n w).2.1 vs (k+1) (w,gK P N)=((if qY P wh a w k>s.1 then qY P wh a w k else s.1),s.2.set (a+k) (qY P wh a w k,(vs[k]?).getD 0)):=by
   unfold wrF;rw[aG,hs];simp only[ZCk,ZBw]
  rw[e];have hpm:pAt P (a+k)=(0,0)\/pAt P (a+k)∈P:=by
   unfold pAt;cases hx:P[a+k]? with
   |none=>simp_all
   |some p=>grind
  have far:∀i,a+(k+1)<=i->(s.2.set (a+k) (qY P wh a w k,(vs[k]?).getD 0))[i]? =(gK P N)[i]? :=fun i hi=>by
   rw[ZAa (by omega)];exact ih.far i (by omega)
  have mem:∀p∈s.2.set (a+k) (qY P wh a w k,(vs[k]?).getD 0),p∈s.2\/p=(qY P wh a w k,(vs[k]?).getD 0):=fun p hp=>List.mem_or_eq_of_mem_set hp;cases hh:dG (pAt P (a+k))
  ·have hst:qY P wh a w k=(pAt P (a+k)).1:=by unfold qY;rw[hh];rfl
   have hin:=hpm.resolve_left fun z=>by rw[z] at hh;cases hh
   have hok:1<=(pAt P (a+k)).1/\(pAt P (a+k)).1<=W:=by
    rcases hP _ hin with z|z
    ·unfold dG at hh;rw[z.1,z.2] at hh;cases hh
    ·exact⟨z.1,z.2.1⟩
   rw[hst] at far mem⊢;have hle:¬(pAt P (a+k)).1>s.1:=by omega
   rw[ZAM hle];refine⟨by rw[mvZ,hh,ZAM (by decide)];exact hw1,by rw[ZAv];exact ih.n,far,⟨fr,by
    show(aO (s.2.set (a+k) ((pAt P (a+k)).1,(vs[k]?).getD 0))).Perm _;rw[fwZ (p:=((pAt P (a+k)).1,(vs[k]?).getD 0)) hold rfl];exact f1,f2,f3⟩,fun p hp=> ?_⟩
   rcases mem p hp with h|h
   ·rcases ih.ok p h with z|⟨j,j1,j2,j3⟩
    ·exact .inl z
    ·exact .inr ⟨j,by omega,j2,j3⟩
   grind
  ·have hst:qY P wh a w k=s.1+1:=by unfold qY;rw[hh,ZAN rfl,hw1]
   rw[hst] at far mem⊢;rw[ZAN (by omega)];have h0:=by unfold dG at hh;simp only[ZAF,ZBz] at hh;exact hh.1
   refine⟨by rw[mvZ,hh,ZAN rfl,hw1],by rw[ZAv];exact ih.n,far,⟨fr++[s.1+1],?_,?_,?_⟩,fun p hp=> ?_⟩
   ·rw[<-List.append_assoc];exact(fzZ hold h0 (by simp only;omega)).trans (f1.append_right _)
   ·rw[ZBP];exact⟨f2,by simp,fun x hx y hy=>by
     rw[ZCJ] at hy;have:=(f3 x hx).2;omega⟩
   ·intro x hx;rcases ZAc.1 hx with h|h
    ·have:=f3 x h;exact⟨this.1,by simp only;omega⟩
    ·rw[ZCJ] at h;simp only;omega
   ·rcases mem p hp with h|h
    ·rcases ih.ok p h with z|⟨j,j1,j2,j3⟩
     ·exact .inl z
     ·exact .inr ⟨j,by omega,j2,by simp only;omega⟩
    ·exact .inr ⟨k,by omega,by rw[hst];exact h,by rw[h];simp only;omega⟩
theorem o2Z(P:List bP)(n):aW (List.replicate n (0,0)) 0 (List.take (List.replicate (α:=Int×Int) n (0,0)).length P)=gK P n:=by
 unfold aW gK
 grind
theorem oTZ{l1:List Ino}{i q N a n:Nat}{x}{w win life}{ks:List cS}{pl:List fC}{dead gone:List bP}{wh}{vs}(hx:l1[i]? =some x)(hl:l1.length<=500)
 (hs:0<=x.2.2.2.2.1/\x.2.2.2.2.1<=65536)(hq:16<=q/\q<=65)(hN:(x.2.2.2.2.1.toNat+q-1)/q=N)(hn0:n≠0->a+n<=N)(hP:x.2.2.2.2.2.1.length<=4096)(hv:vs.length=n)(hnn:n<=100000)(hg:gone.length<=5000000):
 uC aB ((i:Int)+1) (dE x.2.2.2.2.2.1 wh a n w).2.1 vs life w win ks (q:Int) l1 pl dead gone=
  some (life,((wrF (dE x.2.2.2.2.2.1 wh a n w).2.1 vs n (w,gK x.2.2.2.2.2.1 N)).1,(win,(ks,((q:Int),(l1.set i (pL x (wrF (dE x.2.2.2.2.2.1 wh a n w).2.1 vs n (w,gK x.2.2.2.2.2.1 N)).2),(pl,(dead,gone++x.2.2.2.2.2.1.drop (min x.2.2.2.2.2.1.length N))))))))):=by
 have hi:=(ZAB.1 hx).1;have hN4:N<=4096:=by
  rw[<-hN];exact lZZ (by omega) (by omega)
 have hlen:(dE x.2.2.2.2.2.1 wh a n w).2.1.length=n:=(b0Z _ _ _ _ _).1;unfold uC Pb Pc Pd Pe Pf Pg Ph Pi PE PI;rw[w64 (by omega),show(i:Int)+1-1=(i:Int) by omega,acZ hi,ZAA,hx];simp only[ZAA];rw[show x.2.2.2.2.1=((x.2.2.2.2.1.toNat:Nat):Int) by omega,h2Z (by omega) (by omega),hN,ZAA];rw[b1Z (by omega) (by grind[asZ]),ZAA,ZBw,b1Z (by omega) (by omega),ZAA,ZBw,aeZ (by grind[ZAm,asZ])];rw[show(if((x.2.2.2.2.2.1.length:Nat):Int)<(N:Int) then((x.2.2.2.2.2.1.length:Nat):Int) else(N:Int))=((min x.2.2.2.2.2.1.length N:Nat):Int) by omega];rw[b1Z (by omega) (by omega),ZAA,ZBw,aeZ (by simp only[ZAF,ZAm,asZ,ZAx];omega),o2Z];have loop:∀g:List bP,lP aB (dE x.2.2.2.2.2.1 wh a n w).2.1 vs (i,(0,(life,(w,(win,(ks,((q:Int),(l1,(pl,(dead,(g,gK x.2.2.2.2.2.1 N)))))))))))=
  some (i,(life,((wrF (dE x.2.2.2.2.2.1 wh a n w).2.1 vs n (w,gK x.2.2.2.2.2.1 N)).1,(win,(ks,((q:Int),(l1,(pl,(dead,(g,(wrF (dE x.2.2.2.2.2.1 wh a n w).2.1 vs n (w,gK x.2.2.2.2.2.1 N)).2)))))))))):=fun g=>by
  unfold lP;refine aoZ (fun k:Nat=>(i,((k:Int),(life,((wrF (dE x.2.2.2.2.2.1 wh a n w).2.1 vs k (w,gK x.2.2.2.2.2.1 N)).1,(win,(ks,((q:Int),(l1,(pl,(dead,(g,(wrF (dE x.2.2.2.2.2.1 wh a n w).2.1 vs k (w,gK x.2.2.2.2.2.1 N)).2)))))))))))) n (by omega) (fun k hk=> ?_) ?_
  ·have hn:=hn0 (by omega);have aG:=eJZ x.2.2.2.2.2.1 wh a w n k hk;have hLn:∀k,(wrF (dE x.2.2.2.2.2.1 wh a n w).2.1 vs k (w,gK x.2.2.2.2.2.1 N)).2.length=N:=fun k=>by
    induction k<;>grind[mZZ,wrF,ZAv]
   have hLk:=hLn k;show kS aB (dE x.2.2.2.2.2.1 wh a n w).2.1 vs i (k:Int) life _ win ks (q:Int) l1 pl dead g _=_;unfold kS;rw[hlen,ZAJ (by omega),ZAK,acZ hk,ZAA,aG,ZAA,hv,acZ hk,ZAA,ZAC (by omega),ZAA,hLk];simp only;rw[acZ (by omega),ZAA,ZAC (by omega),ZAA,w64 (by omega)];show _=some (Sum.inl (i,(((k+1:Nat):Int),(life,((wrF (dE x.2.2.2.2.2.1 wh a n w).2.1 vs (k+1) (w,gK x.2.2.2.2.2.1 N)).1,(win,(ks,((q:Int),(l1,(pl,(dead,(g,(wrF (dE x.2.2.2.2.2.1 wh a n w).2.1 vs (k+1) (w,gK x.2.2.2.2.2.1 N)).2))))))))))));rw[show wrF (dE x.2.2.2.2.2.1 wh a n w).2.1 vs (k+1) (w,gK x.2.2.2.2.2.1 N)=((if qY x.2.2.2.2.2.1 wh a w k>(wrF (dE x.2.2.2.2.2.1 wh a n w).2.1 vs k (w,gK x.2.2.2.2.2.1 N)).1 then qY x.2.2.2.2.2.1 wh a w k else(wrF (dE x.2.2.2.2.2.1 wh a n w).2.1 vs k (w,gK x.2.2.2.2.2.1 N)).1),(wrF (dE x.2.2.2.2.2.1 wh a n w).2.1 vs k (w,gK x.2.2.2.2.2.1 N)).2.set (a+k) (qY x.2.2.2.2.2.1 wh a w k,vs[k]'(by omega))) by
    grind[wrF,aG,ZAC,ZCk,ZBw]]
   rfl
  ·show kS aB (dE x.2.2.2.2.2.1 wh a n w).2.1 vs i (n:Int) life _ win ks (q:Int) l1 pl dead g _=_
   simp_all[kS,ZAE,ZAD]
 rw[loop,ZAA];simp only;rw[hx,ZAA]
 rfl
def iK{β:Type}(r:aY)(e:β):Int×(Int×(Int×(Int×(Int×(Bool×(Int×(List UInt8×(List CJ×(Bool×(Int×β)))))))))):=(r.1,(r.2.1,(r.2.2.1,(r.2.2.2.1.1,(r.2.2.2.1.2,(r.2.2.2.2.1,(r.2.2.2.2.2.1,(r.2.2.2.2.2.2.1,(r.2.2.2.2.2.2.2.1,(r.2.2.2.2.2.2.2.2.1,(r.2.2.2.2.2.2.2.2.2,e)))))))))))
def UO(s:bT)(r:aY):bT:=(s.1,(s.2.1,((s.2.2.1.1,gI s.2.2.1.1 s.2.2.1.2 r),s.2.2.2)))
def NL(s:bT)(r:aY)(l:List Ino)(w:Int)(dead:List bP):bT:=(s.1,((l,w),((s.2.2.1.1,gI s.2.2.1.1 s.2.2.1.2 r),(s.2.2.2.1,dead))))
section
variable {s : bT} {q : Nat} {c : aX} {vs : List Int}
structure Ask (s:bT) (q:Nat) (c:aX) (vs:List Int):Prop where
 ok:lU s q
 two:(dN s q c).1.1=2
 xs:vZ c.2.1 s.2.2.1.2
 fit:JE aB (dN s q c).1 vs 0=some true
def cT(s:bT)(c:aX):aY:=pM c (aU (aI s.2.1) c)
theorem Ask.right(h:Ask s q c vs):bC (cT s c)=true:=rqZ h.ok.t (cDZ h.two).2.1 (cDZ h.two).2.2
theorem Ask.put(h:Ask s q c vs):put s.2.2.1 (cT s c)=((s.2.2.1.1,gI s.2.2.1.1 s.2.2.1.2 (cT s c)),0)/\fB (s.2.2.1.1,gI s.2.2.1.1 s.2.2.1.2 (cT s c))=true/\vZ c.2.1 (gI s.2.2.1.1 s.2.2.1.2 (cT s c))/\look (s.2.2.1.1,gI s.2.2.1.1 s.2.2.1.2 (cT s c)) c.1 c.2.1=(cT s c,1):=
 vMZ h.ok.c h.xs h.right (tGZ (cDZ h.two).2.1) (pPZ h.two)
theorem oNZ(h:Ask s q c vs)(h0:(aU (aI s.2.1) c).2.1≠0):mN aB s (q:Int) c vs 0=some (UO s (cT s c),iK (cT s c) (0:Int)):=by
 unfold mN Pa Pb Pc Pd Pe Pf Pg Ph Pi Pj Pk Pl Pm Pn Po Pp Pq Pr Ps Pt Pu Pv Pw Px Py Pz Pza Pzb Pzc Pzd Pze Pzf PD PH PL PM PT PY PZC PZF;rw[ejZ h.ok,ZAA,(cDZ h.two).1,h.fit];simp only[ZAd,ZAQ,ZAD,ZAA];rw[f2Z h.ok.t,ZAA,p5Z (bdZ h.ok.t)];simp[ZAR];rw[h.ok.own];have hd:(((doT (aU (aI s.2.1) c) c).2.1,((doT (aU (aI s.2.1) c) c).2.2.1,((doT (aU (aI s.2.1) c) c).2.2.2.1,(((doT (aU (aI s.2.1) c) c).2.2.2.2.1,(doT (aU (aI s.2.1) c) c).2.2.2.2.2.1),((doT (aU (aI s.2.1) c) c).2.2.2.2.2.2.1,((doT (aU (aI s.2.1) c) c).2.2.2.2.2.2.2.1,((doT (aU (aI s.2.1) c) c).2.2.2.2.2.2.2.2.1,((doT (aU (aI s.2.1) c) c).2.2.2.2.2.2.2.2.2.1,((doT (aU (aI s.2.1) c) c).2.2.2.2.2.2.2.2.2.2.1,(doT (aU (aI s.2.1) c) c).2.2.2.2.2.2.2.2.2.2.2.1))))))))):aY)=cT s c:=rfl;rw[hd,pwZ s.2.2.1 (cT s c) (bDZ h.ok.c) (bkZ h.right),h.put.1,show(doT (aU (aI s.2.1) c) c).2.2.2.1=(aU (aI s.2.1) c).2.1 from rfl,(ZAW.2 h0)]
 rfl
theorem lqZ(h:Ask s q c vs)(h0:(aU (aI s.2.1) c).2.1=0)(hop:¬(c.2.2.1=uO 5\/c.2.2.1=uO 6)){dead':List bP}
 (hs:xJ (s.2.2.2.2++(eE s.2.1.1 (aU (aI s.2.1) c).1.1.1 s.2.1.1.length).filter fun p=> !dG p)=some dead')(hl:dead'.length<=65536):
 mN aB s (q:Int) c vs 0=some (NL s (cT s c) (cJ (aU (aI s.2.1) c).1.1.1 (bJ s.2.1.1 (aU (aI s.2.1) c).1.1.1)) (aU (aI s.2.1) c).1.1.2 dead',iK (cT s c) (0:Int)):=by
 have hm:=khZ (bdZ h.ok.t) c
 let⟨st,sw⟩:=ngZ (m:=aI s.2.1) c fun _=>hop
 have hlen:s.2.1.1.length<=(aU (aI s.2.1) c).1.1.1.length/\(aU (aI s.2.1) c).1.1.1.length<=500:=⟨by have:=st.len;simp_all[aI],hm.t.r.len.2⟩;have hP:∀x∈s.2.1.1,x.2.2.2.2.2.1.length<=4096:=fun x hx=>by
  let⟨i,hi⟩:=ZAP hx
  have o:=h.ok.t.r.ino i x hi;cases hu:x.2.2.1
  ·rw[(o.bare hu).2.2.2.1];simp
  ·cases hd:x.2.2.2.1
   ·exact(o.file hu hd).2.2.1
   ·rw[(o.dir hu hd).2.1];simp
 have hn:=fun i y hy=>hm.p i y hy;have hgl:=e6Z (l1:=(aU (aI s.2.1) c).1.1.1) hP s.2.1.1.length;have hTl:=h.ok.t.r.len;have hws:=h.ok.t.r.str;unfold mN Pa Pb Pc Pd Pe Pf Pg Ph Pi Pj Pk Pl Pm Pn Po Pp Pq Pr Ps Pt Pu Pv Pw Px Py Pz Pza Pzb Pzc Pzd Pze Pzf PD PH PL PM PT PY PZC PZF;rw[ejZ h.ok,ZAA,(cDZ h.two).1,h.fit];simp only[ZAd,ZAQ,ZAD,ZAA];rw[f2Z h.ok.t,ZAA,p5Z (bdZ h.ok.t)];simp only[ZAA,ZAR];rw[h.ok.own,ZAA];have hd:(((doT (aU (aI s.2.1) c) c).2.1,((doT (aU (aI s.2.1) c) c).2.2.1,((doT (aU (aI s.2.1) c) c).2.2.2.1,(((doT (aU (aI s.2.1) c) c).2.2.2.2.1,(doT (aU (aI s.2.1) c) c).2.2.2.2.2.1),((doT (aU (aI s.2.1) c) c).2.2.2.2.2.2.1,((doT (aU (aI s.2.1) c) c).2.2.2.2.2.2.2.1,((doT (aU (aI s.2.1) c) c).2.2.2.2.2.2.2.2.1,((doT (aU (aI s.2.1) c) c).2.2.2.2.2.2.2.2.2.1,((doT (aU (aI s.2.1) c) c).2.2.2.2.2.2.2.2.2.2.1,(doT (aU (aI s.2.1) c) c).2.2.2.2.2.2.2.2.2.2.2.1))))))))):aY)=cT s c:=rfl;rw[hd,pwZ s.2.2.1 (cT s c) (bDZ h.ok.c) (bkZ h.right),ZAA,h.put.1,show(doT (aU (aI s.2.1) c) c).2.2.2.1=(aU (aI s.2.1) c).2.1 from rfl,h0];simp only[putO,ZAd,ZAQ,ZAD];rw[show(doT (aU (aI s.2.1) c) c).1=(aU (aI s.2.1) c).1.1.2 from rfl,show(doT (aU (aI s.2.1) c) c).2.2.2.2.2.2.2.2.2.2.2.2.1=(aU (aI s.2.1) c).1.1.1 from rfl,npZ hlen hP hn,ZAA,op5,op6,ZAE (fun e=>hop (.inl e)),ZAE (fun e=>hop (.inr e))];simp only[ZAD,ZAA];rw[k5Z (by omega) (by have:=h.ok.dn;omega) hs hl (by rw[sw];exact hws.2),ZAA];simp only[ZAQ,ZAD,ZAR,ZAA,ZBt];have e0:(cT s c).2.2.1=0:=h0;unfold iK;rw[e0]
 rfl
end
def atC(c:aX):Nat:=(c.2.2.2.1.1-1).toNat
def pN(x:Ino)(q:Nat)(c:aX):Nat:=((dO x c).toNat+q-1)/q
structure Wri (s:bT) (q:Nat) (c:aX) (x:Ino):Prop where
 hop:c.2.2.1=uO 5\/c.2.2.1=uO 6
 h0:(aU (aI s.2.1) c).2.1=0
 f:jT s c x
 b5:c.2.2.1=uO 5->c.2.2.2.2.2.2.2.1+((c.2.2.2.2.2.2.2.2.2.length:Nat):Int)<=65536
 r:aL c=true
theorem r8Z{s}{q}{c}(hr:aL c=true)(hop:c.2.2.1=uO 5\/c.2.2.1=uO 6)(h0:(aU (aI s.2.1) c).2.1=0):∃x,Wri s q c x:=by
 rcases hop with h5|h6
 ·let⟨⟨x,hx⟩,hl⟩:=tXZ hr h5 h0
  exact⟨x,.inl h5,h0,hx,fun _=>hl,hr⟩
 ·let⟨⟨x,hx⟩,hl⟩:=uBZ hr h6 h0
  exact⟨x,.inr h6,h0,hx,fun h5=>by rw[h6] at h5;exact absurd h5 (by decide),hr⟩
theorem mbZ{x}{q}{c}(hq:16<=q)(hb:c.2.2.2.2.2.2.2.2.2.length<=4096):fP x q c<=258:=by
 unfold fP;generalize c.2.2.2.2.2.2.2.1.toNat=o;generalize c.2.2.2.2.2.2.2.2.2.length=n at*;split
 ·split
  ·omega
  ·have h1:(o+n+q-1)/q<=o/q+258:=by
    refine lZZ (by omega) ?_;have h2:=Nat.div_add_mod o q;have h3:=ZCn o (show 0<q by omega);have h4:258*16<=258*q:=ZB8 _ hq;have h5:1*q<=1*q:=ZAL _;rw[ZAr,ZCw (o/q) q];generalize q*(o/q)=z at*;have h6:257*16<=257*q:=ZB8 _ hq;omega
   omega
 grind
theorem Wri.span{s}{q}{c}{x}(h:Wri s q c x)(hq:16<=q):fP x q c≠0->fO q c+fP x q c<=pN x q c:=by
 let⟨ho,hn,hb⟩:=a6Z h.r
 unfold fP fO pN dO;by_cases e5:c.2.2.1=uO 5
 ·simp only[ZAN e5];by_cases hl:c.2.2.2.2.2.2.2.2.2.length=0
  ·simp_all
  ·rw[ZAM hl,ZAM hl];intro _;have h1:=qaZ (q:=q) (a:=c.2.2.2.2.2.2.2.1.toNat) (b:=c.2.2.2.2.2.2.2.1.toNat+c.2.2.2.2.2.2.2.2.2.length) (by omega) (by omega);have h2:=ljZ (q:=q) (a:=c.2.2.2.2.2.2.2.1.toNat+c.2.2.2.2.2.2.2.2.2.length) (b:=(max x.2.2.2.2.1 (c.2.2.2.2.2.2.2.1+((c.2.2.2.2.2.2.2.2.2.length:Nat):Int))).toNat) (by omega);omega
 ·simp only[ZAM e5];split
  ·rename_i hc;intro _;have h1:=Nat.div_add_mod c.2.2.2.2.2.2.2.2.1.toNat q;have:=(oOZ (k:=c.2.2.2.2.2.2.2.2.1.toNat/q) (to:=c.2.2.2.2.2.2.2.2.1.toNat) (q:=q) (by omega)).2 (by
    rw[ZCw];have:=hc.2.1;omega)
   omega
  ·exact fun z=>absurd rfl z
theorem jMZ{s}{q}{c}{x}(h2:(dN s q c).1.1=2)(h:Wri s q c x):dN s q c=((2,(zR,((lK x s.2.1.2 q c).2.2,(lK x s.2.1.2 q c).2.1))),0):=by
 let⟨_,hr,ha⟩:=cDZ h2
 unfold dN at h2⊢;rw[ZAN hr,ha,ZAM (by decide)] at h2⊢;split at h2
 ·cases h2
 ·rename_i h1;rw[ZAM h1];split at h2
  ·cases h2
  ·rename_i h3;rw[ZAM h3,ZAN ⟨h.h0,h.hop⟩,h.f.p]
theorem vyZ{s}{q}{c}(h2:(dN s q c).1.1=2)(h:¬((aU (aI s.2.1) c).2.1=0/\(c.2.2.1=uO 5\/c.2.2.1=uO 6))):dN s q c=((2,(zR,([],[]))),0):=by
 let⟨_,hr,ha⟩:=cDZ h2
 unfold dN at h2⊢;rw[ZAN hr,ha,ZAM (by decide)] at h2⊢;split at h2
 ·cases h2
 ·rename_i h1;rw[ZAM h1];split at h2
  ·cases h2
  ·rename_i h3;rw[ZAM h3,ZAM h]
def wrL(s:bT)(q:Nat)(c:aX)(vs:List Int)(x:Ino):Int×List bP:=wrF (lK x s.2.1.2 q c).2.1 vs (fP x q c) (s.2.1.2,gK x.2.2.2.2.2.1 (pN x q c))
def l1W(s:bT)(c:aX)(x:Ino):List Ino:=(aI s.2.1).1.1.set (atC c) (wS (dU x) (dO x c))
def lW(s:bT)(q:Nat)(c:aX)(vs:List Int)(x:Ino):List Ino:=(cJ (l1W s c x) (bJ s.2.1.1 (l1W s c x))).set (atC c) (pL (wS x (dO x c)) (wrL s q c vs x).2)
def vP(s:bT)(q:Nat)(c:aX)(x:Ino):List bP:=eE s.2.1.1 (l1W s c x) s.2.1.1.length++x.2.2.2.2.2.1.drop (min x.2.2.2.2.2.1.length (pN x q c))
theorem fCZ(t):(aI t).1.1.length=t.1.length:=by simp[aI]
theorem h7Z{s}{q}{c}{x}(h:Wri s q c x):(l1W s c x)[atC c]? =some (wS (dU x) (dO x c)):=by
 exact ZAU (by rw[fCZ];exact(ZAB.1 h.f.at_).1)
theorem vsZ{s}{q}{c}{x}(h:Wri s q c x):(cJ (l1W s c x) (bJ s.2.1.1 (l1W s c x)))[atC c]? =some (wS x (dO x c)):=by
 have hx:s.2.1.1[atC c]? =some x:=h.f.at_;rw[bNZ _ (h7Z h)];have:bJ s.2.1.1 (l1W s c x) (atC c)=x.2.2.2.2.2.1:=by
  unfold bJ;rw[hx,h7Z h];simp only;unfold mS;rw[show(wS (dU x) (dO x c)).2.2.1=x.2.2.1 from rfl,show(wS (dU x) (dO x c)).2.1=x.2.1 from rfl,h.f.used,ZAd];rfl
 rw[this];rfl
theorem hwZ{l}{w}(h:aM (l,w)):∀x∈l,x.2.2.2.2.2.1.length<=4096/\∀p∈x.2.2.2.2.2.1,cV w p:=fun x hx=>by
 let⟨i,hi⟩:=ZAP hx
 have o:=h.r.ino i x hi;cases hu:x.2.2.1
 ·rw[(o.bare hu).2.2.2.1];simp
 ·cases hd:x.2.2.2.1
  ·exact(o.file hu hd).2.2
  ·rw[(o.dir hu hd).2.1];simp
section
variable {s : bT} {q : Nat} {c : aX} {vs : List Int} {x : Ino}
theorem ltZ(h:Ask s q c vs)(hw:Wri s q c x)(hv:vs.length=fP x q c){dead':List bP}
 (hs:xJ (s.2.2.2.2++(vP s q c x).filter fun p=> !dG p)=some dead')(hl:dead'.length<=65536)(hb:(wrL s q c vs x).1<=1099511627776):
 mN aB s (q:Int) c vs 0=some (NL s (cT s c) (lW s q c vs x) (wrL s q c vs x).1 dead',iK (cT s c) (0:Int)):=by
 have hm:=khZ (bdZ h.ok.t) c;obtain⟨r1,r2,r3⟩:=f3Z h.ok.t hw.r hw.hop hw.h0 hw.f;have e1:(aU (aI s.2.1) c).1.1.1=l1W s c x:=by rw[r1];rfl
 have e2:(aU (aI s.2.1) c).1.1.2=s.2.1.2:=by rw[r1]
 have hlen:s.2.1.1.length<=(l1W s c x).length/\(l1W s c x).length<=500:=⟨by simp_all[l1W,ZAv,fCZ,ZAL],by rw[<-e1];exact hm.t.r.len.2⟩;have hP:=fun x hx=>(hwZ h.ok.t x hx).1;have hn:∀(i:Nat) y,(l1W s c x)[i]? =some y->y.2.2.2.2.2.1=[]:=fun i y hy=>hm.p i y (by simp_all);have hgl:=e6Z (l1:=l1W s c x) hP s.2.1.1.length;have hTl:=h.ok.t.r.len;have hq:=h.ok.q;have hxP:=hP x (ZAG hw.f.at_);have hlm:(cJ (l1W s c x) (bJ s.2.1.1 (l1W s c x))).length<=500:=by rw[clZ];exact hlen.2
 have hmn:=mbZ (x:=x) hq.1 (a6Z hw.r).2.2;have hpl:=jMZ h.two hw;have hid:c.2.2.2.1.1=((atC c:Nat):Int)+1:=by have:=hw.f.h1;unfold atC;omega
 unfold mN Pa Pb Pc Pd Pe Pf Pg Ph Pi Pj Pk Pl Pm Pn Po Pp Pq Pr Ps Pt Pu Pv Pw Px Py Pz Pza Pzb Pzc Pzd Pze Pzf PD PH PL PM PT PY PZC PZF;rw[ejZ h.ok,ZAA,(cDZ h.two).1,h.fit,h.ok.own];simp only[ZAd,ZAQ,ZAD,ZAA];rw[f2Z h.ok.t,ZAA,show(((aI s.2.1).1.1,(aI s.2.1).1.2),(aI s.2.1).2)=aI s.2.1 from rfl,p5Z (bdZ h.ok.t),ZAA];simp only[ZAA,ZAR];rw[h.ok.own,ZAA];have hd:(((doT (aU (aI s.2.1) c) c).2.1,((doT (aU (aI s.2.1) c) c).2.2.1,((doT (aU (aI s.2.1) c) c).2.2.2.1,(((doT (aU (aI s.2.1) c) c).2.2.2.2.1,(doT (aU (aI s.2.1) c) c).2.2.2.2.2.1),((doT (aU (aI s.2.1) c) c).2.2.2.2.2.2.1,((doT (aU (aI s.2.1) c) c).2.2.2.2.2.2.2.1,((doT (aU (aI s.2.1) c) c).2.2.2.2.2.2.2.2.1,((doT (aU (aI s.2.1) c) c).2.2.2.2.2.2.2.2.2.1,((doT (aU (aI s.2.1) c) c).2.2.2.2.2.2.2.2.2.2.1,(doT (aU (aI s.2.1) c) c).2.2.2.2.2.2.2.2.2.2.2.1))))))))):aY)=cT s c:=rfl;rw[hd,pwZ s.2.2.1 (cT s c) (bDZ h.ok.c) (bkZ h.right),ZAA,h.put.1,show(doT (aU (aI s.2.1) c) c).2.2.2.1=(aU (aI s.2.1) c).2.1 from rfl,hw.h0];simp only[putO,ZAd,ZAQ,ZAD];rw[show(doT (aU (aI s.2.1) c) c).1=(aU (aI s.2.1) c).1.1.2 from rfl,show(doT (aU (aI s.2.1) c) c).2.2.2.2.2.2.2.2.2.2.2.2.1=(aU (aI s.2.1) c).1.1.1 from rfl,e1,e2,npZ hlen hP hn,ZAA,op5,op6];have step:∀{α} (S:α),(bif decide (c.2.2.1=uO 5) then some (true,S) else some (decide (c.2.2.1=uO 6),S))=some (true,S):=fun S=>by
  rcases hw.hop with e|e<;>rw[e]<;>rfl
 rw[step,ZAA];simp only[ZAK,ZAR,ZAA];rw[hpl];simp only;have hwr:=oTZ (x:=wS x (dO x c)) (N:=pN x q c) (a:=fO q c) (n:=fP x q c) (w:=s.2.1.2) (win:=s.2.2.1.1) (life:=s.1) (ks:=gI s.2.2.1.1 s.2.2.1.2 (cT s c)) (pl:=s.2.2.2.1) (dead:=s.2.2.2.2) (gone:=eE s.2.1.1 (l1W s c x) s.2.1.1.length) (wh:=iW q c) (vs:=vs) (q:=q) (vsZ hw) hlm r3 hq rfl (hw.span hq.1) hxP hv (by omega) (ZBD hgl (ZBD (ZAf _ hTl.2) (by decide)));rw[hid];rw[show uC aB (((atC c:Nat):Int)+1) (lK x s.2.1.2 q c).2.1 _ _ _ _ _ _ _ _ _ _=_ from hwr,ZAA];have hdr:(x.2.2.2.2.2.1.drop (min x.2.2.2.2.2.1.length (pN x q c))).length<=4096:=by rw[ZAx];omega
 have hd6:=h.ok.dn;refine(congrArg (fun o=>Option.bind o _) (k5Z (gone:=vP s q c x) (w:=(wrL s q c vs x).1) (by grind[vP,ZAe,ZAf]) (by omega) hs hl hb)).trans ?_;rw[ZAA];simp only[ZAQ,ZAD,ZAR,ZAA,ZBt];have e0:(cT s c).2.2.1=0:=hw.h0;unfold iK;rw[e0]
 rfl
end
theorem fRZ{w}{l}(h:∀p∈l,cV w p):(l.filter fun p=> !dG p).map (·.1)=aO l:=by
 congr 1;refine List.filter_congr fun p hp=> ?_;rcases h p hp with z|z
 ·simp_all[dG]
 ·have:p.1≠0:=by omega
  show(!((p.1==0)&&(p.2==0)))= !(p.1==0)
  simp_all
theorem r5Z:∀{l:List Int} {a b},l.Pairwise (·<·)->(∀x∈l,a<x/\x<=b)->l.length<=(b-a).toNat
 |[],_,_,_,_=>ZBI _
 |x::r,a,b,h,hb=>by
  let⟨h1,h2⟩:=ZA6.1 h
  have:=r5Z h2 fun y hy=>⟨h1 y hy,(hb y (ZAb _ hy)).2⟩
  grind[ZAk,ZBl]
theorem hHZ{t}(h:aM t){k}(hk:k∈aD t.1):1<=k/\k<=t.2:=by
 let⟨i,x,hx,hk⟩:=sDZ.1 hk
 obtain⟨h0,p,hp,rfl⟩:=eeZ.1 hk;rcases(hwZ h x (ZAG hx)).2 p hp with z|z
 ·exact absurd z.1 h0
 omega
section
variable {s : bT} {q : Nat} {c : aX} {vs : List Int}
theorem ruZ(h:Ask s q c vs){l2}{w2}{gone}(ht:aM (l2,w2))
 (hl:∀(i:Nat) x,l2[i]? =some x->x.2.2.1=true->x.2.2.2.1=false->x.2.2.2.2.2.1.length=(x.2.2.2.2.1.toNat+q-1)/q)(hw:s.2.1.2<=w2)(hw2:w2<=65536)
 {fresh}(hp:(aD l2++aO gone).Perm (aD s.2.1.1++fresh))(fn:fresh.Nodup)(ff:∀x∈fresh,s.2.1.2<x/\x<=w2)(hg:∀p∈gone,cV s.2.1.2 p):
 ∃dead',xJ (s.2.2.2.2++gone.filter fun p=> !dG p)=some dead'/\dead'.Perm (s.2.2.2.2++gone.filter fun p=> !dG p)/\dead'.length<=65536/\lU (NL s (cT s c) l2 w2 dead') q:=by
 have hok:=h.ok;have in_:∀p∈gone.filter (fun p=> !dG p),1<=p.1/\p.1<=s.2.1.2/\(1<=p.2/\p.2<=1099511627776)/\p.1∈aO gone:=fun p hp=>by
  obtain⟨h1,h2⟩:=ZBi.1 hp;rcases hg p h1 with z|z
  ·unfold dG at h2;rw[z.1,z.2] at h2;cases h2
  ·exact⟨z.1,z.2.1,⟨z.2.2.1,z.2.2.2⟩,eeZ.2 ⟨by omega,p,h1,rfl⟩⟩
 have hst:=hok.t.r.str;obtain⟨dead',e1,e2,e3⟩:=rHZ (l:=s.2.2.2.2++gone.filter fun p=> !dG p) fun p hp=>by
  refine ZAJ ?_;rcases ZAc.1 hp with z|z
  ·have:=(hok.d p z).1;omega
  ·have:=in_ p z;omega
 have keys:(dead'.map (·.1)).Perm (s.2.2.2.2.map (·.1)++aO gone):=by
  have:=e2.map (·.1);rwa [ZB7,fRZ hg] at this
 have nod:(aD s.2.1.1++fresh).Nodup:=ZBP.2 ⟨hok.t.r.nod,fn,fun a ha b hb=>by
  have:=hHZ hok.t ha;have:=ff b hb;omega⟩
 have nod2:=ZBP.1 (hp.nodup_iff.2 nod);have dis:∀p∈s.2.2.2.2,p.1∉aD l2++aO gone:=fun p hp' hm=>by
  have d:=hok.d p hp';rcases ZAc.1 (hp.mem_iff.1 hm) with z|z
  ·exact d.2.2 z
  ·have:=ff _ z;omega
 have asc:(dead'.map (·.1)).Pairwise (·<·):=by
  have nd:(dead'.map (·.1)).Nodup:=keys.nodup_iff.2 (ZBP.2 ⟨hok.ds.imp fun hab=>by omega,nod2.2.1,fun a ha b hb e=>by
   obtain⟨p,hp',rfl⟩:=ZBM.1 ha;exact dis p hp' (ZAc.2 (.inr (e▸hb)))⟩)
  exact List.Pairwise.imp₂ (fun a b h1 h2=>by omega) e3 nd
 have dd:∀p∈dead',(1<=p.1/\p.1<=w2)/\(1<=p.2/\p.2<=1099511627776)/\p.1∉aD l2:=fun p hp'=>by
  rcases ZAc.1 (e2.mem_iff.1 hp') with z|z
  ·have d:=hok.d p z;exact⟨⟨d.1.1,by omega⟩,d.2.1,fun hm=>dis p z (ZAc.2 (.inl hm))⟩
  ·have d:=in_ p z;exact⟨⟨d.1,by omega⟩,d.2.2.1,fun hm=>nod2.2.2 _ hm _ d.2.2.2 rfl⟩
 have len:dead'.length<=65536:=by
  have:=r5Z (a:=0) (b:=w2) asc fun x hx=>by
   obtain⟨p,hp',rfl⟩:=ZBM.1 hx;have:=(dd p hp').1;omega
  rw[ZAl] at this;omega
 exact⟨dead',e1,e2,len,⟨hok.life,ht,h.put.2.1,hok.pl,hl,hok.q,asc,dd,len⟩⟩
end
def NM(l0 l1:List Ino):Prop:=∀(i:Nat) y,l1[i]? =some y->y.2.2.1=true->(∃x,l0[i]? =some x/\x.2.2.1=true/\x.2.1=y.2.1/\x.2.2.2.1=y.2.2.2.1)\/(y.2.2.2.2.1=0/\∀x,l0[i]? =some x->x.2.1≠y.2.1)
theorem fiZ{l0 l1}{i}{x y}(hx:l0[i]? =some x)(hy:l1[i]? =some y)(hu:y.2.2.1=true)(hg:x.2.1=y.2.1):bJ l0 l1 i=x.2.2.2.2.2.1:=by
 simp_all[bJ,ZAN,mS,ZAd]
theorem eTZ{l0 l1}{i}{y}(hy:l1[i]? =some y)(hn:y.2.2.1=true->∀x,l0[i]? =some x->x.2.1≠y.2.1):bJ l0 l1 i=[]:=by
 unfold bJ;rw[hy];cases hx:l0[i]? with
 |none=>rfl
 |some x=>
  simp only;unfold mS
  grind
theorem merge_ok{t}{l1}(h:aM t)(st:NM t.1 l1){i}{y}(hy:l1[i]? =some y):
 if y.2.2.1=true/\y.2.2.2.1=false then(bJ t.1 l1 i).length<=4096/\∀p∈bJ t.1 l1 i,cV t.2 p else bJ t.1 l1 i=[]:=by
 by_cases hu:y.2.2.1=true
 ·rcases st i y hy hu with⟨x,hx,xu,xg,xd⟩|⟨_,hno⟩
  ·rw[fiZ hx hy hu xg];have o:=h.r.ino i x hx;split
   ·rename_i hc;exact(o.file xu (xd.trans hc.2)).2.2
   ·rename_i hc;exact(o.dir xu (xd.trans (by cases e:y.2.2.2.1<;>simp_all))).2.1
  ·rw[eTZ hy fun _=>hno];split<;>simp
 simp_all[eTZ]
theorem iaZ{l0 l1}{w}(h:∀x∈l0,∀p∈x.2.2.2.2.2.1,cV w p):∀k,∀p∈eE l0 l1 k,cV w p
 |0,p,hp=>by cases hp
 |k+1,p,hp=>by
  rcases ZAc.1 ((hp)) with z|z
  ·exact iaZ h k p z
  grind[lA,ZAG]
theorem q8Z{l0 l1}(st:eO (l0.map dU) l1):NM l0 l1/\∀(i:Nat) y,l1[i]? =some y->y.2.2.1=true->(∃x,l0[i]? =some x/\x.2.2.1=true/\x.2.1=y.2.1/\x.2.2.2.1=y.2.2.2.1/\x.2.2.2.2.1=y.2.2.2.2.1)\/(y.2.2.2.2.1=0/\∀x,l0[i]? =some x->x.2.1≠y.2.1):=by
 have h2:∀(i:Nat) y,l1[i]? =some y->y.2.2.1=true->(∃x,l0[i]? =some x/\x.2.2.1=true/\x.2.1=y.2.1/\x.2.2.2.1=y.2.2.2.1/\x.2.2.2.2.1=y.2.2.2.2.1)\/(y.2.2.2.2.1=0/\∀x,l0[i]? =some x->x.2.1≠y.2.1):=fun i y hy hu=>by
  rcases st.at_ i y hy hu with⟨x,hx,a⟩|⟨z,hno⟩
  ·rw[ZAY] at hx;obtain⟨r,hr,rfl⟩:=ZAI.1 hx;exact .inl ⟨r,hr,a⟩
  ·exact .inr ⟨z,fun x hx=>hno (dU x) (by rw[ZAY,hx];rfl)⟩
 exact⟨fun i y hy hu=>(h2 i y hy hu).imp (fun⟨x,a,b,c,d,_⟩=>⟨x,a,b,c,d⟩) id,h2⟩
theorem gmZ{w v}(h:w<=v){p}(hp:cV w p):cV v p:=by
 rcases hp with z|z
 ·exact .inl z
 ·exact .inr ⟨z.1,by omega,z.2.2⟩
theorem kuZ(n):aO (List.replicate n (0,0))=[]:=by
 simp_all[aO,List.mem_replicate]
theorem lnZ(P)(N):aO (gK P N)=aO (P.take N):=by
 simp_all[gK,axZ,kuZ]
theorem usZ{P}{w}(h:∀p∈P,cV w p)(N):∀p∈gK P N,cV w p:=fun p hp=>by
 rcases ZAc.1 hp with z|z
 ·grind
 ·rw[(List.mem_replicate.1 z).2];exact .inl ⟨rfl,rfl⟩
def yP(s:bT)(q:Nat)(c:aX)(vs:List Int):List Ino:=
 if(aU (aI s.2.1) c).2.1=0 then
  if c.2.2.1=uO 5\/c.2.2.1=uO 6 then lW s q c vs (mR s c) else cJ (aU (aI s.2.1) c).1.1.1 (bJ s.2.1.1 (aU (aI s.2.1) c).1.1.1)
 else s.2.1.1
def ER(s:bT)(q:Nat)(c:aX)(vs:List Int):Int:=
 if(aU (aI s.2.1) c).2.1=0 then if c.2.2.1=uO 5\/c.2.2.1=uO 6 then(wrL s q c vs (mR s c)).1 else s.2.1.2 else s.2.1.2
def vQ(s:bT)(q:Nat)(c:aX):List bP:=
 if(aU (aI s.2.1) c).2.1=0 then if c.2.2.1=uO 5\/c.2.2.1=uO 6 then vP s q c (mR s c) else eE s.2.1.1 (aU (aI s.2.1) c).1.1.1 s.2.1.1.length else[]
structure Next (s:bT) (q:Nat) (c:aX) (vs:List Int) (s':bT):Prop where
 ok:lU s' q
 xs:vZ c.2.1 s'.2.2.1.2
 w:s.2.1.2<=s'.2.1.2/\s'.2.1.2<=s.2.1.2+258
 tree:s'.2.1.1=yP s q c vs
 ww:s'.2.1.2=ER s q c vs
 life:s'.1=s.1
 ca:s'.2.2.1=(s.2.2.1.1,gI s.2.2.1.1 s.2.2.1.2 (cT s c))
 dd:s'.2.2.2.2.Perm (s.2.2.2.2++(vQ s q c).filter fun p=> !dG p)
 st:∃fresh,(aD s'.2.1.1++s'.2.2.2.2.map (·.1)).Perm (aD s.2.1.1++s.2.2.2.2.map (·.1)++fresh)
section
variable {s : bT} {q : Nat} {c : aX} {vs : List Int}
theorem kGZ{d d' gone:List bP}{a b f}{w}(h:d'.Perm (d++gone.filter fun p=> !dG p))(hg:∀p∈gone,cV w p)(hp:(b++aO gone).Perm (a++f)):(b++d'.map (·.1)).Perm (a++d.map (·.1)++f):=by
 have h1:=h.map (·.1);rw[ZB7,fRZ hg] at h1;refine List.perm_iff_count.2 fun k=> ?_;have h3:=hp.count_eq k
 grind
theorem prZ(h:Ask s q c vs)(h0:(aU (aI s.2.1) c).2.1≠0):∃s',mN aB s (q:Int) c vs 0=some (s',iK (cT s c) (0:Int))/\Next s q c vs s':=by
 refine⟨_,oNZ h h0,⟨h.ok.life,h.ok.t,h.put.2.1,h.ok.pl,h.ok.l,h.ok.q,h.ok.ds,h.ok.d,h.ok.dn⟩,h.put.2.2.1,⟨ZB6 _,by show s.2.1.2<=_;omega⟩,?_,?_,rfl,rfl,?_,⟨[],by rw[ZAo];exact List.Perm.refl _⟩⟩
 ·unfold yP;rw[ZAM h0];rfl
 ·unfold ER;rw[ZAM h0];rfl
 ·unfold vQ;rw[ZAM h0,List.filter_nil,ZAo];exact List.Perm.refl _
theorem nLZ(h:Ask s q c vs)(h0:(aU (aI s.2.1) c).2.1=0)(hop:¬(c.2.2.1=uO 5\/c.2.2.1=uO 6))(hw:s.2.1.2<=65536):
 ∃s',mN aB s (q:Int) c vs 0=some (s',iK (cT s c) (0:Int))/\Next s q c vs s':=by
 have hm:=khZ (bdZ h.ok.t) c;obtain⟨st,sw⟩:=ngZ c fun _=>hop;have sw:(aU (aI s.2.1) c).1.1.2=s.2.1.2:=sw
 let⟨sg,sb⟩:=q8Z st
 have hlen:=by have:=st.len;rwa [fCZ] at this
 have hP:=hwZ h.ok.t;have hperm:=j2Z hlen;have hnod:=(ZBP.1 (hperm.nodup_iff.2 h.ok.t.r.nod)).1;have hT:=iSZ hm.t h.ok.t.r.str (fun i y hy=>merge_ok h.ok.t sg hy) hnod;have hg:=fun x hx=>(hP x hx).2;obtain⟨dead',d1,d2,d3,d4⟩:=ruZ h hT (fun i y hy hu hd=>by
  obtain⟨z,hz,rfl⟩:=biZ hy;have hu:=hu;have hd:=hd;show(bJ _ _ i).length=(z.2.2.2.2.1.toNat+q-1)/q;rcases sb i z hz hu with⟨x,hx,xu,xg,xd,xs⟩|⟨z0,hno⟩
  ·rw[fiZ hx hz hu xg,<-xs];exact h.ok.l i x hx xu (xd.trans hd)
  ·rw[eTZ hz fun _=>hno,z0];have:=h.ok.q;show 0=((0:Int).toNat+q-1)/q;rw[Nat.div_eq_of_lt (by omega)]) (ZB6 _) hw (by rw[ZAo];exact hperm) List.nodup_nil (fun x hx=>by cases hx) (iaZ hg _)
 refine⟨_,by rw[lqZ h h0 hop d1 d3,sw],d4,h.put.2.2.1,⟨ZB6 _,by show s.2.1.2<=_;omega⟩,?_,?_,rfl,rfl,?_,⟨[],kGZ d2 (iaZ hg _) (by rw[ZAo];exact hperm)⟩⟩
 ·unfold yP;rw[ZAN h0,ZAM hop];rfl
 ·unfold ER;rw[ZAN h0,ZAM hop];rfl
 ·unfold vQ;rw[ZAN h0,ZAM hop];exact d2
theorem qYZ{x}(h:Wri s q c x){i}{y}(hy:(l1W s c x)[i]? =some y):∃r,s.2.1.1[i]? =some r/\((i=atC c/\r=x/\y=wS (dU x) (dO x c))\/(i≠atC c/\y=dU r)):=by
 by_cases hi:i=atC c
 ·subst hi;rw[h7Z h] at hy;exact⟨x,h.f.at_,.inl ⟨rfl,rfl,(ZAh hy).symm⟩⟩
 ·unfold l1W at hy;rw[ZAa (fun e=>hi e.symm)] at hy;obtain⟨r,hr,rfl⟩:=mJZ hy;exact⟨r,hr,.inr ⟨hi,rfl⟩⟩
theorem n0Z(h:Ask s q c vs){x}(hx:Wri s q c x)(hw:s.2.1.2<=65000)(hv:vs.length=fP x q c)(hvs:∀v∈vs,1<=v/\v<=1099511627776):
 ∃s',mN aB s (q:Int) c vs 0=some (s',iK (cT s c) (0:Int))/\Next s q c vs s':=by
 have hm:=khZ (bdZ h.ok.t) c;obtain⟨r1,r2,r3⟩:=f3Z h.ok.t hx.r hx.hop hx.h0 hx.f;have hq:=h.ok.q;have hlen:s.2.1.1.length<=(l1W s c x).length:=by unfold l1W;rw[ZAv,fCZ];exact ZAL _
 have hP:=hwZ h.ok.t;have hg:=fun x hx=>(hP x hx).2;have hxm:=ZAG hx.f.at_;have hst:=h.ok.t.r.str;have hmn:=mbZ (x:=x) hq.1 (a6Z hx.r).2.2;have hN4:pN x q c<=4096:=by
  unfold pN;exact lZZ (by omega) (by have:4096*16<=4096*q:=ZB8 _ hq.1;omega)
 have W:=lQZ (wh:=iW q c) (vs:=vs) (hx.span hq.1) (hg x hxm) (ZB6 _) hst.1 (fP x q c) (ZAL _);have W:Wrt x.2.2.2.2.2.1 (iW q c) (fO q c) s.2.1.2 (pN x q c) vs (fP x q c) (wrL s q c vs x):=W;have hrun:=b0Z x.2.2.2.2.2.1 (iW q c) (fO q c) s.2.1.2 (fP x q c);obtain⟨fresh,f1,f2,f3⟩:=W.st;have hw2:s.2.1.2<=(wrL s q c vs x).1/\(wrL s q c vs x).1<=s.2.1.2+258:=by rw[W.e];omega
 have sg:NM s.2.1.1 (l1W s c x):=fun i y hy hu=>by
  obtain⟨r,hr,z⟩:=qYZ hx hy;rcases z with⟨_,rfl,rfl⟩|⟨_,rfl⟩<;>exact .inl ⟨r,hr,hu,rfl,rfl⟩
 have hlm:=vsZ hx;have hl2:lW s q c vs x=cJ (l1W s c x) (fun i=>if i=atC c then(wrL s q c vs x).2 else bJ s.2.1.1 (l1W s c x) i):=by
  unfold lW;rw[<-kAZ (h7Z hx)];rfl
 have hperm:(aD (lW s q c vs x)++aO (vP s q c x)).Perm (aD s.2.1.1++fresh):=by
  obtain⟨rest,u1,u2⟩:=sgZ hlm;have u2:=u2 (pL (wS x (dO x c)) (wrL s q c vs x).2);have m:=j2Z hlen;have u1:(aD (cJ (l1W s c x) (bJ s.2.1.1 (l1W s c x)))).Perm (aO x.2.2.2.2.2.1++rest):=u1;have u2:(aD (lW s q c vs x)).Perm (aO (wrL s q c vs x).2++rest):=u2;have sp:aO x.2.2.2.2.2.1=aO (x.2.2.2.2.2.1.take (pN x q c))++aO (x.2.2.2.2.2.1.drop (pN x q c)):=by rw[<-axZ,ZBA]
  have dr:x.2.2.2.2.2.1.drop (min x.2.2.2.2.2.1.length (pN x q c))=x.2.2.2.2.2.1.drop (pN x q c):=by
   by_cases e:x.2.2.2.2.2.1.length<=pN x q c
   ·rw[ZBC e,List.drop_length,ZCa e]
   ·rw[Nat.min_eq_right (by omega)]
  rw[lnZ] at f1;unfold vP;rw[axZ,dr];rw[sp] at u1;refine List.perm_iff_count.2 fun k=> ?_;have c1:=u1.count_eq k;have c2:=u2.count_eq k;have c3:=m.count_eq k;have c4:=f1.count_eq k;simp only[List.count_append] at*;omega
 have nod:(aD s.2.1.1++fresh).Nodup:=ZBP.2 ⟨h.ok.t.r.nod,f2,fun a ha b hb=>by
  have:=hHZ h.ok.t ha;have:=f3 b hb;omega⟩
 have hres:aM (l1W s c x,s.2.1.2):=by
  have:=hm.t;rw[r1] at this;exact this
 have okW:∀p∈(wrL s q c vs x).2,cV (wrL s q c vs x).1 p:=fun p hp=>by
  rcases W.ok p hp with z|⟨j,j1,j2,j3⟩
  ·exact gmZ hw2.1 (usZ (hg x hxm) _ p z)
  ·rw[ZAC (by omega)] at j2;have:=hvs _ (ZBO (show j<vs.length by omega));rw[j2] at j3⊢;exact .inr ⟨j3.1,j3.2,this⟩
 have hT:aM (lW s q c vs x,(wrL s q c vs x).1):=by
  rw[hl2];refine iSZ hres ⟨by omega,by omega⟩ (fun i y hy=> ?_) (by rw[<-hl2];exact(ZBP.1 (hperm.nodup_iff.2 nod)).1);by_cases hi:i=atC c
  ·subst hi;rw[h7Z hx] at hy;obtain rfl:=ZAh hy;rw[ZAN ⟨hx.f.used,hx.f.dir⟩,ZAN rfl,W.n];exact⟨hN4,okW⟩
  ·simp only[ZAM hi];have:=merge_ok (t:=s.2.1) h.ok.t sg hy;split
   ·rename_i hc;rw[ZAN hc] at this;exact⟨this.1,fun p hp=>gmZ hw2.1 (this.2 p hp)⟩
   ·rename_i hc;rw[ZAM hc] at this;exact this
 have hgn:∀p∈vP s q c x,cV s.2.1.2 p:=fun p hp=>by
  rcases ZAc.1 hp with z|z
  ·exact iaZ hg _ p z
  ·exact hg x hxm p (ZCe z)
 obtain⟨dead',d1,d2,d3,d4⟩:=ruZ h (gone:=vP s q c x) hT (fun i y hy hu hd=>by
  rw[hl2] at hy;obtain⟨z,hz,rfl⟩:=biZ hy;have hu:z.2.2.1=true:=hu;have hd:z.2.2.2.1=false:=hd;show(if i=atC c then(wrL s q c vs x).2 else bJ s.2.1.1 (l1W s c x) i).length=(z.2.2.2.2.1.toNat+q-1)/q;obtain⟨r,hr,w⟩:=qYZ hx hz;rcases w with⟨hi,rfl,rfl⟩|⟨hi,rfl⟩
  ·rw[ZAN hi,W.n];rfl
  ·rw[ZAM hi,fiZ hr hz hu rfl];exact h.ok.l i r hr hu hd) hw2.1 (by omega) hperm f2 f3 hgn
 refine⟨_,ltZ h hx hv d1 d3 (by omega),d4,h.put.2.2.1,hw2,?_,?_,rfl,rfl,?_,⟨fresh,kGZ d2 hgn hperm⟩⟩
 ·unfold yP;rw[ZAN hx.h0,ZAN hx.hop,hx.f.p];rfl
 ·unfold ER;rw[ZAN hx.h0,ZAN hx.hop,hx.f.p];rfl
 ·unfold vQ;rw[ZAN hx.h0,ZAN hx.hop,hx.f.p];exact d2
theorem nmZ(h:Ask s q c vs)(hw:s.2.1.2<=65000)(hv:vs.length=(dN s q c).1.2.2.2.length)(hvs:∀v∈vs,1<=v/\v<=1099511627776):
 ∃s',mN aB s (q:Int) c vs 0=some (s',iK (cT s c) (0:Int))/\Next s q c vs s':=by
 by_cases h0:(aU (aI s.2.1) c).2.1=0
 ·by_cases hop:c.2.2.1=uO 5\/c.2.2.1=uO 6
  ·obtain⟨x,hx⟩:=r8Z (cDZ h.two).2.1 hop h0;refine n0Z h hx hw ?_ hvs;rw[hv,jMZ h.two hx];exact(b0Z _ _ _ _ _).1
  ·exact nLZ h h0 hop (by omega)
 grind[prZ]
end
theorem tQZ{p:vO}{vs}(hp:p.1=2)(hl:vs.length=p.2.2.2.length)(hb:vs.length<=100000)(h:∀(j:Nat) nd v,p.2.2.2[j]? =some nd->vs[j]? =some v->nd.2.1.2<v/\1<=v/\v<=1099511627776):JE aB p vs 0=some true:=by
 unfold JE;rw[hp];simp[ZAA];unfold VB;rw[hl,ZAd,ZAQ];have loop:lO aB p.2.2.2 vs 0=some (.inl ()):=by
  unfold lO;refine aoZ (fun k:Nat=>(k:Int)) p.2.2.2.length (by omega) (fun k hk=> ?_) ?_
  ·unfold sL MZ;obtain⟨nd,hn⟩:∃nd,p.2.2.2[k]? =some nd:=⟨_,ZAC hk⟩;obtain⟨v,hv⟩:∃v,vs[k]? =some v:=⟨_,ZAC (by omega)⟩;have:=h k nd v hn hv;rw[ZAJ (by omega),acZ hk,ZAA,hn,ZAA,acZ (by omega),ZAA,hv,ZAA];simp;rw[ZAJ (show v>nd.2.1.2 by omega),ZAJ (show v>=1 by omega),ZAJ (show v<=1099511627776 by omega),w64 (by omega)]
   rfl
  ·unfold sL;rw[ZAE (by omega),ZAD]
 simp_all
def wT(q:Nat)(l:List eV)(bs:List (List UInt8)):Prop:=bs.length=l.length/\l.length<=100000/\(∀b∈bs,b.length=0\/b.length=q)/\∀n∈l,0<=n.1/\n.1<=65536
theorem mNZ{q}{l}{bs}(hq:16<=q/\q<=65)(h:wT q l bs):VP aB (q:Int) l bs=some true:=by
 let⟨h1,h2,h3,h4⟩:=h
 unfold VP LV;rw[ZAJ (show(q:Int)>=16 by omega),ZAK,ZAA,ZAJ (show(q:Int)<=65536 by omega),h1,ZAK];have a:jO aB bs (0,(q:Int))=some (.inl (q:Int)):=by
  unfold jO;refine aoZ (fun k:Nat=>((k:Int),(q:Int))) bs.length (by omega) (fun k hk=> ?_) ?_
  ·show iF aB bs (k:Int) (q:Int)=_;unfold iF ML;have hb:=h3 _ (ZBO hk);rw[ZAJ (by omega),acZ hk,ZAA,ZAC hk,ZAA,w64 (by omega)];rcases hb with e|e
   ·rw[e];rfl
   ·rw[e,(ZAW.2 (by omega)),show(!(((q:Nat):Int)==(q:Int)))=false by rw[ZAd];rfl];rfl
  ·show iF aB bs (bs.length:Int) (q:Int)=_;unfold iF;rw[ZAE (by omega),ZAD]
 have b:jP aB l 0=some (.inl ()):=by
  unfold jP;refine aoZ (fun k:Nat=>(k:Int)) l.length (by omega) (fun k hk=> ?_) ?_
  ·unfold nJ MN;have hb:=h4 _ (ZBO hk);rw[ZAJ (by omega),acZ hk,ZAA,ZAC hk,ZAA,ZAE (by omega),ZAD,ZAE (by omega),w64 (by omega)]
   rfl
  ·unfold nJ;rw[ZAE (by omega),ZAD]
 simp_all[yG,uY,yH,uZ]
theorem tVZ{α:Type}{F O:List α}{k}{x}(h:F.length=O.length)(hx:F[k]? =some x):(F.take k++O.drop k).set k x=F.take (k+1)++O.drop (k+1):=by
 have hk:=(ZAB.1 hx).1;rw[List.set_append_right k x (by grind),ZAS,ZBC (by omega),ZBv,ZBV (by omega:k<O.length),aOZ hx,ZAp]
 rfl
theorem uGZ{α:Type}{F O:List α}{k}(h:F.length=O.length)(hk:k<O.length):(F.take k++O.drop k)[k]? =O[k]? :=by
 grind
def atF(c:aX)(z:Nat)(o:UInt8):UInt8:=
 if c.2.2.1=uO 6 then(if c.2.2.2.2.2.2.2.2.1<=(z:Int) then 0 else o)
 else if c.2.2.1=uO 5/\c.2.2.2.2.2.2.2.1.toNat<=z then(c.2.2.2.2.2.2.2.2.2[z-c.2.2.2.2.2.2.2.1.toNat]?).getD o else o
def sU(q:Nat)(old:List UInt8):List UInt8:=aW (List.replicate (α:=UInt8) q 0) 0 (List.take (List.replicate (α:=UInt8) q 0).length old)
theorem c2Z(q)(old):(sU q old).length=q:=by
 unfold sU aW
 grind
def fD(q:Nat)(c:aX)(i:Nat)(old:List UInt8):List UInt8:=(sU q old).mapIdx fun k o=>atF c (i*q+k) o
theorem d6Z(q)(c)(i)(old):(fD q c i old).length=q:=by simp_all[fD,c2Z]
theorem r4Z{q i}{c}(hq:16<=q/\q<=65)(hi:i<=65536)(hr:aL c=true)(hop:c.2.2.1=uO 5\/c.2.2.1=uO 6)(old):
 HQ aB ((i*q:Nat):Int) old [c] (q:Int)=some ((q:Int),fD q c i old):=by
 obtain⟨ho,hn,hb⟩:=a6Z hr;have hi2:=ZCY hi hq.2;unfold HQ;rw[b1Z (by omega) (by grind[asZ]),ZAA,ZBw,b1Z (by omega) (by omega),ZAA,ZBw,aeZ (by grind[ZAm,asZ])];have hF:(fD q c i old).length=(sU q old).length:=by rw[d6Z,c2Z]
 have loop:pE aB q old [c] ((i*q:Nat):Int) (0,((q:Int),sU q old))=some ((q:Int),fD q c i old):=by
  unfold pE;have e0:((0:Int),((q:Int),sU q old))=(fun k:Nat=>((k:Int),((q:Int),(fD q c i old).take k++(sU q old).drop k))) 0:=by simp
  refine(congrArg (iter aB _) e0).trans ?_;refine aoZ (fun k:Nat=>((k:Int),((q:Int),(fD q c i old).take k++(sU q old).drop k))) q (by omega) (fun k hk=> ?_) ?_
  ·show pD aB q old [c] ((i*q:Nat):Int) (k:Int) (q:Int) ((fD q c i old).take k++(sU q old).drop k)=_;unfold pD Pg Ph PH;obtain⟨o,hold⟩:∃o,(sU q old)[k]? =some o:=⟨_,ZAC (by simp_all[c2Z])⟩;have hnew:(fD q c i old)[k]? =some (atF c (i*q+k) o):=by unfold fD;rw[ZCg,hold];rfl
   have aS:=tVZ hF hnew;have aG:=uGZ hF (by rw[c2Z];exact hk);have hlen:((fD q c i old).take k++(sU q old).drop k).length=q:=by rw[ZAe,ZAS,ZAx,d6Z,c2Z];omega
   generalize (fD q c i old).take k++(sU q old).drop k=B at*;have hpl:(aW (List.replicate (α:=UInt8) q 0) 0 (List.take (List.replicate (α:=UInt8) q 0).length old)).length=q:=c2Z q old;rw[hpl,ZAJ (by omega),ZAK,ZAR,ZAA,op6,w64 (by omega),w64 (by omega)];show _=some (Sum.inl (((k+1:Nat):Int),((q:Int),(fD q c i old).take (k+1)++(sU q old).drop (k+1))));rw[<-aS];have keep:atF c (i*q+k) o=o->B=B.set k (atF c (i*q+k) o):=fun e=>by simp_all[dNZ]
   by_cases e6:c.2.2.1=uO 6
   ·have h65:¬(uO 6=uO 5):=by decide
    rw[ZAJ e6,ZAK,ZAA,ZAA];by_cases hc:c.2.2.2.2.2.2.2.2.1<=((i*q+k:Nat):Int)
    ·rw[ZAJ (by omega)];simp only[ZAK];rw[hlen,acZ hk,ZAA,aG,hold,ZAA];unfold atF;rw[ZAN e6,ZAN hc]
     rfl
    ·rw[ZAE (by omega)];simp only[ZAD];rw[ZAA,op5,e6,ZAE h65];simp only[ZAD,ZAA];rw[<-keep (by unfold atF;rw[ZAN e6,ZAM hc])]
     rfl
   ·have e5:=hop.resolve_right e6;rw[ZAE e6,ZAD,ZAA];simp only[ZAD];rw[ZAA,op5,ZAJ e5];simp only[ZAK,ZAA];by_cases h1:c.2.2.2.2.2.2.2.1.toNat<=i*q+k
    ·rw[ZAJ (by omega),ZAK,w64 (by omega),ZAA];have ev:((i*q:Nat):Int)+(k:Int)-c.2.2.2.2.2.2.2.1=((i*q+k-c.2.2.2.2.2.2.2.1.toNat:Nat):Int):=by omega
     rw[ev];by_cases h2:i*q+k-c.2.2.2.2.2.2.2.1.toNat<c.2.2.2.2.2.2.2.2.2.length
     ·rw[ZAJ (by omega)];simp only[ZAK];rw[acZ h2,ZAA,ZAC h2,ZAA,hlen,acZ hk,ZAA,iOZ (UInt8.toNat_lt _),ZAA,aG,hold,ZAA,ZAA,ZAA,uOt];unfold atF;rw[ZAM e6,ZAN ⟨e5,h1⟩,ZAC h2]
      rfl
     ·rw[ZAE (by omega)];simp only[ZAD,ZAA];rw[<-keep (by unfold atF;rw[ZAM e6,ZAN ⟨e5,h1⟩,ZAw (by omega)];rfl)]
      rfl
    ·rw[ZAE (by omega),ZAD,ZAA];simp only[ZAD,ZAA];rw[<-keep (by unfold atF;rw[ZAM e6,ZAM (fun z=>h1 z.2)])]
     rfl
  ·show pD aB q old [c] ((i*q:Nat):Int) (q:Int) (q:Int) ((fD q c i old).take q++(sU q old).drop q)=_;unfold pD Pg Ph PH;have hpl:(aW (List.replicate (α:=UInt8) q 0) 0 (List.take (List.replicate (α:=UInt8) q 0).length old)).length=q:=c2Z q old;rw[hpl,ZAE (by omega),ZAD];have a1:(fD q c i old).take q=fD q c i old:=ZA0 (by rw[d6Z];exact ZAL _);have a2:(sU q old).drop q=[]:=ZCa (by rw[c2Z];exact ZAL _);rw[a1,a2,ZAo]
 refine(congrArg (fun o=>Option.bind o _) ((loop))).trans rfl
def gW(q:Nat)(c:aX)(l:List eV)(olds:List (List UInt8)):List (List UInt8):=List.zipWith (fun n o=>fD q c n.1.toNat o) l olds
theorem tdZ{q}{c}{l}{olds}{k:Nat}{n}{o}(h1:l[k]? =some n)(h2:olds[k]? =some o):(gW q c l olds)[k]? =some (fD q c n.1.toNat o):=by
 simp_all[gW,List.getElem?_zipWith]
theorem plZ{q}{c}{l}{olds}(hq:16<=q/\q<=65)(hr:aL c=true)(hop:c.2.2.1=uO 5\/c.2.2.1=uO 6)(h:wT q l olds):
 MY aB (q:Int) c l olds=some (0,gW q c l olds):=by
 unfold MY;rw[mNZ hq h,ZAA,ayZ,hr,ZAA]
 let⟨h1,h2,h3,h4⟩:=h
 simp only[ZAQ,ZAD];rw[op5,op6];have step:∀{α} (S:α),(bif (!decide (c.2.2.1=uO 5)) then some ((!decide (c.2.2.1=uO 6)),S) else some (false,S))=some (false,S):=fun S=>by
  rcases hop with e|e<;>rw[e]<;>rfl
 rw[step,ZAA];simp;have hN:(gW q c l olds).length=l.length:=by unfold gW;rw[List.length_zipWith];omega
 have loop:sK aB l olds (0,((q:Int),([],[c])))=some (gW q c l olds):=by
  unfold sK;have e0:((0:Int),((q:Int),(([]:List (List UInt8)),[c])))=(fun k:Nat=>((k:Int),((q:Int),((gW q c l olds).take k,[c])))) 0:=by simp
  refine(congrArg (iter aB _) e0).trans ?_;refine aoZ (fun k:Nat=>((k:Int),((q:Int),((gW q c l olds).take k,[c])))) l.length (by omega) (fun k hk=> ?_) ?_
  ·obtain⟨n,hn⟩:∃n,l[k]? =some n:=⟨_,ZAC hk⟩;obtain⟨o,ho⟩:∃o,olds[k]? =some o:=⟨_,ZAC (by omega)⟩;have hb:=h4 n (ZAG hn);have hq2:n.1.toNat*q<=65536*65:=ZCY (by omega) hq.2;show uB aB l olds (k:Int) (q:Int) ((gW q c l olds).take k) [c]=_;unfold uB;rw[ZAJ (by omega),acZ hk,ZAA,hn,ZAA,acZ (by omega),ZAA,ho,ZAA];rw[show n.1*(q:Int)=((n.1.toNat*q:Nat):Int) by rw[ZBr,ZBn hb.1],w64 (by omega),r4Z hq (by omega) hr hop,ZAA,aeZ (by simp only[ZAF,ZAm,asZ,ZAS];omega),w64 (by omega),aOZ (tdZ hn ho)]
   rfl
  ·show uB aB l olds (l.length:Int) (q:Int) ((gW q c l olds).take l.length) [c]=_;unfold uB;rw[ZAE (by omega),ZAD,ZA0 (by omega)]
 simp_all
def pO(q fr i:Nat)(b out:List UInt8):List UInt8:=out.mapIdx fun t o=>if i*q<=fr+t then(b[fr+t-i*q]?).getD o else o
theorem f8Z(q fr i)(b out):(pO q fr i b out).length=out.length:=by simp_all[pO]
theorem e9Z(q fr i)(b out)(t):(pO q fr i b out)[t]? =(out[t]?).map fun o=>if i*q<=fr+t then(b[fr+t-i*q]?).getD o else o:=by simp_all[pO]
theorem sSZ(q fr i)(out):pO q fr i [] out=out:=by
 refine ZBW fun t=> ?_
 simp_all[e9Z]
theorem uWZ{q fr i k}{b out:List UInt8}{x}(hk:b[k]? =some x)(h:fr<=i*q+k):pO q fr i (b.take (k+1)) out=(pO q fr i (b.take k) out).set (i*q+k-fr) x:=by
 refine ZBW fun t=> ?_;rw[e9Z,List.getElem?_set,f8Z,e9Z]
 grind
theorem msZ{q fr i k}{b out:List UInt8}(h:¬(fr<=i*q+k/\i*q+k-fr<out.length)):pO q fr i (b.take (k+1)) out=pO q fr i (b.take k) out:=by
 refine ZBW fun t=> ?_;rw[e9Z,e9Z]
 grind
theorem oUZ{q fr i:Nat}{b out}(hq:q<=65)(hi:i<=65536)(hf:fr<=65536)(hb:b.length<=65):
 HP aB (i:Int) b (q:Int) (fr:Int) out=some ((q:Int),((fr:Int),pO q fr i b out)):=by
 have hi2:=ZCY hi hq;unfold HP;have loop:pC aB b (i:Int) (0,((q:Int),((fr:Int),out)))=some ((q:Int),((fr:Int),pO q fr i b out)):=by
  unfold pC;have e0:((0:Int),((q:Int),((fr:Int),out)))=(fun k:Nat=>((k:Int),((q:Int),((fr:Int),pO q fr i (b.take k) out)))) 0:=by simp only[List.take_zero,sSZ];rfl
  refine(congrArg (iter aB _) e0).trans ?_;refine aoZ (fun k:Nat=>((k:Int),((q:Int),((fr:Int),pO q fr i (b.take k) out)))) b.length (by omega) (fun k hk=> ?_) ?_
  ·obtain⟨x,hx⟩:∃x,b[k]? =some x:=⟨_,ZAC hk⟩;show pB aB b (i:Int) (k:Int) (q:Int) (fr:Int) (pO q fr i (b.take k) out)=_;unfold pB;rw[ZAJ (by omega),ZAK,show(i:Int)*(q:Int)=((i*q:Nat):Int) by rw[ZBr],w64 (x:=((i*q:Nat):Int)) (by omega),w64 (x:=((i*q:Nat):Int)+(k:Int)) (by omega),w64 (by omega),w64 (by omega),f8Z];by_cases h:fr<=i*q+k
   ·rw[show((i*q:Nat):Int)+(k:Int)-(fr:Int)=((i*q+k-fr:Nat):Int) by omega,ZAJ (by omega),ZAK,ZAA];by_cases hl:i*q+k-fr<out.length
    ·rw[ZAJ (by omega)];simp only[ZAK];rw[acZ hk,ZAA,hx,ZAA,f8Z,acZ hl,ZAA,iOZ (UInt8.toNat_lt _),ZAA,ZAC (by rw[f8Z];exact hl),ZAA,ZAA,uOt,uWZ hx h]
     rfl
    ·rw[ZAE (by omega),msZ (fun z=>hl z.2)]
     rfl
   ·rw[ZAE (by omega),msZ (fun z=>h z.1)]
    rfl
  ·show pB aB b (i:Int) (b.length:Int) (q:Int) (fr:Int) (pO q fr i (b.take b.length) out)=_;unfold pB;rw[ZAE (by omega),ZAD,ZAu]
 simp_all
def rM(q fr a:Nat)(bs:List (List UInt8)):Nat->List UInt8->List UInt8
 |0,o=>o
 |j+1,o=>pO q fr (a+j) ((bs[j]?).getD []) (rM q fr a bs j o)
def NN(q a file:Nat)(c:aX)(bs:List (List UInt8)):List UInt8:=
 rM q (min c.2.2.2.2.2.2.2.1.toNat file) a bs bs.length (List.replicate (min (file-min c.2.2.2.2.2.2.2.1.toNat file) c.2.2.2.2.2.2.2.2.1.toNat) 0)
theorem qoZ{q a file:Nat}{c}{l}{bs}(hq:16<=q/\q<=65)(hr:aL c=true)(hop:c.2.2.1=uO 4)(hf:file<=65536)(h:wT q l bs)(ha:∀(j) nd,l[j]? =some nd->nd.1=((a+j:Nat):Int)):
 MV aB (q:Int) c (file:Int) l bs=some (0,NN q a file c bs):=by
 let⟨ho,hn,hb⟩:=a6Z hr
 unfold MV Pg Ph;rw[mNZ hq h,ayZ,hr,ZAA]
 let⟨h1,h2,h3,h4⟩:=h
 simp only[ZAQ];rw[op4,ZAJ hop,ZAE (show¬(file:Int)<0 by omega)];simp[ZAR];rw[show(if(file:Int)<c.2.2.2.2.2.2.2.1 then(file:Int) else c.2.2.2.2.2.2.2.1)=((min c.2.2.2.2.2.2.2.1.toNat file:Nat):Int) by split<;>omega];unfold NN;have hfr:min c.2.2.2.2.2.2.2.1.toNat file<=file:=Nat.min_le_right _ _;generalize min c.2.2.2.2.2.2.2.1.toNat file=fr at*;rw[w64 (by omega),show(if(file:Int)-(fr:Int)<c.2.2.2.2.2.2.2.2.1 then(file:Int)-(fr:Int) else c.2.2.2.2.2.2.2.2.1)=((min (file-fr) c.2.2.2.2.2.2.2.2.1.toNat:Nat):Int) by split<;>omega];generalize hm:min (file-fr) c.2.2.2.2.2.2.2.2.1.toNat=m;rw[aGZ (by rw[asZ];omega),ZAA,aGZ (ZAL _),ZAA,aeZ (by rw[ZAm,asZ];omega)];obtain⟨o,hO,ho⟩:∃o,sJ aB l bs (0,(List.replicate m 0,(([],0),((q:Int),(fr:Int)))))=some o/\o=rM q fr a bs bs.length (List.replicate m 0):=by
  unfold sJ;refine a5Z (fun r st=>∃(k:Nat) (M:GM),st=((k:Int),(rM q fr a bs k (List.replicate m 0),(M,((q:Int),(fr:Int)))))/\k+r=l.length/\∀j,a+k<=j->gX M (j:Int)=none) (fun o=>o=rM q fr a bs bs.length (List.replicate m 0)) (fun r st hI=> ?_) (fun st hI=> ?_) l.length _ (by omega) ⟨0,([],0),rfl,by omega,fun j _=>rfl⟩
  ·obtain⟨k,M,rfl,hk,hM⟩:=hI;obtain⟨nd,hn⟩:∃nd,l[k]? =some nd:=⟨_,ZAC (by omega)⟩;obtain⟨b,hb⟩:∃b,bs[k]? =some b:=⟨_,ZAC (by omega)⟩;have hi:=ha k nd hn;have h4:=h4 nd (ZAG hn);have h3:=h3 b (ZAG hb);left;refine⟨(((k+1:Nat):Int),(rM q fr a bs (k+1) (List.replicate m 0),(iM M ((a+k:Nat):Int) 1,((q:Int),(fr:Int))))),?_,k+1,_,rfl,by omega,fun j hj=> ?_⟩
   ·show uA aB l bs (k:Int) (rM q fr a bs k (List.replicate m 0)) M (q:Int) (fr:Int)=_;unfold uA;rw[ZAJ (by omega),ZAK,acZ (by omega),ZAA,hn,ZAA,hi,hM _ (ZAL _)];simp only[Option.getD_none,show((0:Int)==0)=true from rfl,ZAK];rw[acZ (by omega),ZAA,hb,ZAA,oUZ hq.2 (by omega) (by omega) (by omega),ZAA,ZAA,w64 (by omega)];rw[show rM q fr a bs (k+1) (List.replicate m 0)=pO q fr (a+k) b (rM q fr a bs k (List.replicate m 0)) by
     conv=>lhs;unfold rM
     rw[hb];rfl]
    rfl
   ·rw[duZ (d2Z .i64) _ _ _ (show(j:Int)≠((a+k:Nat):Int) by omega)];exact hM j (by omega)
  ·obtain⟨k,M,rfl,hk,hM⟩:=hI;have:k=l.length:=by omega
   subst this;refine⟨_,?_,rfl⟩;show uA aB l bs (l.length:Int) _ M (q:Int) (fr:Int)=_;unfold uA;rw[ZAE (by omega),ZAD,h1]
 grind
abbrev kP:Ty:=.pair (.int .i64) (.int .i64)
abbrev BM:Type:=List ((bP×List UInt8)×Nat)×Nat
theorem hvZ:lI kP:=nNZ (d2Z .i64) (d2Z .i64)
def blk(M:BM)(p:bP):List UInt8:=(gX (k:=kP) (v:=.sl .byte) M p).getD []
abbrev UE(M:BM)(p:bP)(b:List UInt8):BM:=iM (k:=kP) (v:=.sl .byte) M p b
theorem kRZ(M)(p)(b)(z):blk (UE M p b) z=if z=p then b else blk M z:=by
 unfold blk;by_cases h:z=p
 ·subst h;rw[j9Z hvZ,ZAN rfl];rfl
 simp_all[duZ,hvZ]
abbrev stZ{β:Type}(s:bT)(nx q:Int)(M:BM)(Z:β):Int×(List Ino×(Int×(Int×(List cS×(List fC×(List bP×(Int×(Int×(BM×β))))))))):=(s.1,(s.2.1.1,(s.2.1.2,(s.2.2.1.1,(s.2.2.1.2,(s.2.2.2.1,(s.2.2.2.2,(nx,(q,(M,Z))))))))))
abbrev stD(s:bT)(nx q:Int)(M:BM):Int×(List Ino×(Int×(Int×(List cS×(List fC×(List bP×(Int×(Int×BM)))))))):=(s.1,(s.2.1.1,(s.2.1.2,(s.2.2.1.1,(s.2.2.1.2,(s.2.2.2.1,(s.2.2.2.2,(nx,(q,M)))))))))
abbrev z9{β:Type}(Z:β):Int×(Int×(Int×(Int×(Int×(Bool×(Int×(Bool×(Int×β)))))))):=(0,(0,(0,(0,(0,(false,(0,(false,(0,Z)))))))))
section
variable {s : bT} {nx q : Int} {M : BM} {c : aX}
theorem mtZ{r:vO×Int}(h:r.1.2.2.1.length<=100000):gE aB r (0,stZ s nx q M ([c],z9 ([r.1],[])))=some (stZ s nx q M ([c],z9 ([r.1],r.1.2.2.1.map fun n=>blk M n.2.1))):=by
 refine aoZ (fun k:Nat=>((k:Int),stZ s nx q M ([c],z9 ([r.1],(r.1.2.2.1.take k).map fun n=>blk M n.2.1)))) r.1.2.2.1.length (by omega) (fun k hk=> ?_) ?_
 ·obtain⟨nd,hn⟩:∃nd,r.1.2.2.1[k]? =some nd:=⟨_,ZAC hk⟩;show cX aB r (k:Int) s.1 s.2.1.1 s.2.1.2 s.2.2.1.1 s.2.2.1.2 s.2.2.2.1 s.2.2.2.2 nx q M [c] 0 0 0 0 0 false 0 false 0 [r.1] ((r.1.2.2.1.take k).map fun n=>blk M n.2.1)=_;unfold cX;rw[ZAJ (by omega),acZ hk,ZAA,hn,ZAA,aeZ (by simp[asZ,ZAS];omega),w64 (by omega),aOZ hn,ZB7]
  rfl
 ·show cX aB r (r.1.2.2.1.length:Int) s.1 s.2.1.1 s.2.1.2 s.2.2.1.1 s.2.2.1.2 s.2.2.2.1 s.2.2.2.2 nx q M [c] 0 0 0 0 0 false 0 false 0 [r.1] _=_
  simp_all[cX,ZAu]
def HZ(r n:eV):Bool:=(r.1==n.1)&&(((r.2.1.1==n.2.1.1)&&(r.2.1.2==n.2.1.2))&&(r.2.2==n.2.2))
theorem kgZ(r n):HZ r n=true↔r=n:=by
 let⟨a,⟨b,d⟩,e⟩:=r
 let⟨a',⟨b',d'⟩,e'⟩:=n
 simp_all[HZ,ZA3]
def inB(l:List eV)(n:eV):Bool:=l.any fun r=>HZ r n
theorem uSZ(l)(n):inB l n=true↔n∈l:=by
 unfold inB;rw[List.any_eq_true];exact⟨fun⟨r,hr,e⟩=>(kgZ r n).1 e▸hr,fun h=>⟨n,h,(kgZ n n).2 rfl⟩⟩
theorem rSZ{p:vO}(hp:p.2.2.1.length<=100000)(n){A}{V}{C:List aX}{Q:List vO}:gF aB p (false,(0,stZ s nx q M (C,z9 (Q,(A,(V,(n.1,(n.2.1.1,(n.2.1.2,n.2.2)))))))))=some (inB p.2.2.1 n,stZ s nx q M (C,z9 (Q,(A,(V,(n.1,(n.2.1.1,(n.2.1.2,n.2.2)))))))):=by
 refine aoZ (fun k:Nat=>(inB (p.2.2.1.take k) n,((k:Int),stZ s nx q M (C,z9 (Q,(A,(V,(n.1,(n.2.1.1,(n.2.1.2,n.2.2)))))))))) p.2.2.1.length (by omega) (fun k hk=> ?_) ?_
 ·obtain⟨nd,hn⟩:∃nd,p.2.2.1[k]? =some nd:=⟨_,ZAC hk⟩;show cY aB p (inB (p.2.2.1.take k) n) (k:Int) s.1 s.2.1.1 s.2.1.2 s.2.2.1.1 s.2.2.1.2 s.2.2.2.1 s.2.2.2.2 nx q M C 0 0 0 0 0 false 0 false 0 Q A V n.1 n.2.1.1 n.2.1.2 n.2.2=_;unfold cY;rw[ZAJ (by omega),acZ hk,ZAA,hn,w64 (by omega)];have e:inB (p.2.2.1.take (k+1)) n=(inB (p.2.2.1.take k) n||HZ nd n):=by unfold inB;rw[aOZ hn];simp
  simp[e];cases inB (p.2.2.1.take k) n<;>rfl
 ·show cY aB p _ (p.2.2.1.length:Int) s.1 s.2.1.1 s.2.1.2 s.2.2.1.1 s.2.2.1.2 s.2.2.2.1 s.2.2.2.2 nx q M C 0 0 0 0 0 false 0 false 0 Q A V n.1 n.2.1.1 n.2.1.2 n.2.2=_;unfold cY;rw[ZAE (by omega),ZAD,ZAu]
def nY(rd:List eV)(M:BM)(n:eV):List UInt8:=if inB rd n=true then blk M n.2.1 else[]
def fF(nx:Int)(k:Nat):List Int:=(List.range k).map fun j:Nat=>nx+(j:Int)+1
theorem cJZ(nx)(k):(fF nx k).length=k:=by simp[fF]
theorem euZ{nx}{k j}(h:j<k):(fF nx k)[j]? =some (nx+(j:Int)+1):=by
 simp_all[fF,List.getElem?_range]
theorem nuZ(nx)(k):fF nx (k+1)=fF nx k++[nx+(k:Int)+1]:=by simp_all[fF,List.range_succ]
theorem rNZ{r:vO×Int}(h1:r.1.2.2.1.length<=100000)(h2:r.1.2.2.2.length<=100000)(hn:0<=nx/\nx<=1099511627776)(hM:∀n∈r.1.2.2.2,inB r.1.2.2.1 n=true->(blk M n.2.1).length≠0/\(blk M n.2.1).length<=1000):
 eC aB r (0,stZ s nx q M ([c],z9 ([r.1],([],[]))))=some (.inl (stZ s (nx+(r.1.2.2.2.length:Nat)) q M ([c],z9 ([r.1],(r.1.2.2.2.map (nY r.1.2.2.1 M),fF nx r.1.2.2.2.length))))):=by
 unfold eC;have e0:((0:Int),stZ s nx q M ([c],z9 ([r.1],(([]:List (List UInt8)),([]:List Int)))))=(fun k:Nat=>((k:Int),stZ s (nx+(k:Nat)) q M ([c],z9 ([r.1],((r.1.2.2.2.take k).map (nY r.1.2.2.1 M),fF nx k))))) 0:=by simp[fF]
 refine(congrArg (iter aB _) e0).trans ?_;refine aoZ (fun k:Nat=>((k:Int),stZ s (nx+(k:Nat)) q M ([c],z9 ([r.1],((r.1.2.2.2.take k).map (nY r.1.2.2.1 M),fF nx k))))) r.1.2.2.2.length (by omega) (fun k hk=> ?_) ?_
 ·obtain⟨nd,hnd⟩:∃nd,r.1.2.2.2[k]? =some nd:=⟨_,ZAC hk⟩;have hm:=hM nd (ZAG hnd);have hlen:((r.1.2.2.2.take k).map (nY r.1.2.2.1 M)).length=k:=by rw[ZAl,ZAS];omega
  have hv:=cJZ nx k;show cZ aB r (k:Int) s.1 s.2.1.1 s.2.1.2 s.2.2.1.1 s.2.2.1.2 s.2.2.2.1 s.2.2.2.2 (nx+(k:Nat)) q M [c] 0 0 0 0 0 false 0 false 0 [r.1] ((r.1.2.2.2.take k).map (nY r.1.2.2.1 M)) (fF nx k)=_;show _=some (Sum.inl (((k+1:Nat):Int),stZ s (nx+((k+1:Nat):Int)) q M ([c],z9 ([r.1],((r.1.2.2.2.take (k+1)).map (nY r.1.2.2.1 M),fF nx (k+1))))));rw[nuZ,aOZ hnd,ZB7,show nx+((k+1:Nat):Int)=nx+(k:Nat)+1 by omega];generalize (r.1.2.2.2.take k).map (nY r.1.2.2.1 M)=A at*;generalize fF nx k=V at*;unfold cZ Pb Pc Pd Pe Pf Pg Ph Pi Pj Pk Pl Pm Pn Po Pp Pq Pr Ps Pt Pu Pv Pw Py Pz PV;rw[ZAJ (by omega),acZ hk,ZAA,hnd,ZAA];refine(congrArg (fun o=>Option.bind o _) (rSZ (n:=nd) h1)).trans ?_;rw[ZAA];cases hb:inB r.1.2.2.1 nd
  ·simp[ZAA];rw[aeZ (by simp only[ZAF,ZAm,asZ];omega),aeZ (by simp only[ZAF,ZAm,asZ];omega),w64 (by omega),w64 (by omega)]
   simp_all[nY,ZCp,List.map_nil]
  ·have hm:=hm hb;simp only[ZAK];rw[(ZAW.2 (by
    show((blk M nd.2.1).length:Int)≠0;omega))]
   simp only[ZAD,ZAA];rw[aeZ (by simp only[ZAF,ZAm,asZ];omega),aeZ (by simp only[ZAF,ZAm,asZ];omega),w64 (by omega),w64 (by omega)];unfold nY;simp only[ZCp,List.map_nil,hb,ZCt]
   rfl
 ·show cZ aB r (r.1.2.2.2.length:Int) s.1 s.2.1.1 s.2.1.2 s.2.2.1.1 s.2.2.1.2 s.2.2.2.1 s.2.2.2.2 _ q M [c] 0 0 0 0 0 false 0 false 0 [r.1] _ _=_;unfold cZ Pb Pc Pd Pe Pf Pg Ph Pi Pj Pk Pl Pm Pn Po Pp Pq Pr Ps Pt Pu Pv Pw Py Pz PV;rw[ZAE (by omega),ZAD,ZAu]
def qZ(l:List eV)(vs:List Int)(bs:List (List UInt8)):Nat->BM->BM
 |0,M=>M
 |k+1,M=>UE (qZ l vs bs k M) (((l[k]?).getD (0,((0,0),0))).2.2,(vs[k]?).getD 0) ((bs[k]?).getD [])
theorem tgZ{p:vO}{vs}{bs}(h1:p.2.2.2.length<=100000)(h2:vs.length=p.2.2.2.length)(h3:bs.length=p.2.2.2.length):
 gG aB p (0,stZ s nx q M ([c],z9 (vs,bs)))=some (stZ s nx q (qZ p.2.2.2 vs bs p.2.2.2.length M) ([c],z9 vs)):=by
 refine aoZ (fun k:Nat=>((k:Int),stZ s nx q (qZ p.2.2.2 vs bs k M) ([c],z9 (vs,bs)))) p.2.2.2.length (by omega) (fun k hk=> ?_) ?_
 ·obtain⟨nd,hn⟩:∃nd,p.2.2.2[k]? =some nd:=⟨_,ZAC hk⟩;obtain⟨v,hv⟩:∃v,vs[k]? =some v:=⟨_,ZAC (by omega)⟩;obtain⟨b,hb⟩:∃b,bs[k]? =some b:=⟨_,ZAC (by omega)⟩;show dA aB p (k:Int) s.1 s.2.1.1 s.2.1.2 s.2.2.1.1 s.2.2.1.2 s.2.2.2.1 s.2.2.2.2 nx q (qZ p.2.2.2 vs bs k M) [c] 0 0 0 0 0 false 0 false 0 vs bs=_;unfold dA;rw[ZAJ (by omega),acZ hk,ZAA,hn,ZAA,acZ (by omega),ZAA,hv,ZAA,acZ (by omega),ZAA,hb,w64 (by omega)];show _=some (Sum.inl (((k+1:Nat):Int),stZ s nx q (qZ p.2.2.2 vs bs (k+1) M) ([c],z9 (vs,bs))))
  conv=>rhs;unfold qZ
  rw[hn,hv,hb]
  rfl
 show dA aB p (p.2.2.2.length:Int) s.1 s.2.1.1 s.2.1.2 s.2.2.1.1 s.2.2.1.2 s.2.2.2.1 s.2.2.2.2 nx q _ [c] 0 0 0 0 0 false 0 false 0 vs bs=_;simp_all[dA,ZAD]
end
structure rA (s:bT) (q:Nat) (nx:Int) (M:BM) (n:Int):Prop where
 ok:lU s q
 xs:vZ n s.2.2.1.2
 i:0<=n/\n<=30
 w:s.2.1.2<=258*n
 x:0<=nx/\nx<=258*n
 b:∀p,(blk M p).length=0\/(blk M p).length=q
 z:blk M (0,0)=[]
 v:∀x∈s.2.1.1,∀p∈x.2.2.2.2.2.1,dG p=true\/(p.2<=nx/\(blk M p).length=q)
def SS(r:aY)(b:List UInt8):aY:=(r.1,(r.2.1,(r.2.2.1,(r.2.2.2.1,(r.2.2.2.2.1,(r.2.2.2.2.2.1,(b,r.2.2.2.2.2.2.2)))))))
def IA(M:BM)(l:List eV):List (List UInt8):=l.map fun n=>blk M n.2.1
def NO(s:bT)(q:Nat)(M:BM)(c:aX):aY:=
 if c.2.2.1=uO 4/\(aU (aI s.2.1) c).2.1=0 then SS (cT s c) (NN q (min (mR s c).2.2.2.2.1.toNat c.2.2.2.2.2.2.2.1.toNat/q) (mR s c).2.2.2.2.1.toNat c (IA M (iV (mR s c) q c))) else cT s c
def cW(s:bT)(q:Nat)(c:aX):List eV:=(dN s q c).1.2.2.2
def newM(s:bT)(q:Nat)(nx:Int)(M:BM)(c:aX):BM:=qZ (cW s q c) (fF nx (cW s q c).length) (gW q c (cW s q c) ((cW s q c).map (nY (dN s q c).1.2.2.1 M))) (cW s q c).length M
inductive vT (s:bT) (q:Nat) (nx:Int) (M:BM) (c:aX):aY->bT->Int->BM->Prop
 |bad:aL c=false->vT s q nx M c (HY c 179) s nx M
 |tell:aL c=true->jW c.2.2.1=true->vT s q nx M c (NO s q M c) s nx M
 |done {s'}:aL c=true->jW c.2.2.1=false->Next s q c (fF nx (cW s q c).length) s'->vT s q nx M c (cT s c) s' (nx+((cW s q c).length:Nat)) (newM s q nx M c)
theorem rZZ{s}{q}{c}(hr:aL c=true)(ha:jW c.2.2.1=false)(hl:(look s.2.2.1 c.1 c.2.1).2=0):(dN s q c).1.1=2:=by
 unfold dN
 grind
theorem kCZ(P)(wh)(a)(w):∀(k) (nd),nd∈(dE P wh a k w).2.2↔∃j,j<k/\nd=(((a+j:Nat):Int),(pAt P (a+j),(pAt P (a+j)).1))/\dG (pAt P (a+j))=false/\wh (a+j)=false
 |0,nd=>⟨fun h=>(by cases h),fun⟨j,h,_⟩=>(by omega)⟩
 |k+1,nd=>by
  have ih:=kCZ P wh a w k nd;have up:∀{Q:Nat->Prop},(∃j,j<k+1/\Q j)↔(∃j,j<k/\Q j)\/Q k:=fun{Q}=>⟨fun⟨j,h,q⟩=>by
   by_cases e:j=k
   ·exact .inr (e▸q)
   ·exact .inl ⟨j,by omega,q⟩,fun h=>h.elim (fun⟨j,h,q⟩=>⟨j,by omega,q⟩) fun q=>⟨k,by omega,q⟩⟩
  show nd∈(gJ P wh (a+k) (dE P wh a k w)).2.2↔_;unfold gJ
  grind
theorem tmZ(P)(i):pAt P i=(0,0)\/pAt P i∈P:=by
 unfold pAt
 grind
section
variable {s : bT} {q : Nat} {nx : Int} {M : BM} {n : Int} {c : aX}
structure VX (s:bT) (q:Nat) (nx:Int) (M:BM) (c:aX):Prop where
 len:(cW s q c).length<=258
 rd:(dN s q c).1.2.2.1.length<=258
 op:(cW s q c).length≠0->c.2.2.1=uO 5\/c.2.2.1=uO 6
 at_:∀nd∈cW s q c,(0<=nd.1/\nd.1<=4096)/\nd.2.1.2<=nx
 old:∀nd∈cW s q c,inB (dN s q c).1.2.2.1 nd=true->(blk M nd.2.1).length=q
theorem siZ(h:rA s q nx M n)(h2:(dN s q c).1.1=2):VX s q nx M c:=by
 let⟨_,hr,_⟩:=cDZ h2
 have hq:=h.ok.q;by_cases hw:(aU (aI s.2.1) c).2.1=0/\(c.2.2.1=uO 5\/c.2.2.1=uO 6)
 ·let⟨x,hx⟩:=r8Z (q:=q) hr hw.2 hw.1
  have hxm:=ZAG hx.f.at_;have hmn:=mbZ (x:=x) hq.1 (a6Z hr).2.2;have hf:=b0Z x.2.2.2.2.2.1 (iW q c) (fO q c) s.2.1.2 (fP x q c);have e:cW s q c=(dE x.2.2.2.2.2.1 (iW q c) (fO q c) (fP x q c) s.2.1.2).2.1:=by unfold cW;rw[jMZ h2 hx];rfl
  have e2:(dN s q c).1.2.2.1=(dE x.2.2.2.2.2.1 (iW q c) (fO q c) (fP x q c) s.2.1.2).2.2:=by rw[jMZ h2 hx];rfl
  have hN4:pN x q c<=4096:=by
   have r3:=(f3Z h.ok.t hx.r hx.hop hx.h0 hx.f).2.2;unfold pN;exact lZZ (by omega) (by omega)
  have nx0:=h.x;refine⟨by simp_all,by grind,fun _=>hw.2,fun nd hnd=> ?_,fun nd _ hi=> ?_⟩
  ·rw[e] at hnd
   let⟨j,hj⟩:=ZAP hnd
   have hj2:=(ZAB.1 hj).1;rw[eJZ _ _ _ _ _ _ (by omega:j<fP x q c)] at hj;obtain rfl:=ZAh hj;have:=hx.span hq.1 (by omega);refine⟨by simp;omega,?_⟩;show(pAt x.2.2.2.2.2.1 (fO q c+j)).2<=nx;rcases tmZ x.2.2.2.2.2.1 (fO q c+j) with z|z
   ·rw[z];exact nx0.1
   ·rcases h.v x hxm _ z with u|u
    ·unfold dG at u;simp[ZBz] at u;omega
    ·exact u.1
  ·rw[uSZ,e2,kCZ] at hi;obtain⟨j,_,rfl,h1,_⟩:=hi;show(blk M (pAt x.2.2.2.2.2.1 (fO q c+j))).length=q;rcases tmZ x.2.2.2.2.2.1 (fO q c+j) with z|z
   ·rw[z] at h1;cases h1
   ·rcases h.v x hxm _ z with u|u
    ·rw[h1] at u;cases u
    ·exact u.2
 ·have e:=vyZ h2 hw;have en:cW s q c=[]:=by unfold cW;rw[e]
  refine⟨by rw[en];decide,by rw[e];decide,fun z=>absurd (by rw[en];rfl) z,fun nd h=> ?_,fun nd h=> ?_⟩<;>(rw[en] at h;cases h)
theorem idZ{l}{k}{bs}{p}(h:p.2<=nx):∀m,m<=k->blk (qZ l (fF nx k) bs m M) p=blk M p
 |0,_=>rfl
 |m+1,hm=>by
  unfold qZ;rw[euZ (by omega),kRZ,ZAM,idZ h m (by omega)];rintro rfl;simp at h;omega
theorem nkZ{l}{k}{bs}{j}{nd}(hn:l[j]? =some nd):∀m,j<m->m<=k->blk (qZ l (fF nx k) bs m M) (nd.2.2,nx+(j:Int)+1)=(bs[j]?).getD []
 |m+1,hj,hm=>by
  unfold qZ;rw[euZ (by omega),kRZ];by_cases e:j=m
  ·simp_all
  ·rw[nkZ hn m (by omega) (by omega)]
   grind
theorem mSZ{l}{vs}{bs}(hb:∀b∈bs,b.length=q)(h:∀p,(blk M p).length=0\/(blk M p).length=q):∀m p,(blk (qZ l vs bs m M) p).length=0\/(blk (qZ l vs bs m M) p).length=q
 |0,p=>h p
 |m+1,p=>by
  unfold qZ;rw[kRZ];split
  ·grind
  ·exact mSZ hb h m p
theorem mBZ{l}{olds}:∀b∈gW q c l olds,b.length=q:=fun b hb=>by
 let⟨j,hj⟩:=ZAP hb
 unfold gW at hj
 grind[ZAh,d6Z]
end
section
variable {s : bT} {q : Nat} {nx : Int} {M : BM} {n : Int} {c : aX}
noncomputable abbrev iL (s : bT) (q : Nat) (nx ) (M : BM) (c : aX) := cK aB c s.1 s.2.1.1 s.2.1.2 s.2.2.1.1 s.2.2.1.2 s.2.2.2.1 s.2.2.2.2 nx (q : Int) M
theorem vpZ(h:lU s q)(hr:aL c=false):iL s q nx M c=some (iK (HY c 179) (true,stD s nx q M)):=by
 unfold iL cK Pa Pb Pc Pd Pe Pf Pg Ph Pi Pj Pk Pl Pm Pn Po Pp Pq Pr Ps Pt Pu PH PS PU;rw[(ejZ h c)];rw[show dN s q c=((0,(zR,([],[]))),179) by unfold dN;rw[hr];rfl]
 rfl
theorem ooZ(hr:aL c=true)(ha:jW c.2.2.1=true):dN s q c=if c.2.2.1=uO 4/\(aU (aI s.2.1) c).2.1=0 then((1,(noB (cT s c),(iV (mR s c) q c,[]))),0) else((1,(cT s c,([],[]))),0):=by
 unfold dN;rw[ZAN hr,ZAN ha];rfl
theorem vUZ(r):(noB r).2.2.1=r.2.2.1:=rfl
theorem pVZ{x}(hx:jT s c x):cH (aI s.2.1) c.2.2.2.1=(c.2.2.2.1.1,iJ x,0):=by
 have hb0:(aI s.2.1).1.1[(c.2.2.2.1.1-1).toNat]? =some (dU x):=by
  unfold aI;simp only[ZAY,hx.at_];rfl
 have hd0:(aI s.2.1).2[(c.2.2.2.1.1-1).toNat]? =some (iJ x):=by
  unfold aI;simp only[ZAY,hx.at_];rfl
 unfold cH;rw[cCZ.2 ((⟨hx.h1,hb0,hx.used,hx.gen⟩))];simp only;rw[show(dU x).2.2.2.1=false from hx.dir,hd0];rfl
theorem swZ{x}(hr:aL c=true)(h4:c.2.2.1=uO 4)(h0:(aU (aI s.2.1) c).2.1=0)(hx:jT s c x):(aU (aI s.2.1) c).2.2=((0,0),false,(((iJ x).length:Nat):Int),SQ (iJ x) c.2.2.2.2.2.2.2.1 c.2.2.2.2.2.2.2.2.1,[],decide (c.2.2.2.2.2.2.2.1+c.2.2.2.2.2.2.2.2.1<(((iJ x).length:Nat):Int)),0):=by
 unfold aU;rw[ZAN hr,ZAN (res0 hr h0),act4 h4];unfold nT;rw[pVZ hx,ZAN rfl]
theorem oiZ{R:aY}{l:List eV}{b}(hp:mM aB s (q:Int) c=some ((1,(R,(l,[]))),0))(h4:c.2.2.1=uO 4)(h0:R.2.2.1=0)(hl:l.length<=100000)(hg:MV aB (q:Int) c R.2.2.2.2.2.1 l (IA M l)=some (0,b)):
 iL s q nx M c=some (iK (SS R b) (true,stD s nx q M)):=by
 unfold iL cK Pa Pb Pc Pd Pe Pf Pg Ph Pi Pj Pk Pl Pm Pn Po Pp Pq Pr Ps Pt Pu PH PS PU;rw[(hp),ZAA];simp[ZAK];refine(congrArg (fun o=>Option.bind o _) (mtZ hl)).trans ?_;rw[ZAA];simp[ZAA];rw[op4,ZAJ h4]
 let⟨r0,r1,r2,r3⟩:=R
 simp at h0 hg;subst h0;simp only[ZAK,(rfl),ZAA,ZAR,ZBt];refine(congrArg (fun o=>Option.bind o _) hg).trans ?_
 rfl
theorem qdZ{R:aY}(hp:mM aB s (q:Int) c=some ((1,(R,([],[]))),0))(h4:c.2.2.1=uO 4->R.2.2.1≠0):iL s q nx M c=some (iK R (true,stD s nx q M)):=by
 unfold iL cK Pa Pb Pc Pd Pe Pf Pg Ph Pi Pj Pk Pl Pm Pn Po Pp Pq Pr Ps Pt Pu PH PS PU;rw[(hp),ZAA];simp[ZAK];refine(congrArg (fun o=>Option.bind o _) (mtZ (by simp))).trans ?_;rw[ZAA];simp[ZAA];rw[op4];by_cases e4:c.2.2.1=uO 4
 ·rw[ZAJ e4];simp[(ZAW.2 (h4 e4)),ZAA,ZAR,ZBt]
  rfl
 ·rw[ZAE e4];simp only[ZAD,ZAA,ZAR,ZBt]
  rfl
theorem tUZ(h:rA s q nx M n)(hr:aL c=true)(ha:jW c.2.2.1=true):iL s q nx M c=some (iK (NO s q M c) (true,stD s nx q M)):=by
 have hq:=h.ok.q;have hp:=ejZ h.ok c;rw[ooZ hr ha] at hp;unfold NO;by_cases h4:c.2.2.1=uO 4/\(aU (aI s.2.1) c).2.1=0
 ·rw[ZAN h4] at hp⊢
  let⟨x,hx⟩:=vzZ hr h4.1 h4.2
  have hsz:=edZ h.ok.t hx.at_;have hl:=h.ok.l _ _ hx.at_ hx.used hx.dir;have hN4:(x.2.2.2.2.1.toNat+q-1)/q<=4096:=lZZ (by omega) (by have:4096*16<=4096*q:=ZB8 _ hq.1;omega);have hrd:iV (mR s c) q c=iV x q c:=by rw[hx.p]
  have hmono:=ljZ (q:=q) (a:=min x.2.2.2.2.1.toNat (c.2.2.2.2.2.2.2.1.toNat+c.2.2.2.2.2.2.2.2.1.toNat)) (Nat.min_le_left _ _);have at_:∀(j) nd,(iV x q c)[j]? =some nd->nd.1=((min x.2.2.2.2.1.toNat c.2.2.2.2.2.2.2.1.toNat/q+j:Nat):Int)/\nd.1<=4096:=fun j nd hj=>by
   unfold iV at hj;split at hj
   ·unfold kZ at hj;have hlt:=(ZAB.1 hj).1;rw[ZAl,List.length_range] at hlt;rw[ZAY,List.getElem?_range hlt] at hj;obtain rfl:=ZAh hj;exact⟨rfl,by simp;omega⟩
   ·cases hj
  have hlen:(iV x q c).length<=4096:=by
   unfold iV;split
   ·rw[hXZ];exact ZBD (Nat.sub_le _ _) (ZBD hmono hN4)
   ·exact ZBI _
  have hg:wT q (iV x q c) (IA M (iV x q c)):=⟨by unfold IA;rw[ZAl],by omega,fun b hb=>by
   obtain⟨nd,_,rfl⟩:=ZBM.1 hb;exact h.b _,fun nd hnd=>by
   let⟨j,hj⟩:=ZAP hnd
   have:=at_ j nd hj;exact⟨by rw[this.1];exact Int.natCast_nonneg _,by omega⟩⟩
  have hf:(cT s c).2.2.2.2.2.1=((x.2.2.2.2.1.toNat:Nat):Int):=by
   show(aU (aI s.2.1) c).2.2.2.2.1=_;rw[swZ hr h4.1 h4.2 hx];show(((iJ x).length:Nat):Int)=_;unfold iJ;rw[ZCD]
  rw[hrd] at hp⊢;refine(oiZ hp h4.1 ((vUZ _).trans h4.2) (by omega) ?_).trans rfl;rw[hx.p];refine Eq.trans ?_ (qoZ hq hr h4.1 (by omega) hg fun j nd hj=>(at_ j nd hj).1);rw[<-hf];rfl
 ·rw[ZAM h4] at hp⊢;exact qdZ hp fun e z=>h4 ⟨e,z⟩
end
section
variable {s : bT} {q : Nat} {nx : Int} {M : BM} {n : Int} {c : aX}
theorem oqZ{p:vO}{s':bT}{r}(hp:mM aB s (q:Int) c=some (p,0))(h2:p.1=2)(h1:p.2.2.1.length<=258)(hl:p.2.2.2.length<=258)(hn:0<=nx/\nx<=1099511627776)
 (hM:∀n∈p.2.2.2,inB p.2.2.1 n=true->(blk M n.2.1).length≠0/\(blk M n.2.1).length<=1000)
 (hb:p.2.2.2.length≠0->MY aB (q:Int) c p.2.2.2 (p.2.2.2.map (nY p.2.2.1 M))=some (0,gW q c p.2.2.2 (p.2.2.2.map (nY p.2.2.1 M))))
 (ha:mN aB s (q:Int) c (fF nx p.2.2.2.length) 0=some (s',iK r (0:Int))):
 iL s q nx M c=some (iK r (true,stD s' (nx+(p.2.2.2.length:Nat)) q (qZ p.2.2.2 (fF nx p.2.2.2.length) (gW q c p.2.2.2 (p.2.2.2.map (nY p.2.2.1 M))) p.2.2.2.length M))):=by
 unfold iL cK Pa Pb Pc Pd Pe Pf Pg Ph Pi Pj Pk Pl Pm Pn Po Pp Pq Pr Ps Pt Pu PH PS PU;rw[(hp),ZAA];simp only;rw[h2];simp only[(rfl),(rfl),(rfl),show((2:Int)==2)=true from rfl,ZAQ,ZAD,ZAK];refine(congrArg (fun o=>Option.bind o _) (rNZ (by grind) (by grind) hn hM)).trans ?_;rw[ZAA];simp only[ZAR,ZAA];have hol:(p.2.2.2.map (nY p.2.2.1 M)).length=p.2.2.2.length:=ZAl ..;have hnl:(gW q c p.2.2.2 (p.2.2.2.map (nY p.2.2.1 M))).length=p.2.2.2.length:=by unfold gW;rw[List.length_zipWith,hol];omega
 have hvl:=cJZ nx p.2.2.2.length;by_cases h0:p.2.2.2.length=0
 ·have hnil:=ZCT.1 h0;rw[ZAE (by omega)];simp only[ZAD,ZAA,ZAR];refine(congrArg (fun o=>Option.bind o _) ((ha))).trans ?_;rw[ZAA];simp only[ZAR,ZAA,ZBt];rw[show qZ p.2.2.2 (fF nx p.2.2.2.length) (gW q c p.2.2.2 (p.2.2.2.map (nY p.2.2.1 M))) p.2.2.2.length M=M by rw[h0];rfl]
  rfl
 ·rw[ZAJ (by omega)];simp only[ZAK];rw[hb h0,ZAA];simp only[show((0:Int)==0)=true from rfl,ZAQ,ZAD,ZAA];rw[hnl,ZAd];simp only[ZAQ,ZAD,ZAA,ZAR];refine(congrArg (fun o=>Option.bind (Option.bind o _) _) (tgZ (by omega) hvl hnl)).trans ?_;rw[ZAA,ZAA];simp only[ZAR,ZAA];refine(congrArg (fun o=>Option.bind o _) ((ha))).trans ?_;rw[ZAA];simp only[ZAR,ZAA,ZBt]
  rfl
theorem tCZ(h:rA s q nx M n)(hr:aL c=true)(ha:jW c.2.2.1=false)(hn:n<c.2.1):Ask s q c (fF nx (cW s q c).length)/\VX s q nx M c:=by
 have h2:=rZZ (q:=q) hr ha (by rw[s1Z h.ok.c h.xs hn]);have N:=siZ h h2;have h0:=h.x;have hi:=h.i;refine⟨⟨h.ok,h2,h.xs.mono (by omega),tQZ h2 (cJZ _ _) (by rw[cJZ];have:=N.len;omega) fun j nd v hj hv=> ?_⟩,N⟩;have hlt:j<(cW s q c).length:=(ZAB.1 hj).1;rw[euZ hlt] at hv;obtain rfl:=ZAh hv;have:=(N.at_ nd (ZAG hj)).2;have:=N.len;omega
theorem uzZ(h:rA s q nx M n)(hr:aL c=true)(ha:jW c.2.2.1=false)(hn:n<c.2.1):
 ∃s',iL s q nx M c=some (iK (cT s c) (true,stD s' (nx+((cW s q c).length:Nat)) q (newM s q nx M c)))/\Next s q c (fF nx (cW s q c).length) s':=by
 let⟨A,N⟩:=tCZ h hr ha hn
 have hq:=h.ok.q;have h0:=h.x;have hi:=h.i;have hw:=h.w;obtain⟨s',e1,e2⟩:=nmZ A (by omega) (cJZ _ _) fun v hv=>by
  obtain⟨j,hj,rfl⟩:=ZBM.1 hv;have:=ZCM.1 hj;have:=N.len;omega
 have hp:=ejZ h.ok c;rw[show dN s q c=((dN s q c).1,0) from Prod.ext rfl (cDZ A.two).1] at hp;refine⟨s',oqZ hp A.two N.rd N.len (by omega) (fun nd hnd hin=> ?_) (fun hne=> ?_) e1,e2⟩
 ·have:=N.old nd hnd hin;omega
 ·refine plZ hq hr (N.op hne) ⟨ZAl ..,ZBD N.len (by decide),fun b hb=> ?_,fun nd hnd=> ?_⟩
  ·obtain⟨nd,_,rfl⟩:=ZBM.1 hb;unfold nY;split
   ·exact h.b _
   ·exact .inl rfl
  ·have:=(N.at_ nd hnd).1;omega
theorem hRZ{l0 l1}{i}{p}(h:p∈bJ l0 l1 i):∃x∈l0,p∈x.2.2.2.2.2.1:=by
 grind[bJ,ZAG]
theorem oxZ{vs}(A:Ask s q c vs)(hv:vs.length=(cW s q c).length){x}(hx:x∈yP s q c vs){p}(hp:p∈x.2.2.2.2.2.1):
 dG p=true\/(∃y∈s.2.1.1,p∈y.2.2.2.2.2.1)\/∃(j:Nat) (nd:eV) (v:Int),(cW s q c)[j]? =some nd/\vs[j]? =some v/\p=(nd.2.2,v):=by
 obtain⟨_,hr,_⟩:=cDZ A.two;obtain⟨i,hi⟩:=ZAP hx;unfold yP at hi;split at hi
 ·rename_i h0;split at hi
  ·rename_i hop;obtain⟨y,hy⟩:=r8Z hr hop h0;rw[hy.f.p] at hi;unfold lW at hi;by_cases e:atC c=i
   ·subst e;rw[ZAU (by rw[clZ];exact(ZAB.1 (h7Z hy)).1)] at hi;obtain rfl:=ZAh hi;have hp:=hp;have hP:=(hwZ A.ok.t y (ZAG hy.f.at_)).2;have hst:=A.ok.t.r.str;have W:=lQZ (wh:=iW q c) (n:=fP y q c) (N:=pN y q c) (w:=s.2.1.2) (W:=s.2.1.2) (vs:=vs) (hy.span A.ok.q.1) hP (ZB6 _) hst.1 (fP y q c) (ZAL _);have en:cW s q c=(dE y.2.2.2.2.2.1 (iW q c) (fO q c) (fP y q c) s.2.1.2).2.1:=by unfold cW;rw[jMZ A.two hy];rfl
    have hf:=(b0Z y.2.2.2.2.2.1 (iW q c) (fO q c) s.2.1.2 (fP y q c)).1;rcases W.ok p hp with z|⟨j,j1,j2,_⟩
    ·rcases ZAc.1 z with u|u
     ·exact .inr (.inl ⟨y,ZAG hy.f.at_,ZCP u⟩)
     ·rw[(List.mem_replicate.1 u).2];exact .inl rfl
    ·have hj:j<vs.length:=by rw[hv,en,hf];exact j1
     refine .inr (.inr ⟨j,_,vs[j],by rw[en];exact eJZ _ _ _ _ _ _ j1,ZAC hj,?_⟩);rw[j2,ZAC hj];rfl
   ·rw[ZAa e] at hi;obtain⟨z,_,rfl⟩:=biZ hi;exact .inr (.inl (hRZ hp))
  ·obtain⟨z,_,rfl⟩:=biZ hi;exact .inr (.inl (hRZ hp))
 grind
theorem rA.next(h:rA s q nx M n)(hr:aL c=true)(ha:jW c.2.2.1=false)(hn:n<c.2.1/\c.2.1<=30){s'}(N:Next s q c (fF nx (cW s q c).length) s'):
 rA s' q (nx+((cW s q c).length:Nat)) (newM s q nx M c) c.2.1:=by
 let⟨A,D⟩:=tCZ h hr ha hn.1
 have h0:=h.x;have hw:=h.w;have nw:=N.w;have dl:=D.len;refine⟨N.ok,N.xs,by omega,by omega,by omega,mSZ mBZ h.b _,?_,fun x hx p hp=> ?_⟩
 ·unfold newM;rw[idZ h0.1 _ (ZAL _)];exact h.z
 ·rw[N.tree] at hx;rcases oxZ A (cJZ _ _) hx hp with z|⟨y,hy,hpy⟩|⟨j,nd,v,j1,j2,rfl⟩
  ·simp_all
  ·refine(h.v y hy p hpy).imp id fun u=>⟨by omega,?_⟩
   simp_all[newM,idZ]
  ·have hlt:=(ZAB.1 j1).1;rw[euZ hlt] at j2;obtain rfl:=ZAh j2;refine .inr ⟨by simp;omega,?_⟩;unfold newM;rw[nkZ j1 _ hlt (ZAL _)];have hnl:(gW q c (cW s q c) ((cW s q c).map (nY (dN s q c).1.2.2.1 M))).length=(cW s q c).length:=by unfold gW;rw[List.length_zipWith,ZAl];omega
   rw[ZAC (by omega)];exact mBZ _ (ZBO _)
theorem rA.mono(h:rA s q nx M n){m}(hm:n<=m/\m<=30):rA s q nx M m:=by
 have h2:=h.w;have h3:=h.x;exact⟨h.ok,h.xs.mono hm.1,by omega,by omega,by omega,h.b,h.z,h.v⟩
theorem q3Z(h:rA s q nx M n)(hn:n<c.2.1/\c.2.1<=30):∃r s' nx' M',iL s q nx M c=some (iK r (true,stD s' nx' q M'))/\vT s q nx M c r s' nx' M'/\rA s' q nx' M' c.2.1:=by
 cases hr:aL c
 ·exact⟨_,_,_,_,vpZ h.ok hr,.bad hr,h.mono ⟨by omega,hn.2⟩⟩
 ·cases ha:jW c.2.2.1
  ·let⟨s',e1,e2⟩:=uzZ h hr ha hn.1
   exact⟨_,_,_,_,e1,.done hr ha e2,h.next hr ha hn e2⟩
  ·exact⟨_,_,_,_,tUZ h hr ha,.tell hr ha,h.mono ⟨by omega,hn.2⟩⟩
end
theorem tfZ(t:cI):∃b,qA aB t=some b/\(b=false->t.1.length<=40/\∀n∈t.1,n.2.2.2.2.2.1.length<=120/\n.2.2.2.2.2.2.2.length<=120):=by
 unfold qA;by_cases h0:t.1.length>40
 ·rw[show decide (((t.1.length:Nat):Int)>40)=true from by simp;omega];exact⟨true,rfl,by simp⟩
 rw[show decide (((t.1.length:Nat):Int)>40)=false from by simp;omega];have loop:∃o,jK aB t (0,(t.1,t.2))=some o/\((o= .inl ()/\∀n∈t.1,n.2.2.2.2.2.1.length<=120/\n.2.2.2.2.2.2.2.length<=120)\/o= .inr true):=by
  unfold jK;refine a5Z (fun m s=>∃(k:Nat),s=((k:Int),(t.1,t.2))/\k+m=t.1.length/\∀(i) n,i<k->t.1[i]? =some n->n.2.2.2.2.2.1.length<=120/\n.2.2.2.2.2.2.2.length<=120) _ (fun m s hI=> ?_) (fun s hI=> ?_) t.1.length _ (by omega) ⟨0,rfl,by omega,fun i n h=>absurd h (ZBk _)⟩
  ·obtain⟨k,rfl,hk,g1⟩:=hI;have hlt:k<t.1.length:=by omega
   obtain⟨n,hg⟩:∃n,t.1[k]? =some n:=⟨_,ZAC hlt⟩;unfold nC;simp only[aEZ hlt];rw[acZ hlt];simp only[ZAA,hg];by_cases h1:n.2.2.2.2.2.1.length>120
   ·rw[show decide (((n.2.2.2.2.2.1.length:Nat):Int)>120)=true from by simp;omega];exact .inr ⟨_,rfl,.inr rfl⟩
   rw[show decide (((n.2.2.2.2.2.1.length:Nat):Int)>120)=false from by simp;omega,ZAD,ZAA];by_cases h2:n.2.2.2.2.2.2.2.length>120
   ·rw[show decide (((n.2.2.2.2.2.2.2.length:Nat):Int)>120)=true from by simp;omega];exact .inr ⟨_,rfl,.inr rfl⟩
   rw[show decide (((n.2.2.2.2.2.2.2.length:Nat):Int)>120)=false from by simp;omega];simp only;rw[acZ hlt];simp only[ZAA,hg];have inner:∃o,jJ aB n (k:Int) (0,(t.1,t.2))=some o/\(o= .inl (t.1,t.2)\/o= .inr (.inr (.inr true))):=by
    unfold jJ;refine a5Z (fun m s=>∃(j:Nat),s=((j:Int),(t.1,t.2))/\j+m=n.2.2.2.2.2.2.2.length) _ (fun m s hI=> ?_) (fun s hI=> ?_) n.2.2.2.2.2.2.2.length _ (by omega) ⟨0,rfl,by omega⟩
    ·obtain⟨j,rfl,hj⟩:=hI;have hjl:j<n.2.2.2.2.2.2.2.length:=by omega
     obtain⟨e,he⟩:∃e,n.2.2.2.2.2.2.2[j]? =some e:=⟨_,ZAC hjl⟩;unfold nB;simp only[aEZ hjl,ZAK];rw[acZ hlt];simp only[ZAA,hg];rw[acZ hjl];simp only[ZAA,he];by_cases h3:e.1.length>3000
     ·rw[show decide (((e.1.length:Nat):Int)>3000)=true from by simp;omega];exact .inr ⟨_,rfl,.inr rfl⟩
     ·rw[show decide (((e.1.length:Nat):Int)>3000)=false from by simp;omega,w64 (by omega)];exact .inl ⟨_,rfl,j+1,by simp,by omega⟩
    ·obtain⟨j,rfl,hj⟩:=hI;have:=by omega
     subst this;unfold nB;simp only[aCZ (ZA1 _),ZAD];exact⟨_,rfl,.inl rfl⟩
   let⟨o,ho,hq⟩:=inner
   rw[ho,ZAA];rcases hq with rfl|rfl
   ·rw[w64 (by omega)];refine .inl ⟨_,rfl,k+1,by simp,by omega,fun i n' hi hg'=> ?_⟩;by_cases hik:i=k
    ·subst hik;rw[hg] at hg';cases hg';omega
    ·exact g1 i n' (by omega) hg'
   ·exact .inr ⟨_,rfl,.inr rfl⟩
  ·obtain⟨k,rfl,hk,g1⟩:=hI;have:k=t.1.length:=by omega
   subst this;unfold nC;simp only[aCZ (ZA1 _),ZAD];refine⟨_,rfl,.inl ⟨rfl,fun n hn=> ?_⟩⟩
   let⟨i,hi⟩:=ZAP hn
   exact g1 i n (ZAB.1 hi).1 hi
 let⟨o,ho,hq⟩:=loop
 rw[ho,ZAA];rcases hq with⟨rfl,hq⟩|rfl<;>grind
theorem raZ(c:aX):kN aB c (0,(0,(0,((0,0),(false,(0,([],([],(false,0)))))))))=some true\/kN aB c (0,(0,(0,((0,0),(false,(0,([],([],(false,0)))))))))=some false:=by
 unfold kN Pa Pb Pc Pd Pf Pg PC PH;have it:∀o,o.2.2.2.2.2.2.2.2.2.1=[]->∀s,mI aB o (0,s)=some (.inl ()):=by
  intro o ho s;refine imZ ?_;unfold rG;rw[ho]
  rfl
 grind
theorem u2Z{m}(h:aZ m):∃b,lG aB m=some b:=by
 unfold lG
 let⟨b,hb,_⟩:=tfZ m.1
 rw[hb];cases b with
 |true=>simp_all
 |false=>
  simp only[ZAA];by_cases h60:((m.2.length:Nat):Int)>60
  ·simp_all
  ·rw[ZAE h60];simp only[ZAD];have loop:∃o,iC aB (false,(m.1.1,(m.1.2,m.2))) (0,(0,(m.1.1,(m.1.2,m.2))))=some o/\True:=by
    unfold iC;refine a5Z (fun r s=>∃(k:Nat) (n:Int),s=(n,((k:Int),(m.1.1,(m.1.2,m.2))))/\k+r=m.2.length/\0<=n/\n<=65536*k) _ (fun r s hI=> ?_) (fun s hI=> ?_) m.2.length _ (by have:=h.n;omega) ⟨0,0,rfl,by omega,by omega,by omega⟩
    ·obtain⟨k,n,rfl,hk,h0,h1⟩:=hI;have hlt:k<m.2.length:=by omega
     obtain⟨b,hb⟩:∃b,m.2[k]? =some b:=⟨_,ZAC hlt⟩;have:=h.byt hb;unfold kM;simp only[aEZ hlt];rw[acZ hlt,ZAA,hb,ZAA,w64 (by omega),w64 (by omega)];exact .inl ⟨_,rfl,k+1,_,rfl,by omega,by omega,by omega⟩
    ·obtain⟨k,n,rfl,hk,h0,h1⟩:=hI;have:k=m.2.length:=by omega
     subst this;unfold kM;simp only[aCZ (ZA1 _)];exact⟨_,rfl,trivial⟩
   grind
def M0:Mod:=(([(1,1,true,true,0,[],1,[])],0),[[]])
theorem waZ:aZ M0:=by
 refine⟨t8Z,rfl,fun i x hx=> ?_,fun i x b hx hb=> ?_⟩
 ·cases i with
  |zero=>simp[M0] at hx;subst hx;rfl
  |succ i=>simp[M0] at hx
 grind[M0]
theorem vIZ:pZ aB=some (M0.1.2,(M0.1.1,M0.2)):=by kernel_rfl
def cA:aX:=(0,(1,(uO 2,((1,1),([102],((0,0),([],(0,(0,[])))))))))
def MA:Mod:=(([(1,1,true,true,0,[],1,[([102],2)]),(2,1,true,false,0,[],1,[])],0),[[],[]])
def cB:aX:=(0,(1,(uO 5,((2,1),([],((0,0),([],(2,(0,[uO 97,uO 98,uO 99])))))))))
def MB:Mod:=(([(1,1,true,true,0,[],1,[([102],2)]),(2,1,true,false,5,[],1,[])],0),[[],[0,0,97,98,99]])
def cC:aX:=(0,(1,(uO 4,((2,1),([],((0,0),([],(0,(9,[])))))))))
def cD:aX:=(0,(1,(uO 6,((2,1),([],((0,0),([],(0,(3,[])))))))))
def MD:Mod:=(([(1,1,true,true,0,[],1,[([102],2)]),(2,1,true,false,3,[],1,[])],0),[[],[0,0,97]])
def cE:aX:=(0,(1,(uO 6,((2,1),([],((0,0),([],(0,(5,[])))))))))
def ME:Mod:=(([(1,1,true,true,0,[],1,[([102],2)]),(2,1,true,false,5,[],1,[])],0),[[],[0,0,97,0,0]])
def cG:aX:=(0,(1,(uO 12,((0,0),([],((0,0),([],(0,(0,[])))))))))
theorem x1:aU M0 cA=(MA,0,((2,1),false,0,[],[],false,0)):=by kernel_rfl
theorem x2:aU MA cB=(MB,0,((2,1),false,5,[],[],false,0)):=by kernel_rfl
theorem x3:aU MB cC=(MB,0,((0,0),false,5,[0,0,97,98,99],[],false,0)):=by kernel_rfl
theorem x4:aU MB cD=(MD,0,((2,1),false,3,[],[],false,0)):=by kernel_rfl
theorem x5:aU MD cE=(ME,0,((2,1),false,5,[],[],false,0)):=by kernel_rfl
theorem x6:aU ME cC=(ME,0,((0,0),false,5,[0,0,97,0,0],[],false,0)):=by kernel_rfl
theorem x7:aU ME cG=(ME,0,((0,0),false,0,[],[],false,498)):=by kernel_rfl
def g0(k:Int):bT:=(0,(M0.1,((k,[]),(pl3,[]))))
theorem vcZ{k}{q}(hk:1<=k/\k<=100)(hq:16<=q/\q<=65):lU (g0 k) q:=by
 refine⟨by simp[g0],t8Z,?_,rfl,fun i x hx hu hd=> ?_,hq,List.Pairwise.nil,fun p hp=>(by cases hp),by simp[g0]⟩
 ·unfold fB;rw[ZAJ (show 1<=(g0 k).2.2.1.1/\(g0 k).2.2.1.1<=100 from hk)];rfl
 grind[g0,M0]
theorem pQZ(k)(hk:1<=k/\k<=100):mH aB k pl3=some (0,(M0.1.1,(0,(k,([],(pl3,([],0))))))):=by
 unfold mH TF;rw[ZAE (by omega),ZAD,ZAE (by omega),ZAA,ZAD,ZAA];refine(congrArg (fun o=>Option.bind o _) (((vcZ (q:=16) hk (by omega)).own))).trans ?_
 rfl
def cr1:aX:=(0,(1,(uO 2,((1,1),([102],((0,0),([],(0,(0,[])))))))))
def wr1(x:Int)(off n:Nat):aX:=(0,(x,(uO 5,((2,1),([],((0,0),([],((off:Int),(0,List.replicate n 0)))))))))
def sz1(n:Int):aX:=(0,(3,(uO 6,((2,1),([],((0,0),([],(0,(n,[])))))))))
def rd1:aX:=(0,(3,(uO 4,((2,1),([],((0,0),([],(15,(30,[])))))))))
def fI(n:Int)(P:List bP):List Ino:=[(1,1,true,true,0,[],1,[([102],2)]),(2,1,true,false,n,P,1,[])]
def gS1:bT:=(0,((fI 0 [],0),((3,[(0,(0,[(0,(1,(0,((2,1),(false,(0,([],([],(false,0)))))))))]))]),(pl3,[]))))
def gS2:bT:=(0,((fI 20 [(1,5),(2,5)],2),((3,[(0,(0,[(0,(1,(0,((2,1),(false,(0,([],([],(false,0))))))))),(0,(2,(0,((2,1),(false,(20,([],([],(false,0)))))))))]))]),(pl3,[]))))
theorem leZ{s:bT}{c:aX}{vs:List Int}{l:List Ino}{w win:Int}{ks:List cS}(h:lU s 16)(x:vZ c.2.1 s.2.2.1.2)(h2:(dN s 16 c).1.1=2)(hf:JE aB (dN s 16 c).1 vs 0=some true)(hv:vs.length=(dN s 16 c).1.2.2.2.length)(hvs:∀v∈vs,1<=v/\v<=1099511627776)
 (hw:s.2.1.2<=65000)(e1:yP s 16 c vs=l)(e2:ER s 16 c vs=w)(e3:(s.2.2.1.1,gI s.2.2.1.1 s.2.2.1.2 (cT s c))=(win,ks)):
 ∃dead:List bP,mN aB s ((16:Nat):Int) c vs 0=some ((s.1,((l,w),((win,ks),(pl3,dead)))),iK (cT s c) (0:Int))/\dead.Perm (s.2.2.2.2++(vQ s 16 c).filter fun p=> !dG p)/\Next s 16 c vs (s.1,((l,w),((win,ks),(pl3,dead)))):=by
 obtain⟨s',a,N⟩:=nmZ ⟨h,h2,x,hf⟩ hw hv hvs;have e:s'=(s.1,((l,w),((win,ks),(pl3,s'.2.2.2.2)))):=by
  rw[<-e1,<-e2,<-e3,<-N.tree,<-N.ww,<-N.ca,<-N.life,<-N.ok.pl]
 rw[e] at a N;exact⟨_,a,N.dd,N⟩
theorem uvZ:jD aB=some true:=by
 have x0:vZ cr1.2.1 (g0 3).2.2.1.2:=fun k hk=>(by cases hk);obtain⟨d1,a1,p1,N1⟩:=leZ (c:=cr1) (vs:=[]) (l:=fI 0 []) (w:=0) (win:=3) (ks:=gS1.2.2.1.2) (vcZ (k:=3) (by omega) (by omega)) x0 (by show _=_;kernel_rfl) (by show _=_;kernel_rfl) (by show _=_;kernel_rfl) (fun v hv=>(by cases hv)) (by decide) (by show _=_;kernel_rfl) (by show _=_;kernel_rfl) (by show _=_;kernel_rfl);rw[show(g0 3).2.2.2.2++(vQ (g0 3) 16 cr1).filter (fun p=> !dG p)=[] from by show _=_;kernel_rfl] at p1;obtain rfl:=p1.eq_nil;have N1:Next (g0 3) 16 cr1 [] gS1:=N1;obtain⟨d2,a2,p2,N2⟩:=leZ (s:=gS1) (c:=wr1 2 0 20) (vs:=[5,5]) (l:=fI 20 [(1,5),(2,5)]) (w:=2) (win:=3) (ks:=gS2.2.2.1.2) N1.ok (N1.xs.mono (by decide)) (by show _=_;kernel_rfl) (by show _=_;kernel_rfl) (by show _=_;kernel_rfl) (fun v hv=>(by simp at hv;omega)) (by decide) (by show _=_;kernel_rfl) (by show _=_;kernel_rfl) (by show _=_;kernel_rfl);rw[show gS1.2.2.2.2++(vQ gS1 16 (wr1 2 0 20)).filter (fun p=> !dG p)=[] from by show _=_;kernel_rfl] at p2;obtain rfl:=p2.eq_nil;have N2:Next gS1 16 (wr1 2 0 20) [5,5] gS2:=N2;obtain⟨d3,a3,p3,N3⟩:=leZ (s:=gS2) (c:=sz1 16) (vs:=[]) (l:=fI 16 [(1,5)]) (w:=2) (win:=3) (ks:=(gI 3 gS2.2.2.1.2 (cT gS2 (sz1 16)))) N2.ok (N2.xs.mono (by decide)) (by show _=_;kernel_rfl) (by show _=_;kernel_rfl) (by show _=_;kernel_rfl) (fun v hv=>(by cases hv)) (by decide) (by show _=_;kernel_rfl) (by show _=_;kernel_rfl) rfl;rw[show gS2.2.2.2.2++(vQ gS2 16 (sz1 16)).filter (fun p=> !dG p)=[(2,5)] from by show _=_;kernel_rfl] at p3;obtain rfl:=p3.eq_singleton;have pl:=fun c=>ejZ N2.ok c;unfold jD Pa Pb Pc Pd Pe Pf Pg Ph Pi Pj Pk PB PC PF PK;rw[show jB aB=some pl3 from rfl,ZAA,pQZ 3 (by omega),ZAA];simp only;refine(congrArg (fun o=>Option.bind o _) (show mN aB _ 16 _ [] 0=_ from a1)).trans ?_;rw[ZAA];simp only;refine(congrArg (fun o=>Option.bind o _) (show mN aB _ 16 _ [5,5] 0=_ from a2)).trans ?_;rw[ZAA];simp only
 refine(congrArg (fun o=>Option.bind o _) (show mM aB _ 16 _=_ from pl rd1)).trans ?_;rw[ZAA];refine(congrArg (fun o=>Option.bind o _) (show mM aB _ 16 _=_ from pl (wr1 3 15 2))).trans ?_;rw[ZAA];refine(congrArg (fun o=>Option.bind o _) (show mM aB _ 16 _=_ from pl (wr1 3 16 16))).trans ?_;rw[ZAA];refine(congrArg (fun o=>Option.bind o _) (show mM aB _ 16 _=_ from pl (wr1 3 50 1))).trans ?_;rw[ZAA];refine(congrArg (fun o=>Option.bind o _) (show _=some (false,[gS2],(0:Int),(1:Int),(0:Int),(2:Int),(1:Int),false,(0:Int),([]:List UInt8),([]:List CJ),false,(0:Int)) from by kernel_rfl)).trans ?_;rw[ZAA];simp only[ZAD,ZAR,ZAA];refine(congrArg (fun o=>Option.bind o _) (show mM aB _ 16 _=_ from pl (sz1 18))).trans ?_;rw[ZAA];refine(congrArg (fun o=>Option.bind o _) (show mM aB _ 16 _=_ from pl (sz1 16))).trans ?_;rw[ZAA];refine(congrArg (fun o=>Option.bind o _) (show mN aB _ 16 _ [] 0=_ from a3)).trans ?_;rw[ZAA];show _=_
 kernel_rfl
def mT(l:List bP)(k:Int):List bP:=l.filter fun d=> !(d.1==k)
theorem vDZ{l:List bP}(k)(hl:l.length<=100000):pH aB l k=some (.inl (mT l k,k))\/pH aB l k=some (.inr (k,mT l k)):=by
 have hidx:uD aB l k=some (match l.findIdx? (fun e=>e.1==k) with|some n=>((n:Int),(l,k))|none=>(-1,(l,k))):=by
  unfold uD pF;have e:=gOZ (l,k) (fun e:bP=>e.1==k) l (by omega) (fun tt=>gU aB l tt.1 tt.2.1 tt.2.2) (fun i x hx=>by
   show gU aB l (i:Int) l k=_;unfold gU EM;have hlt:=(ZAB.1 hx).1;simp only[aEZ hlt,ZAK]
   grind[acZ,ZAA,w64]) (by
   show gU aB l ((l.length:Nat):Int) l k=_
   simp_all[gU,aCZ,ZA1,ZAD])
  rw[e,ZAA];cases l.findIdx? (fun e=>e.1==k)<;>rfl
 unfold pH;rw[hidx,ZAA];cases hf:l.findIdx? (fun e=>e.1==k) with
 |none=>
  grind[mT,ZBm,ZBx]
 |some n=>
  right;obtain⟨hn,h1,h2⟩:=ZA2.1 hf;simp only[];rw[show((n:Int)== -1)=false from by simp,ZAD,w64 (by omega)];obtain⟨h',e1,e2,e3⟩:=jBZ k (fun e:bP=>e.1==k) l n hn (by omega) h1 (fun j hj=>by simpa using h2 j hj)
   (fun tt=>fM aB tt.1 tt.2.1 tt.2.2.1 tt.2.2.2) (fun i j h x hij hj hh hx=>by
    show fM aB (i:Int) (j:Int) h k=_;unfold fM EM;have hi:i<h.length:=by omega
    obtain⟨y,hy⟩:∃y,h[i]? =some y:=⟨_,ZAC hi⟩;simp only[aEZ hj,ZAK];rw[acZ hj,ZAA,hx,ZAA,ZAA,acZ hi];simp only[ZAA,hy];rw[w64 (by omega),w64 (by omega)];cases(x.1==k)<;>rfl) (fun i h=>by
    show fM aB (i:Int) ((h.length:Nat):Int) h k=_;unfold fM;simp only[aCZ (ZA1 _),ZAD])
  have e3:h'.take (mT l k).length=mT l k:=e3;have e1:iter aB (fun tt=>fM aB tt.1 tt.2.1 tt.2.2.1 tt.2.2.2) ((n:Int),(((n+1:Nat):Int),(l,k)))=some ((((mT l k).length:Nat):Int),(h',k)):=e1;rw[show pG aB ((n:Int),((n:Int)+1,(l,k)))=_ from e1,ZAA];have hle:(mT l k).length<=h'.length:=by rw[e2];exact ZBe _ _
  simp only;rw[aGZ hle,ZAA,aeZ (aNZ (by omega))];have hsl:(aW h' (mT l k).length (List.replicate (h'.length-(mT l k).length) ((0,0):bP))).length=h'.length:=by
   unfold aW;simp;omega
  rw[hsl,aGZ hle,ZAA,aeZ (aNZ hle)];have:(aW h' (mT l k).length (List.replicate (h'.length-(mT l k).length) ((0,0):bP))).take (mT l k).length=mT l k:=by
   unfold aW;rw[ZAp,ZBJ (by rw[e3];exact ZAL _),ZCv,Nat.min_self,e3]
  grind
theorem qyZ{s}{q}(h:lU s q)(k):RZ aB s k=some (s.1,(s.2.1.2,(s.2.2.1.1,(s.2.2.1.2,(s.2.1.1,(s.2.2.2.1,mT s.2.2.2.2 k)))))):=by
 unfold RZ;rw[h.own];rcases vDZ (l:=s.2.2.2.2) k (by have:=h.dn;omega) with e|e<;>(simp_all)
def UP(s:bT)(k:Int):bT:=(s.1,(s.2.1,(s.2.2.1,(s.2.2.2.1,mT s.2.2.2.2 k))))
theorem lU.del{s}{q}(h:lU s q)(k):lU (UP s k) q:=by
 have sub:(mT s.2.2.2.2 k).Sublist s.2.2.2.2:=List.filter_sublist;exact⟨h.life,h.t,h.c,h.pl,h.l,h.q,h.ds.sublist (sub.map _),fun p hp=>h.d p (sub.subset hp),ZBD sub.length_le h.dn⟩
theorem m0Z:∀{l} {p},(l.map (·.1)).Pairwise (·<·)->p∈l->(mT l p.1).length+1=l.length
 |x::r,p,h,hp=>by
  rw[ZCp] at h
  let⟨h1,h2⟩:=ZA6.1 h
  unfold mT;rcases ZAg.1 hp with rfl|hp
  ·rw[ZCV (by simp),ZBm.2 fun y hy=>by
    have:=h1 y.1 (ZBM.2 ⟨y,hy,rfl⟩)
    grind];rfl
  ·have h3:=h1 p.1 (ZBM.2 ⟨p,hp,rfl⟩);have:(x.1==p.1)=false:=ZAW.2 (by omega);rw[ZBs (by rw[this];rfl),ZBl,ZBl];have:=m0Z h2 hp;unfold mT at this;rw[this]
def KS(M:GM)(S:List Int):Prop:=MS M S/\∀e∈M.1,e.1.1∈S
theorem KS.nil:KS ([],0) []:=⟨MS.nil,fun e h=>(by cases h)⟩
theorem neZ{k:Int}{v:Int}:∀(l:List ((Int×Int)×Nat)) (e:(Int×Int)×Nat),e∈sV (k:=.int .i64) (v:=.int .i64) l k v->e.1.1=k\/e∈l
 |[],e,h=>by cases h
 |((a,b),m)::l,e,h=>by
  have h:e∈(bif (Ty.int .i64).eqb k a then((k,v),m)::l else((a,b),m)::sV (k:=.int .i64) (v:=.int .i64) l k v):=h;cases hk:(Ty.int .i64).eqb k a
  ·rw[hk] at h;rcases ZAg.1 h with rfl|h
   ·exact .inr (ZAk ..)
   ·exact(neZ l e h).imp id (ZAb _)
  ·rw[hk] at h;rcases ZAg.1 h with rfl|h
   ·exact .inl rfl
   ·exact .inr (ZAb _ h)
theorem KS.put{M}{S}(h:KS M S)(x:Int):KS (iM M x 1) (S++[x]):=by
 refine⟨h.1.put x,fun e he=> ?_⟩;have:=by
  unfold iM at he;split at he
  ·exact neZ _ _ he
  ·rcases ZAc.1 he with z|z
   ·exact .inr z
   ·exact .inl (by rw[ZCJ.1 z])
 rcases this with e1|e1
 ·rw[e1];simp
 ·exact ZAc.2 (.inl (h.2 e e1))
theorem KS.no{M}{S}(h:KS M S){x}(hx:x∉S):((Option.getD (gX M x) 0:Int)==1)=false:=by
 cases e:((Option.getD (gX M x) 0:Int)==1)
 ·rfl
 ·exact absurd ((h.1 x).1 e) hx
theorem KS.yes{M}{S}(h:KS M S){x}(hx:x∈S):((Option.getD (gX M x) 0:Int)==0)=false:=by
 have:=(h.1 x).2 hx
 simp_all
def NP(s:bT):List Int:=aD s.2.1.1++s.2.2.2.2.map (·.1)
section
variable {s : bT} {q : Nat} {nx : Int} {M : BM} {sn : GM}
theorem k2Z{P:List bP}{j}{p}(h:P[j]? =some p):aO (P.take (j+1))=aO (P.take j)++if p.1=0 then[] else[p.1]:=by
 rw[aOZ h,axZ]
 grind[c0Z,cjZ]
theorem urZ{x:Ino}(hx:x.2.2.2.2.2.1.length<=100000){S}{now}(hn:KS now S)(hd:(S++aO x.2.2.2.2.2.1).Nodup)(hw:∀p∈x.2.2.2.2.2.1,p.1<=s.2.1.2):
 ∃now',dI aB x (0,stZ s nx (q:Int) M (sn,now))=some (.inl (stZ s nx (q:Int) M (sn,now')))/\KS now' (S++aO x.2.2.2.2.2.1):=by
 unfold dI;obtain⟨o,ho,now',rfl,hS⟩:=a5Z (f:=fun tt:Int×(Int×(List Ino×(Int×(Int×(List cS×(List fC×(List bP×(Int×(Int×(BM×(GM×GM)))))))))))=>bF aB x tt.1 tt.2.1 tt.2.2.1 tt.2.2.2.1 tt.2.2.2.2.1 tt.2.2.2.2.2.1 tt.2.2.2.2.2.2.1 tt.2.2.2.2.2.2.2.1 tt.2.2.2.2.2.2.2.2.1 tt.2.2.2.2.2.2.2.2.2.1 tt.2.2.2.2.2.2.2.2.2.2.1 tt.2.2.2.2.2.2.2.2.2.2.2.1 tt.2.2.2.2.2.2.2.2.2.2.2.2) (fun r st=>∃(k:Nat) (now':GM),st=((k:Int),stZ s nx (q:Int) M (sn,now'))/\k+r=x.2.2.2.2.2.1.length/\KS now' (S++aO (x.2.2.2.2.2.1.take k))) (fun o=>∃now',o= .inl (stZ s nx (q:Int) M (sn,now'))/\KS now' (S++aO x.2.2.2.2.2.1)) (fun r st hI=>by
  obtain⟨k,now',rfl,hk,hm⟩:=hI;obtain⟨p,hp⟩:∃p,x.2.2.2.2.2.1[k]? =some p:=⟨_,ZAC (by omega)⟩;have hss:=k2Z hp;have hpw:=hw p (ZAG hp);left;by_cases h0:p.1=0
  ·rw[ZAN h0,ZAo] at hss;refine⟨_,?_,k+1,now',rfl,by omega,by rw[hss];exact hm⟩;show bF aB x (k:Int) s.1 s.2.1.1 s.2.1.2 s.2.2.1.1 s.2.2.1.2 s.2.2.2.1 s.2.2.2.2 nx (q:Int) M sn now'=_;unfold bF;rw[ZAJ (by omega),ZAK,acZ (by omega),ZAA,hp,ZAA,h0,show((0:Int)==0)=true from rfl,ZAK,ZAA,w64 (by omega)]
   rfl
  ·rw[ZAM h0] at hss;have hno:=fun hin=>by
    have nV:(S++(aO (x.2.2.2.2.2.1.take k)++[p.1])).Nodup:=by
     rw[<-hss];refine hd.sublist (List.Sublist.append_left ?_ _);unfold aO;exact((List.take_sublist _ _).filter _).map _
    rw[<-List.append_assoc] at nV;exact(ZBP.1 nV).2.2 _ hin _ (ZCJ.2 rfl) rfl
   refine⟨_,?_,k+1,iM now' p.1 1,rfl,by omega,by rw[hss,<-List.append_assoc];exact hm.put p.1⟩;show bF aB x (k:Int) s.1 s.2.1.1 s.2.1.2 s.2.2.1.1 s.2.2.1.2 s.2.2.2.1 s.2.2.2.2 nx (q:Int) M sn now'=_;unfold bF;rw[ZAJ (by omega),ZAK,acZ (by omega),ZAA,hp,ZAA,(ZAW.2 h0),ZAD,hm.no hno];simp only[ZAD,ZAA];rw[ZAE (by omega)];simp only[ZAD,ZAA];rw[w64 (by omega)]
   rfl) (fun st hI=>by
  obtain⟨k,now',rfl,hk,hm⟩:=hI;have:k=x.2.2.2.2.2.1.length:=by omega
  subst this;refine⟨.inl (stZ s nx (q:Int) M (sn,now')),?_,now',rfl,by rwa [ZAu] at hm⟩;show bF aB x _ s.1 s.2.1.1 s.2.1.2 s.2.2.1.1 s.2.2.1.2 s.2.2.2.1 s.2.2.2.2 nx (q:Int) M sn now'=_;unfold bF;rw[ZAE (by omega)]
  rfl) x.2.2.2.2.2.1.length _ (by omega) ⟨0,now,rfl,by omega,by simpa[aO] using hn⟩
 simp_all
theorem tNZ(h:lU s q):∃now,dJ aB s.2.1.1 (0,stZ s nx (q:Int) M (sn,([],0)))=some (.inl (stZ s nx (q:Int) M (sn,now)))/\KS now (aD s.2.1.1):=by
 unfold dJ;have hlen:=h.t.r.len;have hP:=hwZ h.t;obtain⟨o,ho,now',rfl,hS⟩:=a5Z (f:=fun tt:Int×(Int×(List Ino×(Int×(Int×(List cS×(List fC×(List bP×(Int×(Int×(BM×(GM×GM)))))))))))=>bR aB s.2.1.1 tt.1 tt.2.1 tt.2.2.1 tt.2.2.2.1 tt.2.2.2.2.1 tt.2.2.2.2.2.1 tt.2.2.2.2.2.2.1 tt.2.2.2.2.2.2.2.1 tt.2.2.2.2.2.2.2.2.1 tt.2.2.2.2.2.2.2.2.2.1 tt.2.2.2.2.2.2.2.2.2.2.1 tt.2.2.2.2.2.2.2.2.2.2.2.1 tt.2.2.2.2.2.2.2.2.2.2.2.2) (fun r st=>∃(k:Nat) (now':GM),st=((k:Int),stZ s nx (q:Int) M (sn,now'))/\k+r=s.2.1.1.length/\KS now' (aD (s.2.1.1.take k))) (fun o=>∃now',o= .inl (stZ s nx (q:Int) M (sn,now'))/\KS now' (aD s.2.1.1)) (fun r st hI=>by
  obtain⟨k,now',rfl,hk,hm⟩:=hI;obtain⟨x,hx⟩:∃x,s.2.1.1[k]? =some x:=⟨_,ZAC (by omega)⟩;have hxP:=hP x (ZAG hx);have hsucc:=bjZ hx;left;obtain⟨now2,e,hn2⟩:=urZ (x:=x) (by omega) hm (by
   rw[<-hsucc];refine h.t.r.nod.sublist ?_
   conv=>rhs;rw[<-List.take_append_drop (k+1) s.2.1.1,ddZ]
   exact List.sublist_append_left _ _) fun p hp=>by
   have hst:=h.t.r.str;rcases hxP.2 p hp with z|z
   ·rw[z.1];exact hst.1
   ·exact z.2.1
  refine⟨_,?_,k+1,now2,rfl,by omega,by rw[hsucc];exact hn2⟩;show bR aB s.2.1.1 (k:Int) s.1 s.2.1.1 s.2.1.2 s.2.2.1.1 s.2.2.1.2 s.2.2.2.1 s.2.2.2.2 nx (q:Int) M sn now'=_;unfold bR;rw[ZAJ (by omega),ZAK,acZ (by omega),ZAA,hx,ZAA,e,ZAA,w64 (by omega)]
  rfl) (fun st hI=>by
  obtain⟨k,now',rfl,hk,hm⟩:=hI;have:k=s.2.1.1.length:=by omega
  subst this;refine⟨.inl (stZ s nx (q:Int) M (sn,now')),?_,now',rfl,by rwa [ZAu] at hm⟩;show bR aB s.2.1.1 _ s.1 s.2.1.1 s.2.1.2 s.2.2.1.1 s.2.2.1.2 s.2.2.2.1 s.2.2.2.2 nx (q:Int) M sn now'=_;unfold bR;rw[ZAE (by omega)]
  rfl) s.2.1.1.length _ (by omega) ⟨0,([],0),rfl,by omega,KS.nil⟩
 simp_all
theorem uRZ(h:lU s q){now}(hn:KS now (aD s.2.1.1)):∃now',dK aB (stZ s nx (q:Int) M (sn,now)) (0,stZ s nx (q:Int) M (sn,now))=some (.inl (stZ s nx (q:Int) M (sn,now')))/\KS now' (NP s):=by
 unfold dK;have hdn:=h.dn;obtain⟨o,ho,now',rfl,hS⟩:=a5Z (f:=fun tt:Int×(Int×(List Ino×(Int×(Int×(List cS×(List fC×(List bP×(Int×(Int×(BM×(GM×GM)))))))))))=>cF aB (stZ s nx (q:Int) M (sn,now)) tt.1 tt.2.1 tt.2.2.1 tt.2.2.2.1 tt.2.2.2.2.1 tt.2.2.2.2.2.1 tt.2.2.2.2.2.2.1 tt.2.2.2.2.2.2.2.1 tt.2.2.2.2.2.2.2.2.1 tt.2.2.2.2.2.2.2.2.2.1 tt.2.2.2.2.2.2.2.2.2.2.1 tt.2.2.2.2.2.2.2.2.2.2.2.1 tt.2.2.2.2.2.2.2.2.2.2.2.2) (fun r st=>∃(k:Nat) (now':GM),st=((k:Int),stZ s nx (q:Int) M (sn,now'))/\k+r=s.2.2.2.2.length/\KS now' (aD s.2.1.1++(s.2.2.2.2.take k).map (·.1))) (fun o=>∃now',o= .inl (stZ s nx (q:Int) M (sn,now'))/\KS now' (NP s)) (fun r st hI=>by
  obtain⟨k,now',rfl,hk,hm⟩:=hI;obtain⟨p,hp⟩:∃p,s.2.2.2.2[k]? =some p:=⟨_,ZAC (by omega)⟩;have hno:p.1∉aD s.2.1.1++(s.2.2.2.2.take k).map (·.1):=fun hin=>by
   rcases ZAc.1 hin with z|z
   ·exact(h.d p (ZAG hp)).2.2 z
   ·let⟨y,hy,e⟩:=ZBM.1 z
    let⟨i,hi⟩:=ZAP hy
    have hi2:=(ZAB.1 hi).1;rw[ZAS] at hi2;rw[ZAq,ZAN (by omega)] at hi;have:=ZBa.1 h.ds i k (by rw[ZAl];omega) (by rw[ZAl];omega) (by omega);rw[ZB9,ZB9,(ZAB.1 hi).2,(ZAB.1 hp).2] at this;omega
  left;refine⟨_,?_,k+1,iM now' p.1 1,rfl,by omega,by
   rw[aOZ hp,ZB7,<-List.append_assoc];exact hm.put p.1⟩
  unfold cF;rw[ZAJ (by simp;omega),acZ (by simp;omega),ZAA,hp,ZAA,hm.no hno,w64 (by omega)]
  rfl) (fun st hI=>by
  obtain⟨k,now',rfl,hk,hm⟩:=hI;have:k=s.2.2.2.2.length:=by omega
  subst this;refine⟨.inl (stZ s nx (q:Int) M (sn,now')),?_,now',rfl,by rwa [ZAu] at hm⟩;show cF aB _ _ s.1 s.2.1.1 s.2.1.2 s.2.2.1.1 s.2.2.1.2 s.2.2.2.1 s.2.2.2.2 nx (q:Int) M sn now'=_;unfold cF;rw[ZAE (by simp only;omega)]
  rfl) s.2.2.2.2.length _ (by omega) ⟨0,now,rfl,by omega,by simpa using hn⟩
 simp_all
theorem uXZ(h:lU s q){now n2:GM}:dL aB (stZ s nx (q:Int) M (sn,now)) (0,stZ s nx (q:Int) M n2)=some (.inl (stZ s nx (q:Int) M n2)):=by
 unfold dL;have hdn:=h.dn;refine aoZ (fun k:Nat=>((k:Int),stZ s nx (q:Int) M n2)) s.2.2.2.2.length (by omega) (fun k hk=> ?_) ?_
 ·obtain⟨p,hp⟩:∃p,s.2.2.2.2[k]? =some p:=⟨_,ZAC hk⟩;have hl:=m0Z h.ds (ZAG hp);show cN aB _ (k:Int) s.1 s.2.1.1 s.2.1.2 s.2.2.1.1 s.2.2.1.2 s.2.2.2.1 s.2.2.2.2 nx (q:Int) M n2=_;unfold cN;rw[ZAJ (by simp;omega),acZ (by simp;omega),ZAA,hp,ZAA];rw[(qyZ h p.1),ZAA];simp only;rw[w64 (by omega),(ZBz.2 (by omega))];simp only[ZAQ];rw[show IZ aB (s.1,((s.2.1.1,s.2.1.2),((s.2.2.1.1,s.2.2.1.2),(s.2.2.2.1,mT s.2.2.2.2 p.1)))) (q:Int)=some true from(h.del p.1).right];simp only[ZAA];rw[w64 (by omega)]
  rfl
 simp_all[cN,Int,ZAE,ZAD]
def vR(sn:GM)(s:bT):Prop:=∀e∈sn.1,e.1.1∈NP s
theorem uVZ(h:lU s q)(hsn:vR sn s)(m:Mod)(c:aX)(r w:aY):∃now,eL aB m c r w s.1 s.2.1.1 s.2.1.2 s.2.2.1.1 s.2.2.1.2 s.2.2.2.1 s.2.2.2.2 nx (q:Int) M sn=some (.inr (true,stZ s nx (q:Int) M now))/\vR now s:=by
 obtain⟨n1,e1,k1⟩:=tNZ h;obtain⟨n2,e2,k2⟩:=uRZ h k1;refine⟨n2,?_,k2.2⟩;refine(congrArg (fun o=>Option.bind o _) e1).trans ?_;refine(congrArg (fun o=>Option.bind o _) e2).trans ?_;refine r7Z (l0:=sn.1) ?_ (fun e he=> ?_) ?_
 ·show(aP (Nat.beq sn.2 sn.2) (some sn.1))=some sn.1;rw[Nat.beq_refl];rfl
 ·unfold fN;rw[k2.yes (hsn e he),ZAD]
 ·refine(congrArg (fun o=>Option.bind o _) (uXZ h)).trans ?_
  rfl
theorem vR.next{c}{vs}{s'}(h:vR sn s)(N:Next s q c vs s'):vR sn s':=fun e he=>by
 let⟨fr,hp⟩:=N.st
 exact hp.mem_iff.2 (ZAc.2 (.inl (h e he)))
end
theorem ulZ{α β γ:Type}{P:Option β->Prop}{x}{f:α⊕γ->Option β}(J:α->Prop)(h:∃w,x=some (.inl w)/\J w)(hf:∀w,J w->P (f (.inl w))):P (x.bind f):=by
 grind
theorem jrZ{α β:Type}{P:Option β->Prop}{x}{f}(J:α->Prop)(h:∃w,x=some w/\J w)(hf:∀w,J w->P (f w)):P (x.bind f):=by
 grind
abbrev TH:=aX×(Int×Int)
abbrev NQ:=GM×(Int×(List Ino×(Int×(Int×(List cS×(List fC×(List bP×(Int×(Int×(BM×(List Mod×List (Int×Int))))))))))))
def NR(q k:Nat)(v:NQ):Prop:=∃s nx M m hs,v=(v.1,stZ s nx q M ([m],hs))/\vR v.1 s/\rA s q nx M (k:Int)/\aZ m/\1<=hs.length/\hs.length<=k+1
def InW{γ:Type}(J:NQ->Prop)(x:Option (NQ⊕γ)):Prop:=∃w,x=some (.inl w)/\J w
def UF{γ:Type}(q k:Nat)(x:Option ((Int×NQ)⊕(GM⊕γ))):Prop:=(∃z,x=some (.inr (.inl z)))\/∃v,x=some (.inl (((k+1:Nat):Int),v))/\NR q (k+1) v
theorem nBZ{sn}{l:List TH}{q k}{s}{nx}{M}{m}{hs}(hk:k<l.length)(hk30:k<30)(hsn:vR sn s)(h:rA s q nx M (k:Int))(hm:aZ m)(h1:1<=hs.length)(h2:hs.length<=k+1):
 UF q k (bN aB l (k:Int) sn s.1 s.2.1.1 s.2.1.2 s.2.2.1.1 s.2.2.1.2 s.2.2.2.1 s.2.2.2.2 nx (q:Int) M [m] hs):=by
 obtain⟨o,ho⟩:∃o,l[k]? =some o:=⟨_,ZAC hk⟩;obtain⟨g,hgr⟩:=u2Z hm;unfold bN Pa Pb Pc Pd Pe Pf Pg Ph Pi Pj Pk Pl Pm Pn Po Pp Pq Pr Ps Pt PJ PL PM PN PT;rw[aEZ hk,ZAK,ZAJ (show(k:Int)<30 by omega),ZAK,ZAR,ZAA,hgr,ZAA,ZAA];cases g with
 |true=>exact .inl ⟨sn,rfl⟩
 |false=>
  simp only[ZAn,ZAK];rw[w64 (by omega)];refine ulZ (NR q (k+1)) ?_ fun w hw=>.inr ⟨w,rfl,hw⟩;rw[acZ hk,ZAA,ho,ZAA];have hk1:rA s q nx M ((k+1:Nat):Int):=h.mono (by omega);rcases raZ o.1 with hh|hh
  ·rw[hh,ZAA];exact⟨_,rfl,s,nx,M,m,hs,rfl,hsn,hk1,hm,h1,by omega⟩
  rw[hh,ZAA,ZAD];simp only[ZAA,ho];have pa:=irZ o.2.1 (n:=hs.length) (by omega) (by omega);have pb:=irZ o.2.2 (n:=hs.length) (by omega) (by omega);obtain⟨a,hga⟩:∃a,hs[(vM o.2.1 hs.length).toNat]? =some a:=⟨_,ZAC (by omega)⟩;obtain⟨b,hgb⟩:∃b,hs[(vM o.2.2 hs.length).toNat]? =some b:=⟨_,ZAC (by omega)⟩;refine jrZ (P:=InW (NR q (k+1))) (fun v=>∃(t:Bool) (c:aX),c.2.1=((k+1:Nat):Int)/\v=(t,(sn,stZ s nx (q:Int) M ([m],(hs,[c]))))) ?_ ?_
  ·cases decide (o.2.1>=0) with
   |true=>exact⟨_,rfl,_,(o.1.1,(((k+1:Nat):Int),o.1.2.2)),rfl,rfl⟩
   |false=>exact⟨_,rfl,_,(o.1.1,(((k+1:Nat):Int),o.1.2.2)),rfl,rfl⟩
  rintro v ⟨t,c,hc,rfl⟩;refine jrZ (fun v=>∃(c:aX),c.2.1=((k+1:Nat):Int)/\v=(sn,stZ s nx (q:Int) M ([m],(hs,[c])))) ?_ ?_
  ·cases t with
   |true=>
    simp only[ZAK];rw[iCZ _ _ (by omega),ZAA,a0Z (by omega) (by omega),ZAA,hga,ZAA,ZAR,ZAA];exact⟨_,rfl,(c.1,(c.2.1,(c.2.2.1,(a,c.2.2.2.2)))),hc,rfl⟩
   |false=>exact⟨_,rfl,c,hc,rfl⟩
  rintro v ⟨c,hc,rfl⟩;refine jrZ (fun v=>∃(t:Bool),v=(t,(sn,stZ s nx (q:Int) M ([m],(hs,[c]))))) ?_ ?_
  ·cases decide (o.2.2>=0) with
   |true=>exact⟨_,rfl,_,rfl⟩
   |false=>exact⟨_,rfl,_,rfl⟩
  rintro v ⟨t,rfl⟩;refine jrZ (fun v=>∃(c:aX),c.2.1=((k+1:Nat):Int)/\v=(sn,stZ s nx (q:Int) M ([m],(hs,[c])))) ?_ ?_
  ·cases t with
   |true=>
    simp only[ZAK];rw[iCZ _ _ (by omega),ZAA,a0Z (by omega) (by omega),ZAA,hgb,ZAA,ZAR,ZAA];exact⟨_,rfl,(c.1,(c.2.1,(c.2.2.1,(c.2.2.2.1,(c.2.2.2.2.1,(b,c.2.2.2.2.2.2)))))),hc,rfl⟩
   |false=>exact⟨_,rfl,c,hc,rfl⟩
  rintro v ⟨c,hc,rfl⟩;simp only[ZAR,ZAA,ZBt];rw[p5Z hm,ZAA];obtain⟨r,s',nx',M',e,hd,hs'⟩:=q3Z (c:=c) h (by omega);have hsn':vR sn s':=by
   cases hd with
   |bad _=>exact hsn
   |tell _ _=>exact hsn
   |done _ _ N=>exact hsn.next N
  rw[hc] at hs';refine(congrArg (InW _) (congrArg (fun o=>Option.bind o _) e)).mpr ?_;rw[ZAA];unfold iK;simp only;have ok:=khZ hm c;refine jrZ (P:=InW (NR q (k+1))) (fun v=>∃(hs2:List (Int×Int)) (w:aY),1<=hs2.length/\hs2.length<=k+2/\v=(sn,stZ s' nx' (q:Int) M' ([(aU m c).1],(hs2,([c],([w],[r])))))) ?_ ?_
  ·cases decide (r.2.2.2.1.1>0) with
   |true=>
    simp only[ZAK];rw[aeZ (by simp only[ZAF,ZAm,asZ];omega)];exact⟨_,rfl,hs++[_],_,by simp,by simp;omega,rfl⟩
   |false=>exact⟨_,rfl,hs,_,h1,by omega,rfl⟩
  rintro v ⟨hs2,w,g1,g2,rfl⟩;simp only[ZAQ,ZAD,ZAR,ZAA];obtain⟨now,e2,hn⟩:=uVZ (nx:=nx') (M:=M') hs'.ok hsn' (aU m c).1 c r w;refine(congrArg (InW _) (congrArg (fun o=>Option.bind (Option.bind o _) _) e2)).mpr ?_;exact⟨_,rfl,s',nx',M',(aU m c).1,hs2,rfl,hn,hs',ok,g1,by omega⟩
theorem vZZ{n}(hn:1<=n/\n<=1000)(x):∃v:Nat,kL aB x n=some (v:Int)/\(v:Int)<n:=by
 have:=irZ x hn.1 (by omega);exact⟨(vM x n).toNat,by grind[iCZ],by omega⟩
theorem lhZ(size)(l:List TH):∃z,eH aB size l ([],0)=some (.inr (true,z)):=by
 unfold eH fV
 let⟨p,hp,hp2⟩:=vZZ (n:=50) (by omega) size
 rw[hp,ZAA,show jB aB=some pl3 from rfl,ZAA,pQZ 4 (by omega),ZAA];simp only[ZAD];rw[vIZ,w64 (by omega)];have h0:rA (g0 4) (16+p) 0 ([],0) ((0:Nat):Int):=⟨vcZ (by omega) (by omega),fun k hk=>(by cases hk),by omega,by show(0:Int)<=_;omega,by omega,fun p=>.inl rfl,rfl,fun x hx p hp=>by
  simp_all[g0,M0]⟩
 obtain⟨o,ho,z,rfl⟩:∃o,iter aB (fun tt=>bN aB l tt.1 tt.2.1 tt.2.2.1 tt.2.2.2.1 tt.2.2.2.2.1 tt.2.2.2.2.2.1 tt.2.2.2.2.2.2.1 tt.2.2.2.2.2.2.2.1 tt.2.2.2.2.2.2.2.2.1 tt.2.2.2.2.2.2.2.2.2.1 tt.2.2.2.2.2.2.2.2.2.2.1 tt.2.2.2.2.2.2.2.2.2.2.2.1 tt.2.2.2.2.2.2.2.2.2.2.2.2.1 tt.2.2.2.2.2.2.2.2.2.2.2.2.2) ((0:Int),((([],0):GM),stZ (g0 4) 0 ((16+p:Nat):Int) ([],0) ([M0],[((1:Int),(1:Int))])))=some o/\∃z,o= .inl z:=by
  refine a5Z (fun n v=>∃(k:Nat) (w:NQ),v=((k:Int),w)/\k+n=30/\NR (16+p) k w) _ (fun n v hI=> ?_) (fun v hI=> ?_) 30 _ (by omega) ⟨0,_,rfl,by omega,g0 4,0,([],0),M0,_,rfl,fun e he=>(by grind),h0,waZ,by simp,by simp⟩
  ·obtain⟨k,w,rfl,hk,s,nx,M,m,hs,hw,i0,i1,i2,i3,i4⟩:=hI
   let⟨sn,w⟩:=w
   obtain⟨-,rfl⟩:=ZCs hw;by_cases hkl:k<l.length
   ·rcases nBZ hkl (by omega) i0 i1 i2 i3 i4 with⟨z,e⟩|⟨w,e,hw⟩
    ·exact .inr ⟨_,e,z,rfl⟩
    grind
   ·refine .inr ⟨.inl sn,?_,sn,rfl⟩;show bN aB l (k:Int) sn s.1 s.2.1.1 s.2.1.2 s.2.2.1.1 s.2.2.1.2 s.2.2.2.1 s.2.2.2.2 nx _ M [m] hs=_;unfold bN Pa Pb Pc Pd Pe Pf Pg Ph Pi Pj Pk Pl Pm Pn Po Pp Pq Pr Ps Pt PJ PL PM PN PT;rw[aCZ hkl];simp[ZAA]
  ·obtain⟨k,w,rfl,hk,s,nx,M,m,hs,hw,i0,i1,i2,i3,i4⟩:=hI
   let⟨sn,w⟩:=w
   obtain⟨-,rfl⟩:=ZCs hw;refine⟨.inl sn,?_,sn,rfl⟩;show bN aB l (k:Int) sn s.1 s.2.1.1 s.2.1.2 s.2.2.1.1 s.2.2.1.2 s.2.2.2.1 s.2.2.2.2 nx _ M [m] hs=_;unfold bN Pa Pb Pc Pd Pe Pf Pg Ph Pi Pj Pk Pl Pm Pn Po Pp Pq Pr Ps Pt PJ PL PM PN PT;by_cases hkl:k<l.length
   ·rw[aEZ hkl,ZAK,ZAE (show¬((k:Int)<30) by omega)];simp only[ZAD,ZAA]
   ·rw[aCZ hkl];simp only[ZAD,ZAA]
 rw[show(16:Int)+(p:Int)=((16+p:Nat):Int) by omega];refine⟨z,?_⟩;refine(congrArg (fun o=>Option.bind o _) ho).trans ?_
 rfl
theorem law25_StateDead_true(size:Int)(l:List TH)(_k0:OkV (.int .i64) size)(_k1:OkV (.sl (.pair mF qY5)) l):jR aB size l=some true:=by
 unfold jR
 let⟨z,hz⟩:=lhZ size l
 simp_all[uvZ]
end Go.Ab.D
