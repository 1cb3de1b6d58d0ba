/- What the functions compute; the plain law. -/
import Derived.Test.YtjngohmkdmdecaaGreatStateFailsQ2
import Derived.KernelRfl
set_option linter.all false
set_option maxRecDepth 100000
open Prod renaming B->PB,C->PC,D->PD,E->PE,F->PF,G->PG,H->PH,I->PI,J->PJ,K->PK,L->PL,M->PM,S->PS,T->PT,U->PU,V->PV,Y->PY,ZC->PZC,ZF->PZF,a->Pa,b->Pb,c->Pc,d->Pd,e->Pe,f->Pf,g->Pg,h->Ph,i->Pi,j->Pj,k->Pk,l->Pl,m->Pm,n->Pn,o->Po,p->Pp,q->Pq,r->Pr,s->Ps,t->Pt,u->Pu,v->Pv,w->Pw,x->Px,y->Py,z->Pz,za->Pza,zb->Pzb,zc->Pzc,zd->Pzd,ze->Pze,zf->Pzf
namespace Go.Ab
theorem ZBl:type_of% @List.set_cons_zero:=@List.set_cons_zero
end Go.Ab
namespace Go.Ab.D
open Go Go.Ab
def XInv(n:Int)(ks:List KeptT):Prop:=∀k∈ks,k.2.1<=n/\∀r∈k.2.2,r.2.1<=n
theorem XInv.mono{n m}{ks}(h:XInv n ks)(hm:n<=m):XInv m ks:=λk hk=>⟨by have:=(h k hk).1;omega,λr hr=>by have:=(h k hk).2 r hr;omega⟩
theorem lzZ{ks}{x}{k}(h:kOf ks x=some k):k∈ks:=ZCE h
theorem sgZ{c}{cl x n}(hc:rightC c=true)(h:XInv n c.2)(hx:n<x):look c cl x=(zR,0):=by
 unfold look;rw[ZAN hc];cases hk:kOf c.2 cl with
 |none=>rfl
 |some k=>
  have hm:=h k (lzZ hk);simp;rw[iNo];cases hr:rOf k.2.2 x with
  |none=>rfl
  |some r=>
   have h1:=hm.2 r (ZCE hr);have h2:=ZCl hr;have h2:=by simpa using h2
   omega
theorem pvZ{α}(p):∀{l:List α},(∀x∈l,p x=true)->pre p l=l.length
 |[],_=>rfl
 |x::l,h=>by
  unfold pre;rw[ZAN (h x (ZAo ..)),pvZ p λy hy=>h y (ZAc _ hy)];rfl
theorem s8Z{w n}{k}{r}(hw:1<=w)(h1:k.2.1<=n)(h2:∀r∈k.2.2,r.2.1<=n)(hr:n<r.2.1):(putK w k r).2.1<=n/\(∀x∈(putK w k r).2.2,x=r\/x∈k.2.2)/\rOf (putK w k r).2.2 r.2.1=some r:=by
 have hp:repAt k.2.2 r.2.1=k.2.2.length:=pvZ _ λx hx=>ZAJ (by have:=h2 x hx;omega);have no:∀l,(∀x∈l,x.2.1<=n)->rOf (l++[r]) r.2.1=some r:=λl hl=>by
  unfold rOf;rw[List.find?_append,ZBs.2 (λx hx=>by have:=hl x hx;simp;omega)];simp
 unfold putK;rw[hp,ZAv,List.drop_length,ZAp]
 grind
theorem sTZ(c)(cl x):(look c cl x).2=0\/(look c cl x).2=1\/(look c cl x).2=2:=by
 grind[look]
theorem pWZ{c}{r}(hc:rightC c=true)(h:XInv r.2.1 c.2)(hr:rightReply r=true)(h1:1<=r.2.1)(hl:(look c r.1 r.2.1).2=0):
 put c r=((c.1,putKL c.1 c.2 r),0)/\rightC (c.1,putKL c.1 c.2 r)=true/\XInv r.2.1 (putKL c.1 c.2 r)/\look (c.1,putKL c.1 c.2 r) r.1 r.2.1=(r,1):=by
 let⟨ok,aa⟩:=sRZ hc hr hl
 let⟨g1,g2,g3⟩:=b3Z.1 hc
 let⟨o1,o2,o3⟩:=b3Z.1 ok
 have hk:(kept1 c.2 r.1).2.1<=r.2.1-1/\∀x∈(kept1 c.2 r.1).2.2,x.2.1<=r.2.1-1:=by
  unfold kept1;unfold look at hl;rw[ZAN hc] at hl;cases e:kOf c.2 r.1 with
  |none=>exact⟨by show(0:Int)<=_;omega,λx hx=>by cases hx⟩
  |some k=>
   rw[e] at hl;simp at hl;have hm:=h k (lzZ e);split at hl
   ·cases hl
   ·rename_i hgt;refine⟨by show k.2.1<=_;omega,λx hx=> ?_⟩;have:=hm.2 x hx;cases ab:rOf k.2.2 r.2.1 with
    |some y=>rw[ab] at hl;cases hl
    |none=>
     have:=ZBs.1 ab x hx;have:=by simpa using this
     omega
 let⟨p1,p2,p3⟩:=s8Z (r:=r) g1.1 hk.1 hk.2 (by omega)
 refine⟨?_,ok,λk ac=> ?_,?_⟩
 ·unfold put;rw[ZAN ⟨hc,hr,hl⟩]
 ·have hf:=(iYZ o2).2 ⟨ac,rfl⟩;rw[aa] at hf;split at hf
  ·obtain rfl:=ZAf hf;refine⟨by omega,λx ad=> ?_⟩;rcases p2 x ad with rfl|e
   ·exact ZB0 _
   ·have:=hk.2 x e;omega
  ·exact h k (lzZ hf)
 ·unfold look;rw[ZAN ok,aa,ZAN rfl];simp only;rw[iNo,p3]
set_option maxHeartbeats 4000000
theorem gbZ{c}(hr:rightCall c=true):whoseB3 c.1 c.2.1=true:=by
 unfold rightCall rightS at hr;simp at hr;exact hr.2.1
theorem tdZ{c}(hr:rightCall c=true)(aa:c.2.2.1=uO 5\/c.2.2.1=uO 6):handleB3 c.2.2.2.1=true:=by
 unfold rightCall rightS at hr;simp at hr;have h:=hr.2.2.1;rcases aa with e|e<;>(rw[e] at h;exact h)
def failR(c:CallT)(e:Int):ReplyT:=(c.1,(c.2.1,(e,((0,0),(false,(0,([],([],(false,0)))))))))
theorem gNZ{c}{e}(hr:rightCall c=true)(he:1<=e/\e<=1000):rightReply (failR c e)=true:=by
 unfold rightReply failR;rw[gbZ hr,ZAJ (show 0<=e/\e<=1000 by omega),ZAN (show e≠0 by omega)]
 rfl
theorem juZ{c}{H}{d}{sz}(hr:rightCall c=true)(hH:(noneB H||handleB3 H)=true)(hs:0<=sz/\sz<=65536):rightReply (c.1,(c.2.1,(0,(H,(d,(sz,([],([],(false,0)))))))))=true:=by
 simp_all[rightReply,gbZ,ZAJ]
theorem uxZ{m}{c}(hr:rightCall c=true)(h:(resF m c).2.1≠0):(resF m c).2.1=(actF m c).1/\(resF m c).2.2=rep0:=by
 unfold resF at h⊢
 grind
theorem pZZ{s:GateT}{c}(h:TreeOK s.2.1)(hr:rightCall c=true)(ha:asksB c.2.2.1=false):rightReply (repOf c (resF (bareM s.2.1) c))=true:=by
 have hm:=aXZ h;have no:∀n:Nat,n<256->c.2.2.1=uO n->asksB (uO n)=false:=λn _ e=>by simp_all
 have op:=iZZ hr;by_cases h0:(resF (bareM s.2.1) c).2.1=0
 ·by_cases ab:c.2.2.1=uO 5\/c.2.2.1=uO 6
  ·have hf:∃x,FileOf s c x:=by
    rcases ab with e|e
    ·exact(utZ hr e h0).1
    ·exact(tKZ hr e h0).1
   obtain⟨x,hx⟩:=hf;obtain⟨_,r2,r3⟩:=fAZ h hr ab h0 hx
   simp_all[repOf,juZ,tdZ]
  ·have ac:(resF (bareM s.2.1) c).2.2=(actF (bareM s.2.1) c).2.2:=by
    unfold resF;rw[ZAN hr,ZAN (res0 hr h0)]
   have h1:=res0 hr h0;have ad:actF (bareM s.2.1) c=makeA (bareM s.2.1) c->rightReply (repOf c (resF (bareM s.2.1) c))=true:=λe=>by
    rw[e] at h1;unfold repOf;rw[h0,ac,e];unfold makeA at h1⊢;split at h1
    ·rename_i hk;rw[ZAN hk];exact juZ hr (by rw[lHZ hm.t _ _ _ hk];simp) ⟨ZB0 0,show(0:Int)<=65536 by decide⟩
    ·rename_i hk;exact absurd h1 hk
   have aa:(actF (bareM s.2.1) c).2.2=rep0->rightReply (repOf c (resF (bareM s.2.1) c))=true:=λe=>by
    unfold repOf;rw[h0,ac,e];exact juZ hr rfl ⟨by decide,by decide⟩
   rcases op with e|e|e|e|e|e|e|e|e|e|e|e
   ·exact absurd (no 1 (by decide) e) (by decide)
   ·exact ad (by unfold actF;rw[e];rfl)
   ·exact ad (by unfold actF;rw[e];rfl)
   ·exact absurd (no 4 (by decide) e) (by decide)
   ·exact absurd (.inl e) ab
   ·exact absurd (.inr e) ab
   ·exact aa (by rw[show actF (bareM s.2.1) c=removeA (bareM s.2.1) c by unfold actF;rw[e];rfl];unfold removeA;split<;>rfl)
   ·exact aa (by rw[show actF (bareM s.2.1) c=removeA (bareM s.2.1) c by unfold actF;rw[e];rfl];unfold removeA;split<;>rfl)
   ·exact aa (by rw[show actF (bareM s.2.1) c=renameA (bareM s.2.1) c by unfold actF;rw[e];rfl];unfold renameA;split<;>rfl)
   ·exact absurd (no 10 (by decide) e) (by decide)
   ·exact absurd (no 11 (by decide) e) (by decide)
   ·exact absurd (no 12 (by decide) e) (by decide)
 ·obtain⟨e1,e2⟩:=uxZ hr h0;have ae:0<=(actF (bareM s.2.1) c).1/\(actF (bareM s.2.1) c).1<=1000:=by
   rcases op with e|e|e|e|e|e|e|e|e|e|e|e
   ·exact absurd (no 1 (by decide) e) (by decide)
   ·rw[show actF (bareM s.2.1) c=makeA (bareM s.2.1) c by unfold actF;rw[e];rfl];unfold makeA;split<;>first|(dsimp only;decide)|exact nhZ _ _ _ _
   ·rw[show actF (bareM s.2.1) c=makeA (bareM s.2.1) c by unfold actF;rw[e];rfl];unfold makeA;split<;>first|(dsimp only;decide)|exact nhZ _ _ _ _
   ·exact absurd (no 4 (by decide) e) (by decide)
   ·rw[act5 e];unfold writeA;split
    ·split<;>(dsimp only;decide)
    ·exact ntZ _ _
   ·rw[act6 e];unfold sizeA;split
    ·split<;>(dsimp only;decide)
    ·exact ntZ _ _
   ·rw[show actF (bareM s.2.1) c=removeA (bareM s.2.1) c by unfold actF;rw[e];rfl];unfold removeA;split<;>first|(dsimp only;decide)|exact hOZ _ _ _ _
   ·rw[show actF (bareM s.2.1) c=removeA (bareM s.2.1) c by unfold actF;rw[e];rfl];unfold removeA;split<;>first|(dsimp only;decide)|exact hOZ _ _ _ _
   ·rw[show actF (bareM s.2.1) c=renameA (bareM s.2.1) c by unfold actF;rw[e];rfl];unfold renameA;split<;>first|(dsimp only;decide)|exact nBZ _ _ _ _ _
   ·exact absurd (no 10 (by decide) e) (by decide)
   ·exact absurd (no 11 (by decide) e) (by decide)
   ·exact absurd (no 12 (by decide) e) (by decide)
  have:=gNZ hr (e:=(resF (bareM s.2.1) c).2.1) (by omega);unfold repOf;rw[e2];exact this
theorem bQZ{s}{q}{c}(h:(planF s q c).1.1=2):(planF s q c).2=0/\rightCall c=true/\asksB c.2.2.1=false:=by
 unfold planF at h⊢;by_cases hr:rightCall c=true
 ·rw[ZAN hr] at h⊢;cases ha:asksB c.2.2.1
  ·rw[ZAM (by decide)];refine⟨?_,hr,rfl⟩;split
   ·rfl
   ·split
    ·rfl
    ·split<;>rfl
  ·rw[ha,ZAN rfl] at h;split at h<;>cases h
 simp_all
theorem g4Z{s}{q}{c}(h:(planF s q c).1.1=2):(look s.2.2.1 c.1 c.2.1).2=0:=by
 let⟨_,hr,ha⟩:=bQZ h
 unfold planF at h;rcases sTZ s.2.2.1 c.1 c.2.1 with e|e|e<;>simp_all
theorem lCZ{c}(hr:rightCall c=true):1<=c.2.1:=by
 have:=gbZ hr
 simp_all[whoseB3]
theorem sLZ{p:PlanT}{e}(hp:p.1=2)(he:1<=e/\e<=1000):sfit fuel p [] e=some true:=by
 grind[sfit,ZAE,ZAW]
theorem StOK.own{s}{q}(h:StOK s q):state_own fuel s=some (s.1,(s.2.1.2,(s.2.2.1.1,(s.2.2.1.2,(s.2.1.1,(s.2.2.2.1,s.2.2.2.2)))))):=
 uoZ s h.t.r.fit (bnZ h.c) (by rw[h.pl];exact⟨by decide,by decide⟩) (by have:=h.dn;omega)
theorem o6Z(c)(e):smallR (failR c e):=⟨by simp[failR],by simp[failR]⟩
def failS(s:GateT)(c:CallT)(e:Int):GateT:=(s.1,(s.2.1,((s.2.2.1.1,putKL s.2.2.1.1 s.2.2.1.2 (failR c e)),(s.2.2.2.1,s.2.2.2.2))))
theorem oyZ{s}{q}{c}(h:StOK s q)(hp:(planF s q c).1.1=2)(hx:XInv c.2.1 s.2.2.1.2):
 sApp fuel s (q:Int) c [] 151=some (failS s c 151,(c.1,(c.2.1,(151,(0,(0,(false,(0,([],([],(false,(0,0)))))))))))):=by
 let⟨p0,hr,ha⟩:=bQZ hp
 let⟨u1,_⟩:=pWZ (r:=failR c 151) h.c hx (gNZ hr (by decide)) (lCZ hr) (g4Z hp)
 unfold sApp Pa Pb Pc Pd Pe Pf Pg Ph Pi Pj Pk Pl Pm Pn Po Pp Pq Pr Ps Pt Pu Pv Pw Px Py Pz Pza Pzb Pzc Pzd Pze Pzf PD PH PL PT PY PZC PZF;rw[c7Z h,ZAA,p0,sLZ hp (by decide)];simp only[ZAA];rw[eBZ h.t,ZAA,pfZ (aXZ h.t)];simp[ZAP];rw[h.own,show((c.1,(c.2.1,((151:Int),((((0:Int),(0:Int))),(false,((0:Int),(([]:List UInt8),(([]:List EntT),(false,(0:Int)))))))))):ReplyT)=failR c 151 from rfl,nyZ s.2.2.1 (failR c 151) (bnZ h.c) (o6Z c 151),ZAA,u1]
 rfl
theorem uwZ{s}{q}{c}(h:StOK s q)(hp:(planF s q c).1.1=2)(hx:XInv c.2.1 s.2.2.1.2):
 StOK (failS s c 151) q/\look (failS s c 151).2.2.1 c.1 c.2.1=(failR c 151,1):=by
 let⟨_,hr,_⟩:=bQZ hp
 let⟨_,u2,_,u4⟩:=pWZ (r:=failR c 151) h.c hx (gNZ hr (by decide)) (lCZ hr) (g4Z hp)
 exact⟨⟨h.life,h.t,u2,h.pl,h.l,h.q,h.ds,h.d,h.dn⟩,u4⟩
def keepB(r y:Ino):Bool:=y.2.2.1&&(y.2.1==r.2.1)
def mergeP(l0 l1:List Ino)(i:Nat):List Part:=match l0[i]?,l1[i]? with
 |some r,some y=>if keepB r y=true then r.2.2.2.2.2.1 else[]
 |_,_=>[]
def goneAt(l0 l1:List Ino)(i:Nat):List Part:=match l0[i]?,l1[i]? with
 |some r,some y=>if keepB r y=true then[] else r.2.2.2.2.2.1
 |_,_=>[]
def goneL(l0 l1:List Ino):Nat->List Part
 |0=>[]
 |k+1=>goneL l0 l1 k++goneAt l0 l1 k
theorem ekZ{l}{P Q}(h:∀(i) x,l[i]? =some x->P i=Q i):withP l P=withP l Q:=by
 refine ZBU λi=> ?_
 grind[withP,ZCY,ZCI]
theorem koZ{l}{P}{k}{y}(h:l[k]? =some y)(Q):(withP l P).set k (setP y Q)=withP l λi=>if i=k then Q else P i:=by
 refine ZBU λi=> ?_;by_cases hi:i=k
 ·subst hi;rw[ZAT (by grind[cjZ,ZAB]),bNZ _ h,ZAN rfl]
 ·rw[ZAa (λe=>hi e.symm)]
  simp_all[withP,ZAM]
theorem oEZ{l}(h:∀(i:Nat) y,l[i]? =some y->y.2.2.2.2.2.1=[]):withP l (λ_=>[])=l:=by
 refine ZBU λi=> ?_;unfold withP;rw[ZCY];cases e:l[i]? with
 |none=>rfl
 |some x=>
  have:=h i x e
  let⟨a,b,c,d,f,P,g⟩:=x
  subst this;rfl
theorem eIZ{l0 l1}(h:∀x∈l0,x.2.2.2.2.2.1.length<=4096):∀k,(goneL l0 l1 k).length<=k*4096
 |0=>ZAL _
 |k+1=>by
  have ih:=eIZ (l1:=l1) h k;have:(goneAt l0 l1 k).length<=4096:=by
   unfold goneAt;split
   ·rename_i r y hr hy;split
    ·exact ZBG _
    ·exact h r (ZAI hr)
   ·exact ZBG _
  grind[goneL,ZAd,ZAm]
theorem ncZ{l0 l1:List Ino}(hlen:l0.length<=l1.length/\l1.length<=500)(hP:∀x∈l0,x.2.2.2.2.2.1.length<=4096)(hn:∀(i:Nat) y,l1[i]? =some y->y.2.2.2.2.2.1=[])(t life s win)(ks:List KeptT)(q)(pl:List PlaceT)(dead:List Part):
 sapptakgo fuel t life s win ks q l0 pl dead l1=some (life,(t,(win,(ks,(q,(withP l1 (mergeP l0 l1),(pl,(dead,(l0,goneL l0 l1 l0.length))))))))):=by
 unfold sapptakgo Pd Pe Pf Pg Ph Pi Pj PJ;have loop:sapptakgo_l0_it fuel l0 (t,(0,(life,(s,(win,(ks,(q,(l0,(pl,(dead,([],(l1,t))))))))))))=some (t,(life,(s,(win,(ks,(q,(l0,(pl,(dead,(goneL l0 l1 l0.length,(withP l1 (mergeP l0 l1),t))))))))))):=by
  unfold sapptakgo_l0_it;have e0:(t,((0:Int),(life,(s,(win,(ks,(q,(l0,(pl,(dead,(([]:List Part),(l1,t))))))))))))=(λk:Nat=>(t,((k:Int),(life,(s,(win,(ks,(q,(l0,(pl,(dead,(goneL l0 l1 k,(withP l1 (λi=>if i<k then mergeP l0 l1 i else[]),t))))))))))))) 0:=by
   simp only[ZBc,ZCc,oEZ hn,goneL];rfl
  refine(congrArg (iter fuel _) e0).trans ?_;refine aoZ (λk:Nat=>(t,((k:Int),(life,(s,(win,(ks,(q,(l0,(pl,(dead,(goneL l0 l1 k,(withP l1 (λi=>if i<k then mergeP l0 l1 i else[]),t))))))))))))) l0.length (by omega) (λk hk=> ?_) ?_
  ·obtain⟨r,hr⟩:∃r,l0[k]? =some r:=⟨_,ZAC hk⟩;obtain⟨y,hy⟩:∃y,l1[k]? =some y:=⟨_,gEo⟩;have hyk:(withP l1 (λi=>if i<k then mergeP l0 l1 i else[]))[k]? =some (setP y []):=by
    rw[bNZ _ hy,ZAM (ZAy k)]
   have hg:=eIZ (l1:=l1) hP k;have hr4:=hP r (ZAI hr);have hm:mergeP l0 l1 k=if keepB r y=true then r.2.2.2.2.2.1 else[]:=by unfold mergeP;rw[hr,hy]
   have hga:goneAt l0 l1 k=if keepB r y=true then[] else r.2.2.2.2.2.1:=by unfold goneAt;rw[hr,hy]
   show sapptakgo_l0 fuel l0 t (k:Int) life s win ks q l0 pl dead (goneL l0 l1 k) (withP l1 (λi=>if i<k then mergeP l0 l1 i else[])) t=_;unfold sapptakgo_l0 Pb Pc Pd Pe Pf Pg Ph Pi Pj Pk Pl Pr;rw[dTo,ZAK,adZ hk,ZAA,hr,ZAA,cjZ,adZ (by omega),ZAA,hyk,ZAA];have test:∀{β} (a b:β),(bif (setP y []).2.2.1 then(some k).bind λq2=>((withP l1 (λi=>if i<k then mergeP l0 l1 i else[]))[q2]?).bind λr2=>some (t,((r2.2.1==r.2.1),(life,(s,(win,(ks,(q,(l0,(pl,(dead,(goneL l0 l1 k,(withP l1 (λi=>if i<k then mergeP l0 l1 i else[]),(t,r))))))))))))) else some (t,(false,(life,(s,(win,(ks,(q,(l0,(pl,(dead,(goneL l0 l1 k,(withP l1 (λi=>if i<k then mergeP l0 l1 i else[]),(t,r))))))))))))))=some (t,(keepB r y,(life,(s,(win,(ks,(q,(l0,(pl,(dead,(goneL l0 l1 k,(withP l1 (λi=>if i<k then mergeP l0 l1 i else[]),(t,r))))))))))))):=λ_ _=>by
    unfold keepB;rw[show(setP y []).2.2.1=y.2.2.1 from rfl];cases hu:y.2.2.1
    ·rfl
    ·rw[ZAK,ZAA,hyk,ZAA];rfl
   rw[test () (),ZAA];simp only;cases hk2:keepB r y
   ·rw[hk2] at hm hga;simp only[ZAD];rw[nTo,ZAA,w6];rw[show goneL l0 l1 (k+1)=goneL l0 l1 k++r.2.2.2.2.2.1 by
     show goneL l0 l1 k++goneAt l0 l1 k=_;rw[hga];rfl]
    rw[ekZ (Q:=λi=>if i<k+1 then mergeP l0 l1 i else[]) (λi x _=>by
     by_cases h:i=k
     ·subst h;rw[ZAM (ZAy _),ZAN (Nat.lt_succ_self _),hm];rfl
     ·by_cases h2:i<k
      ·rw[ZAN h2,iPo]
      ·rw[ZAM h2,iNo])]
    rfl
   ·rw[hk2] at hm hga;simp only[ZAK];rw[adZ (by rw[cjZ];omega),ZAA,hyk,ZAA,ZAA,w6];rw[show goneL l0 l1 (k+1)=goneL l0 l1 k by
     show goneL l0 l1 k++goneAt l0 l1 k=_;rw[hga];simp]
    rw[show((setP y []).1,((setP y []).2.1,((setP y []).2.2.1,((setP y []).2.2.2.1,((setP y []).2.2.2.2.1,(r.2.2.2.2.2.1,(setP y []).2.2.2.2.2.2))))))=setP y r.2.2.2.2.2.1 from rfl,koZ hy];rw[ekZ (Q:=λi=>if i<k+1 then mergeP l0 l1 i else[]) (λi x _=>by
     by_cases h:i=k
     ·subst h;rw[ZAN rfl,ZAN (Nat.lt_succ_self _),hm];rfl
     ·rw[ZAM h];by_cases h2:i<k
      ·rw[ZAN h2,iPo]
      ·rw[ZAM h2,iNo])]
    rfl
  ·show sapptakgo_l0 fuel l0 t ((l0.length:Nat):Int) life s win ks q l0 pl dead (goneL l0 l1 l0.length) _ t=_;unfold sapptakgo_l0 Pb Pc Pd Pe Pf Pg Ph Pi Pj Pk Pl Pr;rw[dFo,ZAD];rw[ekZ (λi x _=>by
    by_cases h:i<l0.length
    ·rw[ZAN h]
    ·rw[ZAM h];unfold mergeP;rw[gNo])]
 grind
theorem kiZ(x)(l):allStripes (x::l)=stripes x.2.2.2.2.2.1++allStripes l:=rfl
theorem ebZ(a b):allStripes (a++b)=allStripes a++allStripes b:=by simp_all[allStripes]
theorem gHZ{l}{P}{k}{x}(h:l[k]? =some x):allStripes ((withP l P).take (k+1))=allStripes ((withP l P).take k)++stripes (P k):=by
 rw[bAZ (bNZ P h)];rfl
theorem h1Z{l0 l1}(aa:l0.length<=l1.length):∀k,k<=l0.length->(allStripes ((withP l1 (mergeP l0 l1)).take k)++stripes (goneL l0 l1 k)).Perm (allStripes (l0.take k))
 |0,_=>List.Perm.refl _
 |k+1,hk=>by
  have ih:=h1Z aa k (by omega);obtain⟨r,hr⟩:∃r,l0[k]? =some r:=⟨_,gEo⟩;obtain⟨y,hy⟩:∃y,l1[k]? =some y:=⟨_,gEo⟩;have hm:mergeP l0 l1 k=if keepB r y=true then r.2.2.2.2.2.1 else[]:=by unfold mergeP;rw[hr,hy]
  have hg:goneAt l0 l1 k=if keepB r y=true then[] else r.2.2.2.2.2.1:=by unfold goneAt;rw[hr,hy]
  rw[gHZ hy,bAZ hr,show goneL l0 l1 (k+1)=goneL l0 l1 k++goneAt l0 l1 k from rfl,a1Z,hm,hg];cases keepB r y
  ·rw[ZAM (by decide),gkZ,ZAp,<-List.append_assoc]
   grind
  ·rw[ZAN rfl,ZAN rfl,gkZ,ZAp,ZAx]
   grind
theorem j5Z{l0 l1}(aa:l0.length<=l1.length):(allStripes (withP l1 (mergeP l0 l1))++stripes (goneL l0 l1 l0.length)).Perm (allStripes l0):=by
 have h:=h1Z aa l0.length (ZAL _);have e:allStripes (withP l1 (mergeP l0 l1))=allStripes ((withP l1 (mergeP l0 l1)).take l0.length):=by
  conv=>lhs;rw[<-List.take_append_drop l0.length (withP l1 (mergeP l0 l1)),ebZ]
  rw[m3Z (l:=(withP l1 (mergeP l0 l1)).drop l0.length),ZAp];intro x hx
  let⟨i,hi⟩:=ZAQ hx
  rw[ZA0] at hi;obtain⟨z,_,rfl⟩:=bhZ hi;show mergeP l0 l1 (l0.length+i)=[];unfold mergeP;rw[gNo]
 simp_all
theorem rNZ{l}{k}{x}(h:l[k]? =some x):∃aa,(allStripes l).Perm (stripes x.2.2.2.2.2.1++aa)/\∀y,(allStripes (l.set k y)).Perm (stripes y.2.2.2.2.2.1++aa):=by
 have hk:=(ZAB.1 h).1;refine⟨allStripes (l.take k)++allStripes (l.drop (k+1)),?_,λy=> ?_⟩
 ·have e:l=l.take k++x::l.drop (k+1):=by
   rw[<-(ZAB.1 h).2,<-List.drop_eq_getElem_cons hk,ZBC]
  grind[ebZ,kiZ,ZAx,List.perm_append_comm]
 ·rw[List.set_eq_take_append_cons_drop,ZAN hk,ebZ,kiZ,<-List.append_assoc]
  grind
open Go Go.Ab Go.Shelf Go.Sort Go.Proofs
theorem nVZ{α} [Inhabited α]{lt}{d d':Array α}(h:PermIn 0 d.size d d')(hs:SortedIn lt 0 d.size d'):d'.toList.Perm d.toList/\d'.toList.Pairwise (λx y=>lt y x=false):=by
 have aa:=h.1;have hp:=h.2.2;have e:d'.extract 0 d.size=d':=by rw[<-aa,Array.extract_size]
 rw[Array.extract_size,e] at hp;refine⟨hp,ZBp.2 λi j hi hj ab=> ?_⟩;rw[ZA4] at hi hj;have:=hs i j (ZBG _) ab (by omega)
 simp_all
theorem tfZ{l:List Part}(h:∀x∈l,okP x=true):∃l',sortP l=some l'/\l'.Perm l/\(l'.map (·.1)).Pairwise (·<=·):=by
 have hl:liftP l=some (l.attach.map λx=>⟨x.1,h x.1 x.2⟩):=by unfold liftP;rw[dif_pos h]
 generalize ht:(l.attach.map λx=>(⟨x.1,h x.1 x.2⟩:PartV))=t at hl;have hv:=npZ l t hl;have hs:=hFZ swoP t
 let⟨s1,s2⟩:=nVZ hs.1 hs.2
 refine⟨(sortA (ltOf cfP) t).map λx=>x.1,by simp_all[sortP],?_,?_⟩
 ·have:=s1.map λx:PartV=>x.1;rw[hv] at this;exact this
 ·rw[List.map_map,List.pairwise_map];refine List.Pairwise.imp (λ{a b} aa=> ?_) s2;have aa:=ZCj aa;unfold cfP at aa;simp;omega
theorem msZ(gone:List Part)(life w win q)(ks:List KeptT)(l:List Ino)(pl:List PlaceT)(dead:List Part)(hg:gone.length<=10000000)(hd:dead.length<=1000000):
 sappbur_l0_it fuel gone (0,(life,(w,(win,(ks,(q,(l,(pl,(dead,gone)))))))))=some (life,(w,(win,(ks,(q,(l,(pl,(dead++gone.filter λp=> !holeB p,gone)))))))):=by
 unfold sappbur_l0_it;have e0:((0:Int),(life,(w,(win,(ks,(q,(l,(pl,(dead,gone)))))))))=(λk:Nat=>((k:Int),(life,(w,(win,(ks,(q,(l,(pl,(dead++(gone.take k).filter (λp=> !holeB p),gone)))))))))) 0:=by simp
 refine(congrArg (iter fuel _) e0).trans ?_;refine aoZ (λk:Nat=>((k:Int),(life,(w,(win,(ks,(q,(l,(pl,(dead++(gone.take k).filter (λp=> !holeB p),gone)))))))))) gone.length (by omega) (λk hk=> ?_) ?_
 ·obtain⟨r,hr⟩:∃r,gone[k]? =some r:=⟨_,ZAC hk⟩;have hf:=by
   have:=ZBg (λp=> !holeB p) (gone.take k);rw[ZAS] at this;omega
  show sappbur_l0 fuel gone (k:Int) life w win ks q l pl (dead++(gone.take k).filter (λp=> !holeB p)) gone=_;unfold sappbur_l0;rw[ZAJ (by omega),adZ hk,ZAA,hr,ZAA,aWZ hr,ZCh];cases hh:holeB r
  ·rw[show((r.1==0)&&(r.2==0))=false from hh];simp only[ZAk,ZAK];rw[aeZ (by simp only[ZAF,ZAl,atZ,ZAd];omega),ZAA,w64 (by omega),ZBv (by rw[hh];rfl),List.filter_nil,ZAx]
   rfl
  ·rw[show((r.1==0)&&(r.2==0))=true from hh];simp only[ZAO,ZAD,ZAA];rw[w64 (by omega),List.filter_cons_of_neg (by rw[hh];decide),List.filter_nil,ZAp]
   rfl
 ·show sappbur_l0 fuel gone ((gone.length:Nat):Int) life w win ks q l pl _ gone=_;unfold sappbur_l0;rw[ZAE (by omega),ZAD,ZAv]
theorem khZ{gone:List Part}{life w win q}{ks:List KeptT}{l:List Ino}{pl:List PlaceT}{dead aa:List Part}(hg:gone.length<=10000000)(hd:dead.length<=1000000)(hs:sortP (dead++gone.filter λp=> !holeB p)=some aa)(hl:aa.length<=65536)(hw:w<=1099511627776):
 sappbur fuel life w win ks q l pl dead gone=some (true,(life,(w,(win,(ks,(q,(l,(pl,(gone,aa))))))))):=by
 unfold sappbur Pb Pc Pd Pe Pf Pg PG;rw[msZ gone life w win q ks l pl dead hg hd,ZAA];unfold sSorFun;rw[aeZ (by grind[ZBb]),hs,ZAA,dTo,ZAK,ZAJ hw]
theorem oSZ(L):stripes L=(L.map (·.1)).filter (λk=>k !=0):=by
 rw[List.filter_map]
 rfl
theorem f1Z{L}{i}{o p}(h:L[i]? =some o)(e:o.1=p.1):stripes (L.set i p)=stripes L:=by
 simp_all[oSZ,dKZ]
theorem f5Z{L}{i}{o p}(h:L[i]? =some o)(e:o.1=0)(hp:p.1≠0):(stripes (L.set i p)).Perm (stripes L++[p.1]):=by
 have hi:=(ZAB.1 h).1;have e1:L=L.take i++o::L.drop (i+1):=by
  rw[<-(ZAB.1 h).2,<-List.drop_eq_getElem_cons hi,ZBC]
 rw[List.set_eq_take_append_cons_drop,ZAN hi]
 conv=>rhs;rw[e1]
 rw[show L.take i++p::L.drop (i+1)=L.take i++([p]++L.drop (i+1)) from rfl,show L.take i++o::L.drop (i+1)=L.take i++([o]++L.drop (i+1)) from rfl,a1Z,a1Z,a1Z,a1Z,cNZ hp,dhZ e,ZAx]
 grind
def stAt(P:List Part)(wh:Nat->Bool)(a:Nat)(w:Int)(j:Nat):Int:=if holeB (pAt P (a+j))=true then(wRun P wh a j w).1+1 else(pAt P (a+j)).1
theorem e9Z(P)(wh)(a)(w):∀(n j),j<n->(wRun P wh a n w).2.1[j]? =some (((a+j:Nat):Int),(pAt P (a+j),stAt P wh a w j))
 |n+1,j,h=>by
  have hl:=(bxZ P wh a w n).1;unfold stAt;by_cases hj:j<n
  ·have ih:=e9Z P wh a w n j hj;show(wStep P wh (a+n) (wRun P wh a n w)).2.1[j]? =_;unfold wStep;split
   ·rw[ZAR (by omega)];exact ih
   ·rw[ZAR (by omega)];exact ih
  ·obtain rfl:j=n:=by omega
   show(wStep P wh (a+j) (wRun P wh a j w)).2.1[j]? =_;unfold wStep;split
   ·rw[ZAU (by omega),hl,ZBn];rfl
   ·rw[ZAU (by omega),hl,ZBn];rfl
theorem nqZ(P)(wh)(a)(w)(k):(wRun P wh a (k+1) w).1=if holeB (pAt P (a+k))=true then(wRun P wh a k w).1+1 else(wRun P wh a k w).1:=by
 grind[wStep,wRun]
def wrF(l:List NeedT)(vs:List Int):Nat->Int×List Part->Int×List Part
 |0,s=>s
 |k+1,s=>((if((l[k]?).getD (0,((0,0),0))).2.2>(wrF l vs k s).1 then((l[k]?).getD (0,((0,0),0))).2.2 else(wrF l vs k s).1),(wrF l vs k s).2.set ((l[k]?).getD (0,((0,0),0))).1.toNat (((l[k]?).getD (0,((0,0),0))).2.2,(vs[k]?).getD 0))
def cutP(P:List Part)(N:Nat):List Part:=P.take N++List.replicate (N-P.length) (0,0)
theorem mRZ(P)(N):(cutP P N).length=N:=by grind[cutP]
theorem sIZ(P){N i}(h:i<N):(cutP P N)[i]? =some (pAt P i):=by
 unfold cutP pAt
 grind
structure Wrt (P:List Part) (wh:Nat->Bool) (a:Nat) (w:Int) (N:Nat) (vs:List Int) (k:Nat) (s:Int×List Part):Prop where
 e:s.1=(wRun P wh a k w).1
 n:s.2.length=N
 far:∀i,a+k<=i->s.2[i]? =(cutP P N)[i]?
 st:∃fresh:List Int,(stripes s.2).Perm (stripes (cutP P N)++fresh)/\fresh.Nodup/\∀x∈fresh,w<x/\x<=s.1
 ok:∀p∈s.2,p∈cutP P N\/∃j,j<k/\p=(stAt P wh a w j,(vs[j]?).getD 0)/\1<=p.1/\p.1<=s.1
theorem lsZ{P}{wh}{a n N}{w W}{vs}(ae:n≠0->a+n<=N)(hP:∀p∈P,okPart W p)(hW:W<=w)(hw:0<=w):∀k,k<=n->Wrt P wh a w N vs k (wrF (wRun P wh a n w).2.1 vs k (w,cutP P N))
 |0,_=>⟨rfl,mRZ P N,λ_ _=>rfl,⟨[],by simp[wrF],List.nodup_nil,λx hx=>by grind⟩,λp hp=>.inl hp⟩
 |k+1,hk=>by
  have ih:=lsZ (vs:=vs) (wh:=wh) ae hP hW hw k (by omega);have hN:=ae (by omega);have hf:=bxZ P wh a w k;have hget:=e9Z P wh a w n k (by omega);have ac:(wrF (wRun P wh a n w).2.1 vs k (w,cutP P N)).2[a+k]? =some (pAt P (a+k)):=by rw[ih.far _ (ZAL _),sIZ P (by omega)]
  let⟨fr,f1,f2,f3⟩:=ih.st
  have ad:=ih.e;generalize hs:wrF (wRun P wh a n w).2.1 vs k (w,cutP P N)=s at*;have e:wrF (wRun P wh a n w).2.1 vs (k+1) (w,cutP P N)=((if stAt P wh a w k>s.1 then stAt P wh a w k else s.1),s.2.set (a+k) (stAt P wh a w k,(vs[k]?).getD 0)):=by
   unfold wrF;rw[hget,hs];simp only[ZCe,ZBo]
  rw[e];have af:pAt P (a+k)=(0,0)\/pAt P (a+k)∈P:=by
   unfold pAt;cases hx:P[a+k]? with
   |none=>simp_all
   |some p=>grind
  have aa:∀i,a+(k+1)<=i->(s.2.set (a+k) (stAt P wh a w k,(vs[k]?).getD 0))[i]? =(cutP P N)[i]? :=λi hi=>by
   rw[ZAa (by omega)];exact ih.far i (by omega)
  have mem:∀p∈s.2.set (a+k) (stAt P wh a w k,(vs[k]?).getD 0),p∈s.2\/p=(stAt P wh a w k,(vs[k]?).getD 0):=λp hp=>List.mem_or_eq_of_mem_set hp;cases hh:holeB (pAt P (a+k))
  ·have ab:stAt P wh a w k=(pAt P (a+k)).1:=by unfold stAt;rw[hh];rfl
   have ag:=af.resolve_left λz=>by rw[z] at hh;cases hh
   have ai:1<=(pAt P (a+k)).1/\(pAt P (a+k)).1<=W:=by
    rcases hP _ ag with z|z
    ·unfold holeB at hh;rw[z.1,z.2] at hh;cases hh
    ·exact⟨z.1,z.2.1⟩
   rw[ab] at aa mem⊢;have ah:¬(pAt P (a+k)).1>s.1:=by omega
   rw[ZAM ah];refine⟨by rw[nqZ,hh,ZAM (by decide)];exact ad,by rw[ZAr];exact ih.n,aa,⟨fr,by
    show(stripes (s.2.set (a+k) ((pAt P (a+k)).1,(vs[k]?).getD 0))).Perm _;rw[f1Z (p:=((pAt P (a+k)).1,(vs[k]?).getD 0)) ac rfl];exact f1,f2,f3⟩,λp hp=> ?_⟩
   rcases mem p hp with h|h
   ·rcases ih.ok p h with z|⟨j,j1,j2,j3⟩
    ·exact .inl z
    ·exact .inr ⟨j,by omega,j2,j3⟩
   grind
  ·have ab:stAt P wh a w k=s.1+1:=by unfold stAt;rw[hh,ZAN rfl,ad]
   rw[ab] at aa mem⊢;rw[iPo];have h0:=by unfold holeB at hh;simp only[ZAF,ZB2] at hh;exact hh.1
   refine⟨by rw[nqZ,hh,ZAN rfl,ad],by rw[ZAr];exact ih.n,aa,⟨fr++[s.1+1],?_,?_,?_⟩,λp hp=> ?_⟩
   ·rw[<-List.append_assoc];exact(f5Z ac h0 (by simp only;omega)).trans (f1.append_right _)
   ·rw[ZBV];exact⟨f2,by simp,λx hx y hy=>by
     rw[ZCk] at hy;have:=(f3 x hx).2;omega⟩
   ·intro x hx;rcases ZAg.1 hx with h|h
    ·have:=f3 x h;exact⟨this.1,by simp only;omega⟩
    ·rw[ZCk] at h;simp only;omega
   ·rcases mem p hp with h|h
    ·rcases ih.ok p h with z|⟨j,j1,j2,j3⟩
     ·exact .inl z
     ·exact .inr ⟨j,by omega,j2,by simp only;omega⟩
    ·exact .inr ⟨k,by omega,by rw[ab];exact h,by rw[h];simp only;omega⟩
theorem o1Z(P:List Part)(n):splice (List.replicate n (0,0)) 0 (List.take (List.replicate (α:=Int×Int) n (0,0)).length P)=cutP P n:=by
 unfold splice cutP
 grind
theorem o5Z{l1:List Ino}{i q N a n:Nat}{x}{w win life}{ks:List KeptT}{pl:List PlaceT}{dead gone:List Part}{wh}{vs}(hx:l1[i]? =some x)(hl:l1.length<=500)
 (hs:0<=x.2.2.2.2.1/\x.2.2.2.2.1<=65536)(hq:16<=q/\q<=65)(hN:(x.2.2.2.2.1.toNat+q-1)/q=N)(hn0:n≠0->a+n<=N)(hP:x.2.2.2.2.2.1.length<=4096)(hv:vs.length=n)(hnn:n<=100000)(hg:gone.length<=5000000):
 sappwri fuel ((i:Int)+1) (wRun x.2.2.2.2.2.1 wh a n w).2.1 vs life w win ks (q:Int) l1 pl dead gone=
  some (life,((wrF (wRun x.2.2.2.2.2.1 wh a n w).2.1 vs n (w,cutP x.2.2.2.2.2.1 N)).1,(win,(ks,((q:Int),(l1.set i (setP x (wrF (wRun x.2.2.2.2.2.1 wh a n w).2.1 vs n (w,cutP x.2.2.2.2.2.1 N)).2),(pl,(dead,gone++x.2.2.2.2.2.1.drop (min x.2.2.2.2.2.1.length N))))))))):=by
 have hi:=(ZAB.1 hx).1;have hN4:N<=4096:=by
  rw[<-hN];exact lMZ (by omega) (by omega)
 have hlen:(wRun x.2.2.2.2.2.1 wh a n w).2.1.length=n:=(bxZ _ _ _ _ _).1;unfold sappwri Pb Pc Pd Pe Pf Pg Ph Pi PE PI;rw[w64 (by omega),show(i:Int)+1-1=(i:Int) by omega,adZ hi,ZAA,hx];simp only[ZAA];rw[show x.2.2.2.2.1=((x.2.2.2.2.1.toNat:Nat):Int) by omega,hDZ (by omega) (by omega),hN,ZAA];rw[b0Z (by omega) (by grind[atZ]),ZAA,ZBo,b0Z (by omega) (by omega),ZAA,ZBo,aeZ (by grind[ZAl,atZ])];rw[show(if((x.2.2.2.2.2.1.length:Nat):Int)<(N:Int) then((x.2.2.2.2.2.1.length:Nat):Int) else(N:Int))=((min x.2.2.2.2.2.1.length N:Nat):Int) by omega];rw[b0Z (by omega) (by omega),ZAA,ZBo,aeZ (by simp only[ZAF,ZAl,atZ,ZAu];omega),o1Z];have loop:∀g:List Part,sappwri_l0_it fuel (wRun x.2.2.2.2.2.1 wh a n w).2.1 vs (i,(0,(life,(w,(win,(ks,((q:Int),(l1,(pl,(dead,(g,cutP x.2.2.2.2.2.1 N)))))))))))=
  some (i,(life,((wrF (wRun x.2.2.2.2.2.1 wh a n w).2.1 vs n (w,cutP x.2.2.2.2.2.1 N)).1,(win,(ks,((q:Int),(l1,(pl,(dead,(g,(wrF (wRun x.2.2.2.2.2.1 wh a n w).2.1 vs n (w,cutP x.2.2.2.2.2.1 N)).2)))))))))):=λg=>by
  unfold sappwri_l0_it;refine aoZ (λk:Nat=>(i,((k:Int),(life,((wrF (wRun x.2.2.2.2.2.1 wh a n w).2.1 vs k (w,cutP x.2.2.2.2.2.1 N)).1,(win,(ks,((q:Int),(l1,(pl,(dead,(g,(wrF (wRun x.2.2.2.2.2.1 wh a n w).2.1 vs k (w,cutP x.2.2.2.2.2.1 N)).2)))))))))))) n (by omega) (λk hk=> ?_) ?_
  ·have hn:=hn0 (by omega);have hget:=e9Z x.2.2.2.2.2.1 wh a w n k hk;have hLn:∀k,(wrF (wRun x.2.2.2.2.2.1 wh a n w).2.1 vs k (w,cutP x.2.2.2.2.2.1 N)).2.length=N:=λk=>by
    induction k<;>grind[mRZ,wrF,ZAr]
   have hLk:=hLn k;show sappwri_l0 fuel (wRun x.2.2.2.2.2.1 wh a n w).2.1 vs i (k:Int) life _ win ks (q:Int) l1 pl dead g _=_;unfold sappwri_l0;rw[hlen,ZAJ (by omega),ZAK,adZ hk,ZAA,hget,ZAA,hv,adZ hk,ZAA,ZAC (by omega),ZAA,hLk];simp only;rw[adZ (by omega),ZAA,ZAC (by omega),ZAA,w64 (by omega)];show _=some (Sum.inl (i,(((k+1:Nat):Int),(life,((wrF (wRun x.2.2.2.2.2.1 wh a n w).2.1 vs (k+1) (w,cutP x.2.2.2.2.2.1 N)).1,(win,(ks,((q:Int),(l1,(pl,(dead,(g,(wrF (wRun x.2.2.2.2.2.1 wh a n w).2.1 vs (k+1) (w,cutP x.2.2.2.2.2.1 N)).2))))))))))));rw[show wrF (wRun x.2.2.2.2.2.1 wh a n w).2.1 vs (k+1) (w,cutP x.2.2.2.2.2.1 N)=((if stAt x.2.2.2.2.2.1 wh a w k>(wrF (wRun x.2.2.2.2.2.1 wh a n w).2.1 vs k (w,cutP x.2.2.2.2.2.1 N)).1 then stAt x.2.2.2.2.2.1 wh a w k else(wrF (wRun x.2.2.2.2.2.1 wh a n w).2.1 vs k (w,cutP x.2.2.2.2.2.1 N)).1),(wrF (wRun x.2.2.2.2.2.1 wh a n w).2.1 vs k (w,cutP x.2.2.2.2.2.1 N)).2.set (a+k) (stAt x.2.2.2.2.2.1 wh a w k,vs[k]'(by omega))) by
    grind[wrF,hget,ZAC,ZCe,ZBo]]
   rfl
  ·show sappwri_l0 fuel (wRun x.2.2.2.2.2.1 wh a n w).2.1 vs i (n:Int) life _ win ks (q:Int) l1 pl dead g _=_
   simp_all[sappwri_l0,ZAE,ZAD]
 rw[loop,ZAA];simp only;rw[hx,ZAA]
 rfl
def flatR{β:Type}(r:ReplyT)(e:β):Int×(Int×(Int×(Int×(Int×(Bool×(Int×(List UInt8×(List EntT×(Bool×(Int×β)))))))))):=(r.1,(r.2.1,(r.2.2.1,(r.2.2.2.1.1,(r.2.2.2.1.2,(r.2.2.2.2.1,(r.2.2.2.2.2.1,(r.2.2.2.2.2.2.1,(r.2.2.2.2.2.2.2.1,(r.2.2.2.2.2.2.2.2.1,(r.2.2.2.2.2.2.2.2.2,e)))))))))))
def putS(s:GateT)(r:ReplyT):GateT:=(s.1,(s.2.1,((s.2.2.1.1,putKL s.2.2.1.1 s.2.2.1.2 r),s.2.2.2)))
def doneS(s:GateT)(r:ReplyT)(l:List Ino)(w:Int)(dead:List Part):GateT:=(s.1,((l,w),((s.2.2.1.1,putKL s.2.2.1.1 s.2.2.1.2 r),(s.2.2.2.1,dead))))
section
variable {s : GateT} {q : Nat} {c : CallT} {vs : List Int}
structure Ask (s:GateT) (q:Nat) (c:CallT) (vs:List Int):Prop where
 ok:StOK s q
 two:(planF s q c).1.1=2
 xs:XInv c.2.1 s.2.2.1.2
 fit:sfit fuel (planF s q c).1 vs 0=some true
def ansOf(s:GateT)(c:CallT):ReplyT:=repOf c (resF (bareM s.2.1) c)
theorem Ask.right(h:Ask s q c vs):rightReply (ansOf s c)=true:=pZZ h.ok.t (bQZ h.two).2.1 (bQZ h.two).2.2
theorem Ask.put(h:Ask s q c vs):put s.2.2.1 (ansOf s c)=((s.2.2.1.1,putKL s.2.2.1.1 s.2.2.1.2 (ansOf s c)),0)/\rightC (s.2.2.1.1,putKL s.2.2.1.1 s.2.2.1.2 (ansOf s c))=true/\XInv c.2.1 (putKL s.2.2.1.1 s.2.2.1.2 (ansOf s c))/\look (s.2.2.1.1,putKL s.2.2.1.1 s.2.2.1.2 (ansOf s c)) c.1 c.2.1=(ansOf s c,1):=
 pWZ h.ok.c h.xs h.right (lCZ (bQZ h.two).2.1) (g4Z h.two)
theorem ohZ(h:Ask s q c vs)(h0:(resF (bareM s.2.1) c).2.1≠0):sApp fuel s (q:Int) c vs 0=some (putS s (ansOf s c),flatR (ansOf s c) (0:Int)):=by
 unfold sApp Pa Pb Pc Pd Pe Pf Pg Ph Pi Pj Pk Pl Pm Pn Po Pp Pq Pr Ps Pt Pu Pv Pw Px Py Pz Pza Pzb Pzc Pzd Pze Pzf PD PH PL PT PY PZC PZF;rw[c7Z h.ok,ZAA,(bQZ h.two).1,h.fit];simp only[ZAb,ZAO,ZAD,ZAA];rw[eBZ h.ok.t,ZAA,pfZ (aXZ h.ok.t)];simp[ZAP];rw[h.ok.own];have hd:(((doT (resF (bareM s.2.1) c) c).2.1,((doT (resF (bareM s.2.1) c) c).2.2.1,((doT (resF (bareM s.2.1) c) c).2.2.2.1,(((doT (resF (bareM s.2.1) c) c).2.2.2.2.1,(doT (resF (bareM s.2.1) c) c).2.2.2.2.2.1),((doT (resF (bareM s.2.1) c) c).2.2.2.2.2.2.1,((doT (resF (bareM s.2.1) c) c).2.2.2.2.2.2.2.1,((doT (resF (bareM s.2.1) c) c).2.2.2.2.2.2.2.2.1,((doT (resF (bareM s.2.1) c) c).2.2.2.2.2.2.2.2.2.1,((doT (resF (bareM s.2.1) c) c).2.2.2.2.2.2.2.2.2.2.1,(doT (resF (bareM s.2.1) c) c).2.2.2.2.2.2.2.2.2.2.2.1))))))))):ReplyT)=ansOf s c:=rfl;rw[hd,nyZ s.2.2.1 (ansOf s c) (bnZ h.ok.c) (bkZ h.right),h.put.1,show(doT (resF (bareM s.2.1) c) c).2.2.2.1=(resF (bareM s.2.1) c).2.1 from rfl,(ZAW.2 h0)]
 rfl
theorem leZ(h:Ask s q c vs)(h0:(resF (bareM s.2.1) c).2.1=0)(ab:¬(c.2.2.1=uO 5\/c.2.2.1=uO 6)){aa:List Part}
 (hs:sortP (s.2.2.2.2++(goneL s.2.1.1 (resF (bareM s.2.1) c).1.1.1 s.2.1.1.length).filter λp=> !holeB p)=some aa)(hl:aa.length<=65536):
 sApp fuel s (q:Int) c vs 0=some (doneS s (ansOf s c) (withP (resF (bareM s.2.1) c).1.1.1 (mergeP s.2.1.1 (resF (bareM s.2.1) c).1.1.1)) (resF (bareM s.2.1) c).1.1.2 aa,flatR (ansOf s c) (0:Int)):=by
 have hm:=keZ (aXZ h.ok.t) c
 let⟨st,sw⟩:=mAZ (m:=bareM s.2.1) c λ_=>ab
 have ac:s.2.1.1.length<=(resF (bareM s.2.1) c).1.1.1.length/\(resF (bareM s.2.1) c).1.1.1.length<=500:=⟨by have:=st.len;simp_all[bareM],hm.t.r.len.2⟩;have hP:∀x∈s.2.1.1,x.2.2.2.2.2.1.length<=4096:=λx hx=>by
  let⟨i,hi⟩:=ZAQ hx
  have o:=h.ok.t.r.ino i x hi;cases hu:x.2.2.1
  ·rw[(o.bare hu).2.2.2.1];simp
  ·cases hd:x.2.2.2.1
   ·exact(o.file hu hd).2.2.1
   ·rw[(o.dir hu hd).2.1];simp
 have hn:=λi y hy=>hm.p i y hy;have ae:=eIZ (l1:=(resF (bareM s.2.1) c).1.1.1) hP s.2.1.1.length;have af:=h.ok.t.r.len;have ad:=h.ok.t.r.str;unfold sApp Pa Pb Pc Pd Pe Pf Pg Ph Pi Pj Pk Pl Pm Pn Po Pp Pq Pr Ps Pt Pu Pv Pw Px Py Pz Pza Pzb Pzc Pzd Pze Pzf PD PH PL PT PY PZC PZF;rw[c7Z h.ok,ZAA,(bQZ h.two).1,h.fit];simp only[ZAb,ZAO,ZAD,ZAA];rw[eBZ h.ok.t,ZAA,pfZ (aXZ h.ok.t)];simp only[ZAA,ZAP];rw[h.ok.own,ZAA];have hd:(((doT (resF (bareM s.2.1) c) c).2.1,((doT (resF (bareM s.2.1) c) c).2.2.1,((doT (resF (bareM s.2.1) c) c).2.2.2.1,(((doT (resF (bareM s.2.1) c) c).2.2.2.2.1,(doT (resF (bareM s.2.1) c) c).2.2.2.2.2.1),((doT (resF (bareM s.2.1) c) c).2.2.2.2.2.2.1,((doT (resF (bareM s.2.1) c) c).2.2.2.2.2.2.2.1,((doT (resF (bareM s.2.1) c) c).2.2.2.2.2.2.2.2.1,((doT (resF (bareM s.2.1) c) c).2.2.2.2.2.2.2.2.2.1,((doT (resF (bareM s.2.1) c) c).2.2.2.2.2.2.2.2.2.2.1,(doT (resF (bareM s.2.1) c) c).2.2.2.2.2.2.2.2.2.2.2.1))))))))):ReplyT)=ansOf s c:=rfl;rw[hd,nyZ s.2.2.1 (ansOf s c) (bnZ h.ok.c) (bkZ h.right),ZAA,h.put.1,show(doT (resF (bareM s.2.1) c) c).2.2.2.1=(resF (bareM s.2.1) c).2.1 from rfl,h0];simp only[putO,ZAb,ZAO,ZAD];rw[show(doT (resF (bareM s.2.1) c) c).1=(resF (bareM s.2.1) c).1.1.2 from rfl,show(doT (resF (bareM s.2.1) c) c).2.2.2.2.2.2.2.2.2.2.2.2.1=(resF (bareM s.2.1) c).1.1.1 from rfl,ncZ ac hP hn,ZAA,op5,op6,ZAE (λe=>ab (.inl e)),ZAE (λe=>ab (.inr e))];simp only[ZAD,ZAA];rw[khZ (by omega) (by have:=h.ok.dn;omega) hs hl (by rw[sw];exact ad.2),ZAA];simp only[ZAO,ZAD,ZAP,ZAA,ZBl];have e0:(ansOf s c).2.2.1=0:=h0;unfold flatR;rw[e0]
 rfl
end
def atC(c:CallT):Nat:=(c.2.2.2.1.1-1).toNat
def newN(x:Ino)(q:Nat)(c:CallT):Nat:=((newSize x c).toNat+q-1)/q
structure Wri (s:GateT) (q:Nat) (c:CallT) (x:Ino):Prop where
 hop:c.2.2.1=uO 5\/c.2.2.1=uO 6
 h0:(resF (bareM s.2.1) c).2.1=0
 f:FileOf s c x
 b5:c.2.2.1=uO 5->c.2.2.2.2.2.2.2.1+((c.2.2.2.2.2.2.2.2.2.length:Nat):Int)<=65536
 r:rightCall c=true
theorem qlZ{s}{q}{c}(hr:rightCall c=true)(aa:c.2.2.1=uO 5\/c.2.2.1=uO 6)(h0:(resF (bareM s.2.1) c).2.1=0):∃x,Wri s q c x:=by
 rcases aa with h5|h6
 ·let⟨⟨x,hx⟩,hl⟩:=utZ hr h5 h0
  exact⟨x,.inl h5,h0,hx,λ_=>hl,hr⟩
 ·let⟨⟨x,hx⟩,hl⟩:=tKZ hr h6 h0
  exact⟨x,.inr h6,h0,hx,λh5=>by rw[h6] at h5;exact absurd h5 (by decide),hr⟩
theorem lUZ{x}{q}{c}(hq:16<=q)(hb:c.2.2.2.2.2.2.2.2.2.length<=4096):wMany x q c<=258:=by
 unfold wMany;generalize c.2.2.2.2.2.2.2.1.toNat=o;generalize c.2.2.2.2.2.2.2.2.2.length=n at*;split
 ·split
  ·omega
  ·have h1:(o+n+q-1)/q<=o/q+258:=by
    refine lMZ (by omega) ?_;have h2:=Nat.div_add_mod o q;have h3:=ZCm o (show 0<q by omega);have h4:258*16<=258*q:=ZB1 _ hq;have h5:1*q<=1*q:=ZAL _;rw[ZAm,ZCp (o/q) q];generalize q*(o/q)=z at*;have h6:257*16<=257*q:=ZB1 _ hq;omega
   omega
 grind
theorem Wri.span{s}{q}{c}{x}(h:Wri s q c x)(hq:16<=q):wMany x q c≠0->wFirst q c+wMany x q c<=newN x q c:=by
 let⟨ho,hn,hb⟩:=a5Z h.r
 unfold wMany wFirst newN newSize;by_cases e5:c.2.2.1=uO 5
 ·simp only[ZAN e5];by_cases hl:c.2.2.2.2.2.2.2.2.2.length=0
  ·simp_all
  ·rw[ZAM hl,ZAM hl];intro _;have h1:=q5Z (q:=q) (a:=c.2.2.2.2.2.2.2.1.toNat) (b:=c.2.2.2.2.2.2.2.1.toNat+c.2.2.2.2.2.2.2.2.2.length) (by omega) (by omega);have h2:=lRZ (q:=q) (a:=c.2.2.2.2.2.2.2.1.toNat+c.2.2.2.2.2.2.2.2.2.length) (b:=(max x.2.2.2.2.1 (c.2.2.2.2.2.2.2.1+((c.2.2.2.2.2.2.2.2.2.length:Nat):Int))).toNat) (by omega);omega
 ·simp only[ZAM e5];split
  ·rename_i hc;intro _;have h1:=Nat.div_add_mod c.2.2.2.2.2.2.2.2.1.toNat q;have:=(pkZ (k:=c.2.2.2.2.2.2.2.2.1.toNat/q) (to:=c.2.2.2.2.2.2.2.2.1.toNat) (q:=q) (by omega)).2 (by
    rw[ZCp];have:=hc.2.1;omega)
   omega
  ·exact λz=>absurd rfl z
theorem kAZ{s}{q}{c}{x}(h2:(planF s q c).1.1=2)(h:Wri s q c x):planF s q c=((2,(zR,((writesF x s.2.1.2 q c).2.2,(writesF x s.2.1.2 q c).2.1))),0):=by
 let⟨_,hr,ha⟩:=bQZ h2
 unfold planF at h2⊢;rw[ZAN hr,ha,ZAM (by decide)] at h2⊢;split at h2
 ·cases h2
 ·rename_i h1;rw[ZAM h1];split at h2
  ·cases h2
  ·rename_i h3;rw[ZAM h3,ZAN ⟨h.h0,h.hop⟩,h.f.p]
theorem vuZ{s}{q}{c}(h2:(planF s q c).1.1=2)(h:¬((resF (bareM s.2.1) c).2.1=0/\(c.2.2.1=uO 5\/c.2.2.1=uO 6))):planF s q c=((2,(zR,([],[]))),0):=by
 let⟨_,hr,ha⟩:=bQZ h2
 unfold planF at h2⊢;rw[ZAN hr,ha,ZAM (by decide)] at h2⊢;split at h2
 ·cases h2
 ·rename_i h1;rw[ZAM h1];split at h2
  ·cases h2
  ·rename_i h3;rw[ZAM h3,ZAM h]
def wrL(s:GateT)(q:Nat)(c:CallT)(vs:List Int)(x:Ino):Int×List Part:=wrF (writesF x s.2.1.2 q c).2.1 vs (wMany x q c) (s.2.1.2,cutP x.2.2.2.2.2.1 (newN x q c))
def l1W(s:GateT)(c:CallT)(x:Ino):List Ino:=(bareM s.2.1).1.1.set (atC c) (wS (bareI x) (newSize x c))
def lW(s:GateT)(q:Nat)(c:CallT)(vs:List Int)(x:Ino):List Ino:=(withP (l1W s c x) (mergeP s.2.1.1 (l1W s c x))).set (atC c) (setP (wS x (newSize x c)) (wrL s q c vs x).2)
def goneW(s:GateT)(q:Nat)(c:CallT)(x:Ino):List Part:=goneL s.2.1.1 (l1W s c x) s.2.1.1.length++x.2.2.2.2.2.1.drop (min x.2.2.2.2.2.1.length (newN x q c))
theorem fIZ(t):(bareM t).1.1.length=t.1.length:=by simp[bareM]
theorem h2Z{s}{q}{c}{x}(h:Wri s q c x):(l1W s c x)[atC c]? =some (wS (bareI x) (newSize x c)):=by
 exact ZAT (by rw[fIZ];exact(ZAB.1 h.f.at_).1)
theorem vdZ{s}{q}{c}{x}(h:Wri s q c x):(withP (l1W s c x) (mergeP s.2.1.1 (l1W s c x)))[atC c]? =some (wS x (newSize x c)):=by
 have hx:s.2.1.1[atC c]? =some x:=h.f.at_;rw[bNZ _ (h2Z h)];have:mergeP s.2.1.1 (l1W s c x) (atC c)=x.2.2.2.2.2.1:=by
  unfold mergeP;rw[hx,h2Z h];simp only;unfold keepB;rw[show(wS (bareI x) (newSize x c)).2.2.1=x.2.2.1 from rfl,show(wS (bareI x) (newSize x c)).2.1=x.2.1 from rfl,h.f.used,ZAb];rfl
 rw[this];rfl
theorem jyZ{l}{w}(h:TreeOK (l,w)):∀x∈l,x.2.2.2.2.2.1.length<=4096/\∀p∈x.2.2.2.2.2.1,okPart w p:=λx hx=>by
 let⟨i,hi⟩:=ZAQ hx
 have o:=h.r.ino i x hi;cases hu:x.2.2.1
 ·rw[(o.bare hu).2.2.2.1];simp
 ·cases hd:x.2.2.2.1
  ·exact(o.file hu hd).2.2
  ·rw[(o.dir hu hd).2.1];simp
section
variable {s : GateT} {q : Nat} {c : CallT} {vs : List Int} {x : Ino}
theorem luZ(h:Ask s q c vs)(hw:Wri s q c x)(hv:vs.length=wMany x q c){aa:List Part}
 (hs:sortP (s.2.2.2.2++(goneW s q c x).filter λp=> !holeB p)=some aa)(hl:aa.length<=65536)(hb:(wrL s q c vs x).1<=1099511627776):
 sApp fuel s (q:Int) c vs 0=some (doneS s (ansOf s c) (lW s q c vs x) (wrL s q c vs x).1 aa,flatR (ansOf s c) (0:Int)):=by
 have hm:=keZ (aXZ h.ok.t) c;obtain⟨r1,r2,r3⟩:=fAZ h.ok.t hw.r hw.hop hw.h0 hw.f;have e1:(resF (bareM s.2.1) c).1.1.1=l1W s c x:=by rw[r1];rfl
 have e2:(resF (bareM s.2.1) c).1.1.2=s.2.1.2:=by rw[r1]
 have ab:s.2.1.1.length<=(l1W s c x).length/\(l1W s c x).length<=500:=⟨by simp_all[l1W,ZAr,fIZ,ZAL],by rw[<-e1];exact hm.t.r.len.2⟩;have hP:=λx hx=>(jyZ h.ok.t x hx).1;have hn:∀(i:Nat) y,(l1W s c x)[i]? =some y->y.2.2.2.2.2.1=[]:=λi y hy=>hm.p i y (by simp_all);have ac:=eIZ (l1:=l1W s c x) hP s.2.1.1.length;have ad:=h.ok.t.r.len;have hq:=h.ok.q;have ae:=hP x (ZAI hw.f.at_);have af:(withP (l1W s c x) (mergeP s.2.1.1 (l1W s c x))).length<=500:=by rw[cjZ];exact ab.2
 have aj:=lUZ (x:=x) hq.1 (a5Z hw.r).2.2;have ag:=kAZ h.two hw;have ah:c.2.2.2.1.1=((atC c:Nat):Int)+1:=by have:=hw.f.h1;unfold atC;omega
 unfold sApp Pa Pb Pc Pd Pe Pf Pg Ph Pi Pj Pk Pl Pm Pn Po Pp Pq Pr Ps Pt Pu Pv Pw Px Py Pz Pza Pzb Pzc Pzd Pze Pzf PD PH PL PT PY PZC PZF;rw[c7Z h.ok,ZAA,(bQZ h.two).1,h.fit,h.ok.own];simp only[ZAb,ZAO,ZAD,ZAA];rw[eBZ h.ok.t,ZAA,show(((bareM s.2.1).1.1,(bareM s.2.1).1.2),(bareM s.2.1).2)=bareM s.2.1 from rfl,pfZ (aXZ h.ok.t),ZAA];simp only[ZAA,ZAP];rw[h.ok.own,ZAA];have hd:(((doT (resF (bareM s.2.1) c) c).2.1,((doT (resF (bareM s.2.1) c) c).2.2.1,((doT (resF (bareM s.2.1) c) c).2.2.2.1,(((doT (resF (bareM s.2.1) c) c).2.2.2.2.1,(doT (resF (bareM s.2.1) c) c).2.2.2.2.2.1),((doT (resF (bareM s.2.1) c) c).2.2.2.2.2.2.1,((doT (resF (bareM s.2.1) c) c).2.2.2.2.2.2.2.1,((doT (resF (bareM s.2.1) c) c).2.2.2.2.2.2.2.2.1,((doT (resF (bareM s.2.1) c) c).2.2.2.2.2.2.2.2.2.1,((doT (resF (bareM s.2.1) c) c).2.2.2.2.2.2.2.2.2.2.1,(doT (resF (bareM s.2.1) c) c).2.2.2.2.2.2.2.2.2.2.2.1))))))))):ReplyT)=ansOf s c:=rfl;rw[hd,nyZ s.2.2.1 (ansOf s c) (bnZ h.ok.c) (bkZ h.right),ZAA,h.put.1,show(doT (resF (bareM s.2.1) c) c).2.2.2.1=(resF (bareM s.2.1) c).2.1 from rfl,hw.h0];simp only[putO,ZAb,ZAO,ZAD];rw[show(doT (resF (bareM s.2.1) c) c).1=(resF (bareM s.2.1) c).1.1.2 from rfl,show(doT (resF (bareM s.2.1) c) c).2.2.2.2.2.2.2.2.2.2.2.2.1=(resF (bareM s.2.1) c).1.1.1 from rfl,e1,e2,ncZ ab hP hn,ZAA,op5,op6];have step:∀{α} (S:α),(bif decide (c.2.2.1=uO 5) then some (true,S) else some (decide (c.2.2.1=uO 6),S))=some (true,S):=λS=>by
  rcases hw.hop with e|e<;>rw[e]<;>rfl
 rw[step,ZAA];simp only[ZAK,ZAP,ZAA];rw[ag];simp only;have ai:=o5Z (x:=wS x (newSize x c)) (N:=newN x q c) (a:=wFirst q c) (n:=wMany x q c) (w:=s.2.1.2) (win:=s.2.2.1.1) (life:=s.1) (ks:=putKL s.2.2.1.1 s.2.2.1.2 (ansOf s c)) (pl:=s.2.2.2.1) (dead:=s.2.2.2.2) (gone:=goneL s.2.1.1 (l1W s c x) s.2.1.1.length) (wh:=wWhole q c) (vs:=vs) (q:=q) (vdZ hw) af r3 hq rfl (hw.span hq.1) ae hv (by omega) (ZBB ac (ZBB (ZAe _ ad.2) (by decide)));rw[ah];rw[show sappwri fuel (((atC c:Nat):Int)+1) (writesF x s.2.1.2 q c).2.1 _ _ _ _ _ _ _ _ _ _=_ from ai,ZAA];have ak:(x.2.2.2.2.2.1.drop (min x.2.2.2.2.2.1.length (newN x q c))).length<=4096:=by rw[ZAu];omega
 have al:=h.ok.dn;refine(congrArg (λo=>Option.bind o _) (khZ (gone:=goneW s q c x) (w:=(wrL s q c vs x).1) (by grind[goneW,ZAd,ZAe]) (by omega) hs hl hb)).trans ?_;rw[ZAA];simp only[ZAO,ZAD,ZAP,ZAA,ZBl];have e0:(ansOf s c).2.2.1=0:=hw.h0;unfold flatR;rw[e0]
 rfl
end
theorem gsZ{w}{l}(h:∀p∈l,okPart w p):(l.filter λp=> !holeB p).map (·.1)=stripes l:=by
 congr 1;refine List.filter_congr λp hp=> ?_;rcases h p hp with z|z
 ·simp_all[holeB]
 ·have:p.1≠0:=by omega
  show(!((p.1==0)&&(p.2==0)))= !(p.1==0)
  simp_all
theorem qJZ:∀{l:List Int} {a b},l.Pairwise (·<·)->(∀x∈l,a<x/\x<=b)->l.length<=(b-a).toNat
 |[],_,_,_,_=>ZBG _
 |x::r,a,b,h,hb=>by
  let⟨h1,h2⟩:=ZA3.1 h
  have:=qJZ h2 λy hy=>⟨h1 y hy,(hb y (ZAc _ hy)).2⟩
  grind[ZAo,ZCN]
theorem h6Z{t}(h:TreeOK t){k}(hk:k∈allStripes t.1):1<=k/\k<=t.2:=by
 let⟨i,x,hx,hk⟩:=rUZ.1 hk
 obtain⟨h0,p,hp,rfl⟩:=epZ.1 hk;rcases(jyZ h x (ZAI hx)).2 p hp with z|z
 ·exact absurd z.1 h0
 omega
section
variable {s : GateT} {q : Nat} {c : CallT} {vs : List Int}
theorem qsZ(h:Ask s q c vs){l2}{w2}{gone}(ht:TreeOK (l2,w2))
 (hl:∀(i:Nat) x,l2[i]? =some x->x.2.2.1=true->x.2.2.2.1=false->x.2.2.2.2.2.1.length=(x.2.2.2.2.1.toNat+q-1)/q)(hw:s.2.1.2<=w2)(hw2:w2<=65536)
 {fresh}(hp:(allStripes l2++stripes gone).Perm (allStripes s.2.1.1++fresh))(fn:fresh.Nodup)(ff:∀x∈fresh,s.2.1.2<x/\x<=w2)(hg:∀p∈gone,okPart s.2.1.2 p):
 ∃dead',sortP (s.2.2.2.2++gone.filter λp=> !holeB p)=some dead'/\dead'.Perm (s.2.2.2.2++gone.filter λp=> !holeB p)/\dead'.length<=65536/\StOK (doneS s (ansOf s c) l2 w2 dead') q:=by
 have hok:=h.ok;have in_:∀p∈gone.filter (λp=> !holeB p),1<=p.1/\p.1<=s.2.1.2/\(1<=p.2/\p.2<=1099511627776)/\p.1∈stripes gone:=λp hp=>by
  obtain⟨h1,h2⟩:=ZCi.1 hp;rcases hg p h1 with z|z
  ·unfold holeB at h2;rw[z.1,z.2] at h2;cases h2
  ·exact⟨z.1,z.2.1,⟨z.2.2.1,z.2.2.2⟩,epZ.2 ⟨by omega,p,h1,rfl⟩⟩
 have hst:=hok.t.r.str;obtain⟨dead',e1,e2,e3⟩:=tfZ (l:=s.2.2.2.2++gone.filter λp=> !holeB p) λp hp=>by
  refine ZAJ ?_;rcases ZAg.1 hp with z|z
  ·have:=(hok.d p z).1;omega
  ·have:=in_ p z;omega
 have keys:(dead'.map (·.1)).Perm (s.2.2.2.2.map (·.1)++stripes gone):=by
  have:=e2.map (·.1);rwa [ZCJ,gsZ hg] at this
 have nod:(allStripes s.2.1.1++fresh).Nodup:=ZBV.2 ⟨hok.t.r.nod,fn,λa ha b hb=>by
  have:=h6Z hok.t ha;have:=ff b hb;omega⟩
 have nod2:=ZBV.1 (hp.nodup_iff.2 nod);have dis:∀p∈s.2.2.2.2,p.1∉allStripes l2++stripes gone:=λp hp' hm=>by
  have d:=hok.d p hp';rcases ZAg.1 (hp.mem_iff.1 hm) with z|z
  ·exact d.2.2 z
  ·have:=ff _ z;omega
 have asc:(dead'.map (·.1)).Pairwise (·<·):=by
  have nd:(dead'.map (·.1)).Nodup:=keys.nodup_iff.2 (ZBV.2 ⟨hok.ds.imp λhab=>by omega,nod2.2.1,λa ha b hb e=>by
   obtain⟨p,hp',rfl⟩:=ZBf.1 ha;exact dis p hp' (ZAg.2 (.inr (e▸hb)))⟩)
  exact List.Pairwise.imp₂ (λa b h1 h2=>by omega) e3 nd
 have dd:∀p∈dead',(1<=p.1/\p.1<=w2)/\(1<=p.2/\p.2<=1099511627776)/\p.1∉allStripes l2:=λp hp'=>by
  rcases ZAg.1 (e2.mem_iff.1 hp') with z|z
  ·have d:=hok.d p z;exact⟨⟨d.1.1,by omega⟩,d.2.1,λhm=>dis p z (ZAg.2 (.inl hm))⟩
  ·have d:=in_ p z;exact⟨⟨d.1,by omega⟩,d.2.2.1,λhm=>nod2.2.2 _ hm _ d.2.2.2 rfl⟩
 have len:dead'.length<=65536:=by
  have:=qJZ (a:=0) (b:=w2) asc λx hx=>by
   obtain⟨p,hp',rfl⟩:=ZBf.1 hx;have:=(dd p hp').1;omega
  rw[ZAq] at this;omega
 exact⟨dead',e1,e2,len,⟨hok.life,ht,h.put.2.1,hok.pl,hl,hok.q,asc,dd,len⟩⟩
end
def StepG(l0 l1:List Ino):Prop:=∀(i:Nat) y,l1[i]? =some y->y.2.2.1=true->(∃x,l0[i]? =some x/\x.2.2.1=true/\x.2.1=y.2.1/\x.2.2.2.1=y.2.2.2.1)\/(y.2.2.2.2.1=0/\∀x,l0[i]? =some x->x.2.1≠y.2.1)
theorem flZ{l0 l1}{i}{x y}(hx:l0[i]? =some x)(hy:l1[i]? =some y)(hu:y.2.2.1=true)(hg:x.2.1=y.2.1):mergeP l0 l1 i=x.2.2.2.2.2.1:=by
 simp_all[mergeP,ZAN,keepB,ZAb]
theorem eUZ{l0 l1}{i}{y}(hy:l1[i]? =some y)(hn:y.2.2.1=true->∀x,l0[i]? =some x->x.2.1≠y.2.1):mergeP l0 l1 i=[]:=by
 unfold mergeP;rw[hy];cases hx:l0[i]? with
 |none=>rfl
 |some x=>
  simp only;unfold keepB
  grind
theorem merge_ok{t}{l1}(h:TreeOK t)(st:StepG t.1 l1){i}{y}(hy:l1[i]? =some y):
 if y.2.2.1=true/\y.2.2.2.1=false then(mergeP t.1 l1 i).length<=4096/\∀p∈mergeP t.1 l1 i,okPart t.2 p else mergeP t.1 l1 i=[]:=by
 by_cases hu:y.2.2.1=true
 ·rcases st i y hy hu with⟨x,hx,xu,xg,xd⟩|⟨_,aa⟩
  ·rw[flZ hx hy hu xg];have o:=h.r.ino i x hx;split
   ·rename_i hc;exact(o.file xu (xd.trans hc.2)).2.2
   ·rename_i hc;exact(o.dir xu (xd.trans (by cases e:y.2.2.2.1<;>simp_all))).2.1
  ·rw[eUZ hy λ_=>aa];split<;>simp
 simp_all[eUZ]
theorem iPZ{l0 l1}{w}(h:∀x∈l0,∀p∈x.2.2.2.2.2.1,okPart w p):∀k,∀p∈goneL l0 l1 k,okPart w p
 |0,p,hp=>by cases hp
 |k+1,p,hp=>by
  rcases ZAg.1 ((hp)) with z|z
  ·exact iPZ h k p z
  grind[goneAt,ZAI]
theorem raZ{l0 l1}(st:Step (l0.map bareI) l1):StepG l0 l1/\∀(i:Nat) y,l1[i]? =some y->y.2.2.1=true->(∃x,l0[i]? =some x/\x.2.2.1=true/\x.2.1=y.2.1/\x.2.2.2.1=y.2.2.2.1/\x.2.2.2.2.1=y.2.2.2.2.1)\/(y.2.2.2.2.1=0/\∀x,l0[i]? =some x->x.2.1≠y.2.1):=by
 have h2:∀(i:Nat) y,l1[i]? =some y->y.2.2.1=true->(∃x,l0[i]? =some x/\x.2.2.1=true/\x.2.1=y.2.1/\x.2.2.2.1=y.2.2.2.1/\x.2.2.2.2.1=y.2.2.2.2.1)\/(y.2.2.2.2.1=0/\∀x,l0[i]? =some x->x.2.1≠y.2.1):=λi y hy hu=>by
  rcases st.at_ i y hy hu with⟨x,hx,a⟩|⟨z,aa⟩
  ·rw[ZAY] at hx;obtain⟨r,hr,rfl⟩:=ZAH.1 hx;exact .inl ⟨r,hr,a⟩
  ·exact .inr ⟨z,λx hx=>aa (bareI x) (by rw[ZAY,hx];rfl)⟩
 exact⟨λi y hy hu=>(h2 i y hy hu).imp (λ⟨x,a,b,c,d,_⟩=>⟨x,a,b,c,d⟩) id,h2⟩
theorem fOZ{w v}(h:w<=v){p}(hp:okPart w p):okPart v p:=by
 rcases hp with z|z
 ·exact .inl z
 ·exact .inr ⟨z.1,by omega,z.2.2⟩
theorem jQZ(n):stripes (List.replicate n (0,0))=[]:=by
 simp_all[stripes,List.mem_replicate]
theorem mhZ(P)(N):stripes (cutP P N)=stripes (P.take N):=by
 simp_all[cutP,a1Z,jQZ]
theorem uQZ{P}{w}(h:∀p∈P,okPart w p)(N):∀p∈cutP P N,okPart w p:=λp hp=>by
 rcases ZAg.1 hp with z|z
 ·grind
 ·rw[(List.mem_replicate.1 z).2];exact .inl ⟨rfl,rfl⟩
def nextL(s:GateT)(q:Nat)(c:CallT)(vs:List Int):List Ino:=
 if(resF (bareM s.2.1) c).2.1=0 then
  if c.2.2.1=uO 5\/c.2.2.1=uO 6 then lW s q c vs (fileP s c) else withP (resF (bareM s.2.1) c).1.1.1 (mergeP s.2.1.1 (resF (bareM s.2.1) c).1.1.1)
 else s.2.1.1
def nextW(s:GateT)(q:Nat)(c:CallT)(vs:List Int):Int:=
 if(resF (bareM s.2.1) c).2.1=0 then if c.2.2.1=uO 5\/c.2.2.1=uO 6 then(wrL s q c vs (fileP s c)).1 else s.2.1.2 else s.2.1.2
def nextG(s:GateT)(q:Nat)(c:CallT):List Part:=
 if(resF (bareM s.2.1) c).2.1=0 then if c.2.2.1=uO 5\/c.2.2.1=uO 6 then goneW s q c (fileP s c) else goneL s.2.1.1 (resF (bareM s.2.1) c).1.1.1 s.2.1.1.length else[]
structure Next (s:GateT) (q:Nat) (c:CallT) (vs:List Int) (s':GateT):Prop where
 ok:StOK s' q
 xs:XInv c.2.1 s'.2.2.1.2
 w:s.2.1.2<=s'.2.1.2/\s'.2.1.2<=s.2.1.2+258
 tree:s'.2.1.1=nextL s q c vs
 ww:s'.2.1.2=nextW s q c vs
 life:s'.1=s.1
 ca:s'.2.2.1=(s.2.2.1.1,putKL s.2.2.1.1 s.2.2.1.2 (ansOf s c))
 dd:s'.2.2.2.2.Perm (s.2.2.2.2++(nextG s q c).filter fun p=> !holeB p)
 st:∃fresh,(allStripes s'.2.1.1++s'.2.2.2.2.map (·.1)).Perm (allStripes s.2.1.1++s.2.2.2.2.map (·.1)++fresh)
section
variable {s : GateT} {q : Nat} {c : CallT} {vs : List Int}
theorem kNZ{d d' gone:List Part}{a b f}{w}(h:d'.Perm (d++gone.filter λp=> !holeB p))(hg:∀p∈gone,okPart w p)(hp:(b++stripes gone).Perm (a++f)):(b++d'.map (·.1)).Perm (a++d.map (·.1)++f):=by
 have h1:=h.map (·.1);rw[ZCJ,gsZ hg] at h1;refine List.perm_iff_count.2 λk=> ?_;have h3:=hp.count_eq k
 grind
theorem q4Z(h:Ask s q c vs)(h0:(resF (bareM s.2.1) c).2.1≠0):∃s',sApp fuel s (q:Int) c vs 0=some (s',flatR (ansOf s c) (0:Int))/\Next s q c vs s':=by
 refine⟨_,ohZ h h0,⟨h.ok.life,h.ok.t,h.put.2.1,h.ok.pl,h.ok.l,h.ok.q,h.ok.ds,h.ok.d,h.ok.dn⟩,h.put.2.2.1,⟨ZB0 _,by show s.2.1.2<=_;omega⟩,?_,?_,rfl,rfl,?_,⟨[],by rw[ZAp];exact List.Perm.refl _⟩⟩
 ·unfold nextL;rw[ZAM h0];rfl
 ·unfold nextW;rw[ZAM h0];rfl
 ·unfold nextG;rw[ZAM h0,List.filter_nil,ZAp];exact List.Perm.refl _
theorem oNZ(h:Ask s q c vs)(h0:(resF (bareM s.2.1) c).2.1=0)(hop:¬(c.2.2.1=uO 5\/c.2.2.1=uO 6))(hw:s.2.1.2<=65536):
 ∃s',sApp fuel s (q:Int) c vs 0=some (s',flatR (ansOf s c) (0:Int))/\Next s q c vs s':=by
 have hm:=keZ (aXZ h.ok.t) c;obtain⟨st,sw⟩:=mAZ c λ_=>hop;have sw:(resF (bareM s.2.1) c).1.1.2=s.2.1.2:=sw
 let⟨sg,sb⟩:=raZ st
 have hlen:=by have:=st.len;rwa [fIZ] at this
 have hP:=jyZ h.ok.t;have hperm:=j5Z hlen;have hnod:=(ZBV.1 (hperm.nodup_iff.2 h.ok.t.r.nod)).1;have hT:=itZ hm.t h.ok.t.r.str (λi y hy=>merge_ok h.ok.t sg hy) hnod;have hg:=λx hx=>(hP x hx).2;obtain⟨dead',d1,d2,d3,d4⟩:=qsZ h hT (λi y hy hu hd=>by
  obtain⟨z,hz,rfl⟩:=bhZ hy;have hu:=hu;have hd:=hd;show(mergeP _ _ i).length=(z.2.2.2.2.1.toNat+q-1)/q;rcases sb i z hz hu with⟨x,hx,xu,xg,xd,xs⟩|⟨z0,hno⟩
  ·rw[flZ hx hz hu xg,<-xs];exact h.ok.l i x hx xu (xd.trans hd)
  ·rw[eUZ hz λ_=>hno,z0];have:=h.ok.q;show 0=((0:Int).toNat+q-1)/q;rw[Nat.div_eq_of_lt (by omega)]) (ZB0 _) hw (by rw[ZAp];exact hperm) List.nodup_nil (λx hx=>by cases hx) (iPZ hg _)
 refine⟨_,by rw[leZ h h0 hop d1 d3,sw],d4,h.put.2.2.1,⟨ZB0 _,by show s.2.1.2<=_;omega⟩,?_,?_,rfl,rfl,?_,⟨[],kNZ d2 (iPZ hg _) (by rw[ZAp];exact hperm)⟩⟩
 ·unfold nextL;rw[ZAN h0,ZAM hop];rfl
 ·unfold nextW;rw[ZAN h0,ZAM hop];rfl
 ·unfold nextG;rw[ZAN h0,ZAM hop];exact d2
theorem q6Z{x}(h:Wri s q c x){i}{y}(hy:(l1W s c x)[i]? =some y):∃r,s.2.1.1[i]? =some r/\((i=atC c/\r=x/\y=wS (bareI x) (newSize x c))\/(i≠atC c/\y=bareI r)):=by
 by_cases hi:i=atC c
 ·subst hi;rw[h2Z h] at hy;exact⟨x,h.f.at_,.inl ⟨rfl,rfl,(ZAf hy).symm⟩⟩
 ·unfold l1W at hy;rw[ZAa (λe=>hi e.symm)] at hy;obtain⟨r,hr,rfl⟩:=ndZ hy;exact⟨r,hr,.inr ⟨hi,rfl⟩⟩
theorem oKZ(h:Ask s q c vs){x}(hx:Wri s q c x)(hw:s.2.1.2<=65000)(hv:vs.length=wMany x q c)(hvs:∀v∈vs,1<=v/\v<=1099511627776):
 ∃s',sApp fuel s (q:Int) c vs 0=some (s',flatR (ansOf s c) (0:Int))/\Next s q c vs s':=by
 have hm:=keZ (aXZ h.ok.t) c;obtain⟨r1,r2,r3⟩:=fAZ h.ok.t hx.r hx.hop hx.h0 hx.f;have hq:=h.ok.q;have hlen:s.2.1.1.length<=(l1W s c x).length:=by unfold l1W;rw[ZAr,fIZ];exact ZAL _
 have hP:=jyZ h.ok.t;have hg:=λx hx=>(hP x hx).2;have hxm:=ZAI hx.f.at_;have hst:=h.ok.t.r.str;have hmn:=lUZ (x:=x) hq.1 (a5Z hx.r).2.2;have hN4:newN x q c<=4096:=by
  unfold newN;exact lMZ (by omega) (by have:4096*16<=4096*q:=ZB1 _ hq.1;omega)
 have W:=lsZ (wh:=wWhole q c) (vs:=vs) (hx.span hq.1) (hg x hxm) (ZB0 _) hst.1 (wMany x q c) (ZAL _);have W:Wrt x.2.2.2.2.2.1 (wWhole q c) (wFirst q c) s.2.1.2 (newN x q c) vs (wMany x q c) (wrL s q c vs x):=W;have hrun:=bxZ x.2.2.2.2.2.1 (wWhole q c) (wFirst q c) s.2.1.2 (wMany x q c);obtain⟨fresh,f1,f2,f3⟩:=W.st;have hw2:s.2.1.2<=(wrL s q c vs x).1/\(wrL s q c vs x).1<=s.2.1.2+258:=by rw[W.e];omega
 have sg:StepG s.2.1.1 (l1W s c x):=λi y hy hu=>by
  obtain⟨r,hr,z⟩:=q6Z hx hy;rcases z with⟨_,rfl,rfl⟩|⟨_,rfl⟩<;>exact .inl ⟨r,hr,hu,rfl,rfl⟩
 have hlm:=vdZ hx;have hl2:lW s q c vs x=withP (l1W s c x) (λi=>if i=atC c then(wrL s q c vs x).2 else mergeP s.2.1.1 (l1W s c x) i):=by
  unfold lW;rw[<-koZ (h2Z hx)];rfl
 have hperm:(allStripes (lW s q c vs x)++stripes (goneW s q c x)).Perm (allStripes s.2.1.1++fresh):=by
  obtain⟨rest,u1,u2⟩:=rNZ hlm;have u2:=u2 (setP (wS x (newSize x c)) (wrL s q c vs x).2);have m:=j5Z hlen;have u1:(allStripes (withP (l1W s c x) (mergeP s.2.1.1 (l1W s c x)))).Perm (stripes x.2.2.2.2.2.1++rest):=u1;have u2:(allStripes (lW s q c vs x)).Perm (stripes (wrL s q c vs x).2++rest):=u2;have sp:stripes x.2.2.2.2.2.1=stripes (x.2.2.2.2.2.1.take (newN x q c))++stripes (x.2.2.2.2.2.1.drop (newN x q c)):=by rw[<-a1Z,ZBC]
  have dr:x.2.2.2.2.2.1.drop (min x.2.2.2.2.2.1.length (newN x q c))=x.2.2.2.2.2.1.drop (newN x q c):=by
   by_cases e:x.2.2.2.2.2.1.length<=newN x q c
   ·rw[ZA8 e,List.drop_length,ZCR e]
   ·rw[Nat.min_eq_right (by omega)]
  rw[mhZ] at f1;unfold goneW;rw[a1Z,dr];rw[sp] at u1;refine List.perm_iff_count.2 λk=> ?_;have c1:=u1.count_eq k;have c2:=u2.count_eq k;have c3:=m.count_eq k;have c4:=f1.count_eq k;simp only[List.count_append] at*;omega
 have nod:(allStripes s.2.1.1++fresh).Nodup:=ZBV.2 ⟨h.ok.t.r.nod,f2,λa ha b hb=>by
  have:=h6Z h.ok.t ha;have:=f3 b hb;omega⟩
 have hres:TreeOK (l1W s c x,s.2.1.2):=by
  have:=hm.t;rw[r1] at this;exact this
 have okW:∀p∈(wrL s q c vs x).2,okPart (wrL s q c vs x).1 p:=λp hp=>by
  rcases W.ok p hp with z|⟨j,j1,j2,j3⟩
  ·exact fOZ hw2.1 (uQZ (hg x hxm) _ p z)
  ·rw[gEo] at j2;have:=hvs _ (ZBK (show j<vs.length by omega));rw[j2] at j3⊢;exact .inr ⟨j3.1,j3.2,this⟩
 have hT:TreeOK (lW s q c vs x,(wrL s q c vs x).1):=by
  rw[hl2];refine itZ hres ⟨by omega,by omega⟩ (λi y hy=> ?_) (by rw[<-hl2];exact(ZBV.1 (hperm.nodup_iff.2 nod)).1);by_cases hi:i=atC c
  ·subst hi;rw[h2Z hx] at hy;obtain rfl:=ZAf hy;rw[ZAN ⟨hx.f.used,hx.f.dir⟩,ZAN rfl,W.n];exact⟨hN4,okW⟩
  ·simp only[ZAM hi];have:=merge_ok (t:=s.2.1) h.ok.t sg hy;split
   ·rename_i hc;rw[ZAN hc] at this;exact⟨this.1,λp hp=>fOZ hw2.1 (this.2 p hp)⟩
   ·rename_i hc;rw[ZAM hc] at this;exact this
 have hgn:∀p∈goneW s q c x,okPart s.2.1.2 p:=λp hp=>by
  rcases ZAg.1 hp with z|z
  ·exact iPZ hg _ p z
  ·exact hg x hxm p (ZCX z)
 obtain⟨dead',d1,d2,d3,d4⟩:=qsZ h (gone:=goneW s q c x) hT (λi y hy hu hd=>by
  rw[hl2] at hy;obtain⟨z,hz,rfl⟩:=bhZ hy;have hu:z.2.2.1=true:=hu;have hd:z.2.2.2.1=false:=hd;show(if i=atC c then(wrL s q c vs x).2 else mergeP s.2.1.1 (l1W s c x) i).length=(z.2.2.2.2.1.toNat+q-1)/q;obtain⟨r,hr,w⟩:=q6Z hx hz;rcases w with⟨hi,rfl,rfl⟩|⟨hi,rfl⟩
  ·rw[ZAN hi,W.n];rfl
  ·rw[ZAM hi,flZ hr hz hu rfl];exact h.ok.l i r hr hu hd) hw2.1 (by omega) hperm f2 f3 hgn
 refine⟨_,luZ h hx hv d1 d3 (by omega),d4,h.put.2.2.1,hw2,?_,?_,rfl,rfl,?_,⟨fresh,kNZ d2 hgn hperm⟩⟩
 ·unfold nextL;rw[ZAN hx.h0,ZAN hx.hop,hx.f.p];rfl
 ·unfold nextW;rw[ZAN hx.h0,ZAN hx.hop,hx.f.p];rfl
 ·unfold nextG;rw[ZAN hx.h0,ZAN hx.hop,hx.f.p];exact d2
theorem mPZ(h:Ask s q c vs)(hw:s.2.1.2<=65000)(hv:vs.length=(planF s q c).1.2.2.2.length)(ab:∀v∈vs,1<=v/\v<=1099511627776):
 ∃s',sApp fuel s (q:Int) c vs 0=some (s',flatR (ansOf s c) (0:Int))/\Next s q c vs s':=by
 by_cases h0:(resF (bareM s.2.1) c).2.1=0
 ·by_cases aa:c.2.2.1=uO 5\/c.2.2.1=uO 6
  ·obtain⟨x,hx⟩:=qlZ (bQZ h.two).2.1 aa h0;refine oKZ h hx hw ?_ ab;rw[hv,kAZ h.two hx];exact(bxZ _ _ _ _ _).1
  ·exact oNZ h h0 aa (by omega)
 grind[q4Z]
end
theorem tLZ{p:PlanT}{vs}(hp:p.1=2)(hl:vs.length=p.2.2.2.length)(hb:vs.length<=100000)(h:∀(j:Nat) nd v,p.2.2.2[j]? =some nd->vs[j]? =some v->nd.2.1.2<v/\1<=v/\v<=1099511627776):sfit fuel p vs 0=some true:=by
 unfold sfit;rw[hp];simp[ZAA];unfold sEquFun;rw[hl,ZAb,ZAO];have loop:sEquFun_l0_it fuel p.2.2.2 vs 0=some (.inl ()):=by
  unfold sEquFun_l0_it;refine aoZ (λk:Nat=>(k:Int)) p.2.2.2.length (by omega) (λk hk=> ?_) ?_
  ·unfold sEquFun_l0 sfit1;obtain⟨nd,hn⟩:∃nd,p.2.2.2[k]? =some nd:=⟨_,ZAC hk⟩;obtain⟨v,hv⟩:∃v,vs[k]? =some v:=⟨_,gEo⟩;have:=h k nd v hn hv;rw[dTo,adZ hk,ZAA,hn,ZAA,adZ (by omega),ZAA,hv,ZAA];simp;rw[ZAJ (show v>nd.2.1.2 by omega),ZAJ (show v>=1 by omega),ZAJ (show v<=1099511627776 by omega),w6]
   rfl
  ·unfold sEquFun_l0;rw[dFo,ZAD]
 simp_all
def GivenOK(q:Nat)(l:List NeedT)(bs:List (List UInt8)):Prop:=bs.length=l.length/\l.length<=100000/\(∀b∈bs,b.length=0\/b.length=q)/\∀n∈l,0<=n.1/\n.1<=65536
theorem m2Z{q}{l}{bs}(hq:16<=q/\q<=65)(h:GivenOK q l bs):sgiv fuel (q:Int) l bs=some true:=by
 let⟨h1,h2,h3,h4⟩:=h
 unfold sgiv ssiz;rw[ZAJ (show(q:Int)>=16 by omega),ZAK,ZAA,ZAJ (show(q:Int)<=65536 by omega),h1,ZAK];have a:sIndFun10_l0_it fuel bs (0,(q:Int))=some (.inl (q:Int)):=by
  unfold sIndFun10_l0_it;refine aoZ (λk:Nat=>((k:Int),(q:Int))) bs.length (by omega) (λk hk=> ?_) ?_
  ·show sIndFun10_l0 fuel bs (k:Int) (q:Int)=_;unfold sIndFun10_l0 sgiv1;have hb:=h3 _ (ZBK hk);rw[dTo,adZ hk,ZAA,ZAC hk,ZAA,w6];rcases hb with e|e
   ·rw[e];rfl
   ·rw[e,(ZAW.2 (by omega)),show(!(((q:Nat):Int)==(q:Int)))=false by rw[ZAb];rfl];rfl
  ·show sIndFun10_l0 fuel bs (bs.length:Int) (q:Int)=_;unfold sIndFun10_l0;rw[dFo,ZAD]
 have b:sIndFun9_l0_it fuel l 0=some (.inl ()):=by
  unfold sIndFun9_l0_it;refine aoZ (λk:Nat=>(k:Int)) l.length (by omega) (λk hk=> ?_) ?_
  ·unfold sIndFun9_l0 sgiv2;have hb:=h4 _ (ZBK hk);rw[dTo,adZ hk,ZAA,ZAC hk,ZAA,dFo,ZAD,dFo,w6]
   rfl
  ·unfold sIndFun9_l0;rw[dFo,ZAD]
 simp_all[sConFun8,sIndFun10,sConFun6,sIndFun9]
theorem uKZ{α:Type}{F O:List α}{k}{x}(h:F.length=O.length)(hx:F[k]? =some x):(F.take k++O.drop k).set k x=F.take (k+1)++O.drop (k+1):=by
 have hk:=(ZAB.1 hx).1;rw[List.set_append_right k x (by grind),ZAS,ZA8 (by omega),ZBn,ZBT (by omega:k<O.length),aWZ hx,ZAx]
 rfl
theorem uXZ{α:Type}{F O:List α}{k}(h:F.length=O.length)(hk:k<O.length):(F.take k++O.drop k)[k]? =O[k]? :=by
 grind
def atF(c:CallT)(z:Nat)(o:UInt8):UInt8:=
 if c.2.2.1=uO 6 then(if c.2.2.2.2.2.2.2.2.1<=(z:Int) then 0 else o)
 else if c.2.2.1=uO 5/\c.2.2.2.2.2.2.2.1.toNat<=z then(c.2.2.2.2.2.2.2.2.2[z-c.2.2.2.2.2.2.2.1.toNat]?).getD o else o
def padB(q:Nat)(aa:List UInt8):List UInt8:=splice (List.replicate (α:=UInt8) q 0) 0 (List.take (List.replicate (α:=UInt8) q 0).length aa)
theorem c1Z(q)(old):(padB q old).length=q:=by
 unfold padB splice
 grind
def blockF(q:Nat)(c:CallT)(i:Nat)(aa:List UInt8):List UInt8:=(padB q aa).mapIdx λk o=>atF c (i*q+k) o
theorem dIZ(q)(c)(i)(old):(blockF q c i old).length=q:=by simp_all[blockF,c1Z]
theorem q1Z{q i}{c}(hq:16<=q/\q<=65)(hi:i<=65536)(hr:rightCall c=true)(hop:c.2.2.1=uO 5\/c.2.2.1=uO 6)(old):
 sBlo1 fuel ((i*q:Nat):Int) old [c] (q:Int)=some ((q:Int),blockF q c i old):=by
 obtain⟨ho,hn,hb⟩:=a5Z hr;have hi2:=ZCQ hi hq.2;unfold sBlo1;rw[b0Z (by omega) (by grind[atZ]),ZAA,ZBo,b0Z (by omega) (by omega),ZAA,ZBo,aeZ (by grind[ZAl,atZ])];have hF:(blockF q c i old).length=(padB q old).length:=by rw[dIZ,c1Z]
 have loop:sBlo1_l0_it fuel q old [c] ((i*q:Nat):Int) (0,((q:Int),padB q old))=some ((q:Int),blockF q c i old):=by
  unfold sBlo1_l0_it;have e0:((0:Int),((q:Int),padB q old))=(λk:Nat=>((k:Int),((q:Int),(blockF q c i old).take k++(padB q old).drop k))) 0:=by simp
  refine(congrArg (iter fuel _) e0).trans ?_;refine aoZ (λk:Nat=>((k:Int),((q:Int),(blockF q c i old).take k++(padB q old).drop k))) q (by omega) (λk hk=> ?_) ?_
  ·show sBlo1_l0 fuel q old [c] ((i*q:Nat):Int) (k:Int) (q:Int) ((blockF q c i old).take k++(padB q old).drop k)=_;unfold sBlo1_l0 Pg Ph PH;obtain⟨o,hold⟩:∃o,(padB q old)[k]? =some o:=⟨_,ZAC (by simp_all[c1Z])⟩;have hnew:(blockF q c i old)[k]? =some (atF c (i*q+k) o):=by unfold blockF;rw[ZCY,hold];rfl
   have hset:=uKZ hF hnew;have hget:=uXZ hF (by rw[c1Z];exact hk);have hlen:((blockF q c i old).take k++(padB q old).drop k).length=q:=by rw[ZAd,ZAS,ZAu,dIZ,c1Z];omega
   generalize (blockF q c i old).take k++(padB q old).drop k=B at*;have hpl:(splice (List.replicate (α:=UInt8) q 0) 0 (List.take (List.replicate (α:=UInt8) q 0).length old)).length=q:=c1Z q old;rw[hpl,dTo,ZAK,ZAP,ZAA,op6,w6,w6];show _=some (Sum.inl (((k+1:Nat):Int),((q:Int),(blockF q c i old).take (k+1)++(padB q old).drop (k+1))));rw[<-hset];have keep:atF c (i*q+k) o=o->B=B.set k (atF c (i*q+k) o):=λe=>by simp_all[dKZ]
   by_cases e6:c.2.2.1=uO 6
   ·have h65:¬(uO 6=uO 5):=by decide
    rw[ZAJ e6,ZAK,ZAA,ZAA];by_cases hc:c.2.2.2.2.2.2.2.2.1<=((i*q+k:Nat):Int)
    ·rw[dTo];simp only[ZAK];rw[hlen,adZ hk,ZAA,hget,hold,ZAA];unfold atF;rw[ZAN e6,ZAN hc]
     rfl
    ·rw[dFo];simp only[ZAD];rw[ZAA,op5,e6,ZAE h65];simp only[ZAD,ZAA];rw[<-keep (by unfold atF;rw[ZAN e6,ZAM hc])]
     rfl
   ·have e5:=hop.resolve_right e6;rw[ZAE e6,ZAD,ZAA];simp only[ZAD];rw[ZAA,op5,ZAJ e5];simp only[ZAK,ZAA];by_cases h1:c.2.2.2.2.2.2.2.1.toNat<=i*q+k
    ·rw[dTo,ZAK,w6,ZAA];have ev:((i*q:Nat):Int)+(k:Int)-c.2.2.2.2.2.2.2.1=((i*q+k-c.2.2.2.2.2.2.2.1.toNat:Nat):Int):=by omega
     rw[ev];by_cases h2:i*q+k-c.2.2.2.2.2.2.2.1.toNat<c.2.2.2.2.2.2.2.2.2.length
     ·rw[dTo];simp only[ZAK];rw[adZ h2,ZAA,ZAC h2,ZAA,hlen,adZ hk,ZAA,joZ (UInt8.toNat_lt _),ZAA,hget,hold,ZAA,ZAA,ZAA,uOt];unfold atF;rw[ZAM e6,ZAN ⟨e5,h1⟩,ZAC h2]
      rfl
     ·rw[dFo];simp only[ZAD,ZAA];rw[<-keep (by unfold atF;rw[ZAM e6,ZAN ⟨e5,h1⟩,gNo];rfl)]
      rfl
    ·rw[dFo,ZAD,ZAA];simp only[ZAD,ZAA];rw[<-keep (by unfold atF;rw[ZAM e6,ZAM (λz=>h1 z.2)])]
     rfl
  ·show sBlo1_l0 fuel q old [c] ((i*q:Nat):Int) (q:Int) (q:Int) ((blockF q c i old).take q++(padB q old).drop q)=_;unfold sBlo1_l0 Pg Ph PH;have hpl:(splice (List.replicate (α:=UInt8) q 0) 0 (List.take (List.replicate (α:=UInt8) q 0).length old)).length=q:=c1Z q old;rw[hpl,dFo,ZAD];have a1:(blockF q c i old).take q=blockF q c i old:=ZAw (by rw[dIZ];exact ZAL _);have a2:(padB q old).drop q=[]:=ZCR (by rw[c1Z];exact ZAL _);rw[a1,a2,ZAp]
 refine(congrArg (λo=>Option.bind o _) ((loop))).trans rfl
def newsF(q:Nat)(c:CallT)(l:List NeedT)(aa:List (List UInt8)):List (List UInt8):=List.zipWith (λn o=>blockF q c n.1.toNat o) l aa
theorem sUZ{q}{c}{l}{aa}{k:Nat}{n}{o}(h1:l[k]? =some n)(h2:aa[k]? =some o):(newsF q c l aa)[k]? =some (blockF q c n.1.toNat o):=by
 simp_all[newsF,List.getElem?_zipWith]
theorem rrZ{q}{c}{l}{olds}(hq:16<=q/\q<=65)(hr:rightCall c=true)(hop:c.2.2.1=uO 5\/c.2.2.1=uO 6)(h:GivenOK q l olds):
 sBlo fuel (q:Int) c l olds=some (0,newsF q c l olds):=by
 unfold sBlo;rw[m2Z hq h,ZAA,axZ,hr,ZAA]
 let⟨h1,h2,h3,h4⟩:=h
 simp only[ZAO,ZAD];rw[op5,op6];have step:∀{α} (S:α),(bif (!decide (c.2.2.1=uO 5)) then some ((!decide (c.2.2.1=uO 6)),S) else some (false,S))=some (false,S):=λS=>by
  rcases hop with e|e<;>rw[e]<;>rfl
 rw[step,ZAA];simp;have hN:(newsF q c l olds).length=l.length:=by unfold newsF;rw[List.length_zipWith];omega
 have loop:sBlo_l0_it fuel l olds (0,((q:Int),([],[c])))=some (newsF q c l olds):=by
  unfold sBlo_l0_it;have e0:((0:Int),((q:Int),(([]:List (List UInt8)),[c])))=(λk:Nat=>((k:Int),((q:Int),((newsF q c l olds).take k,[c])))) 0:=by simp
  refine(congrArg (iter fuel _) e0).trans ?_;refine aoZ (λk:Nat=>((k:Int),((q:Int),((newsF q c l olds).take k,[c])))) l.length (by omega) (λk hk=> ?_) ?_
  ·obtain⟨n,hn⟩:∃n,l[k]? =some n:=⟨_,ZAC hk⟩;obtain⟨o,ho⟩:∃o,olds[k]? =some o:=⟨_,ZAC (by omega)⟩;have hb:=h4 n (ZAI hn);have hq2:n.1.toNat*q<=65536*65:=ZCQ (by omega) hq.2;show sBlo_l0 fuel l olds (k:Int) (q:Int) ((newsF q c l olds).take k) [c]=_;unfold sBlo_l0;rw[ZAJ (by omega),adZ hk,ZAA,hn,ZAA,adZ (by omega),ZAA,ho,ZAA];rw[show n.1*(q:Int)=((n.1.toNat*q:Nat):Int) by rw[ZBk,ZBd hb.1],w64 (by omega),q1Z hq (by omega) hr hop,ZAA,aeZ (by simp only[ZAF,ZAl,atZ,ZAS];omega),w64 (by omega),aWZ (sUZ hn ho)]
   rfl
  ·show sBlo_l0 fuel l olds (l.length:Int) (q:Int) ((newsF q c l olds).take l.length) [c]=_;unfold sBlo_l0;rw[ZAE (by omega),ZAD,ZAw (by omega)]
 simp_all
def putF(q fr i:Nat)(b aa:List UInt8):List UInt8:=aa.mapIdx λt o=>if i*q<=fr+t then(b[fr+t-i*q]?).getD o else o
theorem f6Z(q fr i)(b out):(putF q fr i b out).length=out.length:=by simp_all[putF]
theorem eEZ(q fr i)(b out)(t):(putF q fr i b out)[t]? =(out[t]?).map λo=>if i*q<=fr+t then(b[fr+t-i*q]?).getD o else o:=by simp_all[putF]
theorem sEZ(q fr i)(out):putF q fr i [] out=out:=by
 refine ZBU λt=> ?_
 simp_all[eEZ]
theorem ugZ{q fr i k}{b aa:List UInt8}{x}(hk:b[k]? =some x)(h:fr<=i*q+k):putF q fr i (b.take (k+1)) aa=(putF q fr i (b.take k) aa).set (i*q+k-fr) x:=by
 refine ZBU λt=> ?_;rw[eEZ,List.getElem?_set,f6Z,eEZ]
 grind
theorem mCZ{q fr i k}{b aa:List UInt8}(h:¬(fr<=i*q+k/\i*q+k-fr<aa.length)):putF q fr i (b.take (k+1)) aa=putF q fr i (b.take k) aa:=by
 refine ZBU λt=> ?_;rw[eEZ,eEZ]
 grind
theorem peZ{q fr i:Nat}{b out}(hq:q<=65)(hi:i<=65536)(hf:fr<=65536)(hb:b.length<=65):
 sGat1 fuel (i:Int) b (q:Int) (fr:Int) out=some ((q:Int),((fr:Int),putF q fr i b out)):=by
 have hi2:=ZCQ hi hq;unfold sGat1;have loop:sGat1_l0_it fuel b (i:Int) (0,((q:Int),((fr:Int),out)))=some ((q:Int),((fr:Int),putF q fr i b out)):=by
  unfold sGat1_l0_it;have e0:((0:Int),((q:Int),((fr:Int),out)))=(λk:Nat=>((k:Int),((q:Int),((fr:Int),putF q fr i (b.take k) out)))) 0:=by simp only[List.take_zero,sEZ];rfl
  refine(congrArg (iter fuel _) e0).trans ?_;refine aoZ (λk:Nat=>((k:Int),((q:Int),((fr:Int),putF q fr i (b.take k) out)))) b.length (by omega) (λk hk=> ?_) ?_
  ·obtain⟨x,hx⟩:∃x,b[k]? =some x:=⟨_,ZAC hk⟩;show sGat1_l0 fuel b (i:Int) (k:Int) (q:Int) (fr:Int) (putF q fr i (b.take k) out)=_;unfold sGat1_l0;rw[dTo,ZAK,show(i:Int)*(q:Int)=((i*q:Nat):Int) by rw[ZBk],w64 (x:=((i*q:Nat):Int)) (by omega),w64 (x:=((i*q:Nat):Int)+(k:Int)) (by omega),w6,w6,f6Z];by_cases h:fr<=i*q+k
   ·rw[show((i*q:Nat):Int)+(k:Int)-(fr:Int)=((i*q+k-fr:Nat):Int) by omega,dTo,ZAK,ZAA];by_cases hl:i*q+k-fr<out.length
    ·rw[dTo];simp only[ZAK];rw[adZ hk,ZAA,hx,ZAA,f6Z,adZ hl,ZAA,joZ (UInt8.toNat_lt _),ZAA,ZAC (by rw[f6Z];exact hl),ZAA,ZAA,uOt,ugZ hx h]
     rfl
    ·rw[dFo,mCZ (λz=>hl z.2)]
     rfl
   ·rw[dFo,mCZ (λz=>h z.1)]
    rfl
  ·show sGat1_l0 fuel b (i:Int) (b.length:Int) (q:Int) (fr:Int) (putF q fr i (b.take b.length) out)=_;unfold sGat1_l0;rw[dFo,ZAD,ZAv]
 simp_all
def gathF(q fr a:Nat)(bs:List (List UInt8)):Nat->List UInt8->List UInt8
 |0,o=>o
 |j+1,o=>putF q fr (a+j) ((bs[j]?).getD []) (gathF q fr a bs j o)
def readF(q a aa:Nat)(c:CallT)(bs:List (List UInt8)):List UInt8:=
 gathF q (min c.2.2.2.2.2.2.2.1.toNat aa) a bs bs.length (List.replicate (min (aa-min c.2.2.2.2.2.2.2.1.toNat aa) c.2.2.2.2.2.2.2.2.1.toNat) 0)
theorem p3Z{q a aa:Nat}{c}{l}{bs}(hq:16<=q/\q<=65)(hr:rightCall c=true)(ab:c.2.2.1=uO 4)(hf:aa<=65536)(h:GivenOK q l bs)(ha:∀(j) nd,l[j]? =some nd->nd.1=((a+j:Nat):Int)):
 sGat fuel (q:Int) c (aa:Int) l bs=some (0,readF q a aa c bs):=by
 let⟨ho,hn,hb⟩:=a5Z hr
 unfold sGat Pg Ph;rw[m2Z hq h,axZ,hr,ZAA]
 let⟨h1,h2,h3,h4⟩:=h
 simp only[ZAO];rw[op4,ZAJ ab,ZAE (show¬(aa:Int)<0 by omega)];simp[ZAP];rw[show(if(aa:Int)<c.2.2.2.2.2.2.2.1 then(aa:Int) else c.2.2.2.2.2.2.2.1)=((min c.2.2.2.2.2.2.2.1.toNat aa:Nat):Int) by split<;>omega];unfold readF;have ac:min c.2.2.2.2.2.2.2.1.toNat aa<=aa:=Nat.min_le_right _ _;generalize min c.2.2.2.2.2.2.2.1.toNat aa=fr at*;rw[w6,show(if(aa:Int)-(fr:Int)<c.2.2.2.2.2.2.2.2.1 then(aa:Int)-(fr:Int) else c.2.2.2.2.2.2.2.2.1)=((min (aa-fr) c.2.2.2.2.2.2.2.2.1.toNat:Nat):Int) by split<;>omega];generalize hm:min (aa-fr) c.2.2.2.2.2.2.2.2.1.toNat=m;rw[aKZ (by rw[atZ];omega),ZAA,aKZ (ZAL _),ZAA,nTo];obtain⟨o,hO,ho⟩:∃o,sGat_l0_it fuel l bs (0,(List.replicate m 0,(([],0),((q:Int),(fr:Int)))))=some o/\o=gathF q fr a bs bs.length (List.replicate m 0):=by
  unfold sGat_l0_it;refine aAZ (λr st=>∃(k:Nat) (M:GM),st=((k:Int),(gathF q fr a bs k (List.replicate m 0),(M,((q:Int),(fr:Int)))))/\k+r=l.length/\∀j,a+k<=j->mget M (j:Int)=none) (λo=>o=gathF q fr a bs bs.length (List.replicate m 0)) (λr st hI=> ?_) (λst hI=> ?_) l.length _ (by omega) ⟨0,([],0),rfl,by omega,λj _=>rfl⟩
  ·obtain⟨k,M,rfl,hk,hM⟩:=hI;obtain⟨nd,hn⟩:∃nd,l[k]? =some nd:=⟨_,gEo⟩;obtain⟨b,hb⟩:∃b,bs[k]? =some b:=⟨_,gEo⟩;have hi:=ha k nd hn;have h4:=h4 nd (ZAI hn);have h3:=h3 b (ZAI hb);left;refine⟨(((k+1:Nat):Int),(gathF q fr a bs (k+1) (List.replicate m 0),(mput M ((a+k:Nat):Int) 1,((q:Int),(fr:Int))))),?_,k+1,_,rfl,by omega,λj hj=> ?_⟩
   ·show sGat_l0 fuel l bs (k:Int) (gathF q fr a bs k (List.replicate m 0)) M (q:Int) (fr:Int)=_;unfold sGat_l0;rw[dTo,ZAK,adZ (by omega),ZAA,hn,ZAA,hi,hM _ (ZAL _)];simp only[Option.getD_none,show((0:Int)==0)=true from rfl,ZAK];rw[adZ (by omega),ZAA,hb,ZAA,peZ hq.2 (by omega) (by omega) (by omega),ZAA,ZAA,w6];rw[show gathF q fr a bs (k+1) (List.replicate m 0)=putF q fr (a+k) b (gathF q fr a bs k (List.replicate m 0)) by
     conv=>lhs;unfold gathF
     rw[hb];rfl]
    rfl
   ·rw[dkZ (doZ .i64) _ _ _ (show(j:Int)≠((a+k:Nat):Int) by omega)];exact hM j (by omega)
  ·obtain⟨k,M,rfl,hk,hM⟩:=hI;have:k=l.length:=by omega
   subst this;refine⟨_,?_,rfl⟩;show sGat_l0 fuel l bs (l.length:Int) _ M (q:Int) (fr:Int)=_;unfold sGat_l0;rw[dFo,ZAD,h1]
 grind
abbrev kP:Ty:=.pair (.int .i64) (.int .i64)
abbrev BM:Type:=List ((Part×List UInt8)×Nat)×Nat
theorem hHZ:KeyEq kP:=ofZ (doZ .i64) (doZ .i64)
def blk(M:BM)(p:Part):List UInt8:=(mget (k:=kP) (v:=.sl .byte) M p).getD []
abbrev putM(M:BM)(p:Part)(b:List UInt8):BM:=mput (k:=kP) (v:=.sl .byte) M p b
theorem l9Z(M)(p)(b)(z):blk (putM M p b) z=if z=p then b else blk M z:=by
 unfold blk;by_cases h:z=p
 ·subst h;rw[kJZ hHZ,ZAN rfl];rfl
 simp_all[dkZ,hHZ]
abbrev stZ{β:Type}(s:GateT)(nx q:Int)(M:BM)(Z:β):Int×(List Ino×(Int×(Int×(List KeptT×(List PlaceT×(List Part×(Int×(Int×(BM×β))))))))):=(s.1,(s.2.1.1,(s.2.1.2,(s.2.2.1.1,(s.2.2.1.2,(s.2.2.2.1,(s.2.2.2.2,(nx,(q,(M,Z))))))))))
abbrev stD(s:GateT)(nx q:Int)(M:BM):Int×(List Ino×(Int×(Int×(List KeptT×(List PlaceT×(List Part×(Int×(Int×BM)))))))):=(s.1,(s.2.1.1,(s.2.1.2,(s.2.2.1.1,(s.2.2.1.2,(s.2.2.2.1,(s.2.2.2.2,(nx,(q,M)))))))))
abbrev z9{β:Type}(Z:β):Int×(Int×(Int×(Int×(Int×(Bool×(Int×(Bool×(Int×β)))))))):=(0,(0,(0,(0,(0,(false,(0,(false,(0,Z)))))))))
section
variable {s : GateT} {nx q : Int} {M : BM} {c : CallT}
theorem noZ{r:PlanT×Int}(h:r.1.2.2.1.length<=100000):law25_Store_Do__cm_l0_it fuel r (0,stZ s nx q M ([c],z9 ([r.1],[])))=some (stZ s nx q M ([c],z9 ([r.1],r.1.2.2.1.map λn=>blk M n.2.1))):=by
 refine aoZ (λk:Nat=>((k:Int),stZ s nx q M ([c],z9 ([r.1],(r.1.2.2.1.take k).map λn=>blk M n.2.1)))) r.1.2.2.1.length (by omega) (λk hk=> ?_) ?_
 ·obtain⟨nd,hn⟩:∃nd,r.1.2.2.1[k]? =some nd:=⟨_,ZAC hk⟩;show law25_Store_Do__cm_l0 fuel r (k:Int) s.1 s.2.1.1 s.2.1.2 s.2.2.1.1 s.2.2.1.2 s.2.2.2.1 s.2.2.2.2 nx q M [c] 0 0 0 0 0 false 0 false 0 [r.1] ((r.1.2.2.1.take k).map λn=>blk M n.2.1)=_;unfold law25_Store_Do__cm_l0;rw[dTo,adZ hk,ZAA,hn,ZAA,aeZ (by simp[atZ,ZAS];omega),w6,aWZ hn,ZCJ]
  rfl
 ·show law25_Store_Do__cm_l0 fuel r (r.1.2.2.1.length:Int) s.1 s.2.1.1 s.2.1.2 s.2.2.1.1 s.2.2.1.2 s.2.2.2.1 s.2.2.2.2 nx q M [c] 0 0 0 0 0 false 0 false 0 [r.1] _=_
  simp_all[law25_Store_Do__cm_l0,ZAv]
def sameN(r n:NeedT):Bool:=(r.1==n.1)&&(((r.2.1.1==n.2.1.1)&&(r.2.1.2==n.2.1.2))&&(r.2.2==n.2.2))
theorem jHZ(r n):sameN r n=true↔r=n:=by
 let⟨a,⟨b,d⟩,e⟩:=r
 let⟨a',⟨b',d'⟩,e'⟩:=n
 simp_all[sameN,ZA1]
def inB(l:List NeedT)(n:NeedT):Bool:=l.any λr=>sameN r n
theorem urZ(l)(n):inB l n=true↔n∈l:=by
 unfold inB;rw[List.any_eq_true];exact⟨λ⟨r,hr,e⟩=>(jHZ r n).1 e▸hr,λh=>⟨n,h,(jHZ n n).2 rfl⟩⟩
theorem sDZ{p:PlanT}(hp:p.2.2.1.length<=100000)(n){A}{V}{C:List CallT}{Q:List PlanT}:law25_Store_Do__cm_l1_it fuel p (false,(0,stZ s nx q M (C,z9 (Q,(A,(V,(n.1,(n.2.1.1,(n.2.1.2,n.2.2)))))))))=some (inB p.2.2.1 n,stZ s nx q M (C,z9 (Q,(A,(V,(n.1,(n.2.1.1,(n.2.1.2,n.2.2)))))))):=by
 refine aoZ (λk:Nat=>(inB (p.2.2.1.take k) n,((k:Int),stZ s nx q M (C,z9 (Q,(A,(V,(n.1,(n.2.1.1,(n.2.1.2,n.2.2)))))))))) p.2.2.1.length (by omega) (λk hk=> ?_) ?_
 ·obtain⟨nd,hn⟩:∃nd,p.2.2.1[k]? =some nd:=⟨_,ZAC hk⟩;show law25_Store_Do__cm_l1 fuel p (inB (p.2.2.1.take k) n) (k:Int) s.1 s.2.1.1 s.2.1.2 s.2.2.1.1 s.2.2.1.2 s.2.2.2.1 s.2.2.2.2 nx q M C 0 0 0 0 0 false 0 false 0 Q A V n.1 n.2.1.1 n.2.1.2 n.2.2=_;unfold law25_Store_Do__cm_l1;rw[dTo,adZ hk,ZAA,hn,w6];have e:inB (p.2.2.1.take (k+1)) n=(inB (p.2.2.1.take k) n||sameN nd n):=by unfold inB;rw[aWZ hn];simp
  simp[e];cases inB (p.2.2.1.take k) n<;>rfl
 ·show law25_Store_Do__cm_l1 fuel p _ (p.2.2.1.length:Int) s.1 s.2.1.1 s.2.1.2 s.2.2.1.1 s.2.2.1.2 s.2.2.2.1 s.2.2.2.2 nx q M C 0 0 0 0 0 false 0 false 0 Q A V n.1 n.2.1.1 n.2.1.2 n.2.2=_;unfold law25_Store_Do__cm_l1;rw[dFo,ZAD,ZAv]
def oldF(rd:List NeedT)(M:BM)(n:NeedT):List UInt8:=if inB rd n=true then blk M n.2.1 else[]
def versF(nx:Int)(k:Nat):List Int:=(List.range k).map λj:Nat=>nx+(j:Int)+1
theorem c9Z(nx)(k):(versF nx k).length=k:=by simp[versF]
theorem eqZ{nx}{k j}(h:j<k):(versF nx k)[j]? =some (nx+(j:Int)+1):=by
 simp_all[versF,List.getElem?_range]
theorem nWZ(nx)(k):versF nx (k+1)=versF nx k++[nx+(k:Int)+1]:=by simp_all[versF,List.range_succ]
theorem s6Z{r:PlanT×Int}(h1:r.1.2.2.1.length<=100000)(h2:r.1.2.2.2.length<=100000)(hn:0<=nx/\nx<=1099511627776)(hM:∀n∈r.1.2.2.2,inB r.1.2.2.1 n=true->(blk M n.2.1).length≠0/\(blk M n.2.1).length<=1000):
 law25_Store_Do__cm_l2_it fuel r (0,stZ s nx q M ([c],z9 ([r.1],([],[]))))=some (.inl (stZ s (nx+(r.1.2.2.2.length:Nat)) q M ([c],z9 ([r.1],(r.1.2.2.2.map (oldF r.1.2.2.1 M),versF nx r.1.2.2.2.length))))):=by
 unfold law25_Store_Do__cm_l2_it;have e0:((0:Int),stZ s nx q M ([c],z9 ([r.1],(([]:List (List UInt8)),([]:List Int)))))=(λk:Nat=>((k:Int),stZ s (nx+(k:Nat)) q M ([c],z9 ([r.1],((r.1.2.2.2.take k).map (oldF r.1.2.2.1 M),versF nx k))))) 0:=by simp[versF]
 refine(congrArg (iter fuel _) e0).trans ?_;refine aoZ (λk:Nat=>((k:Int),stZ s (nx+(k:Nat)) q M ([c],z9 ([r.1],((r.1.2.2.2.take k).map (oldF r.1.2.2.1 M),versF nx k))))) r.1.2.2.2.length (by omega) (λk hk=> ?_) ?_
 ·obtain⟨nd,hnd⟩:∃nd,r.1.2.2.2[k]? =some nd:=⟨_,ZAC hk⟩;have hm:=hM nd (ZAI hnd);have hlen:((r.1.2.2.2.take k).map (oldF r.1.2.2.1 M)).length=k:=by rw[ZAq,ZAS];omega
  have hv:=c9Z nx k;show law25_Store_Do__cm_l2 fuel r (k:Int) s.1 s.2.1.1 s.2.1.2 s.2.2.1.1 s.2.2.1.2 s.2.2.2.1 s.2.2.2.2 (nx+(k:Nat)) q M [c] 0 0 0 0 0 false 0 false 0 [r.1] ((r.1.2.2.2.take k).map (oldF r.1.2.2.1 M)) (versF nx k)=_;show _=some (Sum.inl (((k+1:Nat):Int),stZ s (nx+((k+1:Nat):Int)) q M ([c],z9 ([r.1],((r.1.2.2.2.take (k+1)).map (oldF r.1.2.2.1 M),versF nx (k+1))))));rw[nWZ,aWZ hnd,ZCJ,show nx+((k+1:Nat):Int)=nx+(k:Nat)+1 by omega];generalize (r.1.2.2.2.take k).map (oldF r.1.2.2.1 M)=A at*;generalize versF nx k=V at*;unfold law25_Store_Do__cm_l2 Pb Pc Pd Pe Pf Pg Ph Pi Pj Pk Pl Pm Pn Po Pp Pq Pr Ps Pt Pu Pv Pw Py Pz PV;rw[dTo,adZ hk,ZAA,hnd,ZAA];refine(congrArg (λo=>Option.bind o _) (sDZ (n:=nd) h1)).trans ?_;rw[ZAA];cases hb:inB r.1.2.2.1 nd
  ·simp[ZAA];rw[nTo,nTo,w6,w6]
   simp_all[oldF,ZCq,List.map_nil]
  ·have hm:=hm hb;simp only[ZAK];rw[(ZAW.2 (by
    show((blk M nd.2.1).length:Int)≠0;omega))]
   simp only[ZAD,ZAA];rw[nTo,nTo,w6,w6];unfold oldF;simp only[ZCq,List.map_nil,hb,ZCn]
   rfl
 ·show law25_Store_Do__cm_l2 fuel r (r.1.2.2.2.length:Int) s.1 s.2.1.1 s.2.1.2 s.2.2.1.1 s.2.2.1.2 s.2.2.2.1 s.2.2.2.2 _ q M [c] 0 0 0 0 0 false 0 false 0 [r.1] _ _=_;unfold law25_Store_Do__cm_l2 Pb Pc Pd Pe Pf Pg Ph Pi Pj Pk Pl Pm Pn Po Pp Pq Pr Ps Pt Pu Pv Pw Py Pz PV;rw[dFo,ZAD,ZAv]
def insM(l:List NeedT)(vs:List Int)(bs:List (List UInt8)):Nat->BM->BM
 |0,M=>M
 |k+1,M=>putM (insM l vs bs k M) (((l[k]?).getD (0,((0,0),0))).2.2,(vs[k]?).getD 0) ((bs[k]?).getD [])
theorem rMZ{p:PlanT}{vs}{bs}(h1:p.2.2.2.length<=100000)(h2:vs.length=p.2.2.2.length)(h3:bs.length=p.2.2.2.length):
 law25_Store_Do__cm_l3_it fuel p (0,stZ s nx q M ([c],z9 (vs,bs)))=some (stZ s nx q (insM p.2.2.2 vs bs p.2.2.2.length M) ([c],z9 vs)):=by
 refine aoZ (λk:Nat=>((k:Int),stZ s nx q (insM p.2.2.2 vs bs k M) ([c],z9 (vs,bs)))) p.2.2.2.length (by omega) (λk hk=> ?_) ?_
 ·obtain⟨nd,hn⟩:∃nd,p.2.2.2[k]? =some nd:=⟨_,ZAC hk⟩;obtain⟨v,hv⟩:∃v,vs[k]? =some v:=⟨_,gEo⟩;obtain⟨b,hb⟩:∃b,bs[k]? =some b:=⟨_,gEo⟩;show law25_Store_Do__cm_l3 fuel p (k:Int) s.1 s.2.1.1 s.2.1.2 s.2.2.1.1 s.2.2.1.2 s.2.2.2.1 s.2.2.2.2 nx q (insM p.2.2.2 vs bs k M) [c] 0 0 0 0 0 false 0 false 0 vs bs=_;unfold law25_Store_Do__cm_l3;rw[dTo,adZ hk,ZAA,hn,ZAA,adZ (by omega),ZAA,hv,ZAA,adZ (by omega),ZAA,hb,w6];show _=some (Sum.inl (((k+1:Nat):Int),stZ s nx q (insM p.2.2.2 vs bs (k+1) M) ([c],z9 (vs,bs))))
  conv=>rhs;unfold insM
  rw[hn,hv,hb]
  rfl
 show law25_Store_Do__cm_l3 fuel p (p.2.2.2.length:Int) s.1 s.2.1.1 s.2.1.2 s.2.2.1.1 s.2.2.1.2 s.2.2.2.1 s.2.2.2.2 nx q _ [c] 0 0 0 0 0 false 0 false 0 vs bs=_;simp_all[law25_Store_Do__cm_l3,ZAD]
end
structure SInv (s:GateT) (q:Nat) (nx:Int) (M:BM) (n:Int):Prop where
 ok:StOK s q
 xs:XInv n s.2.2.1.2
 i:0<=n/\n<=30
 w:s.2.1.2<=258*n
 x:0<=nx/\nx<=258*n
 b:∀p,(blk M p).length=0\/(blk M p).length=q
 z:blk M (0,0)=[]
 v:∀x∈s.2.1.1,∀p∈x.2.2.2.2.2.1,holeB p=true\/(p.2<=nx/\(blk M p).length=q)
def withB(r:ReplyT)(b:List UInt8):ReplyT:=(r.1,(r.2.1,(r.2.2.1,(r.2.2.2.1,(r.2.2.2.2.1,(r.2.2.2.2.2.1,(b,r.2.2.2.2.2.2.2)))))))
def blksF(M:BM)(l:List NeedT):List (List UInt8):=l.map λn=>blk M n.2.1
def tellF(s:GateT)(q:Nat)(M:BM)(c:CallT):ReplyT:=
 if c.2.2.1=uO 4/\(resF (bareM s.2.1) c).2.1=0 then withB (ansOf s c) (readF q (min (fileP s c).2.2.2.2.1.toNat c.2.2.2.2.2.2.2.1.toNat/q) (fileP s c).2.2.2.2.1.toNat c (blksF M (readsF (fileP s c) q c))) else ansOf s c
def needsF(s:GateT)(q:Nat)(c:CallT):List NeedT:=(planF s q c).1.2.2.2
def newM(s:GateT)(q:Nat)(nx:Int)(M:BM)(c:CallT):BM:=insM (needsF s q c) (versF nx (needsF s q c).length) (newsF q c (needsF s q c) ((needsF s q c).map (oldF (planF s q c).1.2.2.1 M))) (needsF s q c).length M
inductive Does (s:GateT) (q:Nat) (nx:Int) (M:BM) (c:CallT):ReplyT->GateT->Int->BM->Prop
 |bad:rightCall c=false->Does s q nx M c (failR c 179) s nx M
 |tell:rightCall c=true->asksB c.2.2.1=true->Does s q nx M c (tellF s q M c) s nx M
 |done {s'}:rightCall c=true->asksB c.2.2.1=false->Next s q c (versF nx (needsF s q c).length) s'->Does s q nx M c (ansOf s c) s' (nx+((needsF s q c).length:Nat)) (newM s q nx M c)
theorem s7Z{s}{q}{c}(hr:rightCall c=true)(ha:asksB c.2.2.1=false)(hl:(look s.2.2.1 c.1 c.2.1).2=0):(planF s q c).1.1=2:=by
 unfold planF
 grind
theorem jOZ(P)(wh)(a)(w):∀(k) (nd),nd∈(wRun P wh a k w).2.2↔∃j,j<k/\nd=(((a+j:Nat):Int),(pAt P (a+j),(pAt P (a+j)).1))/\holeB (pAt P (a+j))=false/\wh (a+j)=false
 |0,nd=>⟨λh=>(by cases h),λ⟨j,h,_⟩=>(by omega)⟩
 |k+1,nd=>by
  have ih:=jOZ P wh a w k nd;have up:∀{Q:Nat->Prop},(∃j,j<k+1/\Q j)↔(∃j,j<k/\Q j)\/Q k:=λ{Q}=>⟨λ⟨j,h,q⟩=>by
   by_cases e:j=k
   ·exact .inr (e▸q)
   ·exact .inl ⟨j,by omega,q⟩,λh=>h.elim (λ⟨j,h,q⟩=>⟨j,by omega,q⟩) λq=>⟨k,by omega,q⟩⟩
  show nd∈(wStep P wh (a+k) (wRun P wh a k w)).2.2↔_;unfold wStep
  grind
theorem toZ(P)(i):pAt P i=(0,0)\/pAt P i∈P:=by
 unfold pAt
 grind
section
variable {s : GateT} {q : Nat} {nx : Int} {M : BM} {n : Int} {c : CallT}
structure Needs (s:GateT) (q:Nat) (nx:Int) (M:BM) (c:CallT):Prop where
 len:(needsF s q c).length<=258
 rd:(planF s q c).1.2.2.1.length<=258
 op:(needsF s q c).length≠0->c.2.2.1=uO 5\/c.2.2.1=uO 6
 at_:∀nd∈needsF s q c,(0<=nd.1/\nd.1<=4096)/\nd.2.1.2<=nx
 old:∀nd∈needsF s q c,inB (planF s q c).1.2.2.1 nd=true->(blk M nd.2.1).length=q
theorem rZZ(h:SInv s q nx M n)(h2:(planF s q c).1.1=2):Needs s q nx M c:=by
 let⟨_,hr,_⟩:=bQZ h2
 have hq:=h.ok.q;by_cases hw:(resF (bareM s.2.1) c).2.1=0/\(c.2.2.1=uO 5\/c.2.2.1=uO 6)
 ·let⟨x,hx⟩:=qlZ (q:=q) hr hw.2 hw.1
  have aa:=ZAI hx.f.at_;have ad:=lUZ (x:=x) hq.1 (a5Z hr).2.2;have hf:=bxZ x.2.2.2.2.2.1 (wWhole q c) (wFirst q c) s.2.1.2 (wMany x q c);have e:needsF s q c=(wRun x.2.2.2.2.2.1 (wWhole q c) (wFirst q c) (wMany x q c) s.2.1.2).2.1:=by unfold needsF;rw[kAZ h2 hx];rfl
  have e2:(planF s q c).1.2.2.1=(wRun x.2.2.2.2.2.1 (wWhole q c) (wFirst q c) (wMany x q c) s.2.1.2).2.2:=by rw[kAZ h2 hx];rfl
  have ae:newN x q c<=4096:=by
   have r3:=(fAZ h.ok.t hx.r hx.hop hx.h0 hx.f).2.2;unfold newN;exact lMZ (by omega) (by omega)
  have ac:=h.x;refine⟨by simp_all,by grind,λ_=>hw.2,λnd ab=> ?_,λnd _ hi=> ?_⟩
  ·rw[e] at ab
   let⟨j,hj⟩:=ZAQ ab
   have af:=(ZAB.1 hj).1;rw[e9Z _ _ _ _ _ _ (by omega:j<wMany x q c)] at hj;obtain rfl:=ZAf hj;have:=hx.span hq.1 (by omega);refine⟨by simp;omega,?_⟩;show(pAt x.2.2.2.2.2.1 (wFirst q c+j)).2<=nx;rcases toZ x.2.2.2.2.2.1 (wFirst q c+j) with z|z
   ·rw[z];exact ac.1
   ·rcases h.v x aa _ z with u|u
    ·unfold holeB at u;simp[ZB2] at u;omega
    ·exact u.1
  ·rw[urZ,e2,jOZ] at hi;obtain⟨j,_,rfl,h1,_⟩:=hi;show(blk M (pAt x.2.2.2.2.2.1 (wFirst q c+j))).length=q;rcases toZ x.2.2.2.2.2.1 (wFirst q c+j) with z|z
   ·rw[z] at h1;cases h1
   ·rcases h.v x aa _ z with u|u
    ·rw[h1] at u;cases u
    ·exact u.2
 ·have e:=vuZ h2 hw;have en:needsF s q c=[]:=by unfold needsF;rw[e]
  refine⟨by rw[en];decide,by rw[e];decide,λz=>absurd (by rw[en];rfl) z,λnd h=> ?_,λnd h=> ?_⟩<;>(rw[en] at h;cases h)
theorem i0Z{l}{k}{bs}{p}(h:p.2<=nx):∀m,m<=k->blk (insM l (versF nx k) bs m M) p=blk M p
 |0,_=>rfl
 |m+1,hm=>by
  unfold insM;rw[eqZ (by omega),l9Z,ZAM,i0Z h m (by omega)];rintro rfl;simp at h;omega
theorem mUZ{l}{k}{bs}{j}{nd}(hn:l[j]? =some nd):∀m,j<m->m<=k->blk (insM l (versF nx k) bs m M) (nd.2.2,nx+(j:Int)+1)=(bs[j]?).getD []
 |m+1,hj,hm=>by
  unfold insM;rw[eqZ (by omega),l9Z];by_cases e:j=m
  ·simp_all
  ·rw[mUZ hn m (by omega) (by omega)]
   grind
theorem nwZ{l}{vs}{bs}(hb:∀b∈bs,b.length=q)(h:∀p,(blk M p).length=0\/(blk M p).length=q):∀m p,(blk (insM l vs bs m M) p).length=0\/(blk (insM l vs bs m M) p).length=q
 |0,p=>h p
 |m+1,p=>by
  unfold insM;rw[l9Z];split
  ·grind
  ·exact nwZ hb h m p
theorem ngZ{l}{aa}:∀b∈newsF q c l aa,b.length=q:=λb hb=>by
 let⟨j,hj⟩:=ZAQ hb
 unfold newsF at hj
 grind[ZAf,dIZ]
end
section
variable {s : GateT} {q : Nat} {nx : Int} {M : BM} {n : Int} {c : CallT}
noncomputable abbrev storeDo (s : GateT) (q : Nat) (nx ) (M : BM) (c : CallT) := law25_Store_Do__cm fuel c s.1 s.2.1.1 s.2.1.2 s.2.2.1.1 s.2.2.1.2 s.2.2.2.1 s.2.2.2.2 nx (q : Int) M
theorem v3Z(h:StOK s q)(hr:rightCall c=false):storeDo s q nx M c=some (flatR (failR c 179) (true,stD s nx q M)):=by
 unfold storeDo law25_Store_Do__cm Pa Pb Pc Pd Pe Pf Pg Ph Pi Pj Pk Pl Pm Pn Po Pp Pq Pr Ps Pt Pu PH PS PU;rw[(c7Z h c)];rw[show planF s q c=((0,(zR,([],[]))),179) by unfold planF;rw[hr];rfl]
 rfl
theorem oVZ(hr:rightCall c=true)(ha:asksB c.2.2.1=true):planF s q c=if c.2.2.1=uO 4/\(resF (bareM s.2.1) c).2.1=0 then((1,(noB (ansOf s c),(readsF (fileP s c) q c,[]))),0) else((1,(ansOf s c,([],[]))),0):=by
 unfold planF;rw[ZAN hr,ZAN ha];rfl
theorem vNZ(r):(noB r).2.2.1=r.2.2.1:=rfl
theorem qUZ{x}(hx:FileOf s c x):fileF (bareM s.2.1) c.2.2.2.1=(c.2.2.2.1.1,zeroI x,0):=by
 have aa:(bareM s.2.1).1.1[(c.2.2.2.1.1-1).toNat]? =some (bareI x):=by
  unfold bareM;simp only[ZAY,hx.at_];rfl
 have ab:(bareM s.2.1).2[(c.2.2.2.1.1-1).toNat]? =some (zeroI x):=by
  unfold bareM;simp only[ZAY,hx.at_];rfl
 unfold fileF;rw[cLZ.2 ((⟨hx.h1,aa,hx.used,hx.gen⟩))];simp only;rw[show(bareI x).2.2.2.1=false from hx.dir,ab];rfl
theorem rRZ{x}(hr:rightCall c=true)(h4:c.2.2.1=uO 4)(h0:(resF (bareM s.2.1) c).2.1=0)(hx:FileOf s c x):(resF (bareM s.2.1) c).2.2=((0,0),false,(((zeroI x).length:Nat):Int),readL (zeroI x) c.2.2.2.2.2.2.2.1 c.2.2.2.2.2.2.2.2.1,[],decide (c.2.2.2.2.2.2.2.1+c.2.2.2.2.2.2.2.2.1<(((zeroI x).length:Nat):Int)),0):=by
 unfold resF;rw[ZAN hr,ZAN (res0 hr h0),act4 h4];unfold readA;rw[qUZ hx,ZAN rfl]
theorem oUZ{R:ReplyT}{l:List NeedT}{b}(hp:sPla fuel s (q:Int) c=some ((1,(R,(l,[]))),0))(h4:c.2.2.1=uO 4)(h0:R.2.2.1=0)(hl:l.length<=100000)(hg:sGat fuel (q:Int) c R.2.2.2.2.2.1 l (blksF M l)=some (0,b)):
 storeDo s q nx M c=some (flatR (withB R b) (true,stD s nx q M)):=by
 unfold storeDo law25_Store_Do__cm Pa Pb Pc Pd Pe Pf Pg Ph Pi Pj Pk Pl Pm Pn Po Pp Pq Pr Ps Pt Pu PH PS PU;rw[(hp),ZAA];simp[ZAK];refine(congrArg (λo=>Option.bind o _) (noZ hl)).trans ?_;rw[ZAA];simp[ZAA];rw[op4,ZAJ h4]
 let⟨r0,r1,r2,r3⟩:=R
 simp at h0 hg;subst h0;simp only[ZAK,(rfl),ZAA,ZAP,ZBl];refine(congrArg (λo=>Option.bind o _) hg).trans ?_
 rfl
theorem pQZ{R:ReplyT}(hp:sPla fuel s (q:Int) c=some ((1,(R,([],[]))),0))(h4:c.2.2.1=uO 4->R.2.2.1≠0):storeDo s q nx M c=some (flatR R (true,stD s nx q M)):=by
 unfold storeDo law25_Store_Do__cm Pa Pb Pc Pd Pe Pf Pg Ph Pi Pj Pk Pl Pm Pn Po Pp Pq Pr Ps Pt Pu PH PS PU;rw[(hp),ZAA];simp[ZAK];refine(congrArg (λo=>Option.bind o _) (noZ (by simp))).trans ?_;rw[ZAA];simp[ZAA];rw[op4];by_cases e4:c.2.2.1=uO 4
 ·rw[ZAJ e4];simp[(ZAW.2 (h4 e4)),ZAA,ZAP,ZBl]
  rfl
 ·rw[ZAE e4];simp only[ZAD,ZAA,ZAP,ZBl]
  rfl
theorem u7Z(h:SInv s q nx M n)(hr:rightCall c=true)(ha:asksB c.2.2.1=true):storeDo s q nx M c=some (flatR (tellF s q M c) (true,stD s nx q M)):=by
 have hq:=h.ok.q;have hp:=c7Z h.ok c;rw[oVZ hr ha] at hp;unfold tellF;by_cases h4:c.2.2.1=uO 4/\(resF (bareM s.2.1) c).2.1=0
 ·rw[ZAN h4] at hp⊢
  let⟨x,hx⟩:=vlZ hr h4.1 h4.2
  have ah:=dZZ h.ok.t hx.at_;have hl:=h.ok.l _ _ hx.at_ hx.used hx.dir;have ad:(x.2.2.2.2.1.toNat+q-1)/q<=4096:=lMZ (by omega) (by have:4096*16<=4096*q:=ZB1 _ hq.1;omega);have ae:readsF (fileP s c) q c=readsF x q c:=by rw[hx.p]
  have aa:=lRZ (q:=q) (a:=min x.2.2.2.2.1.toNat (c.2.2.2.2.2.2.2.1.toNat+c.2.2.2.2.2.2.2.2.1.toNat)) (Nat.min_le_left _ _);have ab:∀(j) nd,(readsF x q c)[j]? =some nd->nd.1=((min x.2.2.2.2.1.toNat c.2.2.2.2.2.2.2.1.toNat/q+j:Nat):Int)/\nd.1<=4096:=λj nd hj=>by
   unfold readsF at hj;split at hj
   ·unfold readsL at hj;have ac:=(ZAB.1 hj).1;rw[ZAq,List.length_range] at ac;rw[ZAY,List.getElem?_range ac] at hj;obtain rfl:=ZAf hj;exact⟨rfl,by simp;omega⟩
   ·cases hj
  have ag:(readsF x q c).length<=4096:=by
   unfold readsF;split
   ·rw[hYZ];exact ZBB (Nat.sub_le _ _) (ZBB aa ad)
   ·exact ZBG _
  have hg:GivenOK q (readsF x q c) (blksF M (readsF x q c)):=⟨by unfold blksF;rw[ZAq],by omega,λb hb=>by
   obtain⟨nd,_,rfl⟩:=ZBf.1 hb;exact h.b _,λnd af=>by
   let⟨j,hj⟩:=ZAQ af
   have:=ab j nd hj;exact⟨by rw[this.1];exact Int.natCast_nonneg _,by omega⟩⟩
  have hf:(ansOf s c).2.2.2.2.2.1=((x.2.2.2.2.1.toNat:Nat):Int):=by
   show(resF (bareM s.2.1) c).2.2.2.2.1=_;rw[rRZ hr h4.1 h4.2 hx];show(((zeroI x).length:Nat):Int)=_;unfold zeroI;rw[ZBN]
  rw[ae] at hp⊢;refine(oUZ hp h4.1 ((vNZ _).trans h4.2) (by omega) ?_).trans rfl;rw[hx.p];refine Eq.trans ?_ (p3Z hq hr h4.1 (by omega) hg λj nd hj=>(ab j nd hj).1);rw[<-hf];rfl
 ·rw[ZAM h4] at hp⊢;exact pQZ hp λe z=>h4 ⟨e,z⟩
end
section
variable {s : GateT} {q : Nat} {nx : Int} {M : BM} {n : Int} {c : CallT}
theorem oCZ{p:PlanT}{s':GateT}{r}(hp:sPla fuel s (q:Int) c=some (p,0))(h2:p.1=2)(h1:p.2.2.1.length<=258)(hl:p.2.2.2.length<=258)(hn:0<=nx/\nx<=1099511627776)
 (hM:∀n∈p.2.2.2,inB p.2.2.1 n=true->(blk M n.2.1).length≠0/\(blk M n.2.1).length<=1000)
 (hb:p.2.2.2.length≠0->sBlo fuel (q:Int) c p.2.2.2 (p.2.2.2.map (oldF p.2.2.1 M))=some (0,newsF q c p.2.2.2 (p.2.2.2.map (oldF p.2.2.1 M))))
 (ha:sApp fuel s (q:Int) c (versF nx p.2.2.2.length) 0=some (s',flatR r (0:Int))):
 storeDo s q nx M c=some (flatR r (true,stD s' (nx+(p.2.2.2.length:Nat)) q (insM p.2.2.2 (versF nx p.2.2.2.length) (newsF q c p.2.2.2 (p.2.2.2.map (oldF p.2.2.1 M))) p.2.2.2.length M))):=by
 unfold storeDo law25_Store_Do__cm Pa Pb Pc Pd Pe Pf Pg Ph Pi Pj Pk Pl Pm Pn Po Pp Pq Pr Ps Pt Pu PH PS PU;rw[(hp),ZAA];simp only;rw[h2];simp only[(rfl),(rfl),(rfl),show((2:Int)==2)=true from rfl,ZAO,ZAD,ZAK];refine(congrArg (λo=>Option.bind o _) (s6Z (by grind) (by grind) hn hM)).trans ?_;rw[ZAA];simp only[ZAP,ZAA];have ab:(p.2.2.2.map (oldF p.2.2.1 M)).length=p.2.2.2.length:=ZAq ..;have aa:(newsF q c p.2.2.2 (p.2.2.2.map (oldF p.2.2.1 M))).length=p.2.2.2.length:=by unfold newsF;rw[List.length_zipWith,ab];omega
 have ac:=c9Z nx p.2.2.2.length;by_cases h0:p.2.2.2.length=0
 ·have ad:=ZCK.1 h0;rw[dFo];simp only[ZAD,ZAA,ZAP];refine(congrArg (λo=>Option.bind o _) ((ha))).trans ?_;rw[ZAA];simp only[ZAP,ZAA,ZBl];rw[show insM p.2.2.2 (versF nx p.2.2.2.length) (newsF q c p.2.2.2 (p.2.2.2.map (oldF p.2.2.1 M))) p.2.2.2.length M=M by rw[h0];rfl]
  rfl
 ·rw[dTo];simp only[ZAK];rw[hb h0,ZAA];simp only[show((0:Int)==0)=true from rfl,ZAO,ZAD,ZAA];rw[aa,ZAb];simp only[ZAO,ZAD,ZAA,ZAP];refine(congrArg (λo=>Option.bind (Option.bind o _) _) (rMZ (by omega) ac aa)).trans ?_;rw[ZAA,ZAA];simp only[ZAP,ZAA];refine(congrArg (λo=>Option.bind o _) ((ha))).trans ?_;rw[ZAA];simp only[ZAP,ZAA,ZBl]
  rfl
theorem ttZ(h:SInv s q nx M n)(hr:rightCall c=true)(ha:asksB c.2.2.1=false)(hn:n<c.2.1):Ask s q c (versF nx (needsF s q c).length)/\Needs s q nx M c:=by
 have h2:=s7Z (q:=q) hr ha (by rw[sgZ h.ok.c h.xs hn]);have N:=rZZ h h2;have h0:=h.x;have hi:=h.i;refine⟨⟨h.ok,h2,h.xs.mono (by omega),tLZ h2 (c9Z _ _) (by rw[c9Z];have:=N.len;omega) λj nd v hj hv=> ?_⟩,N⟩;have aa:j<(needsF s q c).length:=(ZAB.1 hj).1;rw[eqZ aa] at hv;obtain rfl:=ZAf hv;have:=(N.at_ nd (ZAI hj)).2;have:=N.len;omega
theorem uyZ(h:SInv s q nx M n)(hr:rightCall c=true)(ha:asksB c.2.2.1=false)(hn:n<c.2.1):
 ∃s',storeDo s q nx M c=some (flatR (ansOf s c) (true,stD s' (nx+((needsF s q c).length:Nat)) q (newM s q nx M c)))/\Next s q c (versF nx (needsF s q c).length) s':=by
 let⟨A,N⟩:=ttZ h hr ha hn
 have hq:=h.ok.q;have h0:=h.x;have hi:=h.i;have hw:=h.w;obtain⟨s',e1,e2⟩:=mPZ A (by omega) (c9Z _ _) λv hv=>by
  obtain⟨j,hj,rfl⟩:=ZBf.1 hv;have:=ZCO.1 hj;have:=N.len;omega
 have hp:=c7Z h.ok c;rw[show planF s q c=((planF s q c).1,0) from Prod.ext rfl (bQZ A.two).1] at hp;refine⟨s',oCZ hp A.two N.rd N.len (by omega) (λnd hnd hin=> ?_) (λhne=> ?_) e1,e2⟩
 ·have:=N.old nd hnd hin;omega
 ·refine rrZ hq hr (N.op hne) ⟨ZAq ..,ZBB N.len (by decide),λb hb=> ?_,λnd hnd=> ?_⟩
  ·obtain⟨nd,_,rfl⟩:=ZBf.1 hb;unfold oldF;split
   ·exact h.b _
   ·exact .inl rfl
  ·have:=(N.at_ nd hnd).1;omega
theorem hAZ{l0 l1}{i}{p}(h:p∈mergeP l0 l1 i):∃x∈l0,p∈x.2.2.2.2.2.1:=by
 grind[mergeP,ZAI]
theorem o0Z{vs}(A:Ask s q c vs)(hv:vs.length=(needsF s q c).length){x}(hx:x∈nextL s q c vs){p}(hp:p∈x.2.2.2.2.2.1):
 holeB p=true\/(∃y∈s.2.1.1,p∈y.2.2.2.2.2.1)\/∃(j:Nat) (nd:NeedT) (v:Int),(needsF s q c)[j]? =some nd/\vs[j]? =some v/\p=(nd.2.2,v):=by
 obtain⟨_,hr,_⟩:=bQZ A.two;obtain⟨i,hi⟩:=ZAQ hx;unfold nextL at hi;split at hi
 ·rename_i h0;split at hi
  ·rename_i aa;obtain⟨y,hy⟩:=qlZ hr aa h0;rw[hy.f.p] at hi;unfold lW at hi;by_cases e:atC c=i
   ·subst e;rw[ZAT (by rw[cjZ];exact(ZAB.1 (h2Z hy)).1)] at hi;obtain rfl:=ZAf hi;have hp:=hp;have hP:=(jyZ A.ok.t y (ZAI hy.f.at_)).2;have ab:=A.ok.t.r.str;have W:=lsZ (wh:=wWhole q c) (n:=wMany y q c) (N:=newN y q c) (w:=s.2.1.2) (W:=s.2.1.2) (vs:=vs) (hy.span A.ok.q.1) hP (ZB0 _) ab.1 (wMany y q c) (ZAL _);have en:needsF s q c=(wRun y.2.2.2.2.2.1 (wWhole q c) (wFirst q c) (wMany y q c) s.2.1.2).2.1:=by unfold needsF;rw[kAZ A.two hy];rfl
    have hf:=(bxZ y.2.2.2.2.2.1 (wWhole q c) (wFirst q c) s.2.1.2 (wMany y q c)).1;rcases W.ok p hp with z|⟨j,j1,j2,_⟩
    ·rcases ZAg.1 z with u|u
     ·exact .inr (.inl ⟨y,ZAI hy.f.at_,ZCF u⟩)
     ·rw[(List.mem_replicate.1 u).2];exact .inl rfl
    ·have hj:j<vs.length:=by rw[hv,en,hf];exact j1
     refine .inr (.inr ⟨j,_,vs[j],by rw[en];exact e9Z _ _ _ _ _ _ j1,ZAC hj,?_⟩);rw[j2,ZAC hj];rfl
   ·rw[ZAa e] at hi;obtain⟨z,_,rfl⟩:=bhZ hi;exact .inr (.inl (hAZ hp))
  ·obtain⟨z,_,rfl⟩:=bhZ hi;exact .inr (.inl (hAZ hp))
 grind
theorem SInv.next(h:SInv s q nx M n)(hr:rightCall c=true)(ha:asksB c.2.2.1=false)(hn:n<c.2.1/\c.2.1<=30){s'}(N:Next s q c (versF nx (needsF s q c).length) s'):
 SInv s' q (nx+((needsF s q c).length:Nat)) (newM s q nx M c) c.2.1:=by
 let⟨A,D⟩:=ttZ h hr ha hn.1
 have h0:=h.x;have hw:=h.w;have nw:=N.w;have dl:=D.len;refine⟨N.ok,N.xs,by omega,by omega,by omega,nwZ ngZ h.b _,?_,λx hx p hp=> ?_⟩
 ·unfold newM;rw[i0Z h0.1 _ (ZAL _)];exact h.z
 ·rw[N.tree] at hx;rcases o0Z A (c9Z _ _) hx hp with z|⟨y,hy,ab⟩|⟨j,nd,v,j1,j2,rfl⟩
  ·simp_all
  ·refine(h.v y hy p ab).imp id λu=>⟨by omega,?_⟩
   simp_all[newM,i0Z]
  ·have aa:=(ZAB.1 j1).1;rw[eqZ aa] at j2;obtain rfl:=ZAf j2;refine .inr ⟨by simp;omega,?_⟩;unfold newM;rw[mUZ j1 _ aa (ZAL _)];have ac:(newsF q c (needsF s q c) ((needsF s q c).map (oldF (planF s q c).1.2.2.1 M))).length=(needsF s q c).length:=by unfold newsF;rw[List.length_zipWith,ZAq];omega
   rw[gEo];exact ngZ _ (ZBK _)
theorem SInv.mono(h:SInv s q nx M n){m}(hm:n<=m/\m<=30):SInv s q nx M m:=by
 have h2:=h.w;have h3:=h.x;exact⟨h.ok,h.xs.mono hm.1,by omega,by omega,by omega,h.b,h.z,h.v⟩
theorem p2Z(h:SInv s q nx M n)(hn:n<c.2.1/\c.2.1<=30):∃r s' aa M',storeDo s q nx M c=some (flatR r (true,stD s' aa q M'))/\Does s q nx M c r s' aa M'/\SInv s' q aa M' c.2.1:=by
 cases hr:rightCall c
 ·exact⟨_,_,_,_,v3Z h.ok hr,.bad hr,h.mono ⟨by omega,hn.2⟩⟩
 ·cases ha:asksB c.2.2.1
  ·let⟨s',e1,e2⟩:=uyZ h hr ha hn.1
   exact⟨_,_,_,_,e1,.done hr ha e2,h.next hr ha hn e2⟩
  ·exact⟨_,_,_,_,u7Z h hr ha,.tell hr ha,h.mono ⟨by omega,hn.2⟩⟩
end
theorem tjZ(t:Tree):∃b,kit_Great fuel t=some b/\(b=false->t.1.length<=40/\∀n∈t.1,n.2.2.2.2.2.1.length<=120/\n.2.2.2.2.2.2.2.length<=120):=by
 unfold kit_Great;by_cases h0:t.1.length>40
 ·rw[show decide (((t.1.length:Nat):Int)>40)=true from by simp;omega];exact⟨true,rfl,by simp⟩
 rw[show decide (((t.1.length:Nat):Int)>40)=false from by simp;omega];have loop:∃o,kit_Great_l1_it fuel t (0,(t.1,t.2))=some o/\((o= .inl ()/\∀n∈t.1,n.2.2.2.2.2.1.length<=120/\n.2.2.2.2.2.2.2.length<=120)\/o= .inr true):=by
  unfold kit_Great_l1_it;refine aAZ (λm s=>∃(k:Nat),s=((k:Int),(t.1,t.2))/\k+m=t.1.length/\∀(i) n,i<k->t.1[i]? =some n->n.2.2.2.2.2.1.length<=120/\n.2.2.2.2.2.2.2.length<=120) _ (λm s hI=> ?_) (λs hI=> ?_) t.1.length _ (by omega) ⟨0,rfl,by omega,λi n h=>absurd h (ZBc _)⟩
  ·obtain⟨k,rfl,hk,g1⟩:=hI;have aa:k<t.1.length:=by omega
   obtain⟨n,hg⟩:∃n,t.1[k]? =some n:=⟨_,ZAC aa⟩;unfold kit_Great_l1;simp only[aFZ aa];rw[adZ aa];simp only[ZAA,hg];by_cases h1:n.2.2.2.2.2.1.length>120
   ·rw[show decide (((n.2.2.2.2.2.1.length:Nat):Int)>120)=true from by simp;omega];exact .inr ⟨_,rfl,.inr rfl⟩
   rw[show decide (((n.2.2.2.2.2.1.length:Nat):Int)>120)=false from by simp;omega,ZAD,ZAA];by_cases h2:n.2.2.2.2.2.2.2.length>120
   ·rw[show decide (((n.2.2.2.2.2.2.2.length:Nat):Int)>120)=true from by simp;omega];exact .inr ⟨_,rfl,.inr rfl⟩
   rw[show decide (((n.2.2.2.2.2.2.2.length:Nat):Int)>120)=false from by simp;omega];simp only;rw[adZ aa];simp only[ZAA,hg];have ab:∃o,kit_Great_l0_it fuel n (k:Int) (0,(t.1,t.2))=some o/\(o= .inl (t.1,t.2)\/o= .inr (.inr (.inr true))):=by
    unfold kit_Great_l0_it;refine aAZ (λm s=>∃(j:Nat),s=((j:Int),(t.1,t.2))/\j+m=n.2.2.2.2.2.2.2.length) _ (λm s hI=> ?_) (λs hI=> ?_) n.2.2.2.2.2.2.2.length _ (by omega) ⟨0,rfl,by omega⟩
    ·obtain⟨j,rfl,hj⟩:=hI;have ac:j<n.2.2.2.2.2.2.2.length:=by omega
     obtain⟨e,he⟩:∃e,n.2.2.2.2.2.2.2[j]? =some e:=⟨_,ZAC ac⟩;unfold kit_Great_l0;simp only[aFZ ac,ZAK];rw[adZ aa];simp only[ZAA,hg];rw[adZ ac];simp only[ZAA,he];by_cases h3:e.1.length>3000
     ·rw[show decide (((e.1.length:Nat):Int)>3000)=true from by simp;omega];exact .inr ⟨_,rfl,.inr rfl⟩
     ·rw[show decide (((e.1.length:Nat):Int)>3000)=false from by simp;omega,w6];exact .inl ⟨_,rfl,j+1,by simp,by omega⟩
    ·obtain⟨j,rfl,hj⟩:=hI;have:=by omega
     subst this;unfold kit_Great_l0;simp only[aBZ (ZAy _),ZAD];exact⟨_,rfl,.inl rfl⟩
   let⟨o,ho,hq⟩:=ab
   rw[ho,ZAA];rcases hq with rfl|rfl
   ·rw[w6];refine .inl ⟨_,rfl,k+1,by simp,by omega,λi n' hi ad=> ?_⟩;by_cases ae:i=k
    ·subst ae;rw[hg] at ad;cases ad;omega
    ·exact g1 i n' (by omega) ad
   ·exact .inr ⟨_,rfl,.inr rfl⟩
  ·obtain⟨k,rfl,hk,g1⟩:=hI;have:k=t.1.length:=by omega
   subst this;unfold kit_Great_l1;simp only[aBZ (ZAy _),ZAD];refine⟨_,rfl,.inl ⟨rfl,λn hn=> ?_⟩⟩
   let⟨i,hi⟩:=ZAQ hn
   exact g1 i n (ZAB.1 hi).1 hi
 let⟨o,ho,hq⟩:=loop
 rw[ho,ZAA];rcases hq with⟨rfl,hq⟩|rfl<;>grind
theorem rqZ(c:CallT):law21_Huge fuel c (0,(0,(0,((0,0),(false,(0,([],([],(false,0)))))))))=some true\/law21_Huge fuel c (0,(0,(0,((0,0),(false,(0,([],([],(false,0)))))))))=some false:=by
 unfold law21_Huge Pa Pb Pc Pd Pf Pg PC PH;have it:∀o,o.2.2.2.2.2.2.2.2.2.1=[]->∀s,law21_Huge_l0_it fuel o (0,s)=some (.inl ()):=by
  intro o ho s;refine iyZ ?_;unfold law21_Huge_l0;rw[ho]
  rfl
 grind
theorem ubZ{m}(h:ModelOK m):∃b,law22_Great fuel m=some b:=by
 unfold law22_Great
 let⟨b,hb,_⟩:=tjZ m.1
 rw[hb];cases b with
 |true=>simp_all
 |false=>
  simp only[ZAA];by_cases ab:((m.2.length:Nat):Int)>60
  ·simp_all
  ·rw[ZAE ab];simp only[ZAD];have loop:∃o,law22_Great_l0_it fuel (false,(m.1.1,(m.1.2,m.2))) (0,(0,(m.1.1,(m.1.2,m.2))))=some o/\True:=by
    unfold law22_Great_l0_it;refine aAZ (λr s=>∃(k:Nat) (n:Int),s=(n,((k:Int),(m.1.1,(m.1.2,m.2))))/\k+r=m.2.length/\0<=n/\n<=65536*k) _ (λr s hI=> ?_) (λs hI=> ?_) m.2.length _ (by have:=h.n;omega) ⟨0,0,rfl,by omega,by omega,by omega⟩
    ·obtain⟨k,n,rfl,hk,h0,h1⟩:=hI;have aa:k<m.2.length:=by omega
     obtain⟨b,hb⟩:∃b,m.2[k]? =some b:=⟨_,ZAC aa⟩;have:=h.byt hb;unfold law22_Great_l0;simp only[aFZ aa];rw[adZ aa,ZAA,hb,ZAA,w6,w6];exact .inl ⟨_,rfl,k+1,_,rfl,by omega,by omega,by omega⟩
    ·obtain⟨k,n,rfl,hk,h0,h1⟩:=hI;have:k=m.2.length:=by omega
     subst this;unfold law22_Great_l0;simp only[aBZ (ZAy _)];exact⟨_,rfl,trivial⟩
   grind
abbrev RepT:=Int×(Int×(Int×((Int×Int)×(Bool×(Int×(Byt×(List Ent×(Bool×Int))))))))
theorem hoZ(r:RepT)(h:r.2.2.2.2.2.2.2.1.length<=100000):law21_SameReply fuel r r=some true:=by
 unfold law21_SameReply lSamByt Pb Pc Pd Pe Pf Pg Ph PH
 simp_all[dgZ]
def M0:Mod:=(([(1,1,true,true,0,[],1,[])],0),[[]])
theorem vSZ:ModelOK M0:=by
 refine⟨tCZ,rfl,λi x hx=> ?_,λi x b hx hb=> ?_⟩
 ·cases i with
  |zero=>simp[M0] at hx;subst hx;rfl
  |succ i=>simp[M0] at hx
 grind[M0]
theorem vJZ:model_New fuel=some (M0.1.2,(M0.1.1,M0.2)):=by kernel_rfl
def cA:CallT:=(0,(1,(uO 2,((1,1),([102],((0,0),([],(0,(0,[])))))))))
def MA:Mod:=(([(1,1,true,true,0,[],1,[([102],2)]),(2,1,true,false,0,[],1,[])],0),[[],[]])
def cB:CallT:=(0,(1,(uO 5,((2,1),([],((0,0),([],(2,(0,[uO 97,uO 98,uO 99])))))))))
def MB:Mod:=(([(1,1,true,true,0,[],1,[([102],2)]),(2,1,true,false,5,[],1,[])],0),[[],[0,0,97,98,99]])
def cC:CallT:=(0,(1,(uO 4,((2,1),([],((0,0),([],(0,(9,[])))))))))
def cD:CallT:=(0,(1,(uO 6,((2,1),([],((0,0),([],(0,(3,[])))))))))
def MD:Mod:=(([(1,1,true,true,0,[],1,[([102],2)]),(2,1,true,false,3,[],1,[])],0),[[],[0,0,97]])
def cE:CallT:=(0,(1,(uO 6,((2,1),([],((0,0),([],(0,(5,[])))))))))
def ME:Mod:=(([(1,1,true,true,0,[],1,[([102],2)]),(2,1,true,false,5,[],1,[])],0),[[],[0,0,97,0,0]])
def cG:CallT:=(0,(1,(uO 12,((0,0),([],((0,0),([],(0,(0,[])))))))))
theorem x1:resF M0 cA=(MA,0,((2,1),false,0,[],[],false,0)):=by kernel_rfl
theorem x2:resF MA cB=(MB,0,((2,1),false,5,[],[],false,0)):=by kernel_rfl
theorem x3:resF MB cC=(MB,0,((0,0),false,5,[0,0,97,98,99],[],false,0)):=by kernel_rfl
theorem x4:resF MB cD=(MD,0,((2,1),false,3,[],[],false,0)):=by kernel_rfl
theorem x5:resF MD cE=(ME,0,((2,1),false,5,[],[],false,0)):=by kernel_rfl
theorem x6:resF ME cC=(ME,0,((0,0),false,5,[0,0,97,0,0],[],false,0)):=by kernel_rfl
theorem x7:resF ME cG=(ME,0,((0,0),false,0,[],[],false,498)):=by kernel_rfl
def g0(k:Int):GateT:=(0,(M0.1,((k,[]),(pl3,[]))))
theorem upZ{k}{q}(hk:1<=k/\k<=100)(hq:16<=q/\q<=65):StOK (g0 k) q:=by
 refine⟨by simp[g0],tCZ,?_,rfl,λi x hx hu hd=> ?_,hq,List.Pairwise.nil,λp hp=>(by cases hp),by simp[g0]⟩
 ·unfold rightC;rw[ZAJ (show 1<=(g0 k).2.2.1.1/\(g0 k).2.2.1.1<=100 from hk)];rfl
 grind[g0,M0]
theorem rpZ(k)(hk:1<=k/\k<=100):state_New fuel k pl3=some (0,(M0.1.1,(0,(k,([],(pl3,([],0))))))):=by
 unfold state_New rNew;rw[dFo,ZAD,dFo,ZAA,ZAD,ZAA];refine(congrArg (λo=>Option.bind o _) (((upZ (q:=16) hk (by omega)).own))).trans ?_
 rfl
def cr1:CallT:=(0,(1,(uO 2,((1,1),([102],((0,0),([],(0,(0,[])))))))))
def wr1(x:Int)(off n:Nat):CallT:=(0,(x,(uO 5,((2,1),([],((0,0),([],((off:Int),(0,List.replicate n 0)))))))))
def sz1(n:Int):CallT:=(0,(3,(uO 6,((2,1),([],((0,0),([],(0,(n,[])))))))))
def rd1:CallT:=(0,(3,(uO 4,((2,1),([],((0,0),([],(15,(30,[])))))))))
def fI(n:Int)(P:List Part):List Ino:=[(1,1,true,true,0,[],1,[([102],2)]),(2,1,true,false,n,P,1,[])]
def gS1:GateT:=(0,((fI 0 [],0),((3,[(0,(0,[(0,(1,(0,((2,1),(false,(0,([],([],(false,0)))))))))]))]),(pl3,[]))))
def gS2:GateT:=(0,((fI 20 [(1,5),(2,5)],2),((3,[(0,(0,[(0,(1,(0,((2,1),(false,(0,([],([],(false,0))))))))),(0,(2,(0,((2,1),(false,(20,([],([],(false,0)))))))))]))]),(pl3,[]))))
theorem lcZ{s:GateT}{c:CallT}{vs:List Int}{l:List Ino}{w win:Int}{ks:List KeptT}(h:StOK s 16)(x:XInv c.2.1 s.2.2.1.2)(h2:(planF s 16 c).1.1=2)(hf:sfit fuel (planF s 16 c).1 vs 0=some true)(hv:vs.length=(planF s 16 c).1.2.2.2.length)(aa:∀v∈vs,1<=v/\v<=1099511627776)
 (hw:s.2.1.2<=65000)(e1:nextL s 16 c vs=l)(e2:nextW s 16 c vs=w)(e3:(s.2.2.1.1,putKL s.2.2.1.1 s.2.2.1.2 (ansOf s c))=(win,ks)):
 ∃dead:List Part,sApp fuel s ((16:Nat):Int) c vs 0=some ((s.1,((l,w),((win,ks),(pl3,dead)))),flatR (ansOf s c) (0:Int))/\dead.Perm (s.2.2.2.2++(nextG s 16 c).filter λp=> !holeB p)/\Next s 16 c vs (s.1,((l,w),((win,ks),(pl3,dead)))):=by
 obtain⟨s',a,N⟩:=mPZ ⟨h,h2,x,hf⟩ hw hv aa;have e:s'=(s.1,((l,w),((win,ks),(pl3,s'.2.2.2.2)))):=by
  rw[<-e1,<-e2,<-e3,<-N.tree,<-N.ww,<-N.ca,<-N.life,<-N.ok.pl]
 rw[e] at a N;exact⟨_,a,N.dd,N⟩
theorem udZ:law25_awake fuel=some true:=by
 have x0:XInv cr1.2.1 (g0 3).2.2.1.2:=λk hk=>(by cases hk);obtain⟨d1,a1,p1,N1⟩:=lcZ (c:=cr1) (vs:=[]) (l:=fI 0 []) (w:=0) (win:=3) (ks:=gS1.2.2.1.2) (upZ (k:=3) (by omega) (by omega)) x0 (by show _=_;kernel_rfl) (by show _=_;kernel_rfl) (by show _=_;kernel_rfl) (λv hv=>(by cases hv)) (by decide) (by show _=_;kernel_rfl) (by show _=_;kernel_rfl) (by show _=_;kernel_rfl);rw[show(g0 3).2.2.2.2++(nextG (g0 3) 16 cr1).filter (λp=> !holeB p)=[] from by show _=_;kernel_rfl] at p1;obtain rfl:=p1.eq_nil;have N1:Next (g0 3) 16 cr1 [] gS1:=N1;obtain⟨d2,a2,p2,N2⟩:=lcZ (s:=gS1) (c:=wr1 2 0 20) (vs:=[5,5]) (l:=fI 20 [(1,5),(2,5)]) (w:=2) (win:=3) (ks:=gS2.2.2.1.2) N1.ok (N1.xs.mono (by decide)) (by show _=_;kernel_rfl) (by show _=_;kernel_rfl) (by show _=_;kernel_rfl) (λv hv=>(by simp at hv;omega)) (by decide) (by show _=_;kernel_rfl) (by show _=_;kernel_rfl) (by show _=_;kernel_rfl);rw[show gS1.2.2.2.2++(nextG gS1 16 (wr1 2 0 20)).filter (λp=> !holeB p)=[] from by show _=_;kernel_rfl] at p2;obtain rfl:=p2.eq_nil;have N2:Next gS1 16 (wr1 2 0 20) [5,5] gS2:=N2;obtain⟨d3,a3,p3,N3⟩:=lcZ (s:=gS2) (c:=sz1 16) (vs:=[]) (l:=fI 16 [(1,5)]) (w:=2) (win:=3) (ks:=(putKL 3 gS2.2.2.1.2 (ansOf gS2 (sz1 16)))) N2.ok (N2.xs.mono (by decide)) (by show _=_;kernel_rfl) (by show _=_;kernel_rfl) (by show _=_;kernel_rfl) (λv hv=>(by cases hv)) (by decide) (by show _=_;kernel_rfl) (by show _=_;kernel_rfl) rfl;rw[show gS2.2.2.2.2++(nextG gS2 16 (sz1 16)).filter (λp=> !holeB p)=[(2,5)] from by show _=_;kernel_rfl] at p3;obtain rfl:=p3.eq_singleton;have pl:=λc=>c7Z N2.ok c;unfold law25_awake Pa Pb Pc Pd Pe Pf Pg Ph Pi Pj Pk PB PC PF PK;rw[show law25_three fuel=some pl3 from rfl,ZAA,rpZ 3 (by omega),ZAA];simp only;refine(congrArg (λo=>Option.bind o _) (show sApp fuel _ 16 _ [] 0=_ from a1)).trans ?_;rw[ZAA];simp only;refine(congrArg (λo=>Option.bind o _) (show sApp fuel _ 16 _ [5,5] 0=_ from a2)).trans ?_;rw[ZAA];simp only
 refine(congrArg (λo=>Option.bind o _) (show sPla fuel _ 16 _=_ from pl rd1)).trans ?_;rw[ZAA];refine(congrArg (λo=>Option.bind o _) (show sPla fuel _ 16 _=_ from pl (wr1 3 15 2))).trans ?_;rw[ZAA];refine(congrArg (λo=>Option.bind o _) (show sPla fuel _ 16 _=_ from pl (wr1 3 16 16))).trans ?_;rw[ZAA];refine(congrArg (λo=>Option.bind o _) (show sPla fuel _ 16 _=_ from pl (wr1 3 50 1))).trans ?_;rw[ZAA];refine(congrArg (λo=>Option.bind o _) (show _=some (false,[gS2],(0:Int),(1:Int),(0:Int),(2:Int),(1:Int),false,(0:Int),([]:List UInt8),([]:List EntT),false,(0:Int)) from by kernel_rfl)).trans ?_;rw[ZAA];simp only[ZAD,ZAP,ZAA];refine(congrArg (λo=>Option.bind o _) (show sPla fuel _ 16 _=_ from pl (sz1 18))).trans ?_;rw[ZAA];refine(congrArg (λo=>Option.bind o _) (show sPla fuel _ 16 _=_ from pl (sz1 16))).trans ?_;rw[ZAA];refine(congrArg (λo=>Option.bind o _) (show sApp fuel _ 16 _ [] 0=_ from a3)).trans ?_;rw[ZAA];show _=_
 kernel_rfl
theorem pcZ(s)(q)(c):(planF s q c).2=0\/(planF s q c).2=179:=by
 unfold planF
 (repeat' split)<;>simp
theorem vrZ{s}{q}{c}{r}(hr:rightCall c=true)(ha:asksB c.2.2.1=false)(hl:look s.2.2.1 c.1 c.2.1=(r,1)):planF s q c=((3,(r,([],[]))),0):=by
 unfold planF;rw[ZAN hr,ha,ZAM (by decide),hl,ZAN rfl]
theorem siZ{s:GateT}{q:Nat}{nx:Int}{M:BM}{c:CallT}(h:SInv s q nx M c.2.1)(m:Mod)(r w:ReplyT):law25_StateFails_1__cm fuel m c r w s.1 s.2.1.1 s.2.1.2 s.2.2.1.1 s.2.2.1.2 s.2.2.2.1 s.2.2.2.2 nx (q:Int) M=some (true,stD s nx q M):=by
 obtain⟨d,hd⟩:∃d:CallT,d=(9,c.2):=⟨_,rfl⟩;have hx:XInv d.2.1 s.2.2.1.2:=by rw[hd];exact h.xs
 unfold law25_StateFails_1__cm Pa Pb Pc Pd Pe Pf Pg Ph Pi Pj Pk Pl PK PL;rw[show sPla fuel (s.1,((s.2.1.1,s.2.1.2),((s.2.2.1.1,s.2.2.1.2),(s.2.2.2.1,s.2.2.2.2)))) (q:Int) (9,c.2)=some (planF s q d) from by rw[hd];exact c7Z h.ok _,ZAA];rcases pcZ s q d with e|e
 ·rw[e];simp only[show((0:Int)==0)=true from rfl,ZAO,ZAD];by_cases h2:(planF s q d).1.1=2
  ·rw[h2,<-hd];simp only[show((2:Int)==2)=true from rfl,ZAO,ZAA,ZAD,ZAP];obtain⟨_,hr,ha⟩:=bQZ h2;have hf:=uwZ h.ok h2 hx;refine(congrArg (λo=>Option.bind o _) (show sApp fuel _ (q:Int) d [] 151=_ from oyZ h.ok h2 hx)).trans ?_;rw[ZAA];simp only[show((0:Int)==0)=true from rfl,ZAO,ZAD,ZAA,ZAP];have d1:d.1=9:=by rw[hd]
   have aa:=hoZ (failR d 151) (by simp[failR]);unfold failR at aa;rw[show(9:Int)=d.1 from d1.symm,aa,ZAA];simp only[ZAO,ZAD];rw[show kSamTre fuel (failS s d 151).2.1 (s.2.1.1,s.2.1.2)=some true from iiZ s.2.1 h.ok.t.r.fit,ZAA];simp only[ZAO,ZAD];rw[show kSamPar fuel (failS s d 151).2.2.2.2 s.2.2.2.2=some true from dQZ s.2.2.2.2 (by have:=h.ok.dn;omega),ZAA];simp only[ZAO,ZAD];rw[hf.1.right,ZAA];simp only[ZAO,ZAD,ZAA,ZAP];rw[c7Z hf.1,vrZ hr ha hf.2,ZAA]
   rfl
  ·rw[show((planF s q d).1.1==2)=false from ZAW.2 h2];simp only[ZAk,ZAA,ZAK]
 ·rw[e]
  rfl
theorem uTZ{α β γ:Type}{P:Option β->Prop}{x:Option (α⊕γ)}{f:α⊕γ->Option β}(J:α->Prop)(h:∃w,x=some (.inl w)/\J w)(hf:∀w,J w->P (f (.inl w))):P (x.bind f):=by
 obtain⟨w,rfl,hw⟩:=h;exact hf w hw
theorem jKZ{α β:Type}{P:Option β->Prop}{x:Option α}{f:α->Option β}(J:α->Prop)(h:∃w,x=some w/\J w)(hf:∀w,J w->P (f w)):P (x.bind f):=by
 obtain⟨w,rfl,hw⟩:=h;exact hf w hw
abbrev SayT:=CallT×(Int×Int)
abbrev RunT:=Int×(List Ino×(Int×(Int×(List KeptT×(List PlaceT×(List Part×(Int×(Int×(BM×(List Mod×List (Int×Int)))))))))))
def InvR(q k:Nat)(v:RunT):Prop:=∃s nx M m hs,v=stZ s nx q M ([m],hs)/\SInv s q nx M (k:Int)/\ModelOK m/\1<=hs.length/\hs.length<=k+1
def InW{γ:Type}(J:RunT->Prop)(x:Option (RunT⊕γ)):Prop:=∃w,x=some (.inl w)/\J w
def GoodR(q k:Nat)(x:Option ((Int×RunT)⊕(Unit⊕Bool))):Prop:=x=some (.inr (.inl ()))\/∃v,x=some (.inl (((k+1:Nat):Int),v))/\InvR q (k+1) v
theorem lFZ{l:List SayT}{q k:Nat}{s:GateT}{nx:Int}{M:BM}{m:Mod}{hs:List (Int×Int)}(hk:k<l.length)(ah:k<30)(h:SInv s q nx M (k:Int))(hm:ModelOK m)(h1:1<=hs.length)(h2:hs.length<=k+1):
 GoodR q k (law25_played_f12_l0 fuel l (k:Int) s.1 s.2.1.1 s.2.1.2 s.2.2.1.1 s.2.2.1.2 s.2.2.2.1 s.2.2.2.2 nx (q:Int) M [m] hs):=by
 obtain⟨o,ho⟩:∃o,l[k]? =some o:=⟨_,ZAC hk⟩;obtain⟨g,ad⟩:=ubZ hm;unfold law25_played_f12_l0 Pa Pb Pc Pd Pe Pf Pg Ph Pi Pj Pk Pl Pm Pn Po Pp Pq Pr Ps Pt PK PL PM PT;rw[aFZ hk,ZAK,ZAJ (show(k:Int)<30 by omega),ZAK,ZAP,ZAA,ad,ZAA,ZAA];cases g with
 |true=>left;rfl
 |false=>
  simp only[ZAk,ZAK];rw[w6];refine uTZ (P:=GoodR q k) (InvR q (k+1)) ?_ λw hw=>.inr ⟨w,rfl,hw⟩;rw[adZ hk,ZAA,ho,ZAA];have ae:SInv s q nx M ((k+1:Nat):Int):=h.mono (by omega);rcases rqZ o.1 with hh|hh
  ·rw[hh,ZAA];exact⟨_,rfl,s,nx,M,m,hs,rfl,ae,hm,h1,by omega⟩
  rw[hh,ZAA,ZAD];simp only[ZAA,ho];have pa:=iBZ o.2.1 (n:=hs.length) (by omega) (by omega);have pb:=iBZ o.2.2 (n:=hs.length) (by omega) (by omega);obtain⟨a,af⟩:∃a,hs[(pickI o.2.1 hs.length).toNat]? =some a:=⟨_,gEo⟩;obtain⟨b,ag⟩:∃b,hs[(pickI o.2.2 hs.length).toNat]? =some b:=⟨_,gEo⟩;refine jKZ (P:=InW (InvR q (k+1))) (λv=>∃(t:Bool) (c:CallT),c.2.1=((k+1:Nat):Int)/\v=(t,stZ s nx (q:Int) M ([m],(hs,[c])))) ?_ ?_
  ·cases decide (o.2.1>=0) with
   |true=>exact⟨_,rfl,_,(o.1.1,(((k+1:Nat):Int),o.1.2.2)),rfl,rfl⟩
   |false=>exact⟨_,rfl,_,(o.1.1,(((k+1:Nat):Int),o.1.2.2)),rfl,rfl⟩
  rintro v ⟨t,c,hc,rfl⟩;refine jKZ (P:=InW (InvR q (k+1))) (λv=>∃(c:CallT),c.2.1=((k+1:Nat):Int)/\v=stZ s nx (q:Int) M ([m],(hs,[c]))) ?_ ?_
  ·cases t with
   |true=>
    simp only[ZAK];rw[jbZ _ _ (by omega),ZAA,azZ (by omega) (by omega),ZAA,af,ZAA,ZAP,ZAA];exact⟨_,rfl,(c.1,(c.2.1,(c.2.2.1,(a,c.2.2.2.2)))),hc,rfl⟩
   |false=>exact⟨_,rfl,c,hc,rfl⟩
  rintro v ⟨c,hc,rfl⟩;refine jKZ (P:=InW (InvR q (k+1))) (λv=>∃(t:Bool),v=(t,stZ s nx (q:Int) M ([m],(hs,[c])))) ?_ ?_
  ·cases decide (o.2.2>=0) with
   |true=>exact⟨_,rfl,_,rfl⟩
   |false=>exact⟨_,rfl,_,rfl⟩
  rintro v ⟨t,rfl⟩;refine jKZ (P:=InW (InvR q (k+1))) (λv=>∃(c:CallT),c.2.1=((k+1:Nat):Int)/\v=stZ s nx (q:Int) M ([m],(hs,[c]))) ?_ ?_
  ·cases t with
   |true=>
    simp only[ZAK];rw[jbZ _ _ (by omega),ZAA,azZ (by omega) (by omega),ZAA,ag,ZAA,ZAP,ZAA];exact⟨_,rfl,(c.1,(c.2.1,(c.2.2.1,(c.2.2.2.1,(c.2.2.2.2.1,(b,c.2.2.2.2.2.2)))))),hc,rfl⟩
   |false=>exact⟨_,rfl,c,hc,rfl⟩
  rintro v ⟨c,hc,rfl⟩;simp only[ZAP,ZAA,ZBl];rw[pfZ hm,ZAA];obtain⟨r,s',ac,M',e,_,ab⟩:=p2Z (c:=c) h (by omega);rw[hc] at ab;refine(congrArg (InW _) (congrArg (λo=>Option.bind o _) e)).mpr ?_;rw[ZAA];unfold flatR;simp only;have ok:=keZ hm c;refine jKZ (P:=InW (InvR q (k+1))) (λv=>∃(aa:List (Int×Int)) (w:ReplyT),1<=aa.length/\aa.length<=k+2/\v=stZ s' ac (q:Int) M' ([(resF m c).1],(aa,([c],([w],[r]))))) ?_ ?_
  ·cases decide (r.2.2.2.1.1>0) with
   |true=>
    simp only[ZAK];rw[nTo];exact⟨_,rfl,hs++[_],_,by simp,by simp;omega,rfl⟩
   |false=>exact⟨_,rfl,hs,_,h1,by omega,rfl⟩
  rintro v ⟨aa,w,g1,g2,rfl⟩;simp only[ZAO,ZAD,ZAP,ZAA];refine(congrArg (InW _) (congrArg (λo=>Option.bind (Option.bind o _) _) (siZ (c:=c) (hc▸ab) (resF m c).1 r w))).mpr ?_;exact⟨_,rfl,s',ac,M',(resF m c).1,aa,rfl,ab,ok,g1,by omega⟩
theorem vRZ{n:Int}(hn:1<=n/\n<=1000)(x:Int):∃v:Nat,kit_Pick fuel x n=some (v:Int)/\(v:Int)<n:=by
 have:=iBZ x hn.1 (by omega);exact⟨(pickI x n).toNat,by rw[jbZ x n hn.1];congr 1;omega,by omega⟩
theorem kDZ(size:Int)(l:List SayT):law25_played_f12 fuel size l=some true:=by
 unfold law25_played_f12 law25_played_f12_l0_it;obtain⟨p,hp,hp2⟩:=vRZ (n:=50) (by omega) size;rw[hp,ZAA,show law25_three fuel=some pl3 from rfl,ZAA,rpZ 4 (by omega),ZAA];simp only[show((0:Int)==0)=true from rfl,ZAO,ZAD];rw[vJZ,ZAA,w6];have h0:SInv (g0 4) (16+p) 0 ([],0) ((0:Nat):Int):=⟨upZ (by omega) (by omega),λk hk=>(by cases hk),by omega,by show(0:Int)<=_;omega,by omega,λp=>.inl rfl,rfl,λx hx p hp=>by
  simp[g0,M0] at hx;subst hx;cases hp⟩
 obtain⟨o,ho,hq⟩:∃o,iter fuel (λtt=>law25_played_f12_l0 fuel l tt.1 tt.2.1 tt.2.2.1 tt.2.2.2.1 tt.2.2.2.2.1 tt.2.2.2.2.2.1 tt.2.2.2.2.2.2.1 tt.2.2.2.2.2.2.2.1 tt.2.2.2.2.2.2.2.2.1 tt.2.2.2.2.2.2.2.2.2.1 tt.2.2.2.2.2.2.2.2.2.2.1 tt.2.2.2.2.2.2.2.2.2.2.2.1 tt.2.2.2.2.2.2.2.2.2.2.2.2) ((0:Int),stZ (g0 4) 0 ((16+p:Nat):Int) ([],0) ([M0],[((1:Int),(1:Int))]))=some o/\o= .inl ():=by
  refine aAZ (λn v=>∃(k:Nat) (w:RunT),v=((k:Int),w)/\k+n=30/\InvR (16+p) k w) _ (λn v hI=> ?_) (λv hI=> ?_) 30 _ (by omega) ⟨0,_,rfl,by omega,g0 4,0,([],0),M0,_,rfl,h0,vSZ,by simp,by simp⟩
  ·obtain⟨k,w,rfl,hk,s,nx,M,m,hs,rfl,i1,i2,i3,i4⟩:=hI;by_cases hkl:k<l.length
   ·rcases lFZ hkl (by omega) i1 i2 i3 i4 with e|⟨w,e,hw⟩
    ·exact .inr ⟨_,e,rfl⟩
    ·exact .inl ⟨_,e,k+1,w,rfl,by omega,hw⟩
   ·refine .inr ⟨.inl (),?_,rfl⟩;show law25_played_f12_l0 fuel l (k:Int) s.1 s.2.1.1 s.2.1.2 s.2.2.1.1 s.2.2.1.2 s.2.2.2.1 s.2.2.2.2 nx _ M [m] hs=_;unfold law25_played_f12_l0 Pa Pb Pc Pd Pe Pf Pg Ph Pi Pj Pk Pl Pm Pn Po Pp Pq Pr Ps Pt PK PL PM PT;rw[aBZ hkl];simp only[ZAD,ZAA]
  ·obtain⟨k,w,rfl,hk,s,nx,M,m,hs,rfl,i1,i2,i3,i4⟩:=hI;refine⟨.inl (),?_,rfl⟩;show law25_played_f12_l0 fuel l (k:Int) s.1 s.2.1.1 s.2.1.2 s.2.2.1.1 s.2.2.1.2 s.2.2.2.1 s.2.2.2.2 nx _ M [m] hs=_;unfold law25_played_f12_l0 Pa Pb Pc Pd Pe Pf Pg Ph Pi Pj Pk Pl Pm Pn Po Pp Pq Pr Ps Pt PK PL PM PT;by_cases hkl:k<l.length
   ·rw[aFZ hkl,ZAK,ZAE (show¬((k:Int)<30) by omega)];simp only[ZAD,ZAA]
   ·rw[aBZ hkl];simp only[ZAD,ZAA]
 subst hq;rw[show(16:Int)+(p:Int)=((16+p:Nat):Int) by omega];refine(congrArg (λo=>Option.bind o _) ho).trans ?_
 rfl
theorem law25_StateFails_true(aa:Int)(l:List SayT)(ab:OkV (.int .i64) aa)(ac:OkV (.sl (.pair qY9 qY5)) l):law25_StateFails fuel aa l=some true:=by
 unfold law25_StateFails;rw[kDZ,ZAA,ZAK,udZ,ZAA]
end Go.Ab.D
