/- What the functions compute; the plain law. -/
import Derived.Test.YtkfgjhbbdoljiaaGreatLinearWrongQ2
import Derived.KernelRfl
set_option linter.all false
set_option maxRecDepth 100000
set_option maxHeartbeats 4000000
namespace Go.Ab.D
open Go Go.Ab
def runM:Mod->List PastT->Mod
 |m,[]=>m
 |m,p::r=>runM (if failB p then m else(resF m p.1).1) r
def okM:Mod->List PastT->Prop
 |_,[]=>True
 |m,p::r=>(failB p=false->p.2.2.2>0->repT (resF m p.1) p.1=p.2.1)/\okM (if failB p then m else(resF m p.1).1) r
theorem fjZ:∀(m:Mod) (l:List PastT) (p:PastT),runM m (l++[p])=if failB p then runM m l else(resF (runM m l) p.1).1
 |m,[],p=>rfl
 |m,q::r,p=>fjZ _ r p
theorem lcZ:∀(m:Mod) (l:List PastT) (p:PastT),okM m (l++[p])↔okM m l/\(failB p=false->p.2.2.2>0->repT (resF (runM m l) p.1) p.1=p.2.1)
 |m,[],p=>⟨fun h=>⟨trivial,h.1⟩,fun h=>⟨h.2,trivial⟩⟩
 |m,q::r,p=>by
  have:=lcZ (if failB q then m else(resF m q.1).1) r p;show(_/\okM _ (r++[p]))↔_;rw[this];exact⟨fun h=>⟨⟨h.1,h.2.1⟩,h.2.2⟩,fun h=>⟨h.1.1,h.1.2,h.2⟩⟩
theorem obZ:∀(m:Mod) (l:List PastT),ModelOK m->ModelOK (runM m l)
 |m,[],h=>h
 |m,p::r,h=>obZ _ r (by split<;>first|exact h|exact oPZ h _)
def nofail(l:List PastT)(j:Nat):Bool:=match l[j]? with
 |some p=> !failB p
 |none=>false
def idxs(l:List PastT):List Int:=((List.range l.length).filter (nofail l)).map fun j=>((j:Nat):Int)
theorem nOZ(l:List PastT)(p:PastT):idxs (l++[p])=idxs l++if failB p then[] else[((l.length:Nat):Int)]:=by
 unfold idxs;rw[ZAj,List.length_singleton,ZCH,ZB6,List.map_append];congr 1
 ·congr 1;apply List.filter_congr;intro j hj;unfold nofail;rw[ZAP (ZBE.1 hj)]
 ·have:nofail (l++[p]) l.length= !failB p:=by
   unfold nofail;rw[ZAY (ZAM _),Nat.sub_self]
   rfl
  rw[List.filter_cons,this];cases failB p<;>rfl
theorem qbZ(l:List PastT):(idxs l).length<=l.length:=by
 unfold idxs;rw[ZBS];exact ZBi (ZBe _ _) (by rw[ZB2];exact ZAM _)
def updL(l:List PastT)(bef:Int->Option PastT):Int->Option PastT:=l.foldl (fun b q c=>if c=q.1.1 then some q else b c) bef
theorem o3Z(l:List PastT)(bef:Int->Option PastT)(p:PastT):updL (l++[p]) bef=fun c=>if c=p.1.1 then some p else updL l bef c:=by
 unfold updL;rw[List.foldl_append];rfl
theorem eQZ:∀(l:List PastT) (bef:Int->Option PastT) (p:PastT),rightGo (l++[p]) bef=(rightGo l bef&&(oneB p&&(match updL l bef p.1.1 with|some w=>folB w p|none=>true)))
 |[],bef,p=>by
  show(oneB p&&((match bef p.1.1 with|some w=>folB w p|none=>true)&&true))=(true&&(oneB p&&(match bef p.1.1 with|some w=>folB w p|none=>true)));rw[Bool.and_true,ZAU]
 |q::r,bef,p=>by
  show(oneB q&&((match bef q.1.1 with|some w=>folB w q|none=>true)&&rightGo (r++[p]) _))=_;rw[eQZ r _ p];show _=((oneB q&&((match bef q.1.1 with|some w=>folB w q|none=>true)&&rightGo r _))&&_);rw[Bool.and_assoc,Bool.and_assoc]
  rfl
def TimeP(p:PastT):Prop:=1<=p.1.2.1/\p.1.2.1<=12/\1<=p.2.2.1/\p.2.2.1<=100*p.1.2.1/\(p.2.2.2=0\/100*p.1.2.1<=p.2.2.2)/\p.2.2.2<=2000
def calmB(x:SayL):Prop:=x.2.1.toNat=0/\x.2.2.1.toNat=0/\x.2.2.2.1=false/\x.2.2.2.2.1=false
structure TInv (L:List SayL) (k:Nat) (m:Mod) (hs:List (Int×Int)) (out:List PastT) (ord en:List Int):Prop where
 m_ok:ModelOK m
 hs1:1<=hs.length
 hs2:hs.length<=k+1
 olen:out.length<=k
 elen:en.length=4
 eb:∀e∈en,-1<=e/\e<=2000
 oeq:ord=idxs out
 run:m=runM M0 out
 oks:okM M0 out
 tm:∀p∈out,TimeP p/\p.1.2.1<=k
 srt:out.Pairwise fun p q=>p.1.2.1<q.1.2.1
 rgt:rightGo out (fun _=>none)=true
 las:∀c:Nat,c<4->∃e,en[c]? =some e/\match updL out (fun _=>none) (c:Int) with
  |none=>e=0
  |some w=>w.1.2.1<=k/\((w.2.2.2=0/\e= -1)\/(w.2.2.2=e/\0<e))
 fit:∀p∈out,FitP p
 calm:(∀x∈L,calmB x)->∀p∈out,p.2.2.1=100*p.1.2.1/\p.2.2.2=100*p.1.2.1/\failB p=false
theorem qcZ{a e n:Int}(h0:0<=e)(h1:e<a)(hn:0<=n):1<=bgn a e n/\bgn a e n<=a/\e<bgn a e n/\(n=0->bgn a e n=a):=by
 unfold bgn
 (repeat' split)<;>omega
theorem TInv.skip{L:List SayL}{k:Nat}{m:Mod}{hs:List (Int×Int)}{out:List PastT}{ord en:List Int}(I:TInv L k m hs out ord en):TInv L (k+1) m hs out ord en:=
 {I with
  hs2:=by have:=I.hs2;omega
  olen:=by have:=I.olen;omega
  tm:=fun p hp=>⟨(I.tm p hp).1,by have:=(I.tm p hp).2;omega⟩
  las:=fun c hc=>by
   obtain⟨e,h1,h2⟩:=I.las c hc;refine⟨e,h1,?_⟩;split
   ·rename_i h;rw[h] at h2;exact h2
   ·rename_i w h;rw[h] at h2;exact⟨by have:=h2.1;omega,h2.2⟩}
theorem TInv.add{L:List SayL}{k:Nat}(hk:k<12){m:Mod}{hs:List (Int×Int)}{out:List PastT}{ord en:List Int}(I:TInv L k m hs out ord en){c:CallT}{e:Int}(ha:Asked m k en c e){x:SayL}(hx:x∈L)
 {p:PastT}(hp:p.1=c)(hbg:p.2.2.1=bgn (tim k) e x.2.1.toNat)(hend:p.2.2.2=0\/tim k<=p.2.2.2)(he2:p.2.2.2<=2000)(h1:oneB p=true)(hf:FitP p)(hok:failB p=false->p.2.2.2>0->repT (resF m p.1) p.1=p.2.1)
 {m':Mod}{hs':List (Int×Int)}{ord' en':List Int}(hm:m'=if failB p then m else(resF m p.1).1)(hhs:hs'=hs\/∃a,hs'=hs++[a])(hord:ord'=ord++if failB p then[] else[((out.length:Nat):Int)])
 (hen:en'=en.set c.1.toNat (if p.2.2.2=0 then-1 else p.2.2.2))(hc:calmB x->p.2.2.2=tim k/\failB p=false):TInv L (k+1) m' hs' (out++[p]) ord' en':=by
 obtain⟨c0,c4,cx,_,ce,e0,e1⟩:=ha;have hB:=qcZ e0 e1 (n:=(x.2.1.toNat:Int)) (by omega);have hxid:p.1.2.1=(k:Int)+1:=by rw[hp];exact cx
 have htim:tim k=100*p.1.2.1:=by rw[hxid];rfl
 have htp:TimeP p:=⟨by omega,by omega,by rw[hbg];exact hB.1,by rw[hbg,<-htim];exact hB.2.1,by rw[<-htim];exact hend,he2⟩;have ht0:100<=tim k:=by unfold tim;omega
 refine⟨?_,?_,?_,?_,?_,?_,?_,?_,?_,?_,?_,?_,?_,?_,?_⟩
 ·rw[hm];split
  ·exact I.m_ok
  ·exact oPZ I.m_ok _
 ·have:=I.hs1;rcases hhs with rfl|⟨a,rfl⟩
  ·exact this
  ·simp
 ·have:=I.hs2;rcases hhs with rfl|⟨a,rfl⟩
  ·omega
  ·simp;omega
 ·have:=I.olen;rw[ZAj,List.length_singleton];omega
 ·rw[hen,ZAt];exact I.elen
 ·intro y hy;rw[hen] at hy;rcases List.mem_or_eq_of_mem_set hy with hy|rfl
  ·exact I.eb y hy
  ·split
   ·exact⟨by omega,by omega⟩
   ·exact⟨by omega,he2⟩
 ·rw[hord,I.oeq,nOZ]
 ·rw[hm,fjZ,<-I.run]
 ·rw[lcZ];exact⟨I.oks,by rw[<-I.run];exact hok⟩
 ·intro q hq;rcases ZAh.1 hq with hq|hq
  ·exact⟨(I.tm q hq).1,by have:=(I.tm q hq).2;omega⟩
  ·obtain rfl:=ZAy.1 hq;exact⟨htp,by omega⟩
 ·rw[ZBh];refine⟨I.srt,List.pairwise_singleton _ _,fun q hq r hr=> ?_⟩;obtain rfl:=ZAy.1 hr;have:=(I.tm q hq).2;omega
 ·rw[eQZ,I.rgt,h1,ZAU,ZAU];obtain⟨e',q1,q2⟩:=I.las c.1.toNat (by omega);rw[ce] at q1;obtain rfl:=ZAk q1;rw[hp,show c.1=((c.1.toNat:Nat):Int) by omega];split
  ·rename_i w hw;rw[hw] at q2;obtain⟨q3,q4⟩:=q2;rcases q4 with⟨_,q5⟩|⟨q5,q6⟩
   ·omega
   ·unfold folB;rw[show(w.2.2.2==0)=false from ZAS.2 (by omega),ZAJ (show¬w.2.2.2>=p.2.2.1 by rw[hbg];omega),ZAJ (show¬w.1.2.1>=p.1.2.1 by omega)]
    rfl
  ·rfl
 ·intro d hd;rw[o3Z,hen];dsimp only;by_cases hdc:(d:Int)=p.1.1
  ·rw[ZAQ hdc];have:d=c.1.toNat:=by rw[hp] at hdc;omega
   refine⟨_,by rw[this];exact ZAX (by have:=I.elen;omega),?_⟩;refine⟨by omega,?_⟩;split
   ·rename_i h0;exact .inl ⟨h0,rfl⟩
   ·rename_i h0;exact .inr ⟨rfl,by omega⟩
  ·rw[ZAL hdc];obtain⟨e',q1,q2⟩:=I.las d hd;refine⟨e',by rw[ZAW (by rw[hp] at hdc;omega)];exact q1,?_⟩;split
   ·rename_i h;rw[h] at q2;exact q2
   ·rename_i w h;rw[h] at q2;exact⟨by have:=q2.1;omega,q2.2⟩
 ·intro q hq;rcases ZAh.1 hq with hq|hq
  ·exact I.fit q hq
  ·obtain rfl:=ZAy.1 hq;exact hf
 ·intro hcalm q hq;rcases ZAh.1 hq with hq|hq
  ·exact I.calm hcalm q hq
  ·obtain rfl:=ZAy.1 hq;have h3:=hc (hcalm x hx);have h4:=(hcalm x hx).1;exact⟨by rw[hbg,hB.2.2.2 (by omega),htim],by rw[h3.1,htim],h3.2⟩
theorem kTZ{p:PastT}(h:p.2.1.2.2.1≠151):failB p=false:=by
 unfold failB;rw[ZAS.2 h,ZAv]
theorem k5Z{p:PastT}(hr:rightCall p.1=true)(h1:1<=p.2.2.1)(h2:p.2.2.1<=1099511627776)(h3:(p.2.2.2=0/\nothB p.2.1=true)\/(p.2.2.2≠0/\p.2.2.2>=p.2.2.1/\p.2.2.2<=1099511627776/\rightReply p.2.1=true/\p.2.1.1=p.1.1/\p.2.1.2.1=p.1.2.1)):oneB p=true:=by
 unfold oneB;rw[hr,ZAJ (show¬p.2.2.1<1 by omega),ZAJ (show¬p.2.2.1>1099511627776 by omega)];rcases h3 with⟨q1,q2⟩|⟨q1,q2,q3,q4,q5,q6⟩
 ·rw[q1,q2];rfl
 ·rw[ZAS.2 q1,ZAO q2,ZAO q3,q4,q5,q6,ZAT,ZAT];rfl
theorem TInv.round{L:List SayL}{k:Nat}(hk:k<12){m:Mod}{hs:List (Int×Int)}{out:List PastT}{ord en:List Int}(I:TInv L k m hs out ord en){x:SayL}(hx:x∈L)
 {m':Mod}{hs':List (Int×Int)}{out':List PastT}{ord' en':List Int}(r:Rnd k x m hs out ord en m' hs' out' ord' en'):TInv L (k+1) m' hs' out' ord' en':=by
 have hA:=x.2.1.toNat_lt;have hB:=x.2.2.1.toNat_lt;have ht:100<=tim k/\tim k<=1200:=by unfold tim;omega
 cases r with
 |skip=>exact I.skip
 |lost c e ha hL=>
  have hr:=fMZ ha.2.2.2.1;have hb:=qcZ ha.2.2.2.2.2.1 ha.2.2.2.2.2.2 (n:=(x.2.1.toNat:Int)) (by omega);exact I.add hk ha hx (p:=(c,(repZ,(bgn (tim k) e x.2.1.toNat,0)))) rfl rfl (.inl rfl) (by show(0:Int)<=2000;decide) (k5Z hr hb.1 (by show bgn _ _ _<=_;omega) (.inl ⟨rfl,rfl⟩)) ⟨by simp[repZ],by simp[repZ]⟩ (fun _ h=>absurd h (by show¬(0:Int)>0;decide)) rfl (.inl rfl) rfl rfl
   (fun h=>by have:=h.2.2.1;rw[hL] at this;cases this)
 |fail c e ha hF=>
  have hr:=fMZ ha.2.2.2.1;have hb:=qcZ ha.2.2.2.2.2.1 ha.2.2.2.2.2.2 (n:=(x.2.1.toNat:Int)) (by omega);have hf:failB (c,(repIO c,(bgn (tim k) e x.2.1.toNat,tim k+(x.2.2.1.toNat:Int))))=true:=by
   unfold failB;rw[ZAO (show tim k+(x.2.2.1.toNat:Int)>0 by omega)]
   rfl
  refine I.add hk ha hx (p:=(c,(repIO c,(bgn (tim k) e x.2.1.toNat,tim k+(x.2.2.1.toNat:Int))))) rfl rfl (.inr (by show _<=_+_;omega)) (by show _+_<=_;omega) (k5Z hr hb.1 (by show bgn _ _ _<=_;omega) (.inr ⟨?_,?_,?_,jHZ hr,rfl,rfl⟩)) ⟨by simp[repIO],by simp[repIO]⟩ (fun h=>by rw[hf] at h;cases h) (by rw[hf];rfl) (.inl rfl) (by rw[hf];simp) ?_
   (fun h=>by have:=h.2.2.2;rw[hF] at this;cases this)
  ·show _+_≠_;omega
  ·show _+_>=bgn _ _ _;omega
  ·show _+_<=_;omega
  ·rw[ZAL (by show¬_+_=_;omega)]
 |ok c e ha hs' hh=>
  have hr:=fMZ ha.2.2.2.1;have hb:=qcZ ha.2.2.2.2.2.1 ha.2.2.2.2.2.2 (n:=(x.2.1.toNat:Int)) (by omega);have hrep:=jrZ I.m_ok hr;have hf:failB (c,(repT (resF m c) c,(bgn (tim k) e x.2.1.toNat,tim k+(x.2.2.1.toNat:Int))))=false:=kTZ hrep.2;have hro:=(mKZ I.m_ok c).2.2;refine I.add hk ha hx (p:=(c,(repT (resF m c) c,(bgn (tim k) e x.2.1.toNat,tim k+(x.2.2.1.toNat:Int))))) rfl rfl (.inr (by show _<=_+_;omega)) (by show _+_<=_;omega) (k5Z hr hb.1 (by show bgn _ _ _<=_;omega) (.inr ⟨?_,?_,?_,hrep.1,rfl,rfl⟩))
   ⟨by have:=hro.b;show(resF m c).2.2.2.2.2.1.length<_;omega,by have:=hro.n;show(resF m c).2.2.2.2.2.2.1.length<_;omega⟩ (fun _ _=>rfl) (by rw[hf];rfl) hh (by rw[hf];rfl) ?_
   (fun h=>⟨by have:=h.2.1;show _+_=_;omega,hf⟩)
  ·show _+_≠_;omega
  ·show _+_>=bgn _ _ _;omega
  ·show _+_<=_;omega
  ·rw[ZAL (by show¬_+_=_;omega)]
theorem reZ(l:List SayL):∃k m hs out ord en,law28_told fuel l=some (out,ord)/\TInv l k m hs out ord en/\k<=12/\k<=l.length:=by
 unfold law28_told law28_told_l0_it;rw[quZ,ZAA];unfold law28_root;rw[ZAA];obtain⟨o,ho,hq⟩:∃o,iter fuel (fun tt:Int×T7=>law28_told_l0 fuel l tt.1 tt.2.1 tt.2.2.1 tt.2.2.2.1 tt.2.2.2.2.1 tt.2.2.2.2.2.1 tt.2.2.2.2.2.2.1 tt.2.2.2.2.2.2.2) (0,tS M0 [((1:Int),(1:Int))] [] [] (List.replicate 4 0))=some o/\∃k m hs en,TInv l k m hs o.1 o.2 en/\k<=12/\k<=l.length:=by
  refine a5Z (fun n s=>∃(k:Nat) (m:Mod) (hs:List (Int×Int)) (out:List PastT) (ord en:List Int),s=((k:Int),tS m hs out ord en)/\k+n=12/\TInv l k m hs out ord en/\k<=l.length) _ (fun n s hI=> ?_) (fun s hI=> ?_) 12 _ (by omega)
   ⟨0,M0,_,[],[],List.replicate 4 0,rfl,by omega,⟨rnZ,by simp,by simp,by simp,rfl,fun e he=> ?_,rfl,rfl,trivial,fun p hp=>(by cases hp),List.Pairwise.nil,rfl,fun c hc=>⟨0,?_,rfl⟩,fun p hp=>(by cases hp),fun _ p hp=>(by cases hp)⟩,ZBV _⟩
  ·obtain⟨k,m,hs,out,ord,en,rfl,hk,I,hkl⟩:=hI;by_cases hlt:k<l.length
   ·have hg:=ZAE hlt;rcases l9Z (ord:=ord) hg (by omega) I.m_ok I.hs1 I.hs2 I.olen (by rw[I.oeq];exact ZBi (qbZ _) I.olen) I.elen I.eb with q|⟨m',hs',out',ord',en',q1,q2⟩
    ·exact .inr ⟨_,q,k,m,hs,en,I,by omega,hkl⟩
    ·exact .inl ⟨_,q1,k+1,m',hs',out',ord',en',rfl,by omega,I.round (by omega) (ZBH hlt) q2,hlt⟩
   ·refine .inr ⟨(out,ord),?_,k,m,hs,en,I,by omega,hkl⟩;show law28_told_l0 fuel l (k:Int) m.1.2 m.1.1 m.2 hs out ord en=_;unfold law28_told_l0;rw[amZ hlt]
    rfl
  ·obtain⟨k,m,hs,out,ord,en,rfl,hk,I,hkl⟩:=hI;refine⟨(out,ord),?_,k,m,hs,en,I,by omega,hkl⟩;show law28_told_l0 fuel l (k:Int) m.1.2 m.1.1 m.2 hs out ord en=_;unfold law28_told_l0;by_cases hlt:k<l.length
   ·rw[avZ hlt,ZAF,ZAJ (show¬(k:Int)<12 by omega)]
    rfl
   ·rw[amZ hlt]
    rfl
  ·rw[ZBr he];exact⟨by decide,by decide⟩
  ·rw[ZBy,ZAQ hc]
 obtain⟨k,m,hs,en,I,h1,h2⟩:=hq;refine⟨k,m,hs,o.1,o.2,en,?_,I,h1,h2⟩;refine(congrArg (fun z=>Option.bind z _) ho).trans ?_
 rfl
end Go.Ab.D
set_option maxRecDepth 100000
set_option maxHeartbeats 4000000
namespace Go.Ab.D
open Go Go.Ab
theorem mRZ{l:List PastT}{n:Nat}{p:PastT}(m:Mod)(hp:l[n]? =some p):runM m (l.take (n+1))=if failB p then runM m (l.take n) else(resF (runM m (l.take n)) p.1).1:=by
 have hn:=(ZAB.1 hp).1;have he:l[n]=p:=(ZAB.1 hp).2;rw[ZAw hn,fjZ,he]
theorem i8Z:∀{l:List PastT} {m:Mod} {n:Nat} {p:PastT},okM m l->l[n]? =some p->failB p=false->p.2.2.2>0->repT (resF (runM m (l.take n)) p.1) p.1=p.2.1
 |[],_,_,_,_,hp,_,_=>by cases hp
 |q::r,m,0,p,h,hp,hf,he=>by
  obtain rfl:=ZAk hp;exact h.1 hf he
 |q::r,m,n+1,p,h,hp,hf,he=>by
  rw[List.take_succ_cons];exact i8Z (l:=r) h.2 hp hf he
def placedN(l:List PastT)(n:Nat):List Bool:=(List.range l.length).map fun j=>decide (j<n)&&nofail l j
theorem bwZ{l:List PastT}{n j:Nat}(h:j<l.length):(placedN l n)[j]? =some (decide (j<n)&&nofail l j):=by
 unfold placedN;rw[ZAe,List.getElem?_range h]
 rfl
theorem bLZ(l:List PastT)(n:Nat):(placedN l n).length=l.length:=by unfold placedN;rw[ZBS,ZB2]
theorem blZ{l:List PastT}{n j:Nat}(h:j<l.length)(b:Bool):(placedN l n).getD j b=(decide (j<n)&&nofail l j):=by
 rw[ZBj,bwZ h];rfl
theorem jqZ(l:List PastT)(n:Nat)(hn:n<l.length):placedN l (n+1)=if nofail l n then(placedN l n).set n true else placedN l n:=by
 apply ZCC fun j=> ?_;by_cases hj:j<l.length
 ·rw[bwZ hj];by_cases hjn:j=n
  ·subst hjn;cases h:nofail l j with
   |true=>rw[ZAQ rfl,ZAX (by rw[bLZ];exact hj)];simp
   |false=>rw[ZAL (by simp),bwZ hj,h];simp
  ·have e:decide (j<n+1)=decide (j<n):=by
    by_cases h1:j<n
    ·rw[ZAO h1,ZAO (by omega)]
    ·rw[ZAJ h1,ZAJ (by omega)]
   rw[e];split
   ·rw[ZAW (fun h=>hjn h.symm),bwZ hj]
   ·rw[bwZ hj]
 ·rw[ZAn (by rw[bLZ];omega)];split
  ·rw[ZAn (by rw[ZAt,bLZ];omega)]
  ·rw[ZAn (by rw[bLZ];omega)]
theorem dMZ{l:List PastT}{k:Nat}{q:PastT}(hq:l[k]? =some q)(hw:waitB q=true):nofail l k=true:=by
 unfold nofail;rw[hq];unfold waitB at hw;unfold failB;simp only;rw[ZAD] at hw;rw[hw.1,ZAU];exact hw.2
structure Timed (l:List PastT):Prop where
 t:∀p∈l,p.2.2.1<=100*p.1.2.1/\(p.2.2.2<=0\/100*p.1.2.1<=p.2.2.2)
 s:l.Pairwise fun p q=>p.1.2.1<q.1.2.1
theorem Timed.le{l:List PastT}(h:Timed l){i j:Nat}{p q:PastT}(hp:l[i]? =some p)(hq:l[j]? =some q)(hij:i<=j):p.1.2.1<=q.1.2.1:=by
 by_cases e:i=j
 ·subst e;rw[hp] at hq;cases hq;exact Int.le_refl _
 ·have hi:=(ZAB.1 hp).1;have hj:=(ZAB.1 hq).1;have:=List.pairwise_iff_getElem.1 h.s i j hi hj (by omega);rw[(ZAB.1 hp).2,(ZAB.1 hq).2] at this;omega
theorem stZ{l:List PastT}(h:Timed l){n:Nat}{p:PastT}(hp:l[n]? =some p)(hf:failB p=false):mayB l (placedN l n) n=true:=by
 have hn:=(ZAB.1 hp).1;unfold mayB;rw[hp];simp only;rw[blZ hn,ZAJ (ZAi n),hf];have:(List.range l.length).any (lateB l (placedN l n) p.2.2.1)=false:=by
  rw[List.any_eq_false];intro k hk;have hk:=ZBE.1 hk;unfold lateB;obtain⟨q,hq⟩:∃q,l[k]? =some q:=⟨_,ZAE hk⟩;rw[hq];simp only;rw[blZ hk];cases hw:waitB q with
  |false=>simp
  |true=>
   have hnf:=dMZ hq hw;rw[hnf];by_cases hkn:k<n
   ·rw[ZAO hkn];simp
   ·have h1:=h.le hp hq (by omega);have h2:=(h.t p (ZAN hp)).1;have h3:=(h.t q (ZAN hq)).2;unfold waitB at hw;rw[ZAD,ZAd] at hw;rw[ZAJ (show¬q.2.2.2<p.2.2.1 by omega)];simp
 rw[this]
 rfl
theorem nzZ(l:List PastT):placedN l 0=List.replicate l.length false:=by
 apply ZCC fun j=> ?_;by_cases hj:j<l.length
 ·rw[bwZ hj,ZBy,ZAQ hj];rfl
 ·rw[ZAn (by rw[bLZ];omega),ZAn (by rw[ZBp];omega)]
theorem ojZ(l:List PastT):wholeB l (placedN l l.length)=true:=by
 unfold wholeB;have:(List.range l.length).any (dueB l (placedN l l.length))=false:=by
  rw[List.any_eq_false];intro k hk;have hk:=ZBE.1 hk;unfold dueB;obtain⟨q,hq⟩:∃q,l[k]? =some q:=⟨_,ZAE hk⟩;rw[hq];simp only;rw[blZ hk,ZAO hk];cases hw:waitB q with
  |false=>simp
  |true=>rw[dMZ hq hw];simp
 rw[this]
 rfl
end Go.Ab.D
set_option maxRecDepth 100000
set_option maxHeartbeats 4000000
namespace Go.Ab.D
open Go Go.Ab
def pe{α β:Type}(f:α->α->Bool)(g:β->β->Bool)(a b:α×β):Bool:=f a.1 b.1&&g a.2 b.2
theorem ccZ{α β:Type}{f:α->α->Bool}{g:β->β->Bool}(hf:∀a b,f a b=sm a b)(hg:∀a b,g a b=sm a b)(a b:α×β):pe f g a b=sm a b:=by
 unfold pe;rw[hf,hg];by_cases h:a=b
 ·subst h;rw[sm_t rfl,sm_t rfl,sm_t rfl];rfl
 ·rw[sm_f h];by_cases h1:a.1=b.1
  ·rw[sm_f (fun h2=>h (Prod.ext h1 h2)),ZAv]
  ·rw[sm_f h1];rfl
def le_{α:Type}(f:α->α->Bool):List α->List α->Bool
 |[],[]=>true
 |a::l,b::r=>f a b&&le_ f l r
 |_,_=>false
theorem jOZ{α:Type}{f:α->α->Bool}(hf:∀a b,f a b=sm a b):∀l r:List α,le_ f l r=sm l r
 |[],[]=>by rw[sm_t rfl];rfl
 |a::l,[]=>by rw[sm_f (by simp)];rfl
 |[],b::r=>by rw[sm_f (by simp)];rfl
 |a::l,b::r=>by
  unfold le_;rw[hf,jOZ hf l r];by_cases h:a::l=b::r
  ·obtain⟨rfl,rfl⟩:=List.cons.inj h;rw[sm_t rfl,sm_t rfl,sm_t rfl];rfl
  ·rw[sm_f h];by_cases h1:a=b
   ·rw[sm_f (fun h2:l=r=>h (by rw[h1,h2])),ZAv]
   ·rw[sm_f h1];rfl
def eqI(a b:Int):Bool:=a==b
def eqB(a b:Bool):Bool:=a==b
def eqS(a b:List UInt8):Bool:=a==b
def eqEn:Ent->Ent->Bool:=pe eqS eqI
def eqRep:RepT->RepT->Bool:=pe eqI (pe eqI (pe eqI (pe (pe eqI eqI) (pe eqB (pe eqI (pe eqS (pe (le_ eqEn) (pe eqB eqI))))))))
def eqIno:Ino->Ino->Bool:=pe eqI (pe eqI (pe eqB (pe eqB (pe eqI (pe (le_ (pe eqI eqI)) (pe eqI (le_ eqEn)))))))
def eqSt:StT->StT->Bool:=pe (le_ eqB) (pe (pe (le_ eqIno) eqI) (le_ eqS))
theorem bVZ(a b:Int):eqI a b=sm a b:=igZ a b
theorem ioZ(a b:Bool):eqB a b=sm a b:=igZ a b
theorem nJZ(a b:List UInt8):eqS a b=sm a b:=igZ a b
theorem nsZ:∀a b,eqEn a b=sm a b:=ccZ nJZ bVZ
theorem p3Z:∀a b,eqRep a b=sm a b:=ccZ bVZ (ccZ bVZ (ccZ bVZ (ccZ (ccZ bVZ bVZ) (ccZ ioZ (ccZ bVZ (ccZ nJZ (ccZ (jOZ nsZ) (ccZ ioZ bVZ))))))))
theorem pEZ:∀a b,eqIno a b=sm a b:=ccZ bVZ (ccZ bVZ (ccZ ioZ (ccZ ioZ (ccZ bVZ (ccZ (jOZ (ccZ bVZ bVZ)) (ccZ bVZ (jOZ nsZ)))))))
theorem oeZ:∀a b,eqSt a b=sm a b:=ccZ (jOZ ioZ) (ccZ (ccZ (jOZ pEZ) bVZ) (jOZ nJZ))
def nextC(l:List PastT)(s:StT)(i:Nat):Option StT:=match l[i]? with
 |some p=>bif mayB l s.1 i&&(!decide (p.2.2.2>0)||eqRep (repT (resF s.2 p.1) p.1) p.2.1) then some (s.1.set i true,(resF s.2 p.1).1) else none
 |none=>none
theorem dtZ(l:List PastT)(s:StT)(i:Nat):nextC l s i=nextF l s i:=by
 unfold nextC nextF;cases l[i]? with
 |none=>rfl
 |some p=>simp only[p3Z]
def runC(l:List PastT):StT->List Int->Option StT
 |s,[]=>some s
 |s,i::r=>if 0<=i/\i<l.length then(nextC l s i.toNat).bind fun t=>runC l t r else none
theorem ooZ(l:List PastT):∀(o:List Int) (s:StT),runC l s o=runO l s o
 |[],s=>rfl
 |i::r,s=>by
  rw[gjZ];show(if _ then(nextC l s i.toNat).bind _ else none)=_;rw[dtZ];congr 2;funext t;exact ooZ l r t
def orderC(l:List PastT)(o:List Int):Bool:=match runC l (s0 l) o with
 |some t=>wholeB l t.1
 |none=>false
theorem oLZ(l:List PastT)(o:List Int):orderC l o=orderB l o:=by unfold orderC orderB;rw[ooZ];cases runO l (s0 l) o<;>rfl
def addC(x:StT)(acc:List StT):List StT:=bif acc.any (eqSt x) then acc else acc++[x]
def stepI(l:List PastT)(s:StT)(acc:List StT)(i:Nat):List StT:=match nextC l s i with
 |some x=>addC x acc
 |none=>acc
def stepS(l:List PastT)(acc:List StT)(s:StT):List StT:=(List.range l.length).foldl (stepI l s) acc
def lvl1(l:List PastT)(all:List StT)(acc:List StT)(k:Nat):List StT:=match all[k]? with
 |some s=>stepS l acc s
 |none=>acc
def levelF(l:List PastT)(all:List StT):List StT:=(List.range all.length).foldl (lvl1 l all) []
def judgeGo(l:List PastT)(most:Int):Nat->List StT->Bool×Int
 |0,_=>(false,0)
 |n+1,all=>bif nilL all then(false,0) else bif all.any (fun s=>wholeB l s.1) then(true,0) else bif decide (((all.length:Nat):Int)>most) then(false,5) else judgeGo l most n (levelF l all)
def judgeF(l:List PastT)(most:Int):Bool×Int:=bif !rightL l then(false,270) else bif decide (most<1)||decide (most>1000) then(false,2) else judgeGo l most (l.length+2) [s0 l]
theorem loZ{τ ο:Type}{f:τ->Option (τ⊕ο)}{e:ο}(o:Nat->ο)(S:Nat->τ)(t:Nat->Bool)(n:Nat)(hn:n<1000000000)(hs:∀k,k<n->f (S k)=some (bif t k then .inr (o k) else .inl (S (k+1))))(he:f (S n)=some (.inr e)):
 ∃r,iter fuel f (S 0)=some r/\(((List.range n).any t=true/\∃k,k<n/\r=o k)\/((List.range n).any t=false/\r=e)):=by
 refine a5Z (fun m s=>∃k:Nat,s=S k/\k+m=n/\(List.range k).any t=false) _ (fun m s hI=> ?_) (fun s hI=> ?_) n (S 0) (by omega) ⟨0,rfl,by omega,rfl⟩
 ·obtain⟨k,rfl,hk,ha⟩:=hI;rw[hs k (by omega)];cases ht:t k with
  |true=>exact .inr ⟨_,rfl,.inl ⟨ZBc.2 ⟨k,ZBE.2 (by omega),ht⟩,k,by omega,rfl⟩⟩
  |false=>exact .inl ⟨_,rfl,k+1,rfl,by omega,by rw[ZCH,List.any_append,ha];simp[ht]⟩
 ·obtain⟨k,rfl,hk,ha⟩:=hI;obtain rfl:k=n:=by omega
  exact⟨_,he,.inr ⟨ha,rfl⟩⟩
def atB{α:Type}(l:List α)(P:α->Bool)(k:Nat):Bool:=match l[k]? with
 |some y=>P y
 |none=>false
theorem jxZ{α:Type}(l:List α)(P:α->Bool):(List.range l.length).any (atB l P)=l.any P:=by
 unfold atB;rw[Bool.eq_iff_iff,ZBc,ZBc];constructor
 ·rintro⟨k,hk,hP⟩;have hk:=ZBE.1 hk;rw[ZAE hk] at hP;exact⟨_,ZBH hk,hP⟩
 ·rintro⟨y,hy,hP⟩;obtain⟨k,hk⟩:=ZAb hy;exact⟨k,ZBE.2 (ZAB.1 hk).1,by rw[hk];exact hP⟩
theorem owZ{l:List PastT}(hl:l.length<=200)(all:List StT)(hn:all.length<1000000000)(hg:∀s∈all,Good l s):sConFun2 fuel all l=some (all.any (fun s=>wholeB l s.1),l):=by
 unfold sConFun2 sIndFun3 sIndFun3_l0_it;obtain⟨r,hr,h⟩:=loZ (f:=fun tt:Int×List PastT=>sIndFun3_l0 fuel all tt.1 tt.2) (e:=.inl l) (fun k=>.inr ((k:Int),l)) (fun k=>((k:Int),l)) (atB all fun s=>wholeB l s.1) all.length hn (fun k hk=>by
  dsimp only;unfold sIndFun3_l0 lJud1;have g:=ZAE hk;rw[avZ hk,ZAF,agZ hk,ZAA,g,ZAA,lvZ hl (hg _ (ZBH hk)).2,ZAA,ZAA,w64 (by omega)];unfold atB;rw[g];dsimp only;cases wholeB l (all[k]).1<;>rfl) (by
  dsimp only;unfold sIndFun3_l0;rw[amZ (ZAi _)]
  rfl)
 rw[jxZ] at h;refine(congrArg (fun z=>Option.bind (Option.bind z _) _) hr).trans ?_;rw[ZAA];rcases h with⟨h1,k,hk,rfl⟩|⟨h1,rfl⟩
 ·rw[h1];simp only[ZAA];rw[ZAO (by omega)]
 ·rw[h1];rfl
theorem olZ{l:List PastT}(acc:List StT)(hn:acc.length<1000000000)(hL:l.length<=200)(x:StT)(hx:Good l x):sConFun fuel acc x.1 x.2.1.1 x.2.1.2 x.2.2=some (acc.any (eqSt x),(acc,(x.1,(x.2.1.1,(x.2.1.2,x.2.2))))):=by
 unfold sConFun sIndFun2 sIndFun2_l0_it;obtain⟨r,hr,h⟩:=loZ (f:=fun tt:Int×(List StT×(List Bool×(List Ino×(Int×List Byt))))=>sIndFun2_l0 fuel acc tt.1 tt.2.1 tt.2.2.1 tt.2.2.2.1 tt.2.2.2.2.1 tt.2.2.2.2.2) (e:=.inl (acc,(x.1,(x.2.1.1,(x.2.1.2,x.2.2))))) (fun k=>.inr ((k:Int),(acc,(x.1,(x.2.1.1,(x.2.1.2,x.2.2)))))) (fun k=>((k:Int),(acc,(x.1,(x.2.1.1,(x.2.1.2,x.2.2)))))) (atB acc (eqSt x)) acc.length hn (fun k hk=>by
  dsimp only;unfold sIndFun2_l0 lJud2;have g:=ZAE hk;have hxl:=hx.2;have hm:=hx.1.n;have hm2:=hx.1.len;rw[avZ hk,ZAF,agZ hk,ZAA,g,ZAA,show(x.1,((x.2.1.1,x.2.1.2),x.2.2))=x from rfl,stEq x _ (by omega) hx.1 (by omega),ZAA,ZAA,w64 (by omega)];unfold atB;rw[g];simp only[oeZ];cases sm x acc[k]<;>rfl) (by
  dsimp only;unfold sIndFun2_l0;rw[amZ (ZAi _)]
  rfl)
 rw[jxZ] at h;refine(congrArg (fun z=>Option.bind (Option.bind z _) _) hr).trans ?_;rw[ZAA];rcases h with⟨h1,k,hk,rfl⟩|⟨h1,rfl⟩
 ·rw[h1];simp only[ZAA];rw[ZAO (by omega)]
 ·rw[h1];rfl
end Go.Ab.D
set_option maxRecDepth 100000
set_option maxHeartbeats 4000000
namespace Go.Ab.D
open Go Go.Ab
theorem myZ{l:List PastT}{s:StT}(hs:Good l s){acc:List StT}(ha:∀x∈acc,Good l x)(i:Nat):(∀x∈stepI l s acc i,Good l x)/\(stepI l s acc i).length<=acc.length+1:=by
 unfold stepI;cases hx:nextC l s i with
 |none=>exact⟨ha,by simp⟩
 |some x=>
  simp only[addC];cases acc.any (eqSt x) with
  |true=>exact⟨ha,by simp⟩
  |false=>
   simp only[ZAC];refine⟨fun y hy=> ?_,by simp⟩;rcases ZAh.1 hy with hy|hy
   ·exact ha y hy
   ·obtain rfl:=ZAy.1 hy;rw[dtZ] at hx;exact etZ hx hs
theorem rlZ{l:List PastT}(hl:l.length<=200){s:StT}(hs:Good l s)(all acc:List StT)(ha:∀x∈acc,Good l x)(hn:acc.length<=1000000):
 lJud_l0_it fuel l (0,(l,(acc,(s.1,(s.2.1.1,(s.2.1.2,(s.2.2,all)))))))=some (l,(stepS l acc s,all))/\(∀x∈stepS l acc s,Good l x)/\(stepS l acc s).length<=acc.length+l.length:=by
 unfold lJud_l0_it;have:=kWZ (f:=fun tt:Int×(List PastT×(List StT×(List Bool×(List Ino×(Int×(List Byt×List StT))))))=>lJud_l0 fuel l tt.1 tt.2.1 tt.2.2.1 tt.2.2.2.1 tt.2.2.2.2.1 tt.2.2.2.2.2.1 tt.2.2.2.2.2.2.1 tt.2.2.2.2.2.2.2)
  (fun(k:Nat) (a:List StT)=>((k:Int),(l,(a,(s.1,(s.2.1.1,(s.2.1.2,(s.2.2,all)))))))) (fun a=>(l,(a,all))) (fun k a=>stepI l s a k) (fun k a=>(∀x∈a,Good l x)/\a.length<=acc.length+k) l.length (by omega)
  (fun k a hk hP=>by
   have sg:=myZ hs hP.1 k;refine⟨?_,sg.1,by have:=sg.2;have:=hP.2;omega⟩;dsimp only;unfold lJud_l0;rw[avZ hk,ZAF,show(s.1,((s.2.1.1,s.2.1.2),s.2.2))=s from rfl,n7Z hs.1 hl hs.2 hk,ZAA,w64 (by omega)];unfold stepI;rw[dtZ];cases hx:nextF l s k with
   |none=>rfl
   |some x=>
    have hc:=olZ a (by have:=hP.2;omega) hl x (etZ hx hs);simp only[outN,ZAF];rw[hc,ZAA,ZAA];unfold addC;cases a.any (eqSt x) with
    |true=>rfl
    |false=>
     simp only[ZAc,ZAF,ZAC];rw[abZ (by have:=hP.2;simp only[ZAD,ZAp,aKZ];omega)]
     rfl)
  (fun a _=>by
   dsimp only;unfold lJud_l0;rw[amZ (ZAi _)]
   rfl) acc ⟨ha,by omega⟩
 exact⟨this.1,this.2⟩
theorem s3Z{l:List PastT}(hl:l.length<=200)(all:List StT)(ha:∀x∈all,Good l x)(hn:all.length<=1000):
 lJud_l1_it fuel all (0,(l,([],all)))=some (l,levelF l all)/\(∀x∈levelF l all,Good l x)/\(levelF l all).length<=all.length*l.length:=by
 unfold lJud_l1_it;have:=kWZ (f:=fun tt:Int×(List PastT×(List StT×List StT))=>lJud_l1 fuel all tt.1 tt.2.1 tt.2.2.1 tt.2.2.2)
  (fun(k:Nat) (a:List StT)=>((k:Int),(l,(a,all)))) (fun a=>(l,a)) (fun k a=>lvl1 l all a k) (fun k a=>(∀x∈a,Good l x)/\a.length<=k*l.length) all.length (by omega)
  (fun k a hk hP=>by
   have g:=ZAE hk;have hmul:k*l.length<=1000*200:=Nat.mul_le_mul (by omega) hl;have hin:=rlZ hl (ha _ (ZBH hk)) all a hP.1 (by have:=hP.2;omega);unfold lvl1;rw[g];simp only;refine⟨?_,hin.2.1,by have:=hin.2.2;have:=hP.2;rw[ZBT];omega⟩;unfold lJud_l1;rw[avZ hk,ZAF,agZ hk,ZAA,g,ZAA,hin.1,ZAA,w64 (by omega)]
   rfl)
  (fun a _=>by
   dsimp only;unfold lJud_l1;rw[amZ (ZAi _)]
   rfl) [] ⟨fun x hx=>(by cases hx),by simp⟩
 exact⟨this.1,this.2⟩
def cntP(s:StT):Nat:=s.1.count true
theorem pZZ{l:List PastT}{s t:StT}{i:Nat}(h:nextF l s i=some t)(hg:Good l s):cntP t=cntP s+1:=by
 obtain⟨p,hp,hm,_,rfl⟩:=doZ h;have hi:i<s.1.length:=by rw[hg.2];exact(ZAB.1 hp).1
 unfold mayB at hm;rw[hp] at hm;simp only[ZAD] at hm;have h0:=hm.1;rw[ZBj,ZAE hi] at h0;have h1:s.1[i]=false:=by simpa using h0
 unfold cntP;show(s.1.set i true).count true=_;rw[List.count_set hi,h1];simp
theorem oDZ{l:List PastT}{s:StT}{acc:List StT}{i:Nat}{x:StT}:x∈stepI l s acc i↔x∈acc\/nextF l s i=some x:=by
 unfold stepI;rw[dtZ];cases hx:nextF l s i with
 |none=>simp
 |some y=>
  simp only[addC,ZAH];cases ha:acc.any (eqSt y) with
  |true=>
   simp only[ZAF];refine⟨.inl,fun h=>h.elim id fun h=> ?_⟩;subst h;obtain⟨z,hz,he⟩:=ZBc.1 ha;rw[oeZ,qpZ] at he;rw[he];exact hz
  |false=>
   simp only[ZAC,ZAh,ZAy];exact⟨fun h=>h.imp id Eq.symm,fun h=>h.imp id Eq.symm⟩
theorem htZ{α β:Type}(f:List β->α->List β)(R:α->β->Prop)(hf:∀acc a x,x∈f acc a↔x∈acc\/R a x):∀(l:List α) (acc:List β) (x:β),x∈l.foldl f acc↔x∈acc\/∃a∈l,R a x
 |[],acc,x=>by simp
 |a::l,acc,x=>by
  rw[List.foldl_cons,htZ f R hf l,hf];simp only[ZAV];constructor
  ·rintro((h|h)|⟨b,hb,h⟩)
   ·exact .inl h
   ·exact .inr ⟨a,.inl rfl,h⟩
   ·exact .inr ⟨b,.inr hb,h⟩
  ·rintro(h|⟨b,rfl|hb,h⟩)
   ·exact .inl (.inl h)
   ·exact .inl (.inr h)
   ·exact .inr ⟨b,hb,h⟩
theorem nBZ{l:List PastT}{acc:List StT}{s x:StT}:x∈stepS l acc s↔x∈acc\/∃i,i<l.length/\nextF l s i=some x:=by
 unfold stepS;rw[htZ (stepI l s) (fun i x=>nextF l s i=some x) (fun acc a x=>oDZ)];simp only[ZBE]
theorem nXZ{l:List PastT}{all:List StT}{x:StT}:x∈levelF l all↔∃s∈all,∃i,i<l.length/\nextF l s i=some x:=by
 unfold levelF;rw[htZ (lvl1 l all) (fun k x=>∃s,all[k]? =some s/\∃i,i<l.length/\nextF l s i=some x) (fun acc a x=>by
  unfold lvl1;cases h:all[a]? with
  |none=>simp
  |some s=>simp only[nBZ,ZAH,exists_eq_left'])]
 constructor
 ·rintro(h|⟨k,hk,s,hs,h⟩)
  ·cases h
  ·exact⟨s,ZAN hs,h⟩
 ·rintro⟨s,hs,h⟩;obtain⟨k,hk⟩:=ZAb hs;exact .inr ⟨k,ZBE.2 (ZAB.1 hk).1,s,hk,h⟩
theorem hJZ(l:List PastT)(hf:∀p∈l,FitP p)(most:Int):lJud fuel l most=some (judgeF l most):=by
 unfold lJud judgeF;rw[hzZ l hf,ZAA];cases hR:rightL l with
 |false=>rfl
 |true=>
  simp only[ZAK,ZAC];have hl:l.length<=200:=by
   unfold rightL at hR;rw[ZAD] at hR;have:=hR.1;simp at this;omega
  by_cases m1:most<1
  ·rw[ZAO m1];rfl
  rw[ZAJ m1];simp only[ZAC,ZAA,ZCE];by_cases m2:most>1000
  ·rw[ZAO m2];rfl
  rw[ZAJ m2];simp only[ZAC];refine(lhZ l hl fun x r1=>(lJud_l2_it fuel most (l,[(x,((r1.2.1,r1.1),r1.2.2))])).bind fun o5=>match o5 with
   |.inl s=>some (false,0)
   |.inr o6=>some o6).trans ?_
  simp only;obtain⟨o,ho,hq⟩:∃o,lJud_l2_it fuel most (l,[s0 l])=some o/\(match o with|.inl _=>(false,0)|.inr o6=>o6)=judgeGo l most (l.length+2) [s0 l]:=by
   unfold lJud_l2_it;refine a5Z (f:=fun tt:List PastT×List StT=>lJud_l2 fuel most tt.1 tt.2) (fun n x=>∃all,x=(l,all)/\(∀s∈all,Good l s/\cntP s+n=l.length+1)/\all.length<=1000000/\judgeGo l most (l.length+2) [s0 l]=judgeGo l most (n+1) all) _ (fun n x hI=> ?_) (fun x hI=> ?_) (l.length+1) _ (by omega)
    ⟨_,rfl,fun s hs=> ?_,by simp,rfl⟩
   ·obtain⟨all,rfl,hg,hal,hj⟩:=hI;rw[hj];dsimp only;unfold lJud_l2;cases all with
    |nil=>exact .inr ⟨_,rfl,rfl⟩
    |cons a r=>
     rw[ZAO (show(((a::r).length:Nat):Int)>0 by simp),ZAF,owZ hl _ (by omega) (fun s hs=>(hg s hs).1),ZAA];show _\/∃o,_/\_=bif (a::r).any (fun s=>wholeB l s.1) then _ else bif decide ((((a::r).length:Nat):Int)>most) then _ else _;cases hw:(a::r).any (fun s=>wholeB l s.1) with
     |true=>exact .inr ⟨_,rfl,rfl⟩
     |false=>
      simp only[ZAC];by_cases hm:(((a::r).length:Nat):Int)>most
      ·rw[ZAO hm];exact .inr ⟨_,rfl,rfl⟩
      ·rw[ZAJ hm];simp only[ZAC];obtain⟨q1,q2,q3⟩:=s3Z hl (a::r) (fun s hs=>(hg s hs).1) (by omega);rw[q1,ZAA];refine .inl ⟨_,rfl,_,rfl,fun s hs=>⟨q2 s hs,?_⟩,?_,?_⟩
       ·obtain⟨t,ht,i,hi,hx⟩:=nXZ.1 hs;have:=pZZ hx (hg t ht).1;have:=(hg t ht).2;omega
       ·have:(a::r).length*l.length<=1000*200:=Nat.mul_le_mul (by omega) hl;omega
       ·show(bif (a::r).any (fun s=>wholeB l s.1) then _ else bif decide ((((a::r).length:Nat):Int)>most) then _ else judgeGo l most (n+1) (levelF l (a::r)))=_;rw[hw,ZAJ hm]
        rfl
   ·obtain⟨all,rfl,hg,hal,hj⟩:=hI;rw[hj];have:all=[]:=by
     cases all with
     |nil=>rfl
     |cons a r=>
      have h1:=hg a ZAm;have h2:cntP a<=a.1.length:=List.count_le_length;have h3:=h1.1.2;omega
    subst this;exact⟨_,rfl,rfl⟩
   ·obtain rfl:=ZAy.1 hs;refine⟨raZ l,?_⟩;unfold cntP s0;rw[List.count_replicate];simp
  refine(congrArg (fun z=>Option.bind z _) ho).trans ?_;rw[ZAA,<-hq];cases o<;>rfl
theorem bTZ(l:List PastT)(hf:∀p∈l,FitP p):law28_judged fuel l=some (bif !((judgeF l 100).2==0) then IntKind.wrap .i64 (10+(judgeF l 100).2) else bif (judgeF l 100).1 then 1 else 0):=by
 unfold law28_judged;rw[hJZ l hf,ZAA];cases((judgeF l 100).2==0)<;>cases(judgeF l 100).1<;>rfl
def pst(client xid:Int)(op:UInt8)(b e:Int)(er:Int)(h:Int×Int):PastT:=((client,(xid,(op,((1,1),([102],((0,0),([],(0,(0,[]))))))))),(if e>0 then(client,(xid,(er,(h,(false,(0,([],([],(false,0))))))))) else repZ,(b,e)))
theorem rsZ(client xid:Int)(op:UInt8)(b e:Int)(er:Int)(h:Int×Int):FitP (pst client xid op b e er h):=by
 unfold FitP pst repZ;simp only;split<;>simp
theorem fit2{p q:PastT}(hp:FitP p)(hq:FitP q):∀x∈[p,q],FitP x:=fun x hx=>by
 simp only[ZAV,List.not_mem_nil,or_false] at hx;rcases hx with rfl|rfl
 ·exact hp
 ·exact hq
theorem otZ{p q:PastT}(hp:FitP p)(hq:FitP q)(o:List Int)(ho:o.length<1000):lOrd fuel [p,q] o=some (rightL [p,q]&&orderC [p,q] o):=by
 rw[pSZ (hzZ _ (fit2 hp hq)) (fun _=>by simp) o (by omega),oLZ]
theorem j3Z{α β:Type}(a:α)(f:α->Option β):(some a).bind f=f a:=Eq.trans (Eq.refl _) (Eq.refl _)
theorem qPZ{α:Type}(a b:α):(bif true then a else b)=a:=Eq.trans (Eq.refl _) (Eq.refl _)
theorem get0{α:Type}(a:α)(l:List α):(a::l)[0]? =some a:=Eq.trans (Eq.refl _) (Eq.refl _)
theorem etaP(p:PastT):((p.1.1,(p.1.2.1,(p.1.2.2.1,p.1.2.2.2))),p.2)=p:=by
 have h:∀q:PastT,q=p->((q.1.1,(q.1.2.1,(q.1.2.2.1,q.1.2.2.2))),q.2)=p:=fun q hq=>by subst hq;rfl
 exact h _ rfl
theorem oxZ:law28_awake fuel=some true:=by
 have P:∀(client xid op b e er:Int) (h:Int×Int) (c:UInt8),byte? op=some c->law28_past fuel client xid op b e er h=some (pst client xid c b e er h):=fun client xid op b e er h c hc=>by
  unfold law28_past law28_root pst;rw[ZAA,hc,ZAA];by_cases he:e>0
  ·rw[ZAO he,ZAQ he];rfl
  ·rw[ZAJ he,ZAL he];rfl
 have F:=rsZ;have j1:law28_judged fuel [pst 0 1 (UInt8.ofNat 2) 1 4 0 (2,1),pst 1 1 (UInt8.ofNat 1) 2 3 0 (2,1)]=some 1:=(bTZ _ (fit2 (F ..) (F ..))).trans (by kernel_rfl);have j2:lOrd fuel [pst 0 1 (UInt8.ofNat 2) 1 4 0 (2,1),pst 1 1 (UInt8.ofNat 1) 2 3 0 (2,1)] [0,1]=some true:=(otZ (F ..) (F ..) _ (by simp)).trans (by kernel_rfl);have j3:law28_judged fuel [pst 0 1 (UInt8.ofNat 2) 1 4 0 (2,1),pst 1 1 (UInt8.ofNat 1) 2 3 171 (0,0)]=some 1:=(bTZ _ (fit2 (F ..) (F ..))).trans (by kernel_rfl);have j4:lOrd fuel [pst 0 1 (UInt8.ofNat 2) 1 4 0 (2,1),pst 1 1 (UInt8.ofNat 1) 2 3 171 (0,0)] [1,0]=some true:=(otZ (F ..) (F ..) _ (by simp)).trans (by kernel_rfl);have j5:lOrd fuel [pst 0 1 (UInt8.ofNat 2) 1 4 0 (2,1),pst 1 1 (UInt8.ofNat 1) 2 3 171 (0,0)] [0,1]=some false:=(otZ (F ..) (F ..) _ (by simp)).trans (by kernel_rfl);have j6:law28_judged fuel [pst 0 1 (UInt8.ofNat 2) 1 4 0 (2,1),pst 1 1 (UInt8.ofNat 1) 5 6 171 (0,0)]=some 0:=(bTZ _ (fit2 (F ..) (F ..))).trans (by kernel_rfl);have j7:law28_judged fuel [pst 0 1 (UInt8.ofNat 2) 1 4 0 (2,1),pst 1 1 (UInt8.ofNat 2) 2 3 0 (2,1)]=some 0:=(bTZ _ (fit2 (F ..) (F ..))).trans (by kernel_rfl);have j8:law28_judged fuel [pst 0 1 (UInt8.ofNat 2) 1 4 0 (2,1),pst 1 1 (UInt8.ofNat 2) 2 3 172 (0,0)]=some 1:=(bTZ _ (fit2 (F ..) (F ..))).trans (by kernel_rfl);have j9:law28_judged fuel [pst 0 1 (UInt8.ofNat 2) 1 0 0 (0,0),pst 1 1 (UInt8.ofNat 1) 5 6 0 (2,1)]=some 1:=(bTZ _ (fit2 (F ..) (F ..))).trans (by kernel_rfl);have j10:law28_judged fuel [pst 0 1 (UInt8.ofNat 2) 1 0 0 (0,0),pst 1 1 (UInt8.ofNat 1) 5 6 171 (0,0)]=some 1:=(bTZ _ (fit2 (F ..) (F ..))).trans (by kernel_rfl);have t1:((1:Int)==1)=true:=ZAT _;have t0:((0:Int)==0)=true:=ZAT _;unfold law28_awake;rw[P 0 1 2 1 4 0 (2,1) (UInt8.ofNat 2) rfl,j3Z,P 1 1 1 2 3 0 (2,1) (UInt8.ofNat 1) rfl,j3Z,P 1 1 1 2 3 171 (0,0) (UInt8.ofNat 1) rfl,j3Z,P 0 1 2 1 0 0 (0,0) (UInt8.ofNat 2) rfl,j3Z]
 simp only[hQZ,j3Z,etaP,j1,j2,j3,j4,j5,t1,qPZ,get0];rw[P 1 1 1 5 6 171 (0,0) (UInt8.ofNat 1) rfl,P 1 1 2 2 3 0 (2,1) (UInt8.ofNat 2) rfl,P 1 1 2 2 3 172 (0,0) (UInt8.ofNat 2) rfl];simp only[hQZ,j3Z,etaP,j6,j7,j8,t0,t1,qPZ,ZAc,get0];rw[P 1 1 1 5 6 0 (2,1) (UInt8.ofNat 1) rfl,P 1 1 1 5 6 171 (0,0) (UInt8.ofNat 1) rfl];simp only[hQZ,j3Z,etaP,j9,j10,t1,qPZ,get0]
end Go.Ab.D
set_option maxRecDepth 100000
set_option maxHeartbeats 4000000
namespace Go.Ab.D
open Go Go.Ab
structure Alt (p p':PastT):Prop where
 c:p'.1=p.1
 f:failB p'=failB p
 r:failB p'=false->p'.2.2.2>0->p.2.2.2>0/\p'.2.1=p.2.1
 t:p'.2.2.1<=100*p.1.2.1/\(p'.2.2.2<=0\/100*p.1.2.1<=p'.2.2.2)
theorem qJZ{l:List PastT}(h:∀p∈l,FitP p){q:Nat}{p':PastT}(hf:FitP p'):∀p∈l.set q p',FitP p:=fun p hp=>by
 rcases List.mem_or_eq_of_mem_set hp with hp|rfl
 ·exact h p hp
 ·exact hf
end Go.Ab.D
set_option maxRecDepth 100000
set_option maxHeartbeats 4000000
namespace Go.Ab.D
open Go Go.Ab
theorem TInv.right{L:List SayL}{k:Nat}{m:Mod}{hs:List (Int×Int)}{out:List PastT}{ord en:List Int}(I:TInv L k m hs out ord en)(hk:k<=12):rightL out=true:=by
 unfold rightL;rw[I.rgt,ZAJ (show¬((out.length:Nat):Int)>200 by have:=I.olen;omega)]
 rfl
end Go.Ab.D
set_option maxRecDepth 100000
set_option maxHeartbeats 4000000
namespace Go.Ab.D
open Go Go.Ab
structure Calm (l:List PastT):Prop where
 t:∀p∈l,p.2.2.1=100*p.1.2.1/\p.2.2.2=100*p.1.2.1/\failB p=false/\1<=p.1.2.1
 s:l.Pairwise fun p q=>p.1.2.1<q.1.2.1
theorem Calm.timed{l:List PastT}(h:Calm l):Timed l:=⟨fun p hp=>by have:=h.t p hp;omega,h.s⟩
theorem Calm.wait{l:List PastT}(h:Calm l){p:PastT}(hp:p∈l):waitB p=true:=by
 obtain⟨h1,h2,h3,h4⟩:=h.t p hp;unfold failB at h3;unfold waitB;rw[ZAO (show p.2.2.2>0 by omega)] at h3⊢;rw[ZAU] at h3⊢;rw[h3];rfl
theorem Calm.nofail{l:List PastT}(h:Calm l){j:Nat}(hj:j<l.length):nofail l j=true:=by
 have g:=ZAE hj;exact dMZ g (h.wait (ZBH hj))
theorem Calm.only{l:List PastT}(h:Calm l){k i:Nat}(hk:k<l.length){m:Mod}(hi:i≠k):nextF l (placedN l k,m) i=none:=by
 cases hx:nextF l (placedN l k,m) i with
 |none=>rfl
 |some t=>
  obtain⟨p,hp,hm,_,_⟩:=doZ hx;have hil:=(ZAB.1 hp).1;unfold mayB at hm;rw[hp] at hm;simp only[ZAD] at hm;obtain⟨h1,h2,h3⟩:=hm;rw[blZ hil,h.nofail hil,Bool.and_true] at h1;by_cases hik:i<k
  ·rw[ZAO hik] at h1;cases h1
  ·have hq:l[k]? =some l[k]:=ZAE hk;have:(List.range l.length).any (lateB l (placedN l k) p.2.2.1)=true:=by
    refine ZBc.2 ⟨k,ZBE.2 hk,?_⟩;unfold lateB;rw[hq];simp only;rw[blZ hk,ZAJ (ZAi k),h.wait (ZBH hk)];have q1:=h.t l[k] (ZBH hk);have q2:=h.t p (ZAN hp);have q3:=List.pairwise_iff_getElem.1 h.s k i hk hil (by omega);rw[(ZAB.1 hp).2] at q3;rw[ZAO (show(l[k]).2.2.2<p.2.2.1 by omega)]
    rfl
   rw[this] at h3;cases h3
theorem iWZ{α:Type}(f:α->Nat->α)(k:Nat)(h:∀a i,i≠k->f a i=a)(a:α):∀n,(List.range n).foldl f a=if k<n then f a k else a
 |0=>rfl
 |n+1=>by
  rw[ZCH,List.foldl_append,iWZ f k h a n];show f _ n=_;by_cases hk:k=n
  ·subst hk;rw[ZAL (ZAi _),ZAQ (Nat.lt_succ_self _)]
  ·rw[h _ n (fun e=>hk e.symm)];by_cases h1:k<n
   ·rw[ZAQ h1,ZAQ (by omega)]
   ·rw[ZAL h1,ZAL (by omega)]
theorem Calm.level{l:List PastT}(h:Calm l){k:Nat}(hk:k<l.length)(m:Mod):levelF l [(placedN l k,m)]=match nextF l (placedN l k,m) k with|some t=>[t]|none=>[]:=by
 show(List.range l.length).foldl (stepI l (placedN l k,m)) []=_;rw[iWZ (stepI l (placedN l k,m)) k (fun a i hi=>by unfold stepI;rw[dtZ,h.only hk hi]),ZAQ hk];unfold stepI;rw[dtZ];cases nextF l (placedN l k,m) k<;>rfl
theorem Calm.notWhole{l:List PastT}(h:Calm l){k:Nat}(hk:k<l.length):wholeB l (placedN l k)=false:=by
 unfold wholeB;have:(List.range l.length).any (dueB l (placedN l k))=true:=by
  refine ZBc.2 ⟨k,ZBE.2 hk,?_⟩;unfold dueB;rw[ZAE hk];simp only;rw[blZ hk,ZAJ (ZAi k),h.wait (ZBH hk)]
  rfl
 rw[this]
 rfl
theorem Calm.step{l:List PastT}(h:Calm l){k:Nat}(hk:k<l.length)(m:Mod)(n:Nat):judgeGo l 1 (n+1) [(placedN l k,m)]=judgeGo l 1 n (match nextF l (placedN l k,m) k with|some t=>[t]|none=>[]):=by
 show(bif [(placedN l k,m)].any (fun s=>wholeB l s.1) then _ else bif decide ((([(placedN l k,m)].length:Nat):Int)>1) then _ else judgeGo l 1 n (levelF l [(placedN l k,m)]))=_;rw[h.level hk];simp only[List.any_cons,List.any_nil,h.notWhole hk]
 rfl
theorem Calm.next{l:List PastT}(h:Calm l){k:Nat}{p:PastT}(hp:l[k]? =some p){m:Mod}(hr:repT (resF m p.1) p.1=p.2.1):nextF l (placedN l k,m) k=some (placedN l (k+1),(resF m p.1).1):=by
 have hk:=(ZAB.1 hp).1;have:=pDZ (s:=(placedN l k,m)) hp (stZ h.timed hp (h.t p (ZAN hp)).2.2.1) (fun _=>hr);rw[this,jqZ l k hk,h.nofail hk,ZAQ rfl]
theorem Calm.runs{l:List PastT}(h:Calm l){k:Nat}{p:PastT}(hp:l[k]? =some p):runM M0 (l.take (k+1))=(resF (runM M0 (l.take k)) p.1).1:=by
 rw[mRZ M0 hp,(h.t p (ZAN hp)).2.2.1]
 rfl
theorem Calm.judged{l:List PastT}(h:Calm l)(hok:okM M0 l):∀(d k:Nat),k+d=l.length->judgeGo l 1 (d+2) [(placedN l k,runM M0 (l.take k))]=(true,0)
 |0,k,hd=>by
  obtain rfl:k=l.length:=by omega
  show(bif [(placedN l l.length,runM M0 (l.take l.length))].any (fun s=>wholeB l s.1) then _ else _)=_;simp only[List.any_cons,ojZ]
  rfl
 |d+1,k,hd=>by
  have hk:k<l.length:=by omega
  have hp:=ZAE hk;have ht:=h.t _ (ZBH hk);rw[h.step hk,h.next hp (i8Z hok hp ht.2.2.1 (by omega)),<-h.runs hp];exact h.judged hok d (k+1) (by omega)
theorem Calm.wrong{l:List PastT}(h:Calm l){q:Nat}{p:PastT}(hp:l[q]? =some p)(hok:∀k p,k<q->l[k]? =some p->repT (resF (runM M0 (l.take k)) p.1) p.1=p.2.1)(hw:repT (resF (runM M0 (l.take q)) p.1) p.1≠p.2.1):
 ∀(d k n:Nat),k+d=q->judgeGo l 1 (d+(n+2)) [(placedN l k,runM M0 (l.take k))]=(false,0)
 |0,k,n,hd=>by
  obtain rfl:k=q:=by omega
  have hk:=(ZAB.1 hp).1;have ht:=h.t _ (ZAN hp);rw[ZAs,h.step hk];have:nextF l (placedN l k,runM M0 (l.take k)) k=none:=by
   cases hx:nextF l (placedN l k,runM M0 (l.take k)) k with
   |none=>rfl
   |some t=>
    obtain⟨p',hp',_,hr,_⟩:=doZ hx;rw[hp] at hp';cases hp';exact absurd (hr (by omega)) hw
  rw[this]
  rfl
 |d+1,k,n,hd=>by
  have hk:k<l.length:=by have:=(ZAB.1 hp).1;omega
  have hpk:=ZAE hk;rw[show d+1+(n+2)=(d+(n+2))+1 by omega,h.step hk,h.next hpk (hok k _ (by omega) hpk),<-h.runs hpk];exact h.wrong hp hok hw d (k+1) n (by omega)
def gR(p:PastT):CallT×((Int×Int)×Bool):=(p.1,(p.2.2,oneB p))
theorem s0Z{w w' p p':PastT}(h1:gR w=gR w')(h2:gR p=gR p'):folB w p=folB w' p':=by
 unfold gR at h1 h2;simp only[ZAu] at h1 h2;unfold folB;rw[h1.1,h1.2.1,h2.1,h2.2.1]
theorem ieZ:∀(l l':List PastT) (bef bef':Int->Option PastT),l.map gR=l'.map gR->(∀c,(bef c).map gR=(bef' c).map gR)->rightGo l bef=rightGo l' bef'
 |[],[],_,_,_,_=>rfl
 |[],b::r',_,_,h,_=>by cases h
 |a::r,[],_,_,h,_=>by cases h
 |a::r,b::r',bef,bef',h,hb=>by
  obtain⟨h1,h2⟩:=List.cons.inj h;have hc:a.1=b.1:=congrArg (·.1) h1;have ho:oneB a=oneB b:=congrArg (·.2.2) h1;show(oneB a&&((match bef a.1.1 with|some w=>folB w a|none=>true)&&rightGo r _))=(oneB b&&((match bef' b.1.1 with|some w=>folB w b|none=>true)&&rightGo r' _));have hb1:=hb a.1.1;rw[ho,ieZ r r' _ (fun c=>if c=b.1.1 then some b else bef' c) h2 (fun c=>by
   rw[hc];split
   ·show some _=some _;rw[h1]
   ·exact hb c)]
  congr 2;rw[<-hc];cases h3:bef a.1.1 with
  |none=>
   rw[h3] at hb1;cases h4:bef' a.1.1 with
   |none=>rfl
   |some w'=>rw[h4] at hb1;cases hb1
  |some w=>
   rw[h3] at hb1;cases h4:bef' a.1.1 with
   |none=>rw[h4] at hb1;cases hb1
   |some w'=>
    rw[h4] at hb1;exact s0Z (ZAk hb1) h1
theorem jLZ{α β:Type}(f:α->β):∀(l:List α) (q:Nat) (p p':α),l[q]? =some p->f p'=f p->(l.set q p').map f=l.map f
 |[],_,_,_,h,_=>by cases h
 |a::l,0,p,p',h,hf=>by
  obtain rfl:=ZAk h;show f p'::_=f a::_;rw[hf]
 |a::l,q+1,p,p',h,hf=>by
  show f a::(l.set q p').map f=f a::l.map f;rw[jLZ f l q p p' h hf]
structure Alt2 (p p':PastT):Prop where
 c:p'.1=p.1
 e:p'.2.2=p.2.2
 f:failB p'=false
 o:oneB p'=true
 n:p'.2.1≠p.2.1
 fit:FitP p'
theorem o1Z{l:List PastT}(h:Calm l)(hok:okM M0 l)(hR:rightL l=true){q:Nat}{p p':PastT}(hp:l[q]? =some p)(h1:oneB p=true)(a:Alt2 p p'):judgeF (l.set q p') 1=(false,0):=by
 have hq:=(ZAB.1 hp).1;have hR':rightL (l.set q p')=true:=by
  unfold rightL at hR⊢;rw[ZAD] at hR;rw[ZAt,hR.1,ZAU,ieZ _ l _ (fun _=>none) (jLZ gR l q p p' hp (by unfold gR;rw[a.c,a.e,a.o,h1])) (fun _=>rfl)];exact hR.2
 have hC:Calm (l.set q p'):=by
  refine⟨fun x hx=> ?_,?_⟩
  ·rcases List.mem_or_eq_of_mem_set hx with hx|rfl
   ·exact h.t x hx
   ·have:=h.t p (ZAN hp);rw[a.c,a.e,a.f];exact⟨this.1,this.2.1,rfl,this.2.2.2⟩
  ·have:=jLZ (fun p:PastT=>p.1.2.1) l q p p' hp (by show p'.1.2.1=p.1.2.1;rw[a.c]);have h2:=(List.pairwise_map (f:=fun p:PastT=>p.1.2.1) (R:=fun a b=>a<b)).2 h.s;rw[<-this] at h2;exact List.pairwise_map.1 h2
 have hpre:∀k,k<=q->runM M0 ((l.set q p').take k)=runM M0 (l.take k):=fun k hk=>by rw[List.take_set_of_le hk]
 have hset:(l.set q p')[q]? =some p':=ZAX hq;have ht:=h.t p (ZAN hp);have hlast:repT (resF (runM M0 (l.take q)) p.1) p.1=p.2.1:=i8Z hok hp ht.2.2.1 (by omega);have key:=hC.wrong hset (fun k x hk hx=>by
  rw[ZAW (by omega)] at hx;have hx2:=h.t x (ZAN hx);rw[hpre k (by omega)];exact i8Z hok hx hx2.2.2.1 (by omega)) (by rw[hpre q (ZAM _),a.c,hlast];exact fun e=>a.n e.symm) q 0 (l.length-q) (by omega)
 unfold judgeF;rw[hR',ZAt];have e0:s0 (l.set q p')=(placedN (l.set q p') 0,runM M0 ((l.set q p').take 0)):=by rw[nzZ];rfl
 rw[e0,show l.length+2=q+(l.length-q+2) by omega];exact key
theorem TInv.calmO{L:List SayL}{k:Nat}{m:Mod}{hs:List (Int×Int)}{out:List PastT}{ord en:List Int}(I:TInv L k m hs out ord en)(h:∀x∈L,calmB x):Calm out:=
 ⟨fun p hp=>⟨(I.calm h p hp).1,(I.calm h p hp).2.1,(I.calm h p hp).2.2,(I.tm p hp).1.1⟩,I.srt⟩
theorem Calm.idxs{l:List PastT}(h:Calm l):(idxs l).length=l.length:=by
 unfold D.idxs;rw[ZBS,ZBk.2 (fun j hj=>h.nofail (ZBE.1 hj)),ZB2]
theorem gGZ:∀(l:List PastT) (bef:Int->Option PastT) (p:PastT),rightGo l bef=true->p∈l->oneB p=true
 |[],_,_,_,hp=>by cases hp
 |a::r,bef,p,h,hp=>by
  unfold rightGo at h;rw[ZAD,ZAD] at h;rcases ZAV.1 hp with e|hp
  ·rw[e];exact h.1
  ·exact gGZ r _ p h.2.2 hp
end Go.Ab.D
set_option maxRecDepth 100000
set_option maxHeartbeats 4000000
namespace Go.Ab.D
open Go Go.Ab
theorem r1Z(l:List SayL):∃c,law28_LinearWrong_l0_it fuel l (0,[])=some c/\∀x∈c,calmB x:=by
 unfold law28_LinearWrong_l0_it;refine a5Z (f:=fun tt:Int×List SayL=>law28_LinearWrong_l0 fuel l tt.1 tt.2) (fun n s=>∃(k:Nat) (c:List SayL),s=((k:Int),c)/\k+n=12/\c.length<=k/\∀x∈c,calmB x) (fun c=>∀x∈c,calmB x) (fun n s hI=> ?_) (fun s hI=> ?_) 12 _ (by omega) ⟨0,[],rfl,by omega,by simp,fun x hx=>by cases hx⟩
 ·obtain⟨k,c,rfl,hk,hc,hx⟩:=hI;dsimp only;unfold law28_LinearWrong_l0;by_cases hlt:k<l.length
  ·rw[avZ hlt,ZAF,ZAO (show(k:Int)<12 by omega),ZAA,ZAF,agZ hlt,ZAA,ZAE hlt,ZAA,hQZ,ZAA,hQZ,ZAA,ZAA,
    abZ (by simp only[ZAD,ZAp,aKZ];omega),w64 (by omega)]
   refine .inl ⟨_,rfl,k+1,_,rfl,by omega,by simp;omega,fun x hm=> ?_⟩;rcases ZAh.1 hm with hm|hm
   ·exact hx x hm
   ·obtain rfl:=ZAy.1 hm;exact⟨rfl,rfl,rfl,rfl⟩
  ·rw[amZ hlt];exact .inr ⟨_,rfl,hx⟩
 ·obtain⟨k,c,rfl,hk,hc,hx⟩:=hI;dsimp only;unfold law28_LinearWrong_l0;rw[ZAJ (show¬(k:Int)<12 by omega)];refine⟨c,?_,hx⟩;cases decide ((k:Int)<((l.length:Nat):Int))<;>rfl
theorem alt2{p p':PastT}(hc:p'.1=p.1)(he:p'.2.2=p.2.2)(h1:oneB p=true)(hE:p.2.2.2≠0)(h151:p'.2.1.2.2.1≠151)(hr:rightReply p'.2.1=true)(ha:p'.2.1.1=p.2.1.1)(hb:p'.2.1.2.1=p.2.1.2.1)(hn:p'.2.1≠p.2.1)(hf:FitP p'):Alt2 p p':=by
 refine⟨hc,he,kTZ h151,?_,hn,hf⟩;unfold oneB at h1⊢;rw[hc,he,hr,ha,hb];rw[ZAS.2 hE] at h1⊢;simp only[ZAC,ZAD,ZAU] at h1⊢;exact⟨h1.1,h1.2.1,h1.2.2.1,h1.2.2.2.1,h1.2.2.2.2.1,h1.2.2.2.2.2.2⟩
theorem pMZ{r:RepT}(h:rightReply r=true):whoseB r.1 r.2.1=true:=by
 unfold rightReply at h;rw[ZAD] at h;exact h.1
theorem icZ{a b e:Int}(hw:whoseB a b=true)(he:1<=e/\e<=1000):rightReply (a,(b,(e,((0,0),(false,(0,([],([],(false,0)))))))))=true:=by
 unfold rightReply;simp only;rw[hw,ZAO (show 0<=e/\e<=1000 by omega),ZAQ (by omega)]
 rfl
theorem cKZ(l:List SayL)(which what:Int):law28_LinearWrong fuel l which what=some true:=by
 obtain⟨cl,hcl,hcalm⟩:=r1Z l;obtain⟨k,m,hs,out,ord,en,ht,I,hk,_⟩:=reZ cl;have hol:=I.olen;have hC:=I.calmO hcalm;have hR:=I.right hk;have hr:=hzZ out I.fit;rw[hR] at hr;have hJ:judgeF out 1=(true,0):=by
  unfold judgeF;rw[hR];have:=hC.judged I.oks out.length 0 (by omega);rw[nzZ] at this;exact this
 unfold law28_LinearWrong;rw[hcl,ZAA,ht,ZAA];simp only;rw[hr,ZAA];simp only[ZAK,ZAC,ZAA];rw[show(((ord.length:Nat):Int)==((out.length:Nat):Int))=true by rw[I.oeq,hC.idxs];simp];simp only[ZAK,ZAC];rw[hJZ out I.fit,ZAA,hJ];simp only[ZAK,ZAC,ZAA];rw[show(!((0:Int)==0))=false from rfl,ZAC];by_cases h0:out.length=0
 ·rw[show(((out.length:Nat):Int)==0)=true by rw[h0];rfl,ZAF,oxZ];rfl
 rw[show(((out.length:Nat):Int)==0)=false from ZAS.2 (by omega),ZAC];have pc:=faZ which (n:=out.length) (by omega) (by omega);rw[eYZ _ _ (by omega),ZAA,aqZ (by omega) (by omega),ZAA];obtain⟨q,hq⟩:∃q:Nat,(pickI which out.length).toNat=q:=⟨_,rfl⟩;rw[hq];have hql:q<out.length:=by omega
 obtain⟨p,hp⟩:∃p,out[q]? =some p:=⟨_,ZAE hql⟩;have hpm:=ZAN hp;have htp:=hC.t p hpm;have hfp:=I.fit p hpm;have h1:=gGZ out _ p I.rgt hpm;have hE:p.2.2.2≠0:=by omega
 have hrep:=i8Z I.oks hp htp.2.2.1 (by omega);have hm:=obZ M0 (out.take q) rnZ;have hro:=mKZ hm p.1;have hrc:rightCall p.1=true:=by
  unfold oneB at h1;rw[ZAD] at h1;exact h1.1
 have hrr:=(jrZ hm hrc).1;rw[hrep] at hrr;have e1:p.2.1.2.2.1=(resF (runM M0 (out.take q)) p.1).2.1:=by rw[<-hrep];rfl
 have hsz:0<=p.2.1.2.2.2.2.2.1/\p.2.1.2.2.2.2.2.1<=65536:=by rw[<-hrep];exact hro.2.2.s
 have hfr:0<=p.2.1.2.2.2.2.2.2.2.2.2/\p.2.1.2.2.2.2.2.2.2.2.2<=1000:=by rw[<-hrep];exact hro.2.2.f
 have hw:=pMZ hrr;have herr:Err p.2.1.2.2.1:=by rw[e1];exact hro.1
 have fin:∀p':PastT,Alt2 p p'->((lJud fuel (out.set q p') 1).bind fun r19=>bif (!r19.1) then bif (r19.2==0) then(law28_awake fuel).bind fun r20=>some r20 else some false else some false)=some true:=fun p' a=>by
  rw[hJZ _ (qJZ I.fit a.fit),ZAA,o1Z hC I.oks hR hp h1 a,oxZ]
  rfl
 rw[hp,ZAA];refine coZ (fun r:Option Bool=>r=some true) (fun v:List PastT⊕Bool=>v= .inr true\/∃p',v= .inl (out.set q p')/\Alt2 p p') ?_ ?_
 ·cases h2:(p.2.1.2.2.1==0) with
  |false=>
   have hne:=ZAS.1 h2;have he2:2<=p.2.1.2.2.1/\p.2.1.2.2.1<=180/\p.2.1.2.2.1≠150:=by unfold Err at herr;omega
   simp only[ZAc,ZAF,ZAA];rw[ZAX hql,ZAA,w64 (by omega)];rw[show(p.2.1.2.2.1+1==151)=false from ZAS.2 (by omega),ZAC];refine⟨_,rfl,.inr ⟨_,rfl,alt2 rfl rfl h1 hE (by show p.2.1.2.2.1+1≠151;omega) ?_ rfl rfl (fun h=> ?_) hfp⟩⟩
   ·have h3:p.2.1=(p.1.1,(p.1.2.1,(p.2.1.2.2.1,((0,0),(false,(0,([],([],(false,0))))))))):=by
     have h4:=hro.2.1 (by rw[<-e1];exact hne);rw[e1,<-hrep];unfold repT;rw[h4]
     rfl
    have h5:(p.2.1.1,(p.2.1.2.1,(p.2.1.2.2.1+1,p.2.1.2.2.2)))=(p.1.1,(p.1.2.1,(p.2.1.2.2.1+1,((0,0),(false,(0,([],([],(false,0))))))))):=by
     have a1:p.2.1.1=p.1.1:=by rw[h3]
     have a2:p.2.1.2.1=p.1.2.1:=by rw[h3]
     have a3:p.2.1.2.2.2=((0,0),(false,(0,([],([],(false,0)))))):=by rw[h3]
     rw[a1,a2,a3]
    show rightReply (p.2.1.1,(p.2.1.2.1,(p.2.1.2.2.1+1,p.2.1.2.2.2)))=true;rw[h5];exact icZ (dIZ hrc) (by omega)
   ·have:=congrArg (fun r:RepT=>r.2.2.1) h;simp only at this;omega
  |true=>
   have hz:=eq_of_beq h2;simp only[ZAK,ZAC];refine coZ (fun r:Option (List PastT⊕Bool)=>∃v,r=some v/\(v= .inr true\/∃p',v= .inl (out.set q p')/\Alt2 p p')) (fun v:List PastT=>∃p',v=out.set q p'/\Alt2 p p') ?_ ?_
   ·cases(Int.tmod what 3)==0 with
    |true=>
     simp only[ZAF,ZAA];refine⟨_,rfl,_,rfl,alt2 rfl rfl h1 hE (by show(172:Int)≠151;decide) (icZ hw (by omega)) rfl rfl (fun h=> ?_) ⟨by simp,by simp⟩⟩;have:=congrArg (fun r:RepT=>r.2.2.1) h;simp only at this;omega
    |false=>
     simp only[ZAC];refine coZ (fun r:Option (List PastT)=>∃v,r=some v/\∃p',v=out.set q p'/\Alt2 p p') (fun v:Nat×(Bool×List PastT)=>v.1=q/\v.2.2=out/\(v.2.1=true->p.2.1.2.2.2.2.2.1<65536)) ?_ ?_
     ·cases(Int.tmod what 3)==1 with
      |true=>
       simp only[ZAF];exact⟨_,rfl,rfl,rfl,fun h=>by simpa using h⟩
      |false=>exact⟨_,rfl,rfl,rfl,fun h=>by cases h⟩
     ·rintro⟨q',b,out'⟩ ⟨hq',ho',hb⟩;simp only at hq' ho' hb;subst hq' ho';have hrr2:=hrr;unfold rightReply at hrr2;rw[ZAL (by omega)] at hrr2;simp only[ZAD,ZAd] at hrr2;obtain⟨r1,r2,r3,r4,r5,r6,r7,r8⟩:=hrr2;cases b with
      |true=>
       simp only[ZAF];rw[hp,ZAA,ZAA,w64 (by omega)];refine⟨_,rfl,_,rfl,alt2 rfl rfl h1 hE (by show p.2.1.2.2.1≠151;omega) ?_ rfl rfl (fun h=> ?_) hfp⟩
       ·unfold rightReply;rw[ZAL (by show¬p.2.1.2.2.1≠0;omega)];simp only[ZAD,ZAd];exact⟨r1,r2,r3,⟨by omega,by have:=hb rfl;omega⟩,r5,r6,r7,r8⟩
       ·have:=congrArg (fun r:RepT=>r.2.2.2.2.2.1) h;simp only at this;omega
      |false=>
       simp only[ZAC];rw[hp,ZAA,ZAA,w64 (by omega)];refine⟨_,rfl,_,rfl,alt2 rfl rfl h1 hE (by show p.2.1.2.2.1≠151;omega) ?_ rfl rfl (fun h=> ?_) hfp⟩
       ·unfold rightReply;rw[ZAL (by show¬p.2.1.2.2.1≠0;omega)];simp only[ZAD,ZAd];exact⟨r1,r2,r3,r4,⟨by omega,by omega⟩,r6,r7,r8⟩
       ·have:=congrArg (fun r:RepT=>r.2.2.2.2.2.2.2.2.2) h;simp only at this;omega
   ·rintro v ⟨p',rfl,h3⟩;exact⟨_,rfl,.inr ⟨p',rfl,h3⟩⟩
 ·rintro v (rfl|⟨p',rfl,h3⟩)
  ·rfl
  ·exact fin p' h3
theorem law28_LinearWrong_true(l:List SayL)(which what:Int)(_k0:OkV (.sl qY33) l)(_k1:OkV (.int .i64) which)(_k2:OkV (.int .u8) what):law28_LinearWrong fuel l which what=some true:=cKZ l which what
end Go.Ab.D
