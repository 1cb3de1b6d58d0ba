/- What the functions compute; the plain law. -/
import Derived.Test.YtkfgjhbbdoljiaaGreatLinearHoldsQ2
import Derived.KernelRfl
set_option linter.all false
set_option maxRecDepth 100000
set_option maxHeartbeats 4000000
namespace Go.Ab.D
open Go Go.Ab
def runM:Mod->List PastT->Mod
 |m,[]=>m
 |m,p::r=>runM (if failB p then m else(resF m p.1).1) r
def okM:Mod->List PastT->Prop
 |_,[]=>True
 |m,p::r=>(failB p=false->p.2.2.2>0->repT (resF m p.1) p.1=p.2.1)/\okM (if failB p then m else(resF m p.1).1) r
theorem fNZ:∀(m:Mod) (l:List PastT) (p:PastT),runM m (l++[p])=if failB p then runM m l else(resF (runM m l) p.1).1
 |m,[],p=>rfl
 |m,q::r,p=>fNZ _ r p
theorem lpZ:∀(m:Mod) (l:List PastT) (p:PastT),okM m (l++[p])↔okM m l/\(failB p=false->p.2.2.2>0->repT (resF (runM m l) p.1) p.1=p.2.1)
 |m,[],p=>⟨fun h=>⟨trivial,h.1⟩,fun h=>⟨h.2,trivial⟩⟩
 |m,q::r,p=>by
  have:=lpZ (if failB q then m else(resF m q.1).1) r p;show(_/\okM _ (r++[p]))↔_;rw[this];exact⟨fun h=>⟨⟨h.1,h.2.1⟩,h.2.2⟩,fun h=>⟨h.1.1,h.1.2,h.2⟩⟩
def nofail(l:List PastT)(j:Nat):Bool:=match l[j]? with
 |some p=> !failB p
 |none=>false
def idxs(l:List PastT):List Int:=((List.range l.length).filter (nofail l)).map fun j=>((j:Nat):Int)
theorem nAZ(l:List PastT)(p:PastT):idxs (l++[p])=idxs l++if failB p then[] else[((l.length:Nat):Int)]:=by
 unfold idxs;rw[ZAi,List.length_singleton,List.range_succ,List.filter_append,List.map_append];congr 1
 ·congr 1;apply List.filter_congr;intro j hj;unfold nofail;rw[ZAN (ZBO.1 hj)]
 ·have:nofail (l++[p]) l.length= !failB p:=by
   unfold nofail;rw[ZAX (ZAL _),Nat.sub_self]
   rfl
  rw[List.filter_cons,this];cases failB p<;>rfl
theorem hQZ(l:List PastT):(idxs l).length<=l.length:=by
 unfold idxs;rw[ZBY];exact ZBd (ZBg _ _) (by rw[List.length_range];exact ZAL _)
def updL(l:List PastT)(bef:Int->Option PastT):Int->Option PastT:=l.foldl (fun b q c=>if c=q.1.1 then some q else b c) bef
theorem oSZ(l:List PastT)(bef:Int->Option PastT)(p:PastT):updL (l++[p]) bef=fun c=>if c=p.1.1 then some p else updL l bef c:=by
 unfold updL;rw[List.foldl_append];rfl
theorem eQZ:∀(l:List PastT) (bef:Int->Option PastT) (p:PastT),rightGo (l++[p]) bef=(rightGo l bef&&(oneB p&&(match updL l bef p.1.1 with|some w=>folB w p|none=>true)))
 |[],bef,p=>by
  show(oneB p&&((match bef p.1.1 with|some w=>folB w p|none=>true)&&true))=(true&&(oneB p&&(match bef p.1.1 with|some w=>folB w p|none=>true)));rw[Bool.and_true,ZAV]
 |q::r,bef,p=>by
  show(oneB q&&((match bef q.1.1 with|some w=>folB w q|none=>true)&&rightGo (r++[p]) _))=_;rw[eQZ r _ p];show _=((oneB q&&((match bef q.1.1 with|some w=>folB w q|none=>true)&&rightGo r _))&&_);rw[Bool.and_assoc,Bool.and_assoc]
  rfl
def TimeP(p:PastT):Prop:=1<=p.1.2.1/\p.1.2.1<=12/\1<=p.2.2.1/\p.2.2.1<=100*p.1.2.1/\(p.2.2.2=0\/100*p.1.2.1<=p.2.2.2)/\p.2.2.2<=2000
def calmB(x:SayL):Prop:=x.2.1.toNat=0/\x.2.2.1.toNat=0/\x.2.2.2.1=false/\x.2.2.2.2.1=false
structure TInv (L:List SayL) (k:Nat) (m:Mod) (hs:List (Int×Int)) (out:List PastT) (ord en:List Int):Prop where
 m_ok:ModelOK m
 hs1:1<=hs.length
 hs2:hs.length<=k+1
 olen:out.length<=k
 elen:en.length=4
 eb:∀e∈en,-1<=e/\e<=2000
 oeq:ord=idxs out
 run:m=runM M0 out
 oks:okM M0 out
 tm:∀p∈out,TimeP p/\p.1.2.1<=k
 srt:out.Pairwise fun p q=>p.1.2.1<q.1.2.1
 rgt:rightGo out (fun _=>none)=true
 las:∀c:Nat,c<4->∃e,en[c]? =some e/\match updL out (fun _=>none) (c:Int) with
  |none=>e=0
  |some w=>w.1.2.1<=k/\((w.2.2.2=0/\e= -1)\/(w.2.2.2=e/\0<e))
 fit:∀p∈out,FitP p
 calm:(∀x∈L,calmB x)->∀p∈out,p.2.2.1=100*p.1.2.1/\p.2.2.2=100*p.1.2.1/\failB p=false
theorem oWZ{a e n:Int}(h0:0<=e)(h1:e<a)(hn:0<=n):1<=bgn a e n/\bgn a e n<=a/\e<bgn a e n/\(n=0->bgn a e n=a):=by
 unfold bgn
 (repeat' split)<;>omega
theorem TInv.skip{L:List SayL}{k:Nat}{m:Mod}{hs:List (Int×Int)}{out:List PastT}{ord en:List Int}(I:TInv L k m hs out ord en):TInv L (k+1) m hs out ord en:=
 {I with
  hs2:=by have:=I.hs2;omega
  olen:=by have:=I.olen;omega
  tm:=fun p hp=>⟨(I.tm p hp).1,by have:=(I.tm p hp).2;omega⟩
  las:=fun c hc=>by
   obtain⟨e,h1,h2⟩:=I.las c hc;refine⟨e,h1,?_⟩;split
   ·rename_i h;rw[h] at h2;exact h2
   ·rename_i w h;rw[h] at h2;exact⟨by have:=h2.1;omega,h2.2⟩}
theorem TInv.add{L:List SayL}{k:Nat}(hk:k<12){m:Mod}{hs:List (Int×Int)}{out:List PastT}{ord en:List Int}(I:TInv L k m hs out ord en){c:CallT}{e:Int}(ha:Asked m k en c e){x:SayL}(hx:x∈L)
 {p:PastT}(hp:p.1=c)(hbg:p.2.2.1=bgn (tim k) e x.2.1.toNat)(hend:p.2.2.2=0\/tim k<=p.2.2.2)(he2:p.2.2.2<=2000)(h1:oneB p=true)(hf:FitP p)(hok:failB p=false->p.2.2.2>0->repT (resF m p.1) p.1=p.2.1)
 {m':Mod}{hs':List (Int×Int)}{ord' en':List Int}(hm:m'=if failB p then m else(resF m p.1).1)(hhs:hs'=hs\/∃a,hs'=hs++[a])(hord:ord'=ord++if failB p then[] else[((out.length:Nat):Int)])
 (hen:en'=en.set c.1.toNat (if p.2.2.2=0 then-1 else p.2.2.2))(hc:calmB x->p.2.2.2=tim k/\failB p=false):TInv L (k+1) m' hs' (out++[p]) ord' en':=by
 obtain⟨c0,c4,cx,_,ce,e0,e1⟩:=ha;have hB:=oWZ e0 e1 (n:=(x.2.1.toNat:Int)) (by omega);have hxid:p.1.2.1=(k:Int)+1:=by rw[hp];exact cx
 have htim:tim k=100*p.1.2.1:=by rw[hxid];rfl
 have htp:TimeP p:=⟨by omega,by omega,by rw[hbg];exact hB.1,by rw[hbg,<-htim];exact hB.2.1,by rw[<-htim];exact hend,he2⟩;have ht0:100<=tim k:=by unfold tim;omega
 refine⟨?_,?_,?_,?_,?_,?_,?_,?_,?_,?_,?_,?_,?_,?_,?_⟩
 ·rw[hm];split
  ·exact I.m_ok
  ·exact qzZ I.m_ok _
 ·have:=I.hs1;rcases hhs with rfl|⟨a,rfl⟩
  ·exact this
  ·simp
 ·have:=I.hs2;rcases hhs with rfl|⟨a,rfl⟩
  ·omega
  ·simp;omega
 ·have:=I.olen;rw[ZAi,List.length_singleton];omega
 ·rw[hen,ZAw];exact I.elen
 ·intro y hy;rw[hen] at hy;rcases List.mem_or_eq_of_mem_set hy with hy|rfl
  ·exact I.eb y hy
  ·split
   ·exact⟨by omega,by omega⟩
   ·exact⟨by omega,he2⟩
 ·rw[hord,I.oeq,nAZ]
 ·rw[hm,fNZ,<-I.run]
 ·rw[lpZ];exact⟨I.oks,by rw[<-I.run];exact hok⟩
 ·intro q hq;rcases ZAh.1 hq with hq|hq
  ·exact⟨(I.tm q hq).1,by have:=(I.tm q hq).2;omega⟩
  ·obtain rfl:=ZAz.1 hq;exact⟨htp,by omega⟩
 ·rw[ZBl];refine⟨I.srt,List.pairwise_singleton _ _,fun q hq r hr=> ?_⟩;obtain rfl:=ZAz.1 hr;have:=(I.tm q hq).2;omega
 ·rw[eQZ,I.rgt,h1,ZAV,ZAV];obtain⟨e',q1,q2⟩:=I.las c.1.toNat (by omega);rw[ce] at q1;obtain rfl:=ZAk q1;rw[hp,show c.1=((c.1.toNat:Nat):Int) by omega];split
  ·rename_i w hw;rw[hw] at q2;obtain⟨q3,q4⟩:=q2;rcases q4 with⟨_,q5⟩|⟨q5,q6⟩
   ·omega
   ·unfold folB;rw[show(w.2.2.2==0)=false from ZAW.2 (by omega),ZAJ (show¬w.2.2.2>=p.2.2.1 by rw[hbg];omega),ZAJ (show¬w.1.2.1>=p.1.2.1 by omega)]
    rfl
  ·rfl
 ·intro d hd;rw[oSZ,hen];dsimp only;by_cases hdc:(d:Int)=p.1.1
  ·rw[ZAQ hdc];have:d=c.1.toNat:=by rw[hp] at hdc;omega
   refine⟨_,by rw[this];exact ZAa (by have:=I.elen;omega),?_⟩;refine⟨by omega,?_⟩;split
   ·rename_i h0;exact .inl ⟨h0,rfl⟩
   ·rename_i h0;exact .inr ⟨rfl,by omega⟩
  ·rw[ZAM hdc];obtain⟨e',q1,q2⟩:=I.las d hd;refine⟨e',by rw[ZAU (by rw[hp] at hdc;omega)];exact q1,?_⟩;split
   ·rename_i h;rw[h] at q2;exact q2
   ·rename_i w h;rw[h] at q2;exact⟨by have:=q2.1;omega,q2.2⟩
 ·intro q hq;rcases ZAh.1 hq with hq|hq
  ·exact I.fit q hq
  ·obtain rfl:=ZAz.1 hq;exact hf
 ·intro hcalm q hq;rcases ZAh.1 hq with hq|hq
  ·exact I.calm hcalm q hq
  ·obtain rfl:=ZAz.1 hq;have h3:=hc (hcalm x hx);have h4:=(hcalm x hx).1;exact⟨by rw[hbg,hB.2.2.2 (by omega),htim],by rw[h3.1,htim],h3.2⟩
theorem p1Z{p:PastT}(h:p.2.1.2.2.1≠151):failB p=false:=by
 unfold failB;rw[ZAW.2 h,ZAu]
theorem kuZ{p:PastT}(hr:rightCall p.1=true)(h1:1<=p.2.2.1)(h2:p.2.2.1<=1099511627776)(h3:(p.2.2.2=0/\nothB p.2.1=true)\/(p.2.2.2≠0/\p.2.2.2>=p.2.2.1/\p.2.2.2<=1099511627776/\rightReply p.2.1=true/\p.2.1.1=p.1.1/\p.2.1.2.1=p.1.2.1)):oneB p=true:=by
 unfold oneB;rw[hr,ZAJ (show¬p.2.2.1<1 by omega),ZAJ (show¬p.2.2.1>1099511627776 by omega)];rcases h3 with⟨q1,q2⟩|⟨q1,q2,q3,q4,q5,q6⟩
 ·rw[q1,q2];rfl
 ·rw[ZAW.2 q1,ZAO q2,ZAO q3,q4,q5,q6,ZAS,ZAS];rfl
theorem TInv.round{L:List SayL}{k:Nat}(hk:k<12){m:Mod}{hs:List (Int×Int)}{out:List PastT}{ord en:List Int}(I:TInv L k m hs out ord en){x:SayL}(hx:x∈L)
 {m':Mod}{hs':List (Int×Int)}{out':List PastT}{ord' en':List Int}(r:Rnd k x m hs out ord en m' hs' out' ord' en'):TInv L (k+1) m' hs' out' ord' en':=by
 have hA:=x.2.1.toNat_lt;have hB:=x.2.2.1.toNat_lt;have ht:100<=tim k/\tim k<=1200:=by unfold tim;omega
 cases r with
 |skip=>exact I.skip
 |lost c e ha hL=>
  have hr:=fJZ ha.2.2.2.1;have hb:=oWZ ha.2.2.2.2.2.1 ha.2.2.2.2.2.2 (n:=(x.2.1.toNat:Int)) (by omega);exact I.add hk ha hx (p:=(c,(repZ,(bgn (tim k) e x.2.1.toNat,0)))) rfl rfl (.inl rfl) (by show(0:Int)<=2000;decide) (kuZ hr hb.1 (by show bgn _ _ _<=_;omega) (.inl ⟨rfl,rfl⟩)) ⟨by simp[repZ],by simp[repZ]⟩ (fun _ h=>absurd h (by show¬(0:Int)>0;decide)) rfl (.inl rfl) rfl rfl
   (fun h=>by have:=h.2.2.1;rw[hL] at this;cases this)
 |fail c e ha hF=>
  have hr:=fJZ ha.2.2.2.1;have hb:=oWZ ha.2.2.2.2.2.1 ha.2.2.2.2.2.2 (n:=(x.2.1.toNat:Int)) (by omega);have hf:failB (c,(repIO c,(bgn (tim k) e x.2.1.toNat,tim k+(x.2.2.1.toNat:Int))))=true:=by
   unfold failB;rw[ZAO (show tim k+(x.2.2.1.toNat:Int)>0 by omega)]
   rfl
  refine I.add hk ha hx (p:=(c,(repIO c,(bgn (tim k) e x.2.1.toNat,tim k+(x.2.2.1.toNat:Int))))) rfl rfl (.inr (by show _<=_+_;omega)) (by show _+_<=_;omega) (kuZ hr hb.1 (by show bgn _ _ _<=_;omega) (.inr ⟨?_,?_,?_,kjZ hr,rfl,rfl⟩)) ⟨by simp[repIO],by simp[repIO]⟩ (fun h=>by rw[hf] at h;cases h) (by rw[hf];rfl) (.inl rfl) (by rw[hf];simp) ?_
   (fun h=>by have:=h.2.2.2;rw[hF] at this;cases this)
  ·show _+_≠_;omega
  ·show _+_>=bgn _ _ _;omega
  ·show _+_<=_;omega
  ·rw[ZAM (by show¬_+_=_;omega)]
 |ok c e ha hs' hh=>
  have hr:=fJZ ha.2.2.2.1;have hb:=oWZ ha.2.2.2.2.2.1 ha.2.2.2.2.2.2 (n:=(x.2.1.toNat:Int)) (by omega);have hrep:=nNZ I.m_ok hr;have hf:failB (c,(repT (resF m c) c,(bgn (tim k) e x.2.1.toNat,tim k+(x.2.2.1.toNat:Int))))=false:=p1Z hrep.2;have hro:=(qrZ I.m_ok c).2.2;refine I.add hk ha hx (p:=(c,(repT (resF m c) c,(bgn (tim k) e x.2.1.toNat,tim k+(x.2.2.1.toNat:Int))))) rfl rfl (.inr (by show _<=_+_;omega)) (by show _+_<=_;omega) (kuZ hr hb.1 (by show bgn _ _ _<=_;omega) (.inr ⟨?_,?_,?_,hrep.1,rfl,rfl⟩))
   ⟨by have:=hro.b;show(resF m c).2.2.2.2.2.1.length<_;omega,by have:=hro.n;show(resF m c).2.2.2.2.2.2.1.length<_;omega⟩ (fun _ _=>rfl) (by rw[hf];rfl) hh (by rw[hf];rfl) ?_
   (fun h=>⟨by have:=h.2.1;show _+_=_;omega,hf⟩)
  ·show _+_≠_;omega
  ·show _+_>=bgn _ _ _;omega
  ·show _+_<=_;omega
  ·rw[ZAM (by show¬_+_=_;omega)]
theorem rvZ(l:List SayL):∃k m hs out ord en,law28_told fuel l=some (out,ord)/\TInv l k m hs out ord en/\k<=12/\k<=l.length:=by
 unfold law28_told law28_told_l0_it;rw[qfZ,ZAA];unfold law28_root;rw[ZAA];obtain⟨o,ho,hq⟩:∃o,iter fuel (fun tt:Int×T7=>law28_told_l0 fuel l tt.1 tt.2.1 tt.2.2.1 tt.2.2.2.1 tt.2.2.2.2.1 tt.2.2.2.2.2.1 tt.2.2.2.2.2.2.1 tt.2.2.2.2.2.2.2) (0,tS M0 [((1:Int),(1:Int))] [] [] (List.replicate 4 0))=some o/\∃k m hs en,TInv l k m hs o.1 o.2 en/\k<=12/\k<=l.length:=by
  refine a5Z (fun n s=>∃(k:Nat) (m:Mod) (hs:List (Int×Int)) (out:List PastT) (ord en:List Int),s=((k:Int),tS m hs out ord en)/\k+n=12/\TInv l k m hs out ord en/\k<=l.length) _ (fun n s hI=> ?_) (fun s hI=> ?_) 12 _ (by omega)
   ⟨0,M0,_,[],[],List.replicate 4 0,rfl,by omega,⟨sgZ,by simp,by simp,by simp,rfl,fun e he=> ?_,rfl,rfl,trivial,fun p hp=>(by cases hp),List.Pairwise.nil,rfl,fun c hc=>⟨0,?_,rfl⟩,fun p hp=>(by cases hp),fun _ p hp=>(by cases hp)⟩,ZBW _⟩
  ·obtain⟨k,m,hs,out,ord,en,rfl,hk,I,hkl⟩:=hI;by_cases hlt:k<l.length
   ·have hg:=ZAE hlt;rcases lPZ (ord:=ord) hg (by omega) I.m_ok I.hs1 I.hs2 I.olen (by rw[I.oeq];exact ZBd (hQZ _) I.olen) I.elen I.eb with q|⟨m',hs',out',ord',en',q1,q2⟩
    ·exact .inr ⟨_,q,k,m,hs,en,I,by omega,hkl⟩
    ·exact .inl ⟨_,q1,k+1,m',hs',out',ord',en',rfl,by omega,I.round (by omega) (ZBm hlt) q2,hlt⟩
   ·refine .inr ⟨(out,ord),?_,k,m,hs,en,I,by omega,hkl⟩;show law28_told_l0 fuel l (k:Int) m.1.2 m.1.1 m.2 hs out ord en=_;unfold law28_told_l0;rw[anZ hlt]
    rfl
  ·obtain⟨k,m,hs,out,ord,en,rfl,hk,I,hkl⟩:=hI;refine⟨(out,ord),?_,k,m,hs,en,I,by omega,hkl⟩;show law28_told_l0 fuel l (k:Int) m.1.2 m.1.1 m.2 hs out ord en=_;unfold law28_told_l0;by_cases hlt:k<l.length
   ·rw[ayZ hlt,ZAF,ZAJ (show¬(k:Int)<12 by omega)]
    rfl
   ·rw[anZ hlt]
    rfl
  ·rw[ZBf he];exact⟨by decide,by decide⟩
  ·rw[ZBk,ZAQ hc]
 obtain⟨k,m,hs,en,I,h1,h2⟩:=hq;refine⟨k,m,hs,o.1,o.2,en,?_,I,h1,h2⟩;refine(congrArg (fun z=>Option.bind z _) ho).trans ?_
 rfl
end Go.Ab.D
set_option maxRecDepth 100000
set_option maxHeartbeats 4000000
namespace Go.Ab.D
open Go Go.Ab
theorem mWZ{l:List PastT}{n:Nat}{p:PastT}(m:Mod)(hp:l[n]? =some p):runM m (l.take (n+1))=if failB p then runM m (l.take n) else(resF (runM m (l.take n)) p.1).1:=by
 have hn:=(ZAB.1 hp).1;have he:l[n]=p:=(ZAB.1 hp).2;rw[ZAv hn,fNZ,he]
theorem qkZ:∀{l:List PastT} {m:Mod} {n:Nat} {p:PastT},okM m l->l[n]? =some p->failB p=false->p.2.2.2>0->repT (resF (runM m (l.take n)) p.1) p.1=p.2.1
 |[],_,_,_,_,hp,_,_=>by cases hp
 |q::r,m,0,p,h,hp,hf,he=>by
  obtain rfl:=ZAk hp;exact h.1 hf he
 |q::r,m,n+1,p,h,hp,hf,he=>by
  rw[List.take_succ_cons];exact qkZ (l:=r) h.2 hp hf he
def placedN(l:List PastT)(n:Nat):List Bool:=(List.range l.length).map fun j=>decide (j<n)&&nofail l j
theorem bxZ{l:List PastT}{n j:Nat}(h:j<l.length):(placedN l n)[j]? =some (decide (j<n)&&nofail l j):=by
 unfold placedN;rw[ZAd,List.getElem?_range h]
 rfl
theorem bSZ(l:List PastT)(n:Nat):(placedN l n).length=l.length:=by unfold placedN;rw[ZBY,List.length_range]
theorem dcZ{l:List PastT}{n j:Nat}(h:j<l.length)(b:Bool):(placedN l n).getD j b=(decide (j<n)&&nofail l j):=by
 rw[List.getD_eq_getElem?_getD,bxZ h];rfl
theorem j2Z(l:List PastT)(n:Nat)(hn:n<l.length):placedN l (n+1)=if nofail l n then(placedN l n).set n true else placedN l n:=by
 apply List.ext_getElem? fun j=> ?_;by_cases hj:j<l.length
 ·rw[bxZ hj];by_cases hjn:j=n
  ·subst hjn;cases h:nofail l j with
   |true=>rw[ZAQ rfl,ZAa (by rw[bSZ];exact hj)];simp
   |false=>rw[ZAM (by simp),bxZ hj,h];simp
  ·have e:decide (j<n+1)=decide (j<n):=by
    by_cases h1:j<n
    ·rw[ZAO h1,ZAO (by omega)]
    ·rw[ZAJ h1,ZAJ (by omega)]
   rw[e];split
   ·rw[ZAU (fun h=>hjn h.symm),bxZ hj]
   ·rw[bxZ hj]
 ·rw[ZAo (by rw[bSZ];omega)];split
  ·rw[ZAo (by rw[ZAw,bSZ];omega)]
  ·rw[ZAo (by rw[bSZ];omega)]
theorem fSZ{l:List PastT}{k:Nat}{q:PastT}(hq:l[k]? =some q)(hw:waitB q=true):nofail l k=true:=by
 unfold nofail;rw[hq];unfold waitB at hw;unfold failB;simp only;rw[ZAD] at hw;rw[hw.1,ZAV];exact hw.2
structure Timed (l:List PastT):Prop where
 t:∀p∈l,p.2.2.1<=100*p.1.2.1/\(p.2.2.2<=0\/100*p.1.2.1<=p.2.2.2)
 s:l.Pairwise fun p q=>p.1.2.1<q.1.2.1
theorem Timed.le{l:List PastT}(h:Timed l){i j:Nat}{p q:PastT}(hp:l[i]? =some p)(hq:l[j]? =some q)(hij:i<=j):p.1.2.1<=q.1.2.1:=by
 by_cases e:i=j
 ·subst e;rw[hp] at hq;cases hq;exact Int.le_refl _
 ·have hi:=(ZAB.1 hp).1;have hj:=(ZAB.1 hq).1;have:=List.pairwise_iff_getElem.1 h.s i j hi hj (by omega);rw[(ZAB.1 hp).2,(ZAB.1 hq).2] at this;omega
theorem smZ{l:List PastT}(h:Timed l){n:Nat}{p:PastT}(hp:l[n]? =some p)(hf:failB p=false):mayB l (placedN l n) n=true:=by
 have hn:=(ZAB.1 hp).1;unfold mayB;rw[hp];simp only;rw[dcZ hn,ZAJ (ZAj n),hf];have:(List.range l.length).any (lateB l (placedN l n) p.2.2.1)=false:=by
  rw[List.any_eq_false];intro k hk;have hk:=ZBO.1 hk;unfold lateB;obtain⟨q,hq⟩:∃q,l[k]? =some q:=⟨_,ZAE hk⟩;rw[hq];simp only;rw[dcZ hk];cases hw:waitB q with
  |false=>simp
  |true=>
   have hnf:=fSZ hq hw;rw[hnf];by_cases hkn:k<n
   ·rw[ZAO hkn];simp
   ·have h1:=h.le hp hq (by omega);have h2:=(h.t p (ZAP hp)).1;have h3:=(h.t q (ZAP hq)).2;unfold waitB at hw;rw[ZAD,ZAe] at hw;rw[ZAJ (show¬q.2.2.2<p.2.2.1 by omega)];simp
 rw[this]
 rfl
theorem q0Z{l:List PastT}(h:Timed l)(hok:okM M0 l):∀(d n:Nat),n+d=l.length->runO l (placedN l n,runM M0 (l.take n)) (((List.range' n d).filter (nofail l)).map fun j=>((j:Nat):Int))=some (placedN l l.length,runM M0 l)
 |0,n,hd=>by
  obtain rfl:n=l.length:=by omega
  rw[ZA3]
  rfl
 |d+1,n,hd=>by
  have hn:n<l.length:=by omega
  obtain⟨p,hp⟩:∃p,l[n]? =some p:=⟨_,ZAE hn⟩;have ih:=q0Z h hok d (n+1) (by omega);rw[mWZ M0 hp,j2Z l n hn] at ih;rw[List.range'_succ,List.filter_cons];have hnf:nofail l n= !failB p:=by unfold nofail;rw[hp]
  cases hf:failB p with
  |true=>
   rw[hf] at hnf ih;rw[hnf] at ih⊢;simpa using ih
  |false=>
   rw[hf] at hnf ih;rw[hnf] at ih⊢;simp only[ZAc,if_true] at ih⊢;rw[List.map_cons,cUZ,ZAQ ⟨by omega,by omega⟩,Int.toNat_natCast];have:=pDZ (s:=(placedN l n,runM M0 (l.take n))) hp (smZ h hp hf) (fun he=>qkZ hok hp hf he);rw[this,ZAA];simpa using ih
theorem rrZ(l:List PastT):placedN l 0=List.replicate l.length false:=by
 apply List.ext_getElem? fun j=> ?_;by_cases hj:j<l.length
 ·rw[bxZ hj,ZBk,ZAQ hj];rfl
 ·rw[ZAo (by rw[bSZ];omega),ZAo (by rw[ZBF];omega)]
theorem pNZ{l:List PastT}(h:Timed l)(hok:okM M0 l):runO l (s0 l) (idxs l)=some (placedN l l.length,runM M0 l):=by
 have:=q0Z h hok l.length 0 (by omega);rw[rrZ] at this;unfold idxs;rw[List.range_eq_range'];exact this
theorem o1Z(l:List PastT):wholeB l (placedN l l.length)=true:=by
 unfold wholeB;have:(List.range l.length).any (dueB l (placedN l l.length))=false:=by
  rw[List.any_eq_false];intro k hk;have hk:=ZBO.1 hk;unfold dueB;obtain⟨q,hq⟩:∃q,l[k]? =some q:=⟨_,ZAE hk⟩;rw[hq];simp only;rw[dcZ hk,ZAO hk];cases hw:waitB q with
  |false=>simp
  |true=>rw[fSZ hq hw];simp
 rw[this]
 rfl
theorem pOZ{l:List PastT}(h:Timed l)(hok:okM M0 l):orderB l (idxs l)=true:=by
 unfold orderB;rw[pNZ h hok];exact o1Z l
theorem TInv.timed{L:List SayL}{k:Nat}{m:Mod}{hs:List (Int×Int)}{out:List PastT}{ord en:List Int}(I:TInv L k m hs out ord en):Timed out:=
 ⟨fun p hp=>by have:=(I.tm p hp).1;unfold TimeP at this;omega,I.srt⟩
end Go.Ab.D
set_option maxRecDepth 100000
set_option maxHeartbeats 4000000
namespace Go.Ab.D
open Go Go.Ab
def pe{α β:Type}(f:α->α->Bool)(g:β->β->Bool)(a b:α×β):Bool:=f a.1 b.1&&g a.2 b.2
theorem cbZ{α β:Type}{f:α->α->Bool}{g:β->β->Bool}(hf:∀a b,f a b=sm a b)(hg:∀a b,g a b=sm a b)(a b:α×β):pe f g a b=sm a b:=by
 unfold pe;rw[hf,hg];by_cases h:a=b
 ·subst h;rw[sm_t rfl,sm_t rfl,sm_t rfl];rfl
 ·rw[sm_f h];by_cases h1:a.1=b.1
  ·rw[sm_f (fun h2=>h (Prod.ext h1 h2)),ZAu]
  ·rw[sm_f h1];rfl
def le_{α:Type}(f:α->α->Bool):List α->List α->Bool
 |[],[]=>true
 |a::l,b::r=>f a b&&le_ f l r
 |_,_=>false
theorem kgZ{α:Type}{f:α->α->Bool}(hf:∀a b,f a b=sm a b):∀l r:List α,le_ f l r=sm l r
 |[],[]=>by rw[sm_t rfl];rfl
 |a::l,[]=>by rw[sm_f (by simp)];rfl
 |[],b::r=>by rw[sm_f (by simp)];rfl
 |a::l,b::r=>by
  unfold le_;rw[hf,kgZ hf l r];by_cases h:a::l=b::r
  ·obtain⟨rfl,rfl⟩:=List.cons.inj h;rw[sm_t rfl,sm_t rfl,sm_t rfl];rfl
  ·rw[sm_f h];by_cases h1:a=b
   ·rw[sm_f (fun h2:l=r=>h (by rw[h1,h2])),ZAu]
   ·rw[sm_f h1];rfl
def eqI(a b:Int):Bool:=a==b
def eqB(a b:Bool):Bool:=a==b
def eqS(a b:List UInt8):Bool:=a==b
def eqEn:Ent->Ent->Bool:=pe eqS eqI
def eqRep:RepT->RepT->Bool:=pe eqI (pe eqI (pe eqI (pe (pe eqI eqI) (pe eqB (pe eqI (pe eqS (pe (le_ eqEn) (pe eqB eqI))))))))
def eqIno:Ino->Ino->Bool:=pe eqI (pe eqI (pe eqB (pe eqB (pe eqI (pe (le_ (pe eqI eqI)) (pe eqI (le_ eqEn)))))))
def eqSt:StT->StT->Bool:=pe (le_ eqB) (pe (pe (le_ eqIno) eqI) (le_ eqS))
theorem bWZ(a b:Int):eqI a b=sm a b:=j1Z a b
theorem iRZ(a b:Bool):eqB a b=sm a b:=j1Z a b
theorem nTZ(a b:List UInt8):eqS a b=sm a b:=j1Z a b
theorem oaZ:∀a b,eqEn a b=sm a b:=cbZ nTZ bWZ
theorem pmZ:∀a b,eqRep a b=sm a b:=cbZ bWZ (cbZ bWZ (cbZ bWZ (cbZ (cbZ bWZ bWZ) (cbZ iRZ (cbZ bWZ (cbZ nTZ (cbZ (kgZ oaZ) (cbZ iRZ bWZ))))))))
theorem p3Z:∀a b,eqIno a b=sm a b:=cbZ bWZ (cbZ bWZ (cbZ iRZ (cbZ iRZ (cbZ bWZ (cbZ (kgZ (cbZ bWZ bWZ)) (cbZ bWZ (kgZ oaZ)))))))
theorem ogZ:∀a b,eqSt a b=sm a b:=cbZ (kgZ iRZ) (cbZ (cbZ (kgZ p3Z) bWZ) (kgZ nTZ))
def nextC(l:List PastT)(s:StT)(i:Nat):Option StT:=match l[i]? with
 |some p=>bif mayB l s.1 i&&(!decide (p.2.2.2>0)||eqRep (repT (resF s.2 p.1) p.1) p.2.1) then some (s.1.set i true,(resF s.2 p.1).1) else none
 |none=>none
theorem fgZ(l:List PastT)(s:StT)(i:Nat):nextC l s i=nextF l s i:=by
 unfold nextC nextF;cases l[i]? with
 |none=>rfl
 |some p=>simp only[pmZ]
def runC(l:List PastT):StT->List Int->Option StT
 |s,[]=>some s
 |s,i::r=>if 0<=i/\i<l.length then(nextC l s i.toNat).bind fun t=>runC l t r else none
theorem nlZ(l:List PastT):∀(o:List Int) (s:StT),runC l s o=runO l s o
 |[],s=>rfl
 |i::r,s=>by
  rw[cUZ];show(if _ then(nextC l s i.toNat).bind _ else none)=_;rw[fgZ];congr 2;funext t;exact nlZ l r t
def orderC(l:List PastT)(o:List Int):Bool:=match runC l (s0 l) o with
 |some t=>wholeB l t.1
 |none=>false
theorem nsZ(l:List PastT)(o:List Int):orderC l o=orderB l o:=by unfold orderC orderB;rw[nlZ];cases runO l (s0 l) o<;>rfl
def addC(x:StT)(acc:List StT):List StT:=bif acc.any (eqSt x) then acc else acc++[x]
def stepI(l:List PastT)(s:StT)(acc:List StT)(i:Nat):List StT:=match nextC l s i with
 |some x=>addC x acc
 |none=>acc
def stepS(l:List PastT)(acc:List StT)(s:StT):List StT:=(List.range l.length).foldl (stepI l s) acc
def lvl1(l:List PastT)(all:List StT)(acc:List StT)(k:Nat):List StT:=match all[k]? with
 |some s=>stepS l acc s
 |none=>acc
def levelF(l:List PastT)(all:List StT):List StT:=(List.range all.length).foldl (lvl1 l all) []
def judgeGo(l:List PastT)(most:Int):Nat->List StT->Bool×Int
 |0,_=>(false,0)
 |n+1,all=>bif nilL all then(false,0) else bif all.any (fun s=>wholeB l s.1) then(true,0) else bif decide (((all.length:Nat):Int)>most) then(false,5) else judgeGo l most n (levelF l all)
def judgeF(l:List PastT)(most:Int):Bool×Int:=bif !rightL l then(false,270) else bif decide (most<1)||decide (most>1000) then(false,2) else judgeGo l most (l.length+2) [s0 l]
theorem leZ{τ ο:Type}{f:τ->Option (τ⊕ο)}{e:ο}(o:Nat->ο)(S:Nat->τ)(t:Nat->Bool)(n:Nat)(hn:n<1000000000)(hs:∀k,k<n->f (S k)=some (bif t k then .inr (o k) else .inl (S (k+1))))(he:f (S n)=some (.inr e)):
 ∃r,iter fuel f (S 0)=some r/\(((List.range n).any t=true/\∃k,k<n/\r=o k)\/((List.range n).any t=false/\r=e)):=by
 refine a5Z (fun m s=>∃k:Nat,s=S k/\k+m=n/\(List.range k).any t=false) _ (fun m s hI=> ?_) (fun s hI=> ?_) n (S 0) (by omega) ⟨0,rfl,by omega,rfl⟩
 ·obtain⟨k,rfl,hk,ha⟩:=hI;rw[hs k (by omega)];cases ht:t k with
  |true=>exact .inr ⟨_,rfl,.inl ⟨ZBv.2 ⟨k,ZBO.2 (by omega),ht⟩,k,by omega,rfl⟩⟩
  |false=>exact .inl ⟨_,rfl,k+1,rfl,by omega,by rw[List.range_succ,List.any_append,ha];simp[ht]⟩
 ·obtain⟨k,rfl,hk,ha⟩:=hI;obtain rfl:k=n:=by omega
  exact⟨_,he,.inr ⟨ha,rfl⟩⟩
def atB{α:Type}(l:List α)(P:α->Bool)(k:Nat):Bool:=match l[k]? with
 |some y=>P y
 |none=>false
theorem iqZ{α:Type}(l:List α)(P:α->Bool):(List.range l.length).any (atB l P)=l.any P:=by
 unfold atB;rw[Bool.eq_iff_iff,ZBv,ZBv];constructor
 ·rintro⟨k,hk,hP⟩;have hk:=ZBO.1 hk;rw[ZAE hk] at hP;exact⟨_,ZBm hk,hP⟩
 ·rintro⟨y,hy,hP⟩;obtain⟨k,hk⟩:=ZAb hy;exact⟨k,ZBO.2 (ZAB.1 hk).1,by rw[hk];exact hP⟩
theorem nQZ{l:List PastT}(hl:l.length<=200)(all:List StT)(hn:all.length<1000000000)(hg:∀s∈all,Good l s):sConFun2 fuel all l=some (all.any (fun s=>wholeB l s.1),l):=by
 unfold sConFun2 sIndFun3 sIndFun3_l0_it;obtain⟨r,hr,h⟩:=leZ (f:=fun tt:Int×List PastT=>sIndFun3_l0 fuel all tt.1 tt.2) (e:=.inl l) (fun k=>.inr ((k:Int),l)) (fun k=>((k:Int),l)) (atB all fun s=>wholeB l s.1) all.length hn (fun k hk=>by
  dsimp only;unfold sIndFun3_l0 lJud1;have g:=ZAE hk;rw[ayZ hk,ZAF,agZ hk,ZAA,g,ZAA,l6Z hl (hg _ (ZBm hk)).2,ZAA,ZAA,w64 (by omega)];unfold atB;rw[g];dsimp only;cases wholeB l (all[k]).1<;>rfl) (by
  dsimp only;unfold sIndFun3_l0;rw[anZ (ZAj _)]
  rfl)
 rw[iqZ] at h;refine(congrArg (fun z=>Option.bind (Option.bind z _) _) hr).trans ?_;rw[ZAA];rcases h with⟨h1,k,hk,rfl⟩|⟨h1,rfl⟩
 ·rw[h1];simp only[ZAA];rw[ZAO (by omega)]
 ·rw[h1];rfl
theorem nkZ{l:List PastT}(acc:List StT)(hn:acc.length<1000000000)(hL:l.length<=200)(x:StT)(hx:Good l x):sConFun fuel acc x.1 x.2.1.1 x.2.1.2 x.2.2=some (acc.any (eqSt x),(acc,(x.1,(x.2.1.1,(x.2.1.2,x.2.2))))):=by
 unfold sConFun sIndFun2 sIndFun2_l0_it;obtain⟨r,hr,h⟩:=leZ (f:=fun tt:Int×(List StT×(List Bool×(List Ino×(Int×List Byt))))=>sIndFun2_l0 fuel acc tt.1 tt.2.1 tt.2.2.1 tt.2.2.2.1 tt.2.2.2.2.1 tt.2.2.2.2.2) (e:=.inl (acc,(x.1,(x.2.1.1,(x.2.1.2,x.2.2))))) (fun k=>.inr ((k:Int),(acc,(x.1,(x.2.1.1,(x.2.1.2,x.2.2)))))) (fun k=>((k:Int),(acc,(x.1,(x.2.1.1,(x.2.1.2,x.2.2)))))) (atB acc (eqSt x)) acc.length hn (fun k hk=>by
  dsimp only;unfold sIndFun2_l0 lJud2;have g:=ZAE hk;have hxl:=hx.2;have hm:=hx.1.n;have hm2:=hx.1.len;rw[ayZ hk,ZAF,agZ hk,ZAA,g,ZAA,show(x.1,((x.2.1.1,x.2.1.2),x.2.2))=x from rfl,stEq x _ (by omega) hx.1 (by omega),ZAA,ZAA,w64 (by omega)];unfold atB;rw[g];simp only[ogZ];cases sm x acc[k]<;>rfl) (by
  dsimp only;unfold sIndFun2_l0;rw[anZ (ZAj _)]
  rfl)
 rw[iqZ] at h;refine(congrArg (fun z=>Option.bind (Option.bind z _) _) hr).trans ?_;rw[ZAA];rcases h with⟨h1,k,hk,rfl⟩|⟨h1,rfl⟩
 ·rw[h1];simp only[ZAA];rw[ZAO (by omega)]
 ·rw[h1];rfl
end Go.Ab.D
set_option maxRecDepth 100000
set_option maxHeartbeats 4000000
namespace Go.Ab.D
open Go Go.Ab
theorem mLZ{l:List PastT}{s:StT}(hs:Good l s){acc:List StT}(ha:∀x∈acc,Good l x)(i:Nat):(∀x∈stepI l s acc i,Good l x)/\(stepI l s acc i).length<=acc.length+1:=by
 unfold stepI;cases hx:nextC l s i with
 |none=>exact⟨ha,by simp⟩
 |some x=>
  simp only[addC];cases acc.any (eqSt x) with
  |true=>exact⟨ha,by simp⟩
  |false=>
   simp only[ZAC];refine⟨fun y hy=> ?_,by simp⟩;rcases ZAh.1 hy with hy|hy
   ·exact ha y hy
   ·obtain rfl:=ZAz.1 hy;rw[fgZ] at hx;exact enZ hx hs
theorem qXZ{l:List PastT}(hl:l.length<=200){s:StT}(hs:Good l s)(all acc:List StT)(ha:∀x∈acc,Good l x)(hn:acc.length<=1000000):
 lJud_l0_it fuel l (0,(l,(acc,(s.1,(s.2.1.1,(s.2.1.2,(s.2.2,all)))))))=some (l,(stepS l acc s,all))/\(∀x∈stepS l acc s,Good l x)/\(stepS l acc s).length<=acc.length+l.length:=by
 unfold lJud_l0_it;have:=lrZ (f:=fun tt:Int×(List PastT×(List StT×(List Bool×(List Ino×(Int×(List Byt×List StT))))))=>lJud_l0 fuel l tt.1 tt.2.1 tt.2.2.1 tt.2.2.2.1 tt.2.2.2.2.1 tt.2.2.2.2.2.1 tt.2.2.2.2.2.2.1 tt.2.2.2.2.2.2.2)
  (fun(k:Nat) (a:List StT)=>((k:Int),(l,(a,(s.1,(s.2.1.1,(s.2.1.2,(s.2.2,all)))))))) (fun a=>(l,(a,all))) (fun k a=>stepI l s a k) (fun k a=>(∀x∈a,Good l x)/\a.length<=acc.length+k) l.length (by omega)
  (fun k a hk hP=>by
   have sg:=mLZ hs hP.1 k;refine⟨?_,sg.1,by have:=sg.2;have:=hP.2;omega⟩;dsimp only;unfold lJud_l0;rw[ayZ hk,ZAF,show(s.1,((s.2.1.1,s.2.1.2),s.2.2))=s from rfl,nIZ hs.1 hl hs.2 hk,ZAA,w64 (by omega)];unfold stepI;rw[fgZ];cases hx:nextF l s k with
   |none=>rfl
   |some x=>
    have hc:=nkZ a (by have:=hP.2;omega) hl x (enZ hx hs);simp only[outN,ZAF];rw[hc,ZAA,ZAA];unfold addC;cases a.any (eqSt x) with
    |true=>rfl
    |false=>
     simp only[ZAc,ZAF,ZAC];rw[abZ (by have:=hP.2;simp only[ZAD,ZAs,aQZ];omega)]
     rfl)
  (fun a _=>by
   dsimp only;unfold lJud_l0;rw[anZ (ZAj _)]
   rfl) acc ⟨ha,by omega⟩
 exact⟨this.1,this.2⟩
theorem s6Z{l:List PastT}(hl:l.length<=200)(all:List StT)(ha:∀x∈all,Good l x)(hn:all.length<=1000):
 lJud_l1_it fuel all (0,(l,([],all)))=some (l,levelF l all)/\(∀x∈levelF l all,Good l x)/\(levelF l all).length<=all.length*l.length:=by
 unfold lJud_l1_it;have:=lrZ (f:=fun tt:Int×(List PastT×(List StT×List StT))=>lJud_l1 fuel all tt.1 tt.2.1 tt.2.2.1 tt.2.2.2)
  (fun(k:Nat) (a:List StT)=>((k:Int),(l,(a,all)))) (fun a=>(l,a)) (fun k a=>lvl1 l all a k) (fun k a=>(∀x∈a,Good l x)/\a.length<=k*l.length) all.length (by omega)
  (fun k a hk hP=>by
   have g:=ZAE hk;have hmul:k*l.length<=1000*200:=Nat.mul_le_mul (by omega) hl;have hin:=qXZ hl (ha _ (ZBm hk)) all a hP.1 (by have:=hP.2;omega);unfold lvl1;rw[g];simp only;refine⟨?_,hin.2.1,by have:=hin.2.2;have:=hP.2;rw[ZBU];omega⟩;unfold lJud_l1;rw[ayZ hk,ZAF,agZ hk,ZAA,g,ZAA,hin.1,ZAA,w64 (by omega)]
   rfl)
  (fun a _=>by
   dsimp only;unfold lJud_l1;rw[anZ (ZAj _)]
   rfl) [] ⟨fun x hx=>(by cases hx),by simp⟩
 exact⟨this.1,this.2⟩
def cntP(s:StT):Nat:=s.1.count true
theorem pvZ{l:List PastT}{s t:StT}{i:Nat}(h:nextF l s i=some t)(hg:Good l s):cntP t=cntP s+1:=by
 obtain⟨p,hp,hm,_,rfl⟩:=gRZ h;have hi:i<s.1.length:=by rw[hg.2];exact(ZAB.1 hp).1
 unfold mayB at hm;rw[hp] at hm;simp only[ZAD] at hm;have h0:=hm.1;rw[List.getD_eq_getElem?_getD,ZAE hi] at h0;have h1:s.1[i]=false:=by simpa using h0
 unfold cntP;show(s.1.set i true).count true=_;rw[List.count_set hi,h1];simp
theorem nCZ{l:List PastT}{s:StT}{acc:List StT}{i:Nat}{x:StT}:x∈stepI l s acc i↔x∈acc\/nextF l s i=some x:=by
 unfold stepI;rw[fgZ];cases hx:nextF l s i with
 |none=>simp
 |some y=>
  simp only[addC,ZAH];cases ha:acc.any (eqSt y) with
  |true=>
   simp only[ZAF];refine⟨.inl,fun h=>h.elim id fun h=> ?_⟩;subst h;obtain⟨z,hz,he⟩:=ZBv.1 ha;rw[ogZ,qjZ] at he;rw[he];exact hz
  |false=>
   simp only[ZAC,ZAh,ZAz];exact⟨fun h=>h.imp id Eq.symm,fun h=>h.imp id Eq.symm⟩
theorem hTZ{α β:Type}(f:List β->α->List β)(R:α->β->Prop)(hf:∀acc a x,x∈f acc a↔x∈acc\/R a x):∀(l:List α) (acc:List β) (x:β),x∈l.foldl f acc↔x∈acc\/∃a∈l,R a x
 |[],acc,x=>by simp
 |a::l,acc,x=>by
  rw[List.foldl_cons,hTZ f R hf l,hf];simp only[ZAT];constructor
  ·rintro((h|h)|⟨b,hb,h⟩)
   ·exact .inl h
   ·exact .inr ⟨a,.inl rfl,h⟩
   ·exact .inr ⟨b,.inr hb,h⟩
  ·rintro(h|⟨b,rfl|hb,h⟩)
   ·exact .inl (.inl h)
   ·exact .inl (.inr h)
   ·exact .inr ⟨b,hb,h⟩
theorem oxZ{l:List PastT}{acc:List StT}{s x:StT}:x∈stepS l acc s↔x∈acc\/∃i,i<l.length/\nextF l s i=some x:=by
 unfold stepS;rw[hTZ (stepI l s) (fun i x=>nextF l s i=some x) (fun acc a x=>nCZ)];simp only[ZBO]
theorem jbZ{l:List PastT}{all:List StT}{x:StT}:x∈levelF l all↔∃s∈all,∃i,i<l.length/\nextF l s i=some x:=by
 unfold levelF;rw[hTZ (lvl1 l all) (fun k x=>∃s,all[k]? =some s/\∃i,i<l.length/\nextF l s i=some x) (fun acc a x=>by
  unfold lvl1;cases h:all[a]? with
  |none=>simp
  |some s=>simp only[oxZ,ZAH,exists_eq_left'])]
 constructor
 ·rintro(h|⟨k,hk,s,hs,h⟩)
  ·cases h
  ·exact⟨s,ZAP hs,h⟩
 ·rintro⟨s,hs,h⟩;obtain⟨k,hk⟩:=ZAb hs;exact .inr ⟨k,ZBO.2 (ZAB.1 hk).1,s,hk,h⟩
theorem l8Z(l:List PastT)(hf:∀p∈l,FitP p)(most:Int):lJud fuel l most=some (judgeF l most):=by
 unfold lJud judgeF;rw[hzZ l hf,ZAA];cases hR:rightL l with
 |false=>rfl
 |true=>
  simp only[ZAK,ZAC];have hl:l.length<=200:=by
   unfold rightL at hR;rw[ZAD] at hR;have:=hR.1;simp at this;omega
  by_cases m1:most<1
  ·rw[ZAO m1];rfl
  rw[ZAJ m1];simp only[ZAC,ZAA,ZB2];by_cases m2:most>1000
  ·rw[ZAO m2];rfl
  rw[ZAJ m2];simp only[ZAC];refine(kNZ l hl fun x r1=>(lJud_l2_it fuel most (l,[(x,((r1.2.1,r1.1),r1.2.2))])).bind fun o5=>match o5 with
   |.inl s=>some (false,0)
   |.inr o6=>some o6).trans ?_
  simp only;obtain⟨o,ho,hq⟩:∃o,lJud_l2_it fuel most (l,[s0 l])=some o/\(match o with|.inl _=>(false,0)|.inr o6=>o6)=judgeGo l most (l.length+2) [s0 l]:=by
   unfold lJud_l2_it;refine a5Z (f:=fun tt:List PastT×List StT=>lJud_l2 fuel most tt.1 tt.2) (fun n x=>∃all,x=(l,all)/\(∀s∈all,Good l s/\cntP s+n=l.length+1)/\all.length<=1000000/\judgeGo l most (l.length+2) [s0 l]=judgeGo l most (n+1) all) _ (fun n x hI=> ?_) (fun x hI=> ?_) (l.length+1) _ (by omega)
    ⟨_,rfl,fun s hs=> ?_,by simp,rfl⟩
   ·obtain⟨all,rfl,hg,hal,hj⟩:=hI;rw[hj];dsimp only;unfold lJud_l2;cases all with
    |nil=>exact .inr ⟨_,rfl,rfl⟩
    |cons a r=>
     rw[ZAO (show(((a::r).length:Nat):Int)>0 by simp),ZAF,nQZ hl _ (by omega) (fun s hs=>(hg s hs).1),ZAA];show _\/∃o,_/\_=bif (a::r).any (fun s=>wholeB l s.1) then _ else bif decide ((((a::r).length:Nat):Int)>most) then _ else _;cases hw:(a::r).any (fun s=>wholeB l s.1) with
     |true=>exact .inr ⟨_,rfl,rfl⟩
     |false=>
      simp only[ZAC];by_cases hm:(((a::r).length:Nat):Int)>most
      ·rw[ZAO hm];exact .inr ⟨_,rfl,rfl⟩
      ·rw[ZAJ hm];simp only[ZAC];obtain⟨q1,q2,q3⟩:=s6Z hl (a::r) (fun s hs=>(hg s hs).1) (by omega);rw[q1,ZAA];refine .inl ⟨_,rfl,_,rfl,fun s hs=>⟨q2 s hs,?_⟩,?_,?_⟩
       ·obtain⟨t,ht,i,hi,hx⟩:=jbZ.1 hs;have:=pvZ hx (hg t ht).1;have:=(hg t ht).2;omega
       ·have:(a::r).length*l.length<=1000*200:=Nat.mul_le_mul (by omega) hl;omega
       ·show(bif (a::r).any (fun s=>wholeB l s.1) then _ else bif decide ((((a::r).length:Nat):Int)>most) then _ else judgeGo l most (n+1) (levelF l (a::r)))=_;rw[hw,ZAJ hm]
        rfl
   ·obtain⟨all,rfl,hg,hal,hj⟩:=hI;rw[hj];have:all=[]:=by
     cases all with
     |nil=>rfl
     |cons a r=>
      have h1:=hg a ZAm;have h2:cntP a<=a.1.length:=List.count_le_length;have h3:=h1.1.2;omega
    subst this;exact⟨_,rfl,rfl⟩
   ·obtain rfl:=ZAz.1 hs;refine⟨qBZ l,?_⟩;unfold cntP s0;rw[List.count_replicate];simp
  refine(congrArg (fun z=>Option.bind z _) ho).trans ?_;rw[ZAA,<-hq];cases o<;>rfl
theorem bPZ(l:List PastT)(hf:∀p∈l,FitP p):law28_judged fuel l=some (bif !((judgeF l 100).2==0) then IntKind.wrap .i64 (10+(judgeF l 100).2) else bif (judgeF l 100).1 then 1 else 0):=by
 unfold law28_judged;rw[l8Z l hf,ZAA];cases((judgeF l 100).2==0)<;>cases(judgeF l 100).1<;>rfl
def pst(client xid:Int)(op:UInt8)(b e:Int)(er:Int)(h:Int×Int):PastT:=((client,(xid,(op,((1,1),([102],((0,0),([],(0,(0,[]))))))))),(if e>0 then(client,(xid,(er,(h,(false,(0,([],([],(false,0))))))))) else repZ,(b,e)))
theorem qPZ(client xid:Int)(op:UInt8)(b e:Int)(er:Int)(h:Int×Int):FitP (pst client xid op b e er h):=by
 unfold FitP pst repZ;simp only;split<;>simp
theorem fit2{p q:PastT}(hp:FitP p)(hq:FitP q):∀x∈[p,q],FitP x:=fun x hx=>by
 simp only[ZAT,List.not_mem_nil,or_false] at hx;rcases hx with rfl|rfl
 ·exact hp
 ·exact hq
theorem ojZ{p q:PastT}(hp:FitP p)(hq:FitP q)(o:List Int)(ho:o.length<1000):lOrd fuel [p,q] o=some (rightL [p,q]&&orderC [p,q] o):=by
 rw[l0Z (hzZ _ (fit2 hp hq)) (fun _=>by simp) o (by omega),nsZ]
theorem kAZ{α β:Type}(a:α)(f:α->Option β):(some a).bind f=f a:=Eq.trans (Eq.refl _) (Eq.refl _)
theorem qGZ{α:Type}(a b:α):(bif true then a else b)=a:=Eq.trans (Eq.refl _) (Eq.refl _)
theorem get0{α:Type}(a:α)(l:List α):(a::l)[0]? =some a:=Eq.trans (Eq.refl _) (Eq.refl _)
theorem etaP(p:PastT):((p.1.1,(p.1.2.1,(p.1.2.2.1,p.1.2.2.2))),p.2)=p:=by
 have h:∀q:PastT,q=p->((q.1.1,(q.1.2.1,(q.1.2.2.1,q.1.2.2.2))),q.2)=p:=fun q hq=>by subst hq;rfl
 exact h _ rfl
theorem qQZ:law28_awake fuel=some true:=by
 have P:∀(client xid op b e er:Int) (h:Int×Int) (c:UInt8),byte? op=some c->law28_past fuel client xid op b e er h=some (pst client xid c b e er h):=fun client xid op b e er h c hc=>by
  unfold law28_past law28_root pst;rw[ZAA,hc,ZAA];by_cases he:e>0
  ·rw[ZAO he,ZAQ he];rfl
  ·rw[ZAJ he,ZAM he];rfl
 have F:=qPZ;have j1:law28_judged fuel [pst 0 1 (UInt8.ofNat 2) 1 4 0 (2,1),pst 1 1 (UInt8.ofNat 1) 2 3 0 (2,1)]=some 1:=(bPZ _ (fit2 (F ..) (F ..))).trans (by kernel_rfl);have j2:lOrd fuel [pst 0 1 (UInt8.ofNat 2) 1 4 0 (2,1),pst 1 1 (UInt8.ofNat 1) 2 3 0 (2,1)] [0,1]=some true:=(ojZ (F ..) (F ..) _ (by simp)).trans (by kernel_rfl);have j3:law28_judged fuel [pst 0 1 (UInt8.ofNat 2) 1 4 0 (2,1),pst 1 1 (UInt8.ofNat 1) 2 3 171 (0,0)]=some 1:=(bPZ _ (fit2 (F ..) (F ..))).trans (by kernel_rfl);have j4:lOrd fuel [pst 0 1 (UInt8.ofNat 2) 1 4 0 (2,1),pst 1 1 (UInt8.ofNat 1) 2 3 171 (0,0)] [1,0]=some true:=(ojZ (F ..) (F ..) _ (by simp)).trans (by kernel_rfl);have j5:lOrd fuel [pst 0 1 (UInt8.ofNat 2) 1 4 0 (2,1),pst 1 1 (UInt8.ofNat 1) 2 3 171 (0,0)] [0,1]=some false:=(ojZ (F ..) (F ..) _ (by simp)).trans (by kernel_rfl);have j6:law28_judged fuel [pst 0 1 (UInt8.ofNat 2) 1 4 0 (2,1),pst 1 1 (UInt8.ofNat 1) 5 6 171 (0,0)]=some 0:=(bPZ _ (fit2 (F ..) (F ..))).trans (by kernel_rfl);have j7:law28_judged fuel [pst 0 1 (UInt8.ofNat 2) 1 4 0 (2,1),pst 1 1 (UInt8.ofNat 2) 2 3 0 (2,1)]=some 0:=(bPZ _ (fit2 (F ..) (F ..))).trans (by kernel_rfl);have j8:law28_judged fuel [pst 0 1 (UInt8.ofNat 2) 1 4 0 (2,1),pst 1 1 (UInt8.ofNat 2) 2 3 172 (0,0)]=some 1:=(bPZ _ (fit2 (F ..) (F ..))).trans (by kernel_rfl);have j9:law28_judged fuel [pst 0 1 (UInt8.ofNat 2) 1 0 0 (0,0),pst 1 1 (UInt8.ofNat 1) 5 6 0 (2,1)]=some 1:=(bPZ _ (fit2 (F ..) (F ..))).trans (by kernel_rfl);have j10:law28_judged fuel [pst 0 1 (UInt8.ofNat 2) 1 0 0 (0,0),pst 1 1 (UInt8.ofNat 1) 5 6 171 (0,0)]=some 1:=(bPZ _ (fit2 (F ..) (F ..))).trans (by kernel_rfl);have t1:((1:Int)==1)=true:=ZAS _;have t0:((0:Int)==0)=true:=ZAS _;unfold law28_awake;rw[P 0 1 2 1 4 0 (2,1) (UInt8.ofNat 2) rfl,kAZ,P 1 1 1 2 3 0 (2,1) (UInt8.ofNat 1) rfl,kAZ,P 1 1 1 2 3 171 (0,0) (UInt8.ofNat 1) rfl,kAZ,P 0 1 2 1 0 0 (0,0) (UInt8.ofNat 2) rfl,kAZ]
 simp only[kwZ,kAZ,etaP,j1,j2,j3,j4,j5,t1,qGZ,get0];rw[P 1 1 1 5 6 171 (0,0) (UInt8.ofNat 1) rfl,P 1 1 2 2 3 0 (2,1) (UInt8.ofNat 2) rfl,P 1 1 2 2 3 172 (0,0) (UInt8.ofNat 2) rfl];simp only[kwZ,kAZ,etaP,j6,j7,j8,t0,t1,qGZ,ZAc,get0];rw[P 1 1 1 5 6 0 (2,1) (UInt8.ofNat 1) rfl,P 1 1 1 5 6 171 (0,0) (UInt8.ofNat 1) rfl];simp only[kwZ,kAZ,etaP,j9,j10,t1,qGZ,get0]
end Go.Ab.D
set_option maxRecDepth 100000
set_option maxHeartbeats 4000000
namespace Go.Ab.D
open Go Go.Ab
structure Alt (p p':PastT):Prop where
 c:p'.1=p.1
 f:failB p'=failB p
 r:failB p'=false->p'.2.2.2>0->p.2.2.2>0/\p'.2.1=p.2.1
 t:p'.2.2.1<=100*p.1.2.1/\(p'.2.2.2<=0\/100*p.1.2.1<=p'.2.2.2)
end Go.Ab.D
set_option maxRecDepth 100000
set_option maxHeartbeats 4000000
namespace Go.Ab.D
open Go Go.Ab
theorem ltZ(l:List PastT)(most:Int):∀(n:Nat) (all:List StT),judgeGo l most n all=(false,0)\/judgeGo l most n all=(true,0)\/judgeGo l most n all=(false,5)
 |0,_=>.inl rfl
 |n+1,all=>by
  unfold judgeGo;cases nilL all with
  |true=>exact .inl rfl
  |false=>
   simp only[ZAC];cases all.any (fun s=>wholeB l s.1) with
   |true=>exact .inr (.inl rfl)
   |false=>
    simp only[ZAC];cases decide (((all.length:Nat):Int)>most) with
    |true=>exact .inr (.inr rfl)
    |false=>exact ltZ l most n _
theorem qyZ(l:List PastT)(most:Int):∀(n:Nat) (all:List StT) (o:List Int) (s t:StT),s∈all->runO l s o=some t->wholeB l t.1=true->o.length<n->judgeGo l most n all≠(false,0)
 |0,_,_,_,_,_,_,_,h=>by omega
 |n+1,all,o,s,t,hs,hr,hw,hn=>by
  unfold judgeGo;have hne:nilL all=false:=by cases all with|nil=>cases hs|cons a r=>rfl
  rw[hne,ZAC];cases ha:all.any (fun s=>wholeB l s.1) with
  |true=>intro h;cases h
  |false=>
   simp only[ZAC];cases decide (((all.length:Nat):Int)>most) with
   |true=>intro h;cases h
   |false=>
    simp only[ZAC];cases o with
    |nil=>
     obtain rfl:=ZAk hr;have:=List.any_eq_false.1 ha s hs;rw[hw] at this;exact absurd rfl this
    |cons i r=>
     rw[cUZ] at hr;split at hr
     ·rename_i hi;obtain⟨u,h1,h2⟩:=ZAG.1 hr;exact qyZ l most n _ r u t (jbZ.2 ⟨s,hs,i.toNat,by omega,h1⟩) h2 hw (by simp at hn;omega)
     ·cases hr
theorem jGZ{l:List PastT}{most:Int}(hR:rightL l=true)(hm:1<=most/\most<=1000){o:List Int}(ho:orderB l o=true)(hn:o.length<=l.length):judgeF l most=(true,0)\/judgeF l most=(false,5):=by
 unfold judgeF;rw[hR,ZAJ (show¬most<1 by omega),ZAJ (show¬most>1000 by omega)];show judgeGo l most (l.length+2) [s0 l]=_\/_;rcases ltZ l most (l.length+2) [s0 l] with h|h|h
 ·unfold orderB at ho;cases hr:runO l (s0 l) o with
  |none=>rw[hr] at ho;cases ho
  |some t=>
   rw[hr] at ho;exact absurd h (qyZ l most _ _ o _ t (ZAz.2 rfl) hr ho (by omega))
 ·exact .inl h
 ·exact .inr h
theorem TInv.right{L:List SayL}{k:Nat}{m:Mod}{hs:List (Int×Int)}{out:List PastT}{ord en:List Int}(I:TInv L k m hs out ord en)(hk:k<=12):rightL out=true:=by
 unfold rightL;rw[I.rgt,ZAJ (show¬((out.length:Nat):Int)>200 by have:=I.olen;omega)]
 rfl
theorem cGZ(l:List SayL):law28_LinearHolds fuel l=some true:=by
 obtain⟨k,m,hs,out,ord,en,ht,I,hk,_⟩:=rvZ l;have hol:=I.olen;have hR:=I.right hk;have hO:orderB out ord=true:=by rw[I.oeq];exact pOZ I.timed I.oks
 have hJ:=jGZ hR (most:=1000) ⟨by decide,by decide⟩ hO (by rw[I.oeq];exact hQZ _);have hr:=hzZ out I.fit;rw[hR] at hr;have ho:=l0Z hr (fun _=>by omega) ord (by rw[I.oeq];have:=hQZ out;omega);rw[hO] at ho;unfold law28_LinearHolds;rw[ht,ZAA];simp only;rw[hr,ZAA];simp only[ZAK,ZAC];rw[ho,ZAA,ZAA];simp only[Bool.and_self,ZAK,ZAC];rw[l8Z out I.fit,ZAA,qQZ];rcases hJ with h|h
 ·rw[h];rfl
 ·rw[h];rfl
theorem law28_LinearHolds_true(l:List SayL)(_k0:OkV (.sl qY37) l):law28_LinearHolds fuel l=some true:=cGZ l
end Go.Ab.D
