/- What the functions compute; the plain law. -/
import Derived.Test.YtkfgjhbbdoljiaaGreatLinearAllQ2
import Derived.KernelRfl
set_option linter.all false
set_option maxRecDepth 100000
set_option maxHeartbeats 4000000
namespace Go.Ab.D
open Go Go.Ab
def runM:Mod->List PastT->Mod
 |m,[]=>m
 |m,p::r=>runM (if failB p then m else(resF m p.1).1) r
def okM:Mod->List PastT->Prop
 |_,[]=>True
 |m,p::r=>(failB p=false->p.2.2.2>0->repT (resF m p.1) p.1=p.2.1)/\okM (if failB p then m else(resF m p.1).1) r
theorem jnZ:∀(m:Mod) (l:List PastT) (p:PastT),runM m (l++[p])=if failB p then runM m l else(resF (runM m l) p.1).1
 |m,[],p=>rfl
 |m,q::r,p=>jnZ _ r p
theorem ltZ:∀(m:Mod) (l:List PastT) (p:PastT),okM m (l++[p])↔okM m l/\(failB p=false->p.2.2.2>0->repT (resF (runM m l) p.1) p.1=p.2.1)
 |m,[],p=>⟨fun h=>⟨trivial,h.1⟩,fun h=>⟨h.2,trivial⟩⟩
 |m,q::r,p=>by
  have:=ltZ (if failB q then m else(resF m q.1).1) r p;show(_/\okM _ (r++[p]))↔_;rw[this];exact⟨fun h=>⟨⟨h.1,h.2.1⟩,h.2.2⟩,fun h=>⟨h.1.1,h.1.2,h.2⟩⟩
def nofail(l:List PastT)(j:Nat):Bool:=match l[j]? with
 |some p=> !failB p
 |none=>false
def idxs(l:List PastT):List Int:=((List.range l.length).filter (nofail l)).map fun j=>((j:Nat):Int)
theorem nCZ(l:List PastT)(p:PastT):idxs (l++[p])=idxs l++if failB p then[] else[((l.length:Nat):Int)]:=by
 unfold idxs;rw[ZAi,List.length_singleton,ZCJ,ZB9,List.map_append];congr 1
 ·congr 1;apply List.filter_congr;intro j hj;unfold nofail;rw[ZAN (ZBL.1 hj)]
 ·have:nofail (l++[p]) l.length= !failB p:=by
   unfold nofail;rw[ZAX (ZAL _),Nat.sub_self]
   rfl
  rw[List.filter_cons,this];cases failB p<;>rfl
theorem pFZ(l:List PastT):(idxs l).length<=l.length:=by
 unfold idxs;rw[ZBd];exact ZBf (ZBi _ _) (by rw[ZCK];exact ZAL _)
def updL(l:List PastT)(bef:Int->Option PastT):Int->Option PastT:=l.foldl (fun b q c=>if c=q.1.1 then some q else b c) bef
theorem odZ(l:List PastT)(bef:Int->Option PastT)(p:PastT):updL (l++[p]) bef=fun c=>if c=p.1.1 then some p else updL l bef c:=by
 unfold updL;rw[List.foldl_append];rfl
theorem eUZ:∀(l:List PastT) (bef:Int->Option PastT) (p:PastT),rightGo (l++[p]) bef=(rightGo l bef&&(oneB p&&(match updL l bef p.1.1 with|some w=>folB w p|none=>true)))
 |[],bef,p=>by
  show(oneB p&&((match bef p.1.1 with|some w=>folB w p|none=>true)&&true))=(true&&(oneB p&&(match bef p.1.1 with|some w=>folB w p|none=>true)));rw[Bool.and_true,ZAV]
 |q::r,bef,p=>by
  show(oneB q&&((match bef q.1.1 with|some w=>folB w q|none=>true)&&rightGo (r++[p]) _))=_;rw[eUZ r _ p];show _=((oneB q&&((match bef q.1.1 with|some w=>folB w q|none=>true)&&rightGo r _))&&_);rw[Bool.and_assoc,Bool.and_assoc]
  rfl
def TimeP(p:PastT):Prop:=1<=p.1.2.1/\p.1.2.1<=12/\1<=p.2.2.1/\p.2.2.1<=100*p.1.2.1/\(p.2.2.2=0\/100*p.1.2.1<=p.2.2.2)/\p.2.2.2<=2000
def calmB(x:SayL):Prop:=x.2.1.toNat=0/\x.2.2.1.toNat=0/\x.2.2.2.1=false/\x.2.2.2.2.1=false
structure TInv (L:List SayL) (k:Nat) (m:Mod) (hs:List (Int×Int)) (out:List PastT) (ord en:List Int):Prop where
 m_ok:ModelOK m
 hs1:1<=hs.length
 hs2:hs.length<=k+1
 olen:out.length<=k
 elen:en.length=4
 eb:∀e∈en,-1<=e/\e<=2000
 oeq:ord=idxs out
 run:m=runM M0 out
 oks:okM M0 out
 tm:∀p∈out,TimeP p/\p.1.2.1<=k
 srt:out.Pairwise fun p q=>p.1.2.1<q.1.2.1
 rgt:rightGo out (fun _=>none)=true
 las:∀c:Nat,c<4->∃e,en[c]? =some e/\match updL out (fun _=>none) (c:Int) with
  |none=>e=0
  |some w=>w.1.2.1<=k/\((w.2.2.2=0/\e= -1)\/(w.2.2.2=e/\0<e))
 fit:∀p∈out,FitP p
 calm:(∀x∈L,calmB x)->∀p∈out,p.2.2.1=100*p.1.2.1/\p.2.2.2=100*p.1.2.1/\failB p=false
theorem pXZ{a e n:Int}(h0:0<=e)(h1:e<a)(hn:0<=n):1<=bgn a e n/\bgn a e n<=a/\e<bgn a e n/\(n=0->bgn a e n=a):=by
 unfold bgn
 (repeat' split)<;>omega
theorem TInv.skip{L:List SayL}{k:Nat}{m:Mod}{hs:List (Int×Int)}{out:List PastT}{ord en:List Int}(I:TInv L k m hs out ord en):TInv L (k+1) m hs out ord en:=
 {I with
  hs2:=by have:=I.hs2;omega
  olen:=by have:=I.olen;omega
  tm:=fun p hp=>⟨(I.tm p hp).1,by have:=(I.tm p hp).2;omega⟩
  las:=fun c hc=>by
   obtain⟨e,h1,h2⟩:=I.las c hc;refine⟨e,h1,?_⟩;split
   ·rename_i h;rw[h] at h2;exact h2
   ·rename_i w h;rw[h] at h2;exact⟨by have:=h2.1;omega,h2.2⟩}
theorem TInv.add{L:List SayL}{k:Nat}(hk:k<12){m:Mod}{hs:List (Int×Int)}{out:List PastT}{ord en:List Int}(I:TInv L k m hs out ord en){c:CallT}{e:Int}(ha:Asked m k en c e){x:SayL}(hx:x∈L)
 {p:PastT}(hp:p.1=c)(hbg:p.2.2.1=bgn (tim k) e x.2.1.toNat)(hend:p.2.2.2=0\/tim k<=p.2.2.2)(he2:p.2.2.2<=2000)(h1:oneB p=true)(hf:FitP p)(hok:failB p=false->p.2.2.2>0->repT (resF m p.1) p.1=p.2.1)
 {m':Mod}{hs':List (Int×Int)}{ord' en':List Int}(hm:m'=if failB p then m else(resF m p.1).1)(hhs:hs'=hs\/∃a,hs'=hs++[a])(hord:ord'=ord++if failB p then[] else[((out.length:Nat):Int)])
 (hen:en'=en.set c.1.toNat (if p.2.2.2=0 then-1 else p.2.2.2))(hc:calmB x->p.2.2.2=tim k/\failB p=false):TInv L (k+1) m' hs' (out++[p]) ord' en':=by
 obtain⟨c0,c4,cx,_,ce,e0,e1⟩:=ha;have hB:=pXZ e0 e1 (n:=(x.2.1.toNat:Int)) (by omega);have hxid:p.1.2.1=(k:Int)+1:=by rw[hp];exact cx
 have htim:tim k=100*p.1.2.1:=by rw[hxid];rfl
 have htp:TimeP p:=⟨by omega,by omega,by rw[hbg];exact hB.1,by rw[hbg,<-htim];exact hB.2.1,by rw[<-htim];exact hend,he2⟩;have ht0:100<=tim k:=by unfold tim;omega
 refine⟨?_,?_,?_,?_,?_,?_,?_,?_,?_,?_,?_,?_,?_,?_,?_⟩
 ·rw[hm];split
  ·exact I.m_ok
  ·exact q2Z I.m_ok _
 ·have:=I.hs1;rcases hhs with rfl|⟨a,rfl⟩
  ·exact this
  ·simp
 ·have:=I.hs2;rcases hhs with rfl|⟨a,rfl⟩
  ·omega
  ·simp;omega
 ·have:=I.olen;rw[ZAi,List.length_singleton];omega
 ·rw[hen,ZAv];exact I.elen
 ·intro y hy;rw[hen] at hy;rcases List.mem_or_eq_of_mem_set hy with hy|rfl
  ·exact I.eb y hy
  ·split
   ·exact⟨by omega,by omega⟩
   ·exact⟨by omega,he2⟩
 ·rw[hord,I.oeq,nCZ]
 ·rw[hm,jnZ,<-I.run]
 ·rw[ltZ];exact⟨I.oks,by rw[<-I.run];exact hok⟩
 ·intro q hq;rcases ZAh.1 hq with hq|hq
  ·exact⟨(I.tm q hq).1,by have:=(I.tm q hq).2;omega⟩
  ·obtain rfl:=ZAp.1 hq;exact⟨htp,by omega⟩
 ·rw[ZBm];refine⟨I.srt,List.pairwise_singleton _ _,fun q hq r hr=> ?_⟩;obtain rfl:=ZAp.1 hr;have:=(I.tm q hq).2;omega
 ·rw[eUZ,I.rgt,h1,ZAV,ZAV];obtain⟨e',q1,q2⟩:=I.las c.1.toNat (by omega);rw[ce] at q1;obtain rfl:=ZAm q1;rw[hp,show c.1=((c.1.toNat:Nat):Int) by omega];split
  ·rename_i w hw;rw[hw] at q2;obtain⟨q3,q4⟩:=q2;rcases q4 with⟨_,q5⟩|⟨q5,q6⟩
   ·omega
   ·unfold folB;rw[show(w.2.2.2==0)=false from ZAW.2 (by omega),ZAJ (show¬w.2.2.2>=p.2.2.1 by rw[hbg];omega),ZAJ (show¬w.1.2.1>=p.1.2.1 by omega)]
    rfl
  ·rfl
 ·intro d hd;rw[odZ,hen];dsimp only;by_cases hdc:(d:Int)=p.1.1
  ·rw[ZAP hdc];have:d=c.1.toNat:=by rw[hp] at hdc;omega
   refine⟨_,by rw[this];exact ZAY (by have:=I.elen;omega),?_⟩;refine⟨by omega,?_⟩;split
   ·rename_i h0;exact .inl ⟨h0,rfl⟩
   ·rename_i h0;exact .inr ⟨rfl,by omega⟩
  ·rw[ZAM hdc];obtain⟨e',q1,q2⟩:=I.las d hd;refine⟨e',by rw[ZAU (by rw[hp] at hdc;omega)];exact q1,?_⟩;split
   ·rename_i h;rw[h] at q2;exact q2
   ·rename_i w h;rw[h] at q2;exact⟨by have:=q2.1;omega,q2.2⟩
 ·intro q hq;rcases ZAh.1 hq with hq|hq
  ·exact I.fit q hq
  ·obtain rfl:=ZAp.1 hq;exact hf
 ·intro hcalm q hq;rcases ZAh.1 hq with hq|hq
  ·exact I.calm hcalm q hq
  ·obtain rfl:=ZAp.1 hq;have h3:=hc (hcalm x hx);have h4:=(hcalm x hx).1;exact⟨by rw[hbg,hB.2.2.2 (by omega),htim],by rw[h3.1,htim],h3.2⟩
theorem pvZ{p:PastT}(h:p.2.1.2.2.1≠151):failB p=false:=by
 unfold failB;rw[ZAW.2 h,ZAu]
theorem kgZ{p:PastT}(hr:rightCall p.1=true)(h1:1<=p.2.2.1)(h2:p.2.2.1<=1099511627776)(h3:(p.2.2.2=0/\nothB p.2.1=true)\/(p.2.2.2≠0/\p.2.2.2>=p.2.2.1/\p.2.2.2<=1099511627776/\rightReply p.2.1=true/\p.2.1.1=p.1.1/\p.2.1.2.1=p.1.2.1)):oneB p=true:=by
 unfold oneB;rw[hr,ZAJ (show¬p.2.2.1<1 by omega),ZAJ (show¬p.2.2.1>1099511627776 by omega)];rcases h3 with⟨q1,q2⟩|⟨q1,q2,q3,q4,q5,q6⟩
 ·rw[q1,q2];rfl
 ·rw[ZAW.2 q1,ZAO q2,ZAO q3,q4,q5,q6,ZAS,ZAS];rfl
theorem TInv.round{L:List SayL}{k:Nat}(hk:k<12){m:Mod}{hs:List (Int×Int)}{out:List PastT}{ord en:List Int}(I:TInv L k m hs out ord en){x:SayL}(hx:x∈L)
 {m':Mod}{hs':List (Int×Int)}{out':List PastT}{ord' en':List Int}(r:Rnd k x m hs out ord en m' hs' out' ord' en'):TInv L (k+1) m' hs' out' ord' en':=by
 have hA:=x.2.1.toNat_lt;have hB:=x.2.2.1.toNat_lt;have ht:100<=tim k/\tim k<=1200:=by unfold tim;omega
 cases r with
 |skip=>exact I.skip
 |lost c e ha hL=>
  have hr:=gnZ ha.2.2.2.1;have hb:=pXZ ha.2.2.2.2.2.1 ha.2.2.2.2.2.2 (n:=(x.2.1.toNat:Int)) (by omega);exact I.add hk ha hx (p:=(c,(repZ,(bgn (tim k) e x.2.1.toNat,0)))) rfl rfl (.inl rfl) (by show(0:Int)<=2000;decide) (kgZ hr hb.1 (by show bgn _ _ _<=_;omega) (.inl ⟨rfl,rfl⟩)) ⟨by simp[repZ],by simp[repZ]⟩ (fun _ h=>absurd h (by show¬(0:Int)>0;decide)) rfl (.inl rfl) rfl rfl
   (fun h=>by have:=h.2.2.1;rw[hL] at this;cases this)
 |fail c e ha hF=>
  have hr:=gnZ ha.2.2.2.1;have hb:=pXZ ha.2.2.2.2.2.1 ha.2.2.2.2.2.2 (n:=(x.2.1.toNat:Int)) (by omega);have hf:failB (c,(repIO c,(bgn (tim k) e x.2.1.toNat,tim k+(x.2.2.1.toNat:Int))))=true:=by
   unfold failB;rw[ZAO (show tim k+(x.2.2.1.toNat:Int)>0 by omega)]
   rfl
  refine I.add hk ha hx (p:=(c,(repIO c,(bgn (tim k) e x.2.1.toNat,tim k+(x.2.2.1.toNat:Int))))) rfl rfl (.inr (by show _<=_+_;omega)) (by show _+_<=_;omega) (kgZ hr hb.1 (by show bgn _ _ _<=_;omega) (.inr ⟨?_,?_,?_,ktZ hr,rfl,rfl⟩)) ⟨by simp[repIO],by simp[repIO]⟩ (fun h=>by rw[hf] at h;cases h) (by rw[hf];rfl) (.inl rfl) (by rw[hf];simp) ?_
   (fun h=>by have:=h.2.2.2;rw[hF] at this;cases this)
  ·show _+_≠_;omega
  ·show _+_>=bgn _ _ _;omega
  ·show _+_<=_;omega
  ·rw[ZAM (by show¬_+_=_;omega)]
 |ok c e ha hs' hh=>
  have hr:=gnZ ha.2.2.2.1;have hb:=pXZ ha.2.2.2.2.2.1 ha.2.2.2.2.2.2 (n:=(x.2.1.toNat:Int)) (by omega);have hrep:=npZ I.m_ok hr;have hf:failB (c,(repT (resF m c) c,(bgn (tim k) e x.2.1.toNat,tim k+(x.2.2.1.toNat:Int))))=false:=pvZ hrep.2;have hro:=(qtZ I.m_ok c).2.2;refine I.add hk ha hx (p:=(c,(repT (resF m c) c,(bgn (tim k) e x.2.1.toNat,tim k+(x.2.2.1.toNat:Int))))) rfl rfl (.inr (by show _<=_+_;omega)) (by show _+_<=_;omega) (kgZ hr hb.1 (by show bgn _ _ _<=_;omega) (.inr ⟨?_,?_,?_,hrep.1,rfl,rfl⟩))
   ⟨by have:=hro.b;show(resF m c).2.2.2.2.2.1.length<_;omega,by have:=hro.n;show(resF m c).2.2.2.2.2.2.1.length<_;omega⟩ (fun _ _=>rfl) (by rw[hf];rfl) hh (by rw[hf];rfl) ?_
   (fun h=>⟨by have:=h.2.1;show _+_=_;omega,hf⟩)
  ·show _+_≠_;omega
  ·show _+_>=bgn _ _ _;omega
  ·show _+_<=_;omega
  ·rw[ZAM (by show¬_+_=_;omega)]
theorem r9Z(l:List SayL):∃k m hs out ord en,law28_told fuel l=some (out,ord)/\TInv l k m hs out ord en/\k<=12/\k<=l.length:=by
 unfold law28_told law28_told_l0_it;rw[quZ,ZAA];unfold law28_root;rw[ZAA];obtain⟨o,ho,hq⟩:∃o,iter fuel (fun tt:Int×T7=>law28_told_l0 fuel l tt.1 tt.2.1 tt.2.2.1 tt.2.2.2.1 tt.2.2.2.2.1 tt.2.2.2.2.2.1 tt.2.2.2.2.2.2.1 tt.2.2.2.2.2.2.2) (0,tS M0 [((1:Int),(1:Int))] [] [] (List.replicate 4 0))=some o/\∃k m hs en,TInv l k m hs o.1 o.2 en/\k<=12/\k<=l.length:=by
  refine a5Z (fun n s=>∃(k:Nat) (m:Mod) (hs:List (Int×Int)) (out:List PastT) (ord en:List Int),s=((k:Int),tS m hs out ord en)/\k+n=12/\TInv l k m hs out ord en/\k<=l.length) _ (fun n s hI=> ?_) (fun s hI=> ?_) 12 _ (by omega)
   ⟨0,M0,_,[],[],List.replicate 4 0,rfl,by omega,⟨saZ,by simp,by simp,by simp,rfl,fun e he=> ?_,rfl,rfl,trivial,fun p hp=>(by cases hp),List.Pairwise.nil,rfl,fun c hc=>⟨0,?_,rfl⟩,fun p hp=>(by cases hp),fun _ p hp=>(by cases hp)⟩,ZBX _⟩
  ·obtain⟨k,m,hs,out,ord,en,rfl,hk,I,hkl⟩:=hI;by_cases hlt:k<l.length
   ·have hg:=ZAE hlt;rcases mCZ (ord:=ord) hg (by omega) I.m_ok I.hs1 I.hs2 I.olen (by rw[I.oeq];exact ZBf (pFZ _) I.olen) I.elen I.eb with q|⟨m',hs',out',ord',en',q1,q2⟩
    ·exact .inr ⟨_,q,k,m,hs,en,I,by omega,hkl⟩
    ·exact .inl ⟨_,q1,k+1,m',hs',out',ord',en',rfl,by omega,I.round (by omega) (ZBn hlt) q2,hlt⟩
   ·refine .inr ⟨(out,ord),?_,k,m,hs,en,I,by omega,hkl⟩;show law28_told_l0 fuel l (k:Int) m.1.2 m.1.1 m.2 hs out ord en=_;unfold law28_told_l0;rw[anZ hlt]
    rfl
  ·obtain⟨k,m,hs,out,ord,en,rfl,hk,I,hkl⟩:=hI;refine⟨(out,ord),?_,k,m,hs,en,I,by omega,hkl⟩;show law28_told_l0 fuel l (k:Int) m.1.2 m.1.1 m.2 hs out ord en=_;unfold law28_told_l0;by_cases hlt:k<l.length
   ·rw[azZ hlt,ZAF,ZAJ (show¬(k:Int)<12 by omega)]
    rfl
   ·rw[anZ hlt]
    rfl
  ·rw[ZBh he];exact⟨by decide,by decide⟩
  ·rw[ZBz,ZAP hc]
 obtain⟨k,m,hs,en,I,h1,h2⟩:=hq;refine⟨k,m,hs,o.1,o.2,en,?_,I,h1,h2⟩;refine(congrArg (fun z=>Option.bind z _) ho).trans ?_
 rfl
end Go.Ab.D
set_option maxRecDepth 100000
set_option maxHeartbeats 4000000
namespace Go.Ab.D
open Go Go.Ab
structure Timed (l:List PastT):Prop where
 t:∀p∈l,p.2.2.1<=100*p.1.2.1/\(p.2.2.2<=0\/100*p.1.2.1<=p.2.2.2)
 s:l.Pairwise fun p q=>p.1.2.1<q.1.2.1
end Go.Ab.D
set_option maxRecDepth 100000
set_option maxHeartbeats 4000000
namespace Go.Ab.D
open Go Go.Ab
def pe{α β:Type}(f:α->α->Bool)(g:β->β->Bool)(a b:α×β):Bool:=f a.1 b.1&&g a.2 b.2
theorem cbZ{α β:Type}{f:α->α->Bool}{g:β->β->Bool}(hf:∀a b,f a b=sm a b)(hg:∀a b,g a b=sm a b)(a b:α×β):pe f g a b=sm a b:=by
 unfold pe;rw[hf,hg];by_cases h:a=b
 ·subst h;rw[sm_t rfl,sm_t rfl,sm_t rfl];rfl
 ·rw[sm_f h];by_cases h1:a.1=b.1
  ·rw[sm_f (fun h2=>h (Prod.ext h1 h2)),ZAu]
  ·rw[sm_f h1];rfl
def le_{α:Type}(f:α->α->Bool):List α->List α->Bool
 |[],[]=>true
 |a::l,b::r=>f a b&&le_ f l r
 |_,_=>false
theorem jhZ{α:Type}{f:α->α->Bool}(hf:∀a b,f a b=sm a b):∀l r:List α,le_ f l r=sm l r
 |[],[]=>by rw[sm_t rfl];rfl
 |a::l,[]=>by rw[sm_f (by simp)];rfl
 |[],b::r=>by rw[sm_f (by simp)];rfl
 |a::l,b::r=>by
  unfold le_;rw[hf,jhZ hf l r];by_cases h:a::l=b::r
  ·obtain⟨rfl,rfl⟩:=List.cons.inj h;rw[sm_t rfl,sm_t rfl,sm_t rfl];rfl
  ·rw[sm_f h];by_cases h1:a=b
   ·rw[sm_f (fun h2:l=r=>h (by rw[h1,h2])),ZAu]
   ·rw[sm_f h1];rfl
def eqI(a b:Int):Bool:=a==b
def eqB(a b:Bool):Bool:=a==b
def eqS(a b:List UInt8):Bool:=a==b
def eqEn:Ent->Ent->Bool:=pe eqS eqI
def eqRep:RepT->RepT->Bool:=pe eqI (pe eqI (pe eqI (pe (pe eqI eqI) (pe eqB (pe eqI (pe eqS (pe (le_ eqEn) (pe eqB eqI))))))))
def eqIno:Ino->Ino->Bool:=pe eqI (pe eqI (pe eqB (pe eqB (pe eqI (pe (le_ (pe eqI eqI)) (pe eqI (le_ eqEn)))))))
def eqSt:StT->StT->Bool:=pe (le_ eqB) (pe (pe (le_ eqIno) eqI) (le_ eqS))
theorem bEZ(a b:Int):eqI a b=sm a b:=j1Z a b
theorem j3Z(a b:Bool):eqB a b=sm a b:=j1Z a b
theorem nZZ(a b:List UInt8):eqS a b=sm a b:=j1Z a b
theorem nqZ:∀a b,eqEn a b=sm a b:=cbZ nZZ bEZ
theorem p2Z:∀a b,eqRep a b=sm a b:=cbZ bEZ (cbZ bEZ (cbZ bEZ (cbZ (cbZ bEZ bEZ) (cbZ j3Z (cbZ bEZ (cbZ nZZ (cbZ (jhZ nqZ) (cbZ j3Z bEZ))))))))
theorem pDZ:∀a b,eqIno a b=sm a b:=cbZ bEZ (cbZ bEZ (cbZ j3Z (cbZ j3Z (cbZ bEZ (cbZ (jhZ (cbZ bEZ bEZ)) (cbZ bEZ (jhZ nqZ)))))))
theorem o8Z:∀a b,eqSt a b=sm a b:=cbZ (jhZ j3Z) (cbZ (cbZ (jhZ pDZ) bEZ) (jhZ nZZ))
def nextC(l:List PastT)(s:StT)(i:Nat):Option StT:=match l[i]? with
 |some p=>bif mayB l s.1 i&&(!decide (p.2.2.2>0)||eqRep (repT (resF s.2 p.1) p.1) p.2.1) then some (s.1.set i true,(resF s.2 p.1).1) else none
 |none=>none
theorem fdZ(l:List PastT)(s:StT)(i:Nat):nextC l s i=nextF l s i:=by
 unfold nextC nextF;cases l[i]? with
 |none=>rfl
 |some p=>simp only[p2Z]
def runC(l:List PastT):StT->List Int->Option StT
 |s,[]=>some s
 |s,i::r=>if 0<=i/\i<l.length then(nextC l s i.toNat).bind fun t=>runC l t r else none
theorem oTZ(l:List PastT):∀(o:List Int) (s:StT),runC l s o=runO l s o
 |[],s=>rfl
 |i::r,s=>by
  rw[c8Z];show(if _ then(nextC l s i.toNat).bind _ else none)=_;rw[fdZ];congr 2;funext t;exact oTZ l r t
def orderC(l:List PastT)(o:List Int):Bool:=match runC l (s0 l) o with
 |some t=>wholeB l t.1
 |none=>false
theorem oFZ(l:List PastT)(o:List Int):orderC l o=orderB l o:=by unfold orderC orderB;rw[oTZ];cases runO l (s0 l) o<;>rfl
def addC(x:StT)(acc:List StT):List StT:=bif acc.any (eqSt x) then acc else acc++[x]
def stepI(l:List PastT)(s:StT)(acc:List StT)(i:Nat):List StT:=match nextC l s i with
 |some x=>addC x acc
 |none=>acc
def stepS(l:List PastT)(acc:List StT)(s:StT):List StT:=(List.range l.length).foldl (stepI l s) acc
def lvl1(l:List PastT)(all:List StT)(acc:List StT)(k:Nat):List StT:=match all[k]? with
 |some s=>stepS l acc s
 |none=>acc
def levelF(l:List PastT)(all:List StT):List StT:=(List.range all.length).foldl (lvl1 l all) []
def judgeGo(l:List PastT)(most:Int):Nat->List StT->Bool×Int
 |0,_=>(false,0)
 |n+1,all=>bif nilL all then(false,0) else bif all.any (fun s=>wholeB l s.1) then(true,0) else bif decide (((all.length:Nat):Int)>most) then(false,5) else judgeGo l most n (levelF l all)
def judgeF(l:List PastT)(most:Int):Bool×Int:=bif !rightL l then(false,270) else bif decide (most<1)||decide (most>1000) then(false,2) else judgeGo l most (l.length+2) [s0 l]
theorem lzZ{τ ο:Type}{f:τ->Option (τ⊕ο)}{e:ο}(o:Nat->ο)(S:Nat->τ)(t:Nat->Bool)(n:Nat)(hn:n<1000000000)(hs:∀k,k<n->f (S k)=some (bif t k then .inr (o k) else .inl (S (k+1))))(he:f (S n)=some (.inr e)):
 ∃r,iter fuel f (S 0)=some r/\(((List.range n).any t=true/\∃k,k<n/\r=o k)\/((List.range n).any t=false/\r=e)):=by
 refine a5Z (fun m s=>∃k:Nat,s=S k/\k+m=n/\(List.range k).any t=false) _ (fun m s hI=> ?_) (fun s hI=> ?_) n (S 0) (by omega) ⟨0,rfl,by omega,rfl⟩
 ·obtain⟨k,rfl,hk,ha⟩:=hI;rw[hs k (by omega)];cases ht:t k with
  |true=>exact .inr ⟨_,rfl,.inl ⟨ZBa.2 ⟨k,ZBL.2 (by omega),ht⟩,k,by omega,rfl⟩⟩
  |false=>exact .inl ⟨_,rfl,k+1,rfl,by omega,by rw[ZCJ,List.any_append,ha];simp[ht]⟩
 ·obtain⟨k,rfl,hk,ha⟩:=hI;obtain rfl:k=n:=by omega
  exact⟨_,he,.inr ⟨ha,rfl⟩⟩
def atB{α:Type}(l:List α)(P:α->Bool)(k:Nat):Bool:=match l[k]? with
 |some y=>P y
 |none=>false
theorem iPZ{α:Type}(l:List α)(P:α->Bool):(List.range l.length).any (atB l P)=l.any P:=by
 unfold atB;rw[Bool.eq_iff_iff,ZBa,ZBa];constructor
 ·rintro⟨k,hk,hP⟩;have hk:=ZBL.1 hk;rw[ZAE hk] at hP;exact⟨_,ZBn hk,hP⟩
 ·rintro⟨y,hy,hP⟩;obtain⟨k,hk⟩:=ZAb hy;exact⟨k,ZBL.2 (ZAB.1 hk).1,by rw[hk];exact hP⟩
theorem oBZ{l:List PastT}(hl:l.length<=200)(all:List StT)(hn:all.length<1000000000)(hg:∀s∈all,Good l s):sConFun2 fuel all l=some (all.any (fun s=>wholeB l s.1),l):=by
 unfold sConFun2 sIndFun3 sIndFun3_l0_it;obtain⟨r,hr,h⟩:=lzZ (f:=fun tt:Int×List PastT=>sIndFun3_l0 fuel all tt.1 tt.2) (e:=.inl l) (fun k=>.inr ((k:Int),l)) (fun k=>((k:Int),l)) (atB all fun s=>wholeB l s.1) all.length hn (fun k hk=>by
  dsimp only;unfold sIndFun3_l0 lJud1;have g:=ZAE hk;rw[azZ hk,ZAF,agZ hk,ZAA,g,ZAA,l5Z hl (hg _ (ZBn hk)).2,ZAA,ZAA,w64 (by omega)];unfold atB;rw[g];dsimp only;cases wholeB l (all[k]).1<;>rfl) (by
  dsimp only;unfold sIndFun3_l0;rw[anZ (ZAk _)]
  rfl)
 rw[iPZ] at h;refine(congrArg (fun z=>Option.bind (Option.bind z _) _) hr).trans ?_;rw[ZAA];rcases h with⟨h1,k,hk,rfl⟩|⟨h1,rfl⟩
 ·rw[h1];simp only[ZAA];rw[ZAO (by omega)]
 ·rw[h1];rfl
theorem ooZ{l:List PastT}(acc:List StT)(hn:acc.length<1000000000)(hL:l.length<=200)(x:StT)(hx:Good l x):sConFun fuel acc x.1 x.2.1.1 x.2.1.2 x.2.2=some (acc.any (eqSt x),(acc,(x.1,(x.2.1.1,(x.2.1.2,x.2.2))))):=by
 unfold sConFun sIndFun2 sIndFun2_l0_it;obtain⟨r,hr,h⟩:=lzZ (f:=fun tt:Int×(List StT×(List Bool×(List Ino×(Int×List Byt))))=>sIndFun2_l0 fuel acc tt.1 tt.2.1 tt.2.2.1 tt.2.2.2.1 tt.2.2.2.2.1 tt.2.2.2.2.2) (e:=.inl (acc,(x.1,(x.2.1.1,(x.2.1.2,x.2.2))))) (fun k=>.inr ((k:Int),(acc,(x.1,(x.2.1.1,(x.2.1.2,x.2.2)))))) (fun k=>((k:Int),(acc,(x.1,(x.2.1.1,(x.2.1.2,x.2.2)))))) (atB acc (eqSt x)) acc.length hn (fun k hk=>by
  dsimp only;unfold sIndFun2_l0 lJud2;have g:=ZAE hk;have hxl:=hx.2;have hm:=hx.1.n;have hm2:=hx.1.len;rw[azZ hk,ZAF,agZ hk,ZAA,g,ZAA,show(x.1,((x.2.1.1,x.2.1.2),x.2.2))=x from rfl,stEq x _ (by omega) hx.1 (by omega),ZAA,ZAA,w64 (by omega)];unfold atB;rw[g];simp only[o8Z];cases sm x acc[k]<;>rfl) (by
  dsimp only;unfold sIndFun2_l0;rw[anZ (ZAk _)]
  rfl)
 rw[iPZ] at h;refine(congrArg (fun z=>Option.bind (Option.bind z _) _) hr).trans ?_;rw[ZAA];rcases h with⟨h1,k,hk,rfl⟩|⟨h1,rfl⟩
 ·rw[h1];simp only[ZAA];rw[ZAO (by omega)]
 ·rw[h1];rfl
end Go.Ab.D
set_option maxRecDepth 100000
set_option maxHeartbeats 4000000
namespace Go.Ab.D
open Go Go.Ab
theorem mTZ{l:List PastT}{s:StT}(hs:Good l s){acc:List StT}(ha:∀x∈acc,Good l x)(i:Nat):(∀x∈stepI l s acc i,Good l x)/\(stepI l s acc i).length<=acc.length+1:=by
 unfold stepI;cases hx:nextC l s i with
 |none=>exact⟨ha,by simp⟩
 |some x=>
  simp only[addC];cases acc.any (eqSt x) with
  |true=>exact⟨ha,by simp⟩
  |false=>
   simp only[ZAC];refine⟨fun y hy=> ?_,by simp⟩;rcases ZAh.1 hy with hy|hy
   ·exact ha y hy
   ·obtain rfl:=ZAp.1 hy;rw[fdZ] at hx;exact cWZ hx hs
theorem qSZ{l:List PastT}(hl:l.length<=200){s:StT}(hs:Good l s)(all acc:List StT)(ha:∀x∈acc,Good l x)(hn:acc.length<=1000000):
 lJud_l0_it fuel l (0,(l,(acc,(s.1,(s.2.1.1,(s.2.1.2,(s.2.2,all)))))))=some (l,(stepS l acc s,all))/\(∀x∈stepS l acc s,Good l x)/\(stepS l acc s).length<=acc.length+l.length:=by
 unfold lJud_l0_it;have:=icZ (f:=fun tt:Int×(List PastT×(List StT×(List Bool×(List Ino×(Int×(List Byt×List StT))))))=>lJud_l0 fuel l tt.1 tt.2.1 tt.2.2.1 tt.2.2.2.1 tt.2.2.2.2.1 tt.2.2.2.2.2.1 tt.2.2.2.2.2.2.1 tt.2.2.2.2.2.2.2)
  (fun(k:Nat) (a:List StT)=>((k:Int),(l,(a,(s.1,(s.2.1.1,(s.2.1.2,(s.2.2,all)))))))) (fun a=>(l,(a,all))) (fun k a=>stepI l s a k) (fun k a=>(∀x∈a,Good l x)/\a.length<=acc.length+k) l.length (by omega)
  (fun k a hk hP=>by
   have sg:=mTZ hs hP.1 k;refine⟨?_,sg.1,by have:=sg.2;have:=hP.2;omega⟩;dsimp only;unfold lJud_l0;rw[azZ hk,ZAF,show(s.1,((s.2.1.1,s.2.1.2),s.2.2))=s from rfl,nYZ hs.1 hl hs.2 hk,ZAA,w64 (by omega)];unfold stepI;rw[fdZ];cases hx:nextF l s k with
   |none=>rfl
   |some x=>
    have hc:=ooZ a (by have:=hP.2;omega) hl x (cWZ hx hs);simp only[outN,ZAF];rw[hc,ZAA,ZAA];unfold addC;cases a.any (eqSt x) with
    |true=>rfl
    |false=>
     simp only[ZAc,ZAF,ZAC];rw[abZ (by have:=hP.2;simp only[ZAD,ZAs,aPZ];omega)]
     rfl)
  (fun a _=>by
   dsimp only;unfold lJud_l0;rw[anZ (ZAk _)]
   rfl) acc ⟨ha,by omega⟩
 exact⟨this.1,this.2⟩
theorem sbZ{l:List PastT}(hl:l.length<=200)(all:List StT)(ha:∀x∈all,Good l x)(hn:all.length<=1000):
 lJud_l1_it fuel all (0,(l,([],all)))=some (l,levelF l all)/\(∀x∈levelF l all,Good l x)/\(levelF l all).length<=all.length*l.length:=by
 unfold lJud_l1_it;have:=icZ (f:=fun tt:Int×(List PastT×(List StT×List StT))=>lJud_l1 fuel all tt.1 tt.2.1 tt.2.2.1 tt.2.2.2)
  (fun(k:Nat) (a:List StT)=>((k:Int),(l,(a,all)))) (fun a=>(l,a)) (fun k a=>lvl1 l all a k) (fun k a=>(∀x∈a,Good l x)/\a.length<=k*l.length) all.length (by omega)
  (fun k a hk hP=>by
   have g:=ZAE hk;have hmul:k*l.length<=1000*200:=Nat.mul_le_mul (by omega) hl;have hin:=qSZ hl (ha _ (ZBn hk)) all a hP.1 (by have:=hP.2;omega);unfold lvl1;rw[g];simp only;refine⟨?_,hin.2.1,by have:=hin.2.2;have:=hP.2;rw[ZBU];omega⟩;unfold lJud_l1;rw[azZ hk,ZAF,agZ hk,ZAA,g,ZAA,hin.1,ZAA,w64 (by omega)]
   rfl)
  (fun a _=>by
   dsimp only;unfold lJud_l1;rw[anZ (ZAk _)]
   rfl) [] ⟨fun x hx=>(by cases hx),by simp⟩
 exact⟨this.1,this.2⟩
def cntP(s:StT):Nat:=s.1.count true
theorem lcZ{l:List PastT}{s t:StT}{i:Nat}(h:nextF l s i=some t)(hg:Good l s):cntP t=cntP s+1:=by
 obtain⟨p,hp,hm,_,rfl⟩:=e9Z h;have hi:i<s.1.length:=by rw[hg.2];exact(ZAB.1 hp).1
 unfold mayB at hm;rw[hp] at hm;simp only[ZAD] at hm;have h0:=hm.1;rw[ZBo,ZAE hi] at h0;have h1:s.1[i]=false:=by simpa using h0
 unfold cntP;show(s.1.set i true).count true=_;rw[List.count_set hi,h1];simp
theorem ofZ{l:List PastT}{s:StT}{acc:List StT}{i:Nat}{x:StT}:x∈stepI l s acc i↔x∈acc\/nextF l s i=some x:=by
 unfold stepI;rw[fdZ];cases hx:nextF l s i with
 |none=>simp
 |some y=>
  simp only[addC,ZAH];cases ha:acc.any (eqSt y) with
  |true=>
   simp only[ZAF];refine⟨.inl,fun h=>h.elim id fun h=> ?_⟩;subst h;obtain⟨z,hz,he⟩:=ZBa.1 ha;rw[o8Z,ntZ] at he;rw[he];exact hz
  |false=>
   simp only[ZAC,ZAh,ZAp];exact⟨fun h=>h.imp id Eq.symm,fun h=>h.imp id Eq.symm⟩
theorem hrZ{α β:Type}(f:List β->α->List β)(R:α->β->Prop)(hf:∀acc a x,x∈f acc a↔x∈acc\/R a x):∀(l:List α) (acc:List β) (x:β),x∈l.foldl f acc↔x∈acc\/∃a∈l,R a x
 |[],acc,x=>by simp
 |a::l,acc,x=>by
  rw[List.foldl_cons,hrZ f R hf l,hf];simp only[ZAT];constructor
  ·rintro((h|h)|⟨b,hb,h⟩)
   ·exact .inl h
   ·exact .inr ⟨a,.inl rfl,h⟩
   ·exact .inr ⟨b,.inr hb,h⟩
  ·rintro(h|⟨b,rfl|hb,h⟩)
   ·exact .inl (.inl h)
   ·exact .inl (.inr h)
   ·exact .inr ⟨b,hb,h⟩
theorem nIZ{l:List PastT}{acc:List StT}{s x:StT}:x∈stepS l acc s↔x∈acc\/∃i,i<l.length/\nextF l s i=some x:=by
 unfold stepS;rw[hrZ (stepI l s) (fun i x=>nextF l s i=some x) (fun acc a x=>ofZ)];simp only[ZBL]
theorem dWZ{l:List PastT}{all:List StT}{x:StT}:x∈levelF l all↔∃s∈all,∃i,i<l.length/\nextF l s i=some x:=by
 unfold levelF;rw[hrZ (lvl1 l all) (fun k x=>∃s,all[k]? =some s/\∃i,i<l.length/\nextF l s i=some x) (fun acc a x=>by
  unfold lvl1;cases h:all[a]? with
  |none=>simp
  |some s=>simp only[nIZ,ZAH,exists_eq_left'])]
 constructor
 ·rintro(h|⟨k,hk,s,hs,h⟩)
  ·cases h
  ·exact⟨s,ZAQ hs,h⟩
 ·rintro⟨s,hs,h⟩;obtain⟨k,hk⟩:=ZAb hs;exact .inr ⟨k,ZBL.2 (ZAB.1 hk).1,s,hk,h⟩
theorem llZ(l:List PastT)(hf:∀p∈l,FitP p)(most:Int):lJud fuel l most=some (judgeF l most):=by
 unfold lJud judgeF;rw[h1Z l hf,ZAA];cases hR:rightL l with
 |false=>rfl
 |true=>
  simp only[ZAK,ZAC];have hl:l.length<=200:=by
   unfold rightL at hR;rw[ZAD] at hR;have:=hR.1;simp at this;omega
  by_cases m1:most<1
  ·rw[ZAO m1];rfl
  rw[ZAJ m1];simp only[ZAC,ZAA,ZCF];by_cases m2:most>1000
  ·rw[ZAO m2];rfl
  rw[ZAJ m2];simp only[ZAC];refine(kKZ l hl fun x r1=>(lJud_l2_it fuel most (l,[(x,((r1.2.1,r1.1),r1.2.2))])).bind fun o5=>match o5 with
   |.inl s=>some (false,0)
   |.inr o6=>some o6).trans ?_
  simp only;obtain⟨o,ho,hq⟩:∃o,lJud_l2_it fuel most (l,[s0 l])=some o/\(match o with|.inl _=>(false,0)|.inr o6=>o6)=judgeGo l most (l.length+2) [s0 l]:=by
   unfold lJud_l2_it;refine a5Z (f:=fun tt:List PastT×List StT=>lJud_l2 fuel most tt.1 tt.2) (fun n x=>∃all,x=(l,all)/\(∀s∈all,Good l s/\cntP s+n=l.length+1)/\all.length<=1000000/\judgeGo l most (l.length+2) [s0 l]=judgeGo l most (n+1) all) _ (fun n x hI=> ?_) (fun x hI=> ?_) (l.length+1) _ (by omega)
    ⟨_,rfl,fun s hs=> ?_,by simp,rfl⟩
   ·obtain⟨all,rfl,hg,hal,hj⟩:=hI;rw[hj];dsimp only;unfold lJud_l2;cases all with
    |nil=>exact .inr ⟨_,rfl,rfl⟩
    |cons a r=>
     rw[ZAO (show(((a::r).length:Nat):Int)>0 by simp),ZAF,oBZ hl _ (by omega) (fun s hs=>(hg s hs).1),ZAA];show _\/∃o,_/\_=bif (a::r).any (fun s=>wholeB l s.1) then _ else bif decide ((((a::r).length:Nat):Int)>most) then _ else _;cases hw:(a::r).any (fun s=>wholeB l s.1) with
     |true=>exact .inr ⟨_,rfl,rfl⟩
     |false=>
      simp only[ZAC];by_cases hm:(((a::r).length:Nat):Int)>most
      ·rw[ZAO hm];exact .inr ⟨_,rfl,rfl⟩
      ·rw[ZAJ hm];simp only[ZAC];obtain⟨q1,q2,q3⟩:=sbZ hl (a::r) (fun s hs=>(hg s hs).1) (by omega);rw[q1,ZAA];refine .inl ⟨_,rfl,_,rfl,fun s hs=>⟨q2 s hs,?_⟩,?_,?_⟩
       ·obtain⟨t,ht,i,hi,hx⟩:=dWZ.1 hs;have:=lcZ hx (hg t ht).1;have:=(hg t ht).2;omega
       ·have:(a::r).length*l.length<=1000*200:=Nat.mul_le_mul (by omega) hl;omega
       ·show(bif (a::r).any (fun s=>wholeB l s.1) then _ else bif decide ((((a::r).length:Nat):Int)>most) then _ else judgeGo l most (n+1) (levelF l (a::r)))=_;rw[hw,ZAJ hm]
        rfl
   ·obtain⟨all,rfl,hg,hal,hj⟩:=hI;rw[hj];have:all=[]:=by
     cases all with
     |nil=>rfl
     |cons a r=>
      have h1:=hg a ZAj;have h2:cntP a<=a.1.length:=List.count_le_length;have h3:=h1.1.2;omega
    subst this;exact⟨_,rfl,rfl⟩
   ·obtain rfl:=ZAp.1 hs;refine⟨mPZ l,?_⟩;unfold cntP s0;rw[List.count_replicate];simp
  refine(congrArg (fun z=>Option.bind z _) ho).trans ?_;rw[ZAA,<-hq];cases o<;>rfl
theorem bUZ(l:List PastT)(hf:∀p∈l,FitP p):law28_judged fuel l=some (bif !((judgeF l 100).2==0) then IntKind.wrap .i64 (10+(judgeF l 100).2) else bif (judgeF l 100).1 then 1 else 0):=by
 unfold law28_judged;rw[llZ l hf,ZAA];cases((judgeF l 100).2==0)<;>cases(judgeF l 100).1<;>rfl
def pst(client xid:Int)(op:UInt8)(b e:Int)(er:Int)(h:Int×Int):PastT:=((client,(xid,(op,((1,1),([102],((0,0),([],(0,(0,[]))))))))),(if e>0 then(client,(xid,(er,(h,(false,(0,([],([],(false,0))))))))) else repZ,(b,e)))
theorem qTZ(client xid:Int)(op:UInt8)(b e:Int)(er:Int)(h:Int×Int):FitP (pst client xid op b e er h):=by
 unfold FitP pst repZ;simp only;split<;>simp
theorem fit2{p q:PastT}(hp:FitP p)(hq:FitP q):∀x∈[p,q],FitP x:=fun x hx=>by
 simp only[ZAT,List.not_mem_nil,or_false] at hx;rcases hx with rfl|rfl
 ·exact hp
 ·exact hq
theorem nNZ{p q:PastT}(hp:FitP p)(hq:FitP q)(o:List Int)(ho:o.length<1000):lOrd fuel [p,q] o=some (rightL [p,q]&&orderC [p,q] o):=by
 rw[liZ (h1Z _ (fit2 hp hq)) (fun _=>by simp) o (by omega),oFZ]
theorem kCZ{α β:Type}(a:α)(f:α->Option β):(some a).bind f=f a:=Eq.trans (Eq.refl _) (Eq.refl _)
theorem qQZ{α:Type}(a b:α):(bif true then a else b)=a:=Eq.trans (Eq.refl _) (Eq.refl _)
theorem get0{α:Type}(a:α)(l:List α):(a::l)[0]? =some a:=Eq.trans (Eq.refl _) (Eq.refl _)
theorem etaP(p:PastT):((p.1.1,(p.1.2.1,(p.1.2.2.1,p.1.2.2.2))),p.2)=p:=by
 have h:∀q:PastT,q=p->((q.1.1,(q.1.2.1,(q.1.2.2.1,q.1.2.2.2))),q.2)=p:=fun q hq=>by subst hq;rfl
 exact h _ rfl
theorem nxZ:law28_awake fuel=some true:=by
 have P:∀(client xid op b e er:Int) (h:Int×Int) (c:UInt8),byte? op=some c->law28_past fuel client xid op b e er h=some (pst client xid c b e er h):=fun client xid op b e er h c hc=>by
  unfold law28_past law28_root pst;rw[ZAA,hc,ZAA];by_cases he:e>0
  ·rw[ZAO he,ZAP he];rfl
  ·rw[ZAJ he,ZAM he];rfl
 have F:=qTZ;have j1:law28_judged fuel [pst 0 1 (UInt8.ofNat 2) 1 4 0 (2,1),pst 1 1 (UInt8.ofNat 1) 2 3 0 (2,1)]=some 1:=(bUZ _ (fit2 (F ..) (F ..))).trans (by kernel_rfl);have j2:lOrd fuel [pst 0 1 (UInt8.ofNat 2) 1 4 0 (2,1),pst 1 1 (UInt8.ofNat 1) 2 3 0 (2,1)] [0,1]=some true:=(nNZ (F ..) (F ..) _ (by simp)).trans (by kernel_rfl);have j3:law28_judged fuel [pst 0 1 (UInt8.ofNat 2) 1 4 0 (2,1),pst 1 1 (UInt8.ofNat 1) 2 3 171 (0,0)]=some 1:=(bUZ _ (fit2 (F ..) (F ..))).trans (by kernel_rfl);have j4:lOrd fuel [pst 0 1 (UInt8.ofNat 2) 1 4 0 (2,1),pst 1 1 (UInt8.ofNat 1) 2 3 171 (0,0)] [1,0]=some true:=(nNZ (F ..) (F ..) _ (by simp)).trans (by kernel_rfl);have j5:lOrd fuel [pst 0 1 (UInt8.ofNat 2) 1 4 0 (2,1),pst 1 1 (UInt8.ofNat 1) 2 3 171 (0,0)] [0,1]=some false:=(nNZ (F ..) (F ..) _ (by simp)).trans (by kernel_rfl);have j6:law28_judged fuel [pst 0 1 (UInt8.ofNat 2) 1 4 0 (2,1),pst 1 1 (UInt8.ofNat 1) 5 6 171 (0,0)]=some 0:=(bUZ _ (fit2 (F ..) (F ..))).trans (by kernel_rfl);have j7:law28_judged fuel [pst 0 1 (UInt8.ofNat 2) 1 4 0 (2,1),pst 1 1 (UInt8.ofNat 2) 2 3 0 (2,1)]=some 0:=(bUZ _ (fit2 (F ..) (F ..))).trans (by kernel_rfl);have j8:law28_judged fuel [pst 0 1 (UInt8.ofNat 2) 1 4 0 (2,1),pst 1 1 (UInt8.ofNat 2) 2 3 172 (0,0)]=some 1:=(bUZ _ (fit2 (F ..) (F ..))).trans (by kernel_rfl);have j9:law28_judged fuel [pst 0 1 (UInt8.ofNat 2) 1 0 0 (0,0),pst 1 1 (UInt8.ofNat 1) 5 6 0 (2,1)]=some 1:=(bUZ _ (fit2 (F ..) (F ..))).trans (by kernel_rfl);have j10:law28_judged fuel [pst 0 1 (UInt8.ofNat 2) 1 0 0 (0,0),pst 1 1 (UInt8.ofNat 1) 5 6 171 (0,0)]=some 1:=(bUZ _ (fit2 (F ..) (F ..))).trans (by kernel_rfl);have t1:((1:Int)==1)=true:=ZAS _;have t0:((0:Int)==0)=true:=ZAS _;unfold law28_awake;rw[P 0 1 2 1 4 0 (2,1) (UInt8.ofNat 2) rfl,kCZ,P 1 1 1 2 3 0 (2,1) (UInt8.ofNat 1) rfl,kCZ,P 1 1 1 2 3 171 (0,0) (UInt8.ofNat 1) rfl,kCZ,P 0 1 2 1 0 0 (0,0) (UInt8.ofNat 2) rfl,kCZ]
 simp only[kxZ,kCZ,etaP,j1,j2,j3,j4,j5,t1,qQZ,get0];rw[P 1 1 1 5 6 171 (0,0) (UInt8.ofNat 1) rfl,P 1 1 2 2 3 0 (2,1) (UInt8.ofNat 2) rfl,P 1 1 2 2 3 172 (0,0) (UInt8.ofNat 2) rfl];simp only[kxZ,kCZ,etaP,j6,j7,j8,t0,t1,qQZ,ZAc,get0];rw[P 1 1 1 5 6 0 (2,1) (UInt8.ofNat 1) rfl,P 1 1 1 5 6 171 (0,0) (UInt8.ofNat 1) rfl];simp only[kxZ,kCZ,etaP,j9,j10,t1,qQZ,get0]
end Go.Ab.D
set_option maxRecDepth 100000
set_option maxHeartbeats 4000000
namespace Go.Ab.D
open Go Go.Ab
structure Alt (p p':PastT):Prop where
 c:p'.1=p.1
 f:failB p'=failB p
 r:failB p'=false->p'.2.2.2>0->p.2.2.2>0/\p'.2.1=p.2.1
 t:p'.2.2.1<=100*p.1.2.1/\(p'.2.2.2<=0\/100*p.1.2.1<=p'.2.2.2)
theorem rtZ{l:List PastT}(h:∀p∈l,FitP p){q:Nat}{p':PastT}(hf:FitP p'):∀p∈l.set q p',FitP p:=fun p hp=>by
 rcases List.mem_or_eq_of_mem_set hp with hp|rfl
 ·exact h p hp
 ·exact hf
end Go.Ab.D
set_option maxRecDepth 100000
set_option maxHeartbeats 4000000
namespace Go.Ab.D
open Go Go.Ab
theorem kQZ(l:List PastT)(most:Int):∀(n:Nat) (all:List StT),judgeGo l most n all=(false,0)\/judgeGo l most n all=(true,0)\/judgeGo l most n all=(false,5)
 |0,_=>.inl rfl
 |n+1,all=>by
  unfold judgeGo;cases nilL all with
  |true=>exact .inl rfl
  |false=>
   simp only[ZAC];cases all.any (fun s=>wholeB l s.1) with
   |true=>exact .inr (.inl rfl)
   |false=>
    simp only[ZAC];cases decide (((all.length:Nat):Int)>most) with
    |true=>exact .inr (.inr rfl)
    |false=>exact kQZ l most n _
theorem qvZ(l:List PastT)(most:Int):∀(n:Nat) (all:List StT) (o:List Int) (s t:StT),s∈all->runO l s o=some t->wholeB l t.1=true->o.length<n->judgeGo l most n all≠(false,0)
 |0,_,_,_,_,_,_,_,h=>by omega
 |n+1,all,o,s,t,hs,hr,hw,hn=>by
  unfold judgeGo;have hne:nilL all=false:=by cases all with|nil=>cases hs|cons a r=>rfl
  rw[hne,ZAC];cases ha:all.any (fun s=>wholeB l s.1) with
  |true=>intro h;cases h
  |false=>
   simp only[ZAC];cases decide (((all.length:Nat):Int)>most) with
   |true=>intro h;cases h
   |false=>
    simp only[ZAC];cases o with
    |nil=>
     obtain rfl:=ZAm hr;have:=List.any_eq_false.1 ha s hs;rw[hw] at this;exact absurd rfl this
    |cons i r=>
     rw[c8Z] at hr;split at hr
     ·rename_i hi;obtain⟨u,h1,h2⟩:=ZAG.1 hr;exact qvZ l most n _ r u t (dWZ.2 ⟨s,hs,i.toNat,by omega,h1⟩) h2 hw (by simp at hn;omega)
     ·cases hr
end Go.Ab.D
set_option maxRecDepth 100000
set_option maxHeartbeats 4000000
namespace Go.Ab.D
open Go Go.Ab
def ordO(k:Int)(n:Nat):Option (List Int):=law28_order fuel k (IntKind.wrap .i64 (Int.tdiv (n:Int) 16)) (Int.tmod (n:Int) 16)
def ordOk(k:Int)(n:Nat):Bool:=match ordO k n with
 |some o=>decide (o.length<100)
 |none=>false
theorem ord0:(List.range 384).all (ordOk 0)=true:=by kernel_rfl
theorem ord1:(List.range 384).all (ordOk 1)=true:=by kernel_rfl
theorem ord2:(List.range 384).all (ordOk 2)=true:=by kernel_rfl
theorem ord3:(List.range 384).all (ordOk 3)=true:=by kernel_rfl
theorem ord4:(List.range 384).all (ordOk 4)=true:=by kernel_rfl
def gen:Nat->List Int->List (List Int)
 |0,_=>[[]]
 |n+1,rem=>[]::rem.flatMap fun a=>(gen n (rem.erase a)).map (a::·)
theorem nDZ:∀(n:Nat) (o rem:List Int),o.Nodup->(∀i∈o,i∈rem)->o.length<=n->o∈gen n rem
 |0,[],_,_,_,_=>ZAp.2 rfl
 |n+1,[],_,_,_,_=>ZAj
 |n+1,a::o,rem,hn,hi,hl=>by
  obtain⟨h1,h2⟩:=ZB5.1 hn;refine ZAd _ (List.mem_flatMap.2 ⟨a,hi a ZAj,List.mem_map.2 ⟨o,?_,rfl⟩⟩);refine nDZ n o _ h2 (fun i hio=> ?_) (by simpa using hl);exact(List.mem_erase_of_ne (fun h=>h1 (by rw[<-h];exact hio))).2 (hi i (ZAd _ hio))
def toldBy(k:Int)(o:List Int):Bool:=(List.range 384).any fun n=>match ordO k n with
 |some x=>le_ eqI x o
 |none=>false
theorem all0:(gen 0 []).all (toldBy 0)=true:=by kernel_rfl
theorem all1:(gen 1 [0]).all (toldBy 1)=true:=by kernel_rfl
theorem all2:(gen 2 [0,1]).all (toldBy 2)=true:=by kernel_rfl
theorem all3:(gen 3 [0,1,2]).all (toldBy 3)=true:=by kernel_rfl
theorem all4:(gen 4 [0,1,2,3]).all (toldBy 4)=true:=by kernel_rfl
def remL:Nat->List Int
 |0=>[]
 |n+1=>remL n++[(n:Int)]
theorem kWZ:∀(n:Nat) (i:Int),0<=i->i<n->i∈remL n
 |0,i,h0,h1=>by omega
 |n+1,i,h0,h1=>by
  unfold remL;by_cases h:i=n
  ·rw[h];exact ZCA _ (ZAp.2 rfl)
  ·exact ZBW _ (kWZ n i h0 (by omega))
theorem mWZ{k:Nat}(hk:k<=4):(List.range 384).all (ordOk k)=true/\(gen k (remL k)).all (toldBy k)=true:=by
 match k,hk with
 |0,_=>exact⟨ord0,all0⟩
 |1,_=>exact⟨ord1,all1⟩
 |2,_=>exact⟨ord2,all2⟩
 |3,_=>exact⟨ord3,all3⟩
 |4,_=>exact⟨ord4,all4⟩
theorem p8Z{k:Nat}(hk:k<=4){n:Nat}(hn:n<384):∃o,ordO k n=some o/\o.length<100:=by
 have:=ZBe.1 (mWZ hk).1 n (ZBL.2 hn);unfold ordOk at this;cases h:ordO k n with
 |none=>rw[h] at this;cases this
 |some o=>rw[h] at this;exact⟨o,rfl,by simpa using this⟩
theorem f1Z:∀(n:Nat) (o:List Int),o.Nodup->(∀i∈o,0<=i/\i<n)->o.length<=n
 |0,o,_,h=>by
  cases o with
  |nil=>exact ZAL _
  |cons a r=>have:=h a ZAj;omega
 |n+1,o,hn,h=>by
  have h1:=f1Z n (o.erase (n:Int)) (hn.erase _) (fun i hi=>by
   have h2:=h i (List.mem_of_mem_erase hi);have h3:i≠n:=fun e=>by rw[e] at hi;exact hn.not_mem_erase hi
   omega)
  by_cases hm:(n:Int)∈o
  ·rw[List.length_erase_of_mem hm] at h1;have:0<o.length:=List.length_pos_of_mem hm;omega
  ·rw[List.erase_of_not_mem hm] at h1;omega
theorem h4Z{l:List PastT}:∀{o:List Int} {s t:StT},Good l s->runO l s o=some t->o.Nodup/\∀i∈o,0<=i/\i<l.length/\s.1[i.toNat]? =some false
 |[],_,_,_,_=>⟨List.nodup_nil,fun i hi=>by cases hi⟩
 |a::o,s,t,hg,h=>by
  rw[c8Z] at h;split at h
  ·rename_i ha;obtain⟨u,h1,h2⟩:=ZAG.1 h;obtain⟨q1,q2⟩:=h4Z (cWZ h1 hg) h2;obtain⟨p,hp,hm,_,rfl⟩:=e9Z h1;have hal:a.toNat<s.1.length:=by rw[hg.2];omega
   have hs:s.1[a.toNat]? =some false:=by
    unfold mayB at hm;rw[hp] at hm;simp only[ZAD] at hm;have h0:=hm.1;rw[ZBo,ZAE hal] at h0;rw[ZAE hal];simpa using h0
   refine⟨ZB5.2 ⟨fun hm=> ?_,q1⟩,fun i hi=> ?_⟩
   ·have:=(q2 a hm).2.2;rw[ZAY hal] at this;cases this
   ·rcases ZAT.1 hi with rfl|hi
    ·exact⟨ha.1,ha.2,hs⟩
    ·obtain⟨w1,w2,w3⟩:=q2 i hi;refine⟨w1,w2,?_⟩;by_cases he:a.toNat=i.toNat
     ·rw[<-he,ZAY hal] at w3;cases w3
     ·rw[ZAU he] at w3;exact w3
  ·cases h
theorem mMZ{l:List PastT}(hl:l.length<=4){o:List Int}(ho:orderB l o=true):∃n,n<384/\ordO l.length n=some o:=by
 unfold orderB at ho;cases hr:runO l (s0 l) o with
 |none=>rw[hr] at ho;cases ho
 |some t=>
  obtain⟨h1,h2⟩:=h4Z (mPZ l) hr;have h3:=f1Z l.length o h1 (fun i hi=>⟨(h2 i hi).1,(h2 i hi).2.1⟩);have:=ZBe.1 (mWZ hl).2 o (nDZ _ o _ h1 (fun i hi=>kWZ _ i (h2 i hi).1 (h2 i hi).2.1) h3);obtain⟨n,hn,h⟩:=ZBa.1 this;refine⟨n,ZBL.1 hn,?_⟩;cases hx:ordO (l.length:Int) n with
  |none=>rw[hx] at h;cases h
  |some x=>
   rw[hx] at h;have h:le_ eqI x o=true:=h;rw[jhZ bEZ,ntZ] at h;rw[h]
theorem oEZ(l:List PastT)(most:Int):∀(n:Nat) (all:List StT),judgeGo l most n all=(true,0)->∃s∈all,∃o t,runO l s o=some t/\wholeB l t.1=true
 |0,_,h=>by cases h
 |n+1,all,h=>by
  unfold judgeGo at h;cases hn:nilL all with
  |true=>rw[hn] at h;cases h
  |false=>
   rw[hn,ZAC] at h;cases ha:all.any (fun s=>wholeB l s.1) with
   |true=>
    obtain⟨s,hs,hw⟩:=ZBa.1 ha;exact⟨s,hs,[],s,rfl,hw⟩
   |false=>
    rw[ha,ZAC] at h;cases hm:decide (((all.length:Nat):Int)>most) with
    |true=>rw[hm] at h;cases h
    |false=>
     rw[hm,ZAC] at h;obtain⟨s,hs,o,t,hr,hw⟩:=oEZ l most n _ h;obtain⟨u,hu,i,hi,hx⟩:=dWZ.1 hs;refine⟨u,hu,(i:Int)::o,t,?_,hw⟩;rw[c8Z,ZAP ⟨by omega,by omega⟩,Int.toNat_natCast,hx];exact hr
theorem o2Z{l:List PastT}(hl:l.length<=4):∀(n k:Nat) (all:List StT),(∀s∈all,Good l s/\cntP s=k)->all.length<=4^k->judgeGo l 1000 n all≠(false,5)
 |0,k,all,_,_=>by intro h;cases h
 |n+1,k,all,hg,hn=>by
  unfold judgeGo;cases all with
  |nil=>intro h;cases h
  |cons a r=>
   have h1:=hg a ZAj;have h2:cntP a<=a.1.length:=List.count_le_length;have h3:=h1.1.2;have hk:k<=4:=by omega
   have hp:4^k<=4^4:=Nat.pow_le_pow_right (by omega) hk;have hp4:(4:Nat)^4=256:=rfl;show(bif (a::r).any (fun s=>wholeB l s.1) then _ else bif decide ((((a::r).length:Nat):Int)>1000) then _ else judgeGo l 1000 n (levelF l (a::r)))≠_;cases(a::r).any (fun s=>wholeB l s.1) with
   |true=>intro h;cases h
   |false=>
    rw[ZAJ (show¬(((a::r).length:Nat):Int)>1000 by omega)];simp only[ZAC];obtain⟨_,q2,q3⟩:=sbZ (l:=l) (by omega) (a::r) (fun s hs=>(hg s hs).1) (by omega);refine o2Z hl n (k+1) _ (fun s hs=>⟨q2 s hs,?_⟩) ?_
    ·obtain⟨t,ht,i,hi,hx⟩:=dWZ.1 hs;have:=lcZ hx (hg t ht).1;have:=(hg t ht).2;omega
    ·have:(a::r).length*l.length<=4^k*4:=Nat.mul_le_mul hn hl;rw[Nat.pow_succ];omega
theorem oAZ{l:List PastT}(hl:l.length<=4)(hR:rightL l=true):∃b,judgeF l 1000=(b,0)/\(b=true↔∃o,orderB l o=true):=by
 unfold judgeF;rw[hR];show∃b,judgeGo l 1000 (l.length+2) [s0 l]=_/\_;have hroom:=o2Z hl (l.length+2) 0 [s0 l] (fun s hs=>by
  obtain rfl:=ZAp.1 hs;refine⟨mPZ l,?_⟩;unfold cntP s0;rw[List.count_replicate];simp) (by simp)
 rcases kQZ l 1000 (l.length+2) [s0 l] with h|h|h
 ·refine⟨false,h,fun hb=>(by cases hb),fun⟨o,ho⟩=> ?_⟩;unfold orderB at ho;cases hr:runO l (s0 l) o with
  |none=>rw[hr] at ho;cases ho
  |some t=>
   rw[hr] at ho;have hd:=h4Z (mPZ l) hr;have:=f1Z l.length o hd.1 (fun i hi=>⟨(hd.2 i hi).1,(hd.2 i hi).2.1⟩);exact absurd h (qvZ l 1000 _ _ o _ t (ZAp.2 rfl) hr ho (by omega))
 ·refine⟨true,h,fun _=> ?_,fun _=>rfl⟩;obtain⟨s,hs,o,t,hr,hw⟩:=oEZ l 1000 _ _ h;obtain rfl:=ZAp.1 hs;exact⟨o,by unfold orderB;rw[hr];exact hw⟩
 ·exact absurd h hroom
theorem ocZ(P:Nat->Bool):∀n,(List.range n).foldl (fun a k=>bif a then true else P k) false=(List.range n).any P
 |0=>rfl
 |n+1=>by
  rw[ZCJ,List.foldl_append,List.any_append,ocZ P n];cases(List.range n).any P<;>simp
noncomputable def ordB (l : List PastT) (n : Nat) : Bool := match ordO l.length n with
 |some o=>orderB l o
 |none=>false
theorem pxZ{l:List PastT}(hl:l.length<=4)(hR:lRig fuel l=some true):law28_LinearAll_l0_it fuel (false,(0,l))=some ((List.range 384).any (ordB l),l):=by
 unfold law28_LinearAll_l0_it;have:=icZ (f:=fun tt:Bool×(Int×List PastT)=>law28_LinearAll_l0 fuel tt.1 tt.2.1 tt.2.2) (fun(k:Nat) (a:Bool)=>(a,((k:Int),l))) (fun a=>(a,l)) (fun k a=>bif a then true else ordB l k) (fun _ _=>True) 384 (by omega)
  (fun k a hk _=>by
   refine⟨?_,trivial⟩;dsimp only;unfold law28_LinearAll_l0;rw[ZAO (show(k:Int)<384 by omega),ZAF,w64 (show-9223372036854775808<=(k:Int)+1/\(k:Int)+1<=9223372036854775807 by omega)];cases a with
   |true=>rfl
   |false=>
    obtain⟨o,h1,h2⟩:=p8Z hl hk;have h3:=liZ hR (fun _=>by omega) o (by omega);simp only[ZAC];unfold ordB;rw[h1];unfold ordO at h1;rw[h1,ZAA,h3,ZAA,ZAA,ZAV]
    rfl)
  (fun a _=>by
   dsimp only;unfold law28_LinearAll_l0
   rfl) false trivial
 rw[ocZ] at this;exact this.1
theorem rpZ{l:List PastT}(hl:l.length<=4):(List.range 384).any (ordB l)=true↔∃o,orderB l o=true:=by
 rw[ZBa];constructor
 ·rintro⟨n,_,h⟩;unfold ordB at h;cases hx:ordO (l.length:Int) n with
  |none=>rw[hx] at h;cases h
  |some o=>rw[hx] at h;exact⟨o,h⟩
 ·rintro⟨o,ho⟩;obtain⟨n,hn,h⟩:=mMZ hl ho;exact⟨n,ZBL.2 hn,by unfold ordB;rw[h];exact ho⟩
theorem pBZ{h:List PastT}(hl:h.length<=4)(hf:∀p∈h,FitP p):
 ((lRig fuel h).bind fun r7=>bif (!r7) then(law28_awake fuel).bind fun r8=>some r8 else(law28_LinearAll_l0_it fuel (false,(0,h))).bind fun o5=>(lJud fuel o5.2 1000).bind fun r11=>bif (r11.2==0) then bif (r11.1==o5.1) then(law28_awake fuel).bind fun r12=>some r12 else some false else some false)=some true:=by
 have hR:=h1Z h hf;rw[hR,ZAA];cases hb:rightL h with
 |false=>rw[nxZ];rfl
 |true=>
  rw[hb] at hR;simp only[ZAK,ZAC];obtain⟨b,h1,h2⟩:=oAZ hl hb;rw[pxZ hl hR,ZAA,llZ h hf,ZAA,h1,nxZ];have:b=(List.range 384).any (ordB h):=by rw[Bool.eq_iff_iff,h2,rpZ hl]
  simp only;rw[this];simp
theorem cUZ(l:List SayL)(which e:Int)(he:0<=e/\e<=255):law28_LinearAll fuel l which e=some true:=by
 unfold law28_LinearAll;refine crZ (fun r:Option Bool=>r=some true) (fun v:List SayL=>v.length<=4) ?_ ?_
 ·by_cases h:((l.length:Nat):Int)>4
  ·rw[ZAO h,ZAF,hjZ (by omega) (by omega),ZAA];exact⟨_,rfl,by simp;omega⟩
  ·rw[ZAJ h];exact⟨_,rfl,by omega⟩
 intro l hl;obtain⟨k,m,hs,out,ord,en,ht,I,hk,hkl⟩:=r9Z l;have hol:=I.olen;rw[ht,ZAA];simp only;refine crZ (fun r:Option Bool=>r=some true) (fun v:List PastT=>v.length<=4/\∀p∈v,FitP p) ?_ ?_
 ·by_cases h0:((out.length:Nat):Int)>0
  ·have pc:=fjZ which (n:=out.length) (by omega) (by omega);rw[ZAO h0,ZAF,fqZ _ _ (by omega),ZAA,aqZ (by omega) (by omega),ZAA];obtain⟨q,hq⟩:∃q:Nat,(pickI which out.length).toNat=q:=⟨_,rfl⟩;rw[hq];have hql:q<out.length:=by omega
   obtain⟨p,hp⟩:∃p,out[q]? =some p:=⟨_,ZAE hql⟩;refine crZ (fun r:Option (List PastT)=>∃v,r=some v/\v.length<=4/\∀p∈v,FitP p) (fun v:Nat×(Bool×List PastT)=>v.1=q/\v.2.2=out) ?_ ?_
   ·rw[hp,ZAA];cases decide (p.2.2.2>0)<;>exact⟨_,rfl,rfl,rfl⟩
   rintro⟨q',b,out'⟩ ⟨hq',ho'⟩;simp only at hq' ho';subst hq' ho';simp only;cases b with
   |false=>exact⟨_,rfl,by omega,I.fit⟩
   |true=>
    simp only[ZAF];have h3:0<=Int.tmod e 3/\Int.tmod e 3<3:=⟨Int.tmod_nonneg _ he.1,Int.tmod_lt_of_pos _ (by omega)⟩;rw[hp,ZAA,ZAA,aqZ h3.1 (by omega),ZAA];obtain⟨r,hr⟩:∃r,([0,171,172]:List Int)[(Int.tmod e 3).toNat]? =some r:=⟨_,ZAE (by simp;omega)⟩;rw[hr,ZAA,ZAA,ZAA];exact⟨_,rfl,by rw[ZAv];omega,rtZ I.fit ⟨by simp,by simp⟩⟩
  ·rw[ZAJ h0];exact⟨_,rfl,by omega,I.fit⟩
 ·rintro h ⟨h1,h2⟩;exact pBZ h1 h2
theorem law28_LinearAll_true(l:List SayL)(which e:Int)(_k0:OkV (.sl qY36) l)(_k1:OkV (.int .i64) which)(k2:OkV (.int .u8) e):law28_LinearAll fuel l which e=some true:=cUZ l which e k2
end Go.Ab.D
