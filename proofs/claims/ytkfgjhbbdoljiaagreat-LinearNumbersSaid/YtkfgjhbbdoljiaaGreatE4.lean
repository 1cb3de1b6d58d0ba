/- An evaluator of the model's code over plain values, and its soundness; of no program. -/
import Derived.Test.YtkfgjhbbdoljiaaGreatE3
import Derived.Orders
import Derived.Laws.IdiomRangeMap
import Derived.LoopN
import Derived.DataReads
import Derived.WalkKit
import Derived.ProofKit
import Derived.OpenShut
import Derived.JoinedTies
import GoSem.Claim
import Derived.Shelf.SlGeneric
import Derived.Shelf.Spec.SlicesInsertGrow
set_option linter.all false
namespace Go.Ab
theorem Tr.get_put:∀(t:Tr) (k:Nat) (a:AV) (k':Nat),(k'≠k->(t.put k a).get k'=t.get k')/\((t.put k a).get k=a\/(t.put k a).get k= .junk)
 |.lf,k,a,k'=>⟨fun _=>rfl,.inr rfl⟩
 |.nd l v r,k,a,k'=>by
  by_cases h0:k=0
  ·subst h0;simp only[Tr.put,(abZ 0 0).2 rfl,cond_true,Tr.get];refine⟨fun h=> ?_,.inl trivial⟩;rw[aiZ h]
   rfl
  ·have e0:Nat.beq k 0=false:=aiZ h0;by_cases h1:k%2=1
   ·have e1:Nat.beq (k%2) 1=true:=(abZ _ _).2 h1;simp only[Tr.put,e0,e1,cond_true,cond_false,Tr.get];obtain⟨q1,q2⟩:=Tr.get_put l (k/2) a (k'/2);refine⟨fun h=> ?_,q2⟩;by_cases g0:k'=0
    ·subst g0;simp[Nat.beq]
    ·rw[aiZ g0,cond_false,cond_false];by_cases g1:k'%2=1
     ·rw[(abZ _ _).2 g1,cond_true,cond_true];exact q1 (by omega)
     ·rw[aiZ g1,cond_false,cond_false]
   ·have e1:Nat.beq (k%2) 1=false:=aiZ h1;simp only[Tr.put,e0,e1,cond_false,Tr.get];obtain⟨q1,q2⟩:=Tr.get_put r (k/2-1) a (k'/2-1);refine⟨fun h=> ?_,q2⟩;by_cases g0:k'=0
    ·subst g0;simp[Nat.beq]
    ·rw[aiZ g0,cond_false,cond_false];by_cases g1:k'%2=1
     ·rw[(abZ _ _).2 g1,cond_true,cond_true]
     ·rw[aiZ g1,cond_false,cond_false];exact q1 (by omega)
section
variable {P : Program} {T : Tbl} {z : Z} {H : Hp} {β : Type} {all : List Oper} {ops : Array Oper}
def Le(a b:AV):Prop:=∀(z:Z) v,ARep z a v->ARep z b v
theorem Le.refl(a:AV):Le a a:=fun _ _ h=>h
theorem Le.trans{a b c:AV}(h:Le a b)(k:Le b c):Le a c:=fun z v x=>k z v (h z v x)
theorem Le.junk(a:AV):Le a .junk:=fun _ v _=>.junk v
theorem Le.bool{a:AV}{t:Bool}(h:a.bool? =some t):Le a (.b t):=fun z v hv=>by
 rw[bkZ h hv];exact .mkB t
theorem lfZ(v:Value):ARep z (AV.lit v) v:=by
 cases v<;>first|exact .mkI _ _|exact .mkB _|exact .junk _|exact .p _ _ _ ⟨_,⟨rfl,rfl⟩,rfl⟩|skip;rename_i s;exact .mkS s.data.toList
theorem dXZ:∀{l:List Value},oneCells l=true->∀v∈l,v.oneCell'=true
 |[],_,v,h=>by cases h
 |u::l,h,v,hv=>by
  have h':u.oneCell'=true/\oneCells l=true:=by
   cases u<;>first|exact⟨rfl,h⟩|cases h
  rcases List.mem_cons.1 hv with rfl|hv
  ·exact h'.1
  ·exact dXZ h'.2 v hv
theorem dfZ{st:St}{a:Act}(h:∀t,ARep z (st.tm.get t) (a.eval (.tmp t)))(x:Operand):ARep z (st.opnd x) (a.eval x):=by
 cases x with
 |tmp t=>exact h t
 |const v=>
  by_cases hv:∃cs,v= .agg cs
  ·obtain⟨cs,rfl⟩:=hv;simp only[St.opnd];cases ho:oneCells cs.toList
   ·exact .junk _
   ·have h1:=dXZ ho;refine .agg _ _ (by simp) (fun v hv=>h1 v (Array.mem_toList_iff.2 hv)) fun i x v e1 e2=> ?_;have e2:cs[i]? =some v:=e2;rw[List.getElem?_map] at e1;obtain⟨y,e3,rfl⟩:=Option.map_eq_some_iff.1 e1;have:y=v:=by rw[<-Array.getElem?_toList,e3] at e2;exact Option.some.inj e2
    subst this;exact maZ y (.inl (h1 y (List.mem_of_getElem? e3)))
  ·have:st.opnd (.const v)= .lit v:=by
    cases v<;>first|rfl|exact absurd ⟨_,rfl⟩ hv
   rw[this];exact lfZ v
 |global g=>exact .junk _
 |func f=>exact .fn f [] [] #[] #[] rfl rfl (fun i x v h=>by simp at h) (fun i x v h=>by simp at h)
theorem nhZ{a:AV}{x:FuncId×List AV×List AV}{v:Value}(h:a.fnv? =some x)(ha:ARep z a v):∃va vc,v= .func (.func x.1) va vc/\AReps z x.2.1 va.toList/\AReps z x.2.2 vc.toList:=by
 unfold AV.fnv? at h;split at h
 ·rename_i f l c;simp only[Option.some.injEq] at h;subst h;cases ha with|fn _ _ _ va vc h1 h2 h3 h4=>
  exact⟨va,vc,rfl,⟨by simp[h1],fun i x v p1 p2=>h3 i x v p1 (by simpa using p2)⟩,⟨by simp[h2],fun i x v p1 p2=>h4 i x v p1 (by simpa using p2)⟩⟩
 ·rename_i f l c;cases hb:(Nat.beq l.size 0&&Nat.beq c.size 0)<;>rw[hb] at h<;>simp only[bq_true,bq_false] at h
  ·cases h
  simp only[Bool.and_eq_true,abZ] at hb;simp only[Option.some.injEq] at h;subst h;obtain rfl:=ha.v.opq.1;exact⟨l,c,rfl,⟨by simp[hb.1],fun i a v h=>by simp at h⟩,⟨by simp[hb.2],fun i a v h=>by simp at h⟩⟩
 ·cases h
theorem ijZ{f:FuncId}:∀{T:Tbl} {e:FnT},findF f T=some e->e∈T/\e.f=f
 |[],e,h=>by cases h
 |x::T,e,h=>by
  unfold findF at h;cases hb:Nat.beq x.f f<;>rw[hb] at h
  ·obtain⟨h1,h2⟩:=ijZ h;exact⟨List.mem_cons_of_mem _ h1,h2⟩
  ·simp only[bq_true,Option.some.injEq] at h;subst h;exact⟨List.mem_cons_self,(abZ _ _).1 hb⟩
theorem lqZ{T:Tbl}{n:Nat}{f:FuncId}{e:FnT}(h:tblAt T n f=some e):e∈T/\e.f=f:=by
 unfold tblAt at h;split at h
 ·rename_i x hx;cases hb:Nat.beq x.f f<;>rw[hb] at h
  ·exact ijZ h
  ·simp only[bq_true,Option.some.injEq] at h;subst h;exact⟨List.mem_of_getElem? hx,(abZ _ _).1 hb⟩
 ·cases h
theorem lSZ{o:Oper}{an:Ann}{r:Operand->AV}{a:Act}{K:AV->Hp->Option β}{res:β}{next:Act->World->Prop}{Q:Exit->Act->World->Prop}(hT:∀e∈T,Told P e)
 (h:evW P T o an r H K=some res)(hH:HRep z H)(hids:∀id,rt id∈an.ids->¬z.D id)(hmk:mkOp P o=true->¬z.D (an.ids.headD 0))(hmd:∀m∈an.md,m<4\/¬z.D (m+100000))(hr:∀x,ARep z (r x) (a.eval x))
 (hk:∀x v H' z',HRep z' H'->Nx z z'->ARep z' x v->K x H'=some res->next (a.put o.dst v) z'.w):o.wp P a z.w next Q:=by
 unfold Oper.wp;cases hc:isCall o
 ·obtain⟨x,H',z',nx,h1,h2,h3,h4,h5⟩:=nwZ h hH hmk hr hc;rw[h1];rcases h4 with⟨v,rfl,hv⟩|⟨rfl,rfl⟩
  ·exact hk x v H' z' h2 h3 hv h5
  ·exact hk .junk undef H' z' h2 h3 (.junk _) h5
 ·unfold isCall at hc;split at hc
  ·rename_i c ho;split at hc
   ·rename_i f hcb;unfold evW at h;simp only[ho,hcb] at h;obtain⟨x,h1,h2⟩:=aeZ.1 h;obtain⟨va,vc,hv,q1,q2⟩:=nhZ h1 (hr f);split at h2
    ·rename_i e he;obtain⟨he',hb⟩:=lqZ he;have hte:=hT e he';have hcall:=jOZ (vals:=va.toList++c.args.toList.map a.eval++vc.toList) hte h2 hH hids hmd (.append (.append q1 (.map hr)) q2);have harr:va++c.args.map a.eval++vc=(va.toList++c.args.toList.map a.eval++vc.toList).toArray:=by
      apply Array.ext';simp
     rcases hcall with⟨⟨fn,cd,e1,e2,e3⟩,hcall⟩|⟨v,w',hrun,v',x',H',z',hv',rfl,p1,p2,p3,p4⟩
     rotate_left
     ·have hexec:(execOp a.eval o).run P z.w= .ok (.value v) z'.w:=by
       unfold execOp;simp only[ho,resolve,hcb,hv,Deferred.ofValue,Sem.run_bind,Sem.run_pure,Result.andThen_ok,invoke];rw[<-hb,harr];exact hrun
      rw[hexec];injection hv' with hv';subst hv';exact hk x' v H' z' p1 p2 p3 p4
     have hexec:(execOp a.eval o).run P z.w= .ok (.enter e.f (va.toList++c.args.toList.map a.eval++vc.toList).toArray) z.w:=by
      have hbd:fn.body.isNone=false:=by rw[e2];rfl
      have harr:va++c.args.map a.eval++vc=(va.toList++c.args.toList.map a.eval++vc.toList).toArray:=by
       apply Array.ext';simp
      unfold execOp;simp only[ho,resolve,hcb,hv,Deferred.ofValue,Sem.run_bind,Sem.run_pure,Result.andThen_ok,invoke,callFunc,run_program];rw[<-hb] at*;simp only[e1,e3,hbd,harr]
      rfl
     rw[hexec];show Calls P e.f _ z.w _;refine hcall.mono ?_;rintro en w' ⟨v,x',H',z',rfl,rfl,p1,p2,p3,p4⟩;exact hk x' v H' z' p1 p2 p3 p4
    ·cases h2
   ·cases hc
  ·cases hc
theorem mdZ{o:Oper}{r:Operand->AV}{a:Act}{K:AV->Option β}{res:β}{next:Act->World->Prop}{Q:Exit->Act->World->Prop}(h:evR P o r H K=some res)(hH:HRep z H)(hr:∀x,ARep z (r x) (a.eval x))
 (hk:∀x v,ARep z x v->K x=some res->next (a.put o.dst v) z.w):o.wp P a z.w next Q:=by
 unfold Oper.wp;obtain⟨x,v,h1,h2,h3⟩:=nrZ h hH hr;rw[h1];exact hk x v h2 h3
def Inv(z0:Z)(N:Nat)(L:List (Nat×AV))(st:St)(a:Act)(w:World):Prop:=
 ∃z,z.w=w/\Nx z0 z/\(∀id,¬z.D id)/\HRep z st.hp/\(∀t,ARep z (st.tm.get t) (a.eval (.tmp t)))/\(∀p∈L,ARep z p.2 (a.eval (.tmp p.1)))/\a.defers=[]/\(st.nt<=N/\a.tmps.size=N)/\∀id,id<dynBase->z0.ρ id≠.no->id<st.n0
theorem aEZ{a:Act}{d:Nat}{v:Value}(h:d<a.tmps.size):(a.put (some d) v).eval (.tmp d)=v:=by
 simp[Act.eval,Act.put,h]
theorem aXZ{a:Act}{o:Option Tmp}{t:Nat}{v:Value}(h:o≠some t):(a.put o v).eval (.tmp t)=a.eval (.tmp t):=by
 cases o with
 |none=>rfl
 |some d=>
  have:d≠t:=fun e=>h (by rw[e]);simp[Act.eval,Act.put,Array.getElem?_setIfInBounds_ne this]
theorem koZ{tm:Tr}{nt:Nat}{a:Act}{o:Option Tmp}{x:AV}{v:Value}(h:∀t,ARep z (tm.get t) (a.eval (.tmp t)))(hd:dstOk nt o=true)(hn:nt<=a.tmps.size)(hx:ARep z x v):
 ∀t,ARep z ((St.putO ⟨tm,nt,0,[]⟩ o x).tm.get t) ((a.put o v).eval (.tmp t)):=by
 intro t;cases o with
 |none=>exact h t
 |some d=>
  simp only[dstOk,Nat.blt_eq] at hd;simp only[St.putO];by_cases ht:t=d
  ·subst ht;rw[aEZ (by omega)];rcases(Tr.get_put tm t x t).2 with e|e<;>rw[e]
   ·exact hx
   ·exact .junk _
  ·rw[(Tr.get_put tm d x t).1 ht,aXZ (by simpa using Ne.symm ht)];exact h t
theorem bWZ(st:St)(o:Option Nat)(x:AV):(st.putO o x).tm=(St.putO ⟨st.tm,st.nt,0,[]⟩ o x).tm/\(st.putO o x).nt=st.nt/\(st.putO o x).n0=st.n0/\(st.putO o x).hp=st.hp:=by
 cases o<;>exact⟨rfl,rfl,rfl,rfl⟩
theorem byZ(a:Act)(o:Option Tmp)(v:Value):(a.put o v).tmps.size=a.tmps.size/\(a.put o v).defers=a.defers:=by
 cases o<;>simp[Act.put]
theorem Inv.put{z0 z':Z}{N:Nat}{L:List (Nat×AV)}{st:St}{a:Act}{o:Option Tmp}{x:AV}{v:Value}{H':Hp}(hn:Nx z0 z')(hD:∀id,¬z'.D id)(hH:HRep z' H')(hs:∀t,ARep z' (st.tm.get t) (a.eval (.tmp t)))
 (hL:∀p∈L,ARep z' p.2 (a.eval (.tmp p.1)))(hLd:∀p∈L,o≠some p.1)(hdf:a.defers=[])(hnt:st.nt<=N/\a.tmps.size=N)(h0:∀id,id<dynBase->z0.ρ id≠.no->id<st.n0)(hd:dstOk st.nt o=true)(hx:ARep z' x v):
 Inv z0 N L {st.putO o x with hp:=H'} (a.put o v) z'.w:=by
 obtain⟨e1,e2,e3,e4⟩:=bWZ st o x;refine⟨z',rfl,hn,hD,hH,?_,fun p hp=> ?_,(byZ a o v).2.trans hdf,⟨by show(st.putO o x).nt<=N;rw[e2];exact hnt.1,by rw[(byZ a o v).1];exact hnt.2⟩,fun id hdy hid=>by show id<(st.putO o x).n0;rw[e3];exact h0 id hdy hid⟩
 ·show∀t,ARep z' ((st.putO o x).tm.get t) _;rw[e1];exact koZ hs hd (by rw[hnt.2];exact hnt.1) hx
 ·rw[aXZ (hLd p hp)];exact hL p hp
theorem n6Z{o:Oper}{an:Ann}{z0:Z}{N:Nat}{L:List (Nat×AV)}{st:St}{a:Act}{w:World}{K:St->Option β}{res:β}{next:Act->World->Prop}{Q:Exit->Act->World->Prop}(hT:∀e∈T,Told P e)
 (h:ev1 P T o an st K=some res)(hd:dstOk st.nt o.dst=true)(hi:Inv z0 N L st a w)(hL:∀p∈L,o.dst≠some p.1)(hk:∀st' a' w',K st'=some res->Inv z0 N L st' a' w'->next a' w'):o.wp P a w next Q:=by
 obtain⟨z,rfl,hn,hD,hH,hs,hLs,hdf,hnt,h0⟩:=hi;unfold ev1 at h;cases hR:isR P o<;>rw[hR] at h<;>simp only[bq_true,bq_false] at h
 ·refine lSZ hT h hH (fun id _=>hD id) (fun _=>hD _) (fun _ _=>.inr (hD _)) (dfZ hs) fun x v H' z' h1 h2 h3 h4=> ?_;have kp:=h2.kp hH.sub;exact hk _ _ _ h4 (.put (hn.trans h2) (fun id=>by rw[h2.dom];exact hD id) h1 (fun t=>(hs t).kp kp) (fun p hp=>(hLs p hp).kp kp) hL hdf hnt h0 hd h3)
 ·refine mdZ h hH (dfZ hs) fun x v h1 h2=> ?_;have:=Inv.put (st:=st) (H':=st.hp) hn hD hH hs hLs hL hdf hnt h0 hd h1;refine hk _ _ _ h2 ?_;have e:({st.putO o.dst x with hp:=st.hp}:St)=st.putO o.dst x:=by cases o.dst<;>rfl
  rwa [e] at this
def GuardIs(all:List Oper)(o:Oper)(get:Nat->AV)(b:Bool):Prop:=
 (o.guard=none/\b=true)\/∃j want d,o.guard=some (j,want)/\(all[j]?).bind (·.dst)=some d/\((get d= .tup []/\b=false)\/∃t,(get d).bool? =some t/\b=(t==want))
theorem GuardIs.wanted{o:Oper}{get:Nat->AV}{b:Bool}{a:Act}(h:GuardIs ops.toList o get b)(hs:∀j want d,o.guard=some (j,want)->(ops.toList[j]?).bind (·.dst)=some d->ARep z (get d) (a.eval (.tmp d))):
 Region.wanted o (yielded ops a.tmps)=b:=by
 rcases h with⟨h1,rfl⟩|⟨j,want,d,h1,h2,h3⟩
 ·simp[Region.wanted,h1]
 ·have hd:=hs j want d h1 h2;have e:(ops[j]?).bind (·.dst)=some d:=by rw[<-Array.getElem?_toList];exact h2
  simp only[Region.wanted,h1,yielded,e,Option.bind_some];simp only[Act.eval] at hd;rcases h3 with⟨h3,rfl⟩|⟨t,h3,rfl⟩
  ·rw[h3] at hd;cases hv:a.tmps[d]? with
   |none=>rfl
   |some v=>
    have e2:a.tmps.getD d undef=v:=by simp[hv]
    rw[e2] at hd;cases hd
    rfl
  ·have hb:=bkZ h3 hd;cases hv:a.tmps[d]? with
   |none=>
    have e2:a.tmps.getD d undef=undef:=by simp[hv]
    rw[e2] at hb;cases hb
   |some v=>
    have e2:a.tmps.getD d undef=v:=by simp[hv]
    rw[e2] at hb;subst hb;cases t<;>cases want<;>rfl
theorem lNZ{o:Oper}{st:St}{go skip:St->Option β}{res:β}(h:evG all o st go skip=some res):
 dstOk st.nt o.dst=true/\∃st1 b,st1.hp=st.hp/\st1.nt=st.nt/\st1.n0=st.n0/\(∀t,Le (st.tm.get t) (st1.tm.get t))/\GuardIs all o st.tm.get b/\((b=true/\go st1=some res)\/(b=false/\skip (st1.skip o)=some res)):=by
 unfold evG at h;cases hd:dstOk st.nt o.dst<;>rw[hd] at h<;>simp only[bq_true,bq_false] at h
 ·cases h
 refine⟨rfl,?_⟩;split at h
 ·rename_i hg;exact⟨st,true,rfl,rfl,rfl,fun _=>.refl _,.inl ⟨hg,rfl⟩,.inl ⟨rfl,h⟩⟩
 ·rename_i j want hg;obtain⟨d,h1,h2⟩:=aeZ.1 h;obtain⟨oj,h3,h4⟩:=aeZ.1 h1;have hj:(all[j]?).bind (·.dst)=some d:=by rw[h3];exact h4
  split at h2
  ·rename_i ht;exact⟨st,false,rfl,rfl,rfl,fun _=>.refl _,.inr ⟨j,want,d,hg,hj,.inl ⟨ht,rfl⟩⟩,.inr ⟨rfl,h2⟩⟩
  ·rename_i ht;obtain⟨t,h5,h6⟩:=aeZ.1 h2;have hle:∀k,Le (st.tm.get k) ((st.tm.put d (.b t)).get k):=fun k=>by
    by_cases hk:k=d
    ·subst hk;rcases(Tr.get_put st.tm k (.b t) k).2 with e|e<;>rw[e]
     ·exact .bool h5
     ·exact .junk _
    ·rw[(Tr.get_put st.tm d (.b t) k).1 hk];exact .refl _
   refine⟨{st with tm:=st.tm.put d (.b t)},t==want,rfl,rfl,rfl,hle,.inr ⟨j,want,d,hg,hj,.inr ⟨t,h5,rfl⟩⟩,?_⟩;cases t<;>cases want<;>simp only[bq_true,bq_false] at h6
   ·exact .inl ⟨rfl,h6⟩
   ·exact .inr ⟨rfl,h6⟩
   ·exact .inr ⟨rfl,h6⟩
   ·exact .inl ⟨rfl,h6⟩
theorem iaZ:ARep z (.tup []) undef:=.tup [] #[] rfl fun i x v h=>by simp at h
theorem Inv.le{z0:Z}{N:Nat}{L:List (Nat×AV)}{st st1:St}{a:Act}{w:World}(hi:Inv z0 N L st a w)(h1:st1.hp=st.hp)(h2:st1.nt=st.nt)(h3:st1.n0=st.n0)(h4:∀t,Le (st.tm.get t) (st1.tm.get t)):Inv z0 N L st1 a w:=by
 obtain⟨z,rfl,hn,hD,hH,hs,hLs,hdf,hnt,h0⟩:=hi;exact⟨z,rfl,hn,hD,by rw[h1];exact hH,fun t=>h4 t _ _ (hs t),hLs,hdf,by rw[h2];exact hnt,by rw[h3];exact h0⟩
theorem Inv.skip{z0:Z}{N:Nat}{L:List (Nat×AV)}{st:St}{a:Act}{w:World}{o:Oper}(hi:Inv z0 N L st a w)(hd:dstOk st.nt o.dst=true)(hL:∀p∈L,o.dst≠some p.1):Inv z0 N L (st.skip o) (a.put o.dst undef) w:=by
 obtain⟨z,rfl,hn,hD,hH,hs,hLs,hdf,hnt,h0⟩:=hi;have:=Inv.put (st:=st) (H':=st.hp) hn hD hH hs hLs hL hdf hnt h0 hd (iaZ (z:=z));have e:({st.putO o.dst (.tup []) with hp:=st.hp}:St)=st.skip o:=by unfold St.skip;cases o.dst<;>rfl
 rwa [e] at this
theorem ckZ{z0:Z}{N:Nat}{L:List (Nat×AV)}{K:St->Option β}{res:β}{Q:Exit->Act->World->Prop}(hT:∀e∈T,Told P e){tail:List Nat}(hk:∀st' a' w',K st'=some res->Inv z0 N L st' a' w'->wpOps P ops Q tail a' w'):
 ∀(l:List (Oper×Ann)) (k:Nat),(∀(i:Nat) x,l[i]? =some x->ops[k+i]? =some x.1)->(∀x∈l,∀p∈L,x.1.dst≠some p.1)->∀(st:St) (a:Act) (w:World),evOps P T l ops.toList st K=some res->Inv z0 N L st a w->
  wpOps P ops Q (List.range' k l.length++tail) a w
 |[],k,_,_,st,a,w,h,hi=>hk st a w h hi
 |(o,an)::l,k,hl,hL,st,a,w,h,hi=>by
  simp only[evOps] at h;obtain⟨hd,st1,b,e1,e2,e3,e4,hg,hb⟩:=lNZ h;have ho:ops[k]? =some o:=by have:=hl 0 (o,an) rfl;simpa using this
  have hrest:∀(i:Nat) x,l[i]? =some x->ops[k+1+i]? =some x.1:=fun i x hx=>by
   have:=hl (i+1) x hx;rwa [show k+(i+1)=k+1+i by omega] at this
  have hLo:∀p∈L,o.dst≠some p.1:=hL (o,an) (by simp);have hw:Region.wanted o (yielded ops a.tmps)=b:=by
   obtain⟨z,_,_,_,_,hs,_⟩:=hi;exact hg.wanted fun j want d _ _=>hs d
  have hi1:Inv z0 N L st1 a w:=hi.le e1 e2 e3 e4;simp only[List.length_cons,List.range'_succ,List.cons_append,wpOps,ho,hw];rcases hb with⟨rfl,hgo⟩|⟨rfl,hsk⟩
  ·simp only[if_true];refine .inl (n6Z hT hgo (by rw[e2];exact hd) hi1 hLo fun st' a' w' h' hi'=> ?_);exact ckZ hT hk l (k+1) hrest (fun x hx=>hL x (by simp[hx])) st' a' w' h' hi'
  ·simp only[Bool.false_eq_true,if_false];exact ckZ hT hk l (k+1) hrest (fun x hx=>hL x (by simp[hx])) _ _ w hsk (hi1.skip (by rw[e2];exact hd) hLo)
theorem lmZ{z0:Z}{N:Nat}{L:List (Nat×AV)}{K:St->Option β}{res:β}{Q:Exit->Act->World->Prop}(hT:∀e∈T,Told P e)(hk:∀st' a' w',K st'=some res->Inv z0 N L st' a' w'->Q .normal a' w')
 (l:List (Oper×Ann))(k:Nat)(h1:∀(i:Nat) x,l[i]? =some x->ops[k+i]? =some x.1)(h2:∀x∈l,∀p∈L,x.1.dst≠some p.1)(st:St)(a:Act)(w:World)(h:evOps P T l ops.toList st K=some res)(hi:Inv z0 N L st a w):
  wpOps P ops Q (List.range' k l.length) a w:=by
 have:=ckZ (tail:=[]) hT hk l k h1 h2 st a w h hi;rwa [List.append_nil] at this
end
end Go.Ab
namespace Go.Ab
section
variable {P : Program} {T : Tbl} {z : Z} {H : Hp} {β : Type} {all : List Oper} {ops : Array Oper}
theorem bmZ{α β:Type}{f g:α->β}{l:List α}(h:∀x∈l,f x=g x):l.map f=l.map g:=List.map_congr_left h
theorem kfZ{o:Oper}{r r':Operand->AV}{K:AV->Option β}(h:∀x∈o.op.operands,r x=r' x):evR P o r H K=evR P o r' H K:=by
 obtain⟨dst,op,type,pos,after,guard⟩:=o;cases op<;>simp only[Op.operands] at h<;>simp only[evR]
 case build t ps=>
  have e:(ps.toList.map fun x=>(x.1,r x.2))=ps.toList.map fun x=>(x.1,r' x.2):=bmZ fun x hx=>by
   rw[h x.2 (by simp only[List.mem_toArray,List.mem_map];exact⟨x,hx,rfl⟩)]
  rw[e]
 case makeFunc f a c=>
  have e1:a.toList.map r=a.toList.map r':=bmZ fun x hx=>h x (by simp[Array.mem_toList_iff.1 hx]);have e2:c.toList.map r=c.toList.map r':=bmZ fun x hx=>h x (by simp[Array.mem_toList_iff.1 hx]);cases f<;>simp only[e1,e2]
 case slice t x lo hi mx=>cases lo<;>cases hi<;>cases mx<;>simp_all
 case call c=>
  have e1:c.args.toList.map r=c.args.toList.map r':=bmZ fun x hx=>h x (by simp[Call.operands,Array.mem_toList_iff.1 hx]);have e2:∀a,c.args.toList=[a]->r a=r' a:=fun a ha=>by
   rw[ha] at e1;simpa using e1
  rw[e1];split
  ·split
   ·rename_i a t ha _;rw[e2 a ha]
   ·rfl
  ·split
   ·rename_i a t ha _;rw[e2 a ha]
   ·rfl
  ·rfl
  ·rfl
  ·rfl
 all_goals(first|rfl|(simp_all;done)|(split<;>simp_all;done))
theorem kcZ{o:Oper}{an:Ann}{r r':Operand->AV}{K:AV->Hp->Option β}(h:∀x∈o.op.operands,r x=r' x):evW P T o an r H K=evW P T o an r' H K:=by
 obtain⟨dst,op,type,pos,after,guard⟩:=o;cases op<;>simp only[Op.operands] at h<;>simp only[evW]
 case buildSlice t n ps=>
  have e:(ps.toList.map fun x=>(x.1,r x.2))=ps.toList.map fun x=>(x.1,r' x.2):=bmZ fun x hx=>by
   rw[h x.2 (by simp only[List.mem_toArray,List.mem_map];exact⟨x,hx,rfl⟩)]
  rw[e]
 case makeMap t q=>cases q<;>simp_all
 case call c=>
  have e1:c.args.toList.map r=c.args.toList.map r':=bmZ fun x hx=>h x (by simp[Call.operands,Array.mem_toList_iff.1 hx]);have e2:∀a b,c.args.toList=[a,b]->r a=r' a/\r b=r' b:=fun a b ha=>by
   rw[ha] at e1;simpa using e1
  split
  ·split
   ·rename_i a b t u ha _;rw[(e2 a b ha).1,(e2 a b ha).2]
   ·rfl
  ·split
   ·rename_i a b t _ ha _;rw[(e2 a b ha).1,(e2 a b ha).2]
   ·rfl
  ·split
   ·rename_i a t ha _;have:r a=r' a:=by rw[ha] at e1;simpa using e1
    rw[this]
   ·rfl
  ·split
   ·rename_i a b t _ ha _;rw[(e2 a b ha).1,(e2 a b ha).2]
   ·rfl
  ·rename_i f hc;rw[e1,h f (by simp[Call.operands,hc])]
  ·rfl
 all_goals(first|rfl|(simp_all;done)|(split<;>simp_all;done))
structure Rc where
 i:Nat
 o:Oper
 an:Ann
 pre:Nat->AV
 st:St
 go:Bool
 x:AV
 H2:Option Hp
def Rc.ft(r:Rc):List Nat:=foot r.o r.an r.st.opnd
def Rc.wr(r:Rc):List Nat:=wrIds r.st.hp r.ft
theorem cnZ(H:Hp)(id:Nat):∀l:List Nat,memN id (fzIds H l)=(memN id l&&isFz H id)/\memN id (wrIds H l)=(memN id l&& !isFz H id)
 |[]=>⟨rfl,rfl⟩
 |i::l=>by
  obtain⟨h1,h2⟩:=cnZ H id l;unfold fzIds wrIds;by_cases h:id=i
  ·subst h;cases hf:isFz H id<;>simp[memN,h1,h2,hf,Nat.beq_refl]
  ·have e:Nat.beq i id=false:=aiZ (Ne.symm h);cases hf:isFz H i<;>simp[memN,h1,h2,e]
theorem hgZ{H:Hp}{i:Nat}(h:isFz H i=true):i<famBase/\∃b,hget H i=some ⟨true,b⟩:=by
 unfold isFz at h;rw[Bool.and_eq_true,Nat.blt_eq] at h;refine⟨h.1,?_⟩;have h2:=h.2;split at h2
 ·rename_i b hb;exact⟨b,hb⟩
 ·cases h2
def Rc.tmE(t:Nat)(r:Rc):Option AV:=if r.o.dst=some t then some r.x else none
def Rc.hpE(id:Nat)(r:Rc):Option (Bool×Option Ent):=
 match r.H2 with
 |some H2=>if memN id r.wr=true then some (true,if hkey H2 id=true then hget H2 id else none) else none
 |none=>none
def layF{ν:Type}(f:Rc->Option ν):List Rc->ν->ν
 |[],b=>b
 |r::l,b=>layF f l ((f r).getD b)
def hpAt(H:Hp)(id:Nat):Bool×Option Ent:=(hkey H id,hget H id)
structure Rc.Ok (P:Program) (T:Tbl) (all:List Oper) (r:Rc):Prop where
 dst:dstOk r.st.nt r.o.dst=true
 grd:GuardIs all r.o r.pre r.go
 le:∀t,Le (r.pre t) (r.st.tm.get t)
 no:r.go=false->r.x= .tup []/\r.H2=none
 yes:r.go=true->(isR P r.o=true/\evR P r.o r.st.opnd (hsub r.st.hp r.ft) some=some r.x/\r.H2=none)\/
  (isR P r.o=false/\(mkOp P r.o=true->r.an.ids≠[])/\mdIn r.an.md r.ft=true/\∃Hr,r.H2=some Hr/\evW P T r.o r.an r.st.opnd (hsub r.st.hp r.ft) (fun x H=>some (x,H))=some (r.x,Hr)/\(allIn (hkeys Hr) r.ft=true/\statN r.ft=true))
def fpsOf(P:Program):List Rc->List Fp
 |[]=>[]
 |r::l=>if r.go=true then⟨r.i,r.ft,bq (isR P r.o) [] r.wr⟩::fpsOf P l else fpsOf P l
theorem haZ{t:Nat}:∀{l:List Rc} {a b:AV},Le a b->Le (layF (Rc.tmE t) l a) (layF (Rc.tmE t) l b)
 |[],a,b,h=>h
 |r::l,a,b,h=>haZ (l:=l) (by
   cases r.tmE t with
   |none=>exact h
   |some x=>exact .refl _)
theorem ipZ:∀(l:List (Nat×Oper×Ann)) (st:St) (fs:List Fp) {K:St->List Fp->Option β} {res:β},evOpsD P T l all st fs K=some res->
 ∃(recs:List Rc) (st':St),recs.map (fun r=>(r.i,r.o))=l.map (fun x=>(x.1,x.2.1))/\(∀r∈recs,r.Ok P T all)/\K st' ((fpsOf P recs).reverse++fs)=some res/\
  (∀l1 r l2,recs=l1++r::l2->(∀t,Le (layF (Rc.tmE t) l1 (st.tm.get t)) (r.pre t))/\(∀id,layF (Rc.hpE id) l1 (hpAt st.hp id)=hpAt r.st.hp id)/\r.st.nt=st.nt)/\
  (∀t,Le (layF (Rc.tmE t) recs (st.tm.get t)) (st'.tm.get t))/\(∀id,layF (Rc.hpE id) recs (hpAt st.hp id)=hpAt st'.hp id)/\st'.nt=st.nt/\st'.n0=st.n0
 |[],st,fs,K,res,h=>⟨[],st,rfl,fun r h=>(by cases h),h,fun l1 r l2 h=>(by cases l1<;>cases h),fun t=>.refl _,fun id=>rfl,rfl,rfl⟩
 |(i,o,an)::l,st,fs,K,res,h=>by
  simp only[evOpsD] at h;obtain⟨hd,st1,b,e1,e2,e3,e4,hg,hb⟩:=lNZ h;generalize hA:an.at st1.hp=an' at hb;have step:∃(r:Rc) (st2:St) (fs2:List Fp),r.i=i/\r.o=o/\r.pre=st.tm.get/\r.st=st1/\r.Ok P T all/\evOpsD P T l all st2 fs2 K=some res/\(∀t,Le ((r.tmE t).getD (st.tm.get t)) (st2.tm.get t))/\
   (∀id,(r.hpE id).getD (hpAt st.hp id)=hpAt st2.hp id)/\st2.nt=st.nt/\st2.n0=st.n0/\fs2=fpsOf P [r]++fs:=by
   have slots:∀(x:AV) t,Le ((if o.dst=some t then some x else none:Option AV).getD (st.tm.get t)) ((st1.putO o.dst x).tm.get t):=fun x t=>by
    cases ho:o.dst with
    |none=>simp only[reduceCtorEq,if_false,Option.getD_none,St.putO];exact e4 t
    |some d=>
     simp only[Option.some.injEq,St.putO];by_cases hdt:d=t
     ·subst hdt;rw[if_pos rfl];rcases(Tr.get_put st1.tm d x d).2 with e|e<;>rw[e]
      ·exact .refl _
      ·exact .junk _
     ·rw[if_neg hdt,(Tr.get_put st1.tm d x t).1 (Ne.symm hdt)];exact e4 t
   rcases hb with⟨rfl,hgo⟩|⟨rfl,hsk⟩
   ·unfold ev1D at hgo;cases hR:isR P o<;>rw[hR] at hgo<;>simp only[bq_true,bq_false] at hgo
    ·obtain⟨h1,h2⟩:=adZ.1 hgo;obtain⟨x,Hr,h3,h4⟩:=mjZ h2;obtain⟨h5,h6⟩:=adZ.1 h4;simp only[Bool.and_eq_true,Bool.or_eq_true,Bool.not_eq_true'] at h1
     let r:Rc:=⟨i,o,an',st.tm.get,st1,true,x,some Hr⟩
     have hok:r.Ok P T all:=⟨by show dstOk st1.nt o.dst=true;rw[e2];exact hd,hg,e4,fun h=>(by cases h),fun _=>.inr ⟨hR,fun hm hid=>(by
      rcases h1.1 with h|h
      ·rw[hm] at h;cases h
      ·rw[show an'.ids=[] from hid] at h;cases h),h1.2,Hr,rfl,h3,Bool.and_eq_true_iff.1 h5⟩⟩
     refine⟨r,_,_,rfl,rfl,rfl,rfl,hok,h6,fun t=>slots x t,fun id=> ?_,?_,?_,?_⟩
     ·show(Rc.hpE id r).getD (hpAt st.hp id)=hpAt (setAll (setAll (killAll st1.hp (foot o an' st1.opnd)) Hr) (hsub st1.hp (fzIds st1.hp (foot o an' st1.opnd)))) id;unfold hpAt;rw[a1Z,a9Z,a1Z,a9Z,a8Z,aGZ,(biZ _ _ id).1,(biZ _ _ id).2,(cnZ st1.hp id _).1,<-e1];simp only[Rc.hpE,Rc.ft,Rc.wr,r,(cnZ st1.hp id _).2];by_cases hm:memN id (foot o an' st1.opnd)=true
      ·cases hz:isFz st1.hp id
       ·simp[hm]
       ·obtain⟨_,b,hb⟩:=hgZ hz;simp[hm,ahZ hb]
      ·have hk:hkey Hr id=false:=by
        cases hk:hkey Hr id
        ·rfl
        ·exact absurd (agZ.2 (bqZ.1 (Bool.and_eq_true_iff.1 h5).1 id (cSZ.1 hk))) hm
       simp[hm,hk]
     ·show(st1.putO o.dst x).nt=st.nt;rw[(bWZ st1 o.dst x).2.1,e2]
     ·show(st1.putO o.dst x).n0=st.n0;rw[(bWZ st1 o.dst x).2.2.1,e3]
     ·simp[fpsOf,r,Rc.ft,Rc.wr,hR,e1]
    ·obtain⟨h1,h2⟩:=adZ.1 hgo;obtain⟨x,h3,h4⟩:=njZ h1 h2
     let r:Rc:=⟨i,o,an',st.tm.get,st1,true,x,none⟩
     have hok:r.Ok P T all:=⟨by show dstOk st1.nt o.dst=true;rw[e2];exact hd,hg,e4,fun h=>(by cases h),fun _=>.inl ⟨hR,h3,rfl⟩⟩;refine⟨r,_,_,rfl,rfl,rfl,rfl,hok,h4,fun t=>slots x t,fun id=> ?_,?_,?_,?_⟩
     ·show hpAt st.hp id=hpAt (st1.putO o.dst x).hp id;rw[(bWZ st1 o.dst x).2.2.2,e1]
     ·rw[(bWZ st1 o.dst x).2.1,e2]
     ·rw[(bWZ st1 o.dst x).2.2.1,e3]
     ·simp[fpsOf,r,Rc.ft,hR]
   ·let r:Rc:=⟨i,o,an',st.tm.get,st1,false,.tup [],none⟩
    have hok:r.Ok P T all:=⟨by show dstOk st1.nt o.dst=true;rw[e2];exact hd,hg,e4,fun _=>⟨rfl,rfl⟩,fun h=>(by cases h)⟩;refine⟨r,_,_,rfl,rfl,rfl,rfl,hok,hsk,fun t=>slots (.tup []) t,fun id=> ?_,?_,?_,?_⟩
    ·show hpAt st.hp id=hpAt (st1.putO o.dst (.tup [])).hp id;rw[(bWZ st1 o.dst (.tup [])).2.2.2,e1]
    ·show(st1.putO o.dst (.tup [])).nt=st.nt;rw[(bWZ st1 o.dst (.tup [])).2.1,e2]
    ·show(st1.putO o.dst (.tup [])).n0=st.n0;rw[(bWZ st1 o.dst (.tup [])).2.2.1,e3]
    ·simp[fpsOf,r]
  obtain⟨r,st2,fs2,r1,r2,r4,r5,r6,r7,r8,r9,r10,r11,r12⟩:=step;obtain⟨recs,st',q1,q2,q3,q4,q5,q6,q7,q8⟩:=ipZ l st2 fs2 r7;refine⟨r::recs,st',by simp[r1,r2,q1],fun x hx=> ?_,?_,fun l1 r' l2 he=> ?_,fun t=> ?_,fun id=> ?_,q7.trans r10,q8.trans r11⟩
  ·rcases List.mem_cons.1 hx with rfl|hx
   ·exact r6
   ·exact q2 x hx
  ·rw[r12] at q3;have:(fpsOf P (r::recs)).reverse++fs=(fpsOf P recs).reverse++(fpsOf P [r]++fs):=by
    simp only[fpsOf];split<;>simp
   rw[this];exact q3
  ·cases l1 with
   |nil=>
    simp only[List.nil_append,List.cons.injEq] at he;obtain⟨rfl,rfl⟩:=he;exact⟨fun t=>by rw[r4];exact .refl _,fun id=>by rw[r5,e1];rfl,by rw[r5];exact e2⟩
   |cons r0 l1=>
    simp only[List.cons_append,List.cons.injEq] at he;obtain⟨rfl,he⟩:=he;obtain⟨a1,a2,a3⟩:=q4 l1 r' l2 he;refine⟨fun t=> ?_,fun id=> ?_,a3.trans r10⟩
    ·exact(haZ (r8 t)).trans (a1 t)
    ·simp only[layF];rw[r9];exact a2 id
  ·exact(haZ (r8 t)).trans (q5 t)
  ·simp only[layF];rw[r9];exact q6 id
theorem d9Z{cl:List (Nat×List Nat)}:∀{l:List Fp},pairsOk cl l=true->l.Pairwise fun b a=>pairOk cl a b=true
 |[],_=>.nil
 |b::l,h=>by
  simp only[pairsOk,Bool.and_eq_true,List.all_eq_true] at h;exact .cons h.1 (d9Z h.2)
theorem gQZ{a:Nm}:∀{l:List Nm},nmAll a l=true->∀b∈l,memN a.i b.cl=true\/apartN a b=true
 |[],_,b,h=>by cases h
 |c::l,h,b,hb=>by
  simp only[nmAll,Bool.and_eq_true,Bool.or_eq_true] at h;rcases List.mem_cons.1 hb with rfl|hb
  ·exact h.1
  ·exact gQZ h.2 b hb
theorem gcZ:∀{l:List Nm},nmsOk l=true->l.Pairwise fun a b=>memN a.i b.cl=true\/apartN a b=true
 |[],_=>.nil
 |a::l,h=>by
  simp only[nmsOk,Bool.and_eq_true] at h;exact .cons (gQZ h.1) (gcZ h.2)
def Rc.nm(cl:List (Nat×List Nat))(all:List Oper)(r:Rc):Nm:=⟨r.i,(cl.lookup r.i).getD [],guardOf all r.o++tmpsOf r.o.op.operands.toList,r.o.dst⟩
theorem lRZ{cl:List (Nat×List Nat)}:∀{recs:List Rc} {l:List (Oper×Ann)} {k:Nat},recs.map (fun r=>(r.i,r.o))=(numb k l).map (fun x=>(x.1,x.2.1))->nms cl all k (l.map (·.1))=recs.map (Rc.nm cl all)
 |[],[],k,_=>rfl
 |[],_::_,k,h=>by simp[numb] at h
 |_::_,[],k,h=>by simp[numb] at h
 |r::recs,(o,an)::l,k,h=>by
  simp only[List.map_cons,numb,List.cons.injEq,Prod.mk.injEq] at h;obtain⟨⟨rfl,rfl⟩,h⟩:=h;simp only[List.map_cons,nms,lRZ h]
  rfl
theorem k3Z{α:Type}:∀{l:List α} {k:Nat},(numb k l).Pairwise fun a b=>a.1<b.1
 |[],k=>.nil
 |a::l,k=>.cons (fun b hb=>by
   have:∀{l:List α} {k:Nat} {b:Nat×α},b∈numb k l->k<=b.1:=fun{l}=>by
    induction l with
    |nil=>intro k b h;cases h
    |cons a l ih=>
     intro k b h;rcases List.mem_cons.1 h with rfl|h
     ·exact Nat.le_refl _
     ·exact Nat.le_of_succ_le (ih h)
   exact this hb) k3Z
theorem f9Z{α:Type}:∀{l:List α} {k i:Nat},(numb k l)[i]? =(l[i]?).map fun a=>(k+i,a)
 |[],k,i=>by simp[numb]
 |a::l,k,0=>by simp[numb]
 |a::l,k,i+1=>by
  simp only[numb,List.getElem?_cons_succ,f9Z];congr 1;funext a;rw[show k+1+i=k+(i+1) by omega]
def edgesIn(all:List Oper)(S:Nat->Prop)(j:Nat):Prop:=∀o,all[j]? =some o->∀e∈o.after,Region.binds .any e=true->S e.on
theorem f3Z{done:List (Nat×List Nat)}:∀{es:List Edge} {k:Nat},k∈closN done es->∃e∈es,Region.binds .any e=true/\(k=e.on\/k∈(done.lookup e.on).getD [])
 |[],k,h=>by cases h
 |e::es,k,h=>by
  simp only[closN] at h;cases hb:Region.binds .any e<;>rw[hb] at h<;>simp only[bq_true,bq_false] at h
  ·obtain⟨e',h1,h2⟩:=f3Z h;exact⟨e',List.mem_cons_of_mem _ h1,h2⟩
  ·rcases List.mem_cons.1 h with rfl|h
   ·exact⟨e,List.mem_cons_self,hb,.inl rfl⟩
   ·rcases List.mem_append.1 h with h|h
    ·exact⟨e,List.mem_cons_self,hb,.inr h⟩
    ·obtain⟨e',h1,h2⟩:=f3Z h;exact⟨e',List.mem_cons_of_mem _ h1,h2⟩
theorem kJZ{S:Nat->Prop}(hc:∀j,S j->edgesIn all S j):∀(l:List Oper) (k:Nat) (done:List (Nat×List Nat)),(∀i,l[i]? =all[k+i]?)->(∀j,edgesIn all S j->∀m∈(done.lookup j).getD [],S m)->
 ∀j,edgesIn all S j->∀m∈((clos k l done).lookup j).getD [],S m
 |[],k,done,_,hd=>hd
 |o::l,k,done,hl,hd=>by
  simp only[clos];refine kJZ hc l (k+1) _ (fun i=>by have:=hl (i+1);rw[List.getElem?_cons_succ] at this;rw[this];congr 1;omega) fun j hj m hm=> ?_;simp only[List.lookup_cons] at hm;cases hk:(j==k)
  ·rw[hk] at hm;exact hd j hj m hm
  ·rw[hk] at hm;have:j=k:=by simpa using hk
   subst this;simp only[Option.getD_some,cGZ] at hm;obtain⟨e,h1,h2,h3⟩:=f3Z hm;have he:S e.on:=hj o (by have:=hl 0;simpa using this.symm) e (Array.mem_toList_iff.1 h1) h2;rcases h3 with rfl|h3
   ·exact he
   ·exact hd e.on (hc _ he) m h3
end
end Go.Ab
namespace Go.Ab
section
variable {P : Program} {T : Tbl} {β : Type} {ops : Array Oper}
theorem c4Z{ν:Type}{f:Rc->Option ν}{S:Nat->Bool}:∀{l:List Rc} {b:ν},(∀r∈l,(f r).isSome=true->S r.i=true)->layF f (l.filter fun r=>S r.i) b=layF f l b
 |[],b,_=>rfl
 |r::l,b,h=>by
  have h':∀r∈l,(f r).isSome=true->S r.i=true:=fun x hx=>h x (List.mem_cons_of_mem _ hx);cases hs:S r.i
  ·rw[List.filter_cons_of_neg (by simp[hs])];have hn:f r=none:=by
    cases hf:f r with
    |none=>rfl
    |some v=>have:=h r List.mem_cons_self (by rw[hf];rfl);rw[hs] at this;cases this
   rw[c4Z h'];simp[layF,hn]
  ·rw[List.filter_cons_of_pos (by simp[hs])];simp only[layF];exact c4Z h'
theorem cIZ{ν:Type}{f:Rc->Option ν}{S:Nat->Bool}:∀{l:List Rc} {b:ν},(∀r∈l,(f r).isSome=true->S r.i=false)->layF f (l.filter fun r=>S r.i) b=b
 |[],b,_=>rfl
 |r::l,b,h=>by
  have h':∀r∈l,(f r).isSome=true->S r.i=false:=fun x hx=>h x (List.mem_cons_of_mem _ hx);cases hs:S r.i
  ·rw[List.filter_cons_of_neg (by simp[hs])];exact cIZ h'
  ·rw[List.filter_cons_of_pos (by simp[hs])];have hn:f r=none:=by
    cases hf:f r with
    |none=>rfl
    |some v=>have:=h r List.mem_cons_self (by rw[hf];rfl);rw[hs] at this;cases this
   simp only[layF,hn,Option.getD_none];exact cIZ h'
theorem bxZ{ν:Type}{f:Rc->Option ν}:∀{l m:List Rc} {b:ν},layF f (l++m) b=layF f m (layF f l b)
 |[],m,b=>rfl
 |r::l,m,b=>by simp only[List.cons_append,layF];exact bxZ
theorem g7Z{ν:Type}{f:Rc->Option ν}{S:Nat->Bool}{l1 l2:List Rc}{r:Rc}{b:ν}(hr:S r.i=false)(h1:∀x∈l1,(f x).isSome=true->S x.i=true)(h2:∀x∈l2,(f x).isSome=true->S x.i=false):
 layF f ((l1++r::l2).filter fun r=>S r.i) b=layF f l1 b:=by
 rw[List.filter_append,List.filter_cons_of_neg (by simp[hr]),bxZ,c4Z h1,cIZ h2]
theorem eaZ{ν:Type}{f:Rc->Option ν}{S S':Nat->Bool}{l1 l2:List Rc}{r:Rc}{b:ν}(hr:S r.i=false)(hS:S' r.i=true)(hS1:∀x∈l1,S' x.i=S x.i)(hS2:∀x∈l2,S' x.i=S x.i):
 (∀v,f r=some v->(∀x∈l2,(f x).isSome=true->S x.i=false)->layF f ((l1++r::l2).filter fun r=>S' r.i) b=v)/\
 (f r=none->layF f ((l1++r::l2).filter fun r=>S' r.i) b=layF f ((l1++r::l2).filter fun r=>S r.i) b):=by
 have e1:(l1.filter fun r=>S' r.i)=l1.filter fun r=>S r.i:=List.filter_congr fun x hx=>by rw[hS1 x hx]
 have e2:(l2.filter fun r=>S' r.i)=l2.filter fun r=>S r.i:=List.filter_congr fun x hx=>by rw[hS2 x hx]
 refine⟨fun v hv h2=> ?_,fun hv=> ?_⟩
 ·rw[List.filter_append,List.filter_cons_of_pos (by simp[hS]),bxZ,e1,e2];simp only[layF,hv,Option.getD_some];exact cIZ h2
 ·rw[List.filter_append,List.filter_cons_of_pos (by simp[hS]),bxZ,e1,e2,List.filter_append,List.filter_cons_of_neg (by simp[hr]),bxZ];simp only[layF,hv,Option.getD_none]
theorem d8Z:∀{l:List Oper} {k:Nat},edgesOk k l=true->∀(i:Nat) o,l[i]? =some o->(∀e∈o.after,Region.binds .any e=true->e.on<k+i)/\∀cs b,o.op≠.select cs b
 |[],k,_,i,o,h=>by simp at h
 |x::l,k,h,i,o,ho=>by
  simp only[edgesOk,Bool.and_eq_true] at h;obtain⟨⟨h1,h2⟩,h3⟩:=h;cases i with
  |zero=>
   simp only[List.getElem?_cons_zero,Option.some.injEq] at ho;subst ho;refine⟨fun e he hb=> ?_,fun cs b hs=>by rw[hs] at h2;cases h2⟩;have:∀{es:List Edge},edgesLt k es=true->∀e∈es,Region.binds .any e=true->e.on<k:=fun{es}=>by
    induction es with
    |nil=>intro _ e he;cases he
    |cons e0 es ih=>
     intro h e he hb;simp only[edgesLt,Bool.and_eq_true,Bool.or_eq_true,Bool.not_eq_true',Nat.blt_eq] at h;rcases List.mem_cons.1 he with rfl|he
     ·exact h.1.resolve_left (by rw[hb];simp)
     ·exact ih h.2 e he hb
   exact this h1 e (Array.mem_toList_iff.2 he) hb
  |succ i=>
   have:=d8Z h3 i o (by simpa using ho);rwa [show k+1+i=k+(i+1) by omega] at this
theorem daZ{t:Nat}:∀{l:List Operand},Operand.tmp t∈l->t∈tmpsOf l
 |[],h=>by cases h
 |x::l,h=>by
  cases x with
  |tmp u=>
   simp only[tmpsOf,List.mem_cons];rcases List.mem_cons.1 h with h|h
   ·injection h with h;exact .inl h
   ·exact .inr (daZ h)
  |_=>
   simp only[tmpsOf];rcases List.mem_cons.1 h with h|h
   ·cases h
   ·exact daZ h
theorem kSZ{z:Z}{st:St}{a:Act}(x:Operand)(h:∀t,x= .tmp t->ARep z (st.tm.get t) (a.eval x)):ARep z (st.opnd x) (a.eval x):=by
 cases x with
 |tmp t=>exact h t rfl
 |const v=>
  have e:st.opnd (.const v)=({st with tm:=.lf}:St).opnd (.const v):=by cases v<;>rfl
  rw[e];exact dfZ (z:=z) (st:={st with tm:=.lf}) (a:=a) (fun t=>.junk _) (.const v)
 |global g=>exact .junk _
 |func f=>exact dfZ (z:=z) (st:={st with tm:=.lf}) (a:=a) (fun t=>.junk _) (.func f)
theorem eAZ{n:Nat}{listed:Array Bool}{i:Nat}(hs:listed.size=n)(hi:listed.getD i true=false):
 ((List.range n).filter fun j=> !listed.getD j true).length=((List.range n).filter fun j=> !(listed.setIfInBounds i true).getD j true).length+1:=by
 have hlt:i<n:=by
  rcases Nat.lt_or_ge i listed.size with h|h
  ·omega
  ·simp[Array.getElem?_eq_none h] at hi
 have hmem:i∈(List.range n).filter fun j=> !listed.getD j true:=by
  rw[List.mem_filter];exact⟨List.mem_range.2 hlt,by rw[hi];rfl⟩
 have hnd:((List.range n).filter fun j=> !listed.getD j true).Nodup:=List.Pairwise.sublist List.filter_sublist List.nodup_range;have he:((List.range n).filter fun j=> !(listed.setIfInBounds i true).getD j true)=((List.range n).filter fun j=> !listed.getD j true).erase i:=by
  rw[List.Nodup.erase_eq_filter hnd,List.filter_filter];refine List.filter_congr fun j hj=> ?_;by_cases hij:i=j
  ·subst hij;simp[show i<listed.size by omega]
  ·have:(j !=i)=true:=by simp;exact fun h=>hij h.symm
   rw[this,getD_set_ne true hij];simp
 rw[he,List.length_erase_of_mem hmem];have:=List.length_pos_of_mem hmem;omega
theorem HRep.lay{z:Z}{H:Hp}(hH:HRep z H){i:Nat}{e:Ent}(hi:i<famBase)(he:ERep z i e)(hf:e.fz=true)(hfam:famOk i e):HRep z (hset H i (some e)):=by
 have hfd:famBase<dynBase:=by unfold famBase dynBase;omega
 refine⟨fun id e' h=> ?_,fun id id' e1 e2 g sz n g' sz' n' hne h1 h2 f1 f2=> ?_,fun id h=> ?_,hH.sub,fun id e' h=> ?_,fun id h=> ?_,fun id hd h=> ?_,hH.nos⟩
 ·rw[axZ hi] at h;split at h
  ·rename_i hid;subst hid;simp only[Option.some.injEq] at h;subst h;exact he
  ·exact hH.ent id e' h
 ·rw[axZ hi] at h1 h2;split at h1
  ·simp only[Option.some.injEq] at h1;subst h1;rw[hf] at f1;cases f1
  ·split at h2
   ·simp only[Option.some.injEq] at h2;subst h2;rw[hf] at f2;cases f2
   ·exact hH.inj id id' e1 e2 g sz n g' sz' n' hne h1 h2 f1 f2
 ·rw[aTZ hi] at h;exact hH.fresh id (by simp only[Bool.or_eq_false_iff] at h;exact h.2)
 ·rw[akZ] at h;split at h
  ·rename_i hid;subst hid;simp only[Option.some.injEq] at h;subst h;exact hfam
  ·exact hH.fam id e' h
 ·rw[amZ] at h;by_cases hid:id=i
  ·omega
  ·exact hH.key id (by simpa[hid] using h)
 ·rw[amZ] at h;have:rt id≠i:=by
   unfold rt;rw[if_pos hd];omega
  exact hH.dyn id hd (by simpa[this] using h)
theorem HRep.refz{z z3:Z}{H H1 H3:Hp}(kp:Kp z z3)(hH:HRep z H)(h3:HRep z3 H3):∀{F:List Nat},(∀i∈F,∃b,i<famBase/\hget H1 i=some ⟨true,b⟩/\hget H i=some ⟨true,b⟩)->HRep z3 (setAll H3 (hsub H1 F))
 |[],_=>h3
 |i::F,h=>by
  have ih:=HRep.refz kp hH h3 (F:=F) fun j hj=>h j (List.mem_cons_of_mem _ hj);obtain⟨b,q1,q2,q3⟩:=h i List.mem_cons_self;unfold hsub;rw[ahZ q2];simp only[bq_true,setAll];rw[q2];refine ih.lay q1 ?_ rfl (hH.fam i _ q3);have he:=hH.ent i ⟨true,b⟩ (by rw[anZ q1];exact q3);refine he.kp kp fun g sz n hρ=> ?_;unfold ERep at he;rw[hρ] at he;exact⟨kp.block g he.1 (he.2.2.1 rfl),fun hC=>absurd (hH.sub g hC) (he.2.2.1 rfl)⟩
def J(z0:Z)(N:Nat)(L:List (Nat×AV))(ops:Array Oper)(recs:List Rc)(st:St)(listed:Array Bool)(a:Act)(w:World):Prop:=
 ∃z H,z.w=w/\Nx z0 z/\(∀id,¬z.D id)/\HRep z H/\(∀id,layF (Rc.hpE id) (recs.filter fun r=>listed.getD r.i false) (hpAt st.hp id)=hpAt H id)/\
  (∀t,ARep z (layF (Rc.tmE t) (recs.filter fun r=>listed.getD r.i false) (st.tm.get t)) (a.eval (.tmp t)))/\(∀p∈L,ARep z p.2 (a.eval (.tmp p.1)))/\a.defers=[]/\(st.nt<=N/\a.tmps.size=N)/\
  listed.size=ops.size/\(∀j,listed.getD j false=true->edgesIn ops.toList (fun j=>listed.getD j false=true) j)
theorem ibZ:∀{ms l:List Nat},mdIn ms l=true↔∀m∈ms,m<4\/m+100000∈l
 |[],l=>by simp[mdIn]
 |m::ms,l=>by
  simp only[mdIn,Bool.and_eq_true,Bool.or_eq_true,Nat.blt_eq,agZ,ibZ (ms:=ms),List.mem_cons];constructor
  ·rintro⟨h1,h2⟩ x (rfl|hx)
   ·exact h1
   ·exact h2 x hx
  ·intro h;exact⟨h m (.inl rfl),fun x hx=>h x (.inr hx)⟩
theorem kYZ{z0:Z}{N:Nat}{L:List (Nat×AV)}{st:St}{a:Act}{w:World}{K:St->Option β}{res:β}{Q:Exit->Act->World->Prop}{opsA:List (Oper×Ann)}(hT:∀e∈T,Told P e)(hops:opsA.map (·.1)=ops.toList)
 (hL:∀x∈opsA,∀p∈L,x.1.dst≠some p.1)(hk:∀st' a' w',K st'=some res->Inv z0 N L st' a' w'->Q .normal a' w')
 (hed:edgesOk 0 ops.toList=true)(hnm:nmsOk (nms (clos 0 ops.toList []) ops.toList 0 ops.toList)=true)
 (h:evOpsD P T (numb 0 opsA) ops.toList st [] (fun st' fs=>need (pairsOk (clos 0 ops.toList []) fs) (K st'))=some res)(hi:Inv z0 N L st a w):
 wpAny P .any ops Q ops.size (Array.replicate ops.size false) a w:=by
 obtain⟨recs,st',t1,t2,t3,t4,t5,t6,t7,t8⟩:=ipZ _ _ _ h;obtain⟨hpair,hK⟩:=adZ.1 t3;have hi0:=hi;obtain⟨_,_,_,_,_,_,_,_,_,hn0⟩:=hi0;rw[List.append_nil] at hpair;generalize hcl:clos 0 ops.toList []=cl at*;have hnames:recs.Pairwise fun a b=>memN a.i ((cl.lookup b.i).getD [])=true\/apartN (a.nm cl ops.toList) (b.nm cl ops.toList)=true:=by
  have:=gcZ hnm;have e:=lRZ (cl:=cl) (all:=ops.toList) t1;rw[hops] at e;rw[e,List.pairwise_map] at this;exact this
 have hfp:(fpsOf P recs).Pairwise fun a b=>pairOk cl a b=true:=by
  have:=d9Z hpair;rwa [List.pairwise_reverse] at this
 have hrec:recs.Pairwise fun r1 r2=>r1.go=true->r2.go=true->memN r1.i ((cl.lookup r2.i).getD [])=true\/clash ⟨r1.i,r1.ft,bq (isR P r1.o) [] r1.wr⟩ ⟨r2.i,r2.ft,bq (isR P r2.o) [] r2.wr⟩=false:=by
  clear t1 t2 t3 t4 t5 t6 hpair hnames;have mem:∀{l:List Rc} {r:Rc},r∈l->r.go=true->(⟨r.i,r.ft,bq (isR P r.o) [] r.wr⟩:Fp)∈fpsOf P l:=fun{l}=>by
   induction l with
   |nil=>intro r h;cases h
   |cons x l ih=>
    intro r h hg;simp only[fpsOf];rcases List.mem_cons.1 h with rfl|h
    ·rw[if_pos hg];exact List.mem_cons_self
    ·split
     ·exact List.mem_cons_of_mem _ (ih h hg)
     ·exact ih h hg
  induction recs with
  |nil=>exact .nil
  |cons x l ih=>
   simp only[fpsOf] at hfp;refine .cons (fun y hy hx hy'=> ?_) (ih ?_)
   ·rw[if_pos hx] at hfp;have:=(List.pairwise_cons.1 hfp).1 _ (mem hy hy');simp only[pairOk,Bool.or_eq_true,Bool.not_eq_true'] at this;exact this.symm
   ·split at hfp
    ·exact(List.pairwise_cons.1 hfp).2
    ·exact hfp
 have hat:∀(i:Nat) r,recs[i]? =some r->r.i=i/\ops[i]? =some r.o:=fun i r hr=>by
  have e:(recs.map fun r=>(r.i,r.o))[i]? =some (r.i,r.o):=by rw[List.getElem?_map,hr];rfl
  rw[t1,List.getElem?_map,f9Z,Option.map_map] at e;obtain⟨x,hx,hxe⟩:=Option.map_eq_some_iff.1 e;simp only[Function.comp,Prod.mk.injEq] at hxe;obtain⟨h1,h2⟩:=hxe;refine⟨by omega,?_⟩;have h3:(opsA.map (·.1))[i]? =some r.o:=by rw[List.getElem?_map,hx,<-h2];rfl
  rw[hops] at h3;rwa [<-Array.getElem?_toList]
 have hlen:recs.length=ops.size:=by
  have h1:(recs.map fun r=>(r.i,r.o)).length=opsA.length:=by
   rw[t1,List.length_map];have:∀{α:Type} (l:List α) k,(numb k l).length=l.length:=fun l=>by
    induction l with
    |nil=>intro k;rfl
    |cons a l ih=>intro k;simp[numb,ih]
   exact this _ _
  have h2:=congrArg List.length hops;simp at h1 h2;omega
 have hlt:∀{l1:List Rc} {r l2},recs=l1++r::l2->(∀x∈l1,x.i≠r.i)/\(∀x∈l2,x.i≠r.i):=fun{l1 r l2} he=>by
  have hp:recs.Pairwise fun a b=>a.i<b.i:=by
   have:=k3Z (l:=opsA) (k:=0);have h2:((numb 0 opsA).map fun x=>(x.1,x.2.1)).Pairwise fun a b=>a.1<b.1:=List.pairwise_map.2 this;rw[<-t1,List.pairwise_map] at h2;exact h2
  rw[he,List.pairwise_append] at hp;exact⟨fun x hx=>Nat.ne_of_lt (hp.2.2 x hx r List.mem_cons_self),fun x hx=>(Nat.ne_of_lt ((List.pairwise_cons.1 hp.2.1).1 x hx)).symm⟩
 have main:∀(fuel:Nat) (listed:Array Bool) (a:Act) (w:World),fuel=((List.range ops.size).filter fun j=> !listed.getD j true).length->J z0 N L ops recs st listed a w->wpAny P .any ops Q fuel listed a w:=by
  have fin:∀(listed:Array Bool) (a:Act) (w:World),Region.ready .any ops listed=[]->J z0 N L ops recs st listed a w->Q .normal a w:=by
   rintro listed a w hr ⟨z,H,rfl,hn,hD,hH,hhp,htm,hLs,hdf,hnt,hsz,hcs⟩;have hall:∀i,i<ops.size->listed.getD i false=true:=by
    intro i;induction i using Nat.strongRecOn with
    |_ i ih=>
     intro hi;cases hb:listed.getD i false
     ·exfalso;have hb':listed.getD i true=false:=by
       have:i<listed.size:=by omega
       simp[this] at hb⊢;exact hb
      have:i∈Region.ready .any ops listed:=by
       rw[mem_ready];refine⟨hb',ops[i],Array.getElem?_eq_getElem hi,fun e he hbd=> ?_⟩;have:=(d8Z hed i ops[i] (by rw[Array.getElem?_toList];exact Array.getElem?_eq_getElem hi)).1 e he hbd;rw[Nat.zero_add] at this;exact ih e.on this (by omega)
      rw[hr] at this;cases this
     ·rfl
   have hfil:(recs.filter fun r=>listed.getD r.i false)=recs:=by
    rw[List.filter_eq_self];intro r hr';obtain⟨i,hi⟩:=List.getElem?_of_mem hr';obtain⟨h1,h2⟩:=hat i r hi;rw[h1];exact hall i (Array.getElem?_eq_some_iff.1 h2).1
   rw[hfil] at hhp htm;refine hk st' a z.w hK ⟨z,rfl,hn,hD,hH.same (fun id=> ?_) (fun id=> ?_),fun t=>t5 t _ _ (htm t),hLs,hdf,by rw[t7];exact hnt,by rw[t8];exact hn0⟩
   ·have:=(t6 id).symm.trans (hhp id);exact congrArg Prod.snd this
   ·have:=(t6 id).symm.trans (hhp id);exact congrArg Prod.fst this
  have step:∀(listed:Array Bool) (a:Act) (w:World) (i:Nat) (next:Act->World->Prop),i∈Region.ready .any ops listed->J z0 N L ops recs st listed a w->
   (∀a' w',J z0 N L ops recs st (listed.setIfInBounds i true) a' w'->next a' w')->wpOp P ops Q i next a w:=by
   rintro listed a w i next hr ⟨z,H,rfl,hn,hD,hH,hhp,htm,hLs,hdf,hnt,hsz,hcs⟩ hnext;obtain⟨hun,o,ho,hedge⟩:=mem_ready.1 hr;have hilt:i<ops.size:=(Array.getElem?_eq_some_iff.1 ho).1;obtain⟨r,hri⟩:∃r,recs[i]? =some r:=⟨_,List.getElem?_eq_getElem (by omega)⟩;obtain⟨hr1,hr2⟩:=hat i r hri;rw[ho] at hr2;simp only[Option.some.injEq] at hr2;subst hr2;obtain⟨l1,l2,hsplit⟩:=List.append_of_mem (List.mem_of_getElem? hri);have hmem:=List.mem_of_getElem? hri;have hok:=t2 r hmem;obtain⟨u1,u2,u3⟩:=t4 l1 r l2 hsplit;have hSi:listed.getD r.i false=false:=by
    rw[hr1];have:i<listed.size:=by omega
    simp[this] at hun⊢;exact hun
   have hclS:∀j,edgesIn ops.toList (fun j=>listed.getD j false=true) j->∀m∈(cl.lookup j).getD [],listed.getD m false=true:=fun j hj m hm=>by
    rw[<-hcl] at hm;exact kJZ (S:=fun j=>listed.getD j false=true) hcs ops.toList 0 [] (fun i=>by rw[Nat.zero_add]) (fun j _ m hm=>by simp at hm) j hj m hm
   have hA:∀m∈(cl.lookup r.i).getD [],listed.getD m false=true:=hclS r.i fun o' ho' e he hb=>by
    rw[hr1,Array.getElem?_toList,ho] at ho';simp only[Option.some.injEq] at ho';subst ho';exact hedge e he hb
   have hB:∀x,r.i∈(cl.lookup x).getD []->listed.getD x false=false:=fun x hx=>by
    cases hb:listed.getD x false
    ·rfl
    ·have:=hclS x (hcs x hb) r.i hx;rw[hSi] at this;cases this
   rw[hsplit] at hnames hrec;have hn1:=List.pairwise_append.1 hnames;have hf1:=List.pairwise_append.1 hrec;have slot1:∀t,(t∈(r.nm cl ops.toList).rd\/r.o.dst=some t)->∀x∈l1,(x.tmE t).isSome=true->listed.getD x.i false=true:=fun t ht x hx hs=>by
    rcases hn1.2.2 x hx r List.mem_cons_self with h|h
    ·exact hA _ (agZ.1 h)
    ·exfalso;have hxd:x.o.dst=some t:=by
      unfold Rc.tmE at hs;split at hs
      ·assumption
      ·cases hs
     simp only[apartN,Bool.and_eq_true,Bool.not_eq_true',Rc.nm,hxd,hasN,sameO] at h;rcases ht with ht|ht
     ·have ht':memN t (guardOf ops.toList r.o++tmpsOf r.o.op.operands.toList)=true:=agZ.2 ht;rw[ht'] at h;exact absurd h.1.1 (by simp)
     ·rw[ht] at h;simp[Nat.beq_refl,abZ] at h
   have slot2:∀t,(t∈(r.nm cl ops.toList).rd\/r.o.dst=some t)->∀x∈l2,(x.tmE t).isSome=true->listed.getD x.i false=false:=fun t ht x hx hs=>by
    rcases(List.pairwise_cons.1 hn1.2.1).1 x hx with h|h
    ·exact hB _ (agZ.1 h)
    ·exfalso;have hxd:x.o.dst=some t:=by
      unfold Rc.tmE at hs;split at hs
      ·assumption
      ·cases hs
     simp only[apartN,Bool.and_eq_true,Bool.not_eq_true',Rc.nm,hxd,hasN,sameO] at h;rcases ht with ht|ht
     ·have ht':memN t (guardOf ops.toList r.o++tmpsOf r.o.op.operands.toList)=true:=agZ.2 ht;rw[ht'] at h;exact absurd h.1.2 (by simp)
     ·rw[ht] at h;simp[abZ] at h
   have hslot:∀t∈(r.nm cl ops.toList).rd,ARep z (r.pre t) (a.eval (.tmp t)):=fun t ht=>by
    have:=htm t;rw[hsplit,g7Z (f:=Rc.tmE t) (S:=fun i=>listed.getD i false) hSi (slot1 t (.inl ht)) (slot2 t (.inl ht))] at this;exact u1 t _ _ this
   have hwant:Region.wanted r.o (yielded ops a.tmps)=r.go:=hok.grd.wanted fun j want d h1 h2=>hslot d (by
    obtain⟨x,h3,h4⟩:=Option.bind_eq_some_iff.1 h2;simp[Rc.nm,guardOf,h1,h3,h4])
   have hopn:∀x∈r.o.op.operands,ARep z (r.st.opnd x) (a.eval x):=fun x hx=>kSZ x fun t ht=>by
    subst ht;exact hok.le t _ _ (hslot t (by
     simp only[Rc.nm,List.mem_append];exact .inr (daZ (Array.mem_toList_iff.2 hx))))
   have hS':(listed.setIfInBounds i true).getD r.i false=true:=by rw[hr1];simp[show i<listed.size by omega]
   have hSo:∀x,x≠i->(listed.setIfInBounds i true).getD x false=listed.getD x false:=fun x hx=>getD_set_ne false (Ne.symm hx);obtain⟨v1,v2⟩:=hlt hsplit;have hS1:∀x∈l1,(listed.setIfInBounds i true).getD x.i false=listed.getD x.i false:=fun x hx=>hSo _ (by rw[<-hr1];exact v1 x hx);have hS2:∀x∈l2,(listed.setIfInBounds i true).getD x.i false=listed.getD x.i false:=fun x hx=>hSo _ (by rw[<-hr1];exact v2 x hx);have hcs':∀j,(listed.setIfInBounds i true).getD j false=true->edgesIn ops.toList (fun j=>(listed.setIfInBounds i true).getD j false=true) j:=fun j hj o' ho' e he hb=>by
    refine getD_set_true ?_;by_cases hji:j=i
    ·subst hji;rw[Array.getElem?_toList,ho] at ho';simp only[Option.some.injEq] at ho';subst ho';exact hedge e he hb
    ·rw[hSo j hji] at hj;exact hcs j hj o' ho' e he hb
   have hLr:∀p∈L,r.o.dst≠some p.1:=by
    have h3:(recs.map fun r=>(r.i,r.o))[i]? =some (r.i,r.o):=by rw[List.getElem?_map,hri];rfl
    rw[t1,List.getElem?_map,f9Z,Option.map_map] at h3;obtain⟨x,hx,hxe⟩:=Option.map_eq_some_iff.1 h3;simp only[Function.comp,Prod.mk.injEq] at hxe;have:=hL x (List.mem_of_getElem? hx);rw[hxe.2] at this;exact this
   have hdst:=hok.dst;rw[u3] at hdst;have put:∀(z3:Z) (H3:Hp) (v:Value),Nx z z3->HRep z3 H3->ARep z3 r.x v->(∀id,layF (Rc.hpE id) (recs.filter fun r=>(listed.setIfInBounds i true).getD r.i false) (hpAt st.hp id)=hpAt H3 id)->
    J z0 N L ops recs st (listed.setIfInBounds i true) (a.put r.o.dst v) z3.w:=fun z3 H3 v k1 k2 k3 k4=>by
    have kp:=k1.kp hH.sub;refine⟨z3,H3,rfl,hn.trans k1,fun id=>by rw[k1.dom];exact hD id,k2,k4,fun t=> ?_,fun p hp=> ?_,(byZ _ _ _).2.trans hdf,by rw[(byZ _ _ _).1];exact hnt,by simpa using hsz,hcs'⟩
    ·by_cases ht:r.o.dst=some t
     ·rw[hsplit,(eaZ (f:=Rc.tmE t) (S:=fun i=>listed.getD i false) (S':=fun j=>(listed.setIfInBounds i true).getD j false) hSi hS' hS1 hS2).1 r.x (by simp[Rc.tmE,ht]) (slot2 t (.inr ht)),ht,aEZ (by
       rw[ht] at hdst;simp only[dstOk,Nat.blt_eq] at hdst;omega)]
      exact k3
     ·rw[hsplit,(eaZ (f:=Rc.tmE t) (S:=fun i=>listed.getD i false) (S':=fun j=>(listed.setIfInBounds i true).getD j false) hSi hS' hS1 hS2).2 (by simp[Rc.tmE,ht]),aXZ ht,<-hsplit];exact(htm t).kp kp
    ·rw[aXZ (hLr p hp)];exact(hLs p hp).kp kp
   have same:r.H2=none->∀id,layF (Rc.hpE id) (recs.filter fun r=>(listed.setIfInBounds i true).getD r.i false) (hpAt st.hp id)=hpAt H id:=fun h2 id=>by
    rw[hsplit,(eaZ (f:=Rc.hpE id) (S:=fun i=>listed.getD i false) (S':=fun j=>(listed.setIfInBounds i true).getD j false) hSi hS' hS1 hS2).2 (by simp[Rc.hpE,h2]),<-hsplit];exact hhp id
   unfold wpOp;simp only[ho,hwant];cases hgo:r.go
   ·simp only[Bool.false_eq_true,if_false];obtain⟨x1,x2⟩:=hok.no hgo;exact hnext _ _ (put z H undef (Nx.refl z) hH (by rw[x1];exact iaZ) (same x2))
   ·simp only[if_true];refine .inl ?_;have foot1:∀id∈r.ft,∀x∈l1,(x.hpE id).isSome=true->listed.getD x.i false=true:=fun id hid x hx hs=>by
     have hxt:=t2 x (by rw[hsplit];exact List.mem_append_left _ hx);have hxg:x.go=true:=by
      cases hxg:x.go
      ·have:=(hxt.no hxg).2;simp[Rc.hpE,this] at hs
      ·rfl
     have hxw:isR P x.o=false/\memN id x.wr=true:=by
      rcases hxt.yes hxg with⟨_,_,y⟩|⟨y,_⟩
      ·simp[Rc.hpE,y] at hs
      ·refine⟨y,?_⟩;unfold Rc.hpE at hs;split at hs
       ·split at hs
        ·assumption
        ·cases hs
       ·cases hs
     rcases hf1.2.2 x hx r List.mem_cons_self hxg hgo with h|h
     ·exact hA _ (agZ.1 h)
     ·exfalso;have hmt:meetN x.wr r.ft=true:=by
       have:∀{l:List Nat},id∈l->meetN l r.ft=true:=fun{l}=>by
        induction l with
        |nil=>intro h;cases h
        |cons y l ih=>
         intro h;simp only[meetN,Bool.or_eq_true];rcases List.mem_cons.1 h with rfl|h
         ·exact .inl (agZ.2 hid)
         ·exact .inr (ih h)
       exact this (agZ.1 hxw.2)
      simp[clash,hxw.1,hmt] at h
    have foot2:∀id∈r.ft,∀x∈l2,(x.hpE id).isSome=true->listed.getD x.i false=false:=fun id hid x hx hs=>by
     have hxt:=t2 x (by rw[hsplit];exact List.mem_append_right _ (List.mem_cons_of_mem _ hx));have hxg:x.go=true:=by
      cases hxg:x.go
      ·have:=(hxt.no hxg).2;simp[Rc.hpE,this] at hs
      ·rfl
     have hxw:isR P x.o=false/\memN id x.wr=true:=by
      rcases hxt.yes hxg with⟨_,_,y⟩|⟨y,_⟩
      ·simp[Rc.hpE,y] at hs
      ·refine⟨y,?_⟩;unfold Rc.hpE at hs;split at hs
       ·split at hs
        ·assumption
        ·cases hs
       ·cases hs
     rcases(List.pairwise_cons.1 hf1.2.1).1 x hx hgo hxg with h|h
     ·exact hB _ (agZ.1 h)
     ·exfalso;have hmt:meetN x.wr r.ft=true:=by
       have:∀{l:List Nat},id∈l->meetN l r.ft=true:=fun{l}=>by
        induction l with
        |nil=>intro h;cases h
        |cons y l ih=>
         intro h;simp only[meetN,Bool.or_eq_true];rcases List.mem_cons.1 h with rfl|h
         ·exact .inl (agZ.2 hid)
         ·exact .inr (ih h)
       exact this (agZ.1 hxw.2)
      simp[clash,hxw.1,hmt] at h
    have hfoot:∀id∈r.ft,hpAt H id=hpAt r.st.hp id:=fun id hid=>by
     rw[<-hhp id,hsplit,g7Z (f:=Rc.hpE id) (S:=fun i=>listed.getD i false) hSi (foot1 id hid) (foot2 id hid)];exact u2 id
    let F:Nat->Bool:=fun id=>memN id r.ft
    have hfoc:HRep (z.foc H F) (hsub r.st.hp r.ft):=nqZ hH (fun id=>by
     rw[(biZ _ _ id).1];show _=if memN id r.ft=true then _ else _;split
     ·rename_i hm;exact(congrArg Prod.snd (hfoot id (agZ.1 hm))).symm
     ·rfl) (fun id=>by
     rw[(biZ _ _ id).2];show _=(memN id r.ft&&_);cases hm:memN id r.ft
     ·rfl
     ·rw[show hkey r.st.hp id=hkey H id from(congrArg Prod.fst (hfoot id (agZ.1 hm))).symm])
    classical
    let r':Operand->AV:=fun x=>if x∈r.o.op.operands then r.st.opnd x else .junk
    have hr':∀x∈r.o.op.operands,r.st.opnd x=r' x:=fun x hx=>(if_pos hx).symm;have hrep:∀x,ARep (z.foc H F) (r' x) (a.eval x):=fun x=>by
     by_cases hx:x∈r.o.op.operands
     ·rw[<-hr' x hx];exact(hopn x hx).less rfl rfl fun g h=>h
     ·show ARep _ (if x∈r.o.op.operands then r.st.opnd x else .junk) _;rw[if_neg hx];exact .junk _
    rcases hok.yes hgo with⟨_,y1,y2⟩|⟨_,y1,y2,Hr,y3,y4,y5'⟩
    ·rw[kfZ hr'] at y1;refine mdZ (z:=z.foc H F) y1 hfoc hrep fun x v q1 q2=> ?_;simp only[Option.some.injEq] at q2;subst q2;exact hnext _ _ (put z H v (Nx.refl z) hH (q1.less rfl rfl fun g h=>h) (same y2))
    ·have y5:=y5'.1;rw[kcZ hr'] at y4;have hidF:∀id,rt id∈r.an.ids->¬(z.foc H F).D id:=fun id hid hd=>by
      rcases hd with hd|⟨_,hd⟩
      ·exact hD id hd
      ·have:F (rt id)=true:=agZ.2 (by
        unfold Rc.ft foot;rw[cGZ];exact List.mem_append_left _ (List.mem_append_right _ hid))
       rw[this] at hd;cases hd
     refine lSZ (z:=z.foc H F) hT y4 hfoc hidF (fun hm hdd=>by
      have hmem:r.an.ids.headD 0∈r.an.ids:=by
       cases hids:r.an.ids with
       |nil=>exact absurd hids (y1 hm)
       |cons x l=>simp
      rcases hdd with hdd|⟨hkx,hdd⟩
      ·exact hD _ hdd
      ·have hst:=bdZ y5'.2 (show r.an.ids.headD 0∈r.ft from by
        unfold Rc.ft foot;rw[cGZ];exact List.mem_append_left _ (List.mem_append_right _ hmem))
       exact hidF _ (by rw[aHZ hst];exact hmem) (.inr ⟨hkx,hdd⟩)) (fun m hm=>by
      rcases ibZ.1 y2 m hm with h4|h4
      ·exact .inl h4
      ·refine .inr fun hdd=> ?_;rcases hdd with hdd|⟨_,hdd⟩
       ·exact hD _ hdd
       ·have hst:=bdZ y5'.2 h4;rw[aHZ hst] at hdd;have:F (m+100000)=true:=agZ.2 h4;rw[this] at hdd;cases hdd) hrep fun x v H' z' q1 q2 q3 q4=> ?_
     simp only[Option.some.injEq,Prod.mk.injEq] at q4;obtain⟨rfl,rfl⟩:=q4;have hkF:∀id,hkey H' id=true->F id=true:=fun id hkk=>agZ.2 (bqZ.1 y5 id (cSZ.1 hkk));obtain⟨z3,m1,m2,m3,m4,m5⟩:=ivZ (H3:=setAll (killAll H r.ft) H') hH q2 q1 hkF (fun id=>by
      rw[a9Z,aGZ]) (fun id hh=>by
      rw[a1Z,a8Z];rcases hh with hh|hh<;>simp[hh]) (fun id hh=>by
      rw[a1Z,a8Z] at hh;simp only[Bool.or_eq_true] at hh;rcases hh with hh|hh|hh
      ·exact .inl hh
      ·exact .inr (.inr ⟨bdZ y5'.2 (agZ.1 hh),fun x _=>hD x⟩)
      ·exact .inr (.inl hh))
     rw[<-m1];have m6:=HRep.refz (F:=fzIds r.st.hp r.ft) (m5.kp hH.sub) hH m4 (H1:=r.st.hp) fun i hi=>by
      have hi2:=agZ.2 hi;rw[(cnZ r.st.hp i _).1,Bool.and_eq_true] at hi2;obtain⟨q5,b,q6⟩:=hgZ hi2.2;exact⟨b,q5,q6,by rw[<-q6];exact congrArg Prod.snd (hfoot i (agZ.1 hi2.1))⟩
     refine hnext _ _ (put z3 _ v m5 m6 (q3.less m1 m3 fun g h=>by rw[<-m2];exact h) fun id=> ?_);by_cases hm:memN id r.wr=true
     ·have hm':=hm;rw[show r.wr=wrIds r.st.hp r.ft from rfl,(cnZ r.st.hp id _).2,Bool.and_eq_true,Bool.not_eq_true'] at hm';rw[hsplit,(eaZ (f:=Rc.hpE id) (S:=fun i=>listed.getD i false) (S':=fun j=>(listed.setIfInBounds i true).getD j false) hSi hS' hS1 hS2).1 (true,if hkey H' id=true then hget H' id else none) (by simp[Rc.hpE,y3,hm]) (foot2 id (agZ.1 hm'.1))];unfold hpAt;rw[a1Z,a9Z,a1Z,a9Z,a8Z,aGZ,(biZ _ _ id).1,(biZ _ _ id).2,(cnZ r.st.hp id _).1];simp[hm'.1,hm'.2]
     ·rw[hsplit,(eaZ (f:=Rc.hpE id) (S:=fun i=>listed.getD i false) (S':=fun j=>(listed.setIfInBounds i true).getD j false) hSi hS' hS1 hS2).2 (by simp[Rc.hpE,y3,hm]),<-hsplit];rw[hhp id];have hm':=Bool.eq_false_iff.2 hm;rw[show r.wr=wrIds r.st.hp r.ft from rfl,(cnZ r.st.hp id _).2] at hm';unfold hpAt;rw[a1Z,a9Z,a1Z,a9Z,a8Z,aGZ,(biZ _ _ id).1,(biZ _ _ id).2,(cnZ r.st.hp id _).1];cases hft:memN id r.ft
      ·have hk0:hkey H' id=false:=by
        cases hk0:hkey H' id
        ·rfl
        ·have:=hkF id hk0;rw[show F id=memN id r.ft from rfl,hft] at this;cases this
       simp[hk0]
      ·rw[hft] at hm';have hz:isFz r.st.hp id=true:=by simpa using hm'
       obtain⟨_,b,hb⟩:=hgZ hz;have hh:=hfoot id (agZ.1 hft);simp only[hpAt,Prod.mk.injEq] at hh;simp[hz,ahZ hb,hh.1,hh.2,hb]
  intro fuel;induction fuel with
  |zero=>
   intro listed a w hf hj;have hr:Region.ready .any ops listed=[]:=by
    cases hr:Region.ready .any ops listed with
    |nil=>rfl
    |cons i l=>
     have hi:i∈Region.ready .any ops listed:=by rw[hr];exact List.mem_cons_self
     obtain⟨h1,o,h2,_⟩:=mem_ready.1 hi;have:i∈(List.range ops.size).filter fun j=> !listed.getD j true:=by
      rw[List.mem_filter];exact⟨List.mem_range.2 (Array.getElem?_eq_some_iff.1 h2).1,by rw[h1];rfl⟩
     have:=List.length_pos_of_mem this;omega
   exact⟨hr,fin listed a w hr hj⟩
  |succ fuel ih=>
   intro listed a w hf hj;refine⟨fun hr=>fin listed a w hr hj,fun i hi=> ?_⟩;refine step listed a w i _ hi hj fun a' w' hj'=>ih _ a' w' ?_ hj';obtain⟨_,_,_,_,_,_,_,_,_,_,_,hsz,_⟩:=hj;have:=eAZ hsz (mem_ready.1 hi).1;omega
 obtain⟨z,rfl,hn,hD,hH,hs,hLs,hdf,hnt,_⟩:=hi;have hempty:(recs.filter fun r=>(Array.replicate ops.size false).getD r.i false)=[]:=by
  rw[List.filter_eq_nil_iff];intro r _;simp[Array.getElem?_replicate];split<;>rfl
 refine main ops.size _ a z.w ?_ ⟨z,st.hp,rfl,hn,hD,hH,fun id=>by rw[hempty];rfl,fun t=>by rw[hempty];exact hs t,hLs,hdf,hnt,by simp,fun j hj=> ?_⟩
 ·have:((List.range ops.size).filter fun j=> !(Array.replicate ops.size false).getD j true)=List.range ops.size:=by
   rw[List.filter_eq_self];intro j hj;simp[List.mem_range.1 hj]
  rw[this];simp
 ·exfalso;simp[Array.getElem?_replicate] at hj;split at hj<;>simp at hj
end
end Go.Ab
namespace Go.Ab
theorem eLZ(H:Hp):∀(n id:Nat),hget (fillN H n) id=hget H id/\hkey (fillN H n) id=(hkey H id||(decide (id<n)&&decide (id<famBase)))
 |0,id=>by simp[fillN]
 |n+1,id=>by
  obtain⟨q1,q2⟩:=eLZ H n id;have key:hkey H n=true\/famBase<=n->(hkey H id||(decide (id<n)&&decide (id<famBase)))=(hkey H id||(decide (id<n+1)&&decide (id<famBase))):=fun h=>by
   by_cases hi:id=n
   ·subst hi;rcases h with h|h
    ·simp[h]
    ·simp[show¬id<famBase by omega]
   ·have:(id<n+1)↔id<n:=by omega
    simp[this]
  simp only[fillN];cases hk:hkey H n
  ·cases hb:Nat.ble famBase n
   ·have hlt:n<famBase:=Nat.not_le.1 fun h=>by rw[Nat.ble_eq_true_of_le h] at hb;cases hb
    simp only[Bool.or_self,cond_false,hget,hkey];by_cases h:n=id
    ·subst h;simp only[(abZ n n).2 rfl,cond_true,hk];refine⟨(aoZ hk).symm,?_⟩;simp[hlt]
    ·simp only[aiZ h,cond_false,q1,q2];refine⟨trivial,?_⟩;have:(id<n+1)↔id<n:=by omega
     simp[this]
   ·simp only[Bool.or_true,cond_true,q1,q2];exact⟨trivial,key (.inr (Nat.le_of_ble_eq_true hb))⟩
  ·simp only[Bool.true_or,cond_true,q1,q2];exact⟨trivial,key (.inl hk)⟩
theorem cbZ{id:Nat}:∀{l:List Nat},id∈famK l↔id∈l/\famBase<=id
 |[]=>by simp[famK]
 |i::l=>by
  simp only[famK];by_cases h:famBase<=i
  ·rw[Nat.ble_eq_true_of_le h,cond_true,List.mem_cons,List.mem_cons,cbZ];exact⟨fun h'=>h'.elim (fun e=>⟨.inl e,by omega⟩) fun h'=>⟨.inr h'.1,h'.2⟩,fun⟨h1,h2⟩=>h1.elim .inl fun h1=>.inr ⟨h1,h2⟩⟩
  ·rw[dsZ h,cond_false,List.mem_cons,cbZ];exact⟨fun h'=>⟨.inr h'.1,h'.2⟩,fun⟨h1,h2⟩=>⟨h1.resolve_left fun e=>by omega,h2⟩⟩
theorem ewZ{id:Nat}:∀{l:List Nat},id∈statK l↔id∈l/\id<famBase
 |[]=>by simp[statK]
 |i::l=>by
  simp only[statK];by_cases h:famBase<=i
  ·rw[Nat.ble_eq_true_of_le h,cond_true,List.mem_cons,ewZ];exact⟨fun h'=>⟨.inr h'.1,h'.2⟩,fun⟨h1,h2⟩=>⟨h1.resolve_left fun e=>by omega,h2⟩⟩
  ·rw[dsZ h,cond_false,List.mem_cons,List.mem_cons,ewZ];exact⟨fun h'=>h'.elim (fun e=>⟨.inl e,by omega⟩) fun h'=>⟨.inr h'.1,h'.2⟩,fun⟨h1,h2⟩=>h1.elim .inl fun h1=>.inr ⟨h1,h2⟩⟩
theorem eiZ{i k:Nat}:∀{l:List Nat},(i,k)∈diagN l↔i=k/\k∈l
 |[]=>by simp[diagN]
 |x::l=>by
  simp only[diagN,List.mem_cons,Prod.mk.injEq,eiZ];constructor
  ·rintro(⟨rfl,rfl⟩|⟨rfl,h⟩)
   ·exact⟨rfl,.inl rfl⟩
   ·exact⟨rfl,.inr h⟩
  ·rintro⟨rfl,rfl|h⟩
   ·exact .inl ⟨rfl,rfl⟩
   ·exact .inr ⟨rfl,h⟩
theorem n7Z{sh:LShp}{H:Hp}{vs:List AV}{i k:Nat}(h:(i,k)∈sh.ps H vs):k∈hkKeys sh.s.hs:=by
 unfold LShp.ps at h;rcases List.mem_append.1 h with h|h
 ·obtain⟨n,_,q⟩:=fbZ h;exact(ewZ.1 (List.mem_of_getElem? q)).1
 ·exact(cbZ.1 (eiZ.1 h).2).1
theorem jNZ{n:Nat}:∀{ps:List (Nat×Nat)},fixN n ps=true->∀i k,(i,k)∈ps->i=k\/(n<=i/\n<=k)
 |[],_,i,k,h=>by cases h
 |(a,b)::ps,h,i,k,hm=>by
  simp only[fixN,Bool.and_eq_true,Bool.or_eq_true,abZ,Nat.ble_eq] at h;rcases List.mem_cons.1 hm with hm|hm
  ·injection hm with h1 h2;subst h1;subst h2;exact h.1
  ·exact jNZ h.2 i k hm
theorem kkZ{z:Z}{f:Nat->Value}:∀{ks:List Nat} {vs:List AV} {t:Tr},(∀k,ARep z (t.get k) (f k))->AReps z vs (ks.map f)->∀k,ARep z ((unTm ks vs t).get k) (f k)
 |[],vs,t,h,_,k=>by cases vs<;>exact h k
 |k0::ks,[],t,h,_,k=>h k
 |k0::ks,a::vs,t,h,hv,k=>by
  simp only[unTm];refine kkZ (fun j=> ?_) hv.tail k;by_cases hj:j=k0
  ·subst hj;rcases(Tr.get_put t j a j).2 with e|e<;>rw[e]
   ·exact hv.head
   ·exact .junk _
  ·rw[(Tr.get_put t k0 a j).1 hj];exact h j
theorem d2Z:∀(t:Tr) (k:Nat),t.keep.get k= .junk\/(t.keep.get k=t.get k/\(t.get k).noRef=true)
 |.lf,k=>.inl rfl
 |.nd l v r,k=>by
  simp only[Tr.keep,Tr.get];by_cases h0:k=0
  ·subst h0;simp only[(abZ 0 0).2 rfl,cond_true];cases hv:v.noRef
   ·exact .inl rfl
   ·exact .inr ⟨rfl,rfl⟩
  ·simp only[aiZ h0,cond_false];by_cases h1:k%2=1
   ·simp only[(abZ _ _).2 h1,cond_true];exact d2Z l _
   ·simp only[aiZ h1,cond_false];exact d2Z r _
theorem cEZ:∀(l:List Nat) (t:Tr) (k:Nat),(k∈l->(t.junk l).get k= .junk)/\(k∉l->(t.junk l).get k=t.get k)
 |[],t,k=>⟨fun h=>(by cases h),fun _=>rfl⟩
 |i::l,t,k=>by
  obtain⟨h1,h2⟩:=cEZ l (t.put i .junk) k;simp only[Tr.junk];refine⟨fun h=> ?_,fun h=> ?_⟩
  ·by_cases hk:k∈l
   ·exact h1 hk
   ·rw[h2 hk];have:k=i:=(List.mem_cons.1 h).resolve_right hk;subst this;rcases(Tr.get_put t k .junk k).2 with e|e<;>exact e
  ·rw[List.mem_cons,not_or] at h;rw[h2 h.2,(Tr.get_put t i .junk k).1 h.1]
theorem d1Z:∀(t:Tr),∃n,∀k,n<=k->t.get k= .junk
 |.lf=>⟨0,fun _ _=>rfl⟩
 |.nd l v r=>by
  obtain⟨nl,hl⟩:=d1Z l;obtain⟨nr,hr⟩:=d1Z r;refine⟨2*(nl+nr)+3,fun k hk=> ?_⟩;have h0:k≠0:=by omega
  simp only[Tr.get,aiZ h0,cond_false];by_cases h1:k%2=1
  ·simp only[(abZ _ _).2 h1,cond_true];exact hl _ (by omega)
  ·simp only[aiZ h1,cond_false];exact hr _ (by omega)
theorem fRZ{a:AV}(h:a.noRef=true):AV.ids a=[]:=by
 cases a<;>first|rfl|(simp only[AV.noRef,List.isEmpty_iff] at h;exact h)
theorem mQZ{p:Nat->Prop}(h:∃n,p n):∃n,p n/\∀m,p m->n<=m:=by
 obtain⟨n,hn⟩:=h;induction n using Nat.strongRecOn with
 |_ n ih=>
  by_cases hm:∃m,m<n/\p m
  ·obtain⟨m,h1,h2⟩:=hm;exact ih m h1 h2
  ·exact⟨n,hn,fun m h=>Nat.le_of_not_lt fun hlt=>hm ⟨m,hlt,h⟩⟩
section
variable {P : Program} {T : Tbl} {β : Type} {z0 : Z} {N : Nat} {L : List (Nat × AV)}
theorem Inv.sub{L':List (Nat×AV)}{st:St}{a:Act}{w:World}(hi:Inv z0 N L' st a w)(h:∀p∈L,p∈L'):Inv z0 N L st a w:=by
 obtain⟨z,rfl,hn,hD,hH,hs,hLs,hdf,hnt,h0⟩:=hi;exact⟨z,rfl,hn,hD,hH,hs,fun p hp=>hLs p (h p hp),hdf,hnt,h0⟩
theorem iuZ:∀{ps:List (Nat×Nat)} {i i' k:Nat},(sndN ps).Nodup->(i,k)∈ps->(i',k)∈ps->i=i'
 |(a,b)::ps,i,i',k,hn,h,h'=>by
  simp only[sndN,List.nodup_cons] at hn;have hm:∀{ps:List (Nat×Nat)} {x:Nat},(x,k)∈ps->k∈sndN ps:=fun{ps}=>by
   induction ps with
   |nil=>intro x h;cases h
   |cons p ps ih=>
    intro x h;rcases List.mem_cons.1 h with rfl|h
    ·exact List.mem_cons_self
    ·exact List.mem_cons_of_mem _ (ih h)
  rcases List.mem_cons.1 h with e|q<;>rcases List.mem_cons.1 h' with e'|q'
  ·injection e with e1 e2;injection e' with e3 e4;rw[e1,e3]
  ·injection e with e1 e2;exact absurd (e2▸hm q') hn.1
  ·injection e' with e1 e2;exact absurd (e2▸hm q) hn.1
  ·exact iuZ hn.2 q q'
theorem fhZ{st:St}{sh:LShp}{K:sh.D->Option β}{r:β}{a:Act}{base:Tr}{nt n0:Nat}{z:Z}(h:st.prj sh K=some r)(hn:Nx z0 z)(hD:∀id,¬z.D id)(hH:HRep z st.hp)(hs:∀t,ARep z (st.tm.get t) (a.eval (.tmp t)))(hLs:∀p∈L,ARep z p.2 (a.eval (.tmp p.1)))
 (h0':∀id,id<dynBase->z0.ρ id≠.no->id<st.n0)(hLn:∀p∈L,AV.ids p.2=[])
 (hb:∀k,base.get k= .junk\/(k,base.get k)∈L)(h0:∀id,id<dynBase->z0.ρ id≠.no->id<n0):∃t z2,K t=some r/\z2.w=z.w/\Nx z0 z2/\(∀id,¬z2.D id)/\HRep z2 (sh.inj base nt n0 t).hp/\(∀k,ARep z2 ((sh.inj base nt n0 t).tm.get k) (a.eval (.tmp k)))/\(∀p∈L,ARep z2 p.2 (a.eval (.tmp p.1)))/\
  z2.M=z.M/\(∀g,z2.C g->z.C g)/\∀i k,pairIs (sh.ps st.hp (sh.live.map st.tm.get)) i k=true->z2.ρ k=z.ρ i:=by
 unfold St.prj at h;obtain⟨h1,h2⟩:=adZ.1 h;simp only[Bool.and_eq_true] at h1;have hfix:=jNZ h1.1;have hb0:=c3Z;have hall:=bqZ.1 h1.2;have hdyn:∀id,dynBase<=id->memN (rt id) (hkKeys sh.s.hs)=false->z.ρ id= .no:=fun id hd hm=>by
  have hk:hkey st.hp (rt id)=false:=by
   cases hk:hkey st.hp (rt id)
   ·rfl
   ·have:=(cbZ.1 (hall _ (cbZ.2 ⟨cSZ.1 hk,(btZ hd).1⟩))).1;rw[agZ.2 this] at hm;cases hm
  refine(hH.fresh id ?_).resolve_right (hD id);rw[atZ hd,aoZ hk];exact hk
 obtain⟨t,z',k1,k2,k3,k4,k5,k6,k7,k8,k9,k10,k11,k12,k13,k14⟩:=Shp.rco_ok (vals:=sh.live.map fun k=>a.eval (.tmp k)) (fun k=>if k<n0 then z.ρ k else .no) (fun k h1 h2=>by rw[hH.nos k h1 h2,ite_self]) h2 hH ⟨by simp,fun i x v e1 e2=>by
  rw[List.getElem?_map] at e1 e2;obtain⟨k,e3,rfl⟩:=Option.map_eq_some_iff.1 e1;rw[e3] at e2;simp at e2;subst e2;exact hs k⟩
 have hρ:∀id,z0.ρ id≠.no->z'.ρ id=z0.ρ id:=fun id hid=>by
  cases hk:memN id (hkKeys sh.s.hs)
  ·rw[k7 id hk];by_cases hdy:dynBase<=id
   ·rw[if_pos hdy];exact hn.ext id hid
   ·rw[if_neg hdy,if_pos (h0 id (by omega) hid)];exact hn.ext id hid
  ·obtain⟨id',q1,q2⟩:=k6 id hk;rcases hfix id' id q1 with rfl|⟨_,q4⟩
   ·rw[q2];exact hn.ext id' hid
   ·have:=h0' id (k13 id hk) hid;omega
 let z2:Z:={z' with D:=fun _=>False}
 have hn2:Nx z0 z2:=⟨by show z'.w.os=_;rw[k2];exact hn.os,⟨by show z'.w.tape=_;rw[k2];exact hn.tape.1,by show _<=z'.w.drawn;rw[k2];exact hn.tape.2⟩,by show z'.w.output=_;rw[k2];exact hn.output,by show _<=z'.w.heap.size;rw[k2];exact hn.size,
  fun b hb hc=>by show z'.w.heap[b]? =_;rw[k2];exact hn.block b hb hc,fun g hg=>hn.subM g (by rw[<-k3];exact hg),fun g hg=>hn.subC g (k8 g hg),fun g hg hm hc=>by show z'.M g;rw[k3];exact hn.keepM g hg hm hc,hρ,by
   funext id;have h1:¬z.D id:=hD id;rw[hn.dom] at h1;exact propext ⟨fun h=>h.elim,fun h=>h1 h⟩⟩
 have hL2:∀p∈L,ARep z2 p.2 (a.eval (.tmp p.1)):=fun p hp=>(hLs p hp).rho (z':=z2) k2 k3 (.inl k12) fun id hid=>by rw[hLn p hp] at hid;cases hid
 refine⟨t,z2,k1,k2,hn2,fun _ h=>h,?_⟩;rw[LShp.inj_eq];refine⟨?_,?_,hL2,k3,k8,fun i k hp=> ?_⟩
 ·have eq:=eLZ (sh.s.emb t).2 n0;have eqX:∀id,hgetX (fillN (sh.s.emb t).2 n0) id=hgetX (sh.s.emb t).2 id:=fun id=>b6Z (eq _).1;refine⟨fun id e' he=> ?_,fun i i' e e' g sz n g' sz' n' hii p1 p2 m1 m2 p3 p4=> ?_,fun id hid=> ?_,k4.sub,fun i x h=>k4.fam i x (by rw[<-(eq i).1];exact h),fun i h=> ?_,fun i _ _ h=>h,k4.nos⟩
  ·rw[eqX id] at he;exact(k4.ent id e' he).rho rfl rfl (.inl (.eq rfl)) rfl (fun _ _=>rfl) fun _ _ _ _ _ h=>h
  ·rw[eqX i] at p1;rw[eqX i'] at p2;exact k4.inj i i' _ _ g sz n g' sz' n' hii p1 p2 m1 m2 p3 p4
  ·left;show z'.ρ id= .no;by_cases hdy:dynBase<=id
   ·have hr:=(btZ hdy).1;have hkk:hkey (fillN (sh.s.emb t).2 n0) (rt id)=hkey (sh.s.emb t).2 (rt id):=by
     rw[(eq (rt id)).2];simp[show¬rt id<famBase by omega]
    rw[cqZ (H:=(sh.s.emb t).2) (eq _).1 hkk] at hid;cases hm:memN (rt id) (hkKeys sh.s.hs)
    ·have hmi:memN id (hkKeys sh.s.hs)=false:=by
      cases hc:memN id (hkKeys sh.s.hs)
      ·rfl
      ·have:=k13 id hc;omega
     rw[k7 id hmi,if_pos hdy];exact hdyn id hdy hm
    ·refine(k4.fresh id hid).resolve_right fun hD'=> ?_;rw[k10,hm] at hD';cases hD'.1
   ·by_cases hf:famBase<=id
    ·exact k4.nos id hf (by omega)
    ·rw[azZ (by omega),(eq id).2] at hid;simp only[Bool.or_eq_false_iff,Bool.and_eq_false_iff,decide_eq_false_iff_not] at hid;rw[k11] at hid;rw[k7 id hid.1,if_neg hdy,if_neg (by omega)]
  ·rw[(eq i).2] at h;simp only[Bool.or_eq_true,Bool.and_eq_true,decide_eq_true_eq] at h;rcases h with h|h
   ·exact k4.key i h
   ·omega
 ·refine kkZ (z:=z2) (f:=fun k=>a.eval (.tmp k)) (fun k=> ?_) (k5.less rfl rfl fun g h=>h);rcases hb k with e|e
  ·rw[e];exact .junk _
  ·exact hL2 _ e
 ·unfold pairIs at hp;split at hp
  ·rename_i j hj;rw[abZ] at hp;subst hp;have hm:=csZ hj;have hk:memN j (hkKeys sh.s.hs)=true:=agZ.2 (n7Z hm);obtain⟨id',q1,q2⟩:=k6 j hk;have hnd:(sndN (sh.ps st.hp (sh.live.map st.tm.get))).Nodup:=by
    unfold Shp.rco at h2;have:=(adZ.1 h2).1;simp only[Bool.and_eq_true] at this;exact bJZ.1 this.1.2.1
   rw[show z2.ρ j=z'.ρ j from rfl,q2,iuZ hnd q1 hm]
  ·cases hp
theorem gvZ{st:St}{sh:LShp}{K:sh.D->Option β}{r:β}{a:Act}{w:World}{base:Tr}{nt n0:Nat}(h:st.prj sh K=some r)(hi:Inv z0 N L st a w)(hLn:∀p∈L,AV.ids p.2=[])
 (hb:∀k,base.get k= .junk\/(k,base.get k)∈L)(hnt:nt<=N)(h0:∀id,id<dynBase->z0.ρ id≠.no->id<n0):∃t,K t=some r/\Inv z0 N L (sh.inj base nt n0 t) a w:=by
 obtain⟨z,rfl,hn,hD,hH,hs,hLs,hdf,hnt',h0'⟩:=hi;obtain⟨t,z2,k1,k2,k3,k4,k5,k6,k7,_⟩:=fhZ (base:=base) (nt:=nt) (n0:=n0) h hn hD hH hs hLs h0' hLn hb h0;refine⟨t,k1,z2,k2,k3,k4,k5,k6,k7,hdf,?_,?_⟩
 ·rw[LShp.inj_eq];exact⟨hnt,hnt'.2⟩
 ·rw[LShp.inj_eq];exact h0
theorem Out.on_inl{γ:Type}{base:Tr}{nt n0:Nat}:∀{rt:Bool} {l:List (Nat×LShp)} {i:Nat} {st:St} {K:Out rt l β->Option γ} {r:γ} {a:Act} {w:World},Out.mk st rt l i K=some r->Inv z0 N L st a w->(∀p∈L,AV.ids p.2=[])->
 (∀k,base.get k= .junk\/(k,base.get k)∈L)->nt<=N->(∀id,id<dynBase->z0.ρ id≠.no->id<n0)->∃o,K o=some r/\∀(X:Nat->St->Option β) (R:β->Option β),∃st1,Inv z0 N L st1 a w/\Out.on base nt n0 rt l o X R=X i st1
 |rt,[],i,st,K,r,a,w,h,_,_,_,_,_=>by cases rt<;>cases h
 |true,[(j,s)],i,st,K,r,a,w,h,hi,hLn,hb,hnt,h0=>by
  simp only[Out.mk] at h;cases hj:Nat.beq j i<;>rw[hj] at h<;>simp only[bq_true,bq_false] at h
  ·cases h
  rw[abZ] at hj;subst hj;obtain⟨t,h1,h2⟩:=gvZ h hi hLn hb hnt h0;exact⟨.inl t,h1,fun X R=>⟨_,h2,rfl⟩⟩
 |false,[(j,s)],i,st,K,r,a,w,h,hi,hLn,hb,hnt,h0=>by
  simp only[Out.mk] at h;cases hj:Nat.beq j i<;>rw[hj] at h<;>simp only[bq_true,bq_false] at h
  ·cases h
  rw[abZ] at hj;subst hj;obtain⟨t,h1,h2⟩:=gvZ h hi hLn hb hnt h0;exact⟨t,h1,fun X R=>⟨_,h2,rfl⟩⟩
 |rt,(j,s)::o::l,i,st,K,r,a,w,h,hi,hLn,hb,hnt,h0=>by
  have h':bq (Nat.beq j i) (st.prj s fun t=>K (.inl t)) (Out.mk st rt (o::l) i fun x=>K (.inr x))=some r:=by cases rt<;>exact h
  clear h;cases hj:Nat.beq j i<;>rw[hj] at h'<;>simp only[bq_true,bq_false] at h'
  ·obtain⟨x,h1,h2⟩:=Out.on_inl h' hi hLn hb hnt h0;refine⟨.inr x,h1,fun X R=> ?_⟩;obtain⟨st1,h3,h4⟩:=h2 X R;exact⟨st1,h3,by cases rt<;>exact h4⟩
  ·rw[abZ] at hj;subst hj;obtain⟨t,h1,h2⟩:=gvZ h' hi hLn hb hnt h0;exact⟨.inl t,h1,fun X R=>⟨_,h2,by cases rt<;>rfl⟩⟩
theorem Out.on_ret{base:Tr}{nt n0:Nat}{b:β}{X:Nat->St->Option β}{R:β->Option β}:∀{l:List (Nat×LShp)},Out.on base nt n0 true l (Out.ret l b) X R=R b
 |[]=>rfl
 |[(_,_)]=>rfl
 |(_,_)::o::l=>Out.on_ret (l:=o::l)
theorem Tr.ren_get(f:Nat->Option Nat):∀(t:Tr) (k:Nat),(t.ren f).get k=AV.ren f (t.get k)
 |.lf,k=>rfl
 |.nd l v r,k=>by
  simp only[Tr.ren,Tr.get];cases Nat.beq k 0
  ·cases Nat.beq (k%2) 1
   ·exact Tr.ren_get f r _
   ·exact Tr.ren_get f l _
  ·rfl
theorem bPZ(f:Nat->Option Nat):∀(H:Hp) (id:Nat),hget (mapHp f H) id=(hget H id).map (Ent.ren f)/\hkey (mapHp f H) id=hkey H id
 |[],id=>⟨rfl,rfl⟩
 |(i,none)::H,id=>by
  obtain⟨h1,h2⟩:=bPZ f H id;simp only[mapHp,hget,hkey];cases Nat.beq i id
  ·exact⟨h1,h2⟩
  ·exact⟨rfl,rfl⟩
 |(i,some e)::H,id=>by
  obtain⟨h1,h2⟩:=bPZ f H id;simp only[mapHp,hget,hkey];cases Nat.beq i id
  ·exact⟨h1,h2⟩
  ·exact⟨rfl,rfl⟩
theorem mXZ{old new id k:Nat}(h:renF old new id=some k):(id=old/\k=new)\/(id≠old/\k=id):=by
 unfold renF at h;by_cases hi:id=old
 ·rw[(abZ id old).2 hi,bq_true] at h;exact .inl ⟨hi,(Option.some.inj h).symm⟩
 ·rw[aiZ hi,bq_false] at h;exact .inr ⟨hi,(Option.some.inj h).symm⟩
theorem ltZ{z:Z}{H:Hp}{old new:Nat}{e:Ent}(hH:HRep z H)(hg:hget H old=some e)(hk:hkey H new=false)(hnl:new<famBase)(hol:old<famBase)(hd:¬z.D new):
 ∃z',z'.w=z.w/\HRep z' (hset (hset (mapHp (renF old new) H) old none) new (some (e.ren (renF old new))))/\Nx z z'/\∀a v,ARep z a v->ARep z' (AV.ren (renF old new) a) v:=by
 have hno:=(hH.fresh new (by rw[azZ hnl];exact hk)).resolve_right hd;have hne:new≠old:=fun h=>by rw[h,ahZ hg] at hk;cases hk
 let z':Z:={z with ρ:=fun i=>if i=new then z.ρ old else z.ρ i}
 have e1:∀i,i≠new->z'.ρ i=z.ρ i:=fun i hi=>if_neg hi;have e2:z'.ρ new=z.ρ old:=if_pos rfl;have hn:Nx z z':=⟨rfl,⟨rfl,Nat.le_refl _⟩,rfl,Nat.le_refl _,fun _ _ _=>rfl,fun _ h=>.inl h,fun _ h=>.inl h,fun _ _ h _=>h,fun i hi=>e1 i (by rintro rfl;exact hi hno),rfl⟩;have hf:∀{id k:Nat},z.ρ id≠.no->renF old new id=some k->z'.ρ k=z.ρ id:=fun{id k} hl h=>by
  rcases mXZ h with⟨rfl,rfl⟩|⟨h1,rfl⟩
  ·exact e2
  ·exact e1 _ (by rintro rfl;exact hl hno)
 have hid:∀i ee,hget H i=some ee->i≠new:=fun i ee h hi=>by rw[<-hi,ahZ h] at hk;cases hk
 have hent:∀i ee,ERep z i ee->∀k,z'.ρ k=z.ρ i->ERep z' k (ee.ren (renF old new)):=fun i ee h k hki=>by
  unfold ERep at h⊢;rw[hki];cases hr:z.ρ i with
  |no=>rw[hr] at h;exact h
  |virt=>
   rw[hr] at h;obtain⟨fz,b⟩:=ee;cases b<;>first|exact h.elim|exact h
  |real g sz n=>
   rw[hr] at h;obtain⟨a1,a2,a3,a4⟩:=h;refine⟨a1,a2,a3,a4.ren' (.of hn.ext) ?_⟩;exact hf
 have hmX:∀i,hgetX (mapHp (renF old new) H) i=(hgetX H i).map (Ent.ren (renF old new))/\hkeyX (mapHp (renF old new) H) i=hkeyX H i:=fun i=>by
  obtain⟨q1,q2⟩:=bPZ (renF old new) H (rt i);by_cases hd:dynBase<=i
  ·rw[ayZ hd,ayZ hd,atZ hd,atZ hd,q1,q2];cases hget H (rt i) with
   |none=>exact⟨rfl,rfl⟩
   |some e0=>
    simp only[Option.map_some,Option.bind_some];rw[(ddZ e0 _ _).2 (Nat.le_refl _),(ddZ e0 _ _).1];refine⟨?_,rfl⟩;cases hp:pick ((i-dynBase)/16) e0 with
    |none=>rfl
    |some x=>simp only[Option.map_some,(cVZ hp _).1]
  ·unfold hgetX hkeyX;rw[if_neg hd,if_neg hd,if_neg hd,if_neg hd];by_cases hf:famBase<=i
   ·rw[if_pos hf,if_pos hf,if_pos hf,if_pos hf];exact⟨rfl,rfl⟩
   ·rw[if_neg hf,if_neg hf,if_neg hf,if_neg hf];rw[aHZ (by omega)] at q1 q2;exact⟨q1,q2⟩
 have key:∀i ee,hgetX (hset (hset (mapHp (renF old new) H) old none) new (some (e.ren (renF old new)))) i=some ee->∃j e0,hgetX H j=some e0/\ee=e0.ren (renF old new)/\((i=new/\j=old)\/(i≠new/\i≠old/\j=i)):=fun i ee h=>by
  rw[axZ hnl] at h;by_cases hi:i=new
  ·rw[if_pos hi] at h;exact⟨old,e,by rw[anZ hol];exact hg,(Option.some.inj h).symm,.inl ⟨hi,rfl⟩⟩
  ·rw[if_neg hi,axZ hol] at h;by_cases ho:i=old
   ·rw[if_pos ho] at h;cases h
   ·rw[if_neg ho,(hmX i).1] at h;obtain⟨e0,h1,h2⟩:=Option.map_eq_some_iff.1 h;exact⟨i,e0,h1,h2.symm,.inr ⟨hi,ho,rfl⟩⟩
 have hb0:=c3Z;have hfR:∀(i:Nat) (x:Ent),Ab.famOk i x->Ab.famOk i (x.ren (renF old new)):=fun i x h=>by
  obtain⟨fz,b⟩:=x;cases b<;>exact h
 have hρj:∀i j,((i=new/\j=old)\/(i≠new/\i≠old/\j=i))->z'.ρ i=z.ρ j:=fun i j h=>by
  rcases h with⟨rfl,rfl⟩|⟨h1,_,rfl⟩
  ·exact e2
  ·exact e1 _ h1
 refine⟨z',rfl,⟨fun i ee h=> ?_,fun i i' ee ee' g sz n g' sz' n' hii p1 p2 m1 m2 p3 p4=> ?_,fun i h=> ?_,hH.sub,fun i x h=> ?_,fun i h=> ?_,fun i hdy h=> ?_,fun i h1 h2=>by rw[e1 i (by omega)];exact hH.nos i h1 h2⟩,hn,fun a v h=>h.ren rfl rfl (.inl (.of hn.ext)) fun id k hi hk=>hf (h.live id hi) hk⟩
 ·obtain⟨j,e0,q1,rfl,q3⟩:=key i ee h;exact hent j e0 (hH.ent _ _ q1) i (hρj i j q3)
 ·obtain⟨j,e0,q1,rfl,q3⟩:=key i ee p1;obtain⟨j',e0',q1',rfl,q3'⟩:=key i' ee' p2;rw[hρj i j q3] at p3;rw[hρj i' j' q3'] at p4;have hjj:j≠j':=by
   rcases q3 with⟨rfl,rfl⟩|⟨h1,h2,rfl⟩<;>rcases q3' with⟨rfl,rfl⟩|⟨h1',h2',rfl⟩
   ·exact absurd rfl hii
   ·exact Ne.symm h2'
   ·exact h2
   ·exact hii
  exact hH.inj j j' e0 e0' g sz n g' sz' n' hjj q1 q1' m1 m2 p3 p4
 ·rw[aTZ hnl,aTZ hol,(hmX i).2] at h;simp only[Bool.or_eq_false_iff,decide_eq_false_iff_not] at h;rw[e1 i h.1];exact hH.fresh i h.2.2
 ·rw[akZ] at h;by_cases hi:i=new
  ·rw[if_pos hi] at h;injection h with h;subst h;subst hi;exact hfR _ _ ((hH.fam old e hg).other hol i hnl e.fz)
  ·rw[if_neg hi,akZ] at h;by_cases ho:i=old
   ·rw[if_pos ho] at h;cases h
   ·rw[if_neg ho,(bPZ _ H i).1] at h;obtain⟨e0,h1,rfl⟩:=Option.map_eq_some_iff.1 h;exact hfR _ _ (hH.fam i e0 h1)
 ·rw[amZ,amZ,(bPZ _ H i).2] at h;simp only[Bool.or_eq_true,decide_eq_true_eq] at h;rcases h with rfl|rfl|h
  ·omega
  ·omega
  ·exact hH.key i h
 ·rw[amZ,amZ,(bPZ _ H _).2] at h;simp only[Bool.or_eq_true,decide_eq_true_eq] at h;have:=(btZ hdy).1;refine hH.dyn i hdy ?_;rcases h with h|h|h
  ·omega
  ·omega
  ·exact h
theorem HRep.reent{z:Z}{H:Hp}{id:Nat}{b0 b:Blk}(hH:HRep z H)(hid:id<famBase)(hg:hget H id=some ⟨false,b0⟩)(hb:ERep z id ⟨false,b0⟩->ERep z id ⟨false,b⟩)(hf:Ab.famOk id ⟨false,b⟩):HRep z (hset H id (some ⟨false,b⟩)):=by
 have hu:=Upd.stat hid hg hf;have hgX:hgetX H id=some ⟨false,b0⟩:=by rw[anZ hid];exact hg
 refine⟨fun i e hi=> ?_,fun i i' e e' a sa na a' sa' na' hii h1 h2 m1 m2 h3 h4=> ?_,fun i hi=>hH.fresh i (hu.K i hi),hH.sub,fun i x h=>(hu.fam i x h).elim (hH.fam i x) fun h=>h,fun i h=>hH.key i (hu.key i h),fun i hd h=>hH.dyn i hd (hu.key _ h),hH.nos⟩
 ·rw[hu.X] at hi;by_cases h:i=id
  ·subst h;rw[if_pos rfl] at hi;injection hi with hi;subst hi;exact hb (hH.ent _ _ hgX)
  ·rw[if_neg h] at hi;exact hH.ent _ _ hi
 ·rw[hu.X] at h1 h2;have q:∀j ee,(if j=id then some (⟨false,b⟩:Ent) else hgetX H j)=some ee->ee.fz=false->∃ee',hgetX H j=some ee'/\ee'.fz=false:=fun j ee hj hf=>by
   by_cases h:j=id
   ·subst h;exact⟨_,hgX,rfl⟩
   ·rw[if_neg h] at hj;exact⟨_,hj,hf⟩
  obtain⟨e1,q1,f1⟩:=q _ _ h1 m1;obtain⟨e2,q2,f2⟩:=q _ _ h2 m2;exact hH.inj i i' _ _ _ _ _ _ _ _ hii q1 q2 f1 f2 h3 h4
theorem iDZ{t:Ty}(h:t.unref= .byte):t= .byte:=by
 cases t<;>simp[Ty.unref] at h⊢
theorem jCZ{z:Z}{id:Nat}{e:TypeId}{t:Ty}{l:List t.unref.den}(h:ERep z id ⟨false,.rows e t.unref l⟩):ERep z id ⟨false,.rows e t (l.map (liftT t))⟩:=by
 unfold ERep at h⊢;cases hρ:z.ρ id with
 |no=>rw[hρ] at h;exact h
 |virt=>
  rw[hρ] at h;obtain⟨rfl,h2⟩:=h;rw[aqZ] at h2;exact⟨rfl,h2⟩
 |real g sz n=>
  rw[hρ] at h;obtain⟨h1,h2,h3,cs,fr,a1,a2,a3,a4,a5,a6,a7⟩:=h;rw[aqZ] at a5 a6;refine⟨h1,h2,h3,cs,fr,a1,a2.imp (fun h=>h) (fun h=>⟨iDZ h.1,h.2⟩),a3,by rw[List.length_map];exact a4,by rw[List.length_map];exact a5,a6,fun i x hx=> ?_⟩;rw[List.getElem?_map] at hx;obtain⟨y,hy,rfl⟩:=Option.map_eq_some_iff.1 hx;obtain⟨u,b1,b2⟩:=a7 i y hy;rw[aqZ] at b2;exact⟨u,cMZ b1,b2⟩
theorem HRep.newFam{z:Z}{H:Hp}{f:Nat}{e:TypeId}{s:Ty}(hH:HRep z H)(hD:∀id,¬z.D id)(hk:hkey H (famId f)=false)(hs:s.noRef=true)(hc:0<s.cells):HRep z (hset H (famId f) (some ⟨false,.fam e s []⟩)):=by
 have hX:∀i,hgetX (hset H (famId f) (some ⟨false,.fam e s []⟩)) i=hgetX H i:=fun i=>by
  by_cases hi:∃k,i=enc f k
  ·obtain⟨k,rfl⟩:=hi;rw[(bbZ H f _ 0).1 k,bNZ,aoZ hk]
   rfl
  ·exact(bbZ H f _ i).2 fun k h=>hi ⟨k,h⟩
 refine⟨fun i ee h=>hH.ent i ee (by rw[<-hX];exact h),fun i i' ee ee' g sz n g' sz' n' hii p1 p2 m1 m2 p3 p4=>hH.inj i i' ee ee' g sz n g' sz' n' hii (by rw[<-hX];exact p1) (by rw[<-hX];exact p2) m1 m2 p3 p4,fun i h=> ?_,hH.sub,fun i x h=> ?_,fun i h=> ?_,fun i _ _=>hD i,hH.nos⟩
 ·by_cases hi:∃k,i=enc f k
  ·obtain⟨k,rfl⟩:=hi;refine hH.fresh _ ?_;rw[atZ (bgZ f k),c1Z,aoZ hk];exact hk
  ·rw[(buZ H f _ i).2 fun k h=>hi ⟨k,h⟩] at h;exact hH.fresh i h
 ·rw[akZ] at h;by_cases hi:i=famId f
  ·rw[if_pos hi] at h;injection h with h;subst h;rw[hi];exact⟨(b1Z f).1,(b1Z f).2,hs,hc,rfl⟩
  ·rw[if_neg hi] at h;exact hH.fam i x h
 ·rw[amZ] at h;simp only[Bool.or_eq_true,decide_eq_true_eq] at h;rcases h with rfl|h
  ·exact(b1Z f).2
  ·exact hH.key i h
theorem ehZ{β:Type}{g:Gh}{st:St}{K:St->Option β}{r:β}(h:ghostK P g st K=some r):∃st',ghost P g st=some st'/\K st'=some r:=by
 cases g with
 |pureCell b o=>
  unfold ghostK at h;unfold ghost;dsimp only at h⊢;split at h
  ·rename_i c hg;split at h
   ·rename_i a ha;rw[epZ] at h;obtain⟨⟨x,H'⟩,h1,h2⟩:=aeZ.1 h;rw[h1];simp only at h2⊢;split at h2
    ·exact⟨_,rfl,h2⟩
    ·cases h2
   ·exact⟨_,rfl,h⟩
  ·exact⟨_,rfl,h⟩
 |_=>exact aeZ.1 h
theorem ikZ{g:Gh}{st st':St}{a:Act}{w:World}(h:ghost P g st=some st')(hi:Inv z0 N L st a w)(_hL:∀k,((∃e id,g= .ownNil k e id)\/g= .pure k)->∀p∈L,p.1≠k)(hLn:∀p∈L,AV.ids p.2=[]):Inv z0 N L st' a w:=by
 obtain⟨z,rfl,hn,hD,hH,hs,hLs,hdf,hnt,h0⟩:=hi;unfold ghost at h;split at h
 ·rename_i old new;split at h
  ·rename_i e hg;cases hk:(hkey st.hp new||Nat.ble famBase new||Nat.ble famBase old)<;>rw[hk] at h<;>simp only[bq_true,bq_false] at h
   ·simp only[Option.some.injEq] at h;subst h;simp only[Bool.or_eq_false_iff] at hk;have hlow:∀{n:Nat},Nat.ble famBase n=false->n<famBase:=fun{n} h=>Nat.not_le.1 fun h'=>by rw[Nat.ble_eq_true_of_le h'] at h;cases h
    obtain⟨z',q1,q2,q3,q4⟩:=ltZ hH hg hk.1.1 (hlow hk.1.2) (hlow hk.2) (hD new);have kp:=q3.kp hH.sub;refine⟨z',q1,hn.trans q3,fun id=>by rw[q3.dom];exact hD id,q2,fun t=> ?_,fun p hp=>(hLs p hp).kp kp,hdf,hnt,h0⟩;show ARep z' ((st.tm.ren (renF old new)).get t) _;rw[Tr.ren_get];exact q4 _ _ (hs t)
   ·cases h
  ·cases h
 ·rename_i k;obtain⟨⟨x,H'⟩,h1,h2⟩:=Option.map_eq_some_iff.1 h;subst h2;obtain⟨z',q1,q2,q3,q4,q5⟩:=d0Z hH h1 (hs k);have kp:=q3.kp hH.sub;refine⟨z',q1,hn.trans q3,fun id=>by rw[q3.dom];exact hD id,q2,fun t=> ?_,fun p hp=>(hLs p hp).kp kp,hdf,hnt,h0⟩;show ARep z' ((st.tm.put k x).get t) _;by_cases ht:t=k
  ·subst ht;rcases(Tr.get_put st.tm t x t).2 with e|e<;>rw[e]
   ·exact q5
   ·exact .junk _
  ·rw[(Tr.get_put st.tm k x t).1 ht];exact(hs t).kp kp
 ·rename_i k;simp only[Option.some.injEq] at h;subst h;obtain⟨z',q1,q2,q3,q4⟩:=ksZ (st.tm.get k) hH;have kp:=q3.kp hH.sub;exact⟨z',q1,hn.trans q3,fun id=>by rw[q3.dom];exact hD id,q2,fun t=>(hs t).kp kp,fun p hp=>(hLs p hp).kp kp,hdf,hnt,h0⟩
 ·rename_i id;simp only[Option.some.injEq] at h;subst h;obtain⟨z',q1,q2,q3,q4⟩:=ioZ id hH;have kp:=q3.kp hH.sub;exact⟨z',q1,hn.trans q3,fun id=>by rw[q3.dom];exact hD id,q2,fun t=>(hs t).kp kp,fun p hp=>(hLs p hp).kp kp,hdf,hnt,h0⟩
 ·rename_i b o;split at h
  ·rename_i c hg;split at h
   ·rename_i x hc;split at h
    ·rename_i y H' hp;split at h
     ·rename_i c' hg';simp only[Option.some.injEq] at h;subst h;have hblow:b<famBase:=hH.fam b _ hg;have hb0:=hH.ent b _ (by rw[anZ hblow];exact hg);unfold ERep at hb0;cases hρ:z.ρ b with
      |no=>rw[hρ] at hb0;exact hb0.elim
      |virt=>rw[hρ] at hb0;exact hb0.elim
      |real g sz n=>
       rw[hρ] at hb0;obtain⟨_,_,_,cs,e',fr,a1,a2,a3,⟨a4,an⟩,a5,a6⟩:=hb0;have ho:o<c.length:=(List.getElem?_eq_some_iff.1 hc).1;obtain⟨v,hv⟩:∃v,cs[o]? =some v:=⟨_,Array.getElem?_eq_getElem (by omega)⟩;obtain⟨z1,p1,p2,p3,p4,p5⟩:=d0Z hH hp (a5 o x v hc hv);have kp:=p3.kp hH.sub;have hρ1:z1.ρ b= .real g sz n:=by rw[p4];exact hρ
       obtain⟨r1,r2⟩:=p2.write (w':=z1.w) (b:=.vars (c.set o y)) hg' hρ1 rfl ⟨rfl,Nat.le_refl _⟩ rfl rfl (fun _ _=>rfl) (fun _=>by
        refine⟨cs,e',fr,by rw[p1];exact a1,a2,a3,⟨by simpa using a4,an⟩,fun i x' v' q1 q2=> ?_,a6⟩;rw[List.getElem?_set] at q1;split at q1
        ·rename_i hoi;subst hoi;rw[hv] at q2;simp only[Option.some.injEq] at q2;subst q2;have:y=x':=by simpa[ho] using q1
         subst this;exact p5
        ·exact(a5 i x' v' q1 q2).kp kp)
       exact⟨z1,p1,hn.trans p3,fun id=>by rw[p3.dom];exact hD id,r1,fun t=>(hs t).kp kp,fun p hp=>(hLs p hp).kp kp,hdf,hnt,h0⟩
     ·cases h
    ·simp only[Option.some.injEq] at h;subst h;exact⟨z,rfl,hn,hD,hH,hs,hLs,hdf,hnt,h0⟩
   ·simp only[Option.some.injEq] at h;subst h;exact⟨z,rfl,hn,hD,hH,hs,hLs,hdf,hnt,h0⟩
  ·simp only[Option.some.injEq] at h;subst h;exact⟨z,rfl,hn,hD,hH,hs,hLs,hdf,hnt,h0⟩
 ·rename_i k e id;split at h
  ·rename_i hq;obtain⟨u,h1,h2⟩:=aeZ.1 h;cases hk:(hkey st.hp id||Nat.ble famBase id)<;>rw[hk] at h2<;>simp only[bq_true,bq_false] at h2
   ·simp only[Option.some.injEq] at h2;subst h2;simp only[Bool.or_eq_false_iff] at hk;have hlow:id<famBase:=Nat.not_le.1 fun h'=>by rw[Nat.ble_eq_true_of_le h'] at hk;cases hk.2
    obtain⟨z1,p1,p2,p3,p4⟩:=hH.newV ⟨hk.1,hlow⟩ (hD id) (b:=.rows e u []) ⟨rfl,(cjZ h1).2.1⟩;have kp:=p3.kp hH.sub;have hv:=hs k;rw[hq] at hv;have hv:=hv.v.opq.1;refine⟨z1,p1,hn.trans p3,fun id=>by rw[p3.dom];exact hD id,p2,fun t=> ?_,fun p hp=>(hLs p hp).kp kp,hdf,hnt,h0⟩;by_cases ht:t=k
    ·subst ht;show ARep z1 ((st.tm.put t (.slf u.cells id)).get t) _;rcases(Tr.get_put st.tm t (.slf u.cells id) t).2 with e|e<;>rw[e]
     ·rw[hv];exact .slfV _ _ _ p4
     ·exact .junk _
    ·show ARep z1 ((st.tm.put k (.slf u.cells id)).get t) _;rw[(Tr.get_put st.tm k (.slf u.cells id) t).1 ht];exact(hs t).kp kp
   ·cases h2
  ·simp only[Option.some.injEq] at h;subst h;exact⟨z,rfl,hn,hD,hH,hs,hLs,hdf,hnt,h0⟩
 ·rename_i b o e id;split at h
  ·rename_i c hg;split at h
   ·rename_i hc;obtain⟨u,h1,h2⟩:=aeZ.1 h;cases hk:(hkey st.hp id||Nat.ble famBase id)<;>rw[hk] at h2<;>simp only[bq_true,bq_false] at h2
    ·simp only[Option.some.injEq] at h2;subst h2;simp only[Bool.or_eq_false_iff] at hk;have hlow:id<famBase:=Nat.not_le.1 fun h'=>by rw[Nat.ble_eq_true_of_le h'] at hk;cases hk.2
     replace hk:=hk.1
     obtain⟨z1,p1,p2,p3,p4⟩:=hH.newV ⟨hk,hlow⟩ (hD id) (b:=.rows e u []) ⟨rfl,(cjZ h1).2.1⟩;have kp:=p3.kp hH.sub;have hbi:b≠id:=fun h=>by subst h;rw[ahZ hg] at hk;cases hk
     have hg1:hget (hset st.hp id (some ⟨false,.rows e u []⟩)) b=some ⟨false,.vars c⟩:=by rw[akZ,if_neg hbi];exact hg
     have hblow:b<famBase:=hH.fam b _ hg;have hb0:=p2.ent b _ (by rw[anZ hblow];exact hg1);have hsame:∀H1 H2:Hp,H1=hset (hset st.hp b (some ⟨false,.vars (c.set o (.slf u.cells id))⟩)) id (some ⟨false,.rows e u []⟩)->H2=hset (hset st.hp id (some ⟨false,.rows e u []⟩)) b (some ⟨false,.vars (c.set o (.slf u.cells id))⟩)->
      (∀i,hget H1 i=hget H2 i)/\∀i,hkey H1 i=hkey H2 i:=by
      rintro _ _ rfl rfl;refine⟨fun i=> ?_,fun i=> ?_⟩
      ·simp only[akZ];by_cases h1:i=id
       ·subst h1;simp[Ne.symm hbi]
       ·simp[h1]
      ·simp only[amZ];cases decide (i=id)<;>cases decide (i=b)<;>rfl
     obtain⟨s1,s2⟩:=hsame _ _ rfl rfl;unfold ERep at hb0;cases hρ:z1.ρ b with
     |no=>rw[hρ] at hb0;exact hb0.elim
     |virt=>rw[hρ] at hb0;exact hb0.elim
     |real g sz n=>
      rw[hρ] at hb0;obtain⟨_,_,_,cs,e',fr,a1,a2,a3,⟨a4,an⟩,a5,a6⟩:=hb0;obtain⟨r1,r2⟩:=p2.write (w':=z1.w) (b:=.vars (c.set o (.slf u.cells id))) hg1 hρ rfl ⟨rfl,Nat.le_refl _⟩ rfl rfl (fun _ _=>rfl) (fun _=>by
       refine⟨cs,e',fr,a1,a2,a3,⟨by simpa using a4,an⟩,fun i x v q1 q2=> ?_,a6⟩;rw[List.getElem?_set] at q1;split at q1
       ·rename_i hoi;subst hoi;split at q1
        ·simp only[Option.some.injEq] at q1;subst q1;have:=a5 o _ v hc q2;obtain rfl:=this.v.opq.1;exact .slfV _ _ _ p4
        ·cases q1
       ·exact a5 i x v q1 q2)
      exact⟨z1,p1,hn.trans p3,fun id=>by rw[p3.dom];exact hD id,r1.same s1 s2,fun t=>(hs t).kp kp,fun p hp=>(hLs p hp).kp kp,hdf,hnt,h0⟩
    ·cases h2
   ·simp only[Option.some.injEq] at h;subst h;exact⟨z,rfl,hn,hD,hH,hs,hLs,hdf,hnt,h0⟩
  ·simp only[Option.some.injEq] at h;subst h;exact⟨z,rfl,hn,hD,hH,hs,hLs,hdf,hnt,h0⟩
 ·rename_i f e s;cases hk:(hkey st.hp (famId f)|| !s.noRef||Nat.beq s.cells 0)<;>rw[hk] at h<;>simp only[bq_true,bq_false] at h
  ·simp only[Option.some.injEq] at h;subst h;simp only[Bool.or_eq_false_iff,Bool.not_eq_false'] at hk;have hc:0<s.cells:=Nat.pos_of_ne_zero fun h=>by rw[(abZ _ _).2 h] at hk;cases hk.2
   exact⟨z,rfl,hn,hD,hH.newFam hD hk.1.1 hk.1.2 hc,hs,hLs,hdf,hnt,h0⟩
  ·cases h
 ·rename_i k f;split at h
  ·rename_i e s ms hg;obtain⟨⟨x,H'⟩,h1,h2⟩:=Option.map_eq_some_iff.1 h;subst h2;obtain⟨z',q1,q2,q3,q5⟩:=hpZ hH h1 (hs k);have kp:=q3.kp hH.sub;refine⟨z',q1,hn.trans q3,fun id=>by rw[q3.dom];exact hD id,q2,fun t=> ?_,fun p hp=>(hLs p hp).kp kp,hdf,hnt,h0⟩;show ARep z' ((st.tm.put k x).get t) _;by_cases ht:t=k
   ·subst ht;rcases(Tr.get_put st.tm t x t).2 with e|e<;>rw[e]
    ·exact q5
    ·exact .junk _
   ·rw[(Tr.get_put st.tm k x t).1 ht];exact(hs t).kp kp
  ·cases h
 ·rename_i id t;split at h
  ·rename_i e u l hg;rcases aBZ h with⟨hu,h'⟩|h'
   ·subst hu;have:=Option.some.inj h';subst this;exact⟨z,rfl,hn,hD,hH.reent (hH.fam id _ hg) hg jCZ (show id<famBase from hH.fam id _ hg),hs,hLs,hdf,hnt,h0⟩
   ·cases h'
  ·cases h
def AC.of:AC->Code->Prop
 |.skip,c=>c= .skip
 |.ret,c=>c= .ret
 |.exit i,c=>c= .exit i
 |.seq a b,c=>∃x y,c= .seq x y/\a.of x/\b.of y
 |.cond o a b,c=>∃x y,c= .cond o x y/\a.of x/\b.of y
 |.block i a,c=>∃x,c= .block i x/\a.of x
 |.loop _ _ _ a,c=>∃x,c= .loop x/\a.of x
 |.region i ops d,c=>∃arr,c= .region i arr d/\ops.map (·.1)=arr.toList
 |.join _ _ _ a,c=>a.of c
 |.pre _ a,c=>a.of c
 |.sel _ a b,c=>a.of c/\b.of c
 |.post _ a,c=>a.of c
 |.round a r,c=>∃x,c= .loop x/\a.of x/\r.of c
 |.mrange m a,c=>∃arr arr1 arr2 y,c= .seq (.region m.i arr false) (.block m.J (.loop (.seq (.region m.i1 arr1 false) (.seq (.cond m.o .skip (.exit m.J')) (.block m.C (.seq (.region m.i2 arr2 false) y))))))/\
  m.ops.map (·.1)=arr.toList/\m.ops1=arr1.toList/\m.ops2.map (·.1)=arr2.toList/\a.of y
 |.bad _,_=>True
theorem bHZ(l:List (Nat×Ann)):∀(k:Nat) (ops:List Oper),(annOps l k ops).map (·.1)=ops
 |_,[]=>rfl
 |k,o::r=>by simp[annOps,bHZ l (k+1) r]
theorem aLZ:(c:Code)->(plain c).of c
 |.ret=>rfl
 |.exit i=>rfl
 |.seq a b=>⟨a,b,rfl,aLZ a,aLZ b⟩
 |.cond o a b=>⟨a,b,rfl,aLZ a,aLZ b⟩
 |.block i a=>⟨a,rfl,aLZ a⟩
 |.region i ops d=>⟨ops,rfl,bHZ _ _ _⟩
 |.skip=>rfl
 |.loop _|.rangeFunc _ _ _ _|.scope _|.label _|.goto _|.refuse _=>trivial
theorem lJZ{c:Code}{p:MP}(h:mrPat c=some p):c= .seq (.region p.i p.ops false) (.block p.J (.loop (.seq (.region p.i1 p.ops1 false) (.seq (.cond p.o .skip (.exit p.J')) (.block p.C (.seq (.region p.i2 p.ops2 false) p.y)))))):=by
 unfold mrPat at h;split at h
 ·simp only[Option.some.injEq] at h;subst h
  rfl
 ·cases h
theorem aIZ:(ov:Ov)->(c:Code)->(build ov c).of c
 |.join sh rt outs x,c=>aIZ x c
 |.pre g x,c=>aIZ x c
 |.sel q x y,c=>⟨aIZ x c,aIZ y c⟩
 |.post g x,c=>aIZ x c
 |.round x y,c=>by cases c<;>first|exact⟨_,rfl,aIZ x _,aIZ y _⟩|exact aLZ _
 |.one x,c=>by cases c<;>first|exact⟨_,rfl,aIZ x _⟩|exact aLZ _
 |.two x y,c=>by cases c<;>first|exact⟨_,_,rfl,aIZ x _,aIZ y _⟩|exact aLZ _
 |.loop sh rt outs x,c=>by cases c<;>first|exact⟨_,rfl,aIZ x _⟩|exact aLZ _
 |.reg l,c=>by cases c<;>first|exact⟨_,rfl,bHZ _ _ _⟩|exact aLZ _
 |.mr l l2 kt vt mid sh rt outs x,c=>by
  unfold build;split
  ·rename_i p hp;have:=lJZ hp;exact⟨p.ops,p.ops1,p.ops2,p.y,this,bHZ _ _ _,rfl,bHZ _ _ _,aIZ x p.y⟩
  ·exact aLZ c
 |.leaf,c=>aLZ c
theorem Inv.drew{st:St}{a:Act}{w:World}(hi:Inv z0 N L st a w):Inv z0 N L st a {w with drawn:=w.drawn+1}:=by
 obtain⟨z,rfl,hn,hD,hH,hs,hLs,hdf,hnt,h0⟩:=hi
 let z1:Z:={z with w:={z.w with drawn:=z.w.drawn+1}}
 have hn1:Nx z z1:=⟨rfl,⟨rfl,Nat.le_succ _⟩,rfl,Nat.le_refl _,fun _ _ _=>rfl,fun _ h=>.inl h,fun _ h=>.inl h,fun _ _ h _=>h,fun _ _=>rfl,rfl⟩;have kp:=hn1.kp hH.sub;exact⟨z1,rfl,hn.trans hn1,hD,⟨fun id e he=>(hH.ent id e he).kp kp fun _ _ _ _=>⟨rfl,fun h=>h⟩,hH.inj,hH.fresh,hH.sub,hH.fam,hH.key,hH.dyn,hH.nos⟩,fun t=>(hs t).kp kp,fun p hp=>(hLs p hp).kp kp,hdf,hnt,h0⟩
end
section
variable {P : Program}
theorem g2Z(e:MapEntry):∀(l:List MapEntry),(l.map (·.born)).Nodup->e∈l->l.find? (·.born==e.born)=some e
 |x::l,hn,he=>by
  have hn':x.born∉l.map (·.born)/\(l.map (·.born)).Nodup:=List.nodup_cons.1 hn;rcases List.mem_cons.1 he with rfl|h
  ·simp
  ·have hx:(x.born==e.born)=false:=by
    cases hc:x.born==e.born with
    |false=>rfl
    |true=>exact absurd (by rw[beq_iff_eq.1 hc];exact List.mem_map.2 ⟨e,h,rfl⟩) hn'.1
   rw[List.find?_cons,hx];exact g2Z e l hn'.2 h
theorem gsZ{w:World}{bm r since last:Nat}{seen:Array Nat}{es:Array MapEntry}{e:MapEntry}(hr:w.heap[r]? =some (.mapIter (some bm) since (seen.push e.born) last))(hb:w.heap[bm]? =some (.map es last))(he:e∈es.toList)(hn:(es.toList.map (·.born)).Nodup):
 (Instr.entry (.pointer (some ⟨r,0,none⟩))).run P w= .ok (.tuple #[e.key,e.val]) w:=by
 have hf:es.find? (·.born==e.born)=some e:=by rw[<-Array.find?_toList];exact g2Z e es.toList hn he
 simp only[Instr.entry,getObj,Sem.run_bind,Sem.run,hr,hb,Result.andThen,Array.back?_push,bne_self_eq_false,Bool.false_eq_true,if_false,hf]
 rfl
theorem k7Z(seen:Array Nat)(es:Array MapEntry)(c0:Nat)(hold:∀x∈es.toList,x.born<c0):
 (!seen.isEmpty&& !es.isEmpty&&es.all (fun x=>decide (x.born>=c0)))=false:=by
 cases he:es.isEmpty with
 |true=>simp
 |false=>
  have hall:es.all (fun x=>decide (x.born>=c0))=false:=by
   rw[Bool.eq_false_iff];intro h;rw[Array.all_eq_true_iff_forall_mem] at h;have h0:0<es.size:=by
    rcases Nat.eq_zero_or_pos es.size with h0|h0
    ·simp[Array.isEmpty,h0] at he
    ·exact h0
   have hm:es[0]∈es:=Array.getElem_mem h0;have h1:=h _ hm;have h2:=hold es[0] (by simp);simp at h1;omega
  simp[hall]
theorem run_next_at{w:World}{ty:TypeId}{bm r c:Nat}{seen:Array Nat}{es:Array MapEntry}(hr:w.heap[r]? =some (.mapIter (some bm) c seen c))(hb:w.heap[bm]? =some (.map es c))(hold:∀x∈es.toList,x.born<c):
 ((∀e∈es.toList,seen.contains e.born=true)/\(Instr.next (.pointer (some ⟨r,0,none⟩)) false ty).run P w= .ok (.tuple #[.bool false]) w)\/
 ∃e∈es.toList,seen.contains e.born=false/\∃d,w.drawn<=d/\(Instr.next (.pointer (some ⟨r,0,none⟩)) false ty).run P w= .ok (.tuple #[.bool true,e.key,e.val]) {w with drawn:=d,heap:=w.heap.setIfInBounds r (.mapIter (some bm) c (seen.push e.born) c)}:=by
 simp only[Instr.next,getObj,Sem.run_bind,Sem.run,hr,hb,Result.andThen,k7Z seen es c hold,Bool.false_eq_true,if_false];have hmem:∀x∈(Array.filter (fun e=> !seen.contains e.born) es).toList,x∈es.toList/\seen.contains x.born=false:=fun x hx=>by simpa using hx
 have hmem':∀x∈es.toList,seen.contains x.born=false->x∈(Array.filter (fun e=> !seen.contains e.born) es).toList:=fun x hx h=>by simp at h hx⊢;exact⟨hx,h⟩
 generalize Array.filter (fun e=> !seen.contains e.born) es=L at hmem hmem'⊢;have e1:L.filter (fun x=>decide (x.born<c))=L:=Array.filter_eq_self.2 (fun x hx=>by simpa using hold x (hmem x (by simpa using hx)).1);have e2:L.filter (fun x=>decide (x.born>=c))=#[]:=by
  rw[Array.filter_eq_empty_iff];intro x hx;have:=hold x (hmem x (by simpa using hx)).1;simp;omega
 simp only[e1,e2,Array.append_empty];by_cases h0:L.size=0
 ·left;have:L=#[]:=Array.eq_empty_of_size_eq_zero h0;subst this;refine⟨fun e he=> ?_,?_⟩
  ·cases hc:seen.contains e.born with
   |true=>rfl
   |false=>have:=hmem' e he hc;simp at this
  ·simp[choose,Sem.run,Question.forced]
 ·right;have hne:L.isEmpty=false:=by simp[Array.isEmpty,h0]
  simp only[hne,Bool.false_eq_true,if_false,Array.empty_append,Array.size_map];have hch:∃(j:Nat) (d:Nat),j<L.size/\w.drawn<=d/\(choose (Question.mapNext L.size)).run P w= .ok j {w with drawn:=d}:=by
   by_cases hf:L.size<=1
   ·exact⟨0,w.drawn,by omega,Nat.le_refl _,by simp[choose,Sem.run,Question.forced,hf]⟩
   ·exact⟨_,w.drawn+1,Nat.mod_lt _ (by omega),Nat.le_succ _,by
     simp only[choose,Sem.run,Question.forced,decide_eq_true_eq,hf,if_false,Question.cut]
     rfl⟩
  obtain⟨j,d,hj,hjd,hrun⟩:=hch;have h1:=hmem L[j] (by simp);refine⟨L[j],h1.1,h1.2,d,hjd,?_⟩;have hset:∀(o':Obj),(setObj r o').run P {w with drawn:=d}= .ok () {w with drawn:=d,heap:=w.heap.setIfInBounds r o'}:=fun o'=>by
   simp only[setObj,Sem.run];rw[hr]
  simp only[hrun,Array.getElem?_map,Array.getElem?_eq_getElem hj,Option.map_some,Sem.run_bind,hset,Result.andThen]
  rfl
theorem g4Z{w:World}{t k e:TypeId}{bm c:Nat}{es:Array MapEntry}(ht:P.underlying t=some (.map k e))(hb:w.heap[bm]? =some (.map es c)):
 (Instr.range t (.map (some bm))).run P w= .ok (.pointer (some ⟨w.heap.size,0,none⟩)) (w.alloc (.mapIter (some bm) c #[] c)):=run_range_map w t k e bm es c ht hb
end
end Go.Ab
namespace Go.Ab
section
variable {P : Program} {T : Tbl} {N fu : Nat}
theorem keZ{z0:Z}{L:List (Nat×AV)}{st:St}{a:Act}{w:World}(hi:Inv z0 N L st a w)(hLn:∀p∈L,AV.ids p.2=[])(wr:List Nat)(hLw:∀p∈L,p.1∉wr):
 ∃L',(∀p∈L,p∈L')/\Inv z0 N L' st a w/\(∀p∈L',AV.ids p.2=[])/\(∀k,((st.tm.keep).junk wr).get k= .junk\/(k,((st.tm.keep).junk wr).get k)∈L')/\∀p∈L',p.1∉wr:=by
 obtain⟨n,hn⟩:=d1Z ((st.tm.keep).junk wr);have hget:∀k,k∉wr->((st.tm.keep).junk wr).get k= .junk\/(((st.tm.keep).junk wr).get k=st.tm.get k/\(st.tm.get k).noRef=true):=fun k hk=>by
  rw[(cEZ wr st.tm.keep k).2 hk];exact d2Z st.tm k
 let ex:List (Nat×AV):=(List.range n).filterMap fun k=>if memN k wr=true then none else some (k,((st.tm.keep).junk wr).get k)
 have hex:∀p∈ex,p.1∉wr/\p.2=((st.tm.keep).junk wr).get p.1:=fun p hp=>by
  obtain⟨k,_,h⟩:=List.mem_filterMap.1 hp;split at h
  ·cases h
  ·rename_i hm;simp only[Option.some.injEq] at h;subst h;exact⟨fun h=>hm (agZ.2 h),rfl⟩
 refine⟨L++ex,fun p hp=>List.mem_append_left _ hp,?_,fun p hp=> ?_,fun k=> ?_,fun p hp=> ?_⟩
 ·obtain⟨z,rfl,hn',hD,hH,hs,hLs,hdf,hnt,h0⟩:=hi;refine⟨z,rfl,hn',hD,hH,hs,fun p hp=> ?_,hdf,hnt,h0⟩;rcases List.mem_append.1 hp with hp|hp
  ·exact hLs p hp
  ·obtain⟨h1,h2⟩:=hex p hp;rw[h2];rcases hget p.1 h1 with e|⟨e,_⟩<;>rw[e]
   ·exact .junk _
   ·exact hs p.1
 ·rcases List.mem_append.1 hp with hp|hp
  ·exact hLn p hp
  ·obtain⟨h1,h2⟩:=hex p hp;rw[h2];rcases hget p.1 h1 with e|⟨e,h3⟩<;>rw[e]
   ·rfl
   ·exact fRZ h3
 ·by_cases hk:k∈wr
  ·exact .inl ((cEZ wr st.tm.keep k).1 hk)
  ·by_cases hlt:k<n
   ·right;refine List.mem_append_right _ (List.mem_filterMap.2 ⟨k,List.mem_range.2 hlt,?_⟩);rw[if_neg fun h=>hk (agZ.1 h)]
   ·exact .inl (hn k (by omega))
 ·rcases List.mem_append.1 hp with hp|hp
  ·exact hLw p hp
  ·exact(hex p hp).1
theorem h9Z{β γ:Type}{rt:Bool}{outs:List (Nat×LShp)}{b:β}{K:Out rt outs β->Option γ}{r:γ}(h:Out.retO rt outs b K=some r):
 ∃o,K o=some r/\∀(base:Tr) (nt n0:Nat) (X:Nat->St->Option β) (R:β->Option β),Out.on base nt n0 rt outs o X R=R b:=by
 cases rt with
 |false=>cases h
 |true=>exact⟨_,h,fun base nt n0 X R=>Out.on_ret⟩
theorem ieZ:∀{l:List Oper} {q:Nat×TypeId×Operand},mrOps l=some q->∃o,l[l.length-1]? =some o/\l≠[]/\o.op= .range q.2.1 q.2.2/\o.dst=some q.1/\o.guard=none
 |[],q,h=>by cases h
 |o::o'::l,q,h=>by
  have h':mrOps (o'::l)=some q:=by
   unfold mrOps at h;split at h
   ·rename_i e;simp at e
   ·rename_i e;cases e
   ·rename_i e;injection e with e1 e2;subst e2;exact h
  obtain⟨p,h1,h2,h3⟩:=ieZ h';refine⟨p,?_,by simp,h3⟩;simpa using h1
 |[o],q,h=>by
  unfold mrOps at h;split at h
  ·rename_i e;simp only[Option.some.injEq] at h;injection e with e1 e2;subst h;subst e1;exact⟨_,rfl,by simp,rfl,rfl,rfl⟩
  ·cases h
  ·rename_i e;injection e with e1 e2;subst e2;cases h
structure MRd (m:MR) (a:AC) (nt:Nat) (q:MQ):Prop where
 o:∃o,(m.ops.map (·.1))[m.ops.length-1]? =some o/\m.ops≠[]/\o.op= .range q.t q.x/\o.dst=some q.it/\o.guard=none
 o1:∃o1 o1',m.ops1=[o1,o1']/\(o1.op= .next (.tmp q.it) false/\o1.dst=some q.n/\o1.guard=none)/\(o1'.op= .extract (.tmp q.n) 0/\o1'.dst=some q.b/\o1'.guard=none)
 o2:∃o2 r,m.ops2.map (·.1)=o2::r/\o2.op= .entry (.tmp q.it)/\o2.dst=some q.e/\o2.guard=none
 c:m.o= .tmp q.b
 J:m.J=m.J'
 lt:q.it<nt/\q.n<nt/\q.b<nt/\q.e<nt
 wr:q.it∉m.wr a
 nb:q.n≠q.b
theorem kLZ{m:MR}{a:AC}{nt:Nat}{q:MQ}(h:mrOk m a nt=some q):MRd m a nt q:=by
 unfold mrOk at h;obtain⟨q0,h0,h⟩:=aeZ.1 h;obtain⟨q1,h1,h⟩:=aeZ.1 h;obtain⟨q2,h2,h⟩:=aeZ.1 h;obtain⟨b,hb,h⟩:=aeZ.1 h;obtain⟨it,t,x⟩:=q0;obtain⟨n,it1,b1,n1⟩:=q1;obtain⟨e,it2⟩:=q2;generalize hc:(Nat.beq it1 it&&Nat.beq it2 it&&Nat.beq n1 n&&Nat.beq b b1&&Nat.beq m.J m.J'&&(Nat.blt it nt&&Nat.blt n nt&&Nat.blt b nt&&Nat.blt e nt)&& !memN it (m.wr a)&& !Nat.beq n b)=cc at h;have h':bq cc (some (⟨t,x,it,n,b,e⟩:MQ)) none=some q:=h;cases cc
 ·cases h'
 simp only[bq_true,Option.some.injEq] at h';subst h';simp only[Bool.and_eq_true,abZ,Nat.blt_eq,Bool.not_eq_true'] at hc;obtain⟨⟨⟨⟨⟨⟨⟨rfl,rfl⟩,rfl⟩,rfl⟩,hJ⟩,hl⟩,hw⟩,hn⟩:=hc;refine⟨?_,?_,?_,?_,hJ,⟨hl.1.1.1,hl.1.1.2,hl.1.2,hl.2⟩,?_,?_⟩
 ·obtain⟨o,p1,p2,p3⟩:=ieZ h0;exact⟨o,by simpa using p1,by simpa using p2,p3⟩
 ·unfold mrOps1 at h1;split at h1
  ·rename_i e1;simp only[Option.some.injEq,Prod.mk.injEq] at h1;obtain⟨rfl,rfl,rfl,rfl⟩:=h1;exact⟨_,_,e1,⟨rfl,rfl,rfl⟩,⟨rfl,rfl,rfl⟩⟩
  ·cases h1
 ·unfold mrOps2 at h2;split at h2
  ·rename_i e1;simp only[Option.some.injEq,Prod.mk.injEq] at h2;obtain⟨rfl,rfl⟩:=h2;exact⟨_,_,e1,rfl,rfl,rfl⟩
  ·cases h2
 ·unfold mrCond at hb;split at hb
  ·simp only[Option.some.injEq] at hb;subst hb;assumption
  ·cases hb
 ·intro hm;rw[agZ.2 hm] at hw;cases hw
 ·intro e;have e:n1=b:=e;rw[(abZ n1 b).2 e] at hn;cases hn
theorem hRZ{z:Z}{H:Hp}{k v:Ty}{id gm sz n:Nat}{g:GMap k v}(hH:HRep z H)(h:mapAt k v H id=some g)(hρ:z.ρ id= .real gm sz n):
 ∃es,z.w.heap[gm]? =some (.map es g.2)/\es.size=g.1.length/\(∀(i:Nat) x e,g.1[i]? =some x->es[i]? =some e->VRep z.w z.M z.ρ k x.1.1 e.key/\VRep z.w z.M z.ρ v x.1.2 e.val/\e.born=x.2)/\
  (∀(i j:Nat) x y,g.1[i]? =some x->g.1[j]? =some y->x.2=y.2->i=j)/\(∀(i:Nat) x,g.1[i]? =some x->x.2<g.2):=by
 unfold mapAt at h;obtain⟨e,h1,h2⟩:=aeZ.1 h;have hB:=(hH.real h1 hρ).2.2.2;unfold Blk.map? at h2;split at h2
 ·rename_i k' v' m' hb;split at h2
  ·rename_i hm;have e1:k'=k/\v'=v:=by
    unfold mapTy at hm;injection hm with e1 e2;injection e1 with e1;injection e1 with e1 e3;injection e1 with e1 e4;exact⟨e1,e4⟩
   obtain⟨rfl,rfl⟩:=e1;simp only[Option.some.injEq] at h2;subst h2;rw[hb] at hB;exact hB
  ·cases h2
 ·cases h2
structure MI (z0:Z) (N:Nat) (L:List (Nat×AV)) (st:St) (r gm c:Nat) (seen:List Nat) (a:Act) (w:World) (z:Z):Prop where
 hw:z.w=w
 nx:Nx z0 z
 D:∀id,¬z.D id
 H:HRep z st.hp
 s:∀t,ARep z (st.tm.get t) (a.eval (.tmp t))
 l:∀p∈L,ARep z p.2 (a.eval (.tmp p.1))
 df:a.defers=[]
 nt:st.nt<=N/\a.tmps.size=N
 n0:∀id,id<dynBase->z0.ρ id≠.no->id<st.n0
 lt:r<z.w.heap.size
 C:¬z.C r
 M:z.M r
 own:z0.C r\/z0.w.heap.size<=r
 it:z.w.heap[r]? =some (.mapIter (some gm) c seen.reverse.toArray c)
theorem Inv.mono{z0 zb:Z}{L:List (Nat×AV)}{st:St}{a:Act}{w:World}(h:Inv zb N L st a w)(hz:Nx z0 zb)(h0:∀id,id<dynBase->z0.ρ id≠.no->id<st.n0):Inv z0 N L st a w:=by
 obtain⟨z,rfl,hn,hD,hH,hs,hLs,hdf,hnt,_⟩:=h;exact⟨z,rfl,hz.trans hn,hD,hH,hs,hLs,hdf,hnt,h0⟩
theorem MI.put{z0 z:Z}{L:List (Nat×AV)}{st:St}{r gm c:Nat}{seen:List Nat}{a:Act}{w:World}{d:Nat}{x:AV}{v:Value}(h:MI z0 N L st r gm c seen a w z)(hd:d<st.nt)(hL:∀p∈L,p.1≠d)(hx:ARep z x v):
 MI z0 N L (st.putO (some d) x) r gm c seen (a.put (some d) v) w z:=by
 have hsl:∀t,ARep z ((st.putO (some d) x).tm.get t) ((a.put (some d) v).eval (.tmp t)):=by
  have:=koZ (nt:=st.nt) (o:=some d) h.s (by simpa[dstOk] using hd) (by rw[h.nt.2];exact h.nt.1) hx;exact this
 refine⟨h.hw,h.nx,h.D,h.H,hsl,fun p hp=> ?_,(byZ a (some d) v).2.trans h.df,⟨h.nt.1,by rw[(byZ a (some d) v).1];exact h.nt.2⟩,h.n0,h.lt,h.C,h.M,h.own,h.it⟩;rw[aXZ (by simpa using Ne.symm (hL p hp))];exact h.l p hp
theorem HRep.beside{z:Z}{H:Hp}{w':World}{r:Nat}(hH:HRep z H)(hM:z.M r)(hC:¬z.C r)(hsz:w'.heap.size=z.w.heap.size)(hne:∀b,b≠r->w'.heap[b]? =z.w.heap[b]?):HRep {z with w:=w'} H/\Kp z {z with w:=w'}:=by
 have hk:Kp z {z with w:=w'}:=⟨Nat.le_of_eq hsz.symm,fun b _ hb=>hne b fun e=>hb (e▸hM),fun _ h=>.inl h,fun _ _=>rfl⟩;refine⟨⟨fun id e he=> ?_,hH.inj,hH.fresh,hH.sub,hH.fam,hH.key,hH.dyn,hH.nos⟩,hk⟩;refine(hH.ent id e he).kp hk fun a sa na ha=>⟨hne a fun e'=> ?_,fun h=>h⟩;subst e';obtain⟨_,q2,q3,_⟩:=hH.realX he ha;cases hf:e.fz
 ·exact hC (q2 hf)
 ·exact q3 hf hM
theorem MI.step{z0 z:Z}{L:List (Nat×AV)}{st:St}{r gm c:Nat}{seen:List Nat}{a:Act}{w:World}(h:MI z0 N L st r gm c seen a w z)(b d:Nat)(hd:w.drawn<=d):
 MI z0 N L st r gm c (b::seen) a {w with drawn:=d,heap:=w.heap.setIfInBounds r (.mapIter (some gm) c (seen.reverse.toArray.push b) c)} {z with w:={w with drawn:=d,heap:=w.heap.setIfInBounds r (.mapIter (some gm) c (seen.reverse.toArray.push b) c)}}/\
  Kp z {z with w:={w with drawn:=d,heap:=w.heap.setIfInBounds r (.mapIter (some gm) c (seen.reverse.toArray.push b) c)}}:=by
 obtain⟨rfl,nx,D,H,s,l,df,nt,n0,lt,C,M,own,it⟩:=h;have hne:∀k,k≠r->(z.w.heap.setIfInBounds r (.mapIter (some gm) c (seen.reverse.toArray.push b) c))[k]? =z.w.heap[k]? :=fun k hk=>by
  rw[Array.getElem?_setIfInBounds_ne (Ne.symm hk)]
 obtain⟨hH,hkp⟩:=H.beside (w':={z.w with drawn:=d,heap:=z.w.heap.setIfInBounds r (.mapIter (some gm) c (seen.reverse.toArray.push b) c)}) M C (by simp) hne;refine⟨⟨rfl,⟨nx.os,⟨nx.tape.1,Nat.le_trans nx.tape.2 hd⟩,nx.output,by simpa using nx.size,fun k hk hc=> ?_,nx.subM,nx.subC,nx.keepM,nx.ext,nx.dom⟩,D,hH,fun t=>(s t).kp hkp,fun p hp=>(l p hp).kp hkp,df,nt,n0,by simpa using lt,C,M,own,?_⟩,hkp⟩
 ·show(z.w.heap.setIfInBounds r _)[k]? =_;rw[hne k fun e=>by
   subst e;rcases own with h|h
   ·exact hc h
   ·omega]
  exact nx.block k hk hc
 ·show(z.w.heap.setIfInBounds r _)[r]? =_;rw[Array.getElem?_setIfInBounds_self_of_lt lt];simp
theorem l2Z{z0:Z}{L:List (Nat×AV)}{st:St}{a:Act}{w:World}{o:Oper}{t k e:TypeId}{x:Operand}{it m0:Nat}{kt vt:Ty}{g0:GMap kt vt}{next:Act->World->Prop}{Q:Exit->Act->World->Prop}
 (ho:o.op= .range t x)(hd:o.dst=some it)(hlt:it<st.nt)(ht:P.underlying t=some (.map k e))(hi:Inv z0 N L st a w)(hx:(st.opnd x).mp1? =some m0)(hm:mapAt kt vt st.hp m0=some g0)(hL:∀p∈L,p.1≠it)
 (hk:∀a' w' z' r gm,MI z0 N ((it,.p .opq (.pointer (some ⟨r,0,none⟩)))::L) (st.putO (some it) .junk) r gm g0.2 [] a' w' z'->(∃sz n,z'.ρ m0= .real gm sz n)->next a' w'):o.wp P a w next Q:=by
 obtain⟨z,rfl,hn,hD,hH,hs,hLs,hdf,hnt,h0⟩:=hi;have hxv:=dfZ hs x;unfold AV.mp1? at hx;split at hx
 ·rename_i id hid;simp only[Option.some.injEq] at hx;subst hx;rw[hid] at hxv;cases hv:a.eval x<;>rw[hv] at hxv<;>first|(cases hxv;done)|skip;cases hxv with
  |mp _ g sz n hρ=>
   obtain⟨es,q1,q2,q3,q4,q5⟩:=hRZ hH hm hρ
   let w':World:=z.w.alloc (.mapIter (some g) g0.2 #[] g0.2)
   have hw:(execOp a.eval o).run P z.w= .ok (.value (.pointer (some ⟨z.w.heap.size,0,none⟩))) w':=by
    simp only[execOp,ho,hv,Sem.run_bind,g4Z ht q1]
    rfl
   have hold:∀b,b<z.w.heap.size->w'.heap[b]? =z.w.heap[b]? :=fun b hb=>heap_alloc_old _ _ hb;have hsz:w'.heap.size=z.w.heap.size+1:=by show(z.w.heap.push _).size=_;simp
   let z':Z:={z with w:=w',M:=fun y=>z.M y\/y=z.w.heap.size,C:=fun y=>z.C y/\y≠z.w.heap.size}
   have hn':Nx z z':=⟨rfl,⟨rfl,Nat.le_refl _⟩,rfl,by show _<=w'.heap.size;omega,fun b hb _=>hold b hb,fun y h=>h.elim .inl fun h=>.inr (by omega),fun _ h=>.inl h.1,fun _ _ h _=>.inl h,fun _ _=>rfl,rfl⟩;have kp:=hn'.kp hH.sub;have hH':HRep z' st.hp:=⟨fun i e' he=>(hH.ent i e' he).kp kp fun b sb nb hb=>⟨hold b (hH.realX he hb).1,fun h=>⟨h,by have:=(hH.realX he hb).1;omega⟩⟩,hH.inj,hH.fresh,fun y h=>.inl (hH.sub y h.1),hH.fam,hH.key,hH.dyn,hH.nos⟩;unfold Oper.wp;rw[hw];show next (a.put o.dst _) w';rw[hd];have hdl:it<a.tmps.size:=by rw[hnt.2];omega
   refine hk _ _ z' z.w.heap.size g ⟨rfl,hn.trans hn',fun id=>by rw[hn'.dom];exact hD id,hH',?_,fun p hp=> ?_,(byZ a (some it) _).2.trans hdf,⟨hnt.1,by rw[(byZ a (some it) _).1];exact hnt.2⟩,h0,by show _<w'.heap.size;omega,fun h=>h.2 rfl,.inr rfl,.inr hn.size,heap_alloc_new _ _⟩ ⟨sz,n,hρ⟩
   ·exact koZ (nt:=st.nt) (o:=some it) (fun t=>(hs t).kp kp) (by simpa[dstOk] using hlt) (by rw[hnt.2];exact hnt.1) (.junk _)
   ·rcases List.mem_cons.1 hp with rfl|hp
    ·rw[aEZ hdl];exact .p _ _ _ ⟨[_],⟨rfl,rfl⟩,rfl⟩
    ·rw[aXZ (by simpa using Ne.symm (hL p hp))];exact(hLs p hp).kp kp
 ·cases hx
theorem kQZ{L:List (Nat×AV)}(st:St)(hLn:∀p∈L,AV.ids p.2=[])(wr:List Nat)(hLw:∀p∈L,p.1∉wr):
 ∃L':List (Nat×AV),(∀p∈L,p∈L')/\(∀(z:Z) (a:Act),(∀t,ARep z (st.tm.get t) (a.eval (.tmp t)))->(∀p∈L,ARep z p.2 (a.eval (.tmp p.1)))->∀p∈L',ARep z p.2 (a.eval (.tmp p.1)))/\(∀p∈L',AV.ids p.2=[])/\(∀k,((st.tm.keep).junk wr).get k= .junk\/(k,((st.tm.keep).junk wr).get k)∈L')/\∀p∈L',p.1∉wr:=by
 obtain⟨n,hn⟩:=d1Z ((st.tm.keep).junk wr);have hget:∀k,k∉wr->((st.tm.keep).junk wr).get k= .junk\/(((st.tm.keep).junk wr).get k=st.tm.get k/\(st.tm.get k).noRef=true):=fun k hk=>by
  rw[(cEZ wr st.tm.keep k).2 hk];exact d2Z st.tm k
 let ex:List (Nat×AV):=(List.range n).filterMap fun k=>if memN k wr=true then none else some (k,((st.tm.keep).junk wr).get k)
 have hex:∀p∈ex,p.1∉wr/\p.2=((st.tm.keep).junk wr).get p.1:=fun p hp=>by
  obtain⟨k,_,h⟩:=List.mem_filterMap.1 hp;split at h
  ·cases h
  ·rename_i hm;simp only[Option.some.injEq] at h;subst h;exact⟨fun h=>hm (agZ.2 h),rfl⟩
 refine⟨L++ex,fun p hp=>List.mem_append_left _ hp,fun z a hs hLs p hp=> ?_,fun p hp=> ?_,fun k=> ?_,fun p hp=> ?_⟩
 ·rcases List.mem_append.1 hp with hp|hp
  ·exact hLs p hp
  ·obtain⟨h1,h2⟩:=hex p hp;rw[h2];rcases hget p.1 h1 with e|⟨e,_⟩<;>rw[e]
   ·exact .junk _
   ·exact hs p.1
 ·rcases List.mem_append.1 hp with hp|hp
  ·exact hLn p hp
  ·obtain⟨h1,h2⟩:=hex p hp;rw[h2];rcases hget p.1 h1 with e|⟨e,h3⟩<;>rw[e]
   ·rfl
   ·exact fRZ h3
 ·by_cases hk:k∈wr
  ·exact .inl ((cEZ wr st.tm.keep k).1 hk)
  ·by_cases hlt:k<n
   ·right;refine List.mem_append_right _ (List.mem_filterMap.2 ⟨k,List.mem_range.2 hlt,?_⟩);rw[if_neg fun h=>hk (agZ.1 h)]
   ·exact .inl (hn k (by omega))
 ·rcases List.mem_append.1 hp with hp|hp
  ·exact hLw p hp
  ·exact(hex p hp).1
theorem bUZ{o:Oper}{f:Nat->Option Bool}(h:o.guard=none):Region.wanted o f=true:=by simp[Region.wanted,h]
set_option maxHeartbeats 1000000 in
theorem n9Z(hT:∀e∈T,Told P e){m:MR}{x:AC}(IH:∀{z0:Z} {β:Type} {st:St} {K:St->Option β} {X:Nat->St->Option β} {R:St->Option β} {res:β} {c:Code} {L:List (Nat×AV)} {a:Act} {w:World}
 {Q:Exit->Act->World->Prop},evS P T fu x st K X R=some res->x.of c->Inv z0 N L st a w->(∀p∈L,AV.ids p.2=[])->(∀p∈L,p.1∉x.wr)->
 (∀st' a' w',K st'=some res->Inv z0 N L st' a' w'->Q .normal a' w')->(∀i st' a' w',X i st'=some res->Inv z0 N L st' a' w'->Q (.exit i) a' w')->
 (∀st' a' w',R st'=some res->Inv z0 N L st' a' w'->Q .ret a' w')->c.wp P Q a w)
 {z0:Z}{β:Type}{st:St}{K:St->Option β}{X:Nat->St->Option β}{R:St->Option β}{res:β}{c:Code}{L:List (Nat×AV)}{a:Act}{w:World}
 {Q:Exit->Act->World->Prop}(h:evS P T fu (.mrange m x) st K X R=some res)(hc:(AC.mrange m x).of c)(hi:Inv z0 N L st a w)(hLn:∀p∈L,AV.ids p.2=[])(hLw:∀p∈L,p.1∉(AC.mrange m x).wr)
 (hK:∀st' a' w',K st'=some res->Inv z0 N L st' a' w'->Q .normal a' w')(hX:∀i st' a' w',X i st'=some res->Inv z0 N L st' a' w'->Q (.exit i) a' w')
 (hR:∀st' a' w',R st'=some res->Inv z0 N L st' a' w'->Q .ret a' w'):c.wp P Q a w:=by
 obtain⟨arr,arr1,arr2,y,rfl,hops,hops1,hops2,hy⟩:=hc;simp only[AC.wr,List.mem_append,not_or] at hLw;have hwrL:∀p∈L,p.1∉m.wr x:=fun p hp hm=>by
  simp only[MR.wr,List.mem_append] at hm;have:=hLw p hp;rcases hm with hm|hm|hm
  ·exact this.2.1 hm
  ·exact this.2.2.1 hm
  ·exact this.2.2.2 hm
 have hlen:m.ops.length=arr.size:=by
  have:=congrArg List.length hops;simpa using this
 simp only[evS] at h;refine wp_seq (wp_region ?_);by_cases ho2:m.ops=[]
 ·rw[ho2] at h;obtain⟨q,hq,_⟩:=aeZ.1 h;obtain⟨⟨o,ho1,ho2',_⟩,_⟩:=kLZ hq;exact absurd ho2 ho2'
 have hpos:=List.length_pos_iff.2 ho2;have hrange:List.range arr.size=List.range' 0 m.ops.dropLast.length++[m.ops.length-1]:=by
  rw[<-hlen,List.range_eq_range',List.length_dropLast];have:m.ops.length=(m.ops.length-1)+1:=by omega
  conv=>lhs;rw[this]
  rw[List.range'_1_concat];simp
 rw[hrange];refine ckZ (ops:=arr) hT (fun st1 a1 w1 h1 hi1=> ?_) m.ops.dropLast 0 (fun i x hx=> ?_) (fun x hx p hp he=>(hLw p hp).1 (List.mem_filterMap.2 ⟨x,(List.dropLast_subset _ hx),he⟩)) st a w (by rw[<-hops];exact h) hi
 case refine_2=>
  rw[List.getElem?_dropLast] at hx;split at hx
  ·have e:(m.ops.map (·.1))[i]? =some x.1:=by rw[List.getElem?_map,hx];rfl
   rw[hops] at e;rw[Nat.zero_add,<-Array.getElem?_toList];exact e
  ·cases hx
 clear h hi;obtain⟨q,hq,h1⟩:=aeZ.1 h1;obtain⟨ht,h1⟩:=adZ.1 h1;obtain⟨⟨o,ho1,_,ho3,ho4,ho5⟩,⟨o1,o1',h1a,⟨h1b,h1c,h1d⟩,h1e,h1f,h1g⟩,⟨o2,r2,h2a,h2b,h2c,h2d⟩,hmo,hJ,⟨l1,l2,l3,l4⟩,hwr,hnb⟩:=kLZ hq;have htm:∃kT eT,P.underlying q.t=some (.map kT eT):=by
  split at ht
  ·exact⟨_,_,by assumption⟩
  ·cases ht
 obtain⟨kT,eT,htm⟩:=htm;have hitL:∀p∈L,p.1≠q.it:=fun p hp e=>(hLw p hp).1 (by
  rw[e];rw[List.getElem?_map] at ho1;obtain⟨po,hpo,hpe⟩:=Option.map_eq_some_iff.1 ho1;exact List.mem_filterMap.2 ⟨po,List.mem_of_getElem? hpo,by rw[hpe];exact ho4⟩)
 obtain⟨m0,hm0,h1⟩:=aeZ.1 h1;obtain⟨g0,hg0,h1⟩:=aeZ.1 h1;obtain⟨hpair,h1⟩:=adZ.1 h1;have hlo:=ho1;rw[hops,Array.getElem?_toList] at hlo;simp only[wpOps,hlo,bUZ ho5];rw[if_pos trivial];refine .inl (l2Z ho3 ho4 l1 htm hi1 hm0 hg0 hitL fun a2 w2 z2 r gm hMI hgm=> ?_);obtain⟨L',q1,q2,q3,q4,q5⟩:=kQZ (L:=(q.it,.p .opq (.pointer (some ⟨r,0,none⟩)))::L) (st1.putO (some q.it) .junk) (fun p hp=>by
  rcases List.mem_cons.1 hp with rfl|hp
  ·rfl
  ·exact hLn p hp) (m.wr x) (fun p hp=>by
  rcases List.mem_cons.1 hp with rfl|hp
  ·exact hwr
  ·exact hwrL p hp)
 have h0':∀id,id<dynBase->z0.ρ id≠.no->id<Nat.max st1.n0 (m.mid+1):=fun id hdy hid=>Nat.lt_of_lt_of_le (hMI.n0 id hdy hid) (Nat.le_max_left _ _);have h01:∀id,id<dynBase->z0.ρ id≠.no->id<st1.n0:=hMI.n0;have hnN:st1.nt<=N:=hMI.nt.1;have hdL:∀d,d∈m.wr x->∀p∈L',p.1≠d:=fun d hd p hp e=>q5 p hp (by rw[e];exact hd);have hnw:q.n∈m.wr x:=by
  simp only[MR.wr,List.mem_append];exact .inl (List.mem_filterMap.2 ⟨o1,by rw[h1a];simp,h1c⟩)
 have hbw:q.b∈m.wr x:=by
  simp only[MR.wr,List.mem_append];exact .inl (List.mem_filterMap.2 ⟨o1',by rw[h1a];simp,h1f⟩)
 obtain⟨p2,hp2,hp2e⟩:∃p2∈m.ops2,p2.1=o2:=by
  have:o2∈m.ops2.map (·.1):=by rw[h2a];simp
  obtain⟨p2,h1,h2⟩:=List.mem_map.1 this;exact⟨p2,h1,h2⟩
 have hew:q.e∈m.wr x:=by
  simp only[MR.wr,List.mem_append];exact .inr (.inl (List.mem_filterMap.2 ⟨p2,hp2,by rw[hp2e];exact h2c⟩))
 generalize hbase:((st1.putO (some q.it) .junk).tm.keep).junk (m.wr x)=base at*;obtain⟨t0,z3,k1,k2,k3,k4,k5,k6,k7,k8,k9,k10⟩:=fhZ (base:=base) (nt:=st1.nt) (n0:=Nat.max st1.n0 (m.mid+1)) h1 hMI.nx hMI.D hMI.H hMI.s (q2 z2 a2 hMI.s hMI.l) hMI.n0 q3 q4 h0';have hg3:∃sz n,z3.ρ m.mid= .real gm sz n:=by
  obtain⟨sz,n,h⟩:=hgm;exact⟨sz,n,(k10 _ _ hpair).trans h⟩
 have hMI3:MI z0 N L' (m.sh.inj base st1.nt (Nat.max st1.n0 (m.mid+1)) t0) r gm g0.2 [] a2 w2 z3:=
  ⟨k2.trans hMI.hw,k3,k4,k5,k6,k7,hMI.df,by rw[LShp.inj_eq];exact⟨hnN,hMI.nt.2⟩,by rw[LShp.inj_eq];exact h0',by rw[k2];exact hMI.lt,fun h=>hMI.C (k9 _ h),by rw[k8];exact hMI.M,hMI.own,by rw[k2];exact hMI.it⟩
 obtain⟨n,hn⟩:=k5Z k1;clear k1 k2 k3 k4 k5 k6 k7 k8 k9 k10 hMI hgm h1 hpair hg0 hm0 hi1;refine wp_block (wp_loop_rounds n ?_);generalize hhd:(fun t=>(mapAt m.kt m.vt (m.sh.inj base st1.nt (Nat.max st1.n0 (m.mid+1)) t).hp m.mid).ob fun g=>need (Nat.beq g.2 g0.2) (some g.1))=hd at hn;generalize hfd:(fun(t:m.sh.D) (e:(m.kt.den×m.vt.den)×Nat)=>evOps P T m.ops2.tail (m.ops2.map (·.1)) ((((m.sh.inj base st1.nt (Nat.max st1.n0 (m.mid+1)) t).putO (some q.n) .junk).putO (some q.b) (.b true)).putO (some q.e) (.tup [.ofTy m.kt e.1.1,.ofTy m.vt e.1.2])) fun st2=>
  evS P T fu (β:=m.sh.D⊕Out m.ret m.outs β) x st2 (fun st3=>st3.prj m.sh fun t'=>some (.inl t'))
   (fun j st3=>bq (Nat.beq j m.C) (st3.prj m.sh fun t'=>some (.inl t')) (Out.mk st3 m.ret m.outs j fun o=>some (.inr o)))
   (fun st3=>(R st3).ob fun b=>Out.retO m.ret m.outs b fun o=>some (.inr o)))=fd at hn
 revert hn hMI3 hg3;generalize ([]:List Nat)=seen;generalize t0=t;generalize a2=a3;generalize w2=w3;clear a2 w2 t0;revert seen t a3 w3 z3;clear z2;induction n with
 |zero=>intro z seen t a w _ _ h;exact h.elim
 |succ n ih=>
 intro z seen t a w hgm hMI hn;obtain⟨l,hl,hend,hstep⟩:=hn;rw[<-hhd] at hl;obtain⟨g,hg,hl⟩:=aeZ.1 hl;obtain⟨hgc,hl⟩:=adZ.1 hl;simp only[Option.some.injEq] at hl;subst hl;rw[abZ] at hgc;obtain⟨sz,nn,hρ⟩:=hgm;obtain⟨es,e1,e2,e3,e4,e5⟩:=hRZ hMI.H hg hρ;rw[hgc] at e1 e5;have hit:=hMI.it;obtain rfl:=hMI.hw;have hit0:a.eval (.tmp q.it)= .pointer (some ⟨r,0,none⟩):=(hMI.l _ (q1 _ List.mem_cons_self)).v.opq.1;have hat:∀{i:Nat} {e:MapEntry},es[i]? =some e->∃x,g.1[i]? =some x/\VRep z.w z.M z.ρ m.kt x.1.1 e.key/\VRep z.w z.M z.ρ m.vt x.1.2 e.val/\e.born=x.2:=fun{i e} he=>by
  have hi:i<g.1.length:=by rw[<-e2];exact(Array.getElem?_eq_some_iff.1 he).1
  exact⟨_,List.getElem?_eq_getElem hi,e3 i _ e (List.getElem?_eq_getElem hi) he⟩
 have hold:∀x∈es.toList,x.born<g0.2:=fun x hx=>by
  obtain⟨i,hi⟩:=List.getElem?_of_mem hx;rw[Array.getElem?_toList] at hi;obtain⟨y,h1,_,_,h2⟩:=hat hi;rw[h2];exact e5 i y h1
 have hnd:(es.toList.map (·.born)).Nodup:=by
  unfold List.Nodup;rw[List.pairwise_iff_getElem];intro i j hi hj hij;simp only[List.length_map,Array.length_toList] at hi hj;have h1:=Array.getElem?_eq_getElem (xs:=es) (i:=i) hi;have h2:=Array.getElem?_eq_getElem (xs:=es) (i:=j) hj;obtain⟨y1,a1,_,_,b1⟩:=hat h1;obtain⟨y2,a2,_,_,b2⟩:=hat h2;simp only[List.getElem_map,Array.getElem_toList];intro h;have:=e4 i j y1 y2 a1 a2 (by rw[<-b1,<-b2,h]);omega
 rw[rounds_succ];have ha1:arr1=#[o1,o1']:=by
  apply Array.toList_inj.1;rw[<-hops1,h1a]
 subst ha1;refine wp_seq (wp_region ?_);simp only[List.size_toArray,List.length_cons,List.length_nil];show wpOps P #[o1,o1'] _ [0,1] a z.w;simp only[wpOps,List.getElem?_toArray,List.getElem?_cons_zero,List.getElem?_cons_succ,bUZ h1d,bUZ h1g];rw[if_pos trivial];refine .inl ?_;rcases run_next_at (P:=P) (ty:=o1.type) hit e1 hold with⟨hall,hrun⟩|⟨e,he,hne,d,hdr,hrun⟩
 ·
  unfold Oper.wp;have hx1:(execOp a.eval o1).run P z.w= .ok (.value (.tuple #[.bool false])) z.w:=by
   simp only[execOp,h1b,hit0,Sem.run_bind,hrun];rfl
  rw[hx1,Oper.upon_value,h1c];refine .inl ?_;have hdl:q.n<a.tmps.size:=by rw[hMI.nt.2];exact Nat.lt_of_lt_of_le l2 hnN
  have hnt':(m.sh.inj base st1.nt (Nat.max st1.n0 (m.mid+1)) t).nt=st1.nt:=by rw[LShp.inj_eq]
  have hM1:=hMI.put (d:=q.n) (x:=.junk) (v:=.tuple #[.bool false]) (by rw[hnt'];exact l2) (hdL _ hnw) (.junk _);have hx2:(execOp (a.put (some q.n) (.tuple #[.bool false])).eval o1').run P z.w= .ok (.value (.bool false)) z.w:=by
   simp only[execOp,h1e,aEZ hdl,Sem.run_bind];rfl
  rw[hx2,Oper.upon_value,h1f];have hM2:=hM1.put (d:=q.b) (x:=.b false) (v:=.bool false) (by show q.b<(m.sh.inj base st1.nt (Nat.max st1.n0 (m.mid+1)) t).nt;rw[hnt'];exact l3) (hdL _ hbw) (.p _ _ _ ⟨_,rfl,rfl⟩);have hdb:q.b<(a.put (some q.n) (.tuple #[.bool false])).tmps.size:=by rw[hM1.nt.2];exact Nat.lt_of_lt_of_le l3 hnN
  refine wp_seq (wp_cond_false (by rw[hmo];exact aEZ hdb) (wp_exit ?_));show(if m.J'=m.J then Q .normal _ _ else Q (.exit m.J') _ _);rw[if_pos hJ.symm];have hF:=hend (by
   unfold mleft;rw[List.filter_eq_nil_iff];intro y hy;obtain⟨i,hi⟩:=List.getElem?_of_mem hy;have hi':i<es.size:=by rw[e2];exact(List.getElem?_eq_some_iff.1 hi).1
   obtain⟨y',b1,_,_,b2⟩:=hat (Array.getElem?_eq_getElem hi');rw[hi] at b1;simp only[Option.some.injEq] at b1;subst b1;have:=hall es[i] (by simp);rw[b2] at this;simp only[Bool.not_eq_true',Bool.not_eq_false];rw[agZ];simpa using this)
  obtain⟨t2,z4,b1,b2,b3,b4,b5,b6,b7,b8,b9,b10⟩:=fhZ (base:=base) (nt:=st1.nt) (n0:=st1.n0) hF hM2.nx hM2.D hM2.H hM2.s hM2.l hM2.n0 q3 q4 h01;refine hK _ _ _ b1 ⟨z4,b2,b3,b4,b5,b6,fun p hp=>b7 p (q1 p (List.mem_cons_of_mem _ hp)),hM2.df,by rw[LShp.inj_eq];exact⟨hnN,hM2.nt.2⟩,by rw[LShp.inj_eq];exact h01⟩
 ·
  obtain⟨i,hi⟩:=List.getElem?_of_mem he;rw[Array.getElem?_toList] at hi;obtain⟨kv,c1,c2,c3,c4⟩:=hat hi;have hmem:kv∈mleft seen g.1:=by
   refine List.mem_filter.2 ⟨List.mem_of_getElem? c1,?_⟩;simp only[Bool.not_eq_true'];cases hm:memN kv.2 seen
   ·rfl
   ·rw[agZ,<-c4] at hm;have:seen.reverse.toArray.contains e.born=true:=by simpa using hm
    rw[this] at hne;cases hne
  obtain⟨hM0,hkp⟩:=hMI.step e.born d hdr;have hgr:gm≠r:=fun h=>by subst h;rw[e1] at hit;cases hit
  unfold Oper.wp;have hx1:(execOp a.eval o1).run P z.w= .ok (.value (.tuple #[.bool true,e.key,e.val])) {z.w with drawn:=d,heap:=z.w.heap.setIfInBounds r (.mapIter (some gm) g0.2 (seen.reverse.toArray.push e.born) g0.2)}:=by
   simp only[execOp,h1b,hit0,Sem.run_bind,hrun];rfl
  rw[hx1,Oper.upon_value,h1c];have hw1:({z.w with drawn:=d,heap:=z.w.heap.setIfInBounds r (.mapIter (some gm) g0.2 (seen.reverse.toArray.push e.born) g0.2)}:World).heap[gm]? =some (.map es g0.2):=by
   show(z.w.heap.setIfInBounds r _)[gm]? =_;rw[Array.getElem?_setIfInBounds_ne (Ne.symm hgr)];exact e1
  have hk1:=c2.kp hkp;have hk2:=c3.kp hkp;generalize ({z.w with drawn:=d,heap:=z.w.heap.setIfInBounds r (.mapIter (some gm) g0.2 (seen.reverse.toArray.push e.born) g0.2)}:World)=w1 at*;have hρ1:({z with w:=w1}:Z).ρ m.mid= .real gm sz nn:=hρ;generalize ({z with w:=w1}:Z)=z1 at*;refine .inl ?_;have hdl:q.n<a.tmps.size:=by rw[hMI.nt.2];exact Nat.lt_of_lt_of_le l2 hnN
  have hnt':(m.sh.inj base st1.nt (Nat.max st1.n0 (m.mid+1)) t).nt=st1.nt:=by rw[LShp.inj_eq]
  have hM1:=hM0.put (d:=q.n) (x:=.junk) (v:=.tuple #[.bool true,e.key,e.val]) (by rw[hnt'];exact l2) (hdL _ hnw) (.junk _);have hx2:(execOp (a.put (some q.n) (.tuple #[.bool true,e.key,e.val])).eval o1').run P w1= .ok (.value (.bool true)) w1:=by
   simp only[execOp,h1e,aEZ hdl,Sem.run_bind];rfl
  rw[hx2,Oper.upon_value,h1f];have hM2:=hM1.put (d:=q.b) (x:=.b true) (v:=.bool true) (by show q.b<(m.sh.inj base st1.nt (Nat.max st1.n0 (m.mid+1)) t).nt;rw[hnt'];exact l3) (hdL _ hbw) (.p _ _ _ ⟨_,rfl,rfl⟩);have hdb:q.b<(a.put (some q.n) (.tuple #[.bool true,e.key,e.val])).tmps.size:=by rw[hM1.nt.2];exact Nat.lt_of_lt_of_le l3 hnN
  refine wp_seq (wp_cond_true (by rw[hmo];exact aEZ hdb) (wp_skip ?_));refine wp_block (wp_seq (wp_region ?_));have ha2:arr2.size=m.ops2.tail.length+1:=by
   have e1:=congrArg List.length hops2;have e2:=congrArg List.length h2a;simp only[List.length_map,Array.length_toList,List.length_cons] at e1 e2;rw[List.length_tail];omega
  have hhd2:arr2[0]? =some o2:=by
   rw[<-Array.getElem?_toList,<-hops2,h2a];rfl
  have hr2:List.range arr2.size=0::List.range' 1 m.ops2.tail.length:=by
   rw[ha2,List.range_eq_range',List.range'_succ]
  rw[hr2];simp only[wpOps,hhd2,bUZ h2d];rw[if_pos trivial];refine .inl ?_;unfold Oper.wp;have hit2:((a.put (some q.n) (.tuple #[.bool true,e.key,e.val])).put (some q.b) (.bool true)).eval (.tmp q.it)= .pointer (some ⟨r,0,none⟩):=(hM2.l _ (q1 _ List.mem_cons_self)).v.opq.1;have hit3:=hM2.it;rw[hM2.hw] at hit3;simp only[List.reverse_cons,<-List.push_toArray] at hit3;have hx3:(execOp ((a.put (some q.n) (.tuple #[.bool true,e.key,e.val])).put (some q.b) (.bool true)).eval o2).run P w1= .ok (.value (.tuple #[e.key,e.val])) w1:=by
   simp only[execOp,h2b,hit2,Sem.run_bind,gsZ hit3 hw1 he hnd];rfl
  rw[hx3,Oper.upon_value,h2c];have hM3:=hM2.put (d:=q.e) (x:=.tup [.ofTy m.kt kv.1.1,.ofTy m.vt kv.1.2]) (v:=.tuple #[e.key,e.val]) (by show q.e<(m.sh.inj base st1.nt (Nat.max st1.n0 (m.mid+1)) t).nt;rw[hnt'];exact l4) (hdL _ hew) (.tup _ _ rfl fun i x v p1 p2=>by
   match i with
   |0=>simp at p1 p2;subst p1;subst p2;exact aNZ hk1
   |1=>simp at p1 p2;subst p1;subst p2;exact aNZ hk2
   |i+2=>simp at p1)
  have hstp:=hstep kv hmem;rw[<-hfd] at hstp
  let zb:Z:={z1 with ρ:=fun id=>if id<Nat.max st1.n0 (m.mid+1)\/dynBase<=id then z1.ρ id else .no}
  have hzb:Nx z0 zb:=by
   have nx:=hM3.nx;refine⟨nx.os,nx.tape,nx.output,nx.size,nx.block,nx.subM,nx.subC,nx.keepM,fun id hid=> ?_,nx.dom⟩;show(if id<Nat.max st1.n0 (m.mid+1)\/dynBase<=id then z1.ρ id else .no)=_;rw[if_pos (by rcases Nat.lt_or_ge id dynBase with h|h;exact .inl (h0' id h hid);exact .inr h)];exact nx.ext id hid
  have hzb1:Nx zb z1:=by
   refine⟨rfl,⟨rfl,Nat.le_refl _⟩,rfl,Nat.le_refl _,fun _ _ _=>rfl,fun _ h=>.inl h,fun _ h=>.inl h,fun _ _ h _=>h,fun id hid=> ?_,rfl⟩;show z1.ρ id=if id<Nat.max st1.n0 (m.mid+1)\/dynBase<=id then z1.ρ id else .no;have hid:(if id<Nat.max st1.n0 (m.mid+1)\/dynBase<=id then z1.ρ id else .no)≠.no:=hid;by_cases h:id<Nat.max st1.n0 (m.mid+1)\/dynBase<=id
   ·rw[if_pos h]
   ·rw[if_neg h] at hid;exact absurd rfl hid
  have hzb0:∀id,id<dynBase->zb.ρ id≠.no->id<Nat.max st1.n0 (m.mid+1):=fun id hdy hid=>by
   have hid:(if id<Nat.max st1.n0 (m.mid+1)\/dynBase<=id then z1.ρ id else .no)≠.no:=hid;by_cases h:id<Nat.max st1.n0 (m.mid+1)
   ·exact h
   ·rw[if_neg (by omega)] at hid;exact absurd rfl hid
  have hzbm:zb.ρ m.mid= .real gm sz nn:=by
   show(if m.mid<Nat.max st1.n0 (m.mid+1)\/dynBase<=m.mid then z1.ρ m.mid else .no)=_;rw[if_pos (.inl (Nat.lt_of_lt_of_le (Nat.lt_succ_self _) (Nat.le_max_right _ _)))];exact hρ1
  have hzbn:(m.sh.inj base st1.nt (Nat.max st1.n0 (m.mid+1)) t).n0=Nat.max st1.n0 (m.mid+1):=by rw[LShp.inj_eq]
  have hib:Inv zb N L' ((((m.sh.inj base st1.nt (Nat.max st1.n0 (m.mid+1)) t).putO (some q.n) .junk).putO (some q.b) (.b true)).putO (some q.e) (.tup [.ofTy m.kt kv.1.1,.ofTy m.vt kv.1.2])) (((a.put (some q.n) (.tuple #[.bool true,e.key,e.val])).put (some q.b) (.bool true)).put (some q.e) (.tuple #[e.key,e.val])) w1:=
   ⟨z1,hM3.hw,hzb1,hM3.D,hM3.H,hM3.s,hM3.l,hM3.df,hM3.nt,fun id hdy hid=>by show id<(m.sh.inj base st1.nt (Nat.max st1.n0 (m.mid+1)) t).n0;rw[hzbn];exact hzb0 id hdy hid⟩
  obtain⟨v,hv,hvr⟩:∃v,evOps P T m.ops2.tail (m.ops2.map (·.1)) ((((m.sh.inj base st1.nt (Nat.max st1.n0 (m.mid+1)) t).putO (some q.n) .junk).putO (some q.b) (.b true)).putO (some q.e) (.tup [.ofTy m.kt kv.1.1,.ofTy m.vt kv.1.2])) (fun st2=>
   evS P T fu (β:=m.sh.D⊕Out m.ret m.outs β) x st2 (fun st3=>st3.prj m.sh fun t'=>some (.inl t'))
    (fun j st3=>bq (Nat.beq j m.C) (st3.prj m.sh fun t'=>some (.inl t')) (Out.mk st3 m.ret m.outs j fun o=>some (.inr o)))
    (fun st3=>(R st3).ob fun b=>Out.retO m.ret m.outs b fun o=>some (.inr o)))=some v/\((∃t',v= .inl t'/\MOk hd fd _ n (kv.2::seen) t')\/∃o,v= .inr o/\Out.on base st1.nt st1.n0 m.ret m.outs o (fun j st'=>bq (Nat.beq j m.J) (K st') (X j st')) some=some res):=by
   rcases hstp with⟨t',p1,p2⟩|⟨o,p1,p2⟩
   ·exact⟨_,p1,.inl ⟨t',rfl,by rw[hfd] at p2;exact p2⟩⟩
   ·exact⟨_,p1,.inr ⟨o,rfl,p2⟩⟩
  have hlow:∀{st3:St} {a3:Act} {w3:World},Inv zb N L' st3 a3 w3->∀id,id<dynBase->z0.ρ id≠.no->id<st3.n0:=fun⟨_,_,_,_,_,_,_,_,_,h⟩ id hdy hid=>h id hdy (by rw[hzb.ext id hid];exact hid);have hround:∀(st3:St) (a3:Act) (w3:World),st3.prj m.sh (fun t'=>some (.inl t'))=some v->Inv zb N L' st3 a3 w3->Code.rounds P _ _ n a3 w3:=fun st3 a3 w3 h3 hi3=>by
   obtain⟨z3,rfl,hn3,hD3,hH3,hs3,hLs3,hdf3,hnt3,h03⟩:=hi3;obtain⟨t',z4,b1,b2,b3,b4,b5,b6,b7,b8,b9,b10⟩:=fhZ (base:=base) (nt:=st1.nt) (n0:=Nat.max st1.n0 (m.mid+1)) h3 hn3 hD3 hH3 hs3 hLs3 h03 q3 q4 hzb0;simp only[Option.some.injEq] at b1;subst b1;rcases hvr with⟨t'',p1,p2⟩|⟨o,p1,_⟩
   ·injection p1 with p1;subst p1;have hCr:¬zb.C r:=hM3.C;have hMr:zb.M r:=hM3.M;have hltr:r<zb.w.heap.size:=hM3.lt;refine ih z4 (kv.2::seen) _ a3 z3.w ⟨sz,nn,by rw[b3.ext m.mid (by rw[hzbm];intro h;cases h)];exact hzbm⟩ ?_ p2;refine⟨b2,hzb.trans b3,b4,b5,b6,b7,hdf3,by rw[LShp.inj_eq];exact⟨hnN,hnt3.2⟩,by rw[LShp.inj_eq];exact h0',Nat.lt_of_lt_of_le hltr b3.size,fun h=> ?_,b3.keepM r hltr hMr hCr,hM3.own,?_⟩
    ·rcases b3.subC r h with h|h
     ·exact hCr h
     ·exact Nat.lt_irrefl _ (Nat.lt_of_lt_of_le hltr h)
    ·rw[b3.block r hltr hCr,<-c4];exact hM3.it
   ·cases p1
  refine(List.append_nil (List.range' 1 m.ops2.tail.length))▸ckZ (ops:=arr2) (tail:=[]) hT (fun st2 a4 w4 h4 hi4=> ?_) m.ops2.tail 1 (fun i x hx=> ?_) (fun x hx p hp he=>q5 p hp ?_) _ _ w1 (by rw[<-hops2];exact hv) hib
  ·refine IH h4 hy hi4 q3 (fun p hp hm=>q5 p hp (by simp only[MR.wr,List.mem_append];exact .inr (.inr hm))) (fun st3 a5 w5 h5 hi5=>hround st3 a5 w5 h5 hi5) (fun j st3 a5 w5 h5 hi5=> ?_) (fun st3 a5 w5 h5 hi5=> ?_)
   ·show(if j=m.C then Exit.then _ (Exit.inBlock m.J Q) .normal a5 w5 else Exit.then _ (Exit.inBlock m.J Q) (.exit j) a5 w5);by_cases hj:j=m.C
    ·rw[if_pos hj];rw[(abZ j m.C).2 hj,bq_true] at h5;exact hround st3 a5 w5 h5 hi5
    ·rw[if_neg hj];rw[aiZ hj,bq_false] at h5;obtain⟨o',u1,u2⟩:=Out.on_inl h5 (hi5.mono hzb (hlow hi5)) q3 q4 hnN h01;simp only[Option.some.injEq] at u1;subst u1;rcases hvr with⟨t'',p1,_⟩|⟨o,p1,p2⟩
     ·cases p1
     ·injection p1 with p1;subst p1;obtain⟨st4,u3,u4⟩:=u2 (fun j st'=>bq (Nat.beq j m.J) (K st') (X j st')) some;have u5:=u4.symm.trans p2;show(if j=m.J then Q .normal a5 w5 else Q (.exit j) a5 w5);have u6:Inv z0 N L st4 a5 w5:=u3.sub fun p hp=>q1 p (List.mem_cons_of_mem _ hp);by_cases hjJ:j=m.J
      ·rw[(abZ j m.J).2 hjJ,bq_true] at u5;rw[if_pos hjJ];exact hK _ _ _ u5 u6
      ·rw[aiZ hjJ,bq_false] at u5;rw[if_neg hjJ];exact hX _ _ _ _ u5 u6
   ·obtain⟨b,u1,u2⟩:=aeZ.1 h5;obtain⟨o',u3,u4⟩:=h9Z u2;simp only[Option.some.injEq] at u3;subst u3;rcases hvr with⟨t'',p1,_⟩|⟨o,p1,p2⟩
    ·cases p1
    ·injection p1 with p1;subst p1;have u5:some b=some res:=(u4 _ _ _ _ _).symm.trans p2;exact hR _ _ _ (u1.trans u5) ((hi5.mono hzb (hlow hi5)).sub fun p hp=>q1 p (List.mem_cons_of_mem _ hp))
  ·have e:(m.ops2.map (·.1))[i+1]? =some x.1:=by
    rw[List.getElem?_tail] at hx;rw[List.getElem?_map,hx];rfl
   rw[hops2,Array.getElem?_toList] at e;rw[Nat.add_comm];exact e
  ·simp only[MR.wr,List.mem_append];exact .inr (.inl (List.mem_filterMap.2 ⟨x,List.mem_of_mem_tail hx,he⟩))
def AC.nr:AC->Nat
 |.round _ r=>r.nr+1
 |_=>0
def Gl(P:Program)(ac:AC)(c:Code)(Q:Exit->Act->World->Prop)(a:Act)(w:World):Prop:=
 match ac with
 |.round x r=>∃cx,c= .loop cx/\Code.rounds P cx Q (AC.nr (.round x r)) a w
 |_=>c.wp P Q a w
theorem Gl.wp{ac:AC}{c:Code}{Q:Exit->Act->World->Prop}{a:Act}{w:World}(h:Gl P ac c Q a w):c.wp P Q a w:=by
 cases ac
 case round x y=>
  obtain⟨cx,rfl,h⟩:=h;exact wp_loop_rounds _ h
 all_goals exact h
theorem bwZ(hT:∀e∈T,Told P e)(hm:P.follows .mixedOrders=true):(ac:AC)->{z0:Z}->{β:Type}->{st:St}->{K:St->Option β}->{X:Nat->St->Option β}->{R:St->Option β}->{res:β}->{c:Code}->{L:List (Nat×AV)}->{a:Act}->{w:World}->
 {Q:Exit->Act->World->Prop}->evS P T fu ac st K X R=some res->ac.of c->Inv z0 N L st a w->(∀p∈L,AV.ids p.2=[])->(∀p∈L,p.1∉ac.wr)->
 (∀st' a' w',K st'=some res->Inv z0 N L st' a' w'->Q .normal a' w')->(∀i st' a' w',X i st'=some res->Inv z0 N L st' a' w'->Q (.exit i) a' w')->
 (∀st' a' w',R st'=some res->Inv z0 N L st' a' w'->Q .ret a' w')->Gl P ac c Q a w
 |.skip,z0,β,st,K,X,R,res,c,L,a,w,Q,h,hc,hi,hLn,hLw,hK,hX,hR=>by
  obtain rfl:=hc;exact wp_skip (hK _ _ _ h hi)
 |.ret,z0,β,st,K,X,R,res,c,L,a,w,Q,h,hc,hi,hLn,hLw,hK,hX,hR=>by
  obtain rfl:=hc;exact wp_ret (hR _ _ _ h hi)
 |.exit i,z0,β,st,K,X,R,res,c,L,a,w,Q,h,hc,hi,hLn,hLw,hK,hX,hR=>by
  obtain rfl:=hc;exact wp_exit (hX _ _ _ _ h hi)
 |.seq x y,z0,β,st,K,X,R,res,c,L,a,w,Q,h,hc,hi,hLn,hLw,hK,hX,hR=>by
  obtain⟨cx,cy,rfl,h1,h2⟩:=hc;simp only[AC.wr,List.mem_append,not_or] at hLw;refine wp_seq (Gl.wp (bwZ hT hm x h h1 hi hLn (fun p hp=>(hLw p hp).1) (fun st' a' w' h' hi'=> ?_) hX hR));exact Gl.wp (bwZ hT hm y h' h2 hi' hLn (fun p hp=>(hLw p hp).2) hK hX hR)
 |.cond o x y,z0,β,st,K,X,R,res,c,L,a,w,Q,h,hc,hi,hLn,hLw,hK,hX,hR=>by
  obtain⟨cx,cy,rfl,h1,h2⟩:=hc;simp only[AC.wr,List.mem_append,not_or] at hLw;obtain⟨t,h3,h4⟩:=aeZ.1 h;have hb:a.eval o= .bool t:=by
   obtain⟨z,_,_,_,_,hs,_⟩:=hi;exact bkZ h3 (dfZ hs o)
  cases t
  ·exact wp_cond_false hb (Gl.wp (bwZ hT hm y h4 h2 hi hLn (fun p hp=>(hLw p hp).2) hK hX hR))
  ·exact wp_cond_true hb (Gl.wp (bwZ hT hm x h4 h1 hi hLn (fun p hp=>(hLw p hp).1) hK hX hR))
 |.block i x,z0,β,st,K,X,R,res,c,L,a,w,Q,h,hc,hi,hLn,hLw,hK,hX,hR=>by
  obtain⟨cx,rfl,h1⟩:=hc;refine wp_block (Gl.wp (bwZ hT hm x h h1 hi hLn hLw hK (fun j st' a' w' h' hi'=> ?_) hR));show if j=i then Q .normal a' w' else Q (.exit j) a' w';by_cases hj:j=i
  ·rw[(abZ j i).2 hj,bq_true] at h';rw[if_pos hj];exact hK _ _ _ h' hi'
  ·rw[aiZ hj,bq_false] at h';rw[if_neg hj];exact hX _ _ _ _ h' hi'
 |.region i opsA d,z0,β,st,K,X,R,res,c,L,a,w,Q,h,hc,hi,hLn,hLw,hK,hX,hR=>by
  obtain⟨arr,rfl,h1⟩:=hc;have hLd:∀x∈opsA,∀p∈L,x.1.dst≠some p.1:=fun x hx p hp he=>hLw p hp (by
   simp only[AC.wr];exact List.mem_filterMap.2 ⟨x,hx,he⟩)
  have hsz:opsA.length=arr.size:=by
   have:=congrArg List.length h1;simpa using this
  have h:bq d (need (edgesOk 0 (opsA.map (·.1))&&nmsOk (nms (clos 0 (opsA.map (·.1)) []) (opsA.map (·.1)) 0 (opsA.map (·.1))))<|evOpsD P T (numb 0 opsA) (opsA.map (·.1)) st [] fun st' fs=>need (pairsOk (clos 0 (opsA.map (·.1)) []) fs)<|K st') (evOps P T opsA (opsA.map (·.1)) st K)=some res:=h
  rw[h1] at h;cases d
  ·rw[bq_false] at h;refine wp_region ?_;have:=lmZ hT hK opsA 0 (fun i x hx=>by
    have e:(opsA.map (·.1))[i]? =some x.1:=by rw[List.getElem?_map,hx];rfl
    rw[h1] at e;rw[Nat.zero_add,<-Array.getElem?_toList];exact e) hLd st a w h hi
   rw[List.range_eq_range',<-hsz];exact this
  ·rw[bq_true] at h;obtain⟨h2,h3⟩:=adZ.1 h;simp only[Bool.and_eq_true] at h2;exact wp_region_any hm (kYZ hT h1 hLd hK h2.1 h2.2 h3 hi.drew)
 |.join sh rt outs x,z0,β,st,K,X,R,res,c,L,a,w,Q,h,hc,hi,hLn,hLw,hK,hX,hR=>by
  obtain⟨o,h1,h2⟩:=Option.bind_eq_some_iff.1 h;obtain⟨L',q1,q2,q3,q4,q5⟩:=keZ hi hLn x.wr hLw;obtain⟨_,_,_,_,_,_,_,_,hnt,h0⟩:=hi;refine Gl.wp (bwZ hT hm x h1 hc q2 q3 q5 (fun st' a' w' h' hi'=> ?_) (fun i st' a' w' h' hi'=> ?_) (fun st' a' w' h' hi'=> ?_))
  ·obtain⟨o',e1,e2⟩:=Out.on_inl h' hi' q3 q4 hnt.1 h0;simp only[Option.some.injEq] at e1;subst e1;obtain⟨st1,e3,e4⟩:=e2 (fun i st''=>match i with|0=>K st''|i+1=>X i st'') some
   exact hK st1 a' w' (e4.symm.trans h2) (e3.sub q1)
  ·obtain⟨o',e1,e2⟩:=Out.on_inl h' hi' q3 q4 hnt.1 h0;simp only[Option.some.injEq] at e1;subst e1;obtain⟨st1,e3,e4⟩:=e2 (fun i st''=>match i with|0=>K st''|i+1=>X i st'') some
   exact hX i st1 a' w' (e4.symm.trans h2) (e3.sub q1)
  ·obtain⟨b,e1,e2⟩:=aeZ.1 h';obtain⟨o',e3,e4⟩:=h9Z e2;simp only[Option.some.injEq] at e3;subst e3;have:some b=some res:=(e4 _ _ _ _ _).symm.trans h2;exact hR st' a' w' (e1.trans this) (hi'.sub q1)
 |.pre g x,z0,β,st,K,X,R,res,c,L,a,w,Q,h,hc,hi,hLn,hLw,hK,hX,hR=>by
  obtain⟨st1,h1,h2⟩:=ehZ h;have hg:Inv z0 N L st1 a w:=ikZ h1 hi (fun k he p hp hk=>hLw p hp (by
   rcases he with⟨e,id,he⟩|he
   ·subst he;simp[AC.wr,hk]
   ·subst he;simp[AC.wr,hk])) hLn
  refine Gl.wp (bwZ hT hm x h2 hc hg hLn (fun p hp hmem=>hLw p hp ?_) hK hX hR);cases g with
  |ownNil k e id=>exact List.mem_cons_of_mem _ hmem
  |pure k=>exact List.mem_cons_of_mem _ hmem
  |mem k f=>exact List.mem_cons_of_mem _ hmem
  |_=>exact hmem
 |.sel q x y,z0,β,st,K,X,R,res,c,L,a,w,Q,h,hc,hi,hLn,hLw,hK,hX,hR=>by
  simp only[AC.wr,List.mem_append,not_or] at hLw;have h:bq (Cn.holds st q) (evS P T fu x st K X R) (evS P T fu y st K X R)=some res:=h;cases hf:Cn.holds st q<;>rw[hf] at h
  ·exact Gl.wp (bwZ hT hm y h hc.2 hi hLn (fun p hp=>(hLw p hp).2) hK hX hR)
  ·exact Gl.wp (bwZ hT hm x h hc.1 hi hLn (fun p hp=>(hLw p hp).1) hK hX hR)
 |.mrange m x,z0,β,st,K,X,R,res,c,L,a,w,Q,h,hc,hi,hLn,hLw,hK,hX,hR=>
  n9Z hT (fun h hc hi hLn hLw hK hX hR=>Gl.wp (bwZ hT hm x h hc hi hLn hLw hK hX hR)) h hc hi hLn hLw hK hX hR
 |.bad c',z0,β,st,K,X,R,res,c,L,a,w,Q,h,hc,hi,hLn,hLw,hK,hX,hR=>by cases h
 |.post g x,z0,β,st,K,X,R,res,c,L,a,w,Q,h,hc,hi,hLn,hLw,hK,hX,hR=>by
  refine Gl.wp (bwZ hT hm x h hc hi hLn (fun p hp hmem=>hLw p hp ?_) (fun st' a' w' h' hi'=> ?_) hX hR)
  ·cases g with
   |ownNil k e id=>exact List.mem_cons_of_mem _ hmem
   |pure k=>exact List.mem_cons_of_mem _ hmem
   |mem k f=>exact List.mem_cons_of_mem _ hmem
   |_=>exact hmem
  ·obtain⟨st1,h1,h2⟩:=ehZ h';refine hK st1 a' w' h2 (ikZ h1 hi' (fun k he p hp hk=>hLw p hp ?_) hLn);rcases he with⟨e,id,he⟩|he
   ·subst he;simp[AC.wr,hk]
   ·subst he;simp[AC.wr,hk]
 |.round x y,z0,β,st,K,X,R,res,c,L,a,w,Q,h,hc,hi,hLn,hLw,hK,hX,hR=>by
  obtain⟨cx,rfl,h1,h2⟩:=hc;simp only[AC.wr,List.mem_append,not_or] at hLw;obtain⟨h3,h4⟩:=adZ.1 h;refine⟨cx,rfl,Gl.wp (bwZ hT hm x h4 h1 hi hLn (fun p hp=>(hLw p hp).1) (fun st' a' w' h' hi'=> ?_) (fun i st' a' w' h' hi'=>hX i st' a' w' h' hi') (fun st' a' w' h' hi'=>hR st' a' w' h' hi'))⟩;have hy:=bwZ hT hm y h' h2 hi' hLn (fun p hp=>(hLw p hp).2) hK hX hR;cases y with
  |round x' y'=>
   obtain⟨cx',e,hn⟩:=hy;injection e with e;subst e;exact hn
  |bad c'=>cases h'
  |_=>cases h3
 |.loop sh rt outs x,z0,β,st,K,X,R,res,c,L,a,w,Q,h,hc,hi,hLn,hLw,hK,hX,hR=>by
  obtain⟨cx,rfl,h1⟩:=hc;obtain⟨L',q1,q2,q3,q4,q5⟩:=keZ hi hLn x.wr hLw;obtain⟨t0,p1,p2⟩:=gvZ (r:=res) h q2 q3 q4 (nt:=st.nt) (n0:=st.n0) (by obtain⟨_,_,_,_,_,_,_,_,hnt,_⟩:=hi;exact hnt.1) (by obtain⟨_,_,_,_,_,_,_,_,_,h0⟩:=hi;exact h0);obtain⟨_,_,_,_,_,_,_,_,hnt,h0⟩:=hi;obtain⟨o,r1,r2⟩:=Option.bind_eq_some_iff.1 p1;generalize hbase:(st.tm.keep).junk x.wr=base at*;generalize hf:(fun t=>evS P T fu (β:=sh.D⊕Out rt outs β) x (sh.inj base st.nt st.n0 t) (fun st''=>st''.prj sh fun t'=>some (.inl t'))
   (fun i st''=>Out.mk st'' rt outs i fun o=>some (.inr o))
   (fun st''=>(R st'').ob fun b=>Out.retO rt outs b fun o=>some (.inr o)))=f at*
  let p:Act->World->Nat->Prop:=fun a' w' n=>∃t,iter n f t=some o/\Inv z0 N L' (sh.inj base st.nt st.n0 t) a' w'
  classical
  let μ:Act->World->Nat:=fun a' w'=>if h:∃n,p a' w' n then Classical.choose (mQZ h) else 0
  have hμ:∀a' w' n,p a' w' n->μ a' w'<=n/\p a' w' (μ a' w'):=fun a' w' n hn=>by
   have hex:∃n,p a' w' n:=⟨n,hn⟩;have e:μ a' w'=Classical.choose (mQZ hex):=dif_pos hex;have hs:=Classical.choose_spec (mQZ hex);rw[e];exact⟨hs.2 n hn,hs.1⟩
  refine wp_loop (fun a' w'=>∃n,p a' w' n) μ ⟨fu,t0,r1,p2⟩ fun a1 w1 ⟨n1,hn1⟩=> ?_;obtain⟨_,t,ht,hit⟩:=hμ a1 w1 n1 hn1;obtain⟨m,hm'⟩:∃m,μ a1 w1=m+1:=by
   cases hz:μ a1 w1 with
   |zero=>rw[hz] at ht;cases ht
   |succ m=>exact⟨m,rfl⟩
  rw[hm'] at ht⊢;obtain⟨r,ht1,ht2⟩:=aeZ.1 (show(f t).ob _=some o from ht);have hft:evS P T fu (β:=sh.D⊕Out rt outs β) x (sh.inj base st.nt st.n0 t) (fun st''=>st''.prj sh fun t'=>some (.inl t'))
   (fun i st''=>Out.mk st'' rt outs i fun o=>some (.inr o))
   (fun st''=>(R st'').ob fun b=>Out.retO rt outs b fun o=>some (.inr o))=some r:=by rw[<-ht1,<-hf]
  refine Gl.wp (bwZ hT hm x hft h1 hit q3 q5 (fun st' a' w' h' hi'=> ?_) (fun i st' a' w' h' hi'=> ?_) (fun st' a' w' h' hi'=> ?_))
  ·obtain⟨t',e1,e2⟩:=gvZ h' hi' q3 q4 (nt:=st.nt) (n0:=st.n0) hnt.1 h0;simp only[Option.some.injEq] at e1;subst e1;have hp:p a' w' m:=⟨t',ht2,e2⟩;exact⟨⟨m,hp⟩,Nat.lt_succ_of_le (hμ a' w' m hp).1⟩
  ·obtain⟨o',e1,e2⟩:=Out.on_inl h' hi' q3 q4 (nt:=st.nt) (n0:=st.n0) hnt.1 h0;simp only[Option.some.injEq] at e1;subst e1;simp only[Option.some.injEq] at ht2;subst ht2;obtain⟨st1,e3,e4⟩:=e2 X some;exact hX i st1 a' w' (e4.symm.trans r2) (e3.sub q1)
  ·obtain⟨b,e1,e2⟩:=aeZ.1 h';obtain⟨o',e3,e4⟩:=h9Z e2;simp only[Option.some.injEq] at e3;subst e3;simp only[Option.some.injEq] at ht2;subst ht2;have:some b=some res:=(e4 _ _ _ _ _).symm.trans r2;exact hR st' a' w' (e1.trans this) (hi'.sub q1)
theorem nzZ{z0:Z}(hT:∀e∈T,Told P e)(hm:P.follows .mixedOrders=true)(ac:AC){β:Type}{st:St}{K:St->Option β}{X:Nat->St->Option β}{R:St->Option β}{res:β}{c:Code}{L:List (Nat×AV)}{a:Act}{w:World}
 {Q:Exit->Act->World->Prop}(h:evS P T fu ac st K X R=some res)(hc:ac.of c)(hi:Inv z0 N L st a w)(hLn:∀p∈L,AV.ids p.2=[])(hLw:∀p∈L,p.1∉ac.wr)
 (hK:∀st' a' w',K st'=some res->Inv z0 N L st' a' w'->Q .normal a' w')(hX:∀i st' a' w',X i st'=some res->Inv z0 N L st' a' w'->Q (.exit i) a' w')
 (hR:∀st' a' w',R st'=some res->Inv z0 N L st' a' w'->Q .ret a' w'):c.wp P Q a w:=(Gl.wp (bwZ hT hm ac h hc hi hLn hLw hK hX hR))
end
end Go.Ab
namespace Go.Ab
section
variable {P : Program} {T : Tbl} {β : Type} {z : Z} {H : Hp}
theorem fvZ:∀(d k:Nat),(Tr.full d).get k= .junk
 |0,k=>rfl
 |d+1,k=>by
  simp only[Tr.full,Tr.get];cases Nat.beq k 0
  ·cases Nat.beq (k%2) 1
   ·exact fvZ d _
   ·exact fvZ d _
  ·rfl
theorem fXZ{f:Nat->Value}:∀{vs:List AV} {k0:Nat} {t:Tr},(∀k,ARep z (t.get k) (f k))->(∀(j:Nat) a,vs[j]? =some a->ARep z a (f (k0+j)))->∀k,ARep z ((initTm t k0 vs).get k) (f k)
 |[],k0,t,h,_,k=>h k
 |a::vs,k0,t,h,hv,k=>by
  simp only[initTm];refine fXZ (fun j=> ?_) (fun j a' h'=>by have:=hv (j+1) a' (by simpa using h');rwa [show k0+(j+1)=k0+1+j by omega] at this) k;by_cases hj:j=k0
  ·subst hj;rcases(Tr.get_put t j a j).2 with e|e<;>rw[e]
   ·exact hv 0 a rfl
   ·exact .junk _
  ·rw[(Tr.get_put t k0 a j).1 hj];exact h j
theorem h3Z{t:TypeId}{pv v:Value}{w w':World}(h:(Instr.loadAt t pv).run P w= .ok v w'):((do loadVar t (<-asAddr pv)):Sem Value).run P w= .ok v w':=by
 unfold Instr.loadAt at h;cases pv
 case pointer x=>cases x<;>first|exact h|(simp[Instr.sureAddr,Sem.run_bind] at h;done)
 all_goals(simp[Instr.sureAddr,Sem.run_bind] at h;done)
def resF(tmps:Array Value)(r:ResultVar):Sem Value:=
 match r with
 |.tmp t=>pure (tmps.getD t undef)
 |.cell a t=>do loadVar t (<-asAddr (tmps.getD a undef))
theorem j6Z(fn:Func)(tmps:Array Value):results fn tmps=(do
 let vs<-fn.results.mapM (resF tmps)
 pure (if h:vs.size=1 then vs[0] else .tuple vs)):=rfl
theorem djZ{st:St}{a:Act}(hH:HRep z st.hp)(hs:∀t,ARep z (st.tm.get t) (a.eval (.tmp t))):∀{rs:List ResultVar} {K:List AV->Option β} {res:β},loadRes P rs st K=some res->
 ∃l vs,K l=some res/\AReps z l vs/\(rs.mapM (resF a.tmps)).run P z.w= .ok vs z.w
 |[],K,res,h=>⟨[],[],h,.nil,rfl⟩
 |.tmp t::rs,K,res,h=>by
  obtain⟨l,vs,h1,h2,h3⟩:=djZ hH hs (rs:=rs) h;refine⟨_,a.eval (.tmp t)::vs,h1,.cons (hs t) h2,?_⟩;rw[List.mapM_cons];simp only[resF,Sem.run_bind,Sem.run_pure,Result.andThen_ok,h3]
  rfl
 |.cell x t::rs,K,res,h=>by
  obtain⟨y,v,h1,h2,h3⟩:=geZ h hH (hs x);obtain⟨l,vs,h4,h5,h6⟩:=djZ hH hs (rs:=rs) h3;refine⟨_,v::vs,h4,.cons h2 h5,?_⟩;rw[List.mapM_cons];have h1':(resF a.tmps (.cell x t)).run P z.w= .ok v z.w:=h3Z h1;rw[Sem.run_bind,h1',Result.andThen_ok,Sem.run_bind,h6]
  rfl
theorem jlZ{st:St}{a:Act}{fn:Func}{K:List AV->Option β}{res:β}(hH:HRep z st.hp)(hs:∀t,ARep z (st.tm.get t) (a.eval (.tmp t)))(h:loadRes P fn.results.toList st K=some res):
 ∃l v vs,K l=some res/\AReps z l vs/\(results fn a.tmps).run P z.w= .ok v z.w/\∀{z':Z} {l':List AV},AReps z' l' vs->ARep z' (tupA l') v:=by
 obtain⟨l,vs,h1,h2,h3⟩:=djZ hH hs h;refine⟨l,if h:vs.toArray.size=1 then vs.toArray[0] else .tuple vs.toArray,vs,h1,h2,?_,fun{z' l'} h'=> ?_⟩
 ·rw[j6Z,Array.mapM_eq_mapM_toList,map_eq_pure_bind,Sem.run_bind,Sem.run_bind,h3]
  rfl
 ·have hl:=h'.1
  match vs,l',h',hl with
  |[],[],h',_=>exact .tup [] #[] rfl fun i x v h=>by simp at h
  |[v],[b],h',_=>exact h'.head
  |u::v::vs,b::c::l',h',hl=>
   refine .tup _ _ (by simpa using hl.symm) fun i x y q1 q2=>h'.2 i x y q1 (by simpa using q2)
theorem OutS.one_ok{s:Shp}{vs:List AV}{ps:List (Nat×Nat)}{vals:List Value}{K:s.D->Option β}{res:β}(ρ0:Rho)(hρ0:∀k,famBase<=k->k<dynBase->ρ0 k= .no)(hρd:∀k,dynBase<=k->ρ0 k= .no)(hH:HRep z H)(hv:AReps z vs vals)(hn:allFamIn (famNs (hkKeys s.hs)) s.tys=true)(h:s.rco vs H ps K=some res):
 ∃t,K t=some res/\∃z',z'.w=z.w/\z'.M=z.M/\HRep z' (s.emb t).2/\AReps z' (s.emb t).1 vals/\(∀k,memN k (hkKeys s.hs)=true->∃id,(id,k)∈ps/\z'.ρ k=z.ρ id)/\(∀k,k<dynBase->memN k (hkKeys s.hs)=false->z'.ρ k=ρ0 k)/\
  (∀g,z'.C g->z.C g)/\(∀k,z'.D k->ρ0 k≠.no)/\∀k,dynBase<=k->rt k∈hkKeys s.hs->z'.ρ k=z.ρ k:=by
 obtain⟨t,z0,k1,k2,k3,k4,k5,k6,k7,k8,k9,k10,k11,k12,k13,k14⟩:=Shp.rco_ok ρ0 hρ0 h hH hv;obtain⟨z',x1,x2,x3,x4,x5,x6,x7,x8⟩:=htZ hn k4 k5 k13 k14;refine⟨t,k1,z',x1.trans k2,x2.trans k3,x3,x4,fun k hk=> ?_,fun k hd hk=> ?_,fun g h=>k8 g (by rw[<-x6];exact h),fun k hk=> ?_,fun k hd hk=> ?_⟩
 ·obtain⟨id,a1,a2⟩:=k6 k hk;exact⟨id,a1,(x5 k (.inl (k13 k hk))).trans a2⟩
 ·rw[x5 k (.inl hd),k7 k hk,if_neg (Nat.not_le.2 hd)]
 ·obtain⟨y1,y2⟩:=x7 k hk;rw[k10] at y1;rcases y1.2 with h|h
  ·rcases y2 with y2|y2
   ·omega
   ·rw[agZ.2 y2] at y1;cases y1.1
  ·exact h
 ·rw[x5 k (.inr hk),k7 k,if_pos hd];cases hc:memN k (hkKeys s.hs)
  ·rfl
  ·have:=k13 k hc;omega
theorem OutS.rco_ok{vs:List AV}{ps:List (Nat×Nat)}{vals:List Value}(ρ0:Rho)(hρ0:∀k,famBase<=k->k<dynBase->ρ0 k= .no)(hρd:∀k,dynBase<=k->ρ0 k= .no)(hH:HRep z H)(hv:AReps z vs vals):∀{l:List Shp} {K:OutS l->Option β} {res:β},(∀o∈l,allFamIn (famNs (hkKeys o.hs)) o.tys=true)->OutS.rco vs H ps l K=some res->
 ∃(x:OutS l),K x=some res/\OutS.on l x fun o t=>o∈l/\∃z',z'.w=z.w/\z'.M=z.M/\HRep z' (o.emb t).2/\AReps z' (o.emb t).1 vals/\(∀k,memN k (hkKeys o.hs)=true->∃id,(id,k)∈ps/\z'.ρ k=z.ρ id)/\(∀k,k<dynBase->memN k (hkKeys o.hs)=false->z'.ρ k=ρ0 k)/\
  (∀g,z'.C g->z.C g)/\(∀k,z'.D k->ρ0 k≠.no)/\∀k,dynBase<=k->rt k∈hkKeys o.hs->z'.ρ k=z.ρ k
 |[],K,res,hn,h=>by cases h
 |[s],K,res,hn,h=>by
  obtain⟨t,k1,k2⟩:=OutS.one_ok ρ0 hρ0 hρd hH hv (hn s List.mem_cons_self) h;exact⟨t,k1,by simp,k2⟩
 |s::o::r,K,res,hn,h=>by
  have h':bq (s.ks.fits (AV.renL (noOf ps) vs)&&hkFits s.hs (renH H (noOf ps) ps)) (s.rco vs H ps fun x=>K (.inl x)) (OutS.rco vs H ps (o::r) fun x=>K (.inr x))=some res:=h;cases hb:(s.ks.fits (AV.renL (noOf ps) vs)&&hkFits s.hs (renH H (noOf ps) ps))<;>rw[hb] at h'<;>simp only[bq_true,bq_false] at h'
  ·obtain⟨x,h1,h2⟩:=OutS.rco_ok ρ0 hρ0 hρd hH hv (fun o ho=>hn o (List.mem_cons_of_mem _ ho)) h';refine⟨.inr x,h1,?_⟩;have up:∀{l:List Shp} {x:OutS l} {Q Q':(s:Shp)->s.D->Prop},(∀o t,Q o t->Q' o t)->OutS.on l x Q->OutS.on l x Q':=fun{l}=>by
    induction l with
    |nil=>intro x;exact Empty.elim x
    |cons a l ih=>
     cases l with
     |nil=>intro x Q Q' hq h;exact hq _ _ h
     |cons b l=>
      intro x Q Q' hq h;cases x with
      |inl y=>exact hq _ _ h
      |inr y=>exact ih (x:=y) hq h
   exact up (fun o t ⟨a,b⟩=>⟨List.mem_cons_of_mem _ a,b⟩) h2
  ·obtain⟨t,k1,k2⟩:=OutS.one_ok ρ0 hρ0 hρd hH hv (hn s List.mem_cons_self) h';exact⟨.inl t,k1,List.mem_cons_self,k2⟩
theorem dbZ:∀{l:List Nat} {n k:Nat},k∈shKeys n l->k<famBase->n<=k/\k<n+(statK l).length
 |[],n,k,h,_=>by cases h
 |i::l,n,k,h,hk=>by
  simp only[shKeys] at h;by_cases hi:famBase<=i
  ·rw[Nat.ble_eq_true_of_le hi,cond_true] at h;rcases List.mem_cons.1 h with rfl|h
   ·omega
   ·have:=dbZ h hk;simp only[statK,Nat.ble_eq_true_of_le hi,cond_true];exact this
  ·rw[dsZ hi,cond_false] at h;simp only[statK,dsZ hi,cond_false,List.length_cons];rcases List.mem_cons.1 h with rfl|h
   ·omega
   ·have:=dbZ h hk;omega
theorem OutS.on_up:∀{l:List Shp} {x:OutS l} {Q Q':(s:Shp)->s.D->Prop},(∀o t,Q o t->Q' o t)->OutS.on l x Q->OutS.on l x Q'
 |[],x,_,_,_,_=>Empty.elim x
 |[s],x,Q,Q',hq,h=>hq _ _ h
 |s::t::r,.inl y,Q,Q',hq,h=>hq _ _ h
 |s::t::r,.inr y,Q,Q',hq,h=>OutS.on_up (l:=t::r) (x:=y) hq h
theorem OutS.on_ex:∀{l:List Shp} {x:OutS l} {Q:(s:Shp)->s.D->Z->Prop},(OutS.on l x fun o t=>∃z',Q o t z')->∃z',OutS.on l x fun o t=>Q o t z'
 |[],x,_,_=>Empty.elim x
 |[s],x,Q,h=>h
 |s::t::r,.inl y,Q,h=>h
 |s::t::r,.inr y,Q,h=>OutS.on_ex (l:=t::r) (x:=y) h
theorem afZ{fu:Nat}{f:FuncId}{fn:Func}{fa:FnA}{spec:fa.i.D->Option (OutS fa.os)}(hT:∀e∈T,Told P e)(hm:P.follows .mixedOrders=true)(hf:P.funcs[f]? =some fn)(hname:(fn.name== "runtime.NumGoroutine")=false)(hbody:fn.body.isSome=true)
 (hs:∀t,evF P T fu fn fa t=spec t):Told P ⟨f,fa.i,fa.os,spec⟩:=by
 obtain⟨c,hb⟩:=Option.isSome_iff_exists.1 hbody;refine Told.of ⟨fn,c,hf,hb,hname⟩ fun t r hr z vals hH hv hD=> ?_;have h:evF P T fu fn fa t=some r:=(hs t).trans hr;unfold evF at h;rw[Shp.embC_eq] at h;obtain⟨h1,h2⟩:=adZ.1 h;simp only[Bool.and_eq_true,h1Z,Bool.not_eq_true'] at h1;obtain⟨⟨hkeys,hmd⟩,hlen,hno'⟩:=h1;have hb0:=c3Z;have hnoL:∀o∈fa.os,(allFamIn (famNs (hkKeys o.hs)) o.tys=true/\allIn (famK (hkKeys fa.i.hs)) (famK (hkKeys o.hs))=true):=fun o ho=>by
  have:=List.all_eq_true.1 hno' o ho;rwa [Bool.and_eq_true] at this
 have hno:∀o∈fa.os,allFamIn (famNs (hkKeys o.hs)) o.tys=true:=fun o ho=>(hnoL o ho).1;obtain⟨c',hc',h3⟩:=aeZ.1 h2;rw[hb] at hc';simp only[Option.some.injEq] at hc';subst hc';refine calls_of_wp hf hb ?_
 let a:Act:={tmps:=vals.toArray++Array.replicate (fn.ntmps-vals.toArray.size) undef,defers:=[]}
 have hkey:∀id,hkey (fa.i.emb t).2 id=memN id (hkKeys fa.i.hs):=fun id=>(b0Z fa.i.hs (embL fa.i.ks (hkLv fa.i.hs []) (untidy fa.i.tys t)).2 id).1;have hlow:∀id,id<dynBase->z.ρ id≠.no->id∈hkKeys fa.i.hs/\id<famBase:=fun id hdy hid=>by
  have hf:id<famBase:=Nat.not_le.1 fun h=>hid (hH.nos id h hdy);refine⟨?_,hf⟩;cases hk:memN id (hkKeys fa.i.hs)
  ·rw[<-hkey id] at hk;exact absurd ((hH.fresh id (by rw[azZ hf];exact hk)).resolve_right (hD id)) hid
  ·exact agZ.1 hk
 have hlown:∀id,id<dynBase->z.ρ id≠.no->id<(statK (hkKeys fa.i.hs)).length:=fun id hdy hid=>by
  obtain⟨h1,h2⟩:=hlow id hdy hid;rw[hkeys] at h1;have:=(dbZ h1 h2).2;omega
 have hlowd:∀id,dynBase<=id->z.ρ id≠.no->rt id∈hkKeys fa.i.hs:=fun id hdy hid=>by
  cases hk:memN (rt id) (hkKeys fa.i.hs)
  ·rw[<-hkey] at hk;refine absurd ((hH.fresh id ?_).resolve_right (hD id)) hid;rw[atZ hdy,aoZ hk];exact hk
  ·exact agZ.1 hk
 have hi:Inv z a.tmps.size [] ⟨initTm (Tr.full (depth fn.ntmps)) 0 (fa.i.emb t).1,fn.ntmps,(statK (hkKeys fa.i.hs)).length,(fa.i.emb t).2⟩ a z.w:=by
  refine⟨z,rfl,Nx.refl z,hD,hH,?_,fun p hp=>(by cases hp),rfl,⟨by simp[a];omega,rfl⟩,fun id hdy hid=>hlown id hdy hid⟩
  ·refine fXZ (f:=fun k=>a.eval (.tmp k)) (fun k=>by rw[fvZ];exact .junk _) fun j x hx=> ?_;obtain⟨v,hv1,hv2⟩:=hv.get hx;rw[Nat.zero_add];have hlt:j<vals.length:=(List.getElem?_eq_some_iff.1 hv1).1;have:a.eval (.tmp j)=v:=by
    simp only[Act.eval,a];have e:(vals.toArray++Array.replicate (fn.ntmps-vals.toArray.size) undef)[j]? =some v:=by
     rw[Array.getElem?_append_left (by simpa using hlt)];simpa using hv1
    simp only[Array.getD_eq_getD_getElem?,e,Option.getD_some]
   rw[this];exact hv2
 have fin:∀(Q:Exit->Act->World->Prop),(∀a' w',(a'.defers=[]/\∃v,(results fn a'.tmps).run P w'= .ok v w'/\∃v' z',Ending.returned v= .returned v'/\z'.w=w'/\Nx z {z' with D:=z.D}/\(∀k,z'.D k->k∈hkKeys fa.i.hs)/\OutS.on fa.os r fun o x=>HRep z' (o.emb x).2/\ARep z' (tupA (o.emb x).1) v')->Q .normal a' w')->
  ∀st' a' w',fin P fn fa st'=some r->Inv z a.tmps.size [] st' a' w'->Q .normal a' w':=fun Q hQ st' a' w' hfin hi'=>by
  refine hQ a' w' ?_;obtain⟨z1,rfl,hn,hD1,hH1,hs1,_,hdf,_,h0⟩:=hi';unfold Ab.fin at hfin;obtain⟨l,v,vs,e1,e2,e3,e4⟩:=jlZ hH1 hs1 hfin;rw[chZ] at e1;obtain⟨⟨l',H'⟩,e5,e6⟩:=aeZ.1 e1;obtain⟨z2,Mf,g1,g2,g3,g4,g5,g6⟩:=fkZ hH1 (fun _ _=>.inr (hD1 _)) e5 e2;have hM:=g6 hmd;subst hM;have hn2:=hn.trans g3;obtain⟨x,k1,k2⟩:=OutS.rco_ok (fun k=>if memN k (hkKeys fa.i.hs)=true/\k<dynBase then z2.ρ k else .no) (fun k h1 h2=>by rw[g2.nos k h1 h2,ite_self]) (fun k h=>if_neg fun h'=>by omega) g2 g5 hno e6;simp only[Option.some.injEq] at k1;subst k1;obtain⟨z3,k3⟩:=OutS.on_ex (OutS.on_up (Q':=fun o t=>∃z',o∈fa.os/\_) (fun o t ⟨h,z',k⟩=>⟨z',h,k⟩) k2);have common:z3.w=z2.w/\z3.M=z2.M/\(∀g,z3.C g->z2.C g)/\(∀k,z3.D k->k∈hkKeys fa.i.hs)/\∀id,z.ρ id≠.no->z3.ρ id=z.ρ id:=by
   have pick:∀{l:List Shp} {x:OutS l} {Q:(s:Shp)->s.D->Prop} {G:Prop},(OutS.on l x Q)->(∀o t,Q o t->G)->G:=fun{l}=>by
    induction l with
    |nil=>intro x;exact Empty.elim x
    |cons a l ih=>
     cases l with
     |nil=>intro x Q G h hq;exact hq _ _ h
     |cons b l=>
      intro x Q G h hq;cases x with
      |inl y=>exact hq _ _ h
      |inr y=>exact ih (x:=y) h hq
   refine pick k3 fun o t k=> ?_;obtain⟨ho,q1,q2,q3,q4,q5,q6,q7,q8,q9⟩:=k;refine⟨q1,q2,q7,fun k hk=> ?_,fun id hid=> ?_⟩
   ·have:=q8 k hk;cases hm:memN k (hkKeys fa.i.hs)
    ·simp[hm] at this
    ·exact agZ.1 hm
   ·by_cases hdy:dynBase<=id
    ·have hm:=hlowd id hdy hid;have hmo:=(cbZ.1 ((bqZ.1 (hnoL o ho).2) _ (cbZ.2 ⟨hm,(btZ hdy).1⟩))).1;rw[q9 id hdy hmo];exact hn2.ext id hid
    have hstat:id<dynBase:=by omega
    obtain⟨hmem,hfl⟩:=hlow id hstat hid;have hidlt:=hlown id hstat hid;cases hk:memN id (hkKeys o.hs)
    ·rw[q6 id hstat hk,if_pos ⟨agZ.2 hmem,hstat⟩];exact hn2.ext id hid
    ·obtain⟨id',p1,p2⟩:=q5 id hk;have:id'=id:=by
      rcases List.mem_append.1 p1 with p1|p1
      ·obtain⟨m,b1,b2⟩:=fbZ p1;rcases Nat.lt_or_ge m ((reach H' reachFuel (rangeN 0 (statK (hkKeys fa.i.hs)).length++AV.idsL l') []).filter fun i=>Nat.blt i (statK (hkKeys fa.i.hs)).length).length with hlt|hge
       ·rw[List.getElem?_append_left hlt] at b1 b2;rw[b1] at b2;exact Option.some.inj b2
       ·rw[List.getElem?_append_right hge] at b2;have:=(jjZ b2).1;omega
      ·exact(eiZ.1 p1).1
     rw[p2,this];exact hn2.ext id hid
  obtain⟨c1,c2,c3,c4,c5⟩:=common;refine⟨hdf,v,e3,v,z3,rfl,c1.trans g1,⟨by show z3.w.os=_;rw[c1];exact hn2.os,⟨by show z3.w.tape=_;rw[c1];exact hn2.tape.1,by show _<=z3.w.drawn;rw[c1];exact hn2.tape.2⟩,by show z3.w.output=_;rw[c1];exact hn2.output,by show _<=z3.w.heap.size;rw[c1];exact hn2.size,
   fun b hb hc=>by show z3.w.heap[b]? =_;rw[c1];exact hn2.block b hb hc,fun g hg=>hn2.subM g (by rw[<-c2];exact hg),fun g hg=>hn2.subC g (c3 g hg),fun g hg hm hc=>by show z3.M g;rw[c2];exact hn2.keepM g hg hm hc,c5,rfl⟩,c4,OutS.on_up (fun o t k=> ?_) k3⟩
  obtain⟨_,q1,q2,q3,q4,q5,q6,q7,q8,q9⟩:=k;exact⟨q3,e4 q4⟩
 refine nzZ hT hm (build fa.ov c) h3 (aIZ _ _) hi (fun p hp=>by cases hp) (fun p hp=>by cases hp) ?_ (fun i st' a' w' h' _=>by cases h') ?_
 ·exact fin (bodyPost P fn _) fun a' w' h=>h
 ·exact fin (fun e a' w'=>bodyPost P fn _ .ret a' w') fun a' w' h=>h
end
end Go.Ab
namespace Go.Ab
theorem acZ{P:Program}:∀e∈([]:Tbl),Told P e:=fun e h=>by cases h
theorem aaZ{P:Program}{a:FnT}{r:Tbl}(h:Told P a)(hr:∀e∈r,Told P e):∀e∈a::r,Told P e:=fun e he=>by
 rcases List.mem_cons.1 he with rfl|he
 ·exact h
 ·exact hr e he
end Go.Ab
namespace Go.Ab
section
variable (P : Program)
end
section
variable {P : Program} {H : Type} {enc : TypeId × Value → H} {w : World} {sp : Nat → Bool} {held : Bool}
theorem law_of_told{f:FuncId}(hb:Bodied P f){ks:KdL}{spec:Shp.D ⟨ks,[]⟩->Option (OutS [⟨.cons (.p .bool) .nil,[]⟩])}(hT:Told P ⟨f,⟨ks,[]⟩,[⟨.cons (.p .bool) .nil,[]⟩],spec⟩){t:Shp.D ⟨ks,[]⟩}(hs:spec t=some true){vals:List Value}
 (hv:AReps ⟨w,fun _=>False,fun _=>False,fun _=>.no,fun _=>False⟩ (Shp.emb ⟨ks,[]⟩ t).1 vals):Calls P f vals.toArray w fun e w'=>e= .returned (.bool true)/\RowKit.Below w.heap.size w w':=by
 refine((hT.spec t true hs ⟨w,fun _=>False,fun _=>False,fun _=>.no,fun _=>False⟩ vals ⟨fun id e h=>(by rw[show(Shp.emb ⟨ks,[]⟩ t).2=[] from rfl,bMZ] at h;cases h),fun i i' e e' g sz n g' sz' n' _ h=>(by rw[show(Shp.emb ⟨ks,[]⟩ t).2=[] from rfl,bMZ] at h;cases h),fun id _=>.inl rfl,fun g h=>h,fun i x h=>by simp[Shp.emb,embH,hget] at h,fun i h=>by simp[Shp.emb,embH,hkey] at h,fun _ _ _ h=>h,fun _ _ _=>rfl⟩ hv fun _ h=>h).calls hb).mono ?_;rintro en w' ⟨v,z',rfl,rfl,hn,_,ho⟩;obtain⟨_,ho⟩:=ho;have ho:ARep z' (.p .bool true) v:=ho;refine⟨by rw[ho.v.bool],⟨hn.os,hn.tape.1,hn.output,hn.size,fun b hb=>hn.block b hb fun h=>h⟩⟩
end
end Go.Ab
namespace Go.Ab
open Go.ChangeShapes Go.WideShapes Go.ChangeAt Go.RowKit
section
variable {H : Type} {enc : TypeId × Value → H} {P : Program}
theorem cUZ(hl:laidOutB P=true){W W':World}{sp:Nat->Bool}(hb:Below W.heap.size W W'):
 ∀(ts:List TypeId) (vs:List Value) (ds:List (DataW H)) (ps:List MemPlace),DataW.TrodAll enc P W 0 (fun _=>true) true ts vs ds ps->
  (∀t∈ts,P.readableRec t=true/\t<P.types.size)->(∀x∈ps,x.block<W.heap.size/\sp x.block=true)->DataW.TrodAll enc P W' 0 sp true ts vs ds ps
 |[],vs,ds,ps,h,_,_=>by
  obtain⟨rfl,rfl,rfl⟩:=trodAll_nil h;exact trodAll_mk0
 |t::ts,vs,ds,ps,h,hr,hp=>by
  obtain⟨v,vs',d,ds',p,q,rfl,rfl,rfl,h0,h1⟩:=trodAll_cons h;have ht:=hr t (by simp);exact trodAll_cons_mk (WideElems.Trod_stays hl ht.1 ht.2 h0 (fun x hx=>hb.same (hp x (by simp[hx])).1) (fun x hx=>(hp x (by simp[hx])).2))
   (cUZ hl hb ts vs' ds' q h1 (fun t' h'=>hr t' (by simp[h'])) fun x hx=>hp x (by simp[hx]))
theorem fDZ{f:Func}{s:ChangeSpec}{apart fresh handsOn again:Bool}{W W':World}{args:Array Value}{v:Value}{ds gs:List (DataW H)}{before pa pv:List MemPlace}
 (hW:DataW.Whole enc P f.params.toList s.vars apart W args.toList ds gs before)
 (hres:∀(b:Nat) (sp:Nat->Bool) (hd:Bool),DataW.TrodAll enc P W' b sp hd f.resultTypes.toList (v.resultList f.resultTypes.size) (s.fn H (ds++gs)).results [])
 (hargs:∀sp:Nat->Bool,(∀p∈before,sp p.block=true)->DataW.TrodAll enc P W' 0 sp true f.params.toList args.toList (s.fn H (ds++gs)).args pa)
 (hvars:∀sp:Nat->Bool,(∀p∈before,sp p.block=true)->DataW.TrodVars enc P W' sp s.vars (s.fn H (ds++gs)).vars pv)
 (hps:before=pa++pv)(hb:Below W.heap.size W W')
 (hok:∀(j:Nat) (t:TypeId) (r:Value),f.resultTypes[j]? =some t->(v.resultList f.resultTypes.size)[j]? =some r->Value.okWide P W' .any 0 t r):
 s.post enc P f apart fresh handsOn again W args v W':=by
 have hlt:∀p∈before,p.block<W.heap.size:=fun p hp=>hW.lt p hp;have hold:∀p∈before,(fun b=>decide (b<W.heap.size)) p.block=true:=fun p hp=>by simpa using hlt p hp
 refine⟨ds,gs,before,[],pa,pv,hW,hres _ _ _,hargs _ hold,hvars _ hold,World.keptBut_mono (fun p hp=>⟨hp,?_⟩) (hb.frame (·∈before)),fun _=> ?_⟩
 ·rw[hps,List.mem_append] at hp;exact Or.inr hp
 ·obtain⟨_,_,_,_,_,hz,hn⟩:=hW;refine⟨hok,_,_,([]++pa)++pv,⟨[]++pa,pv,trodAll_append (hargs _ (fun _ _=>rfl)) (hres _ _ _),hvars _ (fun _ _=>rfl),rfl,?_,?_⟩,?_⟩
  ·intro b off hp;have hin:MemPlace.cell b off∈before:=by rw[hps];simpa using hp
   rw[hb.frozen (hlt _ hin)];exact hz b off hin
  ·intro ha;have:=hn ha;rw[hps] at this;simpa using this
  ·intro p hp _;rw[hps];simpa using hp
theorem law_post(hl:laidOutB P=true){f:Func}{s:ChangeSpec}{B:TypeId}{W W':World}{args:Array Value}{ds gs:List (DataW H)}{before:List MemPlace}
 (hbool:P.underlying B=some .bool)(hres:f.resultTypes=#[B])(hread:∀t∈f.params.toList,P.readableRec t=true/\t<P.types.size)(hvars:s.vars=[])
 (hfn:(s.fn H (ds++gs)).results=[.lit (.bool true)]/\(s.fn H (ds++gs)).args=ds/\(s.fn H (ds++gs)).vars=[])
 (hW:DataW.Whole enc P f.params.toList s.vars false W args.toList ds gs before)(hb:Below W.heap.size W W'):
 s.post enc P f false true false false W args (.bool true) W':=by
 have hlt:∀p∈before,p.block<W.heap.size:=fun p hp=>hW.lt p hp;have hW':=hW;obtain⟨p,q,hA,hV,hbe,_,_⟩:=hW;rw[hvars] at hV;obtain⟨rfl,rfl⟩:=trodVars_none hV;rw[List.append_nil] at hbe;subst hbe;refine fDZ (pa:=before) (pv:=[]) hW' ?_ ?_ ?_ (by simp) hb ?_
 ·intro b sp hd;rw[hfn.1,hres];exact trodAll_mk1 (shut_bool hbool _)
 ·intro sp hsp;rw[hfn.2.1];exact cUZ hl hb _ _ _ _ hA hread fun x hx=>⟨hlt x hx,hsp x hx⟩
 ·intro sp _;rw[hvars,hfn.2.2]
  rfl
 ·exact ok_one hres rfl (okWide_bool_mk hbool _)
end
end Go.Ab
namespace Go.Proofs
open Go.Shelf
structure InsLay (P:Program) (ρ:Ren):Prop where
 mixed:P.follows .mixedOrders=true
 f22:Bears P (ρ.f 22) (Body2.n22 ρ)
 x29:(P.funcs[ρ.f 29]?.map fun fn=>(fn.name== "runtime.NumGoroutine",fn.body.isNone,(Extern.findNext fn).isNone,Extern.find fn))=some (false,true,true,some (Extern.SlicesOverlaps.overlaps #[(ρ.t 24),(ρ.t 24)] #[(ρ.t 4)]))
 t0:P.underlying (ρ.t 0)=some (TypeDesc.tuple #[])
 a0:∀w,(isAgg (ρ.t 0)).run P w= .ok false w
 z0:∀w,(Go.sizeOf (ρ.t 0)).run P w= .ok 1 w
 v0:∀w,(zeroValue (ρ.t 0)).run P w= .ok (Value.tuple #[]) w
 t3:P.underlying (ρ.t 3)=some (TypeDesc.int IntKind.i64)
 a3:∀w,(isAgg (ρ.t 3)).run P w= .ok false w
 z3:∀w,(Go.sizeOf (ρ.t 3)).run P w= .ok 1 w
 v3:∀w,(zeroValue (ρ.t 3)).run P w= .ok (Value.int IntKind.i64 0) w
 t4:P.underlying (ρ.t 4)=some (TypeDesc.bool)
 a4:∀w,(isAgg (ρ.t 4)).run P w= .ok false w
 z4:∀w,(Go.sizeOf (ρ.t 4)).run P w= .ok 1 w
 v4:∀w,(zeroValue (ρ.t 4)).run P w= .ok (Value.bool false) w
 t24:P.underlying (ρ.t 24)=some (TypeDesc.slice (ρ.t 9))
 a24:∀w,(isAgg (ρ.t 24)).run P w= .ok false w
 z24:∀w,(Go.sizeOf (ρ.t 24)).run P w= .ok 1 w
 v24:∀w,(zeroValue (ρ.t 24)).run P w= .ok (Value.slice none 0 0) w
open Go.Shelf Go.RowKit Go.Lib
variable {P : Program} {ρ : Ren}
theorem egZ(Z:Array Value)(q:Nat):(Builtin.zeroCells Z q).size=q*Z.size:=by
 rw[Builtin.zeroCells];simp[Array.size_flatten]
theorem coZ(w:World)(dT sT ty elem:TypeId)(b o dLen dCap:Nat)(a:Addr)(sLen sCap k:Nat)(cs:List Value)
 (hu:P.underlying dT=some (.slice elem))(hs:(P.info? elem).map (·.size)=some k)(hn:cs.length=Nat.min sLen dLen*k)
 (hsrc:∀j v,cs[j]? =some v->w.cell? (a.add j)=some v)(hc:∀j,j<cs.length->(w.cell? ⟨b,o+j,none⟩).isSome=true)(hf:∀j,j<cs.length->w.frozen? ⟨b,o+j,none⟩=false)(h1:∀v∈cs,v.oneCell'=true):
 (Builtin.copy_ #[dT,sT] ty #[.slice (some ⟨b,o,none⟩) dLen dCap,.slice (some a) sLen sCap]).run P w= .ok (goInt (Nat.min sLen dLen)) (w.setCells b o cs):=by
 have hl:=run_firstCells_some (P:=P) w k (Nat.min sLen dLen) a sLen sCap cs hn hsrc;have hst:=run_storeCells_cells (P:=P) b o cs 0 w (by simpa using hc) (by simpa using hf) h1;cases hq:P.info? elem with
 |none=>simp[hq] at hs
 |some i=>
  have hi:i.size=k:=by simpa[hq] using hs
  simp[Builtin.copy_,run_underlying hu,Builtin.lenOf,sizeOf,typeInfo,hq,hi,hl,hst]
theorem InsLay.overlaps(L:InsLay P ρ){a b:Value}{w w':World}{v:Value}(h:(Extern.SlicesOverlaps.overlaps #[(ρ.t 24),(ρ.t 24)] #[(ρ.t 4)] #[a,b]).run P w= .ok v w'):(callFunc (ρ.f 29) #[a,b]).run P w= .ok (.value v) w':=by
 have hx:=L.x29;cases hq:P.funcs[ρ.f 29]? with
 |none=>rw[hq] at hx;cases hx
 |some fn=>
  rw[hq] at hx;simp only[Option.map_some,Option.some.injEq,Prod.mk.injEq] at hx;obtain⟨h1,h2,h3,h4⟩:=hx;rw[run_callFunc_extern hq h1 h2 (by simpa using h3) h4,h]
  rfl
section
variable (L : InsLay P ρ) {k : Nat} (hk : 0 < k) (z9 : ∀ w, (Go.sizeOf (ρ.t 9)).run P w = .ok k w) {ag : Bool} (a9 : ∀ w, (isAgg (ρ.t 9)).run P w = .ok ag w) (hsz : (P.info? (ρ.t 9)).map (·.size) = some k)
include L hk z9 a9 hsz
set_option maxHeartbeats 4000000 in
set_option maxRecDepth 100000 in
theorem kKZ(b n c i vb m vc:Nat)(cs vs:List Value)(w:World)(hi:i<n)(hm:0<m)(hroom:n+m<=c)(hc63:c<=9223372036854775807)(hvb:vb≠b)
 (hcl:cs.length=n*k)(hvl:vs.length=m*k)
 (hcs:∀j v,cs[j]? =some v->w.cell? ⟨b,j,none⟩=some v)(hsp:∀j,j<(n+m)*k->(w.cell? ⟨b,j,none⟩).isSome=true)(hfz:∀j,j<(n+m)*k->w.frozen? ⟨b,j,none⟩=false)
 (hvs:∀j v,vs[j]? =some v->w.cell? ⟨vb,j,none⟩=some v)(h1c:∀v∈cs,v.oneCell'=true)(h1v:∀v∈vs,v.oneCell'=true)
 (tA tB:TypeId)(kA kB:Nat)(hsa:w.shape? vb=some (tA,kA))(hsb:w.shape? b=some (tB,kB))(hkB:kB≠0)(hfa:w.frozen? ⟨vb,0,none⟩=false)(hfe:w.frozen? ⟨vb,kA,none⟩=false):
 Calls P (ρ.f 22) #[.slice (some ⟨b,0,none⟩) n c,.int .i64 i,.slice (some ⟨vb,0,none⟩) m vc] w fun e w'=>
  e= .returned (.slice (some ⟨b,0,none⟩) (n+m) c)/\w'=(w.drew.setCells b ((i+m)*k) (cs.drop (i*k))).setCells b (i*k) vs:=by
 have t0:=L.t0;have a0:=L.a0;have z0:=L.z0;have v0:=L.v0;have t3:=L.t3;have a3:=L.a3;have z3:=L.z3;have v3:=L.v3;have t4:=L.t4;have a4:=L.a4;have z4:=L.z4;have v4:=L.v4;have t24:=L.t24;have a24:=L.a24;have z24:=L.z24;have v24:=L.v24;have u0:=run_underlying L.t0;have u3:=run_underlying L.t3;have u4:=run_underlying L.t4;have u24:=run_underlying L.t24;have hz1:¬((m:Int)=0):=by omega
 have hz2:¬((i:Int)=(n:Int)):=by omega
 have hov:∀lb cb,(callFunc (ρ.f 29) #[.slice (some ⟨vb,0,none⟩) m vc,.slice (some ⟨b,(i+m)*k,none⟩) lb cb]).run P w= .ok (.value (.bool false)) w:=fun lb cb=>
  L.overlaps (Lib.run_overlaps_apart w (ρ.t 24) (ρ.t 4) (ρ.t 9) L.t24 k z9 ⟨vb,0,none⟩ ⟨b,(i+m)*k,none⟩ m vc lb cb hvb tA tB kA kB hsa hsb hkB hfa hfe)
 have hdl:(cs.drop (i*k)).length=(n-i)*k:=by rw[List.length_drop,hcl,Nat.sub_mul]
 have mixed:=L.mixed;have hw1:IntKind.i64.wrap ((i:Int)+(m:Int))=(i:Int)+(m:Int):=by rw[IntKind.wrap_i64];omega
 have hb1:(0:Int)<=(i:Int)+(m:Int):=by omega
 have hin:i<=n:=by omega
 have htn:((i:Int)+(m:Int)).toNat=i+m:=by omega
 have hb2:¬(c=i+m):=by omega
 have hb3:(i:Int)<=(n:Int)+(m:Int):=by omega
 have hb4:¬(c=i):=by omega
 have hmin:Nat.min (n+m-i) (n+m-(i+m))=n-i:=by simp only[Nat.min_def];split<;>omega
 have hmin2:Nat.min m (n+m-i)=m:=by simp only[Nat.min_def];split<;>omega
 have hnm:(n+m)*k=(i+m)*k+(n-i)*k:=by rw[<-Nat.add_mul];congr 1;omega
 have hnm2:(n+m)*k=i*k+m*k+(n-i)*k:=by rw[<-Nat.add_mul,<-Nat.add_mul];congr 1;omega
 have hcp1:∀ty dc sc,(Builtin.copy_ #[(ρ.t 24),(ρ.t 24)] ty #[.slice (some ⟨b,(i+m)*k,none⟩) (n+m-(i+m)) dc,.slice (some ⟨b,i*k,none⟩) (n+m-i) sc]).run P w.drew= .ok (goInt ((n-i:Nat):Int)) (w.drew.setCells b ((i+m)*k) (cs.drop (i*k))):=fun ty dc sc=>by
  have:=coZ w.drew (ρ.t 24) (ρ.t 24) ty (ρ.t 9) b ((i+m)*k) (n+m-(i+m)) dc ⟨b,i*k,none⟩ (n+m-i) sc k (cs.drop (i*k)) L.t24 hsz (by rw[hdl,hmin])
   (fun j v hj=>by rw[Addr.add_lit];exact hcs (i*k+j) v (by rwa [List.getElem?_drop] at hj))
   (fun j hj=>hsp _ (by rw[hdl] at hj;omega)) (fun j hj=>hfz _ (by rw[hdl] at hj;omega)) (fun v hv=>h1c v (List.mem_of_mem_drop hv))
  rw[hmin] at this;exact this
 obtain⟨W1,hW1⟩:∃W1,W1=w.drew.setCells b ((i+m)*k) (cs.drop (i*k)):=⟨_,rfl⟩;have hsp1:∀x,x<(n+m)*k->(W1.cell? ⟨b,x,none⟩).isSome=true:=fun x hx=>by
  rw[hW1];exact isSome_setCells b (cs.drop (i*k)) ((i+m)*k) w.drew (fun j hj=>hsp _ (by rw[hdl] at hj;omega)) _ (hsp x hx)
 have hcp2:∀(W:World),(∀x,W.cell? x=W1.cell? x)->(∀x,W.frozen? x=W1.frozen? x)->∀ty dc,(Builtin.copy_ #[(ρ.t 24),(ρ.t 24)] ty #[.slice (some ⟨b,i*k,none⟩) (n+m-i) dc,.slice (some ⟨vb,0,none⟩) m vc]).run P W= .ok (goInt m) (W.setCells b (i*k) vs):=fun W hWc hWf ty dc=>by
  have:=coZ W (ρ.t 24) (ρ.t 24) ty (ρ.t 9) b (i*k) (n+m-i) dc ⟨vb,0,none⟩ m vc k vs L.t24 hsz (by rw[hvl,hmin2])
   (fun j v hj=>by
    rw[Addr.add_lit,hWc,hW1,World.cell?_setCells_out b _ _ _ _ (fun h _=>absurd h hvb),Nat.zero_add];exact hvs j v hj)
   (fun j hj=>by rw[hWc];exact hsp1 _ (by omega)) (fun j hj=>by rw[hWf,hW1,World.frozen?_setCells];exact hfz _ (by omega)) h1v
  rw[hmin2] at this;exact this
 rw[<-hW1] at hcp1;obtain⟨nm,hnm9,F22⟩:=L.f22
 go_enter F22,Body2.n22_ntmps ρ
 go_wp2_with (simp only[hov])
 go_region_law_o (refine step_copy_runI rfl _ _ (ρ.t 24) (ρ.t 24) rfl _ _ (by simp[Act.eval,Act.put]) (by simp[Act.eval,Act.put]) (hcp1 _ _ _) ?_)
 go_wp2_with (at_builtin;refine wpList_copy_runI _ rfl _ _ (ρ.t 24) (ρ.t 24) rfl _ _ rfl rfl (hcp2 _ (fun _=>rfl) (fun _=>rfl) _ _) ?_)
 go_ret
 first|exact⟨rfl,rfl⟩|exact⟨rfl,by rw[hW1]⟩
omit hk z9 a9 hsz in
include L a9 z9 in
set_option maxHeartbeats 4000000 in
set_option maxRecDepth 100000 in
theorem fLZ{i0:TypeInfo}(hi0:P.info? (ρ.t 9)=some i0)(hs0:i0.size=k)(b n c vb m vc:Nat)(vs:List Value)(w:World)(hm:0<m)(hroom:n+m<=c)(hc63:c<=9223372036854775807)
 (hvl:vs.length=m*k)(hsp:∀j,j<m*k->(w.cell? ⟨b,n*k+j,none⟩).isSome=true)(hfz:∀j,j<m*k->w.frozen? ⟨b,n*k+j,none⟩=false)
 (hvs:∀j v,vs[j]? =some v->w.cell? ⟨vb,j,none⟩=some v)(h1v:∀v∈vs,v.oneCell'=true):
 Calls P (ρ.f 22) #[.slice (some ⟨b,0,none⟩) n c,.int .i64 n,.slice (some ⟨vb,0,none⟩) m vc] w fun e w'=>
  e= .returned (.slice (some ⟨b,0,none⟩) (n+m) c)/\w'=w.setCells b (n*k) vs:=by
 have t0:=L.t0;have a0:=L.a0;have z0:=L.z0;have v0:=L.v0;have t3:=L.t3;have a3:=L.a3;have z3:=L.z3;have v3:=L.v3;have t4:=L.t4;have a4:=L.a4;have z4:=L.z4;have v4:=L.v4;have t24:=L.t24;have a24:=L.a24;have z24:=L.z24;have v24:=L.v24;have u0:=run_underlying L.t0;have u3:=run_underlying L.t3;have u4:=run_underlying L.t4;have u24:=run_underlying L.t24;have mixed:=L.mixed;have hz1:¬((m:Int)=0):=by omega
 have hsrc:Src P i0.size (ρ.t 24) (.slice (some ⟨vb,0,none⟩) m vc) m vs w:=by
  rw[hs0];exact Src.ofSlice w L.t24 ⟨vb,0,none⟩ m vc vs hvl (fun j u hj=>by rw[Addr.add_lit,Nat.zero_add];exact hvs j u hj) h1v
 have hrun:∀ty,(Builtin.append_ #[(ρ.t 24),(ρ.t 24)] ty #[.slice (some ⟨b,0,none⟩) n c,.slice (some ⟨vb,0,none⟩) m vc]).run P w= .ok (.slice (some ⟨b,0,none⟩) (n+m) c) (w.setCells b (n*k) vs):=fun ty=>by
  have:=run_append_room_src w (ρ.t 24) (ρ.t 24) ty (ρ.t 9) i0 L.t24 hi0 b 0 n c _ m vs hsrc hroom (fun j hj=>by rw[hs0,Nat.zero_add];exact hsp j (by omega)) (fun j hj=>by rw[hs0,Nat.zero_add];exact hfz j (by omega));rw[hs0,Nat.zero_add] at this;exact this
 obtain⟨nm,hnm9,F22⟩:=L.f22
 go_enter F22,Body2.n22_ntmps ρ
 go_wp2_with (at_builtin;refine Lib.wpList_append_run _ rfl _ _ _ _ rfl _ _ rfl rfl _ _ (hrun _) ?_)
 go_ret
 exact⟨rfl,rfl⟩
omit hk z9 a9 hsz in
include L a9 z9 in
set_option maxHeartbeats 4000000 in
set_option maxRecDepth 100000 in
theorem drZ{i0:TypeInfo}{zv:Value}{Zc:Array Value}(hZ:Zc=zv.cells)(hi0:P.info? (ρ.t 9)=some i0)(hs0:i0.size=k)(hz0:i0.zero=some zv)(base:Option Addr)(n c vb m vc:Nat)(cs vs:List Value)(w:World)(hm:0<m)(hnc:n<=c)(hroom:c<n+m)(hbig:(n+m)*i0.bytes<=140737488355328)(h48:n+m<=140737488355328)
 (hcl:cs.length=n*k)(hvl:vs.length=m*k)(hnil:base=none->n=0)
 (hcs:∀a,base=some a->∀j v,cs[j]? =some v->w.cell? (a.add j)=some v)
 (hvs:∀j v,vs[j]? =some v->w.cell? ⟨vb,j,none⟩=some v)(h1v:∀v∈vs,v.oneCell'=true):
 Calls P (ρ.f 22) #[.slice base n c,.int .i64 n,.slice (some ⟨vb,0,none⟩) m vc] w fun e w'=>
  e= .returned (.slice (some ⟨w.heap.size,0,none⟩) (n+m) (grownCap w (n+m) c (ρ.t 9)))/\
  w'=w.drew.alloc (.cells ((cs++vs).toArray++Builtin.zeroCells Zc (grownCap w (n+m) c (ρ.t 9)-(n+m))) (ρ.t 9)):=by
 have t0:=L.t0;have a0:=L.a0;have z0:=L.z0;have v0:=L.v0;have t3:=L.t3;have a3:=L.a3;have z3:=L.z3;have v3:=L.v3;have t4:=L.t4;have a4:=L.a4;have z4:=L.z4;have v4:=L.v4;have t24:=L.t24;have a24:=L.a24;have z24:=L.z24;have v24:=L.v24;have u0:=run_underlying L.t0;have u3:=run_underlying L.t3;have u4:=run_underlying L.t4;have u24:=run_underlying L.t24;have mixed:=L.mixed;have hz1:¬((m:Int)=0):=by omega
 have hsrc:Src P i0.size (ρ.t 24) (.slice (some ⟨vb,0,none⟩) m vc) m vs w:=by
  rw[hs0];exact Src.ofSlice w L.t24 ⟨vb,0,none⟩ m vc vs hvl (fun j u hj=>by rw[Addr.add_lit,Nat.zero_add];exact hvs j u hj) h1v
 have hold:(Builtin.firstCells i0.size n (.slice base n c)).run P w.drew= .ok cs.toArray w.drew:=by
  rw[hs0];cases base with
  |none=>
   have h0:=hnil rfl;subst h0;obtain rfl:cs=[]:=List.eq_nil_of_length_eq_zero (by rw[hcl,Nat.zero_mul]);exact run_firstCells_none w.drew k 0 0 c
  |some a=>exact run_firstCells_some w.drew k n a n c cs hcl (fun j v hj=>hcs a rfl j v hj)
 have hrun:∀ty,(Builtin.append_ #[(ρ.t 24),(ρ.t 24)] ty #[.slice base n c,.slice (some ⟨vb,0,none⟩) m vc]).run P w= .ok (.slice (some ⟨w.heap.size,0,none⟩) (n+m) (grownCap w (n+m) c (ρ.t 9))) (w.drew.alloc (.cells ((cs++vs).toArray++Builtin.zeroCells Zc (grownCap w (n+m) c (ρ.t 9)-(n+m))) (ρ.t 9))):=fun ty=>by
  rw[hZ];exact run_append_grow_src w (ρ.t 24) (ρ.t 24) ty (ρ.t 9) i0 _ L.t24 hi0 hz0 base n c cs hold _ m vs hsrc hroom (by omega) (growslice_fits hroom hbig)
 clear hold hsrc hz0 hZ;obtain⟨nm,hnm9,F22⟩:=L.f22
 go_enter F22,Body2.n22_ntmps ρ
 cases base with
 |none=>
  have h0:=hnil rfl;subst h0
  go_wp2_with (at_builtin;refine Lib.wpList_append_run _ rfl _ _ _ _ rfl _ _ rfl rfl _ _ (hrun _) ?_)
  all_goals(go_ret;exact⟨rfl,rfl⟩)
 |some a=>
  obtain⟨ab,ao,asp⟩:=a
  go_wp2_with (at_builtin;refine Lib.wpList_append_run _ rfl _ _ _ _ rfl _ _ rfl rfl _ _ (hrun _) ?_)
  all_goals(go_ret;exact⟨rfl,rfl⟩)
set_option maxHeartbeats 4000000 in
set_option maxRecDepth 100000 in
theorem l4Z{i0:TypeInfo}{zv:Value}{Zc:Array Value}(hZ:Zc=zv.cells)(hi0:P.info? (ρ.t 9)=some i0)(hs0:i0.size=k)(hz0:i0.zero=some zv)(hzl:Zc.size=k)(b n c i vb m vc:Nat)(cs vs:List Value)(w:World)(hi:i<n)(hm:0<m)(hnc:n<=c)(hroom:c<n+m)(hbig:(n+m)*i0.bytes<=140737488355328)(h48:n+m<=140737488355328)
 (hcl:cs.length=n*k)(hvl:vs.length=m*k)
 (hcs:∀j v,cs[j]? =some v->w.cell? ⟨b,j,none⟩=some v)
 (hvs:∀j v,vs[j]? =some v->w.cell? ⟨vb,j,none⟩=some v)(h1c:∀v∈cs,v.oneCell'=true)(h1v:∀v∈vs,v.oneCell'=true):
 Calls P (ρ.f 22) #[.slice (some ⟨b,0,none⟩) n c,.int .i64 i,.slice (some ⟨vb,0,none⟩) m vc] w fun e w'=>
  e= .returned (.slice (some ⟨w.heap.size,0,none⟩) (n+m) (grownCap w (n+m) c (ρ.t 9)))/\
  w'=(((w.alloc (.cells ((cs.take (i*k)).toArray++Builtin.zeroCells Zc (n+m-i)++Builtin.zeroCells Zc (grownCap w (n+m) c (ρ.t 9)-(n+m))) (ρ.t 9))).drew.setCells w.heap.size (i*k) vs).drew).setCells w.heap.size ((i+m)*k) (cs.drop (i*k)):=by
 have t0:=L.t0;have a0:=L.a0;have z0:=L.z0;have v0:=L.v0;have t3:=L.t3;have a3:=L.a3;have z3:=L.z3;have v3:=L.v3;have t4:=L.t4;have a4:=L.a4;have z4:=L.z4;have v4:=L.v4;have t24:=L.t24;have a24:=L.a24;have z24:=L.z24;have v24:=L.v24;have u0:=run_underlying L.t0;have u3:=run_underlying L.t3;have u4:=run_underlying L.t4;have u24:=run_underlying L.t24;have mixed:=L.mixed;have hz1:¬((m:Int)=0):=by omega
 have hz2:¬((i:Int)=(n:Int)):=by omega
 have hz3:(c:Int)<(n:Int)+(m:Int):=by omega
 have hik0:i*k<n*k:=Nat.mul_lt_mul_of_pos_right hi hk;have hmk0:0<m*k:=Nat.mul_pos hm hk;have hbw:b<w.heap.size:=block_lt_of_cell (hcs 0 _ (List.getElem?_eq_getElem (by omega)));have hvw:vb<w.heap.size:=block_lt_of_cell (hvs 0 _ (List.getElem?_eq_getElem (by omega)));have hkk:(n:Int)+(m:Int)-(i:Int)=((n+m-i:Nat):Int):=by omega
 have hik:i+(n+m-i)=n+m:=by omega
 have hold:(Builtin.firstCells i0.size i (.slice (some ⟨b,0,none⟩) i c)).run P w.drew= .ok (cs.take (i*k)).toArray w.drew:=by
  rw[hs0];exact run_firstCells_some w.drew k i ⟨b,0,none⟩ i c (cs.take (i*k)) (by rw[List.length_take];omega) (fun j v hj=>by
   rw[Addr.add_lit,Nat.zero_add];rw[List.getElem?_take] at hj;split at hj
   ·exact hcs j v hj
   ·cases hj)
 have hrz:∀ty,(Builtin.append_ #[(ρ.t 24),(ρ.t 3)] ty #[.slice (some ⟨b,0,none⟩) i c,.int .i64 ((n:Int)+(m:Int)-(i:Int))]).run P w=
  .ok (.slice (some ⟨w.heap.size,0,none⟩) (n+m) (grownCap w (n+m) c (ρ.t 9))) (w.drew.alloc (.cells ((cs.take (i*k)).toArray++Builtin.zeroCells Zc (n+m-i)++Builtin.zeroCells Zc (grownCap w (n+m) c (ρ.t 9)-(n+m))) (ρ.t 9))):=fun ty=>by
  have h:=Lib.run_append_grow_zeros w (ρ.t 24) (ρ.t 3) ty (ρ.t 9) i0 _ .i64 .i64 L.t24 L.t3 hi0 hz0 (some ⟨b,0,none⟩) i c (cs.take (i*k)) hold (n+m-i) (by omega) (by omega) (by omega) (by omega) (by
   have:(n+m-i)*i0.bytes<=(n+m)*i0.bytes:=Nat.mul_le_mul_right _ (by omega);omega) (by rw[hik];exact growslice_fits hroom hbig)
  rw[hik] at h;rw[hkk,hZ];exact h
 obtain⟨G,hG⟩:∃G,G=grownCap w (n+m) c (ρ.t 9):=⟨_,rfl⟩;obtain⟨ROW,hROW⟩:∃ROW:Array Value,ROW=(cs.take (i*k)).toArray++Builtin.zeroCells Zc (n+m-i)++Builtin.zeroCells Zc (G-(n+m)):=⟨_,rfl⟩;rw[<-hG] at hrz⊢;rw[<-hROW] at hrz⊢;have hzc:∀q,(Builtin.zeroCells Zc q).size=q*k:=fun q=>by rw[egZ,hzl]
 have hnm:(n+m)*k=(i+m)*k+(n-i)*k:=by rw[<-Nat.add_mul];congr 1;omega
 have hnm2:(n+m)*k=i*k+m*k+(n-i)*k:=by rw[<-Nat.add_mul,<-Nat.add_mul];congr 1;omega
 have hnm3:(n+m)*k=i*k+(n+m-i)*k:=by rw[<-Nat.add_mul];congr 1;omega
 have hRl:(n+m)*k<=ROW.size:=by
  rw[hROW,Array.size_append,Array.size_append,hzc,hzc,List.size_toArray,List.length_take];omega
 obtain⟨W1,hW1⟩:∃W1,W1=w.drew.alloc (.cells ROW (ρ.t 9)):=⟨_,rfl⟩;rw[<-hW1] at hrz;have hN:∀j,j<(n+m)*k->(W1.cell? ⟨w.heap.size,j,none⟩).isSome=true:=fun j hj=>by
  rw[hW1,World.cell?_alloc_at (w:=w.drew) ROW _ w.heap.size j rfl,Array.getElem?_eq_getElem (by omega)];rfl
 have hNf:∀j,W1.frozen? ⟨w.heap.size,j,none⟩=false:=fun j=>by rw[hW1];exact World.frozen?_alloc_at (w:=w.drew) ROW _ w.heap.size j rfl
 have hOb:∀j v,w.cell? ⟨b,j,none⟩=some v->W1.cell? ⟨b,j,none⟩=some v:=fun j v h=>by rw[hW1,World.cell?_alloc_past (w:=w.drew) _ b j hbw];exact h
 have hOv:∀j v,w.cell? ⟨vb,j,none⟩=some v->W1.cell? ⟨vb,j,none⟩=some v:=fun j v h=>by rw[hW1,World.cell?_alloc_past (w:=w.drew) _ vb j hvw];exact h
 have hminA:Nat.min m (n+m-i)=m:=by simp only[Nat.min_def];split<;>omega
 have hminB:Nat.min (n-i) (n+m-(i+m))=n-i:=by simp only[Nat.min_def];split<;>omega
 have hcpA:∀(W:World),(∀x,W.cell? x=W1.cell? x)->(∀x,W.frozen? x=W1.frozen? x)->∀ty dc,(Builtin.copy_ #[(ρ.t 24),(ρ.t 24)] ty #[.slice (some ⟨w.heap.size,i*k,none⟩) (n+m-i) dc,.slice (some ⟨vb,0,none⟩) m vc]).run P W= .ok (goInt m) (W.setCells w.heap.size (i*k) vs):=fun W hWc hWf ty dc=>by
  have:=coZ W (ρ.t 24) (ρ.t 24) ty (ρ.t 9) w.heap.size (i*k) (n+m-i) dc ⟨vb,0,none⟩ m vc k vs L.t24 hsz (by rw[hvl,hminA])
   (fun j v hj=>by rw[Addr.add_lit,hWc,Nat.zero_add];exact hOv _ v (hvs j v hj))
   (fun j hj=>by rw[hWc];exact hN _ (by omega)) (fun j hj=>by rw[hWf];exact hNf _) h1v
  rw[hminA] at this;exact this
 have hGn:n+m<=G:=by rw[hG];exact grownCap_ge w _ _ _
 have hG63:G<=9223372036854775807:=by
  have:=grownCap_le_maxLen w (n+m) c (ρ.t 9) (by unfold maxLen;omega);rw[<-hG] at this;unfold maxLen at this;omega
 have hGi:¬(G=i):=by omega
 have hGim:¬(G=i+m):=by omega
 have hci:¬(c=i):=by omega
 have hbN:b≠w.heap.size:=by omega
 have hdl:(cs.drop (i*k)).length=(n-i)*k:=by rw[List.length_drop,hcl,Nat.sub_mul]
 have hcpB:∀(W:World),(∀x,W.cell? x=(W1.setCells w.heap.size (i*k) vs).cell? x)->(∀x,W.frozen? x=(W1.setCells w.heap.size (i*k) vs).frozen? x)->∀ty dc sc,(Builtin.copy_ #[(ρ.t 24),(ρ.t 24)] ty #[.slice (some ⟨w.heap.size,(i+m)*k,none⟩) (n+m-(i+m)) dc,.slice (some ⟨b,i*k,none⟩) (n-i) sc]).run P W= .ok (goInt ((n-i:Nat):Int)) (W.setCells w.heap.size ((i+m)*k) (cs.drop (i*k))):=fun W hWc hWf ty dc sc=>by
  have:=coZ W (ρ.t 24) (ρ.t 24) ty (ρ.t 9) w.heap.size ((i+m)*k) (n+m-(i+m)) dc ⟨b,i*k,none⟩ (n-i) sc k (cs.drop (i*k)) L.t24 hsz (by rw[hdl,hminB])
   (fun j v hj=>by
    rw[Addr.add_lit,hWc,World.cell?_setCells_out _ _ _ _ _ (fun h _=>absurd h hbN)];exact hOb _ v (hcs (i*k+j) v (by rwa [List.getElem?_drop] at hj)))
   (fun j hj=>by rw[hWc];exact isSome_setCells w.heap.size vs (i*k) W1 (fun t ht=>hN _ (by omega)) _ (hN _ (by rw[hdl] at hj;omega)))
   (fun j hj=>by rw[hWf,World.frozen?_setCells];exact hNf _) (fun v hv=>h1c v (List.mem_of_mem_drop hv))
  rw[hminB] at this;exact this
 subst hW1;have hE1:∀x,((w.alloc (.cells ROW (ρ.t 9))).drew).cell? x=(w.drew.alloc (.cells ROW (ρ.t 9))).cell? x:=fun x=>rfl;have hE2:∀x,((w.alloc (.cells ROW (ρ.t 9))).drew).frozen? x=(w.drew.alloc (.cells ROW (ρ.t 9))).frozen? x:=fun x=>rfl;have hF1:∀x,(((w.alloc (.cells ROW (ρ.t 9))).drew.setCells w.heap.size (i*k) vs).drew).cell? x=((w.drew.alloc (.cells ROW (ρ.t 9))).setCells w.heap.size (i*k) vs).cell? x:=fun x=>rfl;have hF2:∀x,(((w.alloc (.cells ROW (ρ.t 9))).drew.setCells w.heap.size (i*k) vs).drew).frozen? x=((w.drew.alloc (.cells ROW (ρ.t 9))).setCells w.heap.size (i*k) vs).frozen? x:=fun x=>rfl;have hw1:IntKind.i64.wrap ((i:Int)+(m:Int))=(i:Int)+(m:Int):=by rw[IntKind.wrap_i64];omega
 have hb1:(0:Int)<=(i:Int)+(m:Int):=by omega
 have hin:i<=n:=by omega
 have htn:((i:Int)+(m:Int)).toNat=i+m:=by omega
 have hb3:(i:Int)<=(n:Int):=by omega
 clear hz0 hZ hkk hik hold hROW hG hRl hnm hnm2 hnm3;obtain⟨nm,hnm9,F22⟩:=L.f22
 go_enter F22,Body2.n22_ntmps ρ
 go_wp2_with (first
  |(at_builtin;refine Lib.wpList_append_run _ rfl _ _ _ _ rfl _ _ rfl rfl _ _ (hrz _) ?_)
  |(at_builtin;refine wpList_copy_runI _ rfl _ _ (ρ.t 24) (ρ.t 24) rfl _ _ rfl rfl (hcpA _ hE1 hE2 _ _) ?_)
  |(at_builtin;refine wpList_copy_runI _ rfl _ _ (ρ.t 24) (ρ.t 24) rfl _ _ rfl rfl (hcpB _ (fun _=>rfl) (fun _=>rfl) _ _ _) ?_))
 go_region_law_o (refine step_copy_runI rfl _ _ (ρ.t 24) (ρ.t 24) rfl (.slice (some ⟨w.heap.size,(i+m)*k,none⟩) (n+m-(i+m)) (G-(i+m))) (.slice (some ⟨b,i*k,none⟩) (n-i) (c-i)) (by simp[Act.eval,Act.put]) (by simp[Act.eval,Act.put]) (hcpB _ hF1 hF2 (ρ.t 3) (G-(i+m)) (c-i)) ?_)
 go_wp2
 go_ret
 exact⟨rfl,rfl⟩
end
end Go.Proofs
