/- An evaluator of the model's code over plain values, and its soundness; of no program. -/
import Derived.Test.YtplahfhggnkahaaE3
import Derived.Laws.IdiomRangeMap
import Derived.LoopN
import Derived.DataReads
import Derived.WalkKit
import Derived.ProofKit
import Derived.OpenShut
import Derived.JoinedTies
import GoSem.Claim
set_option linter.all false
namespace Go.Ab
theorem fgZ(H:Hp):∀(n id:Nat),hget (fillN H n) id=hget H id/\hkey (fillN H n) id=(hkey H id||(decide (id<n)&&decide (id<famBase)))
 |0,id=>by simp[fillN]
 |n+1,id=>by
  obtain⟨q1,q2⟩:=fgZ H n id;have key:hkey H n=true\/famBase<=n->(hkey H id||(decide (id<n)&&decide (id<famBase)))=(hkey H id||(decide (id<n+1)&&decide (id<famBase))):=fun h=>by
   by_cases hi:id=n
   ·subst hi;rcases h with h|h
    ·simp[h]
    ·simp[show¬id<famBase by omega]
   ·have:(id<n+1)↔id<n:=by omega
    simp[this]
  simp only[fillN];cases hk:hkey H n
  ·cases hb:Nat.ble famBase n
   ·have hlt:n<famBase:=Nat.not_le.1 fun h=>by rw[Nat.ble_eq_true_of_le h] at hb;cases hb
    simp only[Bool.or_self,cond_false,hget,hkey];by_cases h:n=id
    ·subst h;simp only[(aaZ n n).2 rfl,cond_true,hk];refine⟨(aoZ hk).symm,?_⟩;simp[hlt]
    ·simp only[agZ h,cond_false,q1,q2];refine⟨trivial,?_⟩;have:(id<n+1)↔id<n:=by omega
     simp[this]
   ·simp only[Bool.or_true,cond_true,q1,q2];exact⟨trivial,key (.inr (Nat.le_of_ble_eq_true hb))⟩
  ·simp only[Bool.true_or,cond_true,q1,q2];exact⟨trivial,key (.inl hk)⟩
theorem ccZ{id:Nat}:∀{l:List Nat},id∈famK l↔id∈l/\famBase<=id
 |[]=>by simp[famK]
 |i::l=>by
  simp only[famK];by_cases h:famBase<=i
  ·rw[Nat.ble_eq_true_of_le h,cond_true,List.mem_cons,List.mem_cons,ccZ];exact⟨fun h'=>h'.elim (fun e=>⟨.inl e,by omega⟩) fun h'=>⟨.inr h'.1,h'.2⟩,fun⟨h1,h2⟩=>h1.elim .inl fun h1=>.inr ⟨h1,h2⟩⟩
  ·rw[dvZ h,cond_false,List.mem_cons,ccZ];exact⟨fun h'=>⟨.inr h'.1,h'.2⟩,fun⟨h1,h2⟩=>⟨h1.resolve_left fun e=>by omega,h2⟩⟩
theorem dYZ{id:Nat}:∀{l:List Nat},id∈statK l↔id∈l/\id<famBase
 |[]=>by simp[statK]
 |i::l=>by
  simp only[statK];by_cases h:famBase<=i
  ·rw[Nat.ble_eq_true_of_le h,cond_true,List.mem_cons,dYZ];exact⟨fun h'=>⟨.inr h'.1,h'.2⟩,fun⟨h1,h2⟩=>⟨h1.resolve_left fun e=>by omega,h2⟩⟩
  ·rw[dvZ h,cond_false,List.mem_cons,List.mem_cons,dYZ];exact⟨fun h'=>h'.elim (fun e=>⟨.inl e,by omega⟩) fun h'=>⟨.inr h'.1,h'.2⟩,fun⟨h1,h2⟩=>h1.elim .inl fun h1=>.inr ⟨h1,h2⟩⟩
theorem dKZ{i k:Nat}:∀{l:List Nat},(i,k)∈diagN l↔i=k/\k∈l
 |[]=>by simp[diagN]
 |x::l=>by
  simp only[diagN,List.mem_cons,Prod.mk.injEq,dKZ];constructor
  ·rintro(⟨rfl,rfl⟩|⟨rfl,h⟩)
   ·exact⟨rfl,.inl rfl⟩
   ·exact⟨rfl,.inr h⟩
  ·rintro⟨rfl,rfl|h⟩
   ·exact .inl ⟨rfl,rfl⟩
   ·exact .inr ⟨rfl,h⟩
theorem m9Z{sh:LShp}{H:Hp}{vs:List AV}{i k:Nat}(h:(i,k)∈sh.ps H vs):k∈hkKeys sh.s.hs:=by
 unfold LShp.ps at h;rcases List.mem_append.1 h with h|h
 ·obtain⟨n,_,q⟩:=fyZ h;exact(dYZ.1 (List.mem_of_getElem? q)).1
 ·exact(ccZ.1 (dKZ.1 h).2).1
theorem jHZ{n:Nat}:∀{ps:List (Nat×Nat)},fixN n ps=true->∀i k,(i,k)∈ps->i=k\/(n<=i/\n<=k)
 |[],_,i,k,h=>by cases h
 |(a,b)::ps,h,i,k,hm=>by
  simp only[fixN,Bool.and_eq_true,Bool.or_eq_true,aaZ,Nat.ble_eq] at h;rcases List.mem_cons.1 hm with hm|hm
  ·injection hm with h1 h2;subst h1;subst h2;exact h.1
  ·exact jHZ h.2 i k hm
theorem jfZ{z:Z}{f:Nat->Value}:∀{ks:List Nat} {vs:List AV} {t:Tr},(∀k,ARep z (t.get k) (f k))->AReps z vs (ks.map f)->∀k,ARep z ((unTm ks vs t).get k) (f k)
 |[],vs,t,h,_,k=>by cases vs<;>exact h k
 |k0::ks,[],t,h,_,k=>h k
 |k0::ks,a::vs,t,h,hv,k=>by
  simp only[unTm];refine jfZ (fun j=> ?_) hv.tail k;by_cases hj:j=k0
  ·subst hj;rcases(Tr.get_put t j a j).2 with e|e<;>rw[e]
   ·exact hv.head
   ·exact .junk _
  ·rw[(Tr.get_put t k0 a j).1 hj];exact h j
theorem fCZ:∀(t:Tr) (k:Nat),t.keep.get k= .junk\/(t.keep.get k=t.get k/\(t.get k).noRef=true)
 |.lf,k=>.inl rfl
 |.nd l v r,k=>by
  simp only[Tr.keep,Tr.get];by_cases h0:k=0
  ·subst h0;simp only[(aaZ 0 0).2 rfl,cond_true];cases hv:v.noRef
   ·exact .inl rfl
   ·exact .inr ⟨rfl,rfl⟩
  ·simp only[agZ h0,cond_false];by_cases h1:k%2=1
   ·simp only[(aaZ _ _).2 h1,cond_true];exact fCZ l _
   ·simp only[agZ h1,cond_false];exact fCZ r _
theorem fBZ:∀(l:List Nat) (t:Tr) (k:Nat),(k∈l->(t.junk l).get k= .junk)/\(k∉l->(t.junk l).get k=t.get k)
 |[],t,k=>⟨fun h=>(by cases h),fun _=>rfl⟩
 |i::l,t,k=>by
  obtain⟨h1,h2⟩:=fBZ l (t.put i .junk) k;simp only[Tr.junk];refine⟨fun h=> ?_,fun h=> ?_⟩
  ·by_cases hk:k∈l
   ·exact h1 hk
   ·rw[h2 hk];have:k=i:=(List.mem_cons.1 h).resolve_right hk;subst this;rcases(Tr.get_put t k .junk k).2 with e|e<;>exact e
  ·rw[List.mem_cons,not_or] at h;rw[h2 h.2,(Tr.get_put t i .junk k).1 h.1]
theorem fAZ:∀(t:Tr),∃n,∀k,n<=k->t.get k= .junk
 |.lf=>⟨0,fun _ _=>rfl⟩
 |.nd l v r=>by
  obtain⟨nl,hl⟩:=fAZ l;obtain⟨nr,hr⟩:=fAZ r;refine⟨2*(nl+nr)+3,fun k hk=> ?_⟩;have h0:k≠0:=by omega
  simp only[Tr.get,agZ h0,cond_false];by_cases h1:k%2=1
  ·simp only[(aaZ _ _).2 h1,cond_true];exact hl _ (by omega)
  ·simp only[agZ h1,cond_false];exact hr _ (by omega)
theorem iRZ{a:AV}(h:a.noRef=true):AV.ids a=[]:=by
 cases a<;>first|rfl|(simp only[AV.noRef,List.isEmpty_iff] at h;exact h)
theorem lNZ{p:Nat->Prop}(h:∃n,p n):∃n,p n/\∀m,p m->n<=m:=by
 obtain⟨n,hn⟩:=h;induction n using Nat.strongRecOn with
 |_ n ih=>
  by_cases hm:∃m,m<n/\p m
  ·obtain⟨m,h1,h2⟩:=hm;exact ih m h1 h2
  ·exact⟨n,hn,fun m h=>Nat.le_of_not_lt fun hlt=>hm ⟨m,hlt,h⟩⟩
section
variable {P : Program} {T : Tbl} {β : Type} {z0 : Z} {N : Nat} {L : List (Nat × AV)}
theorem Inv.sub{L':List (Nat×AV)}{st:St}{a:Act}{w:World}(hi:Inv z0 N L' st a w)(h:∀p∈L,p∈L'):Inv z0 N L st a w:=by
 obtain⟨z,rfl,hn,hD,hH,hs,hLs,hdf,hnt,h0⟩:=hi;exact⟨z,rfl,hn,hD,hH,hs,fun p hp=>hLs p (h p hp),hdf,hnt,h0⟩
theorem h1Z:∀{ps:List (Nat×Nat)} {i i' k:Nat},(sndN ps).Nodup->(i,k)∈ps->(i',k)∈ps->i=i'
 |(a,b)::ps,i,i',k,hn,h,h'=>by
  simp only[sndN,List.nodup_cons] at hn;have hm:∀{ps:List (Nat×Nat)} {x:Nat},(x,k)∈ps->k∈sndN ps:=fun{ps}=>by
   induction ps with
   |nil=>intro x h;cases h
   |cons p ps ih=>
    intro x h;rcases List.mem_cons.1 h with rfl|h
    ·exact List.mem_cons_self
    ·exact List.mem_cons_of_mem _ (ih h)
  rcases List.mem_cons.1 h with e|q<;>rcases List.mem_cons.1 h' with e'|q'
  ·injection e with e1 e2;injection e' with e3 e4;rw[e1,e3]
  ·injection e with e1 e2;exact absurd (e2▸hm q') hn.1
  ·injection e' with e1 e2;exact absurd (e2▸hm q) hn.1
  ·exact h1Z hn.2 q q'
theorem l4Z{st:St}{sh:LShp}{K:sh.D->Option β}{r:β}{a:Act}{base:Tr}{nt n0:Nat}{z:Z}(h:st.prj sh K=some r)(hn:Nx z0 z)(hD:∀id,¬z.D id)(hH:HRep z st.hp)(hs:∀t,ARep z (st.tm.get t) (a.eval (.tmp t)))(hLs:∀p∈L,ARep z p.2 (a.eval (.tmp p.1)))
 (h0':∀id,id<dynBase->z0.ρ id≠.no->id<st.n0)(hLn:∀p∈L,AV.ids p.2=[])
 (hb:∀k,base.get k= .junk\/(k,base.get k)∈L)(h0:∀id,id<dynBase->z0.ρ id≠.no->id<n0):∃t z2,K t=some r/\z2.w=z.w/\Nx z0 z2/\(∀id,¬z2.D id)/\HRep z2 (sh.inj base nt n0 t).hp/\(∀k,ARep z2 ((sh.inj base nt n0 t).tm.get k) (a.eval (.tmp k)))/\(∀p∈L,ARep z2 p.2 (a.eval (.tmp p.1)))/\
  z2.M=z.M/\(∀g,z2.C g->z.C g)/\∀i k,pairIs (sh.ps st.hp (sh.live.map st.tm.get)) i k=true->z2.ρ k=z.ρ i:=by
 unfold St.prj at h;obtain⟨h1,h2⟩:=abZ.1 h;simp only[Bool.and_eq_true] at h1;have hfix:=jHZ h1.1;have hb0:=cKZ;have hall:=b1Z.1 h1.2;have hdyn:∀id,dynBase<=id->memN (rt id) (hkKeys sh.s.hs)=false->z.ρ id= .no:=fun id hd hm=>by
  have hk:hkey st.hp (rt id)=false:=by
   cases hk:hkey st.hp (rt id)
   ·rfl
   ·have:=(ccZ.1 (hall _ (ccZ.2 ⟨cIZ.1 hk,(bHZ hd).1⟩))).1;rw[aeZ.2 this] at hm;cases hm
  refine(hH.fresh id ?_).resolve_right (hD id);rw[auZ hd,aoZ hk];exact hk
 obtain⟨t,z',k1,k2,k3,k4,k5,k6,k7,k8,k9,k10,k11,k12,k13,k14⟩:=Shp.rco_ok (vals:=sh.live.map fun k=>a.eval (.tmp k)) (fun k=>if k<n0 then z.ρ k else .no) (fun k h1 h2=>by rw[hH.nos k h1 h2,ite_self]) h2 hH ⟨by simp,fun i x v e1 e2=>by
  rw[List.getElem?_map] at e1 e2;obtain⟨k,e3,rfl⟩:=Option.map_eq_some_iff.1 e1;rw[e3] at e2;simp at e2;subst e2;exact hs k⟩
 have hρ:∀id,z0.ρ id≠.no->z'.ρ id=z0.ρ id:=fun id hid=>by
  cases hk:memN id (hkKeys sh.s.hs)
  ·rw[k7 id hk];by_cases hdy:dynBase<=id
   ·rw[if_pos hdy];exact hn.ext id hid
   ·rw[if_neg hdy,if_pos (h0 id (by omega) hid)];exact hn.ext id hid
  ·obtain⟨id',q1,q2⟩:=k6 id hk;rcases hfix id' id q1 with rfl|⟨_,q4⟩
   ·rw[q2];exact hn.ext id' hid
   ·have:=h0' id (k13 id hk) hid;omega
 let z2:Z:={z' with D:=fun _=>False}
 have hn2:Nx z0 z2:=⟨by show z'.w.os=_;rw[k2];exact hn.os,⟨by show z'.w.tape=_;rw[k2];exact hn.tape.1,by show _<=z'.w.drawn;rw[k2];exact hn.tape.2⟩,by show z'.w.output=_;rw[k2];exact hn.output,by show _<=z'.w.heap.size;rw[k2];exact hn.size,
  fun b hb hc=>by show z'.w.heap[b]? =_;rw[k2];exact hn.block b hb hc,fun g hg=>hn.subM g (by rw[<-k3];exact hg),fun g hg=>hn.subC g (k8 g hg),fun g hg hm hc=>by show z'.M g;rw[k3];exact hn.keepM g hg hm hc,hρ,by
   funext id;have h1:¬z.D id:=hD id;rw[hn.dom] at h1;exact propext ⟨fun h=>h.elim,fun h=>h1 h⟩⟩
 have hL2:∀p∈L,ARep z2 p.2 (a.eval (.tmp p.1)):=fun p hp=>(hLs p hp).rho (z':=z2) k2 k3 (.inl k12) fun id hid=>by rw[hLn p hp] at hid;cases hid
 refine⟨t,z2,k1,k2,hn2,fun _ h=>h,?_⟩;rw[LShp.inj_eq];refine⟨?_,?_,hL2,k3,k8,fun i k hp=> ?_⟩
 ·have eq:=fgZ (sh.s.emb t).2 n0;have eqX:∀id,hgetX (fillN (sh.s.emb t).2 n0) id=hgetX (sh.s.emb t).2 id:=fun id=>b9Z (eq _).1;refine⟨fun id e' he=> ?_,fun i i' e e' g sz n g' sz' n' hii p1 p2 m1 m2 p3 p4=> ?_,fun id hid=> ?_,k4.sub,fun i x h=>k4.fam i x (by rw[<-(eq i).1];exact h),fun i h=> ?_,fun i _ _ h=>h,k4.nos⟩
  ·rw[eqX id] at he;exact(k4.ent id e' he).rho rfl rfl (.inl (.eq rfl)) rfl (fun _ _=>rfl) fun _ _ _ _ _ h=>h
  ·rw[eqX i] at p1;rw[eqX i'] at p2;exact k4.inj i i' _ _ g sz n g' sz' n' hii p1 p2 m1 m2 p3 p4
  ·left;show z'.ρ id= .no;by_cases hdy:dynBase<=id
   ·have hr:=(bHZ hdy).1;have hkk:hkey (fillN (sh.s.emb t).2 n0) (rt id)=hkey (sh.s.emb t).2 (rt id):=by
     rw[(eq (rt id)).2];simp[show¬rt id<famBase by omega]
    rw[cxZ (H:=(sh.s.emb t).2) (eq _).1 hkk] at hid;cases hm:memN (rt id) (hkKeys sh.s.hs)
    ·have hmi:memN id (hkKeys sh.s.hs)=false:=by
      cases hc:memN id (hkKeys sh.s.hs)
      ·rfl
      ·have:=k13 id hc;omega
     rw[k7 id hmi,if_pos hdy];exact hdyn id hdy hm
    ·refine(k4.fresh id hid).resolve_right fun hD'=> ?_;rw[k10,hm] at hD';cases hD'.1
   ·by_cases hf:famBase<=id
    ·exact k4.nos id hf (by omega)
    ·rw[axZ (by omega),(eq id).2] at hid;simp only[Bool.or_eq_false_iff,Bool.and_eq_false_iff,decide_eq_false_iff_not] at hid;rw[k11] at hid;rw[k7 id hid.1,if_neg hdy,if_neg (by omega)]
  ·rw[(eq i).2] at h;simp only[Bool.or_eq_true,Bool.and_eq_true,decide_eq_true_eq] at h;rcases h with h|h
   ·exact k4.key i h
   ·omega
 ·refine jfZ (z:=z2) (f:=fun k=>a.eval (.tmp k)) (fun k=> ?_) (k5.less rfl rfl fun g h=>h);rcases hb k with e|e
  ·rw[e];exact .junk _
  ·exact hL2 _ e
 ·unfold pairIs at hp;split at hp
  ·rename_i j hj;rw[aaZ] at hp;subst hp;have hm:=crZ hj;have hk:memN j (hkKeys sh.s.hs)=true:=aeZ.2 (m9Z hm);obtain⟨id',q1,q2⟩:=k6 j hk;have hnd:(sndN (sh.ps st.hp (sh.live.map st.tm.get))).Nodup:=by
    unfold Shp.rco at h2;have:=(abZ.1 h2).1;simp only[Bool.and_eq_true] at this;exact bQZ.1 this.1.2.1
   rw[show z2.ρ j=z'.ρ j from rfl,q2,h1Z hnd q1 hm]
  ·cases hp
theorem gdZ{st:St}{sh:LShp}{K:sh.D->Option β}{r:β}{a:Act}{w:World}{base:Tr}{nt n0:Nat}(h:st.prj sh K=some r)(hi:Inv z0 N L st a w)(hLn:∀p∈L,AV.ids p.2=[])
 (hb:∀k,base.get k= .junk\/(k,base.get k)∈L)(hnt:nt<=N)(h0:∀id,id<dynBase->z0.ρ id≠.no->id<n0):∃t,K t=some r/\Inv z0 N L (sh.inj base nt n0 t) a w:=by
 obtain⟨z,rfl,hn,hD,hH,hs,hLs,hdf,hnt',h0'⟩:=hi;obtain⟨t,z2,k1,k2,k3,k4,k5,k6,k7,_⟩:=l4Z (base:=base) (nt:=nt) (n0:=n0) h hn hD hH hs hLs h0' hLn hb h0;refine⟨t,k1,z2,k2,k3,k4,k5,k6,k7,hdf,?_,?_⟩
 ·rw[LShp.inj_eq];exact⟨hnt,hnt'.2⟩
 ·rw[LShp.inj_eq];exact h0
theorem Out.on_inl{γ:Type}{base:Tr}{nt n0:Nat}:∀{rt:Bool} {l:List (Nat×LShp)} {i:Nat} {st:St} {K:Out rt l β->Option γ} {r:γ} {a:Act} {w:World},Out.mk st rt l i K=some r->Inv z0 N L st a w->(∀p∈L,AV.ids p.2=[])->
 (∀k,base.get k= .junk\/(k,base.get k)∈L)->nt<=N->(∀id,id<dynBase->z0.ρ id≠.no->id<n0)->∃o,K o=some r/\∀(X:Nat->St->Option β) (R:β->Option β),∃st1,Inv z0 N L st1 a w/\Out.on base nt n0 rt l o X R=X i st1
 |rt,[],i,st,K,r,a,w,h,_,_,_,_,_=>by cases rt<;>cases h
 |true,[(j,s)],i,st,K,r,a,w,h,hi,hLn,hb,hnt,h0=>by
  simp only[Out.mk] at h;cases hj:Nat.beq j i<;>rw[hj] at h<;>simp only[bq_true,bq_false] at h
  ·cases h
  rw[aaZ] at hj;subst hj;obtain⟨t,h1,h2⟩:=gdZ h hi hLn hb hnt h0;exact⟨.inl t,h1,fun X R=>⟨_,h2,rfl⟩⟩
 |false,[(j,s)],i,st,K,r,a,w,h,hi,hLn,hb,hnt,h0=>by
  simp only[Out.mk] at h;cases hj:Nat.beq j i<;>rw[hj] at h<;>simp only[bq_true,bq_false] at h
  ·cases h
  rw[aaZ] at hj;subst hj;obtain⟨t,h1,h2⟩:=gdZ h hi hLn hb hnt h0;exact⟨t,h1,fun X R=>⟨_,h2,rfl⟩⟩
 |rt,(j,s)::o::l,i,st,K,r,a,w,h,hi,hLn,hb,hnt,h0=>by
  have h':bq (Nat.beq j i) (st.prj s fun t=>K (.inl t)) (Out.mk st rt (o::l) i fun x=>K (.inr x))=some r:=by cases rt<;>exact h
  clear h;cases hj:Nat.beq j i<;>rw[hj] at h'<;>simp only[bq_true,bq_false] at h'
  ·obtain⟨x,h1,h2⟩:=Out.on_inl h' hi hLn hb hnt h0;refine⟨.inr x,h1,fun X R=> ?_⟩;obtain⟨st1,h3,h4⟩:=h2 X R;exact⟨st1,h3,by cases rt<;>exact h4⟩
  ·rw[aaZ] at hj;subst hj;obtain⟨t,h1,h2⟩:=gdZ h' hi hLn hb hnt h0;exact⟨.inl t,h1,fun X R=>⟨_,h2,by cases rt<;>rfl⟩⟩
theorem Out.on_ret{base:Tr}{nt n0:Nat}{b:β}{X:Nat->St->Option β}{R:β->Option β}:∀{l:List (Nat×LShp)},Out.on base nt n0 true l (Out.ret l b) X R=R b
 |[]=>rfl
 |[(_,_)]=>rfl
 |(_,_)::o::l=>Out.on_ret (l:=o::l)
theorem Tr.ren_get(f:Nat->Option Nat):∀(t:Tr) (k:Nat),(t.ren f).get k=AV.ren f (t.get k)
 |.lf,k=>rfl
 |.nd l v r,k=>by
  simp only[Tr.ren,Tr.get];cases Nat.beq k 0
  ·cases Nat.beq (k%2) 1
   ·exact Tr.ren_get f r _
   ·exact Tr.ren_get f l _
  ·rfl
theorem bNZ(f:Nat->Option Nat):∀(H:Hp) (id:Nat),hget (mapHp f H) id=(hget H id).map (Ent.ren f)/\hkey (mapHp f H) id=hkey H id
 |[],id=>⟨rfl,rfl⟩
 |(i,none)::H,id=>by
  obtain⟨h1,h2⟩:=bNZ f H id;simp only[mapHp,hget,hkey];cases Nat.beq i id
  ·exact⟨h1,h2⟩
  ·exact⟨rfl,rfl⟩
 |(i,some e)::H,id=>by
  obtain⟨h1,h2⟩:=bNZ f H id;simp only[mapHp,hget,hkey];cases Nat.beq i id
  ·exact⟨h1,h2⟩
  ·exact⟨rfl,rfl⟩
theorem lxZ{old new id k:Nat}(h:renF old new id=some k):(id=old/\k=new)\/(id≠old/\k=id):=by
 unfold renF at h;by_cases hi:id=old
 ·rw[(aaZ id old).2 hi,bq_true] at h;exact .inl ⟨hi,(Option.some.inj h).symm⟩
 ·rw[agZ hi,bq_false] at h;exact .inr ⟨hi,(Option.some.inj h).symm⟩
theorem kyZ{z:Z}{H:Hp}{old new:Nat}{e:Ent}(hH:HRep z H)(hg:hget H old=some e)(hk:hkey H new=false)(hnl:new<famBase)(hol:old<famBase)(hd:¬z.D new):
 ∃z',z'.w=z.w/\HRep z' (hset (hset (mapHp (renF old new) H) old none) new (some (e.ren (renF old new))))/\Nx z z'/\∀a v,ARep z a v->ARep z' (AV.ren (renF old new) a) v:=by
 have hno:=(hH.fresh new (by rw[axZ hnl];exact hk)).resolve_right hd;have hne:new≠old:=fun h=>by rw[h,afZ hg] at hk;cases hk
 let z':Z:={z with ρ:=fun i=>if i=new then z.ρ old else z.ρ i}
 have e1:∀i,i≠new->z'.ρ i=z.ρ i:=fun i hi=>if_neg hi;have e2:z'.ρ new=z.ρ old:=if_pos rfl;have hn:Nx z z':=⟨rfl,⟨rfl,Nat.le_refl _⟩,rfl,Nat.le_refl _,fun _ _ _=>rfl,fun _ h=>.inl h,fun _ h=>.inl h,fun _ _ h _=>h,fun i hi=>e1 i (by rintro rfl;exact hi hno),rfl⟩;have hf:∀{id k:Nat},z.ρ id≠.no->renF old new id=some k->z'.ρ k=z.ρ id:=fun{id k} hl h=>by
  rcases lxZ h with⟨rfl,rfl⟩|⟨h1,rfl⟩
  ·exact e2
  ·exact e1 _ (by rintro rfl;exact hl hno)
 have hid:∀i ee,hget H i=some ee->i≠new:=fun i ee h hi=>by rw[<-hi,afZ h] at hk;cases hk
 have hent:∀i ee,ERep z i ee->∀k,z'.ρ k=z.ρ i->ERep z' k (ee.ren (renF old new)):=fun i ee h k hki=>by
  unfold ERep at h⊢;rw[hki];cases hr:z.ρ i with
  |no=>rw[hr] at h;exact h
  |virt=>
   rw[hr] at h;obtain⟨fz,b⟩:=ee;cases b<;>first|exact h.elim|exact h
  |real g sz n=>
   rw[hr] at h;obtain⟨a1,a2,a3,a4⟩:=h;refine⟨a1,a2,a3,a4.ren' (.of hn.ext) ?_⟩;exact hf
 have hmX:∀i,hgetX (mapHp (renF old new) H) i=(hgetX H i).map (Ent.ren (renF old new))/\hkeyX (mapHp (renF old new) H) i=hkeyX H i:=fun i=>by
  obtain⟨q1,q2⟩:=bNZ (renF old new) H (rt i);by_cases hd:dynBase<=i
  ·rw[awZ hd,awZ hd,auZ hd,auZ hd,q1,q2];cases hget H (rt i) with
   |none=>exact⟨rfl,rfl⟩
   |some e0=>
    simp only[Option.map_some,Option.bind_some];rw[(dmZ e0 _ _).2 (Nat.le_refl _),(dmZ e0 _ _).1];refine⟨?_,rfl⟩;cases hp:pick ((i-dynBase)/16) e0 with
    |none=>rfl
    |some x=>simp only[Option.map_some,(cXZ hp _).1]
  ·unfold hgetX hkeyX;rw[if_neg hd,if_neg hd,if_neg hd,if_neg hd];by_cases hf:famBase<=i
   ·rw[if_pos hf,if_pos hf,if_pos hf,if_pos hf];exact⟨rfl,rfl⟩
   ·rw[if_neg hf,if_neg hf,if_neg hf,if_neg hf];rw[aJZ (by omega)] at q1 q2;exact⟨q1,q2⟩
 have key:∀i ee,hgetX (hset (hset (mapHp (renF old new) H) old none) new (some (e.ren (renF old new)))) i=some ee->∃j e0,hgetX H j=some e0/\ee=e0.ren (renF old new)/\((i=new/\j=old)\/(i≠new/\i≠old/\j=i)):=fun i ee h=>by
  rw[atZ hnl] at h;by_cases hi:i=new
  ·rw[if_pos hi] at h;exact⟨old,e,by rw[apZ hol];exact hg,(Option.some.inj h).symm,.inl ⟨hi,rfl⟩⟩
  ·rw[if_neg hi,atZ hol] at h;by_cases ho:i=old
   ·rw[if_pos ho] at h;cases h
   ·rw[if_neg ho,(hmX i).1] at h;obtain⟨e0,h1,h2⟩:=Option.map_eq_some_iff.1 h;exact⟨i,e0,h1,h2.symm,.inr ⟨hi,ho,rfl⟩⟩
 have hb0:=cKZ;have hfR:∀(i:Nat) (x:Ent),Ab.famOk i x->Ab.famOk i (x.ren (renF old new)):=fun i x h=>by
  obtain⟨fz,b⟩:=x;cases b<;>exact h
 have hρj:∀i j,((i=new/\j=old)\/(i≠new/\i≠old/\j=i))->z'.ρ i=z.ρ j:=fun i j h=>by
  rcases h with⟨rfl,rfl⟩|⟨h1,_,rfl⟩
  ·exact e2
  ·exact e1 _ h1
 refine⟨z',rfl,⟨fun i ee h=> ?_,fun i i' ee ee' g sz n g' sz' n' hii p1 p2 m1 m2 p3 p4=> ?_,fun i h=> ?_,hH.sub,fun i x h=> ?_,fun i h=> ?_,fun i hdy h=> ?_,fun i h1 h2=>by rw[e1 i (by omega)];exact hH.nos i h1 h2⟩,hn,fun a v h=>h.ren rfl rfl (.inl (.of hn.ext)) fun id k hi hk=>hf (h.live id hi) hk⟩
 ·obtain⟨j,e0,q1,rfl,q3⟩:=key i ee h;exact hent j e0 (hH.ent _ _ q1) i (hρj i j q3)
 ·obtain⟨j,e0,q1,rfl,q3⟩:=key i ee p1;obtain⟨j',e0',q1',rfl,q3'⟩:=key i' ee' p2;rw[hρj i j q3] at p3;rw[hρj i' j' q3'] at p4;have hjj:j≠j':=by
   rcases q3 with⟨rfl,rfl⟩|⟨h1,h2,rfl⟩<;>rcases q3' with⟨rfl,rfl⟩|⟨h1',h2',rfl⟩
   ·exact absurd rfl hii
   ·exact Ne.symm h2'
   ·exact h2
   ·exact hii
  have rr:∀{i j},((i=new/\j=old)\/(i≠new/\i≠old/\j=i))->Ro j->Ro i:=fun h hr=>by
   rcases h with⟨_,rfl⟩|⟨_,_,rfl⟩
   ·exact absurd hr (bKZ hol)
   ·exact hr
  exact fun p5=>hH.inj j j' e0 e0' g sz n g' sz' n' hjj q1 q1' m1 m2 p3 p4 fun h=>p5 ⟨rr q3 h.1,rr q3' h.2⟩
 ·rw[aKZ hnl,aKZ hol,(hmX i).2] at h;simp only[Bool.or_eq_false_iff,decide_eq_false_iff_not] at h;rw[e1 i h.1];exact hH.fresh i h.2.2
 ·rw[aiZ] at h;by_cases hi:i=new
  ·rw[if_pos hi] at h;injection h with h;subst h;subst hi;exact hfR _ _ ((hH.fam old e hg).other hol i hnl e.fz)
  ·rw[if_neg hi,aiZ] at h;by_cases ho:i=old
   ·rw[if_pos ho] at h;cases h
   ·rw[if_neg ho,(bNZ _ H i).1] at h;obtain⟨e0,h1,rfl⟩:=Option.map_eq_some_iff.1 h;exact hfR _ _ (hH.fam i e0 h1)
 ·rw[alZ,alZ,(bNZ _ H i).2] at h;simp only[Bool.or_eq_true,decide_eq_true_eq] at h;rcases h with rfl|rfl|h
  ·omega
  ·omega
  ·exact hH.key i h
 ·rw[alZ,alZ,(bNZ _ H _).2] at h;simp only[Bool.or_eq_true,decide_eq_true_eq] at h;have:=(bHZ hdy).1;refine hH.dyn i hdy ?_;rcases h with h|h|h
  ·omega
  ·omega
  ·exact h
theorem HRep.reent{z:Z}{H:Hp}{id:Nat}{b0 b:Blk}(hH:HRep z H)(hid:id<famBase)(hg:hget H id=some ⟨false,b0⟩)(hb:ERep z id ⟨false,b0⟩->ERep z id ⟨false,b⟩)(hf:Ab.famOk id ⟨false,b⟩):HRep z (hset H id (some ⟨false,b⟩)):=by
 have hu:=Upd.stat hid hg hf;have hgX:hgetX H id=some ⟨false,b0⟩:=by rw[apZ hid];exact hg
 refine⟨fun i e hi=> ?_,fun i i' e e' a sa na a' sa' na' hii h1 h2 m1 m2 h3 h4=> ?_,fun i hi=>hH.fresh i (hu.K i hi),hH.sub,fun i x h=>(hu.fam i x h).elim (hH.fam i x) fun h=>h,fun i h=>hH.key i (hu.key i h),fun i hd h=>hH.dyn i hd (hu.key _ h),hH.nos⟩
 ·rw[hu.X] at hi;by_cases h:i=id
  ·subst h;rw[if_pos rfl] at hi;injection hi with hi;subst hi;exact hb (hH.ent _ _ hgX)
  ·rw[if_neg h] at hi;exact hH.ent _ _ hi
 ·rw[hu.X] at h1 h2;have q:∀j ee,(if j=id then some (⟨false,b⟩:Ent) else hgetX H j)=some ee->ee.fz=false->∃ee',hgetX H j=some ee'/\ee'.fz=false:=fun j ee hj hf=>by
   by_cases h:j=id
   ·subst h;exact⟨_,hgX,rfl⟩
   ·rw[if_neg h] at hj;exact⟨_,hj,hf⟩
  obtain⟨e1,q1,f1⟩:=q _ _ h1 m1;obtain⟨e2,q2,f2⟩:=q _ _ h2 m2;exact hH.inj i i' _ _ _ _ _ _ _ _ hii q1 q2 f1 f2 h3 h4
theorem iDZ{t:Ty}(h:t.unref= .byte):t= .byte:=by
 cases t<;>simp[Ty.unref] at h⊢
theorem jMZ{z:Z}{id:Nat}{e:TypeId}{t:Ty}{l:List t.unref.den}(h:ERep z id ⟨false,.rows e t.unref l⟩):ERep z id ⟨false,.rows e t (l.map (liftT t))⟩:=by
 unfold ERep at h⊢;cases hρ:z.ρ id with
 |no=>rw[hρ] at h;exact h
 |virt=>
  rw[hρ] at h;obtain⟨rfl,h2⟩:=h;rw[arZ] at h2;exact⟨rfl,h2⟩
 |real g sz n=>
  rw[hρ] at h;obtain⟨h1,h2,h3,cs,fr,a1,a2,a3,a4,a5,a6,a7⟩:=h;rw[arZ] at a5 a6;refine⟨h1,h2,h3,cs,fr,a1,a2.imp (fun h=>h) (fun h=>⟨iDZ h.1,h.2⟩),a3,by rw[List.length_map];exact a4,by rw[List.length_map];exact a5,a6,fun i x hx=> ?_⟩;rw[List.getElem?_map] at hx;obtain⟨y,hy,rfl⟩:=Option.map_eq_some_iff.1 hx;obtain⟨u,b1,b2⟩:=a7 i y hy;rw[arZ] at b2;exact⟨u,daZ b1,b2⟩
theorem HRep.newFam{z:Z}{H:Hp}{f:Nat}{e:TypeId}{s:Ty}(hH:HRep z H)(hD:∀id,¬z.D id)(hk:hkey H (famId f)=false)(hs:s.noRef=true)(hc:0<s.cells):HRep z (hset H (famId f) (some ⟨false,.fam e s []⟩)):=by
 have hX:∀i,hgetX (hset H (famId f) (some ⟨false,.fam e s []⟩)) i=hgetX H i:=fun i=>by
  by_cases hi:∃k,i=enc f k
  ·obtain⟨k,rfl⟩:=hi;rw[(biZ H f _ 0).1 k,bvZ,aoZ hk]
   rfl
  ·exact(biZ H f _ i).2 fun k h=>hi ⟨k,h⟩
 refine⟨fun i ee h=>hH.ent i ee (by rw[<-hX];exact h),fun i i' ee ee' g sz n g' sz' n' hii p1 p2 m1 m2 p3 p4=>hH.inj i i' ee ee' g sz n g' sz' n' hii (by rw[<-hX];exact p1) (by rw[<-hX];exact p2) m1 m2 p3 p4,fun i h=> ?_,hH.sub,fun i x h=> ?_,fun i h=> ?_,fun i _ _=>hD i,hH.nos⟩
 ·by_cases hi:∃k,i=enc f k
  ·obtain⟨k,rfl⟩:=hi;refine hH.fresh _ ?_;rw[auZ (bnZ f k),c0Z,aoZ hk];exact hk
  ·rw[(bzZ H f _ i).2 fun k h=>hi ⟨k,h⟩] at h;exact hH.fresh i h
 ·rw[aiZ] at h;by_cases hi:i=famId f
  ·rw[if_pos hi] at h;injection h with h;subst h;rw[hi];exact⟨(bhZ f).1,(bhZ f).2,hs,hc,rfl⟩
  ·rw[if_neg hi] at h;exact hH.fam i x h
 ·rw[alZ] at h;simp only[Bool.or_eq_true,decide_eq_true_eq] at h;rcases h with rfl|h
  ·exact(bhZ f).2
  ·exact hH.key i h
theorem evZ{β:Type}{g:Gh}{st:St}{K:St->Option β}{r:β}(h:ghostK P g st K=some r):∃st',ghost P g st=some st'/\K st'=some r:=by
 cases g with
 |pureCell b o=>
  unfold ghostK at h;unfold ghost;dsimp only at h⊢;split at h
  ·rename_i c hg;split at h
   ·rename_i a ha;rw[euZ] at h;obtain⟨⟨x,H'⟩,h1,h2⟩:=adZ.1 h;rw[h1];simp only at h2⊢;split at h2
    ·exact⟨_,rfl,h2⟩
    ·cases h2
   ·exact⟨_,rfl,h⟩
  ·exact⟨_,rfl,h⟩
 |opn k m=>
  unfold ghostK at h;unfold ghost;dsimp only at h⊢;cases hb:Nat.blt m 10<;>rw[hb] at h<;>simp only[bq_true,bq_false] at h⊢
  ·rw[hEZ] at h;obtain⟨x,h1,h2⟩:=adZ.1 h;rw[h1];exact⟨_,rfl,h2⟩
  ·cases h
 |_=>exact adZ.1 h
theorem hBZ{g:Gh}{st st':St}{a:Act}{w:World}(h:ghost P g st=some st')(hi:Inv z0 N L st a w)(_hL:∀k,((∃e id,g= .ownNil k e id)\/g= .pure k)->∀p∈L,p.1≠k)(hLn:∀p∈L,AV.ids p.2=[]):Inv z0 N L st' a w:=by
 obtain⟨z,rfl,hn,hD,hH,hs,hLs,hdf,hnt,h0⟩:=hi;unfold ghost at h;split at h
 ·rename_i old new;split at h
  ·rename_i e hg;cases hk:(hkey st.hp new||Nat.ble famBase new||Nat.ble famBase old)<;>rw[hk] at h<;>simp only[bq_true,bq_false] at h
   ·simp only[Option.some.injEq] at h;subst h;simp only[Bool.or_eq_false_iff] at hk;have hlow:∀{n:Nat},Nat.ble famBase n=false->n<famBase:=fun{n} h=>Nat.not_le.1 fun h'=>by rw[Nat.ble_eq_true_of_le h'] at h;cases h
    obtain⟨z',q1,q2,q3,q4⟩:=kyZ hH hg hk.1.1 (hlow hk.1.2) (hlow hk.2) (hD new);have kp:=q3.kp hH.sub;refine⟨z',q1,hn.trans q3,fun id=>by rw[q3.dom];exact hD id,q2,fun t=> ?_,fun p hp=>(hLs p hp).kp kp,hdf,hnt,h0⟩;show ARep z' ((st.tm.ren (renF old new)).get t) _;rw[Tr.ren_get];exact q4 _ _ (hs t)
   ·cases h
  ·cases h
 ·rename_i k;obtain⟨⟨x,H'⟩,h1,h2⟩:=Option.map_eq_some_iff.1 h;subst h2;obtain⟨z',q1,q2,q3,q4,q5⟩:=d7Z hH h1 (hs k);have kp:=q3.kp hH.sub;refine⟨z',q1,hn.trans q3,fun id=>by rw[q3.dom];exact hD id,q2,fun t=> ?_,fun p hp=>(hLs p hp).kp kp,hdf,hnt,h0⟩;show ARep z' ((st.tm.put k x).get t) _;by_cases ht:t=k
  ·subst ht;rcases(Tr.get_put st.tm t x t).2 with e|e<;>rw[e]
   ·exact q5
   ·exact .junk _
  ·rw[(Tr.get_put st.tm k x t).1 ht];exact(hs t).kp kp
 ·rename_i k;simp only[Option.some.injEq] at h;subst h;obtain⟨z',q1,q2,q3,q4⟩:=jtZ (st.tm.get k) hH;have kp:=q3.kp hH.sub;exact⟨z',q1,hn.trans q3,fun id=>by rw[q3.dom];exact hD id,q2,fun t=>(hs t).kp kp,fun p hp=>(hLs p hp).kp kp,hdf,hnt,h0⟩
 ·rename_i id;simp only[Option.some.injEq] at h;subst h;obtain⟨z',q1,q2,q3,q4⟩:=hQZ id hH;have kp:=q3.kp hH.sub;exact⟨z',q1,hn.trans q3,fun id=>by rw[q3.dom];exact hD id,q2,fun t=>(hs t).kp kp,fun p hp=>(hLs p hp).kp kp,hdf,hnt,h0⟩
 ·rename_i b o;split at h
  ·rename_i c hg;split at h
   ·rename_i x hc;split at h
    ·rename_i y H' hp;split at h
     ·rename_i c' hg';simp only[Option.some.injEq] at h;subst h;have hblow:b<famBase:=hH.fam b _ hg;have hb0:=hH.ent b _ (by rw[apZ hblow];exact hg);unfold ERep at hb0;cases hρ:z.ρ b with
      |no=>rw[hρ] at hb0;exact hb0.elim
      |virt=>rw[hρ] at hb0;exact hb0.elim
      |real g sz n=>
       rw[hρ] at hb0;obtain⟨_,_,_,cs,e',fr,a1,a2,a3,⟨a4,an⟩,a5,a6⟩:=hb0;have ho:o<c.length:=(List.getElem?_eq_some_iff.1 hc).1;obtain⟨v,hv⟩:∃v,cs[o]? =some v:=⟨_,Array.getElem?_eq_getElem (by omega)⟩;obtain⟨z1,p1,p2,p3,p4,p5⟩:=d7Z hH hp (a5 o x v hc hv);have kp:=p3.kp hH.sub;have hρ1:z1.ρ b= .real g sz n:=by rw[p4];exact hρ
       obtain⟨r1,r2⟩:=p2.write (w':=z1.w) (b:=.vars (c.set o y)) hg' hρ1 rfl ⟨rfl,Nat.le_refl _⟩ rfl rfl (fun _ _=>rfl) (fun _=>by
        refine⟨cs,e',fr,by rw[p1];exact a1,a2,a3,⟨by simpa using a4,an⟩,fun i x' v' q1 q2=> ?_,a6⟩;rw[List.getElem?_set] at q1;split at q1
        ·rename_i hoi;subst hoi;rw[hv] at q2;simp only[Option.some.injEq] at q2;subst q2;have:y=x':=by simpa[ho] using q1
         subst this;exact p5
        ·exact(a5 i x' v' q1 q2).kp kp)
       exact⟨z1,p1,hn.trans p3,fun id=>by rw[p3.dom];exact hD id,r1,fun t=>(hs t).kp kp,fun p hp=>(hLs p hp).kp kp,hdf,hnt,h0⟩
     ·cases h
    ·simp only[Option.some.injEq] at h;subst h;exact⟨z,rfl,hn,hD,hH,hs,hLs,hdf,hnt,h0⟩
   ·simp only[Option.some.injEq] at h;subst h;exact⟨z,rfl,hn,hD,hH,hs,hLs,hdf,hnt,h0⟩
  ·simp only[Option.some.injEq] at h;subst h;exact⟨z,rfl,hn,hD,hH,hs,hLs,hdf,hnt,h0⟩
 ·rename_i k e id;split at h
  ·rename_i hq;obtain⟨u,h1,h2⟩:=adZ.1 h;cases hk:(hkey st.hp id||Nat.ble famBase id)<;>rw[hk] at h2<;>simp only[bq_true,bq_false] at h2
   ·simp only[Option.some.injEq] at h2;subst h2;simp only[Bool.or_eq_false_iff] at hk;have hlow:id<famBase:=Nat.not_le.1 fun h'=>by rw[Nat.ble_eq_true_of_le h'] at hk;cases hk.2
    obtain⟨z1,p1,p2,p3,p4⟩:=hH.newV ⟨hk.1,hlow⟩ (hD id) (b:=.rows e u []) ⟨rfl,(bVZ h1).2.1⟩;have kp:=p3.kp hH.sub;have hv:=hs k;rw[hq] at hv;have hv:=hv.v.opq.1;refine⟨z1,p1,hn.trans p3,fun id=>by rw[p3.dom];exact hD id,p2,fun t=> ?_,fun p hp=>(hLs p hp).kp kp,hdf,hnt,h0⟩;by_cases ht:t=k
    ·subst ht;show ARep z1 ((st.tm.put t (.slf u.cells id)).get t) _;rcases(Tr.get_put st.tm t (.slf u.cells id) t).2 with e|e<;>rw[e]
     ·rw[hv];exact .slfV _ _ _ p4
     ·exact .junk _
    ·show ARep z1 ((st.tm.put k (.slf u.cells id)).get t) _;rw[(Tr.get_put st.tm k (.slf u.cells id) t).1 ht];exact(hs t).kp kp
   ·cases h2
  ·simp only[Option.some.injEq] at h;subst h;exact⟨z,rfl,hn,hD,hH,hs,hLs,hdf,hnt,h0⟩
 ·rename_i b o e id;split at h
  ·rename_i c hg;split at h
   ·rename_i hc;obtain⟨u,h1,h2⟩:=adZ.1 h;cases hk:(hkey st.hp id||Nat.ble famBase id)<;>rw[hk] at h2<;>simp only[bq_true,bq_false] at h2
    ·simp only[Option.some.injEq] at h2;subst h2;simp only[Bool.or_eq_false_iff] at hk;have hlow:id<famBase:=Nat.not_le.1 fun h'=>by rw[Nat.ble_eq_true_of_le h'] at hk;cases hk.2
     replace hk:=hk.1
     obtain⟨z1,p1,p2,p3,p4⟩:=hH.newV ⟨hk,hlow⟩ (hD id) (b:=.rows e u []) ⟨rfl,(bVZ h1).2.1⟩;have kp:=p3.kp hH.sub;have hbi:b≠id:=fun h=>by subst h;rw[afZ hg] at hk;cases hk
     have hg1:hget (hset st.hp id (some ⟨false,.rows e u []⟩)) b=some ⟨false,.vars c⟩:=by rw[aiZ,if_neg hbi];exact hg
     have hblow:b<famBase:=hH.fam b _ hg;have hb0:=p2.ent b _ (by rw[apZ hblow];exact hg1);have hsame:∀H1 H2:Hp,H1=hset (hset st.hp b (some ⟨false,.vars (c.set o (.slf u.cells id))⟩)) id (some ⟨false,.rows e u []⟩)->H2=hset (hset st.hp id (some ⟨false,.rows e u []⟩)) b (some ⟨false,.vars (c.set o (.slf u.cells id))⟩)->
      (∀i,hget H1 i=hget H2 i)/\∀i,hkey H1 i=hkey H2 i:=by
      rintro _ _ rfl rfl;refine⟨fun i=> ?_,fun i=> ?_⟩
      ·simp only[aiZ];by_cases h1:i=id
       ·subst h1;simp[Ne.symm hbi]
       ·simp[h1]
      ·simp only[alZ];cases decide (i=id)<;>cases decide (i=b)<;>rfl
     obtain⟨s1,s2⟩:=hsame _ _ rfl rfl;unfold ERep at hb0;cases hρ:z1.ρ b with
     |no=>rw[hρ] at hb0;exact hb0.elim
     |virt=>rw[hρ] at hb0;exact hb0.elim
     |real g sz n=>
      rw[hρ] at hb0;obtain⟨_,_,_,cs,e',fr,a1,a2,a3,⟨a4,an⟩,a5,a6⟩:=hb0;obtain⟨r1,r2⟩:=p2.write (w':=z1.w) (b:=.vars (c.set o (.slf u.cells id))) hg1 hρ rfl ⟨rfl,Nat.le_refl _⟩ rfl rfl (fun _ _=>rfl) (fun _=>by
       refine⟨cs,e',fr,a1,a2,a3,⟨by simpa using a4,an⟩,fun i x v q1 q2=> ?_,a6⟩;rw[List.getElem?_set] at q1;split at q1
       ·rename_i hoi;subst hoi;split at q1
        ·simp only[Option.some.injEq] at q1;subst q1;have:=a5 o _ v hc q2;obtain rfl:=this.v.opq.1;exact .slfV _ _ _ p4
        ·cases q1
       ·exact a5 i x v q1 q2)
      exact⟨z1,p1,hn.trans p3,fun id=>by rw[p3.dom];exact hD id,r1.same s1 s2,fun t=>(hs t).kp kp,fun p hp=>(hLs p hp).kp kp,hdf,hnt,h0⟩
    ·cases h2
   ·simp only[Option.some.injEq] at h;subst h;exact⟨z,rfl,hn,hD,hH,hs,hLs,hdf,hnt,h0⟩
  ·simp only[Option.some.injEq] at h;subst h;exact⟨z,rfl,hn,hD,hH,hs,hLs,hdf,hnt,h0⟩
 ·rename_i f e s;cases hk:(hkey st.hp (famId f)|| !s.noRef||Nat.beq s.cells 0)<;>rw[hk] at h<;>simp only[bq_true,bq_false] at h
  ·simp only[Option.some.injEq] at h;subst h;simp only[Bool.or_eq_false_iff,Bool.not_eq_false'] at hk;have hc:0<s.cells:=Nat.pos_of_ne_zero fun h=>by rw[(aaZ _ _).2 h] at hk;cases hk.2
   exact⟨z,rfl,hn,hD,hH.newFam hD hk.1.1 hk.1.2 hc,hs,hLs,hdf,hnt,h0⟩
  ·cases h
 ·rename_i k f;split at h
  ·rename_i e s ms hg;obtain⟨⟨x,H'⟩,h1,h2⟩:=Option.map_eq_some_iff.1 h;subst h2;obtain⟨z',q1,q2,q3,q5⟩:=fEZ hH h1 (hs k);have kp:=q3.kp hH.sub;refine⟨z',q1,hn.trans q3,fun id=>by rw[q3.dom];exact hD id,q2,fun t=> ?_,fun p hp=>(hLs p hp).kp kp,hdf,hnt,h0⟩;show ARep z' ((st.tm.put k x).get t) _;by_cases ht:t=k
   ·subst ht;rcases(Tr.get_put st.tm t x t).2 with e|e<;>rw[e]
    ·exact q5
    ·exact .junk _
   ·rw[(Tr.get_put st.tm k x t).1 ht];exact(hs t).kp kp
  ·cases h
 ·rename_i k m;cases hb:Nat.blt m 10<;>rw[hb] at h<;>simp only[bq_true,bq_false] at h
  ·obtain⟨⟨x,H'⟩,h1,h2⟩:=Option.map_eq_some_iff.1 h;subst h2;have hm:¬m<10:=fun hc=>by rw[show Nat.blt m 10=true from Nat.ble_eq_true_of_le hc] at hb;cases hb
   obtain⟨z',Mf,q1,q2,q3,q4,q5,q6⟩:=iGZ hH (.inr (hD _)) h1 (hs k);have q6:=q6 (by omega);subst q6;have kp:=q3.kp hH.sub;refine⟨z',q1,hn.trans q3,fun id=>by rw[q3.dom];exact hD id,q2,fun t=> ?_,fun p hp=>(hLs p hp).kp kp,hdf,hnt,h0⟩;show ARep z' ((st.tm.put k x).get t) _;by_cases ht:t=k
   ·subst ht;rcases(Tr.get_put st.tm t x t).2 with e|e<;>rw[e]
    ·exact q5
    ·exact .junk _
   ·rw[(Tr.get_put st.tm k x t).1 ht];exact(hs t).kp kp
  ·cases h
 ·rename_i id t;split at h
  ·rename_i e u l hg;rcases a2Z h with⟨hu,h'⟩|h'
   ·subst hu;have:=Option.some.inj h';subst this;exact⟨z,rfl,hn,hD,hH.reent (hH.fam id _ hg) hg jMZ (show id<famBase from hH.fam id _ hg),hs,hLs,hdf,hnt,h0⟩
   ·cases h'
  ·cases h
def AC.of:AC->Code->Prop
 |.skip,c=>c= .skip
 |.ret,c=>c= .ret
 |.exit i,c=>c= .exit i
 |.seq a b,c=>∃x y,c= .seq x y/\a.of x/\b.of y
 |.cond o a b,c=>∃x y,c= .cond o x y/\a.of x/\b.of y
 |.block i a,c=>∃x,c= .block i x/\a.of x
 |.loop _ _ _ a,c=>∃x,c= .loop x/\a.of x
 |.region i ops d,c=>∃arr,c= .region i arr d/\ops.map (·.1)=arr.toList
 |.join _ _ _ a,c=>a.of c
 |.pre _ a,c=>a.of c
 |.sel _ a b,c=>a.of c/\b.of c
 |.post _ a,c=>a.of c
 |.round a r,c=>∃x,c= .loop x/\a.of x/\r.of c
 |.bad _,_=>True
theorem dnZ(l:List (Nat×Ann)):∀(k:Nat) (ops:List Oper),(annOps l k ops).map (·.1)=ops
 |_,[]=>rfl
 |k,o::r=>by simp[annOps,dnZ l (k+1) r]
theorem aUZ:(c:Code)->(plain c).of c
 |.ret=>rfl
 |.exit i=>rfl
 |.seq a b=>⟨a,b,rfl,aUZ a,aUZ b⟩
 |.cond o a b=>⟨a,b,rfl,aUZ a,aUZ b⟩
 |.block i a=>⟨a,rfl,aUZ a⟩
 |.region i ops d=>⟨ops,rfl,dnZ _ _ _⟩
 |.skip=>rfl
 |.loop _|.rangeFunc _ _ _ _|.scope _|.label _|.goto _|.refuse _=>trivial
theorem aMZ:(ov:Ov)->(c:Code)->(build ov c).of c
 |.join sh rt outs x,c=>aMZ x c
 |.pre g x,c=>aMZ x c
 |.sel q x y,c=>⟨aMZ x c,aMZ y c⟩
 |.post g x,c=>aMZ x c
 |.round x y,c=>by cases c<;>first|exact⟨_,rfl,aMZ x _,aMZ y _⟩|exact aUZ _
 |.one x,c=>by cases c<;>first|exact⟨_,rfl,aMZ x _⟩|exact aUZ _
 |.two x y,c=>by cases c<;>first|exact⟨_,_,rfl,aMZ x _,aMZ y _⟩|exact aUZ _
 |.loop sh rt outs x,c=>by cases c<;>first|exact⟨_,rfl,aMZ x _⟩|exact aUZ _
 |.reg l,c=>by cases c<;>first|exact⟨_,rfl,dnZ _ _ _⟩|exact aUZ _
 |.leaf,c=>aUZ c
theorem Inv.drew{st:St}{a:Act}{w:World}(hi:Inv z0 N L st a w):Inv z0 N L st a {w with drawn:=w.drawn+1}:=by
 obtain⟨z,rfl,hn,hD,hH,hs,hLs,hdf,hnt,h0⟩:=hi
 let z1:Z:={z with w:={z.w with drawn:=z.w.drawn+1}}
 have hn1:Nx z z1:=⟨rfl,⟨rfl,Nat.le_succ _⟩,rfl,Nat.le_refl _,fun _ _ _=>rfl,fun _ h=>.inl h,fun _ h=>.inl h,fun _ _ h _=>h,fun _ _=>rfl,rfl⟩;have kp:=hn1.kp hH.sub;exact⟨z1,rfl,hn.trans hn1,hD,⟨fun id e he=>(hH.ent id e he).kp kp fun _ _ _ _=>⟨rfl,fun h=>h⟩,hH.inj,hH.fresh,hH.sub,hH.fam,hH.key,hH.dyn,hH.nos⟩,fun t=>(hs t).kp kp,fun p hp=>(hLs p hp).kp kp,hdf,hnt,h0⟩
end
end Go.Ab
namespace Go.Ab
section
variable {P : Program} {T : Tbl} {N fu : Nat}
theorem jEZ{z0:Z}{L:List (Nat×AV)}{st:St}{a:Act}{w:World}(hi:Inv z0 N L st a w)(hLn:∀p∈L,AV.ids p.2=[])(wr:List Nat)(hLw:∀p∈L,p.1∉wr):
 ∃L',(∀p∈L,p∈L')/\Inv z0 N L' st a w/\(∀p∈L',AV.ids p.2=[])/\(∀k,((st.tm.keep).junk wr).get k= .junk\/(k,((st.tm.keep).junk wr).get k)∈L')/\∀p∈L',p.1∉wr:=by
 obtain⟨n,hn⟩:=fAZ ((st.tm.keep).junk wr);have hget:∀k,k∉wr->((st.tm.keep).junk wr).get k= .junk\/(((st.tm.keep).junk wr).get k=st.tm.get k/\(st.tm.get k).noRef=true):=fun k hk=>by
  rw[(fBZ wr st.tm.keep k).2 hk];exact fCZ st.tm k
 let ex:List (Nat×AV):=(List.range n).filterMap fun k=>if memN k wr=true then none else some (k,((st.tm.keep).junk wr).get k)
 have hex:∀p∈ex,p.1∉wr/\p.2=((st.tm.keep).junk wr).get p.1:=fun p hp=>by
  obtain⟨k,_,h⟩:=List.mem_filterMap.1 hp;split at h
  ·cases h
  ·rename_i hm;simp only[Option.some.injEq] at h;subst h;exact⟨fun h=>hm (aeZ.2 h),rfl⟩
 refine⟨L++ex,fun p hp=>List.mem_append_left _ hp,?_,fun p hp=> ?_,fun k=> ?_,fun p hp=> ?_⟩
 ·obtain⟨z,rfl,hn',hD,hH,hs,hLs,hdf,hnt,h0⟩:=hi;refine⟨z,rfl,hn',hD,hH,hs,fun p hp=> ?_,hdf,hnt,h0⟩;rcases List.mem_append.1 hp with hp|hp
  ·exact hLs p hp
  ·obtain⟨h1,h2⟩:=hex p hp;rw[h2];rcases hget p.1 h1 with e|⟨e,_⟩<;>rw[e]
   ·exact .junk _
   ·exact hs p.1
 ·rcases List.mem_append.1 hp with hp|hp
  ·exact hLn p hp
  ·obtain⟨h1,h2⟩:=hex p hp;rw[h2];rcases hget p.1 h1 with e|⟨e,h3⟩<;>rw[e]
   ·rfl
   ·exact iRZ h3
 ·by_cases hk:k∈wr
  ·exact .inl ((fBZ wr st.tm.keep k).1 hk)
  ·by_cases hlt:k<n
   ·right;refine List.mem_append_right _ (List.mem_filterMap.2 ⟨k,List.mem_range.2 hlt,?_⟩);rw[if_neg fun h=>hk (aeZ.1 h)]
   ·exact .inl (hn k (by omega))
 ·rcases List.mem_append.1 hp with hp|hp
  ·exact hLw p hp
  ·exact(hex p hp).1
theorem jwZ{β γ:Type}{rt:Bool}{outs:List (Nat×LShp)}{b:β}{K:Out rt outs β->Option γ}{r:γ}(h:Out.retO rt outs b K=some r):
 ∃o,K o=some r/\∀(base:Tr) (nt n0:Nat) (X:Nat->St->Option β) (R:β->Option β),Out.on base nt n0 rt outs o X R=R b:=by
 cases rt with
 |false=>cases h
 |true=>exact⟨_,h,fun base nt n0 X R=>Out.on_ret⟩
def AC.nr:AC->Nat
 |.round _ r=>r.nr+1
 |_=>0
def Gl(P:Program)(ac:AC)(c:Code)(Q:Exit->Act->World->Prop)(a:Act)(w:World):Prop:=
 match ac with
 |.round x r=>∃cx,c= .loop cx/\Code.rounds P cx Q (AC.nr (.round x r)) a w
 |_=>c.wp P Q a w
theorem Gl.wp{ac:AC}{c:Code}{Q:Exit->Act->World->Prop}{a:Act}{w:World}(h:Gl P ac c Q a w):c.wp P Q a w:=by
 cases ac
 case round x y=>
  obtain⟨cx,rfl,h⟩:=h;exact wp_loop_rounds _ h
 all_goals exact h
theorem bDZ(hT:∀e∈T,Told P e)(hm:P.follows .mixedOrders=true):(ac:AC)->{z0:Z}->{β:Type}->{st:St}->{K:St->Option β}->{X:Nat->St->Option β}->{R:St->Option β}->{res:β}->{c:Code}->{L:List (Nat×AV)}->{a:Act}->{w:World}->
 {Q:Exit->Act->World->Prop}->evS P T fu ac st K X R=some res->ac.of c->Inv z0 N L st a w->(∀p∈L,AV.ids p.2=[])->(∀p∈L,p.1∉ac.wr)->
 (∀st' a' w',K st'=some res->Inv z0 N L st' a' w'->Q .normal a' w')->(∀i st' a' w',X i st'=some res->Inv z0 N L st' a' w'->Q (.exit i) a' w')->
 (∀st' a' w',R st'=some res->Inv z0 N L st' a' w'->Q .ret a' w')->Gl P ac c Q a w
 |.skip,z0,β,st,K,X,R,res,c,L,a,w,Q,h,hc,hi,hLn,hLw,hK,hX,hR=>by
  obtain rfl:=hc;exact wp_skip (hK _ _ _ h hi)
 |.ret,z0,β,st,K,X,R,res,c,L,a,w,Q,h,hc,hi,hLn,hLw,hK,hX,hR=>by
  obtain rfl:=hc;exact wp_ret (hR _ _ _ h hi)
 |.exit i,z0,β,st,K,X,R,res,c,L,a,w,Q,h,hc,hi,hLn,hLw,hK,hX,hR=>by
  obtain rfl:=hc;exact wp_exit (hX _ _ _ _ h hi)
 |.seq x y,z0,β,st,K,X,R,res,c,L,a,w,Q,h,hc,hi,hLn,hLw,hK,hX,hR=>by
  obtain⟨cx,cy,rfl,h1,h2⟩:=hc;simp only[AC.wr,List.mem_append,not_or] at hLw;refine wp_seq (Gl.wp (bDZ hT hm x h h1 hi hLn (fun p hp=>(hLw p hp).1) (fun st' a' w' h' hi'=> ?_) hX hR));exact Gl.wp (bDZ hT hm y h' h2 hi' hLn (fun p hp=>(hLw p hp).2) hK hX hR)
 |.cond o x y,z0,β,st,K,X,R,res,c,L,a,w,Q,h,hc,hi,hLn,hLw,hK,hX,hR=>by
  obtain⟨cx,cy,rfl,h1,h2⟩:=hc;simp only[AC.wr,List.mem_append,not_or] at hLw;obtain⟨t,h3,h4⟩:=adZ.1 h;have hb:a.eval o= .bool t:=by
   obtain⟨z,_,_,_,_,hs,_⟩:=hi;exact brZ h3 (e3Z hs o)
  cases t
  ·exact wp_cond_false hb (Gl.wp (bDZ hT hm y h4 h2 hi hLn (fun p hp=>(hLw p hp).2) hK hX hR))
  ·exact wp_cond_true hb (Gl.wp (bDZ hT hm x h4 h1 hi hLn (fun p hp=>(hLw p hp).1) hK hX hR))
 |.block i x,z0,β,st,K,X,R,res,c,L,a,w,Q,h,hc,hi,hLn,hLw,hK,hX,hR=>by
  obtain⟨cx,rfl,h1⟩:=hc;refine wp_block (Gl.wp (bDZ hT hm x h h1 hi hLn hLw hK (fun j st' a' w' h' hi'=> ?_) hR));show if j=i then Q .normal a' w' else Q (.exit j) a' w';by_cases hj:j=i
  ·rw[(aaZ j i).2 hj,bq_true] at h';rw[if_pos hj];exact hK _ _ _ h' hi'
  ·rw[agZ hj,bq_false] at h';rw[if_neg hj];exact hX _ _ _ _ h' hi'
 |.region i opsA d,z0,β,st,K,X,R,res,c,L,a,w,Q,h,hc,hi,hLn,hLw,hK,hX,hR=>by
  obtain⟨arr,rfl,h1⟩:=hc;have hLd:∀x∈opsA,∀p∈L,x.1.dst≠some p.1:=fun x hx p hp he=>hLw p hp (by
   simp only[AC.wr];exact List.mem_filterMap.2 ⟨x,hx,he⟩)
  have hsz:opsA.length=arr.size:=by
   have:=congrArg List.length h1;simpa using this
  have h:bq d (need (edgesOk 0 (opsA.map (·.1))&&nmsOk (nms (clos 0 (opsA.map (·.1)) []) (opsA.map (·.1)) 0 (opsA.map (·.1))))<|evOpsD P T (numb 0 opsA) (opsA.map (·.1)) st [] fun st' fs=>need (pairsOk (clos 0 (opsA.map (·.1)) []) fs)<|K st') (evOps P T opsA (opsA.map (·.1)) st K)=some res:=h
  rw[h1] at h;cases d
  ·rw[bq_false] at h;refine wp_region ?_;have:=kQZ hT hK opsA 0 (fun i x hx=>by
    have e:(opsA.map (·.1))[i]? =some x.1:=by rw[List.getElem?_map,hx];rfl
    rw[h1] at e;rw[Nat.zero_add,<-Array.getElem?_toList];exact e) hLd st a w h hi
   rw[List.range_eq_range',<-hsz];exact this
  ·rw[bq_true] at h;obtain⟨h2,h3⟩:=abZ.1 h;simp only[Bool.and_eq_true] at h2;exact wp_region_any hm (kwZ hT h1 hLd hK h2.1 h2.2 h3 hi.drew)
 |.join sh rt outs x,z0,β,st,K,X,R,res,c,L,a,w,Q,h,hc,hi,hLn,hLw,hK,hX,hR=>by
  obtain⟨o,h1,h2⟩:=Option.bind_eq_some_iff.1 h;obtain⟨L',q1,q2,q3,q4,q5⟩:=jEZ hi hLn x.wr hLw;obtain⟨_,_,_,_,_,_,_,_,hnt,h0⟩:=hi;refine Gl.wp (bDZ hT hm x h1 hc q2 q3 q5 (fun st' a' w' h' hi'=> ?_) (fun i st' a' w' h' hi'=> ?_) (fun st' a' w' h' hi'=> ?_))
  ·obtain⟨o',e1,e2⟩:=Out.on_inl h' hi' q3 q4 hnt.1 h0;simp only[Option.some.injEq] at e1;subst e1;obtain⟨st1,e3,e4⟩:=e2 (fun i st''=>match i with|0=>K st''|i+1=>X i st'') some
   exact hK st1 a' w' (e4.symm.trans h2) (e3.sub q1)
  ·obtain⟨o',e1,e2⟩:=Out.on_inl h' hi' q3 q4 hnt.1 h0;simp only[Option.some.injEq] at e1;subst e1;obtain⟨st1,e3,e4⟩:=e2 (fun i st''=>match i with|0=>K st''|i+1=>X i st'') some
   exact hX i st1 a' w' (e4.symm.trans h2) (e3.sub q1)
  ·obtain⟨b,e1,e2⟩:=adZ.1 h';obtain⟨o',e3,e4⟩:=jwZ e2;simp only[Option.some.injEq] at e3;subst e3;have:some b=some res:=(e4 _ _ _ _ _).symm.trans h2;exact hR st' a' w' (e1.trans this) (hi'.sub q1)
 |.pre g x,z0,β,st,K,X,R,res,c,L,a,w,Q,h,hc,hi,hLn,hLw,hK,hX,hR=>by
  obtain⟨st1,h1,h2⟩:=evZ h;have hg:Inv z0 N L st1 a w:=hBZ h1 hi (fun k he p hp hk=>hLw p hp (by
   rcases he with⟨e,id,he⟩|he
   ·subst he;simp[AC.wr,hk]
   ·subst he;simp[AC.wr,hk])) hLn
  refine Gl.wp (bDZ hT hm x h2 hc hg hLn (fun p hp hmem=>hLw p hp ?_) hK hX hR);cases g with
  |ownNil k e id=>exact List.mem_cons_of_mem _ hmem
  |pure k=>exact List.mem_cons_of_mem _ hmem
  |mem k f=>exact List.mem_cons_of_mem _ hmem
  |opn k m=>exact List.mem_cons_of_mem _ hmem
  |_=>exact hmem
 |.sel q x y,z0,β,st,K,X,R,res,c,L,a,w,Q,h,hc,hi,hLn,hLw,hK,hX,hR=>by
  simp only[AC.wr,List.mem_append,not_or] at hLw;have h:bq (Cn.holds st q) (evS P T fu x st K X R) (evS P T fu y st K X R)=some res:=h;cases hf:Cn.holds st q<;>rw[hf] at h
  ·exact Gl.wp (bDZ hT hm y h hc.2 hi hLn (fun p hp=>(hLw p hp).2) hK hX hR)
  ·exact Gl.wp (bDZ hT hm x h hc.1 hi hLn (fun p hp=>(hLw p hp).1) hK hX hR)
 |.bad c',z0,β,st,K,X,R,res,c,L,a,w,Q,h,hc,hi,hLn,hLw,hK,hX,hR=>by cases h
 |.post g x,z0,β,st,K,X,R,res,c,L,a,w,Q,h,hc,hi,hLn,hLw,hK,hX,hR=>by
  refine Gl.wp (bDZ hT hm x h hc hi hLn (fun p hp hmem=>hLw p hp ?_) (fun st' a' w' h' hi'=> ?_) hX hR)
  ·cases g with
   |ownNil k e id=>exact List.mem_cons_of_mem _ hmem
   |pure k=>exact List.mem_cons_of_mem _ hmem
   |mem k f=>exact List.mem_cons_of_mem _ hmem
   |opn k m=>exact List.mem_cons_of_mem _ hmem
   |_=>exact hmem
  ·obtain⟨st1,h1,h2⟩:=evZ h';refine hK st1 a' w' h2 (hBZ h1 hi' (fun k he p hp hk=>hLw p hp ?_) hLn);rcases he with⟨e,id,he⟩|he
   ·subst he;simp[AC.wr,hk]
   ·subst he;simp[AC.wr,hk]
 |.round x y,z0,β,st,K,X,R,res,c,L,a,w,Q,h,hc,hi,hLn,hLw,hK,hX,hR=>by
  obtain⟨cx,rfl,h1,h2⟩:=hc;simp only[AC.wr,List.mem_append,not_or] at hLw;obtain⟨h3,h4⟩:=abZ.1 h;refine⟨cx,rfl,Gl.wp (bDZ hT hm x h4 h1 hi hLn (fun p hp=>(hLw p hp).1) (fun st' a' w' h' hi'=> ?_) (fun i st' a' w' h' hi'=>hX i st' a' w' h' hi') (fun st' a' w' h' hi'=>hR st' a' w' h' hi'))⟩;have hy:=bDZ hT hm y h' h2 hi' hLn (fun p hp=>(hLw p hp).2) hK hX hR;cases y with
  |round x' y'=>
   obtain⟨cx',e,hn⟩:=hy;injection e with e;subst e;exact hn
  |bad c'=>cases h'
  |_=>cases h3
 |.loop sh rt outs x,z0,β,st,K,X,R,res,c,L,a,w,Q,h,hc,hi,hLn,hLw,hK,hX,hR=>by
  obtain⟨cx,rfl,h1⟩:=hc;obtain⟨L',q1,q2,q3,q4,q5⟩:=jEZ hi hLn x.wr hLw;obtain⟨t0,p1,p2⟩:=gdZ (r:=res) h q2 q3 q4 (nt:=st.nt) (n0:=st.n0) (by obtain⟨_,_,_,_,_,_,_,_,hnt,_⟩:=hi;exact hnt.1) (by obtain⟨_,_,_,_,_,_,_,_,_,h0⟩:=hi;exact h0);obtain⟨_,_,_,_,_,_,_,_,hnt,h0⟩:=hi;obtain⟨o,r1,r2⟩:=Option.bind_eq_some_iff.1 p1;generalize hbase:(st.tm.keep).junk x.wr=base at*;generalize hf:(fun t=>evS P T fu (β:=sh.D⊕Out rt outs β) x (sh.inj base st.nt st.n0 t) (fun st''=>st''.prj sh fun t'=>some (.inl t'))
   (fun i st''=>Out.mk st'' rt outs i fun o=>some (.inr o))
   (fun st''=>(R st'').ob fun b=>Out.retO rt outs b fun o=>some (.inr o)))=f at*
  let p:Act->World->Nat->Prop:=fun a' w' n=>∃t,iter n f t=some o/\Inv z0 N L' (sh.inj base st.nt st.n0 t) a' w'
  classical
  let μ:Act->World->Nat:=fun a' w'=>if h:∃n,p a' w' n then Classical.choose (lNZ h) else 0
  have hμ:∀a' w' n,p a' w' n->μ a' w'<=n/\p a' w' (μ a' w'):=fun a' w' n hn=>by
   have hex:∃n,p a' w' n:=⟨n,hn⟩;have e:μ a' w'=Classical.choose (lNZ hex):=dif_pos hex;have hs:=Classical.choose_spec (lNZ hex);rw[e];exact⟨hs.2 n hn,hs.1⟩
  refine wp_loop (fun a' w'=>∃n,p a' w' n) μ ⟨fu,t0,r1,p2⟩ fun a1 w1 ⟨n1,hn1⟩=> ?_;obtain⟨_,t,ht,hit⟩:=hμ a1 w1 n1 hn1;obtain⟨m,hm'⟩:∃m,μ a1 w1=m+1:=by
   cases hz:μ a1 w1 with
   |zero=>rw[hz] at ht;cases ht
   |succ m=>exact⟨m,rfl⟩
  rw[hm'] at ht⊢;obtain⟨r,ht1,ht2⟩:=adZ.1 (show(f t).ob _=some o from ht);have hft:evS P T fu (β:=sh.D⊕Out rt outs β) x (sh.inj base st.nt st.n0 t) (fun st''=>st''.prj sh fun t'=>some (.inl t'))
   (fun i st''=>Out.mk st'' rt outs i fun o=>some (.inr o))
   (fun st''=>(R st'').ob fun b=>Out.retO rt outs b fun o=>some (.inr o))=some r:=by rw[<-ht1,<-hf]
  refine Gl.wp (bDZ hT hm x hft h1 hit q3 q5 (fun st' a' w' h' hi'=> ?_) (fun i st' a' w' h' hi'=> ?_) (fun st' a' w' h' hi'=> ?_))
  ·obtain⟨t',e1,e2⟩:=gdZ h' hi' q3 q4 (nt:=st.nt) (n0:=st.n0) hnt.1 h0;simp only[Option.some.injEq] at e1;subst e1;have hp:p a' w' m:=⟨t',ht2,e2⟩;exact⟨⟨m,hp⟩,Nat.lt_succ_of_le (hμ a' w' m hp).1⟩
  ·obtain⟨o',e1,e2⟩:=Out.on_inl h' hi' q3 q4 (nt:=st.nt) (n0:=st.n0) hnt.1 h0;simp only[Option.some.injEq] at e1;subst e1;simp only[Option.some.injEq] at ht2;subst ht2;obtain⟨st1,e3,e4⟩:=e2 X some;exact hX i st1 a' w' (e4.symm.trans r2) (e3.sub q1)
  ·obtain⟨b,e1,e2⟩:=adZ.1 h';obtain⟨o',e3,e4⟩:=jwZ e2;simp only[Option.some.injEq] at e3;subst e3;simp only[Option.some.injEq] at ht2;subst ht2;have:some b=some res:=(e4 _ _ _ _ _).symm.trans r2;exact hR st' a' w' (e1.trans this) (hi'.sub q1)
theorem muZ{z0:Z}(hT:∀e∈T,Told P e)(hm:P.follows .mixedOrders=true)(ac:AC){β:Type}{st:St}{K:St->Option β}{X:Nat->St->Option β}{R:St->Option β}{res:β}{c:Code}{L:List (Nat×AV)}{a:Act}{w:World}
 {Q:Exit->Act->World->Prop}(h:evS P T fu ac st K X R=some res)(hc:ac.of c)(hi:Inv z0 N L st a w)(hLn:∀p∈L,AV.ids p.2=[])(hLw:∀p∈L,p.1∉ac.wr)
 (hK:∀st' a' w',K st'=some res->Inv z0 N L st' a' w'->Q .normal a' w')(hX:∀i st' a' w',X i st'=some res->Inv z0 N L st' a' w'->Q (.exit i) a' w')
 (hR:∀st' a' w',R st'=some res->Inv z0 N L st' a' w'->Q .ret a' w'):c.wp P Q a w:=(Gl.wp (bDZ hT hm ac h hc hi hLn hLw hK hX hR))
end
end Go.Ab
namespace Go.Ab
section
variable {P : Program} {T : Tbl} {β : Type} {z : Z} {H : Hp}
theorem fqZ:∀(d k:Nat),(Tr.full d).get k= .junk
 |0,k=>rfl
 |d+1,k=>by
  simp only[Tr.full,Tr.get];cases Nat.beq k 0
  ·cases Nat.beq (k%2) 1
   ·exact fqZ d _
   ·exact fqZ d _
  ·rfl
theorem g1Z{f:Nat->Value}:∀{vs:List AV} {k0:Nat} {t:Tr},(∀k,ARep z (t.get k) (f k))->(∀(j:Nat) a,vs[j]? =some a->ARep z a (f (k0+j)))->∀k,ARep z ((initTm t k0 vs).get k) (f k)
 |[],k0,t,h,_,k=>h k
 |a::vs,k0,t,h,hv,k=>by
  simp only[initTm];refine g1Z (fun j=> ?_) (fun j a' h'=>by have:=hv (j+1) a' (by simpa using h');rwa [show k0+(j+1)=k0+1+j by omega] at this) k;by_cases hj:j=k0
  ·subst hj;rcases(Tr.get_put t j a j).2 with e|e<;>rw[e]
   ·exact hv 0 a rfl
   ·exact .junk _
  ·rw[(Tr.get_put t k0 a j).1 hj];exact h j
theorem g5Z{t:TypeId}{pv v:Value}{w w':World}(h:(Instr.loadAt t pv).run P w= .ok v w'):((do loadVar t (<-asAddr pv)):Sem Value).run P w= .ok v w':=by
 unfold Instr.loadAt at h;cases pv
 case pointer x=>cases x<;>first|exact h|(simp[Instr.sureAddr,Sem.run_bind] at h;done)
 all_goals(simp[Instr.sureAddr,Sem.run_bind] at h;done)
def resF(tmps:Array Value)(r:ResultVar):Sem Value:=
 match r with
 |.tmp t=>pure (tmps.getD t undef)
 |.cell a t=>do loadVar t (<-asAddr (tmps.getD a undef))
theorem ilZ(fn:Func)(tmps:Array Value):results fn tmps=(do
 let vs<-fn.results.mapM (resF tmps)
 pure (if h:vs.size=1 then vs[0] else .tuple vs)):=rfl
theorem dqZ{st:St}{a:Act}(hH:HRep z st.hp)(hs:∀t,ARep z (st.tm.get t) (a.eval (.tmp t))):∀{rs:List ResultVar} {K:List AV->Option β} {res:β},loadRes P rs st K=some res->
 ∃l vs,K l=some res/\AReps z l vs/\(rs.mapM (resF a.tmps)).run P z.w= .ok vs z.w
 |[],K,res,h=>⟨[],[],h,.nil,rfl⟩
 |.tmp t::rs,K,res,h=>by
  obtain⟨l,vs,h1,h2,h3⟩:=dqZ hH hs (rs:=rs) h;refine⟨_,a.eval (.tmp t)::vs,h1,.cons (hs t) h2,?_⟩;rw[List.mapM_cons];simp only[resF,Sem.run_bind,Sem.run_pure,Result.andThen_ok,h3]
  rfl
 |.cell x t::rs,K,res,h=>by
  obtain⟨y,v,h1,h2,h3⟩:=fMZ h hH (hs x);obtain⟨l,vs,h4,h5,h6⟩:=dqZ hH hs (rs:=rs) h3;refine⟨_,v::vs,h4,.cons h2 h5,?_⟩;rw[List.mapM_cons];have h1':(resF a.tmps (.cell x t)).run P z.w= .ok v z.w:=g5Z h1;rw[Sem.run_bind,h1',Result.andThen_ok,Sem.run_bind,h6]
  rfl
theorem ifZ{st:St}{a:Act}{fn:Func}{K:List AV->Option β}{res:β}(hH:HRep z st.hp)(hs:∀t,ARep z (st.tm.get t) (a.eval (.tmp t)))(h:loadRes P fn.results.toList st K=some res):
 ∃l v vs,K l=some res/\AReps z l vs/\(results fn a.tmps).run P z.w= .ok v z.w/\∀{z':Z} {l':List AV},AReps z' l' vs->ARep z' (tupA l') v:=by
 obtain⟨l,vs,h1,h2,h3⟩:=dqZ hH hs h;refine⟨l,if h:vs.toArray.size=1 then vs.toArray[0] else .tuple vs.toArray,vs,h1,h2,?_,fun{z' l'} h'=> ?_⟩
 ·rw[ilZ,Array.mapM_eq_mapM_toList,map_eq_pure_bind,Sem.run_bind,Sem.run_bind,h3]
  rfl
 ·have hl:=h'.1
  match vs,l',h',hl with
  |[],[],h',_=>exact .tup [] #[] rfl fun i x v h=>by simp at h
  |[v],[b],h',_=>exact h'.head
  |u::v::vs,b::c::l',h',hl=>
   refine .tup _ _ (by simpa using hl.symm) fun i x y q1 q2=>h'.2 i x y q1 (by simpa using q2)
theorem OutS.one_ok{s:Shp}{vs:List AV}{ps:List (Nat×Nat)}{vals:List Value}{K:s.D->Option β}{res:β}(ρ0:Rho)(hρ0:∀k,famBase<=k->k<dynBase->ρ0 k= .no)(hρd:∀k,dynBase<=k->ρ0 k= .no)(hH:HRep z H)(hv:AReps z vs vals)(hn:allFamIn (famNs (hkKeys s.hs)) s.tys=true)(h:s.rco vs H ps K=some res):
 ∃t,K t=some res/\∃z',z'.w=z.w/\z'.M=z.M/\HRep z' (s.emb t).2/\AReps z' (s.emb t).1 vals/\(∀k,memN k (hkKeys s.hs)=true->∃id,(id,k)∈ps/\z'.ρ k=z.ρ id)/\(∀k,k<dynBase->memN k (hkKeys s.hs)=false->z'.ρ k=ρ0 k)/\
  (∀g,z'.C g->z.C g)/\(∀k,z'.D k->ρ0 k≠.no)/\∀k,dynBase<=k->rt k∈hkKeys s.hs->z'.ρ k=z.ρ k:=by
 obtain⟨t,z0,k1,k2,k3,k4,k5,k6,k7,k8,k9,k10,k11,k12,k13,k14⟩:=Shp.rco_ok ρ0 hρ0 h hH hv;obtain⟨z',x1,x2,x3,x4,x5,x6,x7,x8⟩:=gWZ hn k4 k5 k13 k14;refine⟨t,k1,z',x1.trans k2,x2.trans k3,x3,x4,fun k hk=> ?_,fun k hd hk=> ?_,fun g h=>k8 g (by rw[<-x6];exact h),fun k hk=> ?_,fun k hd hk=> ?_⟩
 ·obtain⟨id,a1,a2⟩:=k6 k hk;exact⟨id,a1,(x5 k (.inl (k13 k hk))).trans a2⟩
 ·rw[x5 k (.inl hd),k7 k hk,if_neg (Nat.not_le.2 hd)]
 ·obtain⟨y1,y2⟩:=x7 k hk;rw[k10] at y1;rcases y1.2 with h|h
  ·rcases y2 with y2|y2
   ·omega
   ·rw[aeZ.2 y2] at y1;cases y1.1
  ·exact h
 ·rw[x5 k (.inr hk),k7 k,if_pos hd];cases hc:memN k (hkKeys s.hs)
  ·rfl
  ·have:=k13 k hc;omega
theorem OutS.rco_ok{vs:List AV}{ps:List (Nat×Nat)}{vals:List Value}(ρ0:Rho)(hρ0:∀k,famBase<=k->k<dynBase->ρ0 k= .no)(hρd:∀k,dynBase<=k->ρ0 k= .no)(hH:HRep z H)(hv:AReps z vs vals):∀{l:List Shp} {K:OutS l->Option β} {res:β},(∀o∈l,allFamIn (famNs (hkKeys o.hs)) o.tys=true)->OutS.rco vs H ps l K=some res->
 ∃(x:OutS l),K x=some res/\OutS.on l x fun o t=>o∈l/\∃z',z'.w=z.w/\z'.M=z.M/\HRep z' (o.emb t).2/\AReps z' (o.emb t).1 vals/\(∀k,memN k (hkKeys o.hs)=true->∃id,(id,k)∈ps/\z'.ρ k=z.ρ id)/\(∀k,k<dynBase->memN k (hkKeys o.hs)=false->z'.ρ k=ρ0 k)/\
  (∀g,z'.C g->z.C g)/\(∀k,z'.D k->ρ0 k≠.no)/\∀k,dynBase<=k->rt k∈hkKeys o.hs->z'.ρ k=z.ρ k
 |[],K,res,hn,h=>by cases h
 |[s],K,res,hn,h=>by
  obtain⟨t,k1,k2⟩:=OutS.one_ok ρ0 hρ0 hρd hH hv (hn s List.mem_cons_self) h;exact⟨t,k1,by simp,k2⟩
 |s::o::r,K,res,hn,h=>by
  have h':bq (s.ks.fits (AV.renL (noOf ps) vs)&&hkFits s.hs (renH H (noOf ps) ps)) (s.rco vs H ps fun x=>K (.inl x)) (OutS.rco vs H ps (o::r) fun x=>K (.inr x))=some res:=h;cases hb:(s.ks.fits (AV.renL (noOf ps) vs)&&hkFits s.hs (renH H (noOf ps) ps))<;>rw[hb] at h'<;>simp only[bq_true,bq_false] at h'
  ·obtain⟨x,h1,h2⟩:=OutS.rco_ok ρ0 hρ0 hρd hH hv (fun o ho=>hn o (List.mem_cons_of_mem _ ho)) h';refine⟨.inr x,h1,?_⟩;have up:∀{l:List Shp} {x:OutS l} {Q Q':(s:Shp)->s.D->Prop},(∀o t,Q o t->Q' o t)->OutS.on l x Q->OutS.on l x Q':=fun{l}=>by
    induction l with
    |nil=>intro x;exact Empty.elim x
    |cons a l ih=>
     cases l with
     |nil=>intro x Q Q' hq h;exact hq _ _ h
     |cons b l=>
      intro x Q Q' hq h;cases x with
      |inl y=>exact hq _ _ h
      |inr y=>exact ih (x:=y) hq h
   exact up (fun o t ⟨a,b⟩=>⟨List.mem_cons_of_mem _ a,b⟩) h2
  ·obtain⟨t,k1,k2⟩:=OutS.one_ok ρ0 hρ0 hρd hH hv (hn s List.mem_cons_self) h';exact⟨.inl t,k1,List.mem_cons_self,k2⟩
theorem djZ:∀{l:List Nat} {n k:Nat},k∈shKeys n l->k<famBase->n<=k/\k<n+(statK l).length
 |[],n,k,h,_=>by cases h
 |i::l,n,k,h,hk=>by
  simp only[shKeys] at h;by_cases hi:famBase<=i
  ·rw[Nat.ble_eq_true_of_le hi,cond_true] at h;rcases List.mem_cons.1 h with rfl|h
   ·omega
   ·have:=djZ h hk;simp only[statK,Nat.ble_eq_true_of_le hi,cond_true];exact this
  ·rw[dvZ hi,cond_false] at h;simp only[statK,dvZ hi,cond_false,List.length_cons];rcases List.mem_cons.1 h with rfl|h
   ·omega
   ·have:=djZ h hk;omega
theorem OutS.on_up:∀{l:List Shp} {x:OutS l} {Q Q':(s:Shp)->s.D->Prop},(∀o t,Q o t->Q' o t)->OutS.on l x Q->OutS.on l x Q'
 |[],x,_,_,_,_=>Empty.elim x
 |[s],x,Q,Q',hq,h=>hq _ _ h
 |s::t::r,.inl y,Q,Q',hq,h=>hq _ _ h
 |s::t::r,.inr y,Q,Q',hq,h=>OutS.on_up (l:=t::r) (x:=y) hq h
theorem OutS.on_ex:∀{l:List Shp} {x:OutS l} {Q:(s:Shp)->s.D->Z->Prop},(OutS.on l x fun o t=>∃z',Q o t z')->∃z',OutS.on l x fun o t=>Q o t z'
 |[],x,_,_=>Empty.elim x
 |[s],x,Q,h=>h
 |s::t::r,.inl y,Q,h=>h
 |s::t::r,.inr y,Q,h=>OutS.on_ex (l:=t::r) (x:=y) h
theorem anZ{fu:Nat}{f:FuncId}{fn:Func}{fa:FnA}{spec:fa.i.D->Option (OutS fa.os)}(hT:∀e∈T,Told P e)(hm:P.follows .mixedOrders=true)(hf:P.funcs[f]? =some fn)(hname:(fn.name== "runtime.NumGoroutine")=false)(hbody:fn.body.isSome=true)
 (hs:∀t,evF P T fu fn fa t=spec t):Told P ⟨f,fa.i,fa.os,spec⟩:=by
 obtain⟨c,hb⟩:=Option.isSome_iff_exists.1 hbody;refine Told.of ⟨fn,c,hf,hb,hname⟩ fun t r hr z vals hH hv hD=> ?_;have h:evF P T fu fn fa t=some r:=(hs t).trans hr;unfold evF at h;rw[Shp.embC_eq] at h;obtain⟨h1,h2⟩:=abZ.1 h;simp only[Bool.and_eq_true,gOZ,Bool.not_eq_true'] at h1;obtain⟨⟨hkeys,hmd⟩,hlen,hno'⟩:=h1;have hb0:=cKZ;have hnoL:∀o∈fa.os,(allFamIn (famNs (hkKeys o.hs)) o.tys=true/\allIn (famK (hkKeys fa.i.hs)) (famK (hkKeys o.hs))=true):=fun o ho=>by
  have:=List.all_eq_true.1 hno' o ho;rwa [Bool.and_eq_true] at this
 have hno:∀o∈fa.os,allFamIn (famNs (hkKeys o.hs)) o.tys=true:=fun o ho=>(hnoL o ho).1;obtain⟨c',hc',h3⟩:=adZ.1 h2;rw[hb] at hc';simp only[Option.some.injEq] at hc';subst hc';refine calls_of_wp hf hb ?_
 let a:Act:={tmps:=vals.toArray++Array.replicate (fn.ntmps-vals.toArray.size) undef,defers:=[]}
 have hkey:∀id,hkey (fa.i.emb t).2 id=memN id (hkKeys fa.i.hs):=fun id=>(bEZ fa.i.hs (embL fa.i.ks (hkLv fa.i.hs []) (untidy fa.i.tys t)).2 id).1;have hlow:∀id,id<dynBase->z.ρ id≠.no->id∈hkKeys fa.i.hs/\id<famBase:=fun id hdy hid=>by
  have hf:id<famBase:=Nat.not_le.1 fun h=>hid (hH.nos id h hdy);refine⟨?_,hf⟩;cases hk:memN id (hkKeys fa.i.hs)
  ·rw[<-hkey id] at hk;exact absurd ((hH.fresh id (by rw[axZ hf];exact hk)).resolve_right (hD id)) hid
  ·exact aeZ.1 hk
 have hlown:∀id,id<dynBase->z.ρ id≠.no->id<(statK (hkKeys fa.i.hs)).length:=fun id hdy hid=>by
  obtain⟨h1,h2⟩:=hlow id hdy hid;rw[hkeys] at h1;have:=(djZ h1 h2).2;omega
 have hlowd:∀id,dynBase<=id->z.ρ id≠.no->rt id∈hkKeys fa.i.hs:=fun id hdy hid=>by
  cases hk:memN (rt id) (hkKeys fa.i.hs)
  ·rw[<-hkey] at hk;refine absurd ((hH.fresh id ?_).resolve_right (hD id)) hid;rw[auZ hdy,aoZ hk];exact hk
  ·exact aeZ.1 hk
 have hi:Inv z a.tmps.size [] ⟨initTm (Tr.full (depth fn.ntmps)) 0 (fa.i.emb t).1,fn.ntmps,(statK (hkKeys fa.i.hs)).length,(fa.i.emb t).2⟩ a z.w:=by
  refine⟨z,rfl,Nx.refl z,hD,hH,?_,fun p hp=>(by cases hp),rfl,⟨by simp[a];omega,rfl⟩,fun id hdy hid=>hlown id hdy hid⟩
  ·refine g1Z (f:=fun k=>a.eval (.tmp k)) (fun k=>by rw[fqZ];exact .junk _) fun j x hx=> ?_;obtain⟨v,hv1,hv2⟩:=hv.get hx;rw[Nat.zero_add];have hlt:j<vals.length:=(List.getElem?_eq_some_iff.1 hv1).1;have:a.eval (.tmp j)=v:=by
    simp only[Act.eval,a];have e:(vals.toArray++Array.replicate (fn.ntmps-vals.toArray.size) undef)[j]? =some v:=by
     rw[Array.getElem?_append_left (by simpa using hlt)];simpa using hv1
    simp only[Array.getD_eq_getD_getElem?,e,Option.getD_some]
   rw[this];exact hv2
 have fin:∀(Q:Exit->Act->World->Prop),(∀a' w',(a'.defers=[]/\∃v,(results fn a'.tmps).run P w'= .ok v w'/\∃v' z',Ending.returned v= .returned v'/\z'.w=w'/\Nx z {z' with D:=z.D}/\(∀k,z'.D k->k∈hkKeys fa.i.hs)/\OutS.on fa.os r fun o x=>HRep z' (o.emb x).2/\ARep z' (tupA (o.emb x).1) v')->Q .normal a' w')->
  ∀st' a' w',fin P fn fa st'=some r->Inv z a.tmps.size [] st' a' w'->Q .normal a' w':=fun Q hQ st' a' w' hfin hi'=>by
  refine hQ a' w' ?_;obtain⟨z1,rfl,hn,hD1,hH1,hs1,_,hdf,_,h0⟩:=hi';unfold Ab.fin at hfin;obtain⟨l,v,vs,e1,e2,e3,e4⟩:=ifZ hH1 hs1 hfin;rw[coZ] at e1;obtain⟨⟨l',H'⟩,e5,e6⟩:=adZ.1 e1;obtain⟨z2,Mf,g1,g2,g3,g4,g5,g6⟩:=foZ hH1 (fun _ _=>.inr (hD1 _)) e5 e2;have hM:=g6 hmd;subst hM;have hn2:=hn.trans g3;obtain⟨x,k1,k2⟩:=OutS.rco_ok (fun k=>if memN k (hkKeys fa.i.hs)=true/\k<dynBase then z2.ρ k else .no) (fun k h1 h2=>by rw[g2.nos k h1 h2,ite_self]) (fun k h=>if_neg fun h'=>by omega) g2 g5 hno e6;simp only[Option.some.injEq] at k1;subst k1;obtain⟨z3,k3⟩:=OutS.on_ex (OutS.on_up (Q':=fun o t=>∃z',o∈fa.os/\_) (fun o t ⟨h,z',k⟩=>⟨z',h,k⟩) k2);have common:z3.w=z2.w/\z3.M=z2.M/\(∀g,z3.C g->z2.C g)/\(∀k,z3.D k->k∈hkKeys fa.i.hs)/\∀id,z.ρ id≠.no->z3.ρ id=z.ρ id:=by
   have pick:∀{l:List Shp} {x:OutS l} {Q:(s:Shp)->s.D->Prop} {G:Prop},(OutS.on l x Q)->(∀o t,Q o t->G)->G:=fun{l}=>by
    induction l with
    |nil=>intro x;exact Empty.elim x
    |cons a l ih=>
     cases l with
     |nil=>intro x Q G h hq;exact hq _ _ h
     |cons b l=>
      intro x Q G h hq;cases x with
      |inl y=>exact hq _ _ h
      |inr y=>exact ih (x:=y) h hq
   refine pick k3 fun o t k=> ?_;obtain⟨ho,q1,q2,q3,q4,q5,q6,q7,q8,q9⟩:=k;refine⟨q1,q2,q7,fun k hk=> ?_,fun id hid=> ?_⟩
   ·have:=q8 k hk;cases hm:memN k (hkKeys fa.i.hs)
    ·simp[hm] at this
    ·exact aeZ.1 hm
   ·by_cases hdy:dynBase<=id
    ·have hm:=hlowd id hdy hid;have hmo:=(ccZ.1 ((b1Z.1 (hnoL o ho).2) _ (ccZ.2 ⟨hm,(bHZ hdy).1⟩))).1;rw[q9 id hdy hmo];exact hn2.ext id hid
    have hstat:id<dynBase:=by omega
    obtain⟨hmem,hfl⟩:=hlow id hstat hid;have hidlt:=hlown id hstat hid;cases hk:memN id (hkKeys o.hs)
    ·rw[q6 id hstat hk,if_pos ⟨aeZ.2 hmem,hstat⟩];exact hn2.ext id hid
    ·obtain⟨id',p1,p2⟩:=q5 id hk;have:id'=id:=by
      rcases List.mem_append.1 p1 with p1|p1
      ·obtain⟨m,b1,b2⟩:=fyZ p1;rcases Nat.lt_or_ge m ((reach H' reachFuel (rangeN 0 (statK (hkKeys fa.i.hs)).length++AV.idsL l') []).filter fun i=>Nat.blt i (statK (hkKeys fa.i.hs)).length).length with hlt|hge
       ·rw[List.getElem?_append_left hlt] at b1 b2;rw[b1] at b2;exact Option.some.inj b2
       ·rw[List.getElem?_append_right hge] at b2;have:=(iqZ b2).1;omega
      ·exact(dKZ.1 p1).1
     rw[p2,this];exact hn2.ext id hid
  obtain⟨c1,c2,c3,c4,c5⟩:=common;refine⟨hdf,v,e3,v,z3,rfl,c1.trans g1,⟨by show z3.w.os=_;rw[c1];exact hn2.os,⟨by show z3.w.tape=_;rw[c1];exact hn2.tape.1,by show _<=z3.w.drawn;rw[c1];exact hn2.tape.2⟩,by show z3.w.output=_;rw[c1];exact hn2.output,by show _<=z3.w.heap.size;rw[c1];exact hn2.size,
   fun b hb hc=>by show z3.w.heap[b]? =_;rw[c1];exact hn2.block b hb hc,fun g hg=>hn2.subM g (by rw[<-c2];exact hg),fun g hg=>hn2.subC g (c3 g hg),fun g hg hm hc=>by show z3.M g;rw[c2];exact hn2.keepM g hg hm hc,c5,rfl⟩,c4,OutS.on_up (fun o t k=> ?_) k3⟩
  obtain⟨_,q1,q2,q3,q4,q5,q6,q7,q8,q9⟩:=k;exact⟨q3,e4 q4⟩
 refine muZ hT hm (build fa.ov c) h3 (aMZ _ _) hi (fun p hp=>by cases hp) (fun p hp=>by cases hp) ?_ (fun i st' a' w' h' _=>by cases h') ?_
 ·exact fin (bodyPost P fn _) fun a' w' h=>h
 ·exact fin (fun e a' w'=>bodyPost P fn _ .ret a' w') fun a' w' h=>h
end
end Go.Ab
namespace Go.Ab
theorem ajZ{P:Program}:∀e∈([]:Tbl),Told P e:=fun e h=>by cases h
theorem acZ{P:Program}{a:FnT}{r:Tbl}(h:Told P a)(hr:∀e∈r,Told P e):∀e∈a::r,Told P e:=fun e he=>by
 rcases List.mem_cons.1 he with rfl|he
 ·exact h
 ·exact hr e he
end Go.Ab
namespace Go.Ab
def OkV:(t:Ty)->t.den->Prop
 |.int k,n=>k.min<=n/\n<=k.max
 |.byte,_=>True
 |.bool,_=>True
 |.str,l=>List.length (α:=UInt8) l<=maxLen
 |.opq,_=>False
 |.nat,_=>False
 |.ref _ _,_=>False
 |.ptr _,_=>False
 |.sl t,l=>List.length (α:=t.den) l<=maxLen/\∀x∈(show List t.den from l),OkV t x
 |.one t,x=>OkV t x
 |.pair a b,x=>OkV a x.1/\OkV b x.2
 |.arr n t,l=>List.length (α:=t.den) l=n/\∀x∈(show List t.den from l),OkV t x
section
variable (P : Program)
def readFs(f:TypeId->Ty->Bool):List Field->Nat->Ty->Bool
 |[x],o,u=>Nat.beq x.offset o&&Nat.beq (P.cellsOf x.type) u.cells&&f x.type u
 |x::r,o,.pair a b=>Nat.beq x.offset o&&Nat.beq (P.cellsOf x.type) a.cells&&f x.type a&&readFs f r (o+a.cells) b
 |_,_,_=>false
def readT:Nat->TypeId->Ty->Bool
 |0,_,_=>false
 |n+1,t,u=>match P.underlying t,u with
  |some (.int k),.int k'=>decide (k=k')
  |some (.int k),.byte=>decide (k= .u8)
  |some .bool,.bool=>true
  |some .string,.str=>true
  |some (.slice e),.sl v=>Nat.beq (P.cellsOf e) v.cells&&Nat.blt 0 v.cells&&readT n e v
  |some (.struct fs),.one v=>Nat.beq (P.cellsOf t) v.cells&&readFs P (readT n) fs.toList 0 v
  |some (.struct fs),.pair a b=>Nat.beq (P.cellsOf t) (Ty.pair a b).cells&&readFs P (readT n) fs.toList 0 (.pair a b)
  |some (.array m e),.arr m' v=>Nat.beq m m'&&Nat.beq (P.cellsOf t) (m*v.cells)&&Nat.beq (P.cellsOf e) v.cells&&readT n e v
  |_,_=>false
end
theorem c1Z{α:Type}(k:Nat):∀(n:Nat) (cs:List α),cs.length=n*k->((List.range n).map fun i=>(cs.drop (i*k)).take k).flatten=cs
 |0,cs,h=>by
  have:cs=[]:=List.eq_nil_of_length_eq_zero (by simpa using h);simp[this]
 |n+1,cs,h=>by
  rw[List.range_succ_eq_map,List.map_cons,List.flatten_cons,List.map_map];have e:((List.range n).map ((fun i=>(cs.drop (i*k)).take k)∘Nat.succ))=(List.range n).map fun i=>((cs.drop k).drop (i*k)).take k:=by
   refine List.map_congr_left fun i _=> ?_;simp only[Function.comp,List.drop_drop];congr 2;rw[Nat.succ_mul,Nat.add_comm]
  rw[e,c1Z k n (cs.drop k) (by rw[List.length_drop,h,Nat.succ_mul];omega)];simp
theorem c9Z{α:Type}{Q:Nat->α->Prop}:∀(n:Nat),(∀i,i<n->∃x,Q i x)->∃l:List α,l.length=n/\∀(i:Nat) x,l[i]? =some x->Q i x
 |0,_=>⟨[],rfl,fun i x h=>by simp at h⟩
 |n+1,h=>by
  obtain⟨l,h1,h2⟩:=c9Z n fun i hi=>h i (by omega);obtain⟨x,hx⟩:=h n (by omega);refine⟨l++[x],by simp[h1],fun i y hy=> ?_⟩;rw[List.getElem?_append] at hy;split at hy
  ·exact h2 i y hy
  ·rename_i hlt;have:i=n:=by
    have:=(List.getElem?_eq_some_iff.1 hy).1;simp at this;omega
   subst this;simp[h1] at hy;rw[<-hy];exact hx
section
variable {P : Program} {H : Type} {enc : TypeId × Value → H} {w : World} {sp : Nat → Bool} {held : Bool}
theorem eqZ{f:TypeId->Ty->Bool}{n:Nat}{cs:List Value}(hf:∀(x:Field) u,f x.type u=true->P.cellsOf x.type=u.cells->(∃y,DataW.trod enc P w 0 sp held n x.type ((cs.drop x.offset).take (P.cellsOf x.type))=some y)->
 ∃v:u.den,Cl w (fun _=>False) (fun _=>.no) u v ((cs.drop x.offset).take (P.cellsOf x.type))/\OkV u v):
 ∀(fs:List Field) (o:Nat) (u:Ty),readFs P f fs o u=true->(∀x∈fs,∃y,DataW.trod enc P w 0 sp held n x.type ((cs.drop x.offset).take (P.cellsOf x.type))=some y)->∃v:u.den,Cl w (fun _=>False) (fun _=>.no) u v ((cs.drop o).take u.cells)/\OkV u v
 |[],o,u,h,_=>by cases u<;>cases h
 |[x],o,u,h,hs=>by
  have h:(Nat.beq x.offset o&&Nat.beq (P.cellsOf x.type) u.cells&&f x.type u)=true:=by cases u<;>exact h
  simp only[Bool.and_eq_true,aaZ] at h;obtain⟨⟨rfl,h2⟩,h3⟩:=h;have:=hf x u h3 h2 (hs x List.mem_cons_self);rwa [h2] at this
 |x::y::r,o,u,h,hs=>by
  cases u with
  |pair a b=>
   have h:(Nat.beq x.offset o&&Nat.beq (P.cellsOf x.type) a.cells&&f x.type a&&readFs P f (y::r) (o+a.cells) b)=true:=h;simp only[Bool.and_eq_true,aaZ] at h;obtain⟨⟨⟨rfl,h2⟩,h3⟩,h4⟩:=h;obtain⟨v1,c1,k1⟩:=hf x a h3 h2 (hs x List.mem_cons_self);obtain⟨v2,c2,k2⟩:=eqZ hf (y::r) (x.offset+a.cells) b h4 fun z hz=>hs z (List.mem_cons_of_mem _ hz);refine⟨(v1,v2),⟨_,_,?_,c1,c2⟩,k1,k2⟩;rw[h2,show(Ty.pair a b).cells=a.cells+b.cells from rfl,List.take_add,List.drop_drop]
  |_=>cases h
theorem glZ{a:Addr}{n:Nat}{cs:List Value}(h:w.cells? 0 a n=some cs):cs.length=n/\∀(j:Nat) v,cs[j]? =some v->w.cell? (a.add j)=some v:=by
 unfold World.cells? at h;rw[if_pos (Nat.zero_le _)] at h;have hl:=mapM_some_length h;simp only[List.length_range] at hl;refine⟨hl,fun j v hj=> ?_⟩;have hlt:j<n:=by have:=(List.getElem?_eq_some_iff.1 hj).1;omega
 have:=mapM_some_get h j j (by simp[hlt]);rw[this,hj]
theorem iVZ{a:Addr}{v:Value}(h:w.cell? a=some v):a.spot=none/\a.block<w.heap.size:=by
 unfold World.cell? at h;split at h
 ·rename_i c _ _ hb;split at h
  ·cases h
  ·rename_i hs;refine⟨by cases hsp:a.spot<;>simp[hsp] at hs⊢,(Array.getElem?_eq_some_iff.1 hb).1⟩
 ·cases h
theorem cWZ{fuel:Nat}{t:TypeId}{cs:List Value}{y:DataW H×List MemPlace}{d:TypeDesc}(hu:P.underlying t=some d)(hd:DataW.trod enc P w 0 sp held (fuel+1) t cs=some y)(hr:d.isRow=false):∃v,cs=[v]:=by
 unfold DataW.trod at hd;rw[hu] at hd;rcases cs with _|⟨v,_|⟨v2,cs⟩⟩
 ·cases d<;>first|(cases hd;done)|cases hr
 ·exact⟨v,rfl⟩
 ·cases d<;>cases v<;>first|(cases hd;done)|(cases hr;done)|(simp at hd;done)|(split at hd<;>first|(cases hd;done)|(simp_all;done))
theorem dMZ:∀(n:Nat) (t:TypeId) (u:Ty),readT P n t u=true->∀(fuel:Nat) (cs:List Value) (d:DataW H) (ps:List MemPlace),DataW.trod enc P w 0 sp held fuel t cs=some (d,ps)->
 ∃x:u.den,Cl w (fun _=>False) (fun _=>.no) u x cs/\OkV u x
 |0,t,u,h,fuel,cs,d,ps,hd=>by cases h
 |n+1,t,u,h,0,cs,d,ps,hd=>by cases hd
 |n+1,t,u,h,fuel+1,cs,d,ps,hd=>by
  unfold readT at h;split at h
  ·rename_i k k' hu;simp only[decide_eq_true_eq] at h;subst h;obtain⟨v,rfl⟩:=cWZ hu hd rfl;unfold DataW.trod at hd;rw[hu] at hd;cases v<;>first|(cases hd;done)|skip;rename_i k' m;simp only at hd;split at hd
   ·rename_i hw;obtain⟨rfl,hw⟩:=hw;have hb:k'.min<=m/\m<=k'.max:=by simpa[Lit.wf] using hw
    exact⟨m,rfl,hb⟩
   ·cases hd
  ·rename_i k hu;simp only[decide_eq_true_eq] at h;subst h;obtain⟨v,rfl⟩:=cWZ hu hd rfl;unfold DataW.trod at hd;rw[hu] at hd;cases v<;>first|(cases hd;done)|skip;rename_i k' m;simp only at hd;split at hd
   ·rename_i hw;obtain⟨rfl,hw⟩:=hw;have hb:0<=m/\m<=255:=by simpa[Lit.wf,IntKind.min,IntKind.max,IntKind.signed,IntKind.bits] using hw
    refine⟨UInt8.ofNat m.toNat,?_,trivial⟩;show[Value.int .u8 m]=[Value.int .u8 ((UInt8.ofNat m.toNat).toNat:Int)];have:((UInt8.ofNat m.toNat).toNat:Int)=m:=by
     rw[UInt8.toNat_ofNat'];omega
    rw[this]
   ·cases hd
  ·rename_i hu;obtain⟨v,rfl⟩:=cWZ hu hd rfl;unfold DataW.trod at hd;rw[hu] at hd;cases v<;>first|(cases hd;done)|skip;rename_i b;exact⟨b,rfl,trivial⟩
  ·rename_i hu;obtain⟨v,rfl⟩:=cWZ hu hd rfl;unfold DataW.trod at hd;rw[hu] at hd;cases v<;>first|(cases hd;done)|skip;rename_i s;simp only at hd;split at hd
   ·rename_i hs;have hb:s.data.toList.length<=maxLen:=hs;exact⟨s.data.toList,rfl,hb⟩
   ·cases hd
  ·rename_i e v hu;simp only[Bool.and_eq_true,aaZ,Nat.blt_eq] at h;obtain⟨⟨h1,h2⟩,h3⟩:=h;obtain⟨x,rfl⟩:=cWZ hu hd rfl;unfold DataW.trod at hd;rw[hu] at hd;cases x<;>first|(cases hd;done)|skip;rename_i A len cap;cases A with
   |none=>
    cases len with
    |succ k=>cases hd
    |zero=>cases cap with
     |succ k=>cases hd
     |zero=>exact⟨([]:List v.den),⟨none,0,rfl,by simp,by unfold maxLen;omega,fun _=>rfl,fun h=>absurd rfl h⟩,by simp,fun x hx=>by cases hx⟩
   |some a=>
    simp only at hd;split at hd
    ·rename_i hb;obtain⟨_,hb1,hb2⟩:=hb;obtain⟨elems,he,_⟩:=Option.bind_eq_some_iff.1 hd;have hlen:=mapM_some_length he;simp only[List.length_range] at hlen;have hel:∀i,i<len->∃cs,w.cells? 0 (a.add (i*P.cellsOf e)) (P.cellsOf e)=some cs/\∃x:v.den,Cl w (fun _=>False) (fun _=>.no) v x cs/\OkV v x:=fun i hi=>by
      have:=mapM_some_get he i i (by simp[hi]);rw[List.getElem?_eq_getElem (by omega)] at this;obtain⟨cs,c1,c2⟩:=Option.bind_eq_some_iff.1 this;exact⟨cs,c1,dMZ n e v h3 fuel cs _ _ c2⟩
     obtain⟨l,l1,l2⟩:=c9Z (Q:=fun i (x:v.den)=>∃cs,w.cells? 0 (a.add (i*P.cellsOf e)) (P.cellsOf e)=some cs/\Cl w (fun _=>False) (fun _=>.no) v x cs/\OkV v x) len fun i hi=>by
      obtain⟨cs,c1,x,c2,c3⟩:=hel i hi;exact⟨x,cs,c1,c2,c3⟩
     have hl:List.length (α:=v.den) l=len:=l1;refine⟨(show(Ty.sl v).den from l),⟨some a,cap,by show[Value.slice (some a) len cap]=[Value.slice (some a) (List.length (α:=v.den) l) cap];rw[hl],by show List.length (α:=v.den) l<=cap;rw[hl];exact hb1,hb2,(fun h=>by cases h),fun hne=> ?_⟩,by show List.length (α:=v.den) l<=maxLen;rw[hl];omega,fun x hx=> ?_⟩
     ·have hpos:0<len:=by
       have:List.length (α:=v.den) l≠0:=hne;omega
      obtain⟨cs,c1,_⟩:=hel 0 hpos;rw[Nat.zero_mul] at c1;obtain⟨g1,g2⟩:=glZ c1;have hcs:∃y,cs[0]? =some y:=⟨_,List.getElem?_eq_getElem (by omega)⟩;obtain⟨y,hy⟩:=hcs;have hc:=iVZ (g2 0 y hy);have ha0:((a.add 0).add 0)=a:=rfl;rw[ha0] at hc;obtain⟨b,off,spot⟩:=a;simp only at hc;obtain⟨rfl,hblk⟩:=hc;refine⟨b,off,rfl,fun h=>h,hblk,fun i x hx=> ?_⟩;obtain⟨cs,c1,c2,c3⟩:=l2 i x hx;refine⟨cs,c2,fun j y hj=> ?_⟩;have:=(glZ c1).2 j y hj;rw[Addr.add_mid,Addr.add_mid] at this;rw[<-h1];exact this
     ·obtain⟨i,hi⟩:=List.getElem?_of_mem hx;obtain⟨cs,_,_,c3⟩:=l2 i x hi;exact c3
    ·cases hd
  ·rename_i fs v hu;simp only[Bool.and_eq_true,aaZ] at h;unfold DataW.trod at hd;rw[hu] at hd;simp only at hd;split at hd
   ·rename_i hl;obtain⟨xs,hx,_⟩:=Option.map_eq_some_iff.1 hd;obtain⟨y,c1,c2⟩:=eqZ (n:=fuel) (f:=readT P n) (fun x u hf _ hz=>by obtain⟨z,hz⟩:=hz;exact dMZ n x.type u hf fuel _ z.1 z.2 hz) fs.toList 0 v h.2 fun x hx'=>by
     obtain⟨i,hi⟩:=List.getElem?_of_mem hx';have:=mapM_some_get hx i x hi;rw[List.getElem?_eq_getElem (by rw[mapM_some_length hx];exact(List.getElem?_eq_some_iff.1 hi).1)] at this;exact⟨_,this⟩
    refine⟨y,?_,c2⟩;rw[List.drop_zero,List.take_of_length_le (by omega)] at c1;exact c1
   ·cases hd
  ·rename_i fs a b hu;simp only[Bool.and_eq_true,aaZ] at h;unfold DataW.trod at hd;rw[hu] at hd;simp only at hd;split at hd
   ·rename_i hl;obtain⟨xs,hx,_⟩:=Option.map_eq_some_iff.1 hd;obtain⟨y,c1,c2⟩:=eqZ (n:=fuel) (f:=readT P n) (fun x u hf _ hz=>by obtain⟨z,hz⟩:=hz;exact dMZ n x.type u hf fuel _ z.1 z.2 hz) fs.toList 0 (.pair a b) h.2 fun x hx'=>by
     obtain⟨i,hi⟩:=List.getElem?_of_mem hx';have:=mapM_some_get hx i x hi;rw[List.getElem?_eq_getElem (by rw[mapM_some_length hx];exact(List.getElem?_eq_some_iff.1 hi).1)] at this;exact⟨_,this⟩
    refine⟨y,?_,c2⟩;rw[List.drop_zero,List.take_of_length_le (by omega)] at c1;exact c1
   ·cases hd
  ·rename_i m e m' v hu;simp only[Bool.and_eq_true,aaZ] at h;obtain⟨⟨⟨rfl,h1⟩,h2⟩,h3⟩:=h;unfold DataW.trod at hd;rw[hu] at hd;simp only at hd;split at hd
   ·rename_i hl;obtain⟨xs,hx,_⟩:=Option.map_eq_some_iff.1 hd;have hlen:=mapM_some_length hx;simp only[List.length_range] at hlen;obtain⟨l,l1,l2⟩:=c9Z (Q:=fun i (x:v.den)=>Cl w (fun _=>False) (fun _=>.no) v x ((cs.drop (i*v.cells)).take v.cells)/\OkV v x) m fun i hi=>by
     have:=mapM_some_get hx i i (by simp[hi]);rw[List.getElem?_eq_getElem (by omega)] at this;obtain⟨x,c1,c2⟩:=dMZ n e v h3 fuel _ _ _ this;rw[h2] at c1;exact⟨x,c1,c2⟩
    refine⟨(show(Ty.arr m v).den from l),⟨l1,(List.range m).map fun i=>(cs.drop (i*v.cells)).take v.cells,by simp,(c1Z v.cells m cs (by rw[hl,h1])).symm,fun i x c hx hc=> ?_⟩,l1,fun x hx=> ?_⟩
    ·have hi:i<m:=by have:=(List.getElem?_eq_some_iff.1 hc).1;simpa using this
     rw[List.getElem?_map,List.getElem?_range hi] at hc;simp only[Option.map_some,Option.some.injEq] at hc;rw[<-hc];exact(l2 i x hx).1
    ·obtain⟨i,hi⟩:=List.getElem?_of_mem hx;exact(l2 i x hi).2
   ·cases hd
  ·cases h
theorem trod_v{n:Nat}{t:TypeId}{u:Ty}(h:readT P n t u=true)(hf:formOk P t u=true){base:Nat}{v:Value}{d:DataW H}{ps:List MemPlace}(hw:Value.okWide P w .any base t v)(hd:DataW.Trod enc P w 0 sp held t v d ps):
 ∃x:u.den,VRep w (fun _=>False) (fun _=>.no) u x v/\OkV u x:=by
 obtain⟨fuel,hd⟩:=hd;obtain⟨x,h1,h2⟩:=dMZ n t u h fuel _ d ps hd;refine⟨x,⟨v.cells.toList,h1,?_⟩,h2⟩;unfold formOk at hf;simp only[Bool.and_eq_true,Bool.not_eq_true'] at hf;obtain⟨_,hf⟩:=hf;unfold Value.okWide at hw;cases hg:u.isAgg<;>rw[hg] at hf
 ·simp only[bq_false] at hf;have hlen:=h1.len;obtain⟨dd,hdd,hrow⟩:=fbZ hf;cases v with
  |agg cs=>
   exfalso;unfold isScal at hf;rw[hdd] at hf hw;cases dd<;>first|(cases hf;done)|(simp[Cell.okWide,Cell.ok,hdd] at hw;done)
  |tuple cs=>
   exfalso;unfold isScal at hf;rw[hdd] at hf hw;cases dd<;>first|(cases hf;done)|(simp[Cell.okWide,Cell.ok,hdd] at hw;done)
  |_=>rfl
 ·simp only[bq_true] at hf;obtain⟨dd,hdd,hrow⟩:=diZ hf;unfold isAggT at hf;rw[hdd] at hf hw;cases dd<;>first|(cases hf;done)|skip
  ·obtain⟨cs,rfl,_⟩:=hw;rfl
  ·obtain⟨cs,rfl,_⟩:=hw;rfl
theorem law_of_told{f:FuncId}(hb:Bodied P f){ks:KdL}{spec:Shp.D ⟨ks,[]⟩->Option (OutS [⟨.cons (.p .bool) .nil,[]⟩])}(hT:Told P ⟨f,⟨ks,[]⟩,[⟨.cons (.p .bool) .nil,[]⟩],spec⟩){t:Shp.D ⟨ks,[]⟩}(hs:spec t=some true){vals:List Value}
 (hv:AReps ⟨w,fun _=>False,fun _=>False,fun _=>.no,fun _=>False⟩ (Shp.emb ⟨ks,[]⟩ t).1 vals):Calls P f vals.toArray w fun e w'=>e= .returned (.bool true)/\RowKit.Below w.heap.size w w':=by
 refine((hT.spec t true hs ⟨w,fun _=>False,fun _=>False,fun _=>.no,fun _=>False⟩ vals ⟨fun id e h=>(by rw[show(Shp.emb ⟨ks,[]⟩ t).2=[] from rfl,cPZ] at h;cases h),fun i i' e e' g sz n g' sz' n' _ h=>(by rw[show(Shp.emb ⟨ks,[]⟩ t).2=[] from rfl,cPZ] at h;cases h),fun id _=>.inl rfl,fun g h=>h,fun i x h=>by simp[Shp.emb,embH,hget] at h,fun i h=>by simp[Shp.emb,embH,hkey] at h,fun _ _ _ h=>h,fun _ _ _=>rfl⟩ hv fun _ h=>h).calls hb).mono ?_;rintro en w' ⟨v,z',rfl,rfl,hn,_,ho⟩;obtain⟨_,ho⟩:=ho;have ho:ARep z' (.p .bool true) v:=ho;refine⟨by rw[ho.v.bool],⟨hn.os,hn.tape.1,hn.output,hn.size,fun b hb=>hn.block b hb fun h=>h⟩⟩
end
end Go.Ab
namespace Go.Ab
open Go.ChangeShapes Go.WideShapes Go.ChangeAt Go.RowKit
section
variable {H : Type} {enc : TypeId × Value → H} {P : Program}
theorem cJZ(hl:laidOutB P=true){W W':World}{sp:Nat->Bool}(hb:Below W.heap.size W W'):
 ∀(ts:List TypeId) (vs:List Value) (ds:List (DataW H)) (ps:List MemPlace),DataW.TrodAll enc P W 0 (fun _=>true) true ts vs ds ps->
  (∀t∈ts,P.readableRec t=true/\t<P.types.size)->(∀x∈ps,x.block<W.heap.size/\sp x.block=true)->DataW.TrodAll enc P W' 0 sp true ts vs ds ps
 |[],vs,ds,ps,h,_,_=>by
  obtain⟨rfl,rfl,rfl⟩:=trodAll_nil h;exact trodAll_mk0
 |t::ts,vs,ds,ps,h,hr,hp=>by
  obtain⟨v,vs',d,ds',p,q,rfl,rfl,rfl,h0,h1⟩:=trodAll_cons h;have ht:=hr t (by simp);exact trodAll_cons_mk (WideElems.Trod_stays hl ht.1 ht.2 h0 (fun x hx=>hb.same (hp x (by simp[hx])).1) (fun x hx=>(hp x (by simp[hx])).2))
   (cJZ hl hb ts vs' ds' q h1 (fun t' h'=>hr t' (by simp[h'])) fun x hx=>hp x (by simp[hx]))
theorem f8Z{f:Func}{s:ChangeSpec}{apart fresh handsOn again:Bool}{W W':World}{args:Array Value}{v:Value}{ds gs:List (DataW H)}{before pa pv:List MemPlace}
 (hW:DataW.Whole enc P f.params.toList s.vars apart W args.toList ds gs before)
 (hres:∀(b:Nat) (sp:Nat->Bool) (hd:Bool),DataW.TrodAll enc P W' b sp hd f.resultTypes.toList (v.resultList f.resultTypes.size) (s.fn H (ds++gs)).results [])
 (hargs:∀sp:Nat->Bool,(∀p∈before,sp p.block=true)->DataW.TrodAll enc P W' 0 sp true f.params.toList args.toList (s.fn H (ds++gs)).args pa)
 (hvars:∀sp:Nat->Bool,(∀p∈before,sp p.block=true)->DataW.TrodVars enc P W' sp s.vars (s.fn H (ds++gs)).vars pv)
 (hps:before=pa++pv)(hb:Below W.heap.size W W')
 (hok:∀(j:Nat) (t:TypeId) (r:Value),f.resultTypes[j]? =some t->(v.resultList f.resultTypes.size)[j]? =some r->Value.okWide P W' .any 0 t r):
 s.post enc P f apart fresh handsOn again W args v W':=by
 have hlt:∀p∈before,p.block<W.heap.size:=fun p hp=>hW.lt p hp;have hold:∀p∈before,(fun b=>decide (b<W.heap.size)) p.block=true:=fun p hp=>by simpa using hlt p hp
 refine⟨ds,gs,before,[],pa,pv,hW,hres _ _ _,hargs _ hold,hvars _ hold,World.keptBut_mono (fun p hp=>⟨hp,?_⟩) (hb.frame (·∈before)),fun _=> ?_⟩
 ·rw[hps,List.mem_append] at hp;exact Or.inr hp
 ·obtain⟨_,_,_,_,_,hz,hn⟩:=hW;refine⟨hok,_,_,([]++pa)++pv,⟨[]++pa,pv,trodAll_append (hargs _ (fun _ _=>rfl)) (hres _ _ _),hvars _ (fun _ _=>rfl),rfl,?_,?_⟩,?_⟩
  ·intro b off hp;have hin:MemPlace.cell b off∈before:=by rw[hps];simpa using hp
   rw[hb.frozen (hlt _ hin)];exact hz b off hin
  ·intro ha;have:=hn ha;rw[hps] at this;simpa using this
  ·intro p hp _;rw[hps];simpa using hp
theorem law_post(hl:laidOutB P=true){f:Func}{s:ChangeSpec}{B:TypeId}{W W':World}{args:Array Value}{ds gs:List (DataW H)}{before:List MemPlace}
 (hbool:P.underlying B=some .bool)(hres:f.resultTypes=#[B])(hread:∀t∈f.params.toList,P.readableRec t=true/\t<P.types.size)(hvars:s.vars=[])
 (hfn:(s.fn H (ds++gs)).results=[.lit (.bool true)]/\(s.fn H (ds++gs)).args=ds/\(s.fn H (ds++gs)).vars=[])
 (hW:DataW.Whole enc P f.params.toList s.vars false W args.toList ds gs before)(hb:Below W.heap.size W W'):
 s.post enc P f false true false false W args (.bool true) W':=by
 have hlt:∀p∈before,p.block<W.heap.size:=fun p hp=>hW.lt p hp;have hW':=hW;obtain⟨p,q,hA,hV,hbe,_,_⟩:=hW;rw[hvars] at hV;obtain⟨rfl,rfl⟩:=trodVars_none hV;rw[List.append_nil] at hbe;subst hbe;refine f8Z (pa:=before) (pv:=[]) hW' ?_ ?_ ?_ (by simp) hb ?_
 ·intro b sp hd;rw[hfn.1,hres];exact trodAll_mk1 (shut_bool hbool _)
 ·intro sp hsp;rw[hfn.2.1];exact cJZ hl hb _ _ _ _ hA hread fun x hx=>⟨hlt x hx,hsp x hx⟩
 ·intro sp _;rw[hvars,hfn.2.2]
  rfl
 ·exact ok_one hres rfl (okWide_bool_mk hbool _)
end
end Go.Ab
