/- An evaluator of the model's code over plain values, and its soundness; of no program. -/
import Derived.Test.YtcfchfhdaggmpaaGreatDoorE3
import Derived.Laws.IdiomRangeMap
import Derived.LoopN
import Derived.DataReads
import Derived.WalkKit
import Derived.ProofKit
import Derived.OpenShut
import Derived.JoinedTies
import GoSem.Claim
import Derived.Shelf.SlSortCmp.NoneTotal
import Derived.Shelf.SlGeneric
import Derived.Shelf.Spec.SlicesInsertGrow
import Derived.Shelf.Slices.Delete
import Derived.Shelf.Strings.IndexAnyAll
import Derived.WalkMore
import Derived.Shelf.Small.Utf8
import Derived.Laws.Runes
import Derived.Lib.Bytealg
set_option linter.all false
namespace Go.Ab
theorem ZAG:type_of% @decide_eq_false:=@decide_eq_false
theorem ZAJ:type_of% @decide_eq_true:=@decide_eq_true
theorem ZBR.{u}:type_of% @Array.getElem?_append_left.{u}:=@Array.getElem?_append_left.{u}
theorem ZCI:type_of% @Nat.sub_mul:=@Nat.sub_mul
end Go.Ab
namespace Go.Ab
theorem g9Z(H:Hp):∀(n id:Nat),hget (fillN H n) id=hget H id/\hkey (fillN H n) id=(hkey H id||(decide (id<n)&&decide (id<famBase)))
 |0,id=>by simp[fillN]
 |n+1,id=>by
  obtain⟨q1,q2⟩:=g9Z H n id;have key:hkey H n=true\/famBase<=n->(hkey H id||(decide (id<n)&&decide (id<famBase)))=(hkey H id||(decide (id<n+1)&&decide (id<famBase))):=fun h=>by
   by_cases hi:id=n
   ·subst hi;rcases h with h|h
    ·simp[h]
    ·simp[show¬id<famBase by omega]
   ·have:(id<n+1)↔id<n:=by omega
    simp[this]
  simp only[fillN];cases hk:hkey H n
  ·cases hb:Nat.ble famBase n
   ·have hlt:n<famBase:=ZBK.1 fun h=>by rw[ZAi h] at hb;cases hb
    simp only[Bool.or_self,ZAE,hget,hkey];by_cases h:n=id
    ·subst h;simp only[(acZ n n).2 rfl,ZAK,hk];refine⟨(atZ hk).symm,?_⟩;simp[hlt]
    ·simp only[afZ h,ZAE,q1,q2];refine⟨trivial,?_⟩;have:(id<n+1)↔id<n:=by omega
     simp[this]
   ·simp only[Bool.or_true,ZAK,q1,q2];exact⟨trivial,key (.inr (ZBC hb))⟩
  ·simp only[Bool.true_or,ZAK,q1,q2];exact⟨trivial,key (.inl hk)⟩
theorem cpZ{id:Nat}:∀{l:List Nat},id∈famK l↔id∈l/\famBase<=id
 |[]=>by simp[famK]
 |i::l=>by
  simp only[famK];by_cases h:famBase<=i
  ·rw[ZAi h,ZAK,ZAa,ZAa,cpZ];exact⟨fun h'=>h'.elim (fun e=>⟨.inl e,by omega⟩) fun h'=>⟨.inr h'.1,h'.2⟩,fun⟨h1,h2⟩=>h1.elim .inl fun h1=>.inr ⟨h1,h2⟩⟩
  ·rw[eqZ h,ZAE,ZAa,cpZ];exact⟨fun h'=>⟨.inr h'.1,h'.2⟩,fun⟨h1,h2⟩=>⟨h1.resolve_left fun e=>by omega,h2⟩⟩
theorem frZ{id:Nat}:∀{l:List Nat},id∈statK l↔id∈l/\id<famBase
 |[]=>by simp[statK]
 |i::l=>by
  simp only[statK];by_cases h:famBase<=i
  ·rw[ZAi h,ZAK,ZAa,frZ];exact⟨fun h'=>⟨.inr h'.1,h'.2⟩,fun⟨h1,h2⟩=>⟨h1.resolve_left fun e=>by omega,h2⟩⟩
  ·rw[eqZ h,ZAE,ZAa,ZAa,frZ];exact⟨fun h'=>h'.elim (fun e=>⟨.inl e,by omega⟩) fun h'=>⟨.inr h'.1,h'.2⟩,fun⟨h1,h2⟩=>h1.elim .inl fun h1=>.inr ⟨h1,h2⟩⟩
theorem eRZ{i k:Nat}:∀{l:List Nat},(i,k)∈diagN l↔i=k/\k∈l
 |[]=>by simp[diagN]
 |x::l=>by
  simp only[diagN,ZAa,ZAs,eRZ];constructor
  ·rintro(⟨rfl,rfl⟩|⟨rfl,h⟩)
   ·exact⟨rfl,.inl rfl⟩
   ·exact⟨rfl,.inr h⟩
  ·rintro⟨rfl,rfl|h⟩
   ·exact .inl ⟨rfl,rfl⟩
   ·exact .inr ⟨rfl,h⟩
theorem rhZ{sh:LShp}{H:Hp}{vs:List AV}{i k:Nat}(h:(i,k)∈sh.ps H vs):k∈hkKeys sh.s.hs:=by
 unfold LShp.ps at h;rcases ZAh.1 h with h|h
 ·obtain⟨n,_,q⟩:=h0Z h;exact(frZ.1 (ZAN q)).1
 ·exact(cpZ.1 (eRZ.1 h).2).1
theorem n8Z{n:Nat}:∀{ps:List (Nat×Nat)},fixN n ps=true->∀i k,(i,k)∈ps->i=k\/(n<=i/\n<=k)
 |[],_,i,k,h=>by cases h
 |(a,b)::ps,h,i,k,hm=>by
  simp only[fixN,ZAB,ZAp,acZ,ZAm] at h;rcases ZAa.1 hm with hm|hm
  ·injection hm with h1 h2;subst h1;subst h2;exact h.1
  ·exact n8Z h.2 i k hm
theorem nJZ{z:Z}{f:Nat->Value}:∀{ks:List Nat} {vs:List AV} {t:Tr},(∀k,ARep z (t.get k) (f k))->AReps z vs (ks.map f)->∀k,ARep z ((unTm ks vs t).get k) (f k)
 |[],vs,t,h,_,k=>by cases vs<;>exact h k
 |k0::ks,[],t,h,_,k=>h k
 |k0::ks,a::vs,t,h,hv,k=>by
  simp only[unTm];refine nJZ (fun j=> ?_) hv.tail k;by_cases hj:j=k0
  ·subst hj;rcases(Tr.get_put t j a j).2 with e|e<;>rw[e]
   ·exact hv.head
   ·exact .junk _
  ·rw[(Tr.get_put t k0 a j).1 hj];exact h j
theorem gGZ:∀(t:Tr) (k:Nat),t.keep.get k= .junk\/(t.keep.get k=t.get k/\(t.get k).noRef=true)
 |.lf,k=>.inl rfl
 |.nd l v r,k=>by
  simp only[Tr.keep,Tr.get];by_cases h0:k=0
  ·subst h0;simp only[(acZ 0 0).2 rfl,ZAK];cases hv:v.noRef
   ·exact .inl rfl
   ·exact .inr ⟨rfl,rfl⟩
  ·simp only[afZ h0,ZAE];by_cases h1:k%2=1
   ·simp only[(acZ _ _).2 h1,ZAK];exact gGZ l _
   ·simp only[afZ h1,ZAE];exact gGZ r _
theorem heZ:∀(l:List Nat) (t:Tr) (k:Nat),(k∈l->(t.junk l).get k= .junk)/\(k∉l->(t.junk l).get k=t.get k)
 |[],t,k=>⟨fun h=>(by cases h),fun _=>rfl⟩
 |i::l,t,k=>by
  obtain⟨h1,h2⟩:=heZ l (t.put i .junk) k;simp only[Tr.junk];refine⟨fun h=> ?_,fun h=> ?_⟩
  ·by_cases hk:k∈l
   ·exact h1 hk
   ·rw[h2 hk];have:k=i:=(ZAa.1 h).resolve_right hk;subst this;rcases(Tr.get_put t k .junk k).2 with e|e<;>exact e
  ·rw[ZAa,not_or] at h;rw[h2 h.2,(Tr.get_put t i .junk k).1 h.1]
theorem gQZ:∀(t:Tr),∃n,∀k,n<=k->t.get k= .junk
 |.lf=>⟨0,fun _ _=>rfl⟩
 |.nd l v r=>by
  obtain⟨nl,hl⟩:=gQZ l;obtain⟨nr,hr⟩:=gQZ r;refine⟨2*(nl+nr)+3,fun k hk=> ?_⟩;have h0:k≠0:=by omega
  simp only[Tr.get,afZ h0,ZAE];by_cases h1:k%2=1
  ·simp only[(acZ _ _).2 h1,ZAK];exact hl _ (by omega)
  ·simp only[afZ h1,ZAE];exact hr _ (by omega)
theorem nuZ{a:AV}(h:a.noRef=true):AV.ids a=[]:=by
 cases a<;>first|rfl|(simp only[AV.noRef,List.isEmpty_iff] at h;exact h)
theorem q2Z{p:Nat->Prop}(h:∃n,p n):∃n,p n/\∀m,p m->n<=m:=by
 obtain⟨n,hn⟩:=h;induction n using Nat.strongRecOn with
 |_ n ih=>
  by_cases hm:∃m,m<n/\p m
  ·obtain⟨m,h1,h2⟩:=hm;exact ih m h1 h2
  ·exact⟨n,hn,fun m h=>Nat.le_of_not_lt fun hlt=>hm ⟨m,hlt,h⟩⟩
section
variable {P : Program} {T : Tbl} {β : Type} {z0 : Z} {N : Nat} {L : List (Nat × AV)}
theorem Inv.sub{L':List (Nat×AV)}{st:St}{a:Act}{w:World}(hi:Inv z0 N L' st a w)(h:∀p∈L,p∈L'):Inv z0 N L st a w:=by
 obtain⟨z,rfl,hn,hD,hH,hs,hLs,hdf,hnt,h0⟩:=hi;exact⟨z,rfl,hn,hD,hH,hs,fun p hp=>hLs p (h p hp),hdf,hnt,h0⟩
theorem kzZ:∀{ps:List (Nat×Nat)} {i i' k:Nat},(sndN ps).Nodup->(i,k)∈ps->(i',k)∈ps->i=i'
 |(a,b)::ps,i,i',k,hn,h,h'=>by
  simp only[sndN,List.nodup_cons] at hn;have hm:∀{ps:List (Nat×Nat)} {x:Nat},(x,k)∈ps->k∈sndN ps:=fun{ps}=>by
   induction ps with
   |nil=>intro x h;cases h
   |cons p ps ih=>
    intro x h;rcases ZAa.1 h with rfl|h
    ·exact ZAl
    ·exact ZAb _ (ih h)
  rcases ZAa.1 h with e|q<;>rcases ZAa.1 h' with e'|q'
  ·injection e with e1 e2;injection e' with e3 e4;rw[e1,e3]
  ·injection e with e1 e2;exact absurd (e2▸hm q') hn.1
  ·injection e' with e1 e2;exact absurd (e2▸hm q) hn.1
  ·exact kzZ hn.2 q q'
theorem qcZ{st:St}{sh:LShp}{K:sh.D->Option β}{r:β}{a:Act}{base:Tr}{nt n0:Nat}{z:Z}(h:st.prj sh K=some r)(hn:Nx z0 z)(hD:∀id,¬z.D id)(hH:HRep z st.hp)(hs:∀t,ARep z (st.tm.get t) (a.eval (opOf t)))(hLs:∀p∈L,ARep z p.2 (a.eval (opOf p.1)))
 (h0':∀id,id<dynBase->z0.ρ id≠.no->id<st.n0)(hLn:∀p∈L,AV.ids p.2=[])
 (hb:∀k,base.get k= .junk\/(k,base.get k)∈L)(h0:∀id,id<dynBase->z0.ρ id≠.no->id<n0):∃t z2,K t=some r/\z2.w=z.w/\Nx z0 z2/\(∀id,¬z2.D id)/\HRep z2 (sh.inj base nt n0 t).hp/\(∀k,ARep z2 ((sh.inj base nt n0 t).tm.get k) (a.eval (opOf k)))/\(∀p∈L,ARep z2 p.2 (a.eval (opOf p.1)))/\
  z2.M=z.M/\(∀g,z2.C g->z.C g)/\∀i k,pairIs (sh.ps st.hp (sh.live.map st.tm.get)) i k=true->z2.ρ k=z.ρ i:=by
 unfold St.prj at h;obtain⟨h1,h2⟩:=aeZ.1 h;simp only[ZAB] at h1;have hfix:=n8Z h1.1;have hb0:=cAZ;have hall:=bFZ.1 h1.2;have hdyn:∀id,dynBase<=id->memN (rt id) (hkKeys sh.s.hs)=false->z.ρ id= .no:=fun id hd hm=>by
  have hk:hkey st.hp (rt id)=false:=by
   cases hk:hkey st.hp (rt id)
   ·rfl
   ·have:=(cpZ.1 (hall _ (cpZ.2 ⟨dPZ.1 hk,(buZ hd).1⟩))).1;rw[aiZ.2 this] at hm;cases hm
  refine(hH.fresh id ?_).resolve_right (hD id);rw[awZ hd,atZ hk];exact hk
 obtain⟨t,z',k1,k2,k3,k4,k5,k6,k7,k8,k9,k10,k11,k12,k13,k14⟩:=Shp.rco_ok (vals:=sh.live.map fun k=>a.eval (opOf k)) (fun k=>if k<n0 then z.ρ k else .no) (fun k h1 h2=>by rw[hH.nos k h1 h2,ite_self]) h2 hH ⟨by simp,fun i x v e1 e2=>by
  rw[ZAW] at e1 e2;obtain⟨k,e3,rfl⟩:=ZAH.1 e1;rw[e3] at e2;simp at e2;subst e2;exact hs k⟩
 have hρ:∀id,z0.ρ id≠.no->z'.ρ id=z0.ρ id:=fun id hid=>by
  cases hk:memN id (hkKeys sh.s.hs)
  ·rw[k7 id hk];by_cases hdy:dynBase<=id
   ·rw[ZAT hdy];exact hn.ext id hid
   ·rw[ZAQ hdy,ZAT (h0 id (by omega) hid)];exact hn.ext id hid
  ·obtain⟨id',q1,q2⟩:=k6 id hk;rcases hfix id' id q1 with rfl|⟨_,q4⟩
   ·rw[q2];exact hn.ext id' hid
   ·have:=h0' id (k13 id hk) hid;omega
 let z2:Z:={z' with D:=fun _=>False}
 have hn2:Nx z0 z2:=⟨by show z'.w.os=_;rw[k2];exact hn.os,⟨by show z'.w.tape=_;rw[k2];exact hn.tape.1,by show _<=z'.w.drawn;rw[k2];exact hn.tape.2⟩,by show z'.w.output=_;rw[k2];exact hn.output,by show _<=z'.w.heap.size;rw[k2];exact hn.size,
  fun b hb hc=>by show z'.w.heap[b]? =_;rw[k2];exact hn.block b hb hc,fun g hg=>hn.subM g (by rw[<-k3];exact hg),fun g hg=>hn.subC g (k8 g hg),fun g hg hm hc=>by show z'.M g;rw[k3];exact hn.keepM g hg hm hc,hρ,by
   funext id;have h1:¬z.D id:=hD id;rw[hn.dom] at h1;exact propext ⟨fun h=>h.elim,fun h=>h1 h⟩⟩
 have hL2:∀p∈L,ARep z2 p.2 (a.eval (opOf p.1)):=fun p hp=>(hLs p hp).rho (z':=z2) k2 k3 (.inl k12) fun id hid=>by rw[hLn p hp] at hid;cases hid
 refine⟨t,z2,k1,k2,hn2,fun _ h=>h,?_⟩;rw[LShp.inj_eq];refine⟨?_,?_,hL2,k3,k8,fun i k hp=> ?_⟩
 ·have eq:=g9Z (sh.s.emb t).2 n0;have eqX:∀id,hgetX (fillN (sh.s.emb t).2 n0) id=hgetX (sh.s.emb t).2 id:=fun id=>bOZ (eq _).1;refine⟨fun id e' he=> ?_,fun i i' e e' g sz n g' sz' n' hii p1 p2 m1 m2 p3 p4=> ?_,fun id hid=> ?_,k4.sub,fun i x h=>k4.fam i x (by rw[<-(eq i).1];exact h),fun i h=> ?_,fun i _ _ h=>h,k4.nos⟩
  ·rw[eqX id] at he;exact(k4.ent id e' he).rho rfl rfl (.inl (.eq rfl)) rfl (fun _ _=>rfl) fun _ _ _ _ _ h=>h
  ·rw[eqX i] at p1;rw[eqX i'] at p2;exact k4.inj i i' _ _ g sz n g' sz' n' hii p1 p2 m1 m2 p3 p4
  ·left;show z'.ρ id= .no;by_cases hdy:dynBase<=id
   ·have hr:=(buZ hdy).1;have hkk:hkey (fillN (sh.s.emb t).2 n0) (rt id)=hkey (sh.s.emb t).2 (rt id):=by
     rw[(eq (rt id)).2];simp[show¬rt id<famBase by omega]
    rw[cBZ (H:=(sh.s.emb t).2) (eq _).1 hkk] at hid;cases hm:memN (rt id) (hkKeys sh.s.hs)
    ·have hmi:memN id (hkKeys sh.s.hs)=false:=by
      cases hc:memN id (hkKeys sh.s.hs)
      ·rfl
      ·have:=k13 id hc;omega
     rw[k7 id hmi,ZAT hdy];exact hdyn id hdy hm
    ·refine(k4.fresh id hid).resolve_right fun hD'=> ?_;rw[k10,hm] at hD';cases hD'.1
   ·by_cases hf:famBase<=id
    ·exact k4.nos id hf (by omega)
    ·rw[a3Z (by omega),(eq id).2] at hid;simp only[ZBE,ZBw,ZA6] at hid;rw[k11] at hid;rw[k7 id hid.1,ZAQ hdy,ZAQ (by omega)]
  ·rw[(eq i).2] at h;simp only[ZAp,ZAB,ZAd] at h;rcases h with h|h
   ·exact k4.key i h
   ·omega
 ·refine nJZ (z:=z2) (f:=fun k=>a.eval (opOf k)) (fun k=> ?_) (k5.less rfl rfl fun g h=>h);rcases hb k with e|e
  ·rw[e];exact .junk _
  ·exact hL2 _ e
 ·unfold pairIs at hp;split at hp
  ·rename_i j hj;rw[acZ] at hp;subst hp;have hm:=cPZ hj;have hk:memN j (hkKeys sh.s.hs)=true:=aiZ.2 (rhZ hm);obtain⟨id',q1,q2⟩:=k6 j hk;have hnd:(sndN (sh.ps st.hp (sh.live.map st.tm.get))).Nodup:=by
    unfold Shp.rco at h2;have:=(aeZ.1 h2).1;simp only[ZAB] at this;exact bVZ.1 this.1.2.1
   rw[show z2.ρ j=z'.ρ j from rfl,q2,kzZ hnd q1 hm]
  ·cases hp
theorem iZZ{st:St}{sh:LShp}{K:sh.D->Option β}{r:β}{a:Act}{w:World}{base:Tr}{nt n0:Nat}(h:st.prj sh K=some r)(hi:Inv z0 N L st a w)(hLn:∀p∈L,AV.ids p.2=[])
 (hb:∀k,base.get k= .junk\/(k,base.get k)∈L)(hnt:nt<=N)(h0:∀id,id<dynBase->z0.ρ id≠.no->id<n0):∃t,K t=some r/\Inv z0 N L (sh.inj base nt n0 t) a w:=by
 obtain⟨z,rfl,hn,hD,hH,hs,hLs,hdf,hnt',h0'⟩:=hi;obtain⟨t,z2,k1,k2,k3,k4,k5,k6,k7,_⟩:=qcZ (base:=base) (nt:=nt) (n0:=n0) h hn hD hH hs hLs h0' hLn hb h0;refine⟨t,k1,z2,k2,k3,k4,k5,k6,k7,hdf,?_,?_⟩
 ·rw[LShp.inj_eq];exact⟨hnt,hnt'.2⟩
 ·rw[LShp.inj_eq];exact h0
theorem Out.on_inl{γ:Type}{base:Tr}{nt n0:Nat}:∀{rt:Bool} {l:List (Nat×LShp)} {i:Nat} {st:St} {K:Out rt l β->Option γ} {r:γ} {a:Act} {w:World},Out.mk st rt l i K=some r->Inv z0 N L st a w->(∀p∈L,AV.ids p.2=[])->
 (∀k,base.get k= .junk\/(k,base.get k)∈L)->nt<=N->(∀id,id<dynBase->z0.ρ id≠.no->id<n0)->∃o,K o=some r/\∀(X:Nat->St->Option β) (R:β->Option β),∃st1,Inv z0 N L st1 a w/\Out.on base nt n0 rt l o X R=X i st1
 |rt,[],i,st,K,r,a,w,h,_,_,_,_,_=>by cases rt<;>cases h
 |true,[(j,s)],i,st,K,r,a,w,h,hi,hLn,hb,hnt,h0=>by
  simp only[Out.mk] at h;cases hj:Nat.beq j i<;>rw[hj] at h<;>simp only[bq_true,bq_false] at h
  ·cases h
  rw[acZ] at hj;subst hj;obtain⟨t,h1,h2⟩:=iZZ h hi hLn hb hnt h0;exact⟨.inl t,h1,fun X R=>⟨_,h2,rfl⟩⟩
 |false,[(j,s)],i,st,K,r,a,w,h,hi,hLn,hb,hnt,h0=>by
  simp only[Out.mk] at h;cases hj:Nat.beq j i<;>rw[hj] at h<;>simp only[bq_true,bq_false] at h
  ·cases h
  rw[acZ] at hj;subst hj;obtain⟨t,h1,h2⟩:=iZZ h hi hLn hb hnt h0;exact⟨t,h1,fun X R=>⟨_,h2,rfl⟩⟩
 |rt,(j,s)::o::l,i,st,K,r,a,w,h,hi,hLn,hb,hnt,h0=>by
  have h':bq (Nat.beq j i) (st.prj s fun t=>K (.inl t)) (Out.mk st rt (o::l) i fun x=>K (.inr x))=some r:=by cases rt<;>exact h
  clear h;cases hj:Nat.beq j i<;>rw[hj] at h'<;>simp only[bq_true,bq_false] at h'
  ·obtain⟨x,h1,h2⟩:=Out.on_inl h' hi hLn hb hnt h0;refine⟨.inr x,h1,fun X R=> ?_⟩;obtain⟨st1,h3,h4⟩:=h2 X R;exact⟨st1,h3,by cases rt<;>exact h4⟩
  ·rw[acZ] at hj;subst hj;obtain⟨t,h1,h2⟩:=iZZ h' hi hLn hb hnt h0;exact⟨.inl t,h1,fun X R=>⟨_,h2,by cases rt<;>rfl⟩⟩
theorem Out.on_ret{base:Tr}{nt n0:Nat}{b:β}{X:Nat->St->Option β}{R:β->Option β}:∀{l:List (Nat×LShp)},Out.on base nt n0 true l (Out.ret l b) X R=R b
 |[]=>rfl
 |[(_,_)]=>rfl
 |(_,_)::o::l=>Out.on_ret (l:=o::l)
theorem Tr.ren_get(f:Nat->Option Nat):∀(t:Tr) (k:Nat),(t.ren f).get k=AV.ren f (t.get k)
 |.lf,k=>rfl
 |.nd l v r,k=>by
  simp only[Tr.ren,Tr.get];cases Nat.beq k 0
  ·cases Nat.beq (k%2) 1
   ·exact Tr.ren_get f r _
   ·exact Tr.ren_get f l _
  ·rfl
theorem ceZ(f:Nat->Option Nat):∀(H:Hp) (id:Nat),hget (mapHp f H) id=(hget H id).map (Ent.ren f)/\hkey (mapHp f H) id=hkey H id
 |[],id=>⟨rfl,rfl⟩
 |(i,none)::H,id=>by
  obtain⟨h1,h2⟩:=ceZ f H id;simp only[mapHp,hget,hkey];cases Nat.beq i id
  ·exact⟨h1,h2⟩
  ·exact⟨rfl,rfl⟩
 |(i,some e)::H,id=>by
  obtain⟨h1,h2⟩:=ceZ f H id;simp only[mapHp,hget,hkey];cases Nat.beq i id
  ·exact⟨h1,h2⟩
  ·exact⟨rfl,rfl⟩
theorem qgZ{old new id k:Nat}(h:renF old new id=some k):(id=old/\k=new)\/(id≠old/\k=id):=by
 unfold renF at h;by_cases hi:id=old
 ·rw[(acZ id old).2 hi,bq_true] at h;exact .inl ⟨hi,(ZAk h).symm⟩
 ·rw[afZ hi,bq_false] at h;exact .inr ⟨hi,(ZAk h).symm⟩
theorem oSZ{z:Z}{H:Hp}{old new:Nat}{e:Ent}(hH:HRep z H)(hg:hget H old=some e)(hk:hkey H new=false)(hnl:new<famBase)(hol:old<famBase)(hd:¬z.D new):
 ∃z',z'.w=z.w/\HRep z' (hset (hset (mapHp (renF old new) H) old none) new (some (e.ren (renF old new))))/\Nx z z'/\∀a v,ARep z a v->ARep z' (AV.ren (renF old new) a) v:=by
 have hno:=(hH.fresh new (by rw[a3Z hnl];exact hk)).resolve_right hd;have hne:new≠old:=fun h=>by rw[h,ahZ hg] at hk;cases hk
 let z':Z:={z with ρ:=fun i=>if i=new then z.ρ old else z.ρ i}
 have e1:∀i,i≠new->z'.ρ i=z.ρ i:=fun i hi=>ZAQ hi;have e2:z'.ρ new=z.ρ old:=ZAT rfl;have hn:Nx z z':=⟨rfl,⟨rfl,ZAM _⟩,rfl,ZAM _,fun _ _ _=>rfl,fun _ h=>.inl h,fun _ h=>.inl h,fun _ _ h _=>h,fun i hi=>e1 i (by rintro rfl;exact hi hno),rfl⟩;have hf:∀{id k:Nat},z.ρ id≠.no->renF old new id=some k->z'.ρ k=z.ρ id:=fun{id k} hl h=>by
  rcases qgZ h with⟨rfl,rfl⟩|⟨h1,rfl⟩
  ·exact e2
  ·exact e1 _ (by rintro rfl;exact hl hno)
 have hid:∀i ee,hget H i=some ee->i≠new:=fun i ee h hi=>by rw[<-hi,ahZ h] at hk;cases hk
 have hent:∀i ee,ERep z i ee->∀k,z'.ρ k=z.ρ i->ERep z' k (ee.ren (renF old new)):=fun i ee h k hki=>by
  unfold ERep at h⊢;rw[hki];cases hr:z.ρ i with
  |no=>rw[hr] at h;exact h
  |virt=>
   rw[hr] at h;obtain⟨fz,b⟩:=ee;cases b<;>first|exact h.elim|exact h
  |real g sz n=>
   rw[hr] at h;obtain⟨a1,a2,a3,a4⟩:=h;refine⟨a1,a2,a3,a4.ren' (.of hn.ext) ?_⟩;exact hf
 have hmX:∀i,hgetX (mapHp (renF old new) H) i=(hgetX H i).map (Ent.ren (renF old new))/\hkeyX (mapHp (renF old new) H) i=hkeyX H i:=fun i=>by
  obtain⟨q1,q2⟩:=ceZ (renF old new) H (rt i);by_cases hd:dynBase<=i
  ·rw[a2Z hd,a2Z hd,awZ hd,awZ hd,q1,q2];cases hget H (rt i) with
   |none=>exact⟨rfl,rfl⟩
   |some e0=>
    simp only[ZBk,ZAA];rw[(dXZ e0 _ _).2 (ZAM _),(dXZ e0 _ _).1];refine⟨?_,rfl⟩;cases hp:pick ((i-dynBase)/16) e0 with
    |none=>rfl
    |some x=>simp only[ZBk,(dzZ hp _).1]
  ·unfold hgetX hkeyX;rw[ZAQ hd,ZAQ hd,ZAQ hd,ZAQ hd];by_cases hf:famBase<=i
   ·rw[ZAT hf,ZAT hf,ZAT hf,ZAT hf];exact⟨rfl,rfl⟩
   ·rw[ZAQ hf,ZAQ hf,ZAQ hf,ZAQ hf];rw[aOZ (by omega)] at q1 q2;exact⟨q1,q2⟩
 have key:∀i ee,hgetX (hset (hset (mapHp (renF old new) H) old none) new (some (e.ren (renF old new)))) i=some ee->∃j e0,hgetX H j=some e0/\ee=e0.ren (renF old new)/\((i=new/\j=old)\/(i≠new/\i≠old/\j=i)):=fun i ee h=>by
  rw[a1Z hnl] at h;by_cases hi:i=new
  ·rw[ZAT hi] at h;exact⟨old,e,by rw[aqZ hol];exact hg,(ZAk h).symm,.inl ⟨hi,rfl⟩⟩
  ·rw[ZAQ hi,a1Z hol] at h;by_cases ho:i=old
   ·rw[ZAT ho] at h;cases h
   ·rw[ZAQ ho,(hmX i).1] at h;obtain⟨e0,h1,h2⟩:=ZAH.1 h;exact⟨i,e0,h1,h2.symm,.inr ⟨hi,ho,rfl⟩⟩
 have hb0:=cAZ;have hfR:∀(i:Nat) (x:Ent),Ab.famOk i x->Ab.famOk i (x.ren (renF old new)):=fun i x h=>by
  obtain⟨fz,b⟩:=x;cases b<;>exact h
 have hρj:∀i j,((i=new/\j=old)\/(i≠new/\i≠old/\j=i))->z'.ρ i=z.ρ j:=fun i j h=>by
  rcases h with⟨rfl,rfl⟩|⟨h1,_,rfl⟩
  ·exact e2
  ·exact e1 _ h1
 refine⟨z',rfl,⟨fun i ee h=> ?_,fun i i' ee ee' g sz n g' sz' n' hii p1 p2 m1 m2 p3 p4=> ?_,fun i h=> ?_,hH.sub,fun i x h=> ?_,fun i h=> ?_,fun i hdy h=> ?_,fun i h1 h2=>by rw[e1 i (by omega)];exact hH.nos i h1 h2⟩,hn,fun a v h=>h.ren rfl rfl (.inl (.of hn.ext)) fun id k hi hk=>hf (h.live id hi) hk⟩
 ·obtain⟨j,e0,q1,rfl,q3⟩:=key i ee h;exact hent j e0 (hH.ent _ _ q1) i (hρj i j q3)
 ·obtain⟨j,e0,q1,rfl,q3⟩:=key i ee p1;obtain⟨j',e0',q1',rfl,q3'⟩:=key i' ee' p2;rw[hρj i j q3] at p3;rw[hρj i' j' q3'] at p4;have hjj:j≠j':=by
   rcases q3 with⟨rfl,rfl⟩|⟨h1,h2,rfl⟩<;>rcases q3' with⟨rfl,rfl⟩|⟨h1',h2',rfl⟩
   ·exact absurd rfl hii
   ·exact ZBd h2'
   ·exact h2
   ·exact hii
  have rr:∀{i j},((i=new/\j=old)\/(i≠new/\i≠old/\j=i))->Ro j->Ro i:=fun h hr=>by
   rcases h with⟨_,rfl⟩|⟨_,_,rfl⟩
   ·exact absurd hr (bwZ hol)
   ·exact hr
  exact fun p5=>hH.inj j j' e0 e0' g sz n g' sz' n' hjj q1 q1' m1 m2 p3 p4 fun h=>p5 ⟨rr q3 h.1,rr q3' h.2⟩
 ·rw[bbZ hnl,bbZ hol,(hmX i).2] at h;simp only[ZBE,ZA6] at h;rw[e1 i h.1];exact hH.fresh i h.2.2
 ·rw[aoZ] at h;by_cases hi:i=new
  ·rw[ZAT hi] at h;injection h with h;subst h;subst hi;exact hfR _ _ ((hH.fam old e hg).other hol i hnl e.fz)
  ·rw[ZAQ hi,aoZ] at h;by_cases ho:i=old
   ·rw[ZAT ho] at h;cases h
   ·rw[ZAQ ho,(ceZ _ H i).1] at h;obtain⟨e0,h1,rfl⟩:=ZAH.1 h;exact hfR _ _ (hH.fam i e0 h1)
 ·rw[asZ,asZ,(ceZ _ H i).2] at h;simp only[ZAp,ZAd] at h;rcases h with rfl|rfl|h
  ·omega
  ·omega
  ·exact hH.key i h
 ·rw[asZ,asZ,(ceZ _ H _).2] at h;simp only[ZAp,ZAd] at h;have:=(buZ hdy).1;refine hH.dyn i hdy ?_;rcases h with h|h|h
  ·omega
  ·omega
  ·exact h
theorem HRep.reent{z:Z}{H:Hp}{id:Nat}{b0 b:Blk}(hH:HRep z H)(hid:id<famBase)(hg:hget H id=some ⟨false,b0⟩)(hb:ERep z id ⟨false,b0⟩->ERep z id ⟨false,b⟩)(hf:Ab.famOk id ⟨false,b⟩):HRep z (hset H id (some ⟨false,b⟩)):=by
 have hu:=Upd.stat hid hg hf;have hgX:hgetX H id=some ⟨false,b0⟩:=by rw[aqZ hid];exact hg
 refine⟨fun i e hi=> ?_,fun i i' e e' a sa na a' sa' na' hii h1 h2 m1 m2 h3 h4=> ?_,fun i hi=>hH.fresh i (hu.K i hi),hH.sub,fun i x h=>(hu.fam i x h).elim (hH.fam i x) fun h=>h,fun i h=>hH.key i (hu.key i h),fun i hd h=>hH.dyn i hd (hu.key _ h),hH.nos⟩
 ·rw[hu.X] at hi;by_cases h:i=id
  ·subst h;rw[ZAT rfl] at hi;injection hi with hi;subst hi;exact hb (hH.ent _ _ hgX)
  ·rw[ZAQ h] at hi;exact hH.ent _ _ hi
 ·rw[hu.X] at h1 h2;have q:∀j ee,(if j=id then some (⟨false,b⟩:Ent) else hgetX H j)=some ee->ee.fz=false->∃ee',hgetX H j=some ee'/\ee'.fz=false:=fun j ee hj hf=>by
   by_cases h:j=id
   ·subst h;exact⟨_,hgX,rfl⟩
   ·rw[ZAQ h] at hj;exact⟨_,hj,hf⟩
  obtain⟨e1,q1,f1⟩:=q _ _ h1 m1;obtain⟨e2,q2,f2⟩:=q _ _ h2 m2;exact hH.inj i i' _ _ _ _ _ _ _ _ hii q1 q2 f1 f2 h3 h4
theorem l0Z{t:Ty}(h:t.unref= .byte):t= .byte:=by
 cases t<;>simp[Ty.unref] at h⊢
theorem nwZ{z:Z}{id:Nat}{e:TypeId}{t:Ty}{l:List t.unref.den}(h:ERep z id ⟨false,.rows e t.unref l⟩):ERep z id ⟨false,.rows e t (l.map (liftT t))⟩:=by
 unfold ERep at h⊢;cases hρ:z.ρ id with
 |no=>rw[hρ] at h;exact h
 |virt=>
  rw[hρ] at h;obtain⟨rfl,h2⟩:=h;rw[azZ] at h2;exact⟨rfl,h2⟩
 |real g sz n=>
  rw[hρ] at h;obtain⟨h1,h2,h3,cs,fr,a1,a2,a3,a4,a5,a6,a7⟩:=h;rw[azZ] at a5 a6;refine⟨h1,h2,h3,cs,fr,a1,a2.imp (fun h=>h) (fun h=>⟨l0Z h.1,h.2⟩),a3,by rw[ZBB];exact a4,by rw[ZBB];exact a5,a6,fun i x hx=> ?_⟩;rw[ZAW] at hx;obtain⟨y,hy,rfl⟩:=ZAH.1 hx;obtain⟨u,b1,b2⟩:=a7 i y hy;rw[azZ] at b2;exact⟨u,dDZ b1,b2⟩
theorem HRep.newFam{z:Z}{H:Hp}{f:Nat}{e:TypeId}{s:Ty}(hH:HRep z H)(hD:∀id,¬z.D id)(hk:hkey H (famId f)=false)(hs:s.noRef=true)(hc:0<s.cells):HRep z (hset H (famId f) (some ⟨false,.fam e s []⟩)):=by
 have hX:∀i,hgetX (hset H (famId f) (some ⟨false,.fam e s []⟩)) i=hgetX H i:=fun i=>by
  by_cases hi:∃k,i=enc f k
  ·obtain⟨k,rfl⟩:=hi;rw[(bpZ H f _ 0).1 k,cdZ,atZ hk]
   rfl
  ·exact(bpZ H f _ i).2 fun k h=>hi ⟨k,h⟩
 refine⟨fun i ee h=>hH.ent i ee (by rw[<-hX];exact h),fun i i' ee ee' g sz n g' sz' n' hii p1 p2 m1 m2 p3 p4=>hH.inj i i' ee ee' g sz n g' sz' n' hii (by rw[<-hX];exact p1) (by rw[<-hX];exact p2) m1 m2 p3 p4,fun i h=> ?_,hH.sub,fun i x h=> ?_,fun i h=> ?_,fun i _ _=>hD i,hH.nos⟩
 ·by_cases hi:∃k,i=enc f k
  ·obtain⟨k,rfl⟩:=hi;refine hH.fresh _ ?_;rw[awZ (bvZ f k),cVZ,atZ hk];exact hk
  ·rw[(b5Z H f _ i).2 fun k h=>hi ⟨k,h⟩] at h;exact hH.fresh i h
 ·rw[aoZ] at h;by_cases hi:i=famId f
  ·rw[ZAT hi] at h;injection h with h;subst h;rw[hi];exact⟨(bzZ f).1,(bzZ f).2,hs,hc,rfl⟩
  ·rw[ZAQ hi] at h;exact hH.fam i x h
 ·rw[asZ] at h;simp only[ZAp,ZAd] at h;rcases h with rfl|h
  ·exact(bzZ f).2
  ·exact hH.key i h
theorem fCZ{β:Type}{g:Gh}{st:St}{K:St->Option β}{r:β}(h:ghostK P g st K=some r):∃st',ghost P g st=some st'/\K st'=some r:=by
 cases g with
 |pureCell b o=>
  unfold ghostK at h;unfold ghost;dsimp only at h⊢;split at h
  ·rename_i c hg;split at h
   ·rename_i a ha;rw[eGZ] at h;obtain⟨⟨x,H'⟩,h1,h2⟩:=agZ.1 h;rw[h1];simp only at h2⊢;split at h2
    ·exact⟨_,rfl,h2⟩
    ·cases h2
   ·exact⟨_,rfl,h⟩
  ·exact⟨_,rfl,h⟩
 |opn k m=>
  unfold ghostK at h;unfold ghost;dsimp only at h⊢;cases hb:Nat.blt m 10<;>rw[hb] at h<;>simp only[bq_true,bq_false] at h⊢
  ·rw[kbZ] at h;obtain⟨x,h1,h2⟩:=agZ.1 h;rw[h1];exact⟨_,rfl,h2⟩
  ·cases h
 |_=>exact agZ.1 h
theorem kuZ{g:Gh}{st st':St}{a:Act}{w:World}(h:ghost P g st=some st')(hi:Inv z0 N L st a w)(_hL:∀k,((∃e id,g= .ownNil k e id)\/g= .pure k)->∀p∈L,p.1≠k)(hLn:∀p∈L,AV.ids p.2=[]):Inv z0 N L st' a w:=by
 obtain⟨z,rfl,hn,hD,hH,hs,hLs,hdf,hnt,h0⟩:=hi;unfold ghost at h;split at h
 ·rename_i old new;split at h
  ·rename_i e hg;cases hk:(hkey st.hp new||Nat.ble famBase new||Nat.ble famBase old)<;>rw[hk] at h<;>simp only[bq_true,bq_false] at h
   ·simp only[ZAI] at h;subst h;simp only[ZBE] at hk;have hlow:∀{n:Nat},Nat.ble famBase n=false->n<famBase:=fun{n} h=>ZBK.1 fun h'=>by rw[ZAi h'] at h;cases h
    obtain⟨z',q1,q2,q3,q4⟩:=oSZ hH hg hk.1.1 (hlow hk.1.2) (hlow hk.2) (hD new);have kp:=q3.kp hH.sub;refine⟨z',q1,hn.trans q3,fun id=>by rw[q3.dom];exact hD id,q2,fun t=> ?_,fun p hp=>(hLs p hp).kp kp,hdf,hnt,h0⟩;show ARep z' ((st.tm.ren (renF old new)).get t) _;rw[Tr.ren_get];exact q4 _ _ (hs t)
   ·cases h
  ·cases h
 ·rename_i k;obtain⟨⟨x,H'⟩,h1,h2⟩:=ZAH.1 h;subst h2;obtain⟨z',q1,q2,q3,q4,q5⟩:=eDZ hH h1 (hs k);have kp:=q3.kp hH.sub;refine⟨z',q1,hn.trans q3,fun id=>by rw[q3.dom];exact hD id,q2,fun t=> ?_,fun p hp=>(hLs p hp).kp kp,hdf,hnt,h0⟩;show ARep z' ((st.tm.put k x).get t) _;by_cases ht:t=k
  ·subst ht;rcases(Tr.get_put st.tm t x t).2 with e|e<;>rw[e]
   ·exact q5
   ·exact .junk _
  ·rw[(Tr.get_put st.tm k x t).1 ht];exact(hs t).kp kp
 ·rename_i k;simp only[ZAI] at h;subst h;obtain⟨z',q1,q2,q3,q4⟩:=mUZ (st.tm.get k) hH;have kp:=q3.kp hH.sub;exact⟨z',q1,hn.trans q3,fun id=>by rw[q3.dom];exact hD id,q2,fun t=>(hs t).kp kp,fun p hp=>(hLs p hp).kp kp,hdf,hnt,h0⟩
 ·rename_i id;simp only[ZAI] at h;subst h;obtain⟨z',q1,q2,q3,q4⟩:=klZ id hH;have kp:=q3.kp hH.sub;exact⟨z',q1,hn.trans q3,fun id=>by rw[q3.dom];exact hD id,q2,fun t=>(hs t).kp kp,fun p hp=>(hLs p hp).kp kp,hdf,hnt,h0⟩
 ·rename_i b o;split at h
  ·rename_i c hg;split at h
   ·rename_i x hc;split at h
    ·rename_i y H' hp;split at h
     ·rename_i c' hg';simp only[ZAI] at h;subst h;have hblow:b<famBase:=hH.fam b _ hg;have hb0:=hH.ent b _ (by rw[aqZ hblow];exact hg);unfold ERep at hb0;cases hρ:z.ρ b with
      |no=>rw[hρ] at hb0;exact hb0.elim
      |virt=>rw[hρ] at hb0;exact hb0.elim
      |real g sz n=>
       rw[hρ] at hb0;obtain⟨_,_,_,cs,e',fr,a1,a2,a3,⟨a4,an⟩,a5,a6⟩:=hb0;have ho:o<c.length:=(ZAC.1 hc).1;obtain⟨v,hv⟩:∃v,cs[o]? =some v:=⟨_,ZA7 (by omega)⟩;obtain⟨z1,p1,p2,p3,p4,p5⟩:=eDZ hH hp (a5 o x v hc hv);have kp:=p3.kp hH.sub;have hρ1:z1.ρ b= .real g sz n:=by rw[p4];exact hρ
       obtain⟨r1,r2⟩:=p2.write (w':=z1.w) (b:=.vars (c.set o y)) hg' hρ1 rfl ⟨rfl,ZAM _⟩ rfl rfl (fun _ _=>rfl) (fun _=>by
        refine⟨cs,e',fr,by rw[p1];exact a1,a2,a3,⟨by simpa using a4,an⟩,fun i x' v' q1 q2=> ?_,a6⟩;rw[List.getElem?_set] at q1;split at q1
        ·rename_i hoi;subst hoi;rw[hv] at q2;simp only[ZAI] at q2;subst q2;have:y=x':=by simpa[ho] using q1
         subst this;exact p5
        ·exact(a5 i x' v' q1 q2).kp kp)
       exact⟨z1,p1,hn.trans p3,fun id=>by rw[p3.dom];exact hD id,r1,fun t=>(hs t).kp kp,fun p hp=>(hLs p hp).kp kp,hdf,hnt,h0⟩
     ·cases h
    ·simp only[ZAI] at h;subst h;exact⟨z,rfl,hn,hD,hH,hs,hLs,hdf,hnt,h0⟩
   ·simp only[ZAI] at h;subst h;exact⟨z,rfl,hn,hD,hH,hs,hLs,hdf,hnt,h0⟩
  ·simp only[ZAI] at h;subst h;exact⟨z,rfl,hn,hD,hH,hs,hLs,hdf,hnt,h0⟩
 ·rename_i k e id;split at h
  ·rename_i hq;obtain⟨u,h1,h2⟩:=agZ.1 h;cases hk:(hkey st.hp id||Nat.ble famBase id)<;>rw[hk] at h2<;>simp only[bq_true,bq_false] at h2
   ·simp only[ZAI] at h2;subst h2;simp only[ZBE] at hk;have hlow:id<famBase:=ZBK.1 fun h'=>by rw[ZAi h'] at hk;cases hk.2
    obtain⟨z1,p1,p2,p3,p4⟩:=hH.newV ⟨hk.1,hlow⟩ (hD id) (b:=.rows e u []) ⟨rfl,(cmZ h1).2.1⟩;have kp:=p3.kp hH.sub;have hv:=hs k;rw[hq] at hv;have hv:=hv.v.opq.1;refine⟨z1,p1,hn.trans p3,fun id=>by rw[p3.dom];exact hD id,p2,fun t=> ?_,fun p hp=>(hLs p hp).kp kp,hdf,hnt,h0⟩;by_cases ht:t=k
    ·subst ht;show ARep z1 ((st.tm.put t (.slf u.cells id)).get t) _;rcases(Tr.get_put st.tm t (.slf u.cells id) t).2 with e|e<;>rw[e]
     ·rw[hv];exact .slfV _ _ _ p4
     ·exact .junk _
    ·show ARep z1 ((st.tm.put k (.slf u.cells id)).get t) _;rw[(Tr.get_put st.tm k (.slf u.cells id) t).1 ht];exact(hs t).kp kp
   ·cases h2
  ·simp only[ZAI] at h;subst h;exact⟨z,rfl,hn,hD,hH,hs,hLs,hdf,hnt,h0⟩
 ·rename_i b o e id;split at h
  ·rename_i c hg;split at h
   ·rename_i hc;obtain⟨u,h1,h2⟩:=agZ.1 h;cases hk:(hkey st.hp id||Nat.ble famBase id)<;>rw[hk] at h2<;>simp only[bq_true,bq_false] at h2
    ·simp only[ZAI] at h2;subst h2;simp only[ZBE] at hk;have hlow:id<famBase:=ZBK.1 fun h'=>by rw[ZAi h'] at hk;cases hk.2
     replace hk:=hk.1
     obtain⟨z1,p1,p2,p3,p4⟩:=hH.newV ⟨hk,hlow⟩ (hD id) (b:=.rows e u []) ⟨rfl,(cmZ h1).2.1⟩;have kp:=p3.kp hH.sub;have hbi:b≠id:=fun h=>by subst h;rw[ahZ hg] at hk;cases hk
     have hg1:hget (hset st.hp id (some ⟨false,.rows e u []⟩)) b=some ⟨false,.vars c⟩:=by rw[aoZ,ZAQ hbi];exact hg
     have hblow:b<famBase:=hH.fam b _ hg;have hb0:=p2.ent b _ (by rw[aqZ hblow];exact hg1);have hsame:∀H1 H2:Hp,H1=hset (hset st.hp b (some ⟨false,.vars (c.set o (.slf u.cells id))⟩)) id (some ⟨false,.rows e u []⟩)->H2=hset (hset st.hp id (some ⟨false,.rows e u []⟩)) b (some ⟨false,.vars (c.set o (.slf u.cells id))⟩)->
      (∀i,hget H1 i=hget H2 i)/\∀i,hkey H1 i=hkey H2 i:=by
      rintro _ _ rfl rfl;refine⟨fun i=> ?_,fun i=> ?_⟩
      ·simp only[aoZ];by_cases h1:i=id
       ·subst h1;simp[ZBd hbi]
       ·simp[h1]
      ·simp only[asZ];cases decide (i=id)<;>cases decide (i=b)<;>rfl
     obtain⟨s1,s2⟩:=hsame _ _ rfl rfl;unfold ERep at hb0;cases hρ:z1.ρ b with
     |no=>rw[hρ] at hb0;exact hb0.elim
     |virt=>rw[hρ] at hb0;exact hb0.elim
     |real g sz n=>
      rw[hρ] at hb0;obtain⟨_,_,_,cs,e',fr,a1,a2,a3,⟨a4,an⟩,a5,a6⟩:=hb0;obtain⟨r1,r2⟩:=p2.write (w':=z1.w) (b:=.vars (c.set o (.slf u.cells id))) hg1 hρ rfl ⟨rfl,ZAM _⟩ rfl rfl (fun _ _=>rfl) (fun _=>by
       refine⟨cs,e',fr,a1,a2,a3,⟨by simpa using a4,an⟩,fun i x v q1 q2=> ?_,a6⟩;rw[List.getElem?_set] at q1;split at q1
       ·rename_i hoi;subst hoi;split at q1
        ·simp only[ZAI] at q1;subst q1;have:=a5 o _ v hc q2;obtain rfl:=this.v.opq.1;exact .slfV _ _ _ p4
        ·cases q1
       ·exact a5 i x v q1 q2)
      exact⟨z1,p1,hn.trans p3,fun id=>by rw[p3.dom];exact hD id,r1.same s1 s2,fun t=>(hs t).kp kp,fun p hp=>(hLs p hp).kp kp,hdf,hnt,h0⟩
    ·cases h2
   ·simp only[ZAI] at h;subst h;exact⟨z,rfl,hn,hD,hH,hs,hLs,hdf,hnt,h0⟩
  ·simp only[ZAI] at h;subst h;exact⟨z,rfl,hn,hD,hH,hs,hLs,hdf,hnt,h0⟩
 ·rename_i f e s;cases hk:(hkey st.hp (famId f)|| !s.noRef||Nat.beq s.cells 0)<;>rw[hk] at h<;>simp only[bq_true,bq_false] at h
  ·simp only[ZAI] at h;subst h;simp only[ZBE,Bool.not_eq_false'] at hk;have hc:0<s.cells:=Nat.pos_of_ne_zero fun h=>by rw[(acZ _ _).2 h] at hk;cases hk.2
   exact⟨z,rfl,hn,hD,hH.newFam hD hk.1.1 hk.1.2 hc,hs,hLs,hdf,hnt,h0⟩
  ·cases h
 ·rename_i k f;split at h
  ·rename_i e s ms hg;obtain⟨⟨x,H'⟩,h1,h2⟩:=ZAH.1 h;subst h2;obtain⟨z',q1,q2,q3,q5⟩:=j0Z hH h1 (hs k);have kp:=q3.kp hH.sub;refine⟨z',q1,hn.trans q3,fun id=>by rw[q3.dom];exact hD id,q2,fun t=> ?_,fun p hp=>(hLs p hp).kp kp,hdf,hnt,h0⟩;show ARep z' ((st.tm.put k x).get t) _;by_cases ht:t=k
   ·subst ht;rcases(Tr.get_put st.tm t x t).2 with e|e<;>rw[e]
    ·exact q5
    ·exact .junk _
   ·rw[(Tr.get_put st.tm k x t).1 ht];exact(hs t).kp kp
  ·cases h
 ·rename_i k m;cases hb:Nat.blt m 10<;>rw[hb] at h<;>simp only[bq_true,bq_false] at h
  ·obtain⟨⟨x,H'⟩,h1,h2⟩:=ZAH.1 h;subst h2;have hm:¬m<10:=fun hc=>by rw[show Nat.blt m 10=true from ZAi hc] at hb;cases hb
   obtain⟨z',Mf,q1,q2,q3,q4,q5,q6⟩:=miZ hH (.inr (hD _)) h1 (hs k);have q6:=q6 (by omega);subst q6;have kp:=q3.kp hH.sub;refine⟨z',q1,hn.trans q3,fun id=>by rw[q3.dom];exact hD id,q2,fun t=> ?_,fun p hp=>(hLs p hp).kp kp,hdf,hnt,h0⟩;show ARep z' ((st.tm.put k x).get t) _;by_cases ht:t=k
   ·subst ht;rcases(Tr.get_put st.tm t x t).2 with e|e<;>rw[e]
    ·exact q5
    ·exact .junk _
   ·rw[(Tr.get_put st.tm k x t).1 ht];exact(hs t).kp kp
  ·cases h
 ·rename_i id t;split at h
  ·rename_i e u l hg;rcases aFZ h with⟨hu,h'⟩|h'
   ·subst hu;have:=ZAk h';subst this;exact⟨z,rfl,hn,hD,hH.reent (hH.fam id _ hg) hg nwZ (show id<famBase from hH.fam id _ hg),hs,hLs,hdf,hnt,h0⟩
   ·cases h'
  ·cases h
def AC.of:AC->Code->Prop
 |.skip,c=>c= .skip
 |.ret,c=>c= .ret
 |.exit i,c=>c= .exit i
 |.seq a b,c=>∃x y,c= .seq x y/\a.of x/\b.of y
 |.cond o a b,c=>∃x y,c= .cond o x y/\a.of x/\b.of y
 |.block i a,c=>∃x,c= .block i x/\a.of x
 |.loop _ _ _ a,c=>∃x,c= .loop x/\a.of x
 |.region i ops d,c=>∃arr,c= .region i arr d/\ops.map (·.1)=arr.toList
 |.join _ _ _ a,c=>a.of c
 |.pre _ a,c=>a.of c
 |.sel _ a b,c=>a.of c/\b.of c
 |.post _ a,c=>a.of c
 |.round a r,c=>∃x,c= .loop x/\a.of x/\r.of c
 |.bad _,_=>True
theorem elZ(l:List (Nat×Ann)):∀(k:Nat) (ops:List Oper),(annOps l k ops).map (·.1)=ops
 |_,[]=>rfl
 |k,o::r=>by simp[annOps,elZ l (k+1) r]
theorem bgZ:(c:Code)->(plain c).of c
 |.ret=>rfl
 |.exit i=>rfl
 |.seq a b=>⟨a,b,rfl,bgZ a,bgZ b⟩
 |.cond o a b=>⟨a,b,rfl,bgZ a,bgZ b⟩
 |.block i a=>⟨a,rfl,bgZ a⟩
 |.region i ops d=>⟨ops,rfl,elZ _ _ _⟩
 |.skip=>rfl
 |.loop _|.rangeFunc _ _ _ _|.scope _|.label _|.goto _|.refuse _=>trivial
theorem aTZ:(ov:Ov)->(c:Code)->(build ov c).of c
 |.join sh rt outs x,c=>aTZ x c
 |.pre g x,c=>aTZ x c
 |.sel q x y,c=>⟨aTZ x c,aTZ y c⟩
 |.post g x,c=>aTZ x c
 |.round x y,c=>by cases c<;>first|exact⟨_,rfl,aTZ x _,aTZ y _⟩|exact bgZ _
 |.one x,c=>by cases c<;>first|exact⟨_,rfl,aTZ x _⟩|exact bgZ _
 |.two x y,c=>by cases c<;>first|exact⟨_,_,rfl,aTZ x _,aTZ y _⟩|exact bgZ _
 |.loop sh rt outs x,c=>by cases c<;>first|exact⟨_,rfl,aTZ x _⟩|exact bgZ _
 |.reg l,c=>by cases c<;>first|exact⟨_,rfl,elZ _ _ _⟩|exact bgZ _
 |.leaf,c=>bgZ c
theorem Inv.drew{st:St}{a:Act}{w:World}(hi:Inv z0 N L st a w):Inv z0 N L st a {w with drawn:=w.drawn+1}:=by
 obtain⟨z,rfl,hn,hD,hH,hs,hLs,hdf,hnt,h0⟩:=hi
 let z1:Z:={z with w:={z.w with drawn:=z.w.drawn+1}}
 have hn1:Nx z z1:=⟨rfl,⟨rfl,ZBb _⟩,rfl,ZAM _,fun _ _ _=>rfl,fun _ h=>.inl h,fun _ h=>.inl h,fun _ _ h _=>h,fun _ _=>rfl,rfl⟩;have kp:=hn1.kp hH.sub;exact⟨z1,rfl,hn.trans hn1,hD,⟨fun id e he=>(hH.ent id e he).kp kp fun _ _ _ _=>⟨rfl,fun h=>h⟩,hH.inj,hH.fresh,hH.sub,hH.fam,hH.key,hH.dyn,hH.nos⟩,fun t=>(hs t).kp kp,fun p hp=>(hLs p hp).kp kp,hdf,hnt,h0⟩
end
end Go.Ab
namespace Go.Ab
section
variable {P : Program} {T : Tbl} {N fu : Nat}
theorem mMZ{z0:Z}{L:List (Nat×AV)}{st:St}{a:Act}{w:World}(hi:Inv z0 N L st a w)(hLn:∀p∈L,AV.ids p.2=[])(wr:List Nat)(hLw:∀p∈L,p.1∉wr):
 ∃L',(∀p∈L,p∈L')/\Inv z0 N L' st a w/\(∀p∈L',AV.ids p.2=[])/\(∀k,((st.tm.keep).junk wr).get k= .junk\/(k,((st.tm.keep).junk wr).get k)∈L')/\∀p∈L',p.1∉wr:=by
 obtain⟨n,hn⟩:=gQZ ((st.tm.keep).junk wr);have hget:∀k,k∉wr->((st.tm.keep).junk wr).get k= .junk\/(((st.tm.keep).junk wr).get k=st.tm.get k/\(st.tm.get k).noRef=true):=fun k hk=>by
  rw[(heZ wr st.tm.keep k).2 hk];exact gGZ st.tm k
 let ex:List (Nat×AV):=(List.range n).filterMap fun k=>if memN k wr=true then none else some (k,((st.tm.keep).junk wr).get k)
 have hex:∀p∈ex,p.1∉wr/\p.2=((st.tm.keep).junk wr).get p.1:=fun p hp=>by
  obtain⟨k,_,h⟩:=List.mem_filterMap.1 hp;split at h
  ·cases h
  ·rename_i hm;simp only[ZAI] at h;subst h;exact⟨fun h=>hm (aiZ.2 h),rfl⟩
 refine⟨L++ex,fun p hp=>ZBc _ hp,?_,fun p hp=> ?_,fun k=> ?_,fun p hp=> ?_⟩
 ·obtain⟨z,rfl,hn',hD,hH,hs,hLs,hdf,hnt,h0⟩:=hi;refine⟨z,rfl,hn',hD,hH,hs,fun p hp=> ?_,hdf,hnt,h0⟩;rcases ZAh.1 hp with hp|hp
  ·exact hLs p hp
  ·obtain⟨h1,h2⟩:=hex p hp;rw[h2];rcases hget p.1 h1 with e|⟨e,_⟩<;>rw[e]
   ·exact .junk _
   ·exact hs p.1
 ·rcases ZAh.1 hp with hp|hp
  ·exact hLn p hp
  ·obtain⟨h1,h2⟩:=hex p hp;rw[h2];rcases hget p.1 h1 with e|⟨e,h3⟩<;>rw[e]
   ·rfl
   ·exact nuZ h3
 ·by_cases hk:k∈wr
  ·exact .inl ((heZ wr st.tm.keep k).1 hk)
  ·by_cases hlt:k<n
   ·right;refine List.mem_append_right _ (List.mem_filterMap.2 ⟨k,ZCC.2 hlt,?_⟩);rw[ZAQ fun h=>hk (aiZ.1 h)]
   ·exact .inl (hn k (by omega))
 ·rcases ZAh.1 hp with hp|hp
  ·exact hLw p hp
  ·exact(hex p hp).1
theorem mmZ{β γ:Type}{rt:Bool}{outs:List (Nat×LShp)}{b:β}{K:Out rt outs β->Option γ}{r:γ}(h:Out.retO rt outs b K=some r):
 ∃o,K o=some r/\∀(base:Tr) (nt n0:Nat) (X:Nat->St->Option β) (R:β->Option β),Out.on base nt n0 rt outs o X R=R b:=by
 cases rt with
 |false=>cases h
 |true=>exact⟨_,h,fun base nt n0 X R=>Out.on_ret⟩
def AC.nr:AC->Nat
 |.round _ r=>r.nr+1
 |_=>0
def Gl(P:Program)(ac:AC)(c:Code)(Q:Exit->Act->World->Prop)(a:Act)(w:World):Prop:=
 match ac with
 |.round x r=>∃cx,c= .loop cx/\Code.rounds P cx Q (AC.nr (.round x r)) a w
 |_=>c.wp P Q a w
theorem Gl.wp{ac:AC}{c:Code}{Q:Exit->Act->World->Prop}{a:Act}{w:World}(h:Gl P ac c Q a w):c.wp P Q a w:=by
 cases ac
 case round x y=>
  obtain⟨cx,rfl,h⟩:=h;exact wp_loop_rounds _ h
 all_goals exact h
theorem bMZ(hT:∀e∈T,Told P e)(hm:P.follows .mixedOrders=true):(ac:AC)->{z0:Z}->{β:Type}->{st:St}->{K:St->Option β}->{X:Nat->St->Option β}->{R:St->Option β}->{res:β}->{c:Code}->{L:List (Nat×AV)}->{a:Act}->{w:World}->
 {Q:Exit->Act->World->Prop}->evS P T fu ac st K X R=some res->ac.of c->Inv z0 N L st a w->(∀p∈L,AV.ids p.2=[])->(∀p∈L,p.1∉ac.wr)->
 (∀st' a' w',K st'=some res->Inv z0 N L st' a' w'->Q .normal a' w')->(∀i st' a' w',X i st'=some res->Inv z0 N L st' a' w'->Q (.exit i) a' w')->
 (∀st' a' w',R st'=some res->Inv z0 N L st' a' w'->Q .ret a' w')->Gl P ac c Q a w
 |.skip,z0,β,st,K,X,R,res,c,L,a,w,Q,h,hc,hi,hLn,hLw,hK,hX,hR=>by
  obtain rfl:=hc;exact wp_skip (hK _ _ _ h hi)
 |.ret,z0,β,st,K,X,R,res,c,L,a,w,Q,h,hc,hi,hLn,hLw,hK,hX,hR=>by
  obtain rfl:=hc;exact wp_ret (hR _ _ _ h hi)
 |.exit i,z0,β,st,K,X,R,res,c,L,a,w,Q,h,hc,hi,hLn,hLw,hK,hX,hR=>by
  obtain rfl:=hc;exact wp_exit (hX _ _ _ _ h hi)
 |.seq x y,z0,β,st,K,X,R,res,c,L,a,w,Q,h,hc,hi,hLn,hLw,hK,hX,hR=>by
  obtain⟨cx,cy,rfl,h1,h2⟩:=hc;simp only[AC.wr,ZAh,not_or] at hLw;refine wp_seq (Gl.wp (bMZ hT hm x h h1 hi hLn (fun p hp=>(hLw p hp).1) (fun st' a' w' h' hi'=> ?_) hX hR));exact Gl.wp (bMZ hT hm y h' h2 hi' hLn (fun p hp=>(hLw p hp).2) hK hX hR)
 |.cond o x y,z0,β,st,K,X,R,res,c,L,a,w,Q,h,hc,hi,hLn,hLw,hK,hX,hR=>by
  obtain⟨cx,cy,rfl,h1,h2⟩:=hc;simp only[AC.wr,ZAh,not_or] at hLw;obtain⟨t,h3,h4⟩:=agZ.1 h;have hb:a.eval o= .bool t:=by
   obtain⟨z,_,_,_,_,hs,_⟩:=hi;exact b2Z h3 (dfZ hs o)
  cases t
  ·exact wp_cond_false hb (Gl.wp (bMZ hT hm y h4 h2 hi hLn (fun p hp=>(hLw p hp).2) hK hX hR))
  ·exact wp_cond_true hb (Gl.wp (bMZ hT hm x h4 h1 hi hLn (fun p hp=>(hLw p hp).1) hK hX hR))
 |.block i x,z0,β,st,K,X,R,res,c,L,a,w,Q,h,hc,hi,hLn,hLw,hK,hX,hR=>by
  obtain⟨cx,rfl,h1⟩:=hc;refine wp_block (Gl.wp (bMZ hT hm x h h1 hi hLn hLw hK (fun j st' a' w' h' hi'=> ?_) hR));show if j=i then Q .normal a' w' else Q (.exit j) a' w';by_cases hj:j=i
  ·rw[(acZ j i).2 hj,bq_true] at h';rw[ZAT hj];exact hK _ _ _ h' hi'
  ·rw[afZ hj,bq_false] at h';rw[ZAQ hj];exact hX _ _ _ _ h' hi'
 |.region i opsA d,z0,β,st,K,X,R,res,c,L,a,w,Q,h,hc,hi,hLn,hLw,hK,hX,hR=>by
  obtain⟨arr,rfl,h1⟩:=hc;have hLd:∀x∈opsA,∀p∈L,x.1.dst≠some p.1:=fun x hx p hp he=>hLw p hp (by
   simp only[AC.wr];exact List.mem_filterMap.2 ⟨x,hx,he⟩)
  have hsz:opsA.length=arr.size:=by
   have:=congrArg List.length h1;simpa using this
  have h:bq d (need (edgesOk 0 (opsA.map (·.1))&&nmsOk (nms (clos 0 (opsA.map (·.1)) []) (opsA.map (·.1)) 0 (opsA.map (·.1))))<|evOpsD P T (numb 0 opsA) (opsA.map (·.1)) st [] fun st' fs=>need (pairsOk (clos 0 (opsA.map (·.1)) []) fs)<|K st') (evOps P T opsA (opsA.map (·.1)) st K)=some res:=h
  rw[h1] at h;cases d
  ·rw[bq_false] at h;refine wp_region ?_;have:=pcZ hT hK opsA 0 (fun i x hx=>by
    have e:(opsA.map (·.1))[i]? =some x.1:=by rw[ZAW,hx];rfl
    rw[h1] at e;rw[ZAj,<-Array.getElem?_toList];exact e) hLd st a w h hi
   rw[List.range_eq_range',<-hsz];exact this
  ·rw[bq_true] at h;obtain⟨h2,h3⟩:=aeZ.1 h;simp only[ZAB] at h2;exact wp_region_any hm (poZ hT h1 hLd hK h2.1 h2.2 h3 hi.drew)
 |.join sh rt outs x,z0,β,st,K,X,R,res,c,L,a,w,Q,h,hc,hi,hLn,hLw,hK,hX,hR=>by
  obtain⟨o,h1,h2⟩:=ZAF.1 h;obtain⟨L',q1,q2,q3,q4,q5⟩:=mMZ hi hLn x.wr hLw;obtain⟨_,_,_,_,_,_,_,_,hnt,h0⟩:=hi;refine Gl.wp (bMZ hT hm x h1 hc q2 q3 q5 (fun st' a' w' h' hi'=> ?_) (fun i st' a' w' h' hi'=> ?_) (fun st' a' w' h' hi'=> ?_))
  ·obtain⟨o',e1,e2⟩:=Out.on_inl h' hi' q3 q4 hnt.1 h0;simp only[ZAI] at e1;subst e1;obtain⟨st1,e3,e4⟩:=e2 (fun i st''=>match i with|0=>K st''|i+1=>X i st'') some
   exact hK st1 a' w' (e4.symm.trans h2) (e3.sub q1)
  ·obtain⟨o',e1,e2⟩:=Out.on_inl h' hi' q3 q4 hnt.1 h0;simp only[ZAI] at e1;subst e1;obtain⟨st1,e3,e4⟩:=e2 (fun i st''=>match i with|0=>K st''|i+1=>X i st'') some
   exact hX i st1 a' w' (e4.symm.trans h2) (e3.sub q1)
  ·obtain⟨b,e1,e2⟩:=agZ.1 h';obtain⟨o',e3,e4⟩:=mmZ e2;simp only[ZAI] at e3;subst e3;have:some b=some res:=(e4 _ _ _ _ _).symm.trans h2;exact hR st' a' w' (e1.trans this) (hi'.sub q1)
 |.pre g x,z0,β,st,K,X,R,res,c,L,a,w,Q,h,hc,hi,hLn,hLw,hK,hX,hR=>by
  obtain⟨st1,h1,h2⟩:=fCZ h;have hg:Inv z0 N L st1 a w:=kuZ h1 hi (fun k he p hp hk=>hLw p hp (by
   rcases he with⟨e,id,he⟩|he
   ·subst he;simp[AC.wr,hk]
   ·subst he;simp[AC.wr,hk])) hLn
  refine Gl.wp (bMZ hT hm x h2 hc hg hLn (fun p hp hmem=>hLw p hp ?_) hK hX hR);cases g with
  |ownNil k e id=>exact ZAb _ hmem
  |pure k=>exact ZAb _ hmem
  |mem k f=>exact ZAb _ hmem
  |opn k m=>exact ZAb _ hmem
  |_=>exact hmem
 |.sel q x y,z0,β,st,K,X,R,res,c,L,a,w,Q,h,hc,hi,hLn,hLw,hK,hX,hR=>by
  simp only[AC.wr,ZAh,not_or] at hLw;have h:bq (Cn.holds st q) (evS P T fu x st K X R) (evS P T fu y st K X R)=some res:=h;cases hf:Cn.holds st q<;>rw[hf] at h
  ·exact Gl.wp (bMZ hT hm y h hc.2 hi hLn (fun p hp=>(hLw p hp).2) hK hX hR)
  ·exact Gl.wp (bMZ hT hm x h hc.1 hi hLn (fun p hp=>(hLw p hp).1) hK hX hR)
 |.bad c',z0,β,st,K,X,R,res,c,L,a,w,Q,h,hc,hi,hLn,hLw,hK,hX,hR=>by cases h
 |.post g x,z0,β,st,K,X,R,res,c,L,a,w,Q,h,hc,hi,hLn,hLw,hK,hX,hR=>by
  refine Gl.wp (bMZ hT hm x h hc hi hLn (fun p hp hmem=>hLw p hp ?_) (fun st' a' w' h' hi'=> ?_) hX hR)
  ·cases g with
   |ownNil k e id=>exact ZAb _ hmem
   |pure k=>exact ZAb _ hmem
   |mem k f=>exact ZAb _ hmem
   |opn k m=>exact ZAb _ hmem
   |_=>exact hmem
  ·obtain⟨st1,h1,h2⟩:=fCZ h';refine hK st1 a' w' h2 (kuZ h1 hi' (fun k he p hp hk=>hLw p hp ?_) hLn);rcases he with⟨e,id,he⟩|he
   ·subst he;simp[AC.wr,hk]
   ·subst he;simp[AC.wr,hk]
 |.round x y,z0,β,st,K,X,R,res,c,L,a,w,Q,h,hc,hi,hLn,hLw,hK,hX,hR=>by
  obtain⟨cx,rfl,h1,h2⟩:=hc;simp only[AC.wr,ZAh,not_or] at hLw;obtain⟨h3,h4⟩:=aeZ.1 h;refine⟨cx,rfl,Gl.wp (bMZ hT hm x h4 h1 hi hLn (fun p hp=>(hLw p hp).1) (fun st' a' w' h' hi'=> ?_) (fun i st' a' w' h' hi'=>hX i st' a' w' h' hi') (fun st' a' w' h' hi'=>hR st' a' w' h' hi'))⟩;have hy:=bMZ hT hm y h' h2 hi' hLn (fun p hp=>(hLw p hp).2) hK hX hR;cases y with
  |round x' y'=>
   obtain⟨cx',e,hn⟩:=hy;injection e with e;subst e;exact hn
  |bad c'=>cases h'
  |_=>cases h3
 |.loop sh rt outs x,z0,β,st,K,X,R,res,c,L,a,w,Q,h,hc,hi,hLn,hLw,hK,hX,hR=>by
  obtain⟨cx,rfl,h1⟩:=hc;obtain⟨L',q1,q2,q3,q4,q5⟩:=mMZ hi hLn x.wr hLw;obtain⟨t0,p1,p2⟩:=iZZ (r:=res) h q2 q3 q4 (nt:=st.nt) (n0:=st.n0) (by obtain⟨_,_,_,_,_,_,_,_,hnt,_⟩:=hi;exact hnt.1) (by obtain⟨_,_,_,_,_,_,_,_,_,h0⟩:=hi;exact h0);obtain⟨_,_,_,_,_,_,_,_,hnt,h0⟩:=hi;obtain⟨o,r1,r2⟩:=ZAF.1 p1;generalize hbase:(st.tm.keep).junk x.wr=base at*;generalize hf:(fun t=>evS P T fu (β:=sh.D⊕Out rt outs β) x (sh.inj base st.nt st.n0 t) (fun st''=>st''.prj sh fun t'=>some (.inl t'))
   (fun i st''=>Out.mk st'' rt outs i fun o=>some (.inr o))
   (fun st''=>(R st'').ob fun b=>Out.retO rt outs b fun o=>some (.inr o)))=f at*
  let p:Act->World->Nat->Prop:=fun a' w' n=>∃t,iter n f t=some o/\Inv z0 N L' (sh.inj base st.nt st.n0 t) a' w'
  classical
  let μ:Act->World->Nat:=fun a' w'=>if h:∃n,p a' w' n then Classical.choose (q2Z h) else 0
  have hμ:∀a' w' n,p a' w' n->μ a' w'<=n/\p a' w' (μ a' w'):=fun a' w' n hn=>by
   have hex:∃n,p a' w' n:=⟨n,hn⟩;have e:μ a' w'=Classical.choose (q2Z hex):=dif_pos hex;have hs:=Classical.choose_spec (q2Z hex);rw[e];exact⟨hs.2 n hn,hs.1⟩
  refine wp_loop (fun a' w'=>∃n,p a' w' n) μ ⟨fu,t0,r1,p2⟩ fun a1 w1 ⟨n1,hn1⟩=> ?_;obtain⟨_,t,ht,hit⟩:=hμ a1 w1 n1 hn1;obtain⟨m,hm'⟩:∃m,μ a1 w1=m+1:=by
   cases hz:μ a1 w1 with
   |zero=>rw[hz] at ht;cases ht
   |succ m=>exact⟨m,rfl⟩
  rw[hm'] at ht⊢;obtain⟨r,ht1,ht2⟩:=agZ.1 (show(f t).ob _=some o from ht);have hft:evS P T fu (β:=sh.D⊕Out rt outs β) x (sh.inj base st.nt st.n0 t) (fun st''=>st''.prj sh fun t'=>some (.inl t'))
   (fun i st''=>Out.mk st'' rt outs i fun o=>some (.inr o))
   (fun st''=>(R st'').ob fun b=>Out.retO rt outs b fun o=>some (.inr o))=some r:=by rw[<-ht1,<-hf]
  refine Gl.wp (bMZ hT hm x hft h1 hit q3 q5 (fun st' a' w' h' hi'=> ?_) (fun i st' a' w' h' hi'=> ?_) (fun st' a' w' h' hi'=> ?_))
  ·obtain⟨t',e1,e2⟩:=iZZ h' hi' q3 q4 (nt:=st.nt) (n0:=st.n0) hnt.1 h0;simp only[ZAI] at e1;subst e1;have hp:p a' w' m:=⟨t',ht2,e2⟩;exact⟨⟨m,hp⟩,Nat.lt_succ_of_le (hμ a' w' m hp).1⟩
  ·obtain⟨o',e1,e2⟩:=Out.on_inl h' hi' q3 q4 (nt:=st.nt) (n0:=st.n0) hnt.1 h0;simp only[ZAI] at e1;subst e1;simp only[ZAI] at ht2;subst ht2;obtain⟨st1,e3,e4⟩:=e2 X some;exact hX i st1 a' w' (e4.symm.trans r2) (e3.sub q1)
  ·obtain⟨b,e1,e2⟩:=agZ.1 h';obtain⟨o',e3,e4⟩:=mmZ e2;simp only[ZAI] at e3;subst e3;simp only[ZAI] at ht2;subst ht2;have:some b=some res:=(e4 _ _ _ _ _).symm.trans r2;exact hR st' a' w' (e1.trans this) (hi'.sub q1)
theorem ruZ{z0:Z}(hT:∀e∈T,Told P e)(hm:P.follows .mixedOrders=true)(ac:AC){β:Type}{st:St}{K:St->Option β}{X:Nat->St->Option β}{R:St->Option β}{res:β}{c:Code}{L:List (Nat×AV)}{a:Act}{w:World}
 {Q:Exit->Act->World->Prop}(h:evS P T fu ac st K X R=some res)(hc:ac.of c)(hi:Inv z0 N L st a w)(hLn:∀p∈L,AV.ids p.2=[])(hLw:∀p∈L,p.1∉ac.wr)
 (hK:∀st' a' w',K st'=some res->Inv z0 N L st' a' w'->Q .normal a' w')(hX:∀i st' a' w',X i st'=some res->Inv z0 N L st' a' w'->Q (.exit i) a' w')
 (hR:∀st' a' w',R st'=some res->Inv z0 N L st' a' w'->Q .ret a' w'):c.wp P Q a w:=(Gl.wp (bMZ hT hm ac h hc hi hLn hLw hK hX hR))
end
end Go.Ab
namespace Go.Ab
section
variable {P : Program} {T : Tbl} {β : Type} {z : Z} {H : Hp}
theorem hwZ:∀(d k:Nat),(Tr.full d).get k= .junk
 |0,k=>rfl
 |d+1,k=>by
  simp only[Tr.full,Tr.get];cases Nat.beq k 0
  ·cases Nat.beq (k%2) 1
   ·exact hwZ d _
   ·exact hwZ d _
  ·rfl
theorem iAZ{f:Nat->Value}:∀{vs:List AV} {k0:Nat} {t:Tr},(∀k,ARep z (t.get k) (f k))->(∀(j:Nat) a,vs[j]? =some a->ARep z a (f (k0+j)))->∀k,ARep z ((initTm t k0 vs).get k) (f k)
 |[],k0,t,h,_,k=>h k
 |a::vs,k0,t,h,hv,k=>by
  simp only[initTm];refine iAZ (fun j=> ?_) (fun j a' h'=>by have:=hv (j+1) a' (by simpa using h');rwa [show k0+(j+1)=k0+1+j by omega] at this) k;by_cases hj:j=k0
  ·subst hj;rcases(Tr.get_put t j a j).2 with e|e<;>rw[e]
   ·exact hv 0 a rfl
   ·exact .junk _
  ·rw[(Tr.get_put t k0 a j).1 hj];exact h j
theorem jrZ{t:TypeId}{pv v:Value}{w w':World}(h:(Instr.loadAt t pv).run P w= .ok v w'):((do loadVar t (<-asAddr pv)):Sem Value).run P w= .ok v w':=by
 unfold Instr.loadAt at h;cases pv
 case pointer x=>cases x<;>first|exact h|(simp[Instr.sureAddr,Sem.run_bind] at h;done)
 all_goals(simp[Instr.sureAddr,Sem.run_bind] at h;done)
def resF(tmps:Array Value)(r:ResultVar):Sem Value:=
 match r with
 |.tmp t=>pure (tmps.getD t undef)
 |.cell a t=>do loadVar t (<-asAddr (tmps.getD a undef))
theorem lrZ(fn:Func)(tmps:Array Value):results fn tmps=(do
 let vs<-fn.results.mapM (resF tmps)
 pure (if h:vs.size=1 then vs[0] else .tuple vs)):=rfl
theorem efZ{st:St}{a:Act}(hH:HRep z st.hp)(hs:∀t,ARep z (st.tm.get t) (a.eval (opOf t))):∀{rs:List ResultVar} {K:List AV->Option β} {res:β},loadRes P rs st K=some res->
 ∃l vs,K l=some res/\AReps z l vs/\(rs.mapM (resF a.tmps)).run P z.w= .ok vs z.w
 |[],K,res,h=>⟨[],[],h,.nil,rfl⟩
 |.tmp t::rs,K,res,h=>by
  obtain⟨l,vs,h1,h2,h3⟩:=efZ hH hs (rs:=rs) h;refine⟨_,a.eval (.tmp t)::vs,h1,.cons (dfZ hs (.tmp t)) h2,?_⟩;rw[List.mapM_cons];simp only[resF,Sem.run_bind,Sem.run_pure,Result.andThen_ok,h3]
  rfl
 |.cell x t::rs,K,res,h=>by
  obtain⟨y,v,h1,h2,h3⟩:=hSZ h hH (dfZ hs (.tmp x));obtain⟨l,vs,h4,h5,h6⟩:=efZ hH hs (rs:=rs) h3;refine⟨_,v::vs,h4,.cons h2 h5,?_⟩;rw[List.mapM_cons];have h1':(resF a.tmps (.cell x t)).run P z.w= .ok v z.w:=jrZ h1;rw[Sem.run_bind,h1',Result.andThen_ok,Sem.run_bind,h6]
  rfl
theorem lJZ{st:St}{a:Act}{fn:Func}{K:List AV->Option β}{res:β}(hH:HRep z st.hp)(hs:∀t,ARep z (st.tm.get t) (a.eval (opOf t)))(h:loadRes P fn.results.toList st K=some res):
 ∃l v vs,K l=some res/\AReps z l vs/\(results fn a.tmps).run P z.w= .ok v z.w/\∀{z':Z} {l':List AV},AReps z' l' vs->ARep z' (tupA l') v:=by
 obtain⟨l,vs,h1,h2,h3⟩:=efZ hH hs h;refine⟨l,if h:vs.toArray.size=1 then vs.toArray[0] else .tuple vs.toArray,vs,h1,h2,?_,fun{z' l'} h'=> ?_⟩
 ·rw[lrZ,Array.mapM_eq_mapM_toList,map_eq_pure_bind,Sem.run_bind,Sem.run_bind,h3]
  rfl
 ·have hl:=h'.1
  match vs,l',h',hl with
  |[],[],h',_=>exact .tup [] #[] rfl fun i x v h=>by simp at h
  |[v],[b],h',_=>exact h'.head
  |u::v::vs,b::c::l',h',hl=>
   refine .tup _ _ (by simpa using hl.symm) fun i x y q1 q2=>h'.2 i x y q1 (by simpa using q2)
theorem OutS.one_ok{s:Shp}{vs:List AV}{ps:List (Nat×Nat)}{vals:List Value}{K:s.D->Option β}{res:β}(ρ0:Rho)(hρ0:∀k,famBase<=k->k<dynBase->ρ0 k= .no)(hρd:∀k,dynBase<=k->ρ0 k= .no)(hH:HRep z H)(hv:AReps z vs vals)(hn:allFamIn (famNs (hkKeys s.hs)) s.tys=true)(h:s.rco vs H ps K=some res):
 ∃t,K t=some res/\∃z',z'.w=z.w/\z'.M=z.M/\HRep z' (s.emb t).2/\AReps z' (s.emb t).1 vals/\(∀k,memN k (hkKeys s.hs)=true->∃id,(id,k)∈ps/\z'.ρ k=z.ρ id)/\(∀k,k<dynBase->memN k (hkKeys s.hs)=false->z'.ρ k=ρ0 k)/\
  (∀g,z'.C g->z.C g)/\(∀k,z'.D k->ρ0 k≠.no)/\∀k,dynBase<=k->rt k∈hkKeys s.hs->z'.ρ k=z.ρ k:=by
 obtain⟨t,z0,k1,k2,k3,k4,k5,k6,k7,k8,k9,k10,k11,k12,k13,k14⟩:=Shp.rco_ok ρ0 hρ0 h hH hv;obtain⟨z',x1,x2,x3,x4,x5,x6,x7,x8⟩:=jGZ hn k4 k5 k13 k14;refine⟨t,k1,z',x1.trans k2,x2.trans k3,x3,x4,fun k hk=> ?_,fun k hd hk=> ?_,fun g h=>k8 g (by rw[<-x6];exact h),fun k hk=> ?_,fun k hd hk=> ?_⟩
 ·obtain⟨id,a1,a2⟩:=k6 k hk;exact⟨id,a1,(x5 k (.inl (k13 k hk))).trans a2⟩
 ·rw[x5 k (.inl hd),k7 k hk,ZAQ (ZBK.2 hd)]
 ·obtain⟨y1,y2⟩:=x7 k hk;rw[k10] at y1;rcases y1.2 with h|h
  ·rcases y2 with y2|y2
   ·omega
   ·rw[aiZ.2 y2] at y1;cases y1.1
  ·exact h
 ·rw[x5 k (.inr hk),k7 k,ZAT hd];cases hc:memN k (hkKeys s.hs)
  ·rfl
  ·have:=k13 k hc;omega
theorem OutS.rco_ok{vs:List AV}{ps:List (Nat×Nat)}{vals:List Value}(ρ0:Rho)(hρ0:∀k,famBase<=k->k<dynBase->ρ0 k= .no)(hρd:∀k,dynBase<=k->ρ0 k= .no)(hH:HRep z H)(hv:AReps z vs vals):∀{l:List Shp} {K:OutS l->Option β} {res:β},(∀o∈l,allFamIn (famNs (hkKeys o.hs)) o.tys=true)->OutS.rco vs H ps l K=some res->
 ∃(x:OutS l),K x=some res/\OutS.on l x fun o t=>o∈l/\∃z',z'.w=z.w/\z'.M=z.M/\HRep z' (o.emb t).2/\AReps z' (o.emb t).1 vals/\(∀k,memN k (hkKeys o.hs)=true->∃id,(id,k)∈ps/\z'.ρ k=z.ρ id)/\(∀k,k<dynBase->memN k (hkKeys o.hs)=false->z'.ρ k=ρ0 k)/\
  (∀g,z'.C g->z.C g)/\(∀k,z'.D k->ρ0 k≠.no)/\∀k,dynBase<=k->rt k∈hkKeys o.hs->z'.ρ k=z.ρ k
 |[],K,res,hn,h=>by cases h
 |[s],K,res,hn,h=>by
  obtain⟨t,k1,k2⟩:=OutS.one_ok ρ0 hρ0 hρd hH hv (hn s ZAl) h;exact⟨t,k1,by simp,k2⟩
 |s::o::r,K,res,hn,h=>by
  have h':bq (s.ks.fits (AV.renL (noOf ps) vs)&&hkFits s.hs (renH H (noOf ps) ps)) (s.rco vs H ps fun x=>K (.inl x)) (OutS.rco vs H ps (o::r) fun x=>K (.inr x))=some res:=h;cases hb:(s.ks.fits (AV.renL (noOf ps) vs)&&hkFits s.hs (renH H (noOf ps) ps))<;>rw[hb] at h'<;>simp only[bq_true,bq_false] at h'
  ·obtain⟨x,h1,h2⟩:=OutS.rco_ok ρ0 hρ0 hρd hH hv (fun o ho=>hn o (ZAb _ ho)) h';refine⟨.inr x,h1,?_⟩;have up:∀{l:List Shp} {x:OutS l} {Q Q':(s:Shp)->s.D->Prop},(∀o t,Q o t->Q' o t)->OutS.on l x Q->OutS.on l x Q':=fun{l}=>by
    induction l with
    |nil=>intro x;exact Empty.elim x
    |cons a l ih=>
     cases l with
     |nil=>intro x Q Q' hq h;exact hq _ _ h
     |cons b l=>
      intro x Q Q' hq h;cases x with
      |inl y=>exact hq _ _ h
      |inr y=>exact ih (x:=y) hq h
   exact up (fun o t ⟨a,b⟩=>⟨ZAb _ a,b⟩) h2
  ·obtain⟨t,k1,k2⟩:=OutS.one_ok ρ0 hρ0 hρd hH hv (hn s ZAl) h';exact⟨.inl t,k1,ZAl,k2⟩
theorem dYZ:∀{l:List Nat} {n k:Nat},k∈shKeys n l->k<famBase->n<=k/\k<n+(statK l).length
 |[],n,k,h,_=>by cases h
 |i::l,n,k,h,hk=>by
  simp only[shKeys] at h;by_cases hi:famBase<=i
  ·rw[ZAi hi,ZAK] at h;rcases ZAa.1 h with rfl|h
   ·omega
   ·have:=dYZ h hk;simp only[statK,ZAi hi,ZAK];exact this
  ·rw[eqZ hi,ZAE] at h;simp only[statK,eqZ hi,ZAE,ZBm];rcases ZAa.1 h with rfl|h
   ·omega
   ·have:=dYZ h hk;omega
theorem OutS.on_up:∀{l:List Shp} {x:OutS l} {Q Q':(s:Shp)->s.D->Prop},(∀o t,Q o t->Q' o t)->OutS.on l x Q->OutS.on l x Q'
 |[],x,_,_,_,_=>Empty.elim x
 |[s],x,Q,Q',hq,h=>hq _ _ h
 |s::t::r,.inl y,Q,Q',hq,h=>hq _ _ h
 |s::t::r,.inr y,Q,Q',hq,h=>OutS.on_up (l:=t::r) (x:=y) hq h
theorem OutS.on_ex:∀{l:List Shp} {x:OutS l} {Q:(s:Shp)->s.D->Z->Prop},(OutS.on l x fun o t=>∃z',Q o t z')->∃z',OutS.on l x fun o t=>Q o t z'
 |[],x,_,_=>Empty.elim x
 |[s],x,Q,h=>h
 |s::t::r,.inl y,Q,h=>h
 |s::t::r,.inr y,Q,h=>OutS.on_ex (l:=t::r) (x:=y) h
def act0(fn:Func)(vals:List Value):Act:={tmps:=vals.toArray++Array.replicate (fn.ntmps-vals.toArray.size) undef,defers:=[]}
theorem mTZ{fu:Nat}{f:FuncId}{fn:Func}{fa:FnA}(hT:∀e∈T,Told P e)(hm:P.follows .mixedOrders=true)(hf:P.funcs[f]? =some fn){c:Code}(hb:fn.body=some c){t:fa.i.D}{r:OutS fa.os}{z:Z}{vals:List Value}{tm:Tr}
 (h1:(eqN (hkKeys fa.i.hs) (shKeys 0 (hkKeys fa.i.hs))&& !memN 2 fa.md&&(Nat.ble fa.i.hs.length famBase&&fa.os.all fun o=>allFamIn (famNs (hkKeys o.hs)) o.tys&&allIn (famK (hkKeys fa.i.hs)) (famK (hkKeys o.hs))))=true)
 (h3:evS P T fu (build fa.ov c) ⟨tm,fn.ntmps,(statK (hkKeys fa.i.hs)).length,(fa.i.emb t).2⟩ (fin P fn fa) (fun _ _=>none) (fin P fn fa)=some r)(hH:HRep z (fa.i.emb t).2)(hD:∀id,¬z.D id)
 (htm:∀k,ARep z (tm.get k) ((act0 fn vals).eval (opOf k))):
 Calls P f vals.toArray z.w fun en w'=>∃v z',en= .returned v/\z'.w=w'/\Nx z {z' with D:=z.D}/\(∀k,z'.D k->k∈hkKeys fa.i.hs)/\OutS.on fa.os r fun o x=>HRep z' (o.emb x).2/\ARep z' (tupA (o.emb x).1) v:=by
 simp only[ZAB,jLZ,ZAc] at h1;obtain⟨⟨hkeys,hmd⟩,hlen,hno'⟩:=h1;have hb0:=cAZ;have hnoL:∀o∈fa.os,(allFamIn (famNs (hkKeys o.hs)) o.tys=true/\allIn (famK (hkKeys fa.i.hs)) (famK (hkKeys o.hs))=true):=fun o ho=>by
  have:=ZB4.1 hno' o ho;rwa [ZAB] at this
 have hno:∀o∈fa.os,allFamIn (famNs (hkKeys o.hs)) o.tys=true:=fun o ho=>(hnoL o ho).1;refine calls_of_wp hf hb ?_
 let a:Act:=act0 fn vals
 have hkey:∀id,hkey (fa.i.emb t).2 id=memN id (hkKeys fa.i.hs):=fun id=>(bPZ fa.i.hs (embL fa.i.ks (hkLv fa.i.hs []) (untidy fa.i.tys t)).2 id).1;have hlow:∀id,id<dynBase->z.ρ id≠.no->id∈hkKeys fa.i.hs/\id<famBase:=fun id hdy hid=>by
  have hf:id<famBase:=ZBK.1 fun h=>hid (hH.nos id h hdy);refine⟨?_,hf⟩;cases hk:memN id (hkKeys fa.i.hs)
  ·rw[<-hkey id] at hk;exact absurd ((hH.fresh id (by rw[a3Z hf];exact hk)).resolve_right (hD id)) hid
  ·exact aiZ.1 hk
 have hlown:∀id,id<dynBase->z.ρ id≠.no->id<(statK (hkKeys fa.i.hs)).length:=fun id hdy hid=>by
  obtain⟨h1,h2⟩:=hlow id hdy hid;rw[hkeys] at h1;have:=(dYZ h1 h2).2;omega
 have hlowd:∀id,dynBase<=id->z.ρ id≠.no->rt id∈hkKeys fa.i.hs:=fun id hdy hid=>by
  cases hk:memN (rt id) (hkKeys fa.i.hs)
  ·rw[<-hkey] at hk;refine absurd ((hH.fresh id ?_).resolve_right (hD id)) hid;rw[awZ hdy,atZ hk];exact hk
  ·exact aiZ.1 hk
 have hi:Inv z a.tmps.size [] ⟨tm,fn.ntmps,(statK (hkKeys fa.i.hs)).length,(fa.i.emb t).2⟩ a z.w:=
  ⟨z,rfl,Nx.refl z,hD,hH,htm,fun p hp=>(by cases hp),rfl,⟨by simp[a,act0];omega,rfl⟩,fun id hdy hid=>hlown id hdy hid⟩
 have fin:∀(Q:Exit->Act->World->Prop),(∀a' w',(a'.defers=[]/\∃v,(results fn a'.tmps).run P w'= .ok v w'/\∃v' z',Ending.returned v= .returned v'/\z'.w=w'/\Nx z {z' with D:=z.D}/\(∀k,z'.D k->k∈hkKeys fa.i.hs)/\OutS.on fa.os r fun o x=>HRep z' (o.emb x).2/\ARep z' (tupA (o.emb x).1) v')->Q .normal a' w')->
  ∀st' a' w',fin P fn fa st'=some r->Inv z a.tmps.size [] st' a' w'->Q .normal a' w':=fun Q hQ st' a' w' hfin hi'=>by
  refine hQ a' w' ?_;obtain⟨z1,rfl,hn,hD1,hH1,hs1,_,hdf,_,h0⟩:=hi';unfold Ab.fin at hfin;obtain⟨l,v,vs,e1,e2,e3,e4⟩:=lJZ hH1 hs1 hfin;rw[czZ] at e1;obtain⟨⟨l',H'⟩,e5,e6⟩:=agZ.1 e1;obtain⟨z2,Mf,g1,g2,g3,g4,g5,g6⟩:=h2Z hH1 (fun _ _=>.inr (hD1 _)) e5 e2;have hM:=g6 hmd;subst hM;have hn2:=hn.trans g3;obtain⟨x,k1,k2⟩:=OutS.rco_ok (fun k=>if memN k (hkKeys fa.i.hs)=true/\k<dynBase then z2.ρ k else .no) (fun k h1 h2=>by rw[g2.nos k h1 h2,ite_self]) (fun k h=>ZAQ fun h'=>by omega) g2 g5 hno e6;simp only[ZAI] at k1;subst k1;obtain⟨z3,k3⟩:=OutS.on_ex (OutS.on_up (Q':=fun o t=>∃z',o∈fa.os/\_) (fun o t ⟨h,z',k⟩=>⟨z',h,k⟩) k2);have common:z3.w=z2.w/\z3.M=z2.M/\(∀g,z3.C g->z2.C g)/\(∀k,z3.D k->k∈hkKeys fa.i.hs)/\∀id,z.ρ id≠.no->z3.ρ id=z.ρ id:=by
   have pick:∀{l:List Shp} {x:OutS l} {Q:(s:Shp)->s.D->Prop} {G:Prop},(OutS.on l x Q)->(∀o t,Q o t->G)->G:=fun{l}=>by
    induction l with
    |nil=>intro x;exact Empty.elim x
    |cons a l ih=>
     cases l with
     |nil=>intro x Q G h hq;exact hq _ _ h
     |cons b l=>
      intro x Q G h hq;cases x with
      |inl y=>exact hq _ _ h
      |inr y=>exact ih (x:=y) h hq
   refine pick k3 fun o t k=> ?_;obtain⟨ho,q1,q2,q3,q4,q5,q6,q7,q8,q9⟩:=k;refine⟨q1,q2,q7,fun k hk=> ?_,fun id hid=> ?_⟩
   ·have:=q8 k hk;cases hm:memN k (hkKeys fa.i.hs)
    ·simp[hm] at this
    ·exact aiZ.1 hm
   ·by_cases hdy:dynBase<=id
    ·have hm:=hlowd id hdy hid;have hmo:=(cpZ.1 ((bFZ.1 (hnoL o ho).2) _ (cpZ.2 ⟨hm,(buZ hdy).1⟩))).1;rw[q9 id hdy hmo];exact hn2.ext id hid
    have hstat:id<dynBase:=by omega
    obtain⟨hmem,hfl⟩:=hlow id hstat hid;have hidlt:=hlown id hstat hid;cases hk:memN id (hkKeys o.hs)
    ·rw[q6 id hstat hk,ZAT ⟨aiZ.2 hmem,hstat⟩];exact hn2.ext id hid
    ·obtain⟨id',p1,p2⟩:=q5 id hk;have:id'=id:=by
      rcases ZAh.1 p1 with p1|p1
      ·obtain⟨m,b1,b2⟩:=h0Z p1;rcases ZB2 m ((reach H' reachFuel (rangeN 0 (statK (hkKeys fa.i.hs)).length++AV.idsL l') []).filter fun i=>Nat.blt i (statK (hkKeys fa.i.hs)).length).length with hlt|hge
       ·rw[ZAL hlt] at b1 b2;rw[b1] at b2;exact ZAk b2
       ·rw[ZAO hge] at b2;have:=(kTZ b2).1;omega
      ·exact(eRZ.1 p1).1
     rw[p2,this];exact hn2.ext id hid
  obtain⟨c1,c2,c3,c4,c5⟩:=common;refine⟨hdf,v,e3,v,z3,rfl,c1.trans g1,⟨by show z3.w.os=_;rw[c1];exact hn2.os,⟨by show z3.w.tape=_;rw[c1];exact hn2.tape.1,by show _<=z3.w.drawn;rw[c1];exact hn2.tape.2⟩,by show z3.w.output=_;rw[c1];exact hn2.output,by show _<=z3.w.heap.size;rw[c1];exact hn2.size,
   fun b hb hc=>by show z3.w.heap[b]? =_;rw[c1];exact hn2.block b hb hc,fun g hg=>hn2.subM g (by rw[<-c2];exact hg),fun g hg=>hn2.subC g (c3 g hg),fun g hg hm hc=>by show z3.M g;rw[c2];exact hn2.keepM g hg hm hc,c5,rfl⟩,c4,OutS.on_up (fun o t k=> ?_) k3⟩
  obtain⟨_,q1,q2,q3,q4,q5,q6,q7,q8,q9⟩:=k;exact⟨q3,e4 q4⟩
 refine ruZ hT hm (build fa.ov c) h3 (aTZ _ _) hi (fun p hp=>by cases hp) (fun p hp=>by cases hp) ?_ (fun i st' a' w' h' _=>by cases h') ?_
 ·exact fin (bodyPost P fn _) fun a' w' h=>h
 ·exact fin (fun e a' w'=>bodyPost P fn _ .ret a' w') fun a' w' h=>h
theorem oZZ{fn:Func}{vals:List Value}{j:Nat}{v:Value}(h:vals[j]? =some v):(act0 fn vals).eval (.tmp j)=v:=by
 have hlt:j<vals.length:=(ZAC.1 h).1;simp only[Act.eval,act0];have e:(vals.toArray++Array.replicate (fn.ntmps-vals.toArray.size) undef)[j]? =some v:=by
  rw[ZBR (by simpa using hlt)];simpa using h
 simp only[Array.getD_eq_getD_getElem?,e,Option.getD_some]
theorem nGZ{z:Z}{fn:Func}{vs:List AV}{vals:List Value}{d:Nat}(hl:vs.length<=1048576)(hv:AReps z vs vals)(k:Nat):ARep z ((initTm (Tr.full d) 0 vs).get k) ((act0 fn vals).eval (opOf k)):=by
 refine iAZ (f:=fun k=>(act0 fn vals).eval (opOf k)) (fun k=>by rw[hwZ];exact .junk _) (fun j x hx=> ?_) k;obtain⟨v,hv1,hv2⟩:=hv.get hx;have hlt:j<vs.length:=(ZAC.1 hx).1;rw[ZAj,eiZ (by omega),oZZ hv1];exact hv2
theorem qxZ{fu:Nat}{f:FuncId}{fn:Func}{fa:FnA}{spec:fa.i.D->Option (OutS fa.os)}(hT:∀e∈T,Told P e)(hm:P.follows .mixedOrders=true)(hf:P.funcs[f]? =some fn)(hname:(fn.name== "runtime.NumGoroutine")=false)(hbody:fn.body.isSome=true)
 (hs:∀t,evF P T fu fn fa t=spec t):Told P ⟨f,fa.i,fa.os,spec⟩:=by
 obtain⟨c,hb⟩:=ZBh.1 hbody;refine Told.of ⟨fn,c,hf,hb,hname⟩ fun t r hr z vals hH hv hD=> ?_;have h:evF P T fu fn fa t=some r:=(hs t).trans hr;unfold evF at h;rw[Shp.embC_eq] at h;obtain⟨h1,h2⟩:=aeZ.1 h;obtain⟨hl,h2⟩:=aeZ.1 h2;obtain⟨c',hc',h3⟩:=agZ.1 h2;rw[hb] at hc';simp only[ZAI] at hc';subst hc';exact mTZ hT hm hf hb h1 h3 hH hD (nGZ (ZBC hl) hv)
theorem Tr.lay_get:∀(f:Nat) (t:Tr) (n:Nat) (a:AV) (k:Nat),(t.lay f n a).get k=t.get k\/(k=n/\(t.lay f n a).get k=a)
 |0,t,n,a,k=>.inl rfl
 |f+1,t,n,a,k=>by
  have nd:∀(l:Tr) (v:AV) (r:Tr),(bq (Nat.beq n 0) (Tr.nd l a r) (bq (Nat.beq (n%2) 1) (.nd (Tr.lay f l (n/2) a) v r) (.nd l v (Tr.lay f r (n/2-1) a)))).get k=(Tr.nd l v r).get k\/(k=n/\(bq (Nat.beq n 0) (Tr.nd l a r) (bq (Nat.beq (n%2) 1) (.nd (Tr.lay f l (n/2) a) v r) (.nd l v (Tr.lay f r (n/2-1) a)))).get k=a):=fun l v r=>by
   by_cases h0:n=0
   ·subst h0;simp only[(acZ 0 0).2 rfl,bq_true,Tr.get];by_cases hk:k=0
    ·subst hk;exact .inr ⟨rfl,rfl⟩
    ·rw[afZ hk];exact .inl rfl
   ·rw[afZ h0];by_cases h1:n%2=1
    ·simp only[(acZ _ _).2 h1,bq_true,bq_false,Tr.get];by_cases hk:k=0
     ·subst hk;exact .inl rfl
     ·rw[afZ hk];by_cases h2:k%2=1
      ·rw[(acZ _ _).2 h2];rcases Tr.lay_get f l (n/2) a (k/2) with h|⟨e,h⟩
       ·exact .inl h
       ·exact .inr ⟨by omega,h⟩
      ·rw[afZ h2];exact .inl rfl
    ·simp only[afZ h1,bq_false,Tr.get];by_cases hk:k=0
     ·subst hk;exact .inl rfl
     ·rw[afZ hk];by_cases h2:k%2=1
      ·rw[(acZ _ _).2 h2];exact .inl rfl
      ·rw[afZ h2];rcases Tr.lay_get f r (n/2-1) a (k/2-1) with h|⟨e,h⟩
       ·exact .inl h
       ·exact .inr ⟨by omega,h⟩
  cases t with
  |nd l v r=>exact nd l v r
  |lf=>
   have:=nd .lf .junk .lf;have e:(Tr.nd .lf .junk .lf).get k=Tr.lf.get k:=by
    simp only[Tr.get];cases Nat.beq k 0<;>cases Nat.beq (k%2) 1<;>rfl
   rw[e] at this;exact this
def ToldG(P:Program)(g:Nat)(e:FnT):Prop:=∀t r,e.spec t=some r->∀(z:Z) (vals:List Value),HRep z (e.i.emb t).2->AReps z (e.i.emb t).1 (.pointer (some ⟨g,0,none⟩)::vals)->(∀id,¬z.D id)->
    Calls P e.f vals.toArray z.w fun en w'=>∃v z',en= .returned v/\z'.w=w'/\Nx z {z' with D:=z.D}/\(∀k,z'.D k->k∈hkKeys e.i.hs)/\OutS.on e.os r fun o x=>HRep z' (o.emb x).2/\ARep z' (tupA (o.emb x).1) v
theorem oAZ{fu g:Nat}{f:FuncId}{fn:Func}{fa:FnA}{spec:fa.i.D->Option (OutS fa.os)}(hT:∀e∈T,Told P e)(hm:P.follows .mixedOrders=true)(hf:P.funcs[f]? =some fn)(hbody:fn.body.isSome=true)
 (hs:∀t,evFG P T fu g fn fa t=spec t):ToldG P g ⟨f,fa.i,fa.os,spec⟩:=by
 obtain⟨c,hb⟩:=ZBh.1 hbody;intro t r hr z vals hH hv hD;have h:evFG P T fu g fn fa t=some r:=(hs t).trans hr;unfold evFG at h;rw[Shp.embC_eq] at h;obtain⟨h1,h2⟩:=aeZ.1 h;obtain⟨hl,h2⟩:=aeZ.1 h2;obtain⟨c',hc',h3⟩:=agZ.1 h2;rw[hb] at hc';simp only[ZAI] at hc';subst hc';refine mTZ hT hm hf hb h1 h3 hH hD fun k=> ?_;have hv:AReps z (fa.i.emb t).1 (.pointer (some ⟨g,0,none⟩)::vals):=hv;generalize (fa.i.emb t).1=vs at*;obtain⟨x,vs,rfl⟩:∃x l,vs=x::l:=by
  cases vs with
  |nil=>have:=hv.1;simp at this
  |cons x l=>exact⟨x,l,rfl⟩
 have hx:ARep z x (.pointer (some ⟨g,0,none⟩)):=hv.2 0 x _ rfl rfl;have hr:AReps z vs vals:=⟨by have:=hv.1;simpa using this,fun i y v h1 h2=>hv.2 (i+1) y v (by simpa using h1) (by simpa using h2)⟩;have hi:=nGZ (fn:=fn) (d:=depth fn.ntmps) (ZBC hl) hr;rcases Tr.lay_get 30 (initTm (Tr.full (depth fn.ntmps)) 0 (x::vs).tail) (1048576+g) ((x::vs).headD .junk) k with e|⟨e1,e2⟩
 ·rw[e];exact hi k
 ·rw[e2,e1,jvZ];exact hx
end
end Go.Ab
namespace Go.Ab
theorem abZ{P:Program}:∀e∈([]:Tbl),Told P e:=fun e h=>by cases h
theorem aaZ{P:Program}{a:FnT}{r:Tbl}(h:Told P a)(hr:∀e∈r,Told P e):∀e∈a::r,Told P e:=fun e he=>by
 rcases ZAa.1 he with rfl|he
 ·exact h
 ·exact hr e he
end Go.Ab
namespace Go.Ab
def OkV:(t:Ty)->t.den->Prop
 |.int k,n=>k.min<=n/\n<=k.max
 |.byte,_=>True
 |.bool,_=>True
 |.str,l=>List.length (α:=UInt8) l<=maxLen
 |.opq,_=>False
 |.nat,_=>False
 |.ref _ _,_=>False
 |.ptr _,_=>False
 |.sl t,l=>List.length (α:=t.den) l<=maxLen/\∀x∈(show List t.den from l),OkV t x
 |.one t,x=>OkV t x
 |.pair a b,x=>OkV a x.1/\OkV b x.2
 |.arr n t,l=>List.length (α:=t.den) l=n/\∀x∈(show List t.den from l),OkV t x
section
variable (P : Program)
def readFs(f:TypeId->Ty->Bool):List Field->Nat->Ty->Bool
 |[x],o,u=>Nat.beq x.offset o&&Nat.beq (P.cellsOf x.type) u.cells&&f x.type u
 |x::r,o,.pair a b=>Nat.beq x.offset o&&Nat.beq (P.cellsOf x.type) a.cells&&f x.type a&&readFs f r (o+a.cells) b
 |_,_,_=>false
def readT:Nat->TypeId->Ty->Bool
 |0,_,_=>false
 |n+1,t,u=>match P.underlying t,u with
  |some (.int k),.int k'=>decide (k=k')
  |some (.int k),.byte=>decide (k= .u8)
  |some .bool,.bool=>true
  |some .string,.str=>true
  |some (.slice e),.sl v=>Nat.beq (P.cellsOf e) v.cells&&Nat.blt 0 v.cells&&readT n e v
  |some (.struct fs),.one v=>Nat.beq (P.cellsOf t) v.cells&&readFs P (readT n) fs.toList 0 v
  |some (.struct fs),.pair a b=>Nat.beq (P.cellsOf t) (Ty.pair a b).cells&&readFs P (readT n) fs.toList 0 (.pair a b)
  |some (.array m e),.arr m' v=>Nat.beq m m'&&Nat.beq (P.cellsOf t) (m*v.cells)&&Nat.beq (P.cellsOf e) v.cells&&readT n e v
  |_,_=>false
end
theorem cZZ{α:Type}(k:Nat):∀(n:Nat) (cs:List α),cs.length=n*k->((List.range n).map fun i=>(cs.drop (i*k)).take k).flatten=cs
 |0,cs,h=>by
  have:cs=[]:=ZAR (by simpa using h);simp[this]
 |n+1,cs,h=>by
  rw[List.range_succ_eq_map,ZB6,ZBM,List.map_map];have e:((List.range n).map ((fun i=>(cs.drop (i*k)).take k)∘Nat.succ))=(List.range n).map fun i=>((cs.drop k).drop (i*k)).take k:=by
   refine List.map_congr_left fun i _=> ?_;simp only[Function.comp,List.drop_drop];congr 2;rw[ZBY,Nat.add_comm]
  rw[e,cZZ k n (cs.drop k) (by rw[ZAv,h,ZBY];omega)];simp
theorem dkZ{α:Type}{Q:Nat->α->Prop}:∀(n:Nat),(∀i,i<n->∃x,Q i x)->∃l:List α,l.length=n/\∀(i:Nat) x,l[i]? =some x->Q i x
 |0,_=>⟨[],rfl,fun i x h=>by simp at h⟩
 |n+1,h=>by
  obtain⟨l,h1,h2⟩:=dkZ n fun i hi=>h i (by omega);obtain⟨x,hx⟩:=h n (by omega);refine⟨l++[x],by simp[h1],fun i y hy=> ?_⟩;rw[List.getElem?_append] at hy;split at hy
  ·exact h2 i y hy
  ·rename_i hlt;have:i=n:=by
    have:=(ZAC.1 hy).1;simp at this;omega
   subst this;simp[h1] at hy;rw[<-hy];exact hx
section
variable {P : Program} {H : Type} {enc : TypeId × Value → H} {w : World} {sp : Nat → Bool} {held : Bool}
theorem fBZ{f:TypeId->Ty->Bool}{n:Nat}{cs:List Value}(hf:∀(x:Field) u,f x.type u=true->P.cellsOf x.type=u.cells->(∃y,DataW.trod enc P w 0 sp held n x.type ((cs.drop x.offset).take (P.cellsOf x.type))=some y)->
 ∃v:u.den,Cl w (fun _=>False) (fun _=>.no) u v ((cs.drop x.offset).take (P.cellsOf x.type))/\OkV u v):
 ∀(fs:List Field) (o:Nat) (u:Ty),readFs P f fs o u=true->(∀x∈fs,∃y,DataW.trod enc P w 0 sp held n x.type ((cs.drop x.offset).take (P.cellsOf x.type))=some y)->∃v:u.den,Cl w (fun _=>False) (fun _=>.no) u v ((cs.drop o).take u.cells)/\OkV u v
 |[],o,u,h,_=>by cases u<;>cases h
 |[x],o,u,h,hs=>by
  have h:(Nat.beq x.offset o&&Nat.beq (P.cellsOf x.type) u.cells&&f x.type u)=true:=by cases u<;>exact h
  simp only[ZAB,acZ] at h;obtain⟨⟨rfl,h2⟩,h3⟩:=h;have:=hf x u h3 h2 (hs x ZAl);rwa [h2] at this
 |x::y::r,o,u,h,hs=>by
  cases u with
  |pair a b=>
   have h:(Nat.beq x.offset o&&Nat.beq (P.cellsOf x.type) a.cells&&f x.type a&&readFs P f (y::r) (o+a.cells) b)=true:=h;simp only[ZAB,acZ] at h;obtain⟨⟨⟨rfl,h2⟩,h3⟩,h4⟩:=h;obtain⟨v1,c1,k1⟩:=hf x a h3 h2 (hs x ZAl);obtain⟨v2,c2,k2⟩:=fBZ hf (y::r) (x.offset+a.cells) b h4 fun z hz=>hs z (ZAb _ hz);refine⟨(v1,v2),⟨_,_,?_,c1,c2⟩,k1,k2⟩;rw[h2,show(Ty.pair a b).cells=a.cells+b.cells from rfl,List.take_add,List.drop_drop]
  |_=>cases h
theorem hOZ{a:Addr}{n:Nat}{cs:List Value}(h:w.cells? 0 a n=some cs):cs.length=n/\∀(j:Nat) v,cs[j]? =some v->w.cell? (a.add j)=some v:=by
 unfold World.cells? at h;rw[ZAT (ZBS _)] at h;have hl:=mapM_some_length h;simp only[List.length_range] at hl;refine⟨hl,fun j v hj=> ?_⟩;have hlt:j<n:=by have:=(ZAC.1 hj).1;omega
 have:=mapM_some_get h j j (by simp[hlt]);rw[this,hj]
theorem iOZ{a:Addr}{v:Value}(h:w.cell? a=some v):a.spot=none/\a.block<w.heap.size:=by
 unfold World.cell? at h;split at h
 ·rename_i c _ _ hb;split at h
  ·cases h
  ·rename_i hs;refine⟨by cases hsp:a.spot<;>simp[hsp] at hs⊢,(ZBF.1 hb).1⟩
 ·cases h
theorem dHZ{fuel:Nat}{t:TypeId}{cs:List Value}{y:DataW H×List MemPlace}{d:TypeDesc}(hu:P.underlying t=some d)(hd:DataW.trod enc P w 0 sp held (fuel+1) t cs=some y)(hr:d.isRow=false):∃v,cs=[v]:=by
 unfold DataW.trod at hd;rw[hu] at hd;rcases cs with _|⟨v,_|⟨v2,cs⟩⟩
 ·cases d<;>first|(cases hd;done)|cases hr
 ·exact⟨v,rfl⟩
 ·cases d<;>cases v<;>first|(cases hd;done)|(cases hr;done)|(simp at hd;done)|(split at hd<;>first|(cases hd;done)|(simp_all;done))
theorem fAZ:∀(n:Nat) (t:TypeId) (u:Ty),readT P n t u=true->∀(fuel:Nat) (cs:List Value) (d:DataW H) (ps:List MemPlace),DataW.trod enc P w 0 sp held fuel t cs=some (d,ps)->
 ∃x:u.den,Cl w (fun _=>False) (fun _=>.no) u x cs/\OkV u x
 |0,t,u,h,fuel,cs,d,ps,hd=>by cases h
 |n+1,t,u,h,0,cs,d,ps,hd=>by cases hd
 |n+1,t,u,h,fuel+1,cs,d,ps,hd=>by
  unfold readT at h;split at h
  ·rename_i k k' hu;simp only[ZAd] at h;subst h;obtain⟨v,rfl⟩:=dHZ hu hd rfl;unfold DataW.trod at hd;rw[hu] at hd;cases v<;>first|(cases hd;done)|skip;rename_i k' m;simp only at hd;split at hd
   ·rename_i hw;obtain⟨rfl,hw⟩:=hw;have hb:k'.min<=m/\m<=k'.max:=by simpa[Lit.wf] using hw
    exact⟨m,rfl,hb⟩
   ·cases hd
  ·rename_i k hu;simp only[ZAd] at h;subst h;obtain⟨v,rfl⟩:=dHZ hu hd rfl;unfold DataW.trod at hd;rw[hu] at hd;cases v<;>first|(cases hd;done)|skip;rename_i k' m;simp only at hd;split at hd
   ·rename_i hw;obtain⟨rfl,hw⟩:=hw;have hb:0<=m/\m<=255:=by simpa[Lit.wf,IntKind.min,IntKind.max,IntKind.signed,IntKind.bits] using hw
    refine⟨UInt8.ofNat m.toNat,?_,trivial⟩;show[Value.int .u8 m]=[Value.int .u8 ((UInt8.ofNat m.toNat).toNat:Int)];have:((UInt8.ofNat m.toNat).toNat:Int)=m:=by
     rw[UInt8.toNat_ofNat'];omega
    rw[this]
   ·cases hd
  ·rename_i hu;obtain⟨v,rfl⟩:=dHZ hu hd rfl;unfold DataW.trod at hd;rw[hu] at hd;cases v<;>first|(cases hd;done)|skip;rename_i b;exact⟨b,rfl,trivial⟩
  ·rename_i hu;obtain⟨v,rfl⟩:=dHZ hu hd rfl;unfold DataW.trod at hd;rw[hu] at hd;cases v<;>first|(cases hd;done)|skip;rename_i s;simp only at hd;split at hd
   ·rename_i hs;have hb:s.data.toList.length<=maxLen:=hs;exact⟨s.data.toList,rfl,hb⟩
   ·cases hd
  ·rename_i e v hu;simp only[ZAB,acZ,ZBW] at h;obtain⟨⟨h1,h2⟩,h3⟩:=h;obtain⟨x,rfl⟩:=dHZ hu hd rfl;unfold DataW.trod at hd;rw[hu] at hd;cases x<;>first|(cases hd;done)|skip;rename_i A len cap;cases A with
   |none=>
    cases len with
    |succ k=>cases hd
    |zero=>cases cap with
     |succ k=>cases hd
     |zero=>exact⟨([]:List v.den),⟨none,0,rfl,by simp,by unfold maxLen;omega,fun _=>rfl,fun h=>absurd rfl h⟩,by simp,fun x hx=>by cases hx⟩
   |some a=>
    simp only at hd;split at hd
    ·rename_i hb;obtain⟨_,hb1,hb2⟩:=hb;obtain⟨elems,he,_⟩:=ZAF.1 hd;have hlen:=mapM_some_length he;simp only[List.length_range] at hlen;have hel:∀i,i<len->∃cs,w.cells? 0 (a.add (i*P.cellsOf e)) (P.cellsOf e)=some cs/\∃x:v.den,Cl w (fun _=>False) (fun _=>.no) v x cs/\OkV v x:=fun i hi=>by
      have:=mapM_some_get he i i (by simp[hi]);rw[ZAD (by omega)] at this;obtain⟨cs,c1,c2⟩:=ZAF.1 this;exact⟨cs,c1,fAZ n e v h3 fuel cs _ _ c2⟩
     obtain⟨l,l1,l2⟩:=dkZ (Q:=fun i (x:v.den)=>∃cs,w.cells? 0 (a.add (i*P.cellsOf e)) (P.cellsOf e)=some cs/\Cl w (fun _=>False) (fun _=>.no) v x cs/\OkV v x) len fun i hi=>by
      obtain⟨cs,c1,x,c2,c3⟩:=hel i hi;exact⟨x,cs,c1,c2,c3⟩
     have hl:List.length (α:=v.den) l=len:=l1;refine⟨(show(Ty.sl v).den from l),⟨some a,cap,by show[Value.slice (some a) len cap]=[Value.slice (some a) (List.length (α:=v.den) l) cap];rw[hl],by show List.length (α:=v.den) l<=cap;rw[hl];exact hb1,hb2,(fun h=>by cases h),fun hne=> ?_⟩,by show List.length (α:=v.den) l<=maxLen;rw[hl];omega,fun x hx=> ?_⟩
     ·have hpos:0<len:=by
       have:List.length (α:=v.den) l≠0:=hne;omega
      obtain⟨cs,c1,_⟩:=hel 0 hpos;rw[ZBa] at c1;obtain⟨g1,g2⟩:=hOZ c1;have hcs:∃y,cs[0]? =some y:=⟨_,ZAD (by omega)⟩;obtain⟨y,hy⟩:=hcs;have hc:=iOZ (g2 0 y hy);have ha0:((a.add 0).add 0)=a:=rfl;rw[ha0] at hc;obtain⟨b,off,spot⟩:=a;simp only at hc;obtain⟨rfl,hblk⟩:=hc;refine⟨b,off,rfl,fun h=>h,hblk,fun i x hx=> ?_⟩;obtain⟨cs,c1,c2,c3⟩:=l2 i x hx;refine⟨cs,c2,fun j y hj=> ?_⟩;have:=(hOZ c1).2 j y hj;rw[Addr.add_mid,Addr.add_mid] at this;rw[<-h1];exact this
     ·obtain⟨i,hi⟩:=ZAe hx;obtain⟨cs,_,_,c3⟩:=l2 i x hi;exact c3
    ·cases hd
  ·rename_i fs v hu;simp only[ZAB,acZ] at h;unfold DataW.trod at hd;rw[hu] at hd;simp only at hd;split at hd
   ·rename_i hl;obtain⟨xs,hx,_⟩:=ZAH.1 hd;obtain⟨y,c1,c2⟩:=fBZ (n:=fuel) (f:=readT P n) (fun x u hf _ hz=>by obtain⟨z,hz⟩:=hz;exact fAZ n x.type u hf fuel _ z.1 z.2 hz) fs.toList 0 v h.2 fun x hx'=>by
     obtain⟨i,hi⟩:=ZAe hx';have:=mapM_some_get hx i x hi;rw[ZAD (by rw[mapM_some_length hx];exact(ZAC.1 hi).1)] at this;exact⟨_,this⟩
    refine⟨y,?_,c2⟩;rw[ZBr,ZAu (by omega)] at c1;exact c1
   ·cases hd
  ·rename_i fs a b hu;simp only[ZAB,acZ] at h;unfold DataW.trod at hd;rw[hu] at hd;simp only at hd;split at hd
   ·rename_i hl;obtain⟨xs,hx,_⟩:=ZAH.1 hd;obtain⟨y,c1,c2⟩:=fBZ (n:=fuel) (f:=readT P n) (fun x u hf _ hz=>by obtain⟨z,hz⟩:=hz;exact fAZ n x.type u hf fuel _ z.1 z.2 hz) fs.toList 0 (.pair a b) h.2 fun x hx'=>by
     obtain⟨i,hi⟩:=ZAe hx';have:=mapM_some_get hx i x hi;rw[ZAD (by rw[mapM_some_length hx];exact(ZAC.1 hi).1)] at this;exact⟨_,this⟩
    refine⟨y,?_,c2⟩;rw[ZBr,ZAu (by omega)] at c1;exact c1
   ·cases hd
  ·rename_i m e m' v hu;simp only[ZAB,acZ] at h;obtain⟨⟨⟨rfl,h1⟩,h2⟩,h3⟩:=h;unfold DataW.trod at hd;rw[hu] at hd;simp only at hd;split at hd
   ·rename_i hl;obtain⟨xs,hx,_⟩:=ZAH.1 hd;have hlen:=mapM_some_length hx;simp only[List.length_range] at hlen;obtain⟨l,l1,l2⟩:=dkZ (Q:=fun i (x:v.den)=>Cl w (fun _=>False) (fun _=>.no) v x ((cs.drop (i*v.cells)).take v.cells)/\OkV v x) m fun i hi=>by
     have:=mapM_some_get hx i i (by simp[hi]);rw[ZAD (by omega)] at this;obtain⟨x,c1,c2⟩:=fAZ n e v h3 fuel _ _ _ this;rw[h2] at c1;exact⟨x,c1,c2⟩
    refine⟨(show(Ty.arr m v).den from l),⟨l1,(List.range m).map fun i=>(cs.drop (i*v.cells)).take v.cells,by simp,(cZZ v.cells m cs (by rw[hl,h1])).symm,fun i x c hx hc=> ?_⟩,l1,fun x hx=> ?_⟩
    ·have hi:i<m:=by have:=(ZAC.1 hc).1;simpa using this
     rw[ZAW,List.getElem?_range hi] at hc;simp only[ZBk,ZAI] at hc;rw[<-hc];exact(l2 i x hx).1
    ·obtain⟨i,hi⟩:=ZAe hx;exact(l2 i x hi).2
   ·cases hd
  ·cases h
theorem trod_v{n:Nat}{t:TypeId}{u:Ty}(h:readT P n t u=true)(hf:formOk P t u=true){base:Nat}{v:Value}{d:DataW H}{ps:List MemPlace}(hw:Value.okWide P w .any base t v)(hd:DataW.Trod enc P w 0 sp held t v d ps):
 ∃x:u.den,VRep w (fun _=>False) (fun _=>.no) u x v/\OkV u x:=by
 obtain⟨fuel,hd⟩:=hd;obtain⟨x,h1,h2⟩:=fAZ n t u h fuel _ d ps hd;refine⟨x,⟨v.cells.toList,h1,?_⟩,h2⟩;unfold formOk at hf;simp only[ZAB,ZAc] at hf;obtain⟨_,hf⟩:=hf;unfold Value.okWide at hw;cases hg:u.isAgg<;>rw[hg] at hf
 ·simp only[bq_false] at hf;have hlen:=h1.len;obtain⟨dd,hdd,hrow⟩:=g3Z hf;cases v with
  |agg cs=>
   exfalso;unfold isScal at hf;rw[hdd] at hf hw;cases dd<;>first|(cases hf;done)|(simp[Cell.okWide,Cell.ok,hdd] at hw;done)
  |tuple cs=>
   exfalso;unfold isScal at hf;rw[hdd] at hf hw;cases dd<;>first|(cases hf;done)|(simp[Cell.okWide,Cell.ok,hdd] at hw;done)
  |_=>rfl
 ·simp only[bq_true] at hf;obtain⟨dd,hdd,hrow⟩:=edZ hf;unfold isAggT at hf;rw[hdd] at hf hw;cases dd<;>first|(cases hf;done)|skip
  ·obtain⟨cs,rfl,_⟩:=hw;rfl
  ·obtain⟨cs,rfl,_⟩:=hw;rfl
theorem law_of_toldG{f g:FuncId}{ks:KdL}{spec:Shp.D ⟨ks,[]⟩->Option (OutS [⟨.cons (.p .bool) .nil,[]⟩])}(hT:ToldG P g ⟨f,⟨ks,[]⟩,[⟨.cons (.p .bool) .nil,[]⟩],spec⟩){t:Shp.D ⟨ks,[]⟩}(hs:spec t=some true){vals:List Value}
 (hv:AReps ⟨w,fun _=>False,fun _=>False,fun _=>.no,fun _=>False⟩ (Shp.emb ⟨ks,[]⟩ t).1 (.pointer (some ⟨g,0,none⟩)::vals)):Calls P f vals.toArray w fun e w'=>e= .returned (.bool true)/\RowKit.Below w.heap.size w w':=by
 refine(hT t true hs ⟨w,fun _=>False,fun _=>False,fun _=>.no,fun _=>False⟩ vals ⟨fun id e h=>(by rw[show(Shp.emb ⟨ks,[]⟩ t).2=[] from rfl,bqZ] at h;cases h),fun i i' e e' g sz n g' sz' n' _ h=>(by rw[show(Shp.emb ⟨ks,[]⟩ t).2=[] from rfl,bqZ] at h;cases h),fun id _=>.inl rfl,fun g h=>h,fun i x h=>by simp[Shp.emb,embH,hget] at h,fun i h=>by simp[Shp.emb,embH,hkey] at h,fun _ _ _ h=>h,fun _ _ _=>rfl⟩ hv fun _ h=>h).mono ?_;rintro en w' ⟨v,z',rfl,rfl,hn,_,ho⟩;obtain⟨_,ho⟩:=ho;have ho:ARep z' (.p .bool true) v:=ho;refine⟨by rw[ho.v.bool],⟨hn.os,hn.tape.1,hn.output,hn.size,fun b hb=>hn.block b hb fun h=>h⟩⟩
theorem var2_rep{g:Nat}{a b:Int}{k:IntKind}(h0:w.cell? ⟨g,0,none⟩=some (.int k a))(h1:w.cell? ⟨g,1,none⟩=some (.int k b)):
 ARep ⟨w,fun _=>False,fun _=>False,fun _=>.no,fun _=>False⟩ (.pt (.pair (.int k) (.int k)) [((a,b):Int×Int)] 0 0) (.pointer (some ⟨g,0,none⟩)):=by
 have hb:=(iOZ h0).2;refine .pt (.pair (.int k) (.int k)) _ 0 0 g 0 (fun h=>h) hb fun i x hx=> ?_
 match i with
 |i+1=>simp at hx
 |0=>
  simp only[ZAX,ZAI] at hx;subst hx;refine⟨[.int k a,.int k b],⟨[.int k a],[.int k b],rfl,rfl,rfl⟩,fun j v hj=> ?_⟩
  match j with
  |0=>simp at hj;subst hj;exact h0
  |1=>simp at hj;subst hj;exact h1
  |j+2=>simp at hj
end
end Go.Ab
namespace Go.Ab
open Go.ChangeShapes Go.WideShapes Go.ChangeAt Go.RowKit
section
variable {H : Type} {enc : TypeId × Value → H} {P : Program}
theorem d1Z(hl:laidOutB P=true){W W':World}{sp:Nat->Bool}(hb:Below W.heap.size W W'):
 ∀(ts:List TypeId) (vs:List Value) (ds:List (DataW H)) (ps:List MemPlace),DataW.TrodAll enc P W 0 (fun _=>true) true ts vs ds ps->
  (∀t∈ts,P.readableRec t=true/\t<P.types.size)->(∀x∈ps,x.block<W.heap.size/\sp x.block=true)->DataW.TrodAll enc P W' 0 sp true ts vs ds ps
 |[],vs,ds,ps,h,_,_=>by
  obtain⟨rfl,rfl,rfl⟩:=trodAll_nil h;exact trodAll_mk0
 |t::ts,vs,ds,ps,h,hr,hp=>by
  obtain⟨v,vs',d,ds',p,q,rfl,rfl,rfl,h0,h1⟩:=trodAll_cons h;have ht:=hr t (by simp);exact trodAll_cons_mk (WideElems.Trod_stays hl ht.1 ht.2 h0 (fun x hx=>hb.same (hp x (by simp[hx])).1) (fun x hx=>(hp x (by simp[hx])).2))
   (d1Z hl hb ts vs' ds' q h1 (fun t' h'=>hr t' (by simp[h'])) fun x hx=>hp x (by simp[hx]))
theorem hbZ{f:Func}{s:ChangeSpec}{apart fresh handsOn again:Bool}{W W':World}{args:Array Value}{v:Value}{ds gs:List (DataW H)}{before pa pv:List MemPlace}
 (hW:DataW.Whole enc P f.params.toList s.vars apart W args.toList ds gs before)
 (hres:∀(b:Nat) (sp:Nat->Bool) (hd:Bool),DataW.TrodAll enc P W' b sp hd f.resultTypes.toList (v.resultList f.resultTypes.size) (s.fn H (ds++gs)).results [])
 (hargs:∀sp:Nat->Bool,(∀p∈before,sp p.block=true)->DataW.TrodAll enc P W' 0 sp true f.params.toList args.toList (s.fn H (ds++gs)).args pa)
 (hvars:∀sp:Nat->Bool,(∀p∈before,sp p.block=true)->DataW.TrodVars enc P W' sp s.vars (s.fn H (ds++gs)).vars pv)
 (hps:before=pa++pv)(hb:Below W.heap.size W W')
 (hok:∀(j:Nat) (t:TypeId) (r:Value),f.resultTypes[j]? =some t->(v.resultList f.resultTypes.size)[j]? =some r->Value.okWide P W' .any 0 t r):
 s.post enc P f apart fresh handsOn again W args v W':=by
 have hlt:∀p∈before,p.block<W.heap.size:=fun p hp=>hW.lt p hp;have hold:∀p∈before,(fun b=>decide (b<W.heap.size)) p.block=true:=fun p hp=>by simpa using hlt p hp
 refine⟨ds,gs,before,[],pa,pv,hW,hres _ _ _,hargs _ hold,hvars _ hold,World.keptBut_mono (fun p hp=>⟨hp,?_⟩) (hb.frame (·∈before)),fun _=> ?_⟩
 ·rw[hps,ZAh] at hp;exact Or.inr hp
 ·obtain⟨_,_,_,_,_,hz,hn⟩:=hW;refine⟨hok,_,_,([]++pa)++pv,⟨[]++pa,pv,trodAll_append (hargs _ (fun _ _=>rfl)) (hres _ _ _),hvars _ (fun _ _=>rfl),rfl,?_,?_⟩,?_⟩
  ·intro b off hp;have hin:MemPlace.cell b off∈before:=by rw[hps];simpa using hp
   rw[hb.frozen (hlt _ hin)];exact hz b off hin
  ·intro ha;have:=hn ha;rw[hps] at this;simpa using this
  ·intro p hp _;rw[hps];simpa using hp
theorem law_post(hl:laidOutB P=true){f:Func}{s:ChangeSpec}{B:TypeId}{W W':World}{args:Array Value}{ds gs:List (DataW H)}{before:List MemPlace}
 (hbool:P.underlying B=some .bool)(hres:f.resultTypes=#[B])(hread:∀t∈f.params.toList,P.readableRec t=true/\t<P.types.size)(hvars:s.vars=[])
 (hfn:(s.fn H (ds++gs)).results=[.lit (.bool true)]/\(s.fn H (ds++gs)).args=ds/\(s.fn H (ds++gs)).vars=[])
 (hW:DataW.Whole enc P f.params.toList s.vars false W args.toList ds gs before)(hb:Below W.heap.size W W'):
 s.post enc P f false true false false W args (.bool true) W':=by
 have hlt:∀p∈before,p.block<W.heap.size:=fun p hp=>hW.lt p hp;have hW':=hW;obtain⟨p,q,hA,hV,hbe,_,_⟩:=hW;rw[hvars] at hV;obtain⟨rfl,rfl⟩:=trodVars_none hV;rw[ZA1] at hbe;subst hbe;refine hbZ (pa:=before) (pv:=[]) hW' ?_ ?_ ?_ (by simp) hb ?_
 ·intro b sp hd;rw[hfn.1,hres];exact trodAll_mk1 (shut_bool hbool _)
 ·intro sp hsp;rw[hfn.2.1];exact d1Z hl hb _ _ _ _ hA hread fun x hx=>⟨hlt x hx,hsp x hx⟩
 ·intro sp _;rw[hvars,hfn.2.2]
  rfl
 ·exact ok_one hres rfl (okWide_bool_mk hbool _)
end
end Go.Ab
namespace Go.Ab
open Go.Proofs Go.Shelf Go.Sort
abbrev tyII:Ty:=.pair (.int .i64) (.int .i64)
def encII(x:Int×Int):List Value:=[.int .i64 x.1,.int .i64 x.2]
theorem clII{w:World}{M:Nat->Prop}{ρ:Rho}{x:Int×Int}{vs:List Value}:Cl w M ρ tyII x vs↔vs=encII x:=by
 constructor
 ·rintro⟨u,v,rfl,h1,h2⟩;have h1:u=[.int .i64 x.1]:=h1;have h2:v=[.int .i64 x.2]:=h2;subst h1;subst h2;rfl
 ·rintro rfl;exact⟨[.int .i64 x.1],[.int .i64 x.2],rfl,rfl,rfl⟩
theorem qNZ{z:Z}(x:Int×Int):ARep z (.p tyII x) (.agg (encII x).toArray):=.p _ _ _ ⟨_,clII.2 rfl,rfl⟩
theorem r9Z{z:Z}{a b:AV}{vals:List Value}(h:AReps z [a,b] vals):∃u v,vals=[u,v]/\ARep z a u/\ARep z b v:=by
 obtain⟨h1,h2⟩:=h
 match vals,h1,h2 with
 |[u,v],_,h2=>exact⟨u,v,rfl,h2 0 a u rfl rfl,h2 1 b v rfl rfl⟩
theorem oHZ{w w':World}(h1:w'.os=w.os)(h2:w'.tape=w.tape)(h3:w.drawn<=w'.drawn)(h4:w'.output=w.output)(h5:w.heap.size<=w'.heap.size)(h6:∀b,b<w.heap.size->w'.heap[b]? =w.heap[b]?):
 ∃q os,w'=grow (w.drewN q) os:=by
 refine⟨w'.drawn-w.drawn,w'.heap.extract w.heap.size w'.heap.size,?_⟩;obtain⟨heap,tape,drawn,os,output⟩:=w';simp only at h1 h2 h3 h4 h5 h6;subst h1;subst h2;subst h4;unfold grow;have e1:(w.drewN (drawn-w.drawn)).heap=w.heap:=by rfl
 have e2:(w.drewN (drawn-w.drawn)).drawn=drawn:=by show w.drawn+(drawn-w.drawn)=drawn;omega
 have e3:(w.drewN (drawn-w.drawn)).tape=w.tape/\(w.drewN (drawn-w.drawn)).os=w.os/\(w.drewN (drawn-w.drawn)).output=w.output:=⟨rfl,rfl,rfl⟩;have hh:heap=w.heap++heap.extract w.heap.size heap.size:=by
  apply Array.ext_getElem?;intro i;by_cases hi:i<w.heap.size
  ·rw[h6 i hi,ZBR hi]
  ·rw[Array.getElem?_append_right (by omega),Array.getElem?_extract];by_cases hj:i<heap.size
   ·rw[ZAT (by omega)];congr 1;omega
   ·rw[ZAQ (by omega),Array.getElem?_eq_none (by omega)]
 simp only[World.mk.injEq];refine⟨by rw[e1];exact hh,e3.1.symm,e2.symm,e3.2.1.symm,e3.2.2.symm⟩
theorem fIZ(e:Ent)(id:Nat):hgetX [(0,some e)] id=if id=0 then some e else none:=by
 have h0:=cAZ;have hf:0<famBase:=by simp[famBase]
 have hne:∀j,j≠0->hget [(0,some e)] j=none:=fun j hj=>by simp only[hget,afZ (ZBd hj)];rfl
 by_cases hi:id=0
 ·subst hi;rw[aqZ hf,ZAT rfl];rfl
 ·rw[ZAQ hi];by_cases hd:dynBase<=id
  ·rw[a2Z hd,hne _ (by have:=(buZ hd).1;omega)];rfl
  ·unfold hgetX;rw[ZAQ hd,hne _ hi,ite_self]
section
variable {P : Program} {ρr : Ren}
theorem iyZ{F:Array Value}{cs:Array Value}{k:Nat}(hk:k<cs.size):(putCells id 0 F cs)[k]? =some (if k<F.size then F[k]! else cs[k]):=by
 unfold putCells;rw[Array.getElem?_mapIdx,ZA7 hk];simp
end
end Go.Ab
namespace Go.Proofs
open Go.Shelf
structure InsLay (P:Program) (ρ:Ren):Prop where
 mixed:P.follows .mixedOrders=true
 f22:Bears P (ρ.f 22) (Body2.n22 ρ)
 x29:(P.funcs[ρ.f 29]?.map fun fn=>(fn.name== "runtime.NumGoroutine",fn.body.isNone,(Extern.findNext fn).isNone,Extern.find fn))=some (false,true,true,some (Extern.SlicesOverlaps.overlaps #[(ρ.t 24),(ρ.t 24)] #[(ρ.t 4)]))
 t0:P.underlying (ρ.t 0)=some (TypeDesc.tuple #[])
 a0:∀w,(isAgg (ρ.t 0)).run P w= .ok false w
 z0:∀w,(Go.sizeOf (ρ.t 0)).run P w= .ok 1 w
 v0:∀w,(zeroValue (ρ.t 0)).run P w= .ok (Value.tuple #[]) w
 t3:P.underlying (ρ.t 3)=some (TypeDesc.int IntKind.i64)
 a3:∀w,(isAgg (ρ.t 3)).run P w= .ok false w
 z3:∀w,(Go.sizeOf (ρ.t 3)).run P w= .ok 1 w
 v3:∀w,(zeroValue (ρ.t 3)).run P w= .ok (Value.int IntKind.i64 0) w
 t4:P.underlying (ρ.t 4)=some (TypeDesc.bool)
 a4:∀w,(isAgg (ρ.t 4)).run P w= .ok false w
 z4:∀w,(Go.sizeOf (ρ.t 4)).run P w= .ok 1 w
 v4:∀w,(zeroValue (ρ.t 4)).run P w= .ok (Value.bool false) w
 t24:P.underlying (ρ.t 24)=some (TypeDesc.slice (ρ.t 9))
 a24:∀w,(isAgg (ρ.t 24)).run P w= .ok false w
 z24:∀w,(Go.sizeOf (ρ.t 24)).run P w= .ok 1 w
 v24:∀w,(zeroValue (ρ.t 24)).run P w= .ok (Value.slice none 0 0) w
open Go.Shelf Go.RowKit Go.Lib
variable {P : Program} {ρ : Ren}
theorem c7Z(Z:Array Value)(q:Nat):(Builtin.zeroCells Z q).size=q*Z.size:=by
 rw[Builtin.zeroCells];simp[Array.size_flatten]
theorem cLZ(w:World)(dT sT ty elem:TypeId)(b o dLen dCap:Nat)(a:Addr)(sLen sCap k:Nat)(cs:List Value)
 (hu:P.underlying dT=some (.slice elem))(hs:(P.info? elem).map (·.size)=some k)(hn:cs.length=Nat.min sLen dLen*k)
 (hsrc:∀j v,cs[j]? =some v->w.cell? (a.add j)=some v)(hc:∀j,j<cs.length->(w.cell? ⟨b,o+j,none⟩).isSome=true)(hf:∀j,j<cs.length->w.frozen? ⟨b,o+j,none⟩=false)(h1:∀v∈cs,v.oneCell'=true):
 (Builtin.copy_ #[dT,sT] ty #[.slice (some ⟨b,o,none⟩) dLen dCap,.slice (some a) sLen sCap]).run P w= .ok (goInt (Nat.min sLen dLen)) (w.setCells b o cs):=by
 have hl:=run_firstCells_some (P:=P) w k (Nat.min sLen dLen) a sLen sCap cs hn hsrc;have hst:=run_storeCells_cells (P:=P) b o cs 0 w (by simpa using hc) (by simpa using hf) h1;cases hq:P.info? elem with
 |none=>simp[hq] at hs
 |some i=>
  have hi:i.size=k:=by simpa[hq] using hs
  simp[Builtin.copy_,run_underlying hu,Builtin.lenOf,sizeOf,typeInfo,hq,hi,hl,hst]
theorem InsLay.overlaps(L:InsLay P ρ){a b:Value}{w w':World}{v:Value}(h:(Extern.SlicesOverlaps.overlaps #[(ρ.t 24),(ρ.t 24)] #[(ρ.t 4)] #[a,b]).run P w= .ok v w'):(callFunc (ρ.f 29) #[a,b]).run P w= .ok (.value v) w':=by
 have hx:=L.x29;cases hq:P.funcs[ρ.f 29]? with
 |none=>rw[hq] at hx;cases hx
 |some fn=>
  rw[hq] at hx;simp only[Option.map_some,Option.some.injEq,Prod.mk.injEq] at hx;obtain⟨h1,h2,h3,h4⟩:=hx;rw[run_callFunc_extern hq h1 h2 (by simpa using h3) h4,h]
  rfl
section
variable (L : InsLay P ρ) {k : Nat} (hk : 0 < k) (z9 : ∀ w, (Go.sizeOf (ρ.t 9)).run P w = .ok k w) {ag : Bool} (a9 : ∀ w, (isAgg (ρ.t 9)).run P w = .ok ag w) (hsz : (P.info? (ρ.t 9)).map (·.size) = some k)
include L hk z9 a9 hsz
set_option maxHeartbeats 4000000 in
set_option maxRecDepth 100000 in
theorem iVZ(b n c i vb m vc:Nat)(cs vs:List Value)(w:World)(hi:i<n)(hm:0<m)(hroom:n+m<=c)(hc63:c<=9223372036854775807)(hvb:vb≠b)
 (hcl:cs.length=n*k)(hvl:vs.length=m*k)
 (hcs:∀j v,cs[j]? =some v->w.cell? ⟨b,j,none⟩=some v)(hsp:∀j,j<(n+m)*k->(w.cell? ⟨b,j,none⟩).isSome=true)(hfz:∀j,j<(n+m)*k->w.frozen? ⟨b,j,none⟩=false)
 (hvs:∀j v,vs[j]? =some v->w.cell? ⟨vb,j,none⟩=some v)(h1c:∀v∈cs,v.oneCell'=true)(h1v:∀v∈vs,v.oneCell'=true)
 (tA tB:TypeId)(kA kB:Nat)(hsa:w.shape? vb=some (tA,kA))(hsb:w.shape? b=some (tB,kB))(hkB:kB≠0)(hfa:w.frozen? ⟨vb,0,none⟩=false)(hfe:w.frozen? ⟨vb,kA,none⟩=false):
 Calls P (ρ.f 22) #[.slice (some ⟨b,0,none⟩) n c,.int .i64 i,.slice (some ⟨vb,0,none⟩) m vc] w fun e w'=>
  e= .returned (.slice (some ⟨b,0,none⟩) (n+m) c)/\w'=(w.drew.setCells b ((i+m)*k) (cs.drop (i*k))).setCells b (i*k) vs:=by
 have t0:=L.t0;have a0:=L.a0;have z0:=L.z0;have v0:=L.v0;have t3:=L.t3;have a3:=L.a3;have z3:=L.z3;have v3:=L.v3;have t4:=L.t4;have a4:=L.a4;have z4:=L.z4;have v4:=L.v4;have t24:=L.t24;have a24:=L.a24;have z24:=L.z24;have v24:=L.v24;have u0:=run_underlying L.t0;have u3:=run_underlying L.t3;have u4:=run_underlying L.t4;have u24:=run_underlying L.t24;have hz1:¬((m:Int)=0):=by omega
 have hz2:¬((i:Int)=(n:Int)):=by omega
 have hov:∀lb cb,(callFunc (ρ.f 29) #[.slice (some ⟨vb,0,none⟩) m vc,.slice (some ⟨b,(i+m)*k,none⟩) lb cb]).run P w= .ok (.value (.bool false)) w:=fun lb cb=>
  L.overlaps (Lib.run_overlaps_apart w (ρ.t 24) (ρ.t 4) (ρ.t 9) L.t24 k z9 ⟨vb,0,none⟩ ⟨b,(i+m)*k,none⟩ m vc lb cb hvb tA tB kA kB hsa hsb hkB hfa hfe)
 have hdl:(cs.drop (i*k)).length=(n-i)*k:=by rw[List.length_drop,hcl,Nat.sub_mul]
 have mixed:=L.mixed;have hw1:IntKind.i64.wrap ((i:Int)+(m:Int))=(i:Int)+(m:Int):=by rw[IntKind.wrap_i64];omega
 have hb1:(0:Int)<=(i:Int)+(m:Int):=by omega
 have hin:i<=n:=by omega
 have htn:((i:Int)+(m:Int)).toNat=i+m:=by omega
 have hb2:¬(c=i+m):=by omega
 have hb3:(i:Int)<=(n:Int)+(m:Int):=by omega
 have hb4:¬(c=i):=by omega
 have hmin:Nat.min (n+m-i) (n+m-(i+m))=n-i:=by simp only[Nat.min_def];split<;>omega
 have hmin2:Nat.min m (n+m-i)=m:=by simp only[Nat.min_def];split<;>omega
 have hnm:(n+m)*k=(i+m)*k+(n-i)*k:=by rw[<-Nat.add_mul];congr 1;omega
 have hnm2:(n+m)*k=i*k+m*k+(n-i)*k:=by rw[<-Nat.add_mul,<-Nat.add_mul];congr 1;omega
 have hcp1:∀ty dc sc,(Builtin.copy_ #[(ρ.t 24),(ρ.t 24)] ty #[.slice (some ⟨b,(i+m)*k,none⟩) (n+m-(i+m)) dc,.slice (some ⟨b,i*k,none⟩) (n+m-i) sc]).run P w.drew= .ok (goInt ((n-i:Nat):Int)) (w.drew.setCells b ((i+m)*k) (cs.drop (i*k))):=fun ty dc sc=>by
  have:=cLZ w.drew (ρ.t 24) (ρ.t 24) ty (ρ.t 9) b ((i+m)*k) (n+m-(i+m)) dc ⟨b,i*k,none⟩ (n+m-i) sc k (cs.drop (i*k)) L.t24 hsz (by rw[hdl,hmin])
   (fun j v hj=>by rw[Addr.add_lit];exact hcs (i*k+j) v (by rwa [List.getElem?_drop] at hj))
   (fun j hj=>hsp _ (by rw[hdl] at hj;omega)) (fun j hj=>hfz _ (by rw[hdl] at hj;omega)) (fun v hv=>h1c v (List.mem_of_mem_drop hv))
  rw[hmin] at this;exact this
 obtain⟨W1,hW1⟩:∃W1,W1=w.drew.setCells b ((i+m)*k) (cs.drop (i*k)):=⟨_,rfl⟩;have hsp1:∀x,x<(n+m)*k->(W1.cell? ⟨b,x,none⟩).isSome=true:=fun x hx=>by
  rw[hW1];exact isSome_setCells b (cs.drop (i*k)) ((i+m)*k) w.drew (fun j hj=>hsp _ (by rw[hdl] at hj;omega)) _ (hsp x hx)
 have hcp2:∀(W:World),(∀x,W.cell? x=W1.cell? x)->(∀x,W.frozen? x=W1.frozen? x)->∀ty dc,(Builtin.copy_ #[(ρ.t 24),(ρ.t 24)] ty #[.slice (some ⟨b,i*k,none⟩) (n+m-i) dc,.slice (some ⟨vb,0,none⟩) m vc]).run P W= .ok (goInt m) (W.setCells b (i*k) vs):=fun W hWc hWf ty dc=>by
  have:=cLZ W (ρ.t 24) (ρ.t 24) ty (ρ.t 9) b (i*k) (n+m-i) dc ⟨vb,0,none⟩ m vc k vs L.t24 hsz (by rw[hvl,hmin2])
   (fun j v hj=>by
    rw[Addr.add_lit,hWc,hW1,World.cell?_setCells_out b _ _ _ _ (fun h _=>absurd h hvb),Nat.zero_add];exact hvs j v hj)
   (fun j hj=>by rw[hWc];exact hsp1 _ (by omega)) (fun j hj=>by rw[hWf,hW1,World.frozen?_setCells];exact hfz _ (by omega)) h1v
  rw[hmin2] at this;exact this
 rw[<-hW1] at hcp1;obtain⟨nm,hnm9,F22⟩:=L.f22
 go_enter F22,Body2.n22_ntmps ρ
 go_wp2_with (simp only[hov])
 go_region_law_o (refine step_copy_runI rfl _ _ (ρ.t 24) (ρ.t 24) rfl _ _ (by simp[Act.eval,Act.put]) (by simp[Act.eval,Act.put]) (hcp1 _ _ _) ?_)
 go_wp2_with (at_builtin;refine wpList_copy_runI _ rfl _ _ (ρ.t 24) (ρ.t 24) rfl _ _ rfl rfl (hcp2 _ (fun _=>rfl) (fun _=>rfl) _ _) ?_)
 go_ret
 first|exact⟨rfl,rfl⟩|exact⟨rfl,by rw[hW1]⟩
omit hk z9 a9 hsz in
include L a9 z9 in
set_option maxHeartbeats 4000000 in
set_option maxRecDepth 100000 in
theorem eoZ{i0:TypeInfo}(hi0:P.info? (ρ.t 9)=some i0)(hs0:i0.size=k)(b n c vb m vc:Nat)(vs:List Value)(w:World)(hm:0<m)(hroom:n+m<=c)(hc63:c<=9223372036854775807)
 (hvl:vs.length=m*k)(hsp:∀j,j<m*k->(w.cell? ⟨b,n*k+j,none⟩).isSome=true)(hfz:∀j,j<m*k->w.frozen? ⟨b,n*k+j,none⟩=false)
 (hvs:∀j v,vs[j]? =some v->w.cell? ⟨vb,j,none⟩=some v)(h1v:∀v∈vs,v.oneCell'=true):
 Calls P (ρ.f 22) #[.slice (some ⟨b,0,none⟩) n c,.int .i64 n,.slice (some ⟨vb,0,none⟩) m vc] w fun e w'=>
  e= .returned (.slice (some ⟨b,0,none⟩) (n+m) c)/\w'=w.setCells b (n*k) vs:=by
 have t0:=L.t0;have a0:=L.a0;have z0:=L.z0;have v0:=L.v0;have t3:=L.t3;have a3:=L.a3;have z3:=L.z3;have v3:=L.v3;have t4:=L.t4;have a4:=L.a4;have z4:=L.z4;have v4:=L.v4;have t24:=L.t24;have a24:=L.a24;have z24:=L.z24;have v24:=L.v24;have u0:=run_underlying L.t0;have u3:=run_underlying L.t3;have u4:=run_underlying L.t4;have u24:=run_underlying L.t24;have mixed:=L.mixed;have hz1:¬((m:Int)=0):=by omega
 have hsrc:Src P i0.size (ρ.t 24) (.slice (some ⟨vb,0,none⟩) m vc) m vs w:=by
  rw[hs0];exact Src.ofSlice w L.t24 ⟨vb,0,none⟩ m vc vs hvl (fun j u hj=>by rw[Addr.add_lit,Nat.zero_add];exact hvs j u hj) h1v
 have hrun:∀ty,(Builtin.append_ #[(ρ.t 24),(ρ.t 24)] ty #[.slice (some ⟨b,0,none⟩) n c,.slice (some ⟨vb,0,none⟩) m vc]).run P w= .ok (.slice (some ⟨b,0,none⟩) (n+m) c) (w.setCells b (n*k) vs):=fun ty=>by
  have:=run_append_room_src w (ρ.t 24) (ρ.t 24) ty (ρ.t 9) i0 L.t24 hi0 b 0 n c _ m vs hsrc hroom (fun j hj=>by rw[hs0,Nat.zero_add];exact hsp j (by omega)) (fun j hj=>by rw[hs0,Nat.zero_add];exact hfz j (by omega));rw[hs0,Nat.zero_add] at this;exact this
 obtain⟨nm,hnm9,F22⟩:=L.f22
 go_enter F22,Body2.n22_ntmps ρ
 go_wp2_with (at_builtin;refine Lib.wpList_append_run _ rfl _ _ _ _ rfl _ _ rfl rfl _ _ (hrun _) ?_)
 go_ret
 exact⟨rfl,rfl⟩
omit hk z9 a9 hsz in
include L a9 z9 in
set_option maxHeartbeats 4000000 in
set_option maxRecDepth 100000 in
theorem bKZ{i0:TypeInfo}{zv:Value}{Zc:Array Value}(hZ:Zc=zv.cells)(hi0:P.info? (ρ.t 9)=some i0)(hs0:i0.size=k)(hz0:i0.zero=some zv)(base:Option Addr)(n c vb m vc:Nat)(cs vs:List Value)(w:World)(hm:0<m)(hnc:n<=c)(hroom:c<n+m)(hbig:(n+m)*i0.bytes<=140737488355328)(h48:n+m<=140737488355328)
 (hcl:cs.length=n*k)(hvl:vs.length=m*k)(hnil:base=none->n=0)
 (hcs:∀a,base=some a->∀j v,cs[j]? =some v->w.cell? (a.add j)=some v)
 (hvs:∀j v,vs[j]? =some v->w.cell? ⟨vb,j,none⟩=some v)(h1v:∀v∈vs,v.oneCell'=true):
 Calls P (ρ.f 22) #[.slice base n c,.int .i64 n,.slice (some ⟨vb,0,none⟩) m vc] w fun e w'=>
  e= .returned (.slice (some ⟨w.heap.size,0,none⟩) (n+m) (grownCap w (n+m) c (ρ.t 9)))/\
  w'=w.drew.alloc (.cells ((cs++vs).toArray++Builtin.zeroCells Zc (grownCap w (n+m) c (ρ.t 9)-(n+m))) (ρ.t 9)):=by
 have t0:=L.t0;have a0:=L.a0;have z0:=L.z0;have v0:=L.v0;have t3:=L.t3;have a3:=L.a3;have z3:=L.z3;have v3:=L.v3;have t4:=L.t4;have a4:=L.a4;have z4:=L.z4;have v4:=L.v4;have t24:=L.t24;have a24:=L.a24;have z24:=L.z24;have v24:=L.v24;have u0:=run_underlying L.t0;have u3:=run_underlying L.t3;have u4:=run_underlying L.t4;have u24:=run_underlying L.t24;have mixed:=L.mixed;have hz1:¬((m:Int)=0):=by omega
 have hsrc:Src P i0.size (ρ.t 24) (.slice (some ⟨vb,0,none⟩) m vc) m vs w:=by
  rw[hs0];exact Src.ofSlice w L.t24 ⟨vb,0,none⟩ m vc vs hvl (fun j u hj=>by rw[Addr.add_lit,Nat.zero_add];exact hvs j u hj) h1v
 have hold:(Builtin.firstCells i0.size n (.slice base n c)).run P w.drew= .ok cs.toArray w.drew:=by
  rw[hs0];cases base with
  |none=>
   have h0:=hnil rfl;subst h0;obtain rfl:cs=[]:=List.eq_nil_of_length_eq_zero (by rw[hcl,Nat.zero_mul]);exact run_firstCells_none w.drew k 0 0 c
  |some a=>exact run_firstCells_some w.drew k n a n c cs hcl (fun j v hj=>hcs a rfl j v hj)
 have hrun:∀ty,(Builtin.append_ #[(ρ.t 24),(ρ.t 24)] ty #[.slice base n c,.slice (some ⟨vb,0,none⟩) m vc]).run P w= .ok (.slice (some ⟨w.heap.size,0,none⟩) (n+m) (grownCap w (n+m) c (ρ.t 9))) (w.drew.alloc (.cells ((cs++vs).toArray++Builtin.zeroCells Zc (grownCap w (n+m) c (ρ.t 9)-(n+m))) (ρ.t 9))):=fun ty=>by
  rw[hZ];exact run_append_grow_src w (ρ.t 24) (ρ.t 24) ty (ρ.t 9) i0 _ L.t24 hi0 hz0 base n c cs hold _ m vs hsrc hroom (by omega) (growslice_fits hroom hbig)
 clear hold hsrc hz0 hZ;obtain⟨nm,hnm9,F22⟩:=L.f22
 go_enter F22,Body2.n22_ntmps ρ
 cases base with
 |none=>
  have h0:=hnil rfl;subst h0
  go_wp2_with (at_builtin;refine Lib.wpList_append_run _ rfl _ _ _ _ rfl _ _ rfl rfl _ _ (hrun _) ?_)
  all_goals(go_ret;exact⟨rfl,rfl⟩)
 |some a=>
  obtain⟨ab,ao,asp⟩:=a
  go_wp2_with (at_builtin;refine Lib.wpList_append_run _ rfl _ _ _ _ rfl _ _ rfl rfl _ _ (hrun _) ?_)
  all_goals(go_ret;exact⟨rfl,rfl⟩)
set_option maxHeartbeats 4000000 in
set_option maxRecDepth 100000 in
theorem k8Z{i0:TypeInfo}{zv:Value}{Zc:Array Value}(hZ:Zc=zv.cells)(hi0:P.info? (ρ.t 9)=some i0)(hs0:i0.size=k)(hz0:i0.zero=some zv)(hzl:Zc.size=k)(b n c i vb m vc:Nat)(cs vs:List Value)(w:World)(hi:i<n)(hm:0<m)(hnc:n<=c)(hroom:c<n+m)(hbig:(n+m)*i0.bytes<=140737488355328)(h48:n+m<=140737488355328)
 (hcl:cs.length=n*k)(hvl:vs.length=m*k)
 (hcs:∀j v,cs[j]? =some v->w.cell? ⟨b,j,none⟩=some v)
 (hvs:∀j v,vs[j]? =some v->w.cell? ⟨vb,j,none⟩=some v)(h1c:∀v∈cs,v.oneCell'=true)(h1v:∀v∈vs,v.oneCell'=true):
 Calls P (ρ.f 22) #[.slice (some ⟨b,0,none⟩) n c,.int .i64 i,.slice (some ⟨vb,0,none⟩) m vc] w fun e w'=>
  e= .returned (.slice (some ⟨w.heap.size,0,none⟩) (n+m) (grownCap w (n+m) c (ρ.t 9)))/\
  w'=(((w.alloc (.cells ((cs.take (i*k)).toArray++Builtin.zeroCells Zc (n+m-i)++Builtin.zeroCells Zc (grownCap w (n+m) c (ρ.t 9)-(n+m))) (ρ.t 9))).drew.setCells w.heap.size (i*k) vs).drew).setCells w.heap.size ((i+m)*k) (cs.drop (i*k)):=by
 have t0:=L.t0;have a0:=L.a0;have z0:=L.z0;have v0:=L.v0;have t3:=L.t3;have a3:=L.a3;have z3:=L.z3;have v3:=L.v3;have t4:=L.t4;have a4:=L.a4;have z4:=L.z4;have v4:=L.v4;have t24:=L.t24;have a24:=L.a24;have z24:=L.z24;have v24:=L.v24;have u0:=run_underlying L.t0;have u3:=run_underlying L.t3;have u4:=run_underlying L.t4;have u24:=run_underlying L.t24;have mixed:=L.mixed;have hz1:¬((m:Int)=0):=by omega
 have hz2:¬((i:Int)=(n:Int)):=by omega
 have hz3:(c:Int)<(n:Int)+(m:Int):=by omega
 have hik0:i*k<n*k:=Nat.mul_lt_mul_of_pos_right hi hk;have hmk0:0<m*k:=Nat.mul_pos hm hk;have hbw:b<w.heap.size:=block_lt_of_cell (hcs 0 _ (List.getElem?_eq_getElem (by omega)));have hvw:vb<w.heap.size:=block_lt_of_cell (hvs 0 _ (List.getElem?_eq_getElem (by omega)));have hkk:(n:Int)+(m:Int)-(i:Int)=((n+m-i:Nat):Int):=by omega
 have hik:i+(n+m-i)=n+m:=by omega
 have hold:(Builtin.firstCells i0.size i (.slice (some ⟨b,0,none⟩) i c)).run P w.drew= .ok (cs.take (i*k)).toArray w.drew:=by
  rw[hs0];exact run_firstCells_some w.drew k i ⟨b,0,none⟩ i c (cs.take (i*k)) (by rw[List.length_take];omega) (fun j v hj=>by
   rw[Addr.add_lit,Nat.zero_add];rw[List.getElem?_take] at hj;split at hj
   ·exact hcs j v hj
   ·cases hj)
 have hrz:∀ty,(Builtin.append_ #[(ρ.t 24),(ρ.t 3)] ty #[.slice (some ⟨b,0,none⟩) i c,.int .i64 ((n:Int)+(m:Int)-(i:Int))]).run P w=
  .ok (.slice (some ⟨w.heap.size,0,none⟩) (n+m) (grownCap w (n+m) c (ρ.t 9))) (w.drew.alloc (.cells ((cs.take (i*k)).toArray++Builtin.zeroCells Zc (n+m-i)++Builtin.zeroCells Zc (grownCap w (n+m) c (ρ.t 9)-(n+m))) (ρ.t 9))):=fun ty=>by
  have h:=Lib.run_append_grow_zeros w (ρ.t 24) (ρ.t 3) ty (ρ.t 9) i0 _ .i64 .i64 L.t24 L.t3 hi0 hz0 (some ⟨b,0,none⟩) i c (cs.take (i*k)) hold (n+m-i) (by omega) (by omega) (by omega) (by omega) (by
   have:(n+m-i)*i0.bytes<=(n+m)*i0.bytes:=Nat.mul_le_mul_right _ (by omega);omega) (by rw[hik];exact growslice_fits hroom hbig)
  rw[hik] at h;rw[hkk,hZ];exact h
 obtain⟨G,hG⟩:∃G,G=grownCap w (n+m) c (ρ.t 9):=⟨_,rfl⟩;obtain⟨ROW,hROW⟩:∃ROW:Array Value,ROW=(cs.take (i*k)).toArray++Builtin.zeroCells Zc (n+m-i)++Builtin.zeroCells Zc (G-(n+m)):=⟨_,rfl⟩;rw[<-hG] at hrz⊢;rw[<-hROW] at hrz⊢;have hzc:∀q,(Builtin.zeroCells Zc q).size=q*k:=fun q=>by rw[c7Z,hzl]
 have hnm:(n+m)*k=(i+m)*k+(n-i)*k:=by rw[<-Nat.add_mul];congr 1;omega
 have hnm2:(n+m)*k=i*k+m*k+(n-i)*k:=by rw[<-Nat.add_mul,<-Nat.add_mul];congr 1;omega
 have hnm3:(n+m)*k=i*k+(n+m-i)*k:=by rw[<-Nat.add_mul];congr 1;omega
 have hRl:(n+m)*k<=ROW.size:=by
  rw[hROW,Array.size_append,Array.size_append,hzc,hzc,List.size_toArray,List.length_take];omega
 obtain⟨W1,hW1⟩:∃W1,W1=w.drew.alloc (.cells ROW (ρ.t 9)):=⟨_,rfl⟩;rw[<-hW1] at hrz;have hN:∀j,j<(n+m)*k->(W1.cell? ⟨w.heap.size,j,none⟩).isSome=true:=fun j hj=>by
  rw[hW1,World.cell?_alloc_at (w:=w.drew) ROW _ w.heap.size j rfl,Array.getElem?_eq_getElem (by omega)];rfl
 have hNf:∀j,W1.frozen? ⟨w.heap.size,j,none⟩=false:=fun j=>by rw[hW1];exact World.frozen?_alloc_at (w:=w.drew) ROW _ w.heap.size j rfl
 have hOb:∀j v,w.cell? ⟨b,j,none⟩=some v->W1.cell? ⟨b,j,none⟩=some v:=fun j v h=>by rw[hW1,World.cell?_alloc_past (w:=w.drew) _ b j hbw];exact h
 have hOv:∀j v,w.cell? ⟨vb,j,none⟩=some v->W1.cell? ⟨vb,j,none⟩=some v:=fun j v h=>by rw[hW1,World.cell?_alloc_past (w:=w.drew) _ vb j hvw];exact h
 have hminA:Nat.min m (n+m-i)=m:=by simp only[Nat.min_def];split<;>omega
 have hminB:Nat.min (n-i) (n+m-(i+m))=n-i:=by simp only[Nat.min_def];split<;>omega
 have hcpA:∀(W:World),(∀x,W.cell? x=W1.cell? x)->(∀x,W.frozen? x=W1.frozen? x)->∀ty dc,(Builtin.copy_ #[(ρ.t 24),(ρ.t 24)] ty #[.slice (some ⟨w.heap.size,i*k,none⟩) (n+m-i) dc,.slice (some ⟨vb,0,none⟩) m vc]).run P W= .ok (goInt m) (W.setCells w.heap.size (i*k) vs):=fun W hWc hWf ty dc=>by
  have:=cLZ W (ρ.t 24) (ρ.t 24) ty (ρ.t 9) w.heap.size (i*k) (n+m-i) dc ⟨vb,0,none⟩ m vc k vs L.t24 hsz (by rw[hvl,hminA])
   (fun j v hj=>by rw[Addr.add_lit,hWc,Nat.zero_add];exact hOv _ v (hvs j v hj))
   (fun j hj=>by rw[hWc];exact hN _ (by omega)) (fun j hj=>by rw[hWf];exact hNf _) h1v
  rw[hminA] at this;exact this
 have hGn:n+m<=G:=by rw[hG];exact grownCap_ge w _ _ _
 have hG63:G<=9223372036854775807:=by
  have:=grownCap_le_maxLen w (n+m) c (ρ.t 9) (by unfold maxLen;omega);rw[<-hG] at this;unfold maxLen at this;omega
 have hGi:¬(G=i):=by omega
 have hGim:¬(G=i+m):=by omega
 have hci:¬(c=i):=by omega
 have hbN:b≠w.heap.size:=by omega
 have hdl:(cs.drop (i*k)).length=(n-i)*k:=by rw[List.length_drop,hcl,Nat.sub_mul]
 have hcpB:∀(W:World),(∀x,W.cell? x=(W1.setCells w.heap.size (i*k) vs).cell? x)->(∀x,W.frozen? x=(W1.setCells w.heap.size (i*k) vs).frozen? x)->∀ty dc sc,(Builtin.copy_ #[(ρ.t 24),(ρ.t 24)] ty #[.slice (some ⟨w.heap.size,(i+m)*k,none⟩) (n+m-(i+m)) dc,.slice (some ⟨b,i*k,none⟩) (n-i) sc]).run P W= .ok (goInt ((n-i:Nat):Int)) (W.setCells w.heap.size ((i+m)*k) (cs.drop (i*k))):=fun W hWc hWf ty dc sc=>by
  have:=cLZ W (ρ.t 24) (ρ.t 24) ty (ρ.t 9) w.heap.size ((i+m)*k) (n+m-(i+m)) dc ⟨b,i*k,none⟩ (n-i) sc k (cs.drop (i*k)) L.t24 hsz (by rw[hdl,hminB])
   (fun j v hj=>by
    rw[Addr.add_lit,hWc,World.cell?_setCells_out _ _ _ _ _ (fun h _=>absurd h hbN)];exact hOb _ v (hcs (i*k+j) v (by rwa [List.getElem?_drop] at hj)))
   (fun j hj=>by rw[hWc];exact isSome_setCells w.heap.size vs (i*k) W1 (fun t ht=>hN _ (by omega)) _ (hN _ (by rw[hdl] at hj;omega)))
   (fun j hj=>by rw[hWf,World.frozen?_setCells];exact hNf _) (fun v hv=>h1c v (List.mem_of_mem_drop hv))
  rw[hminB] at this;exact this
 subst hW1;have hE1:∀x,((w.alloc (.cells ROW (ρ.t 9))).drew).cell? x=(w.drew.alloc (.cells ROW (ρ.t 9))).cell? x:=fun x=>rfl;have hE2:∀x,((w.alloc (.cells ROW (ρ.t 9))).drew).frozen? x=(w.drew.alloc (.cells ROW (ρ.t 9))).frozen? x:=fun x=>rfl;have hF1:∀x,(((w.alloc (.cells ROW (ρ.t 9))).drew.setCells w.heap.size (i*k) vs).drew).cell? x=((w.drew.alloc (.cells ROW (ρ.t 9))).setCells w.heap.size (i*k) vs).cell? x:=fun x=>rfl;have hF2:∀x,(((w.alloc (.cells ROW (ρ.t 9))).drew.setCells w.heap.size (i*k) vs).drew).frozen? x=((w.drew.alloc (.cells ROW (ρ.t 9))).setCells w.heap.size (i*k) vs).frozen? x:=fun x=>rfl;have hw1:IntKind.i64.wrap ((i:Int)+(m:Int))=(i:Int)+(m:Int):=by rw[IntKind.wrap_i64];omega
 have hb1:(0:Int)<=(i:Int)+(m:Int):=by omega
 have hin:i<=n:=by omega
 have htn:((i:Int)+(m:Int)).toNat=i+m:=by omega
 have hb3:(i:Int)<=(n:Int):=by omega
 clear hz0 hZ hkk hik hold hROW hG hRl hnm hnm2 hnm3;obtain⟨nm,hnm9,F22⟩:=L.f22
 go_enter F22,Body2.n22_ntmps ρ
 go_wp2_with (first
  |(at_builtin;refine Lib.wpList_append_run _ rfl _ _ _ _ rfl _ _ rfl rfl _ _ (hrz _) ?_)
  |(at_builtin;refine wpList_copy_runI _ rfl _ _ (ρ.t 24) (ρ.t 24) rfl _ _ rfl rfl (hcpA _ hE1 hE2 _ _) ?_)
  |(at_builtin;refine wpList_copy_runI _ rfl _ _ (ρ.t 24) (ρ.t 24) rfl _ _ rfl rfl (hcpB _ (fun _=>rfl) (fun _=>rfl) _ _ _) ?_))
 go_region_law_o (refine step_copy_runI rfl _ _ (ρ.t 24) (ρ.t 24) rfl (.slice (some ⟨w.heap.size,(i+m)*k,none⟩) (n+m-(i+m)) (G-(i+m))) (.slice (some ⟨b,i*k,none⟩) (n-i) (c-i)) (by simp[Act.eval,Act.put]) (by simp[Act.eval,Act.put]) (hcpB _ hF1 hF2 (ρ.t 3) (G-(i+m)) (c-i)) ?_)
 go_wp2
 go_ret
 exact⟨rfl,rfl⟩
end
end Go.Proofs
namespace Go.Ab
open Go.Proofs Go.Shelf
section
variable {z : Z} {H : Hp}
theorem dcZ{H H':Hp}(h:∀j,hget H j=hget H' j)(id:Nat):hgetX H id=hgetX H' id:=by
 unfold hgetX;rw[h,h]
theorem HRep.forget(hH:HRep z H){H2:Hp}{a:Nat}(ha:a<famBase)(hg:∀j,hget H2 j=hget H j)(hk:∀j,hkey H2 j=(hkey H j&& !Nat.beq a j)):HRep {z with D:=fun k=>z.D k\/k=a} H2:=by
 have h0:=cAZ;have hkk:∀j,hkey H2 j=true->hkey H j=true:=fun j h=>by rw[hk] at h;simp at h;exact h.1
 refine⟨fun id e he=>(hH.ent id e (by rw[<-dcZ hg];exact he)).rho rfl rfl (.inl (.eq rfl)) rfl (fun _ _=>rfl) (fun _ _ _ _ _ h=>h),fun i i' e e' g sz n g' sz' n' hii h1 h2=>hH.inj i i' e e' g sz n g' sz' n' hii (by rw[<-dcZ hg];exact h1) (by rw[<-dcZ hg];exact h2),fun id hid=> ?_,hH.sub,fun id e h=>hH.fam id e (by rw[<-hg];exact h),fun i h=>hH.key i (hkk i h),fun i hd h=> ?_,hH.nos⟩
 ·by_cases hia:id=a
  ·exact .inr (.inr hia)
  ·have:hkeyX H id=false:=by
    unfold hkeyX at hid⊢;by_cases hd:dynBase<=id
    ·rw[ZAT hd] at hid⊢;have hra:a≠rt id:=by have:=(buZ hd).1;omega
     rw[hg,hk] at hid;have hb:Nat.beq a (rt id)=false:=afZ hra;rw[hb] at hid;simpa using hid
    ·rw[ZAQ hd] at hid⊢;by_cases hf:famBase<=id
     ·rw[ZAT hf]
     ·rw[ZAQ hf] at hid⊢;rw[hk,afZ (ZBd hia)] at hid;simpa using hid
   rcases hH.fresh id this with h2|h2
   ·exact .inl h2
   ·exact .inr (.inl h2)
 ·rintro(h2|h2)
  ·exact hH.dyn i hd (hkk _ h) h2
  ·omega
end
section
variable {w : World} {M : Nat → Prop} {ρ : Rho} {u : Ty}
theorem RowsIn.eq{l:List u.den}{cs cs':List Value}(h:RowsIn w M ρ u l cs)(he:∀j,j<l.length*u.cells->cs'[j]? =cs[j]?):RowsIn w M ρ u l cs':=fun i x hx=>by
 obtain⟨us,h1,h2⟩:=h i x hx;refine⟨us,h1,fun j v hj=> ?_⟩;have hi:=(ZAC.1 hx).1;have hjl:=(ZAC.1 hj).1;rw[h1.len] at hjl;have hup:(i+1)*u.cells<=l.length*u.cells:=ZAf _ hi;rw[ZBY] at hup;rw[he _ (by omega)];exact h2 j v hj
theorem RowsIn.app{l m:List u.den}{cs ds:List Value}(h:RowsIn w M ρ u l cs)(hc:cs.length=l.length*u.cells)(h':RowsIn w M ρ u m ds):RowsIn w M ρ u (l++m) (cs++ds):=fun i x hx=>by
 by_cases hi:i<l.length
 ·rw[ZAL hi] at hx;obtain⟨us,h1,h2⟩:=h i x hx;refine⟨us,h1,fun j v hj=> ?_⟩;have:=h2 j v hj;rw[ZAL (ZAC.1 this).1];exact this
 ·rw[ZAO (by omega)] at hx;obtain⟨us,h1,h2⟩:=h' _ x hx;refine⟨us,h1,fun j v hj=> ?_⟩;have:=h2 j v hj;have e:i*u.cells=cs.length+(i-l.length)*u.cells:=by rw[hc,<-Nat.add_mul];congr 1;omega
  rw[e,ZBq,ZAO (by omega),ZAz];exact this
theorem RowsIn.takeC{l:List u.den}{cs:List Value}(h:RowsIn w M ρ u l cs)(q:Nat):RowsIn w M ρ u (l.take q) (cs.take (q*u.cells)):=
 (h.take q).eq fun j hj=>by
  rw[ZAn,ZAT];have:(l.take q).length*u.cells<=q*u.cells:=ZAf _ (by rw[ZAS];omega);omega
theorem RowsIn.dropC{l:List u.den}{cs:List Value}(h:RowsIn w M ρ u l cs)(q:Nat):RowsIn w M ρ u (l.drop q) (cs.drop (q*u.cells)):=fun i x hx=>by
 rw[ZAw] at hx;obtain⟨us,h1,h2⟩:=h _ x hx;refine⟨us,h1,fun j v hj=> ?_⟩;rw[ZAw];have:=h2 j v hj;rw[ZAo,ZBq] at this;exact this
theorem RowsIn.cut{l:List u.den}{cs:List Value}(h:RowsIn w M ρ u l cs)(hc:l.length*u.cells<=cs.length)(h0:0<u.cells):
 RowsIn w M ρ u l (cs.take (l.length*u.cells))/\(cs.take (l.length*u.cells)).length=l.length*u.cells/\∀v∈cs.take (l.length*u.cells),v.oneCell'=true:=by
 refine⟨h.eq fun j hj=>by rw[ZAn,ZAT hj],by rw[ZAS];omega,fun v hv=> ?_⟩;obtain⟨j,hj⟩:=ZAe hv;rw[ZAn] at hj;split at hj
 ·rename_i hlt;have hi:j/u.cells<l.length:=Nat.div_lt_of_lt_mul (by rw[Nat.mul_comm];exact hlt);obtain⟨us,h1,h2⟩:=h _ _ (ZAD hi);have hr:j%u.cells<us.length:=by rw[h1.len];exact ZCF _ h0
  have:=h2 _ _ (ZAD hr);rw[show j/u.cells*u.cells+j%u.cells=j from by rw[Nat.mul_comm];exact Nat.div_add_mod _ _] at this;rw[this] at hj;cases hj;exact h1.one _ (ZBo hr)
 ·cases hj
end
theorem pMZ{z:Z}{a b c:AV}{vals:List Value}(h:AReps z [a,b,c] vals):∃u v w,vals=[u,v,w]/\ARep z a u/\ARep z b v/\ARep z c w:=by
 obtain⟨h1,h2⟩:=h
 match vals,h1,h2 with
 |[u,v,w],_,h2=>exact⟨u,v,w,rfl,h2 0 a u rfl rfl,h2 1 b v rfl rfl,h2 2 c w rfl rfl⟩
def insS(u:Ty)(by_:Nat)(t:Int×(List u.den×List u.den)):Option (List u.den×List u.den):=
 (upto? t.1 t.2.1.length).bind fun q=>need (Nat.blt 0 t.2.2.length&&Nat.ble ((t.2.1.length+t.2.2.length)*by_) room&&Nat.ble (t.2.1.length+t.2.2.length) room) (some (t.2.2,t.2.1.take q++t.2.2++t.2.1.drop q))
section
variable {P : Program} {ρr : Ren}
theorem fJZ(L:InsLay P ρr){u:Ty}{by_:Nat}{ag:Bool}(h0:0<u.cells)(hub:u≠.byte)(z9:∀w,(Go.sizeOf (ρr.t 9)).run P w= .ok u.cells w)(a9:∀w,(isAgg (ρr.t 9)).run P w= .ok ag w)
 (hi9:(P.info? (ρr.t 9)).map (fun i=>(i.size,i.bytes,i.zero.map fun v=>v.cells.size))=some (u.cells,by_,some u.cells))
 (hent:∃fn c,P.funcs[ρr.f 22]? =some fn/\fn.body=some c/\(fn.name== "runtime.NumGoroutine")=false):
 Told P ⟨ρr.f 22,⟨.cons (.slf u.cells 0) (.cons (.p (.int .i64)) (.cons (.slf u.cells 1) .nil)),[(0,false,.rows (ρr.t 9) u),(1,false,.rows (ρr.t 9) u)]⟩,[⟨.cons (.slf u.cells 2) .nil,[(1,false,.rows (ρr.t 9) u),(2,false,.rows (ρr.t 9) u)]⟩],insS u by_⟩:=by
 refine Told.of hent fun t r hr z vals hH hv hD=> ?_;obtain⟨⟨qi,l,v⟩,rfl⟩:∃t':Int×(List u.den×List u.den),t'=t:=⟨t,rfl⟩;have hr:insS u by_ (qi,(l,v))=some r:=hr;unfold insS at hr;dsimp only at hr;obtain⟨q,hq,hr⟩:=ZAF.1 hr;obtain⟨hr0,hr⟩:=aeZ.1 hr;simp only[ZAB,ZBW,ZAm,show room=140737488355328 from rfl] at hr0;injection hr with hr;subst hr;have hH:HRep z [(0,some ⟨false,.rows (ρr.t 9) u l⟩),(1,some ⟨false,.rows (ρr.t 9) u v⟩)]:=hH;have hv:AReps z [.slf u.cells 0,.p (.int .i64) qi,.slf u.cells 1] vals:=hv;obtain⟨v1,v2,v3,rfl,k1,k2,k3⟩:=pMZ hv;obtain rfl:=k2.v.int;have hqi:0<=qi/\qi<=l.length/\q=qi.toNat:=by
  unfold upto? at hq;split at hq
  ·rename_i h;simp at hq;exact⟨h.1,h.2,hq.symm⟩
  ·cases hq
 obtain rfl:qi=(q:Int):=by omega
 have hql:q<=l.length:=by omega
 have hg0:hget [(0,some (⟨false,.rows (ρr.t 9) u l⟩:Ent)),(1,some ⟨false,.rows (ρr.t 9) u v⟩)] 0=some ⟨false,.rows (ρr.t 9) u l⟩:=rfl;have hg1:hget [(0,some (⟨false,.rows (ρr.t 9) u l⟩:Ent)),(1,some ⟨false,.rows (ρr.t 9) u v⟩)] 1=some ⟨false,.rows (ρr.t 9) u v⟩:=rfl;obtain⟨i0,hi0,hi0'⟩:=ZAH.1 hi9;simp only[ZAs] at hi0';obtain⟨hs0,hby,hz0⟩:=hi0';obtain⟨zv,hzv,hzl⟩:=ZAH.1 hz0;have hsz:(P.info? (ρr.t 9)).map (·.size)=some u.cells:=by rw[hi0];simp[hs0]
 have hbig:(l.length+v.length)*i0.bytes<=140737488355328:=by rw[hby];exact hr0.1.2
 have hfb:(0:Nat)<famBase/\(1:Nat)<famBase/\(2:Nat)<famBase:=by simp[famBase]
 cases k3 with
 |slfV _ _ A hρ=>
  have:v=[]:=(hH.virt hg1 hρ).1;rw[this] at hr0;simp at hr0
 |slf _ _ g3 sz3 m c3 hρ3 hn3 hs3 hm3=>
 obtain⟨hlt3,hC3,_,cs3,fr3,b1,b2,b3,b4,b5,b6,b7⟩:=hH.real hg1 hρ3;obtain rfl:v.length=m:=b4;have R3:RowsIn z.w z.M z.ρ u v cs3.toList:=fun i x hx=>by obtain⟨us,q1,q2⟩:=b7 i x hx;exact⟨us,q1,fun j v hj=>by simpa using q2 j v hj⟩
 obtain⟨V1,V2,V3⟩:=R3.cut (by rw[ZA3 (xs:=cs3)];omega) h0;generalize hVS:cs3.toList.take (v.length*u.cells)=VS at V1 V2 V3;have hvs:∀j x,VS[j]? =some x->z.w.cell? ⟨g3,j,none⟩=some x:=fun j x hj=>by
  rw[<-hVS,ZAn] at hj;split at hj
  ·rw[bjZ b1];simpa using hj
  ·cases hj
 have htup:∀(z':Z) (x:Value),ARep z' (.slf u.cells 2) x->ARep z' (tupA [.slf u.cells 2]) x:=fun z' x h=>h;have fin:∀(w':World) (val:Value) (z':Z),z'.w=w'->HRep z' [(0,none),(1,some ⟨false,.rows (ρr.t 9) u v⟩),(2,some ⟨false,.rows (ρr.t 9) u (l.take q++v++l.drop q)⟩)]->Nx z z'->ARep z' (.slf u.cells 2) val->
  ∃vv z'',Ending.returned val= .returned vv/\z''.w=w'/\Nx z {z'' with D:=z.D}/\(∀k,z''.D k->k∈hkKeys [(0,false,BKd.rows (ρr.t 9) u),(1,false,BKd.rows (ρr.t 9) u)])/\
   OutS.on [⟨.cons (.slf u.cells 2) .nil,[(1,false,.rows (ρr.t 9) u),(2,false,.rows (ρr.t 9) u)]⟩] (v,l.take q++v++l.drop q) fun o x=>HRep z'' (o.emb x).2/\ARep z'' (tupA (o.emb x).1) vv:=fun w' val z' e1 e2 e3 e4=>by
  refine⟨val,{z' with D:=fun k=>z'.D k\/k=0},rfl,e1,?_,fun k hk=> ?_,?_,?_⟩
  ·exact⟨e3.os,e3.tape,e3.output,e3.size,e3.block,e3.subM,e3.subC,e3.keepM,e3.ext,rfl⟩
  ·rcases hk with hk|hk
   ·rw[e3.dom] at hk;exact absurd hk (hD k)
   ·subst hk;simp[hkKeys]
  ·have:=e2.forget (a:=0) hfb.1 (H2:=[(1,some ⟨false,.rows (ρr.t 9) u v⟩),(2,some ⟨false,.rows (ρr.t 9) u (l.take q++v++l.drop q)⟩)]) (fun j=>by
    simp only[hget];cases hb:Nat.beq 0 j with
    |false=>rfl
    |true=>
     have:j=0:=(ZB5 hb).symm;subst this
     rfl) (fun j=>by
    simp only[hkey];cases hb:Nat.beq 0 j with
    |false=>simp
    |true=>
     have:j=0:=(ZB5 hb).symm;subst this
     rfl)
   exact this
  ·exact e4.less rfl rfl fun g h=>h
 have hok2:hkey [(0,(none:Option Ent)),(1,some ⟨false,.rows (ρr.t 9) u v⟩)] 2=false/\2<famBase:=⟨rfl,hfb.2.2⟩;have nD:∀k,¬z.D k:=hD;have h3len:(l.take q++v++l.drop q).length=l.length+v.length:=by simp;omega
 have hVS0:VS.length=v.length*u.cells:=V2;have hvz:∀(W:World),(∀x,W.cell? x=z.w.cell? x)->True:=fun _ _=>trivial;cases k1 with
 |slfV _ _ A hρ=>
  have hl:l=[]:=(hH.virt hg0 hρ).1;subst hl;obtain rfl:q=0:=by simpa using hql
  have hins:=bKZ (k:=u.cells) L z9 a9 (Zc:=zv.cells) rfl hi0 hs0 hzv A 0 0 g3 v.length c3 [] VS z.w hr0.1.1 (ZAM _) (by omega) (by simpa using hbig) (by have:=hr0.2;simpa using this) (by simp) V2 (fun _=>rfl) (fun a _ j x hx=>by simp at hx) hvs V3;refine hins.mono ?_;rintro en w' ⟨rfl,rfl⟩;generalize hG:grownCap z.w (0+v.length) 0 (ρr.t 9)=G at*;have hge:v.length<=G:=by rw[<-hG];have:=grownCap_ge z.w (0+v.length) 0 (ρr.t 9);omega
  have hGm:G<=maxLen:=by rw[<-hG];exact grownCap_le_maxLen _ _ _ _ (by unfold maxLen;omega)
  have hcs:(([]++VS).toArray++Builtin.zeroCells zv.cells (G-(0+v.length))).size=G*u.cells:=by
   rw[ZBH,size_zeroCells,hzl,ZBA,ZBO,V2,<-Nat.add_mul];congr 1;omega
  obtain⟨z',p1,p2,p3,p4⟩:=aKZ (z:=z) (w':=z.w.drew.alloc (.cells (([]++VS).toArray++Builtin.zeroCells zv.cells (G-(0+v.length))) (ρr.t 9))) (e:=ρr.t 9) (l:=([]:List u.den).take 0++v++([]:List u.den).drop 0) (hH.kill (ahZ hg0)) hok2 (nD 2)
   (heap_alloc_new z.w.drew _) (okR0 _) rfl ⟨rfl,ZBb _⟩ rfl (fun k hk=>heap_alloc_old z.w.drew _ hk) (by rw[hcs];simpa using ZAf _ hge) h0 (by
    have:(([]:List u.den).take 0++v++([]:List u.den).drop 0)=v:=by simp
    rw[this];refine V1.eq fun j hj=> ?_;rw[ZBp,ZAL (by simp;omega)];simp)
  exact fin _ _ z' p1 p2 p3 (.slf _ _ _ _ (0+v.length) _ (by rw[p4];congr 1) (by simpa using hge) (by rw[hcs];exact ZAM _) hGm)
 |slf _ _ g sz n c hρ hn hs hm=>
 obtain⟨hlt,hC,_,cs,fr,a1,a2,a3,a4,a5,a6,a7⟩:=hH.real hg0 hρ;obtain rfl:l.length=n:=a4;have hne:g3≠g:=hH.inj 1 0 _ _ g3 sz3 _ g sz _ (by decide) (by rw[aqZ hfb.2.1];exact hg1) (by rw[aqZ hfb.1];exact hg0) rfl rfl hρ3 hρ fun h=>bwZ (by decide) h.1;have R1:RowsIn z.w z.M z.ρ u l cs.toList:=fun i x hx=>by obtain⟨us,q1,q2⟩:=a7 i x hx;exact⟨us,q1,fun j v hj=>by simpa using q2 j v hj⟩
 obtain⟨S1,S2,S3⟩:=R1.cut (by rw[ZA3 (xs:=cs)];omega) h0;generalize hCS:cs.toList.take (l.length*u.cells)=CS at S1 S2 S3;have hcsj:∀j x,CS[j]? =some x->cs[j]? =some x:=fun j x hj=>by
  rw[<-hCS,ZAn] at hj;split at hj
  ·simpa using hj
  ·cases hj
 have hcell:∀j x,CS[j]? =some x->z.w.cell? ⟨g,j,none⟩=some x:=fun j x hj=>by rw[bjZ a1];exact hcsj j x hj
 have hcsl:∀j,j<l.length*u.cells->cs[j]? =CS[j]? :=fun j hj=>by rw[<-hCS,ZAn,ZAT hj];simp
 have hqk:q*u.cells<=l.length*u.cells:=ZAf _ hql;have RL:RowsIn z.w z.M z.ρ u (l.take q++v++l.drop q) (CS.take (q*u.cells)++VS++CS.drop (q*u.cells)):=by
  refine RowsIn.app (RowsIn.app (S1.takeC q) ?_ V1) ?_ (S1.dropC q)
  ·rw[ZAS,ZAS,S2,ZA8 hqk,ZA8 hql]
  ·rw[ZAY,ZAY,ZAS,ZAS,S2,V2,ZA8 hqk,ZA8 hql,ZAo]
 have hL':(CS.take (q*u.cells)++VS++CS.drop (q*u.cells)).length=(l.length+v.length)*u.cells:=by
  rw[ZAY,ZAY,ZAS,ZAv,S2,V2,ZA8 hqk,ZAo];omega
 have hdk:(CS.drop (q*u.cells)).length=(l.length-q)*u.cells:=by rw[ZAv,S2,ZCI]
 have hget3:∀j,(CS.take (q*u.cells)++VS++CS.drop (q*u.cells))[j]? =if j<q*u.cells then CS[j]? else if j<(q+v.length)*u.cells then VS[j-q*u.cells]? else CS[j-v.length*u.cells]? :=fun j=>by
  have e1:(CS.take (q*u.cells)).length=q*u.cells:=by rw[ZAS,S2];omega
  have e2:(CS.take (q*u.cells)++VS).length=(q+v.length)*u.cells:=by rw[ZAY,e1,V2,ZAo]
  have e3:(q+v.length)*u.cells=q*u.cells+v.length*u.cells:=ZAo _ _ _;by_cases h1:j<q*u.cells
  ·rw[ZAT h1,ZAL (by omega),ZAL (by omega),ZAn,ZAT h1]
  ·rw[ZAQ h1];by_cases h2:j<(q+v.length)*u.cells
   ·rw[ZAT h2,ZAL (by omega),ZAO (by omega),e1]
   ·rw[ZAQ h2,ZAO (by omega),e2,ZAw];congr 1;omega
 have eqv:(q+v.length)*u.cells=q*u.cells+v.length*u.cells:=ZAo _ _ _;have elv:(l.length+v.length)*u.cells=l.length*u.cells+v.length*u.cells:=ZAo _ _ _;have eqd:(l.length-q)*u.cells=l.length*u.cells-q*u.cells:=ZCI _ _ _;have hvk:0<v.length*u.cells:=Nat.mul_pos hr0.1.1 h0;by_cases hroom:l.length+v.length<=c
 ·
  have hfit:(l.length+v.length)*u.cells<=cs.size:=by
   have:(l.length+v.length)*u.cells<=c*u.cells:=ZAf _ hroom;omega
  have hth:=csZ (o:=0) (n:=(l.length+v.length)*u.cells) a1 a2.f (by omega);have hend:∀(w':World) (cs':Array Value),w'.heap[g]? =some (.cells cs' (ρr.t 9) fr)->cs'.size=cs.size->w'.os=z.w.os->(w'.tape=z.w.tape/\z.w.drawn<=w'.drawn)->w'.output=z.w.output->w'.heap.size=z.w.heap.size->(∀b,b≠g->w'.heap[b]? =z.w.heap[b]?)->
   (∀j,j<(l.length+v.length)*u.cells->cs'[j]? =(CS.take (q*u.cells)++VS++CS.drop (q*u.cells))[j]?)->
   ∃z',z'.w=w'/\HRep z' [(0,none),(1,some ⟨false,.rows (ρr.t 9) u v⟩),(2,some ⟨false,.rows (ρr.t 9) u (l.take q++v++l.drop q)⟩)]/\Nx z z'/\ARep z' (.slf u.cells 2) (.slice (some ⟨g,0,none⟩) (l.length+v.length) c):=fun w' cs' d1 d2 d3 d4 d5 d6 d7 d8=>by
   obtain⟨z',p1,p2,p3,p4⟩:=hH.move (id:=2) (n':=l.length+v.length) (b:=.rows (ρr.t 9) u (l.take q++v++l.drop q)) hg0 hρ hok2 (nD 2) d3 d4 d5 d6 d7 (fun z' hz kk=>by
    refine⟨cs',fr,by rw[hz];exact d1,djZ a2 d2,by rw[d2];exact a3,h3len,by rw[h3len];omega,a6,fun i x hx=> ?_⟩;have hR:=(RL.eq (cs':=cs'.toList) fun j hj=>by rw[h3len] at hj;simpa using d8 j hj).kp kk;obtain⟨us,q1,q2⟩:=hR i x hx;exact⟨us,q1,fun j y hj=>by simpa using q2 j y hj⟩)
   exact⟨z',p1,p2,p3,.slf _ _ _ _ _ _ p4 hroom hs hm⟩
  by_cases hqn:q<l.length
  ·have hn0:l.length*u.cells≠0:=by have:=Nat.mul_pos (show 0<l.length by omega) h0;omega
   have hsh:∀{gg:Nat} {cc:Array Value} {ee:TypeId} {ff:Nat×Nat},z.w.heap[gg]? =some (.cells cc ee ff)->z.w.shape? gg=some (ee,cc.size):=fun h=>by unfold World.shape?;rw[h]
   have hfr3:∀o,z.w.frozen? ⟨g3,o,none⟩=false:=fun o=>by
    have hf:fr3.1=fr3.2:=by
     rcases b2 with h|h
     ·exact h
     ·exact absurd h.1 hub
    unfold World.frozen?;rw[b1];simp only[ZBw,ZA6];omega
   have hins:=iVZ (k:=u.cells) L h0 z9 a9 hsz g l.length c q g3 v.length c3 CS VS z.w hqn hr0.1.1 hroom (by unfold maxLen at hm;omega) hne S2 V2 hcell
    (fun j hj=>by have:=(hth j hj).1;simpa using this) (fun j hj=>by have:=(hth j hj).2;simpa using this) hvs S3 V3 _ _ _ _ (hsh b1) (hsh a1) (by omega) (hfr3 0) (hfr3 _)
   refine hins.mono ?_;rintro en w' ⟨rfl,rfl⟩;obtain⟨e1,e2,e3,e4⟩:=arZ (CS.drop (q*u.cells)) z.w.drew g ((q+v.length)*u.cells);obtain⟨f1,f2,f3,f4⟩:=arZ VS (z.w.drew.setCells g ((q+v.length)*u.cells) (CS.drop (q*u.cells))) g (q*u.cells);have hA:z.w.drew.heap[g]? =some (.cells cs (ρr.t 9) fr):=a1;obtain⟨z',y1,y2,y3,y4⟩:=hend _ (setArr (setArr cs ((q+v.length)*u.cells) (CS.drop (q*u.cells))) (q*u.cells) VS) (amZ _ _ _ _ _ _ _ (amZ _ _ _ _ _ _ _ hA)) (by rw[akZ,akZ])
    (f2.trans e2) ⟨f3.1.trans e3.1,ZBI (ZBI (ZBb _) e3.2) f3.2⟩ (f4.trans e4) (f1.trans e1) (fun b hb=>(alZ _ _ _ _ _ hb).trans (alZ _ _ _ _ _ hb)) (fun j hj=>by
     rw[hget3 j,auZ _ _ _ _ (by rw[akZ,V2];omega),V2,auZ _ _ _ _ (by rw[hdk];omega),hdk];by_cases c1:j<q*u.cells
     ·rw[ZAQ (by omega),ZAQ (by omega),ZAT c1];exact hcsl j (by omega)
     ·rw[ZAQ c1];by_cases c2:j<(q+v.length)*u.cells
      ·rw[ZAT (by omega),ZAT c2]
      ·rw[ZAQ (by omega),ZAT (by omega),ZAQ c2,ZAw];congr 1;omega)
   exact fin _ _ z' y1 y2 y3 y4
  ·obtain rfl:q=l.length:=by omega
   have hins:=eoZ (k:=u.cells) L z9 a9 hi0 hs0 g l.length c g3 v.length c3 VS z.w hr0.1.1 hroom (by unfold maxLen at hm;omega) V2 (fun j hj=>by have:=(hth (l.length*u.cells+j) (by omega)).1;simpa using this) (fun j hj=>by have:=(hth (l.length*u.cells+j) (by omega)).2;simpa using this) hvs V3;refine hins.mono ?_;rintro en w' ⟨rfl,rfl⟩;obtain⟨e1,e2,e3,e4⟩:=arZ VS z.w g (l.length*u.cells);obtain⟨z',y1,y2,y3,y4⟩:=hend _ (setArr cs (l.length*u.cells) VS) (amZ _ _ _ _ _ _ _ a1) (akZ _ _ _) e2 e3 e4 e1 (fun b hb=>alZ _ _ _ _ _ hb) (fun j hj=>by
    rw[hget3 j,auZ _ _ _ _ (by rw[V2];omega),V2];by_cases c1:j<l.length*u.cells
    ·rw[ZAQ (by omega),ZAT c1];exact hcsl j c1
    ·rw[ZAQ c1,ZAT (by omega),ZAT (by omega)])
   exact fin _ _ z' y1 y2 y3 y4
 ·
  have hroom':c<l.length+v.length:=by omega
  generalize hG:grownCap z.w (l.length+v.length) c (ρr.t 9)=G;have hge:l.length+v.length<=G:=by rw[<-hG];exact grownCap_ge _ _ _ _
  have hGm:G<=maxLen:=by rw[<-hG];exact grownCap_le_maxLen _ _ _ _ (by unfold maxLen;omega)
  have hgk:(l.length+v.length)*u.cells<=G*u.cells:=ZAf _ hge;have hend:∀(w':World) (cs':Array Value),w'.heap[z.w.heap.size]? =some (.cells cs' (ρr.t 9) (0,0))->cs'.size=G*u.cells->w'.os=z.w.os->(w'.tape=z.w.tape/\z.w.drawn<=w'.drawn)->w'.output=z.w.output->(∀b,b<z.w.heap.size->w'.heap[b]? =z.w.heap[b]?)->
   (∀j,j<(l.length+v.length)*u.cells->cs'[j]? =(CS.take (q*u.cells)++VS++CS.drop (q*u.cells))[j]?)->
   ∃z',z'.w=w'/\HRep z' [(0,none),(1,some ⟨false,.rows (ρr.t 9) u v⟩),(2,some ⟨false,.rows (ρr.t 9) u (l.take q++v++l.drop q)⟩)]/\Nx z z'/\ARep z' (.slf u.cells 2) (.slice (some ⟨z.w.heap.size,0,none⟩) (l.length+v.length) G):=fun w' cs' d1 d2 d3 d4 d5 d7 d8=>by
   obtain⟨z',p1,p2,p3,p4⟩:=aKZ (z:=z) (w':=w') (e:=ρr.t 9) (l:=l.take q++v++l.drop q) (hH.kill (ahZ hg0)) hok2 (nD 2) d1 (okR0 _) d3 d4 d5 d7 (by rw[h3len,d2];exact hgk) h0 (RL.eq (cs':=cs'.toList) fun j hj=>by rw[h3len] at hj;simpa using d8 j hj);exact⟨z',p1,p2,p3,.slf _ _ _ _ _ _ (by rw[p4,h3len]) hge (by rw[d2];exact ZAM _) hGm⟩
  by_cases hqn:q<l.length
  ·have hins:=k8Z (k:=u.cells) L h0 z9 a9 hsz (Zc:=zv.cells) rfl hi0 hs0 hzv hzl g l.length c q g3 v.length c3 CS VS z.w hqn hr0.1.1 hn hroom' hbig hr0.2 S2 V2 hcell hvs S3 V3;rw[hG] at hins;refine hins.mono ?_;rintro en w' ⟨rfl,rfl⟩;generalize hROW:(CS.take (q*u.cells)).toArray++Builtin.zeroCells zv.cells (l.length+v.length-q)++Builtin.zeroCells zv.cells (G-(l.length+v.length))=ROW;have hRs:ROW.size=G*u.cells:=by
    rw[<-hROW,ZBH,ZBH,size_zeroCells,size_zeroCells,hzl,ZBO,ZAS,S2,ZA8 hqk,<-Nat.add_mul,<-Nat.add_mul];congr 1;omega
   have hR0:∀j,j<q*u.cells->ROW[j]? =CS[j]? :=fun j hj=>by
    have e1:(CS.take (q*u.cells)).length=q*u.cells:=by rw[ZAS,S2];omega
    rw[<-hROW,Array.append_assoc,ZBR (by rw[ZBO,e1];exact hj),List.getElem?_toArray,ZAn,ZAT hj]
   have hnew:(z.w.alloc (.cells ROW (ρr.t 9))).drew.heap[z.w.heap.size]? =some (.cells ROW (ρr.t 9) (0,0)):=heap_alloc_new z.w _;obtain⟨e1,e2,e3,e4⟩:=arZ VS (z.w.alloc (.cells ROW (ρr.t 9))).drew z.w.heap.size (q*u.cells);obtain⟨f1,f2,f3,f4⟩:=arZ (CS.drop (q*u.cells)) ((z.w.alloc (.cells ROW (ρr.t 9))).drew.setCells z.w.heap.size (q*u.cells) VS).drew z.w.heap.size ((q+v.length)*u.cells);obtain⟨z',y1,y2,y3,y4⟩:=hend (((z.w.alloc (.cells ROW (ρr.t 9))).drew.setCells z.w.heap.size (q*u.cells) VS).drew.setCells z.w.heap.size ((q+v.length)*u.cells) (CS.drop (q*u.cells))) (setArr (setArr ROW (q*u.cells) VS) ((q+v.length)*u.cells) (CS.drop (q*u.cells))) (amZ _ _ _ _ _ _ _ (show((z.w.alloc (.cells ROW (ρr.t 9))).drew.setCells z.w.heap.size (q*u.cells) VS).heap[z.w.heap.size]? =_ from amZ _ _ _ _ _ _ _ hnew)) (by rw[akZ,akZ,hRs])
    (f2.trans e2) ⟨f3.1.trans e3.1,ZBI (ZBI (ZBI (ZBb _) e3.2) (ZBb _)) f3.2⟩ (f4.trans e4) (fun b hb=>(alZ _ _ _ _ _ (by omega)).trans ((alZ _ _ _ _ _ (by omega)).trans (heap_alloc_old z.w _ hb))) (fun j hj=>by
     rw[hget3 j,auZ _ _ _ _ (by rw[akZ,hdk,hRs];omega),hdk,auZ _ _ _ _ (by rw[V2,hRs];omega),V2];by_cases c1:j<q*u.cells
     ·rw[ZAQ (by omega),ZAQ (by omega),ZAT c1];exact hR0 j c1
     ·rw[ZAQ c1];by_cases c2:j<(q+v.length)*u.cells
      ·rw[ZAQ (by omega),ZAT (by omega),ZAT c2]
      ·rw[ZAT (by omega),ZAQ c2,ZAw];congr 1;omega)
   exact fin _ _ z' y1 y2 y3 y4
  ·obtain rfl:q=l.length:=by omega
   have hins:=bKZ (k:=u.cells) L z9 a9 (Zc:=zv.cells) rfl hi0 hs0 hzv (some ⟨g,0,none⟩) l.length c g3 v.length c3 CS VS z.w hr0.1.1 hn hroom' hbig hr0.2 S2 V2 (fun h=>by cases h) (fun a ha j x hx=>by cases ha;rw[Addr.add_lit,ZAj];exact hcell j x hx) hvs V3;rw[hG] at hins;refine hins.mono ?_;rintro en w' ⟨rfl,rfl⟩;have hcs:((CS++VS).toArray++Builtin.zeroCells zv.cells (G-(l.length+v.length))).size=G*u.cells:=by
    rw[ZBH,size_zeroCells,hzl,ZBO,ZAY,S2,V2,<-Nat.add_mul,<-Nat.add_mul];congr 1;omega
   obtain⟨z',y1,y2,y3,y4⟩:=hend _ _ (heap_alloc_new z.w.drew _) hcs rfl ⟨rfl,ZBb _⟩ rfl (fun b hb=>heap_alloc_old z.w.drew _ hb) (fun j hj=>by
    rw[ZBR (by rw[ZBO,ZAY,S2,V2];omega),List.getElem?_toArray];congr 1;rw[ZAu (by omega),List.drop_eq_nil_of_le (by omega),ZA1])
   exact fin _ _ z' y1 y2 y3 y4
end
end Go.Ab
namespace Go.Ab
open Go.Proofs Go.Shelf
section
variable {P : Program} {ρr : Ren}
def insSF(u fs:Ty)(by_:Nat)(t:Int×(List u.den×(List u.den×List (Nat×List fs.den)))):Option (List u.den×(List u.den×List (Nat×List fs.den))):=
 (upto? t.1 t.2.1.length).bind fun q=>need (Nat.blt 0 t.2.2.1.length&&Nat.ble ((t.2.1.length+t.2.2.1.length)*by_) room&&Nat.ble (t.2.1.length+t.2.2.1.length) room) (some (t.2.2.1,(t.2.1.take q++t.2.2.1++t.2.1.drop q,t.2.2.2)))
theorem fxZ(L:InsLay P ρr){u:Ty}{f:Nat}{fe:TypeId}{fs:Ty}{by_:Nat}{ag:Bool}(h0:0<u.cells)(hub:u≠.byte)(z9:∀w,(Go.sizeOf (ρr.t 9)).run P w= .ok u.cells w)(a9:∀w,(isAgg (ρr.t 9)).run P w= .ok ag w)
 (hi9:(P.info? (ρr.t 9)).map (fun i=>(i.size,i.bytes,i.zero.map fun v=>v.cells.size))=some (u.cells,by_,some u.cells))
 (hent:∃fn c,P.funcs[ρr.f 22]? =some fn/\fn.body=some c/\(fn.name== "runtime.NumGoroutine")=false):
 Told P ⟨ρr.f 22,⟨.cons (.slf u.cells 0) (.cons (.p (.int .i64)) (.cons (.slf u.cells 1) .nil)),[(0,false,.rows (ρr.t 9) u),(1,false,.rows (ρr.t 9) u),(famId f,false,.fam fe fs)]⟩,[⟨.cons (.slf u.cells 2) .nil,[(1,false,.rows (ρr.t 9) u),(2,false,.rows (ρr.t 9) u),(famId f,false,.fam fe fs)]⟩],insSF u fs by_⟩:=by
 refine Told.of hent fun t r hr z vals hH hv hD=> ?_;obtain⟨⟨qi,l,v,ms⟩,rfl⟩:∃t':Int×(List u.den×(List u.den×List (Nat×List fs.den))),t'=t:=⟨t,rfl⟩;have hfr:=bzZ f;have hr:insSF u fs by_ (qi,(l,(v,ms)))=some r:=hr;unfold insSF at hr;dsimp only at hr;obtain⟨q,hq,hr⟩:=ZAF.1 hr;obtain⟨hr0,hr⟩:=aeZ.1 hr;simp only[ZAB,ZBW,ZAm,show room=140737488355328 from rfl] at hr0;injection hr with hr;subst hr;have hH:HRep z [(0,some ⟨false,.rows (ρr.t 9) u l⟩),(1,some ⟨false,.rows (ρr.t 9) u v⟩),(famId f,some ⟨false,.fam fe fs ms⟩)]:=hH;have hv:AReps z [.slf u.cells 0,.p (.int .i64) qi,.slf u.cells 1] vals:=hv;obtain⟨v1,v2,v3,rfl,k1,k2,k3⟩:=pMZ hv;obtain rfl:=k2.v.int;have hqi:0<=qi/\qi<=l.length/\q=qi.toNat:=by
  unfold upto? at hq;split at hq
  ·rename_i h;simp at hq;exact⟨h.1,h.2,hq.symm⟩
  ·cases hq
 obtain rfl:qi=(q:Int):=by omega
 have hql:q<=l.length:=by omega
 have hg0:hget [(0,some (⟨false,.rows (ρr.t 9) u l⟩:Ent)),(1,some ⟨false,.rows (ρr.t 9) u v⟩),(famId f,some ⟨false,.fam fe fs ms⟩)] 0=some ⟨false,.rows (ρr.t 9) u l⟩:=rfl;have hg1:hget [(0,some (⟨false,.rows (ρr.t 9) u l⟩:Ent)),(1,some ⟨false,.rows (ρr.t 9) u v⟩),(famId f,some ⟨false,.fam fe fs ms⟩)] 1=some ⟨false,.rows (ρr.t 9) u v⟩:=rfl;obtain⟨i0,hi0,hi0'⟩:=ZAH.1 hi9;simp only[ZAs] at hi0';obtain⟨hs0,hby,hz0⟩:=hi0';obtain⟨zv,hzv,hzl⟩:=ZAH.1 hz0;have hsz:(P.info? (ρr.t 9)).map (·.size)=some u.cells:=by rw[hi0];simp[hs0]
 have hbig:(l.length+v.length)*i0.bytes<=140737488355328:=by rw[hby];exact hr0.1.2
 have hfb:(0:Nat)<famBase/\(1:Nat)<famBase/\(2:Nat)<famBase:=by simp[famBase]
 cases k3 with
 |slfV _ _ A hρ=>
  have:v=[]:=(hH.virt hg1 hρ).1;rw[this] at hr0;simp at hr0
 |slf _ _ g3 sz3 m c3 hρ3 hn3 hs3 hm3=>
 obtain⟨hlt3,hC3,_,cs3,fr3,b1,b2,b3,b4,b5,b6,b7⟩:=hH.real hg1 hρ3;obtain rfl:v.length=m:=b4;have R3:RowsIn z.w z.M z.ρ u v cs3.toList:=fun i x hx=>by obtain⟨us,q1,q2⟩:=b7 i x hx;exact⟨us,q1,fun j v hj=>by simpa using q2 j v hj⟩
 obtain⟨V1,V2,V3⟩:=R3.cut (by rw[ZA3 (xs:=cs3)];omega) h0;generalize hVS:cs3.toList.take (v.length*u.cells)=VS at V1 V2 V3;have hvs:∀j x,VS[j]? =some x->z.w.cell? ⟨g3,j,none⟩=some x:=fun j x hj=>by
  rw[<-hVS,ZAn] at hj;split at hj
  ·rw[bjZ b1];simpa using hj
  ·cases hj
 have htup:∀(z':Z) (x:Value),ARep z' (.slf u.cells 2) x->ARep z' (tupA [.slf u.cells 2]) x:=fun z' x h=>h;have fin:∀(w':World) (val:Value) (z':Z),z'.w=w'->HRep z' [(0,none),(1,some ⟨false,.rows (ρr.t 9) u v⟩),(famId f,some ⟨false,.fam fe fs ms⟩),(2,some ⟨false,.rows (ρr.t 9) u (l.take q++v++l.drop q)⟩)]->Nx z z'->ARep z' (.slf u.cells 2) val->
  ∃vv z'',Ending.returned val= .returned vv/\z''.w=w'/\Nx z {z'' with D:=z.D}/\(∀k,z''.D k->k∈hkKeys [(0,false,BKd.rows (ρr.t 9) u),(1,false,BKd.rows (ρr.t 9) u),(famId f,false,BKd.fam fe fs)])/\
   OutS.on [⟨.cons (.slf u.cells 2) .nil,[(1,false,.rows (ρr.t 9) u),(2,false,.rows (ρr.t 9) u),(famId f,false,.fam fe fs)]⟩] (v,(l.take q++v++l.drop q,ms)) fun o x=>HRep z'' (o.emb x).2/\ARep z'' (tupA (o.emb x).1) vv:=fun w' val z' e1 e2 e3 e4=>by
  refine⟨val,{z' with D:=fun k=>z'.D k\/k=0},rfl,e1,?_,fun k hk=> ?_,?_,?_⟩
  ·exact⟨e3.os,e3.tape,e3.output,e3.size,e3.block,e3.subM,e3.subC,e3.keepM,e3.ext,rfl⟩
  ·rcases hk with hk|hk
   ·rw[e3.dom] at hk;exact absurd hk (hD k)
   ·subst hk;simp[hkKeys]
  ·have hne2:famId f≠0/\famId f≠2:=by omega
   refine e2.forget (a:=0) hfb.1 (H2:=[(1,some ⟨false,.rows (ρr.t 9) u v⟩),(2,some ⟨false,.rows (ρr.t 9) u (l.take q++v++l.drop q)⟩),(famId f,some ⟨false,.fam fe fs ms⟩)]) (fun j=> ?_) (fun j=> ?_)
   ·simp only[hget];by_cases h0:j=0
    ·subst h0;simp[afZ hne2.1,show Nat.beq 1 0=false from rfl,show Nat.beq 2 0=false from rfl,show Nat.beq 1 2=false from rfl,show Nat.beq 0 2=false from rfl]
    by_cases h2:j=2
    ·subst h2;simp[afZ hne2.2,show Nat.beq 1 0=false from rfl,show Nat.beq 2 0=false from rfl,show Nat.beq 1 2=false from rfl,show Nat.beq 0 2=false from rfl]
    simp[afZ (ZBd h0),afZ (ZBd h2)]
   ·simp only[hkey];by_cases h0:j=0
    ·subst h0;simp[afZ hne2.1,show Nat.beq 1 0=false from rfl,show Nat.beq 2 0=false from rfl,show Nat.beq 1 2=false from rfl,show Nat.beq 0 2=false from rfl]
    by_cases h2:j=2
    ·subst h2;simp[afZ hne2.2,show Nat.beq 1 0=false from rfl,show Nat.beq 2 0=false from rfl,show Nat.beq 1 2=false from rfl,show Nat.beq 0 2=false from rfl]
    simp[afZ (ZBd h0),afZ (ZBd h2)]
  ·exact e4.less rfl rfl fun g h=>h
 have hok2:hkey [(0,(none:Option Ent)),(1,some ⟨false,.rows (ρr.t 9) u v⟩),(famId f,some ⟨false,.fam fe fs ms⟩)] 2=false/\2<famBase:=⟨by simp[hkey,afZ (show famId f≠2 by omega),show Nat.beq 1 0=false from rfl,show Nat.beq 2 0=false from rfl,show Nat.beq 1 2=false from rfl,show Nat.beq 0 2=false from rfl],hfb.2.2⟩;have nD:∀k,¬z.D k:=hD;have hse:∀x:Option Ent,hset (hset [(0,some (⟨false,.rows (ρr.t 9) u l⟩:Ent)),(1,some ⟨false,.rows (ρr.t 9) u v⟩),(famId f,some ⟨false,.fam fe fs ms⟩)] 0 none) 2 x=[(0,none),(1,some ⟨false,.rows (ρr.t 9) u v⟩),(famId f,some ⟨false,.fam fe fs ms⟩),(2,x)]:=fun x=>by
  show hset [(0,none),(1,some ⟨false,.rows (ρr.t 9) u v⟩),(famId f,some ⟨false,.fam fe fs ms⟩)] 2 x=_;simp[hset,afZ (show famId f≠2 by omega),show Nat.beq 1 0=false from rfl,show Nat.beq 2 0=false from rfl,show Nat.beq 1 2=false from rfl,show Nat.beq 0 2=false from rfl]
 have h3len:(l.take q++v++l.drop q).length=l.length+v.length:=by simp;omega
 have hVS0:VS.length=v.length*u.cells:=V2;have hvz:∀(W:World),(∀x,W.cell? x=z.w.cell? x)->True:=fun _ _=>trivial;cases k1 with
 |slfV _ _ A hρ=>
  have hl:l=[]:=(hH.virt hg0 hρ).1;subst hl;obtain rfl:q=0:=by simpa using hql
  have hins:=bKZ (k:=u.cells) L z9 a9 (Zc:=zv.cells) rfl hi0 hs0 hzv A 0 0 g3 v.length c3 [] VS z.w hr0.1.1 (ZAM _) (by omega) (by simpa using hbig) (by have:=hr0.2;simpa using this) (by simp) V2 (fun _=>rfl) (fun a _ j x hx=>by simp at hx) hvs V3;refine hins.mono ?_;rintro en w' ⟨rfl,rfl⟩;generalize hG:grownCap z.w (0+v.length) 0 (ρr.t 9)=G at*;have hge:v.length<=G:=by rw[<-hG];have:=grownCap_ge z.w (0+v.length) 0 (ρr.t 9);omega
  have hGm:G<=maxLen:=by rw[<-hG];exact grownCap_le_maxLen _ _ _ _ (by unfold maxLen;omega)
  have hcs:(([]++VS).toArray++Builtin.zeroCells zv.cells (G-(0+v.length))).size=G*u.cells:=by
   rw[ZBH,size_zeroCells,hzl,ZBA,ZBO,V2,<-Nat.add_mul];congr 1;omega
  obtain⟨z',p1,p2,p3,p4⟩:=aKZ (z:=z) (w':=z.w.drew.alloc (.cells (([]++VS).toArray++Builtin.zeroCells zv.cells (G-(0+v.length))) (ρr.t 9))) (e:=ρr.t 9) (l:=([]:List u.den).take 0++v++([]:List u.den).drop 0) (hH.kill (ahZ hg0)) hok2 (nD 2)
   (heap_alloc_new z.w.drew _) (okR0 _) rfl ⟨rfl,ZBb _⟩ rfl (fun k hk=>heap_alloc_old z.w.drew _ hk) (by rw[hcs];simpa using ZAf _ hge) h0 (by
    have:(([]:List u.den).take 0++v++([]:List u.den).drop 0)=v:=by simp
    rw[this];refine V1.eq fun j hj=> ?_;rw[ZBp,ZAL (by simp;omega)];simp)
  exact fin _ _ z' p1 (hse _▸p2) p3 (.slf _ _ _ _ (0+v.length) _ (by rw[p4];congr 1) (by simpa using hge) (by rw[hcs];exact ZAM _) hGm)
 |slf _ _ g sz n c hρ hn hs hm=>
 obtain⟨hlt,hC,_,cs,fr,a1,a2,a3,a4,a5,a6,a7⟩:=hH.real hg0 hρ;obtain rfl:l.length=n:=a4;have hne:g3≠g:=hH.inj 1 0 _ _ g3 sz3 _ g sz _ (by decide) (by rw[aqZ hfb.2.1];exact hg1) (by rw[aqZ hfb.1];exact hg0) rfl rfl hρ3 hρ fun h=>bwZ (by decide) h.1;have R1:RowsIn z.w z.M z.ρ u l cs.toList:=fun i x hx=>by obtain⟨us,q1,q2⟩:=a7 i x hx;exact⟨us,q1,fun j v hj=>by simpa using q2 j v hj⟩
 obtain⟨S1,S2,S3⟩:=R1.cut (by rw[ZA3 (xs:=cs)];omega) h0;generalize hCS:cs.toList.take (l.length*u.cells)=CS at S1 S2 S3;have hcsj:∀j x,CS[j]? =some x->cs[j]? =some x:=fun j x hj=>by
  rw[<-hCS,ZAn] at hj;split at hj
  ·simpa using hj
  ·cases hj
 have hcell:∀j x,CS[j]? =some x->z.w.cell? ⟨g,j,none⟩=some x:=fun j x hj=>by rw[bjZ a1];exact hcsj j x hj
 have hcsl:∀j,j<l.length*u.cells->cs[j]? =CS[j]? :=fun j hj=>by rw[<-hCS,ZAn,ZAT hj];simp
 have hqk:q*u.cells<=l.length*u.cells:=ZAf _ hql;have RL:RowsIn z.w z.M z.ρ u (l.take q++v++l.drop q) (CS.take (q*u.cells)++VS++CS.drop (q*u.cells)):=by
  refine RowsIn.app (RowsIn.app (S1.takeC q) ?_ V1) ?_ (S1.dropC q)
  ·rw[ZAS,ZAS,S2,ZA8 hqk,ZA8 hql]
  ·rw[ZAY,ZAY,ZAS,ZAS,S2,V2,ZA8 hqk,ZA8 hql,ZAo]
 have hL':(CS.take (q*u.cells)++VS++CS.drop (q*u.cells)).length=(l.length+v.length)*u.cells:=by
  rw[ZAY,ZAY,ZAS,ZAv,S2,V2,ZA8 hqk,ZAo];omega
 have hdk:(CS.drop (q*u.cells)).length=(l.length-q)*u.cells:=by rw[ZAv,S2,ZCI]
 have hget3:∀j,(CS.take (q*u.cells)++VS++CS.drop (q*u.cells))[j]? =if j<q*u.cells then CS[j]? else if j<(q+v.length)*u.cells then VS[j-q*u.cells]? else CS[j-v.length*u.cells]? :=fun j=>by
  have e1:(CS.take (q*u.cells)).length=q*u.cells:=by rw[ZAS,S2];omega
  have e2:(CS.take (q*u.cells)++VS).length=(q+v.length)*u.cells:=by rw[ZAY,e1,V2,ZAo]
  have e3:(q+v.length)*u.cells=q*u.cells+v.length*u.cells:=ZAo _ _ _;by_cases h1:j<q*u.cells
  ·rw[ZAT h1,ZAL (by omega),ZAL (by omega),ZAn,ZAT h1]
  ·rw[ZAQ h1];by_cases h2:j<(q+v.length)*u.cells
   ·rw[ZAT h2,ZAL (by omega),ZAO (by omega),e1]
   ·rw[ZAQ h2,ZAO (by omega),e2,ZAw];congr 1;omega
 have eqv:(q+v.length)*u.cells=q*u.cells+v.length*u.cells:=ZAo _ _ _;have elv:(l.length+v.length)*u.cells=l.length*u.cells+v.length*u.cells:=ZAo _ _ _;have eqd:(l.length-q)*u.cells=l.length*u.cells-q*u.cells:=ZCI _ _ _;have hvk:0<v.length*u.cells:=Nat.mul_pos hr0.1.1 h0;by_cases hroom:l.length+v.length<=c
 ·
  have hfit:(l.length+v.length)*u.cells<=cs.size:=by
   have:(l.length+v.length)*u.cells<=c*u.cells:=ZAf _ hroom;omega
  have hth:=csZ (o:=0) (n:=(l.length+v.length)*u.cells) a1 a2.f (by omega);have hend:∀(w':World) (cs':Array Value),w'.heap[g]? =some (.cells cs' (ρr.t 9) fr)->cs'.size=cs.size->w'.os=z.w.os->(w'.tape=z.w.tape/\z.w.drawn<=w'.drawn)->w'.output=z.w.output->w'.heap.size=z.w.heap.size->(∀b,b≠g->w'.heap[b]? =z.w.heap[b]?)->
   (∀j,j<(l.length+v.length)*u.cells->cs'[j]? =(CS.take (q*u.cells)++VS++CS.drop (q*u.cells))[j]?)->
   ∃z',z'.w=w'/\HRep z' [(0,none),(1,some ⟨false,.rows (ρr.t 9) u v⟩),(famId f,some ⟨false,.fam fe fs ms⟩),(2,some ⟨false,.rows (ρr.t 9) u (l.take q++v++l.drop q)⟩)]/\Nx z z'/\ARep z' (.slf u.cells 2) (.slice (some ⟨g,0,none⟩) (l.length+v.length) c):=fun w' cs' d1 d2 d3 d4 d5 d6 d7 d8=>by
   obtain⟨z',p1,p2,p3,p4⟩:=hH.move (id:=2) (n':=l.length+v.length) (b:=.rows (ρr.t 9) u (l.take q++v++l.drop q)) hg0 hρ hok2 (nD 2) d3 d4 d5 d6 d7 (fun z' hz kk=>by
    refine⟨cs',fr,by rw[hz];exact d1,djZ a2 d2,by rw[d2];exact a3,h3len,by rw[h3len];omega,a6,fun i x hx=> ?_⟩;have hR:=(RL.eq (cs':=cs'.toList) fun j hj=>by rw[h3len] at hj;simpa using d8 j hj).kp kk;obtain⟨us,q1,q2⟩:=hR i x hx;exact⟨us,q1,fun j y hj=>by simpa using q2 j y hj⟩)
   exact⟨z',p1,hse _▸p2,p3,.slf _ _ _ _ _ _ p4 hroom hs hm⟩
  by_cases hqn:q<l.length
  ·have hn0:l.length*u.cells≠0:=by have:=Nat.mul_pos (show 0<l.length by omega) h0;omega
   have hsh:∀{gg:Nat} {cc:Array Value} {ee:TypeId} {ff:Nat×Nat},z.w.heap[gg]? =some (.cells cc ee ff)->z.w.shape? gg=some (ee,cc.size):=fun h=>by unfold World.shape?;rw[h]
   have hfr3:∀o,z.w.frozen? ⟨g3,o,none⟩=false:=fun o=>by
    have hf:fr3.1=fr3.2:=by
     rcases b2 with h|h
     ·exact h
     ·exact absurd h.1 hub
    unfold World.frozen?;rw[b1];simp only[ZBw,ZA6];omega
   have hins:=iVZ (k:=u.cells) L h0 z9 a9 hsz g l.length c q g3 v.length c3 CS VS z.w hqn hr0.1.1 hroom (by unfold maxLen at hm;omega) hne S2 V2 hcell
    (fun j hj=>by have:=(hth j hj).1;simpa using this) (fun j hj=>by have:=(hth j hj).2;simpa using this) hvs S3 V3 _ _ _ _ (hsh b1) (hsh a1) (by omega) (hfr3 0) (hfr3 _)
   refine hins.mono ?_;rintro en w' ⟨rfl,rfl⟩;obtain⟨e1,e2,e3,e4⟩:=arZ (CS.drop (q*u.cells)) z.w.drew g ((q+v.length)*u.cells);obtain⟨f1,f2,f3,f4⟩:=arZ VS (z.w.drew.setCells g ((q+v.length)*u.cells) (CS.drop (q*u.cells))) g (q*u.cells);have hA:z.w.drew.heap[g]? =some (.cells cs (ρr.t 9) fr):=a1;obtain⟨z',y1,y2,y3,y4⟩:=hend _ (setArr (setArr cs ((q+v.length)*u.cells) (CS.drop (q*u.cells))) (q*u.cells) VS) (amZ _ _ _ _ _ _ _ (amZ _ _ _ _ _ _ _ hA)) (by rw[akZ,akZ])
    (f2.trans e2) ⟨f3.1.trans e3.1,ZBI (ZBI (ZBb _) e3.2) f3.2⟩ (f4.trans e4) (f1.trans e1) (fun b hb=>(alZ _ _ _ _ _ hb).trans (alZ _ _ _ _ _ hb)) (fun j hj=>by
     rw[hget3 j,auZ _ _ _ _ (by rw[akZ,V2];omega),V2,auZ _ _ _ _ (by rw[hdk];omega),hdk];by_cases c1:j<q*u.cells
     ·rw[ZAQ (by omega),ZAQ (by omega),ZAT c1];exact hcsl j (by omega)
     ·rw[ZAQ c1];by_cases c2:j<(q+v.length)*u.cells
      ·rw[ZAT (by omega),ZAT c2]
      ·rw[ZAQ (by omega),ZAT (by omega),ZAQ c2,ZAw];congr 1;omega)
   exact fin _ _ z' y1 y2 y3 y4
  ·obtain rfl:q=l.length:=by omega
   have hins:=eoZ (k:=u.cells) L z9 a9 hi0 hs0 g l.length c g3 v.length c3 VS z.w hr0.1.1 hroom (by unfold maxLen at hm;omega) V2 (fun j hj=>by have:=(hth (l.length*u.cells+j) (by omega)).1;simpa using this) (fun j hj=>by have:=(hth (l.length*u.cells+j) (by omega)).2;simpa using this) hvs V3;refine hins.mono ?_;rintro en w' ⟨rfl,rfl⟩;obtain⟨e1,e2,e3,e4⟩:=arZ VS z.w g (l.length*u.cells);obtain⟨z',y1,y2,y3,y4⟩:=hend _ (setArr cs (l.length*u.cells) VS) (amZ _ _ _ _ _ _ _ a1) (akZ _ _ _) e2 e3 e4 e1 (fun b hb=>alZ _ _ _ _ _ hb) (fun j hj=>by
    rw[hget3 j,auZ _ _ _ _ (by rw[V2];omega),V2];by_cases c1:j<l.length*u.cells
    ·rw[ZAQ (by omega),ZAT c1];exact hcsl j c1
    ·rw[ZAQ c1,ZAT (by omega),ZAT (by omega)])
   exact fin _ _ z' y1 y2 y3 y4
 ·
  have hroom':c<l.length+v.length:=by omega
  generalize hG:grownCap z.w (l.length+v.length) c (ρr.t 9)=G;have hge:l.length+v.length<=G:=by rw[<-hG];exact grownCap_ge _ _ _ _
  have hGm:G<=maxLen:=by rw[<-hG];exact grownCap_le_maxLen _ _ _ _ (by unfold maxLen;omega)
  have hgk:(l.length+v.length)*u.cells<=G*u.cells:=ZAf _ hge;have hend:∀(w':World) (cs':Array Value),w'.heap[z.w.heap.size]? =some (.cells cs' (ρr.t 9) (0,0))->cs'.size=G*u.cells->w'.os=z.w.os->(w'.tape=z.w.tape/\z.w.drawn<=w'.drawn)->w'.output=z.w.output->(∀b,b<z.w.heap.size->w'.heap[b]? =z.w.heap[b]?)->
   (∀j,j<(l.length+v.length)*u.cells->cs'[j]? =(CS.take (q*u.cells)++VS++CS.drop (q*u.cells))[j]?)->
   ∃z',z'.w=w'/\HRep z' [(0,none),(1,some ⟨false,.rows (ρr.t 9) u v⟩),(famId f,some ⟨false,.fam fe fs ms⟩),(2,some ⟨false,.rows (ρr.t 9) u (l.take q++v++l.drop q)⟩)]/\Nx z z'/\ARep z' (.slf u.cells 2) (.slice (some ⟨z.w.heap.size,0,none⟩) (l.length+v.length) G):=fun w' cs' d1 d2 d3 d4 d5 d7 d8=>by
   obtain⟨z',p1,p2,p3,p4⟩:=aKZ (z:=z) (w':=w') (e:=ρr.t 9) (l:=l.take q++v++l.drop q) (hH.kill (ahZ hg0)) hok2 (nD 2) d1 (okR0 _) d3 d4 d5 d7 (by rw[h3len,d2];exact hgk) h0 (RL.eq (cs':=cs'.toList) fun j hj=>by rw[h3len] at hj;simpa using d8 j hj);exact⟨z',p1,hse _▸p2,p3,.slf _ _ _ _ _ _ (by rw[p4,h3len]) hge (by rw[d2];exact ZAM _) hGm⟩
  by_cases hqn:q<l.length
  ·have hins:=k8Z (k:=u.cells) L h0 z9 a9 hsz (Zc:=zv.cells) rfl hi0 hs0 hzv hzl g l.length c q g3 v.length c3 CS VS z.w hqn hr0.1.1 hn hroom' hbig hr0.2 S2 V2 hcell hvs S3 V3;rw[hG] at hins;refine hins.mono ?_;rintro en w' ⟨rfl,rfl⟩;generalize hROW:(CS.take (q*u.cells)).toArray++Builtin.zeroCells zv.cells (l.length+v.length-q)++Builtin.zeroCells zv.cells (G-(l.length+v.length))=ROW;have hRs:ROW.size=G*u.cells:=by
    rw[<-hROW,ZBH,ZBH,size_zeroCells,size_zeroCells,hzl,ZBO,ZAS,S2,ZA8 hqk,<-Nat.add_mul,<-Nat.add_mul];congr 1;omega
   have hR0:∀j,j<q*u.cells->ROW[j]? =CS[j]? :=fun j hj=>by
    have e1:(CS.take (q*u.cells)).length=q*u.cells:=by rw[ZAS,S2];omega
    rw[<-hROW,Array.append_assoc,ZBR (by rw[ZBO,e1];exact hj),List.getElem?_toArray,ZAn,ZAT hj]
   have hnew:(z.w.alloc (.cells ROW (ρr.t 9))).drew.heap[z.w.heap.size]? =some (.cells ROW (ρr.t 9) (0,0)):=heap_alloc_new z.w _;obtain⟨e1,e2,e3,e4⟩:=arZ VS (z.w.alloc (.cells ROW (ρr.t 9))).drew z.w.heap.size (q*u.cells);obtain⟨f1,f2,f3,f4⟩:=arZ (CS.drop (q*u.cells)) ((z.w.alloc (.cells ROW (ρr.t 9))).drew.setCells z.w.heap.size (q*u.cells) VS).drew z.w.heap.size ((q+v.length)*u.cells);obtain⟨z',y1,y2,y3,y4⟩:=hend (((z.w.alloc (.cells ROW (ρr.t 9))).drew.setCells z.w.heap.size (q*u.cells) VS).drew.setCells z.w.heap.size ((q+v.length)*u.cells) (CS.drop (q*u.cells))) (setArr (setArr ROW (q*u.cells) VS) ((q+v.length)*u.cells) (CS.drop (q*u.cells))) (amZ _ _ _ _ _ _ _ (show((z.w.alloc (.cells ROW (ρr.t 9))).drew.setCells z.w.heap.size (q*u.cells) VS).heap[z.w.heap.size]? =_ from amZ _ _ _ _ _ _ _ hnew)) (by rw[akZ,akZ,hRs])
    (f2.trans e2) ⟨f3.1.trans e3.1,ZBI (ZBI (ZBI (ZBb _) e3.2) (ZBb _)) f3.2⟩ (f4.trans e4) (fun b hb=>(alZ _ _ _ _ _ (by omega)).trans ((alZ _ _ _ _ _ (by omega)).trans (heap_alloc_old z.w _ hb))) (fun j hj=>by
     rw[hget3 j,auZ _ _ _ _ (by rw[akZ,hdk,hRs];omega),hdk,auZ _ _ _ _ (by rw[V2,hRs];omega),V2];by_cases c1:j<q*u.cells
     ·rw[ZAQ (by omega),ZAQ (by omega),ZAT c1];exact hR0 j c1
     ·rw[ZAQ c1];by_cases c2:j<(q+v.length)*u.cells
      ·rw[ZAQ (by omega),ZAT (by omega),ZAT c2]
      ·rw[ZAT (by omega),ZAQ c2,ZAw];congr 1;omega)
   exact fin _ _ z' y1 y2 y3 y4
  ·obtain rfl:q=l.length:=by omega
   have hins:=bKZ (k:=u.cells) L z9 a9 (Zc:=zv.cells) rfl hi0 hs0 hzv (some ⟨g,0,none⟩) l.length c g3 v.length c3 CS VS z.w hr0.1.1 hn hroom' hbig hr0.2 S2 V2 (fun h=>by cases h) (fun a ha j x hx=>by cases ha;rw[Addr.add_lit,ZAj];exact hcell j x hx) hvs V3;rw[hG] at hins;refine hins.mono ?_;rintro en w' ⟨rfl,rfl⟩;have hcs:((CS++VS).toArray++Builtin.zeroCells zv.cells (G-(l.length+v.length))).size=G*u.cells:=by
    rw[ZBH,size_zeroCells,hzl,ZBO,ZAY,S2,V2,<-Nat.add_mul,<-Nat.add_mul];congr 1;omega
   obtain⟨z',y1,y2,y3,y4⟩:=hend _ _ (heap_alloc_new z.w.drew _) hcs rfl ⟨rfl,ZBb _⟩ rfl (fun b hb=>heap_alloc_old z.w.drew _ hb) (fun j hj=>by
    rw[ZBR (by rw[ZBO,ZAY,S2,V2];omega),List.getElem?_toArray];congr 1;rw[ZAu (by omega),List.drop_eq_nil_of_le (by omega),ZA1])
   exact fin _ _ z' y1 y2 y3 y4
end
end Go.Ab
namespace Go.Proofs
open Go.Shelf Go.RowKit Go.Lib
structure DelLay (P:Program) (ρ:Ren):Prop where
 mixed:P.follows .mixedOrders=true
 f24:Bears P (ρ.f 24) (Body2.n24 ρ)
 t0:P.underlying (ρ.t 0)=some (TypeDesc.tuple #[])
 a0:∀w,(isAgg (ρ.t 0)).run P w= .ok false w
 z0:∀w,(Go.sizeOf (ρ.t 0)).run P w= .ok 1 w
 v0:∀w,(zeroValue (ρ.t 0)).run P w= .ok (Value.tuple #[]) w
 t3:P.underlying (ρ.t 3)=some (TypeDesc.int IntKind.i64)
 a3:∀w,(isAgg (ρ.t 3)).run P w= .ok false w
 z3:∀w,(Go.sizeOf (ρ.t 3)).run P w= .ok 1 w
 v3:∀w,(zeroValue (ρ.t 3)).run P w= .ok (Value.int IntKind.i64 0) w
 t4:P.underlying (ρ.t 4)=some (TypeDesc.bool)
 a4:∀w,(isAgg (ρ.t 4)).run P w= .ok false w
 z4:∀w,(Go.sizeOf (ρ.t 4)).run P w= .ok 1 w
 v4:∀w,(zeroValue (ρ.t 4)).run P w= .ok (Value.bool false) w
 t24:P.underlying (ρ.t 24)=some (TypeDesc.slice (ρ.t 9))
 a24:∀w,(isAgg (ρ.t 24)).run P w= .ok false w
 z24:∀w,(Go.sizeOf (ρ.t 24)).run P w= .ok 1 w
 v24:∀w,(zeroValue (ρ.t 24)).run P w= .ok (Value.slice none 0 0) w
variable {P : Program} {ρ : Ren}
theorem j9Z(w:World)(t e ty:TypeId)(z:Value)(k:Nat)(ht:P.underlying t=some (.slice e))(hv:∀w,(zeroValue e).run P w= .ok z w)(hz:z.cells.size=k)(hk:0<k)(h1:∀v∈z.cells,v.oneCell'=true)(b o n c:Nat)(hn:0<n)
 (hc:∀j,j<n*k->(w.cell? ⟨b,o+j,none⟩).isSome=true)(hf:∀j,j<n*k->w.frozen? ⟨b,o+j,none⟩=false):
 (Builtin.clear_ #[t] ty #[.slice (some ⟨b,o,none⟩) n c]).run P w= .ok (.tuple #[]) (w.setCells b o (Builtin.zeroCells z.cells n).toList):=by
 have hzs:(Builtin.zeroCells z.cells n).toList.length=n*k:=by rw[Array.length_toList,c7Z,hz]
 have hone:∀v∈(Builtin.zeroCells z.cells n).toList,v.oneCell'=true:=fun v hv'=>by
  obtain⟨j,hj⟩:=List.getElem?_of_mem hv';have hjl:=(List.getElem?_eq_some_iff.1 hj).1;have:v∈z.cells:=by
   rw[Array.getElem?_toList] at hj;simp only[Builtin.zeroCells,Array.getElem?_map,Option.map_eq_some_iff] at hj;obtain⟨q,_,rfl⟩:=hj;rw[getElem!_pos z.cells (q%z.cells.size) (Nat.mod_lt _ (by omega))];exact Array.getElem_mem _
  exact h1 v this
 have hst:=run_storeCells_cells (P:=P) b o (Builtin.zeroCells z.cells n).toList 0 w (by rw[hzs];simpa using hc) (by rw[hzs];simpa using hf) hone;simp only[Nat.add_zero] at hst;obtain⟨m,rfl⟩:∃m,n=m+1:=⟨n-1,by omega⟩;simp[Builtin.clear_,run_underlying ht,hv,hst]
set_option maxHeartbeats 4000000 in
set_option maxRecDepth 100000 in
theorem rIZ(L:DelLay P ρ){k:Nat}(hk:0<k)(z9:∀w,(Go.sizeOf (ρ.t 9)).run P w= .ok k w){ag:Bool}(a9:∀w,(isAgg (ρ.t 9)).run P w= .ok ag w){zv:Value}{Z:List Value}(v9:∀w,(zeroValue (ρ.t 9)).run P w= .ok zv w)(hzl:zv.cells.size=k)(hz1:∀v∈zv.cells,v.oneCell'=true)
 {i0:TypeInfo}(hi0:P.info? (ρ.t 9)=some i0)(hs0:i0.size=k)(b n c i j:Nat)(cs:List Value)(w:World)(hij:i<j)(hj:j<=n)(hnc:n<=c)(hm:c<=9223372036854775807)(hZ:Z=(Builtin.zeroCells zv.cells (j-i)).toList)
 (hcl:cs.length=n*k)(hcs:∀j v,cs[j]? =some v->w.cell? ⟨b,j,none⟩=some v)(hf:∀j,j<n*k->w.frozen? ⟨b,j,none⟩=false)(h1c:∀v∈cs,v.oneCell'=true):
 Calls P (ρ.f 24) #[.slice (some ⟨b,0,none⟩) n c,.int .i64 i,.int .i64 j] w fun e w'=>e= .returned (.slice (some ⟨b,0,none⟩) (i+(n-j)) c)/\w'=(w.drew.setCells b (i*k) (cs.drop (j*k))).setCells b ((i+(n-j))*k) Z:=by
 have mixed:=L.mixed;have t0:=L.t0;have a0:=L.a0;have z0:=L.z0;have v0:=L.v0;have t3:=L.t3;have a3:=L.a3;have z3:=L.z3;have v3:=L.v3;have t4:=L.t4;have a4:=L.a4;have z4:=L.z4;have v4:=L.v4;have t24:=L.t24;have a24:=L.a24;have z24:=L.z24;have v24:=L.v24;have u0:=run_underlying L.t0;have u3:=run_underlying L.t3;have u4:=run_underlying L.t4;have u24:=run_underlying L.t24;have hic:i<=c:=by omega
 have hjc:j<=c:=by omega
 have hjk:j*k<=n*k:=Nat.mul_le_mul_right _ hj;have hlen:(cs.drop (j*k)).length=(n-j)*k:=by rw[List.length_drop,hcl,Nat.sub_mul]
 have hik:i*k+(n-j)*k<=n*k:=by rw[<-Nat.add_mul];exact Nat.mul_le_mul_right _ (by omega)
 have hsome:∀x,x<n*k->(w.cell? ⟨b,x,none⟩).isSome=true:=fun x hx=>by rw[hcs x _ (List.getElem?_eq_getElem (by omega))];rfl
 obtain⟨A,hA,hsrc⟩:∃A:Addr,(if c=j then some (⟨b,0,none⟩:Addr) else some ⟨b,j*k,none⟩)=some A/\Hid (∀t u,(cs.drop (j*k))[t]? =some u->w.drew.cell? (A.add t)=some u):=by
  by_cases h:c=j
  ·refine⟨⟨b,0,none⟩,by simp[h],fun t u hu=> ?_⟩;have h0:(cs.drop (j*k)).length=0:=by rw[hlen,show n-j=0 by omega,Nat.zero_mul]
   rw[List.length_eq_zero_iff.1 h0] at hu;simp at hu
  ·refine⟨⟨b,j*k,none⟩,by simp[h],fun t u hu=> ?_⟩;rw[List.getElem?_drop] at hu;rw[Addr.add_lit];exact hcs _ _ hu
 have s1:Hid ((cs.drop (j*k)).length=(n-j)*k):=hlen;have s2:Hid (∀u∈cs.drop (j*k),u.oneCell'=true):=fun u hu=>h1c u (List.mem_of_mem_drop hu);have s3:Hid (∀t,t<(cs.drop (j*k)).length->(w.drew.cell? ⟨b,0+i*k+t,none⟩).isSome=true/\w.drew.frozen? ⟨b,0+i*k+t,none⟩=false):=fun t ht=>by
  rw[hlen] at ht;rw[Nat.zero_add];exact⟨hsome _ (by omega),hf _ (by omega)⟩
 obtain⟨W1,hW1⟩:∃W1,W1=w.drew.setCells b (i*k) (cs.drop (j*k)):=⟨_,rfl⟩;have hin:(i+(n-j))*k+(n-(i+(n-j)))*k=n*k:=by rw[<-Nat.add_mul];congr 1;omega
 have hcl2:∀ty,(Builtin.clear_ #[ρ.t 24] ty #[.slice (some ⟨b,(i+(n-j))*k,none⟩) (n-(i+(n-j))) (c-(i+(n-j)))]).run P W1= .ok (.tuple #[]) (W1.setCells b ((i+(n-j))*k) Z):=fun ty=>by
  have:=j9Z W1 (ρ.t 24) (ρ.t 9) ty zv k t24 v9 hzl hk hz1 b ((i+(n-j))*k) (n-(i+(n-j))) (c-(i+(n-j))) (by omega) (fun t ht=>by
   rw[hW1];exact isSome_setCells b (cs.drop (j*k)) (i*k) w.drew (fun q hq=>hsome _ (by rw[hlen] at hq;omega)) _ (hsome _ (by omega))) (fun t ht=>by rw[hW1,World.frozen?_setCells];exact hf _ (by omega))
  rw[hZ,show j-i=n-(i+(n-j)) by omega];exact this
 have hW:Hid (W1=w.drew.setCells b (0+i*k) (cs.drop (j*k))):=by rw[Nat.zero_add];exact hW1
 clear hsome hcs hf hlen hcl hZ;rw[<-hW1];clear hW1;obtain⟨nm,hnm9,F24⟩:=L.f24
 go_enter F24,Body2.n24_ntmps ρ
 go_wp2_with fail
 go_region_law_o (refine step_append_room rfl (.tmp 22) (.tmp 25) (ρ.t 24) rfl (ρ.t 9) i0 k t24 hi0 hs0 b 0 i c (by simp[Act.eval,Act.put]) A (n-j) (c-j) (cs.drop (j*k)) (by simp[Act.eval,Act.put]) s1.out hsrc.out s2.out (by omega) s3.out ?_;rw[<-hW.out])
 go_wp2
 go_ret
 exact⟨rfl,rfl⟩
end Go.Proofs
namespace Go.Ab
open Go.Proofs Go.Shelf
def delS2(u:Ty)(t:Int×(Int×List u.den)):Option (List u.den):=
 (upto? t.2.1 t.2.2.length).bind fun j=>(upto? t.1 j).bind fun i=>need (Nat.blt i j) (some (t.2.2.take i++t.2.2.drop j))
theorem krZ{i:Int}{n q:Nat}(h:upto? i n=some q):i=(q:Int)/\q<=n:=by
 unfold upto? at h;split at h
 ·rename_i h';simp at h;omega
 ·cases h
section
variable {P : Program} {ρr : Ren}
theorem jPZ(L:DelLay P ρr){u:Ty}{ag:Bool}{zv:Value}(h0:0<u.cells)(z9:∀w,(Go.sizeOf (ρr.t 9)).run P w= .ok u.cells w)(a9:∀w,(isAgg (ρr.t 9)).run P w= .ok ag w)(v9:∀w,(zeroValue (ρr.t 9)).run P w= .ok zv w)
 (hzl:zv.cells.size=u.cells)(hz1:∀v∈zv.cells,v.oneCell'=true)(hsz:(P.info? (ρr.t 9)).map (·.size)=some u.cells)
 (hent:∃fn c,P.funcs[ρr.f 24]? =some fn/\fn.body=some c/\(fn.name== "runtime.NumGoroutine")=false):
 Told P ⟨ρr.f 24,⟨.cons (.slf u.cells 0) (.cons (.p (.int .i64)) (.cons (.p (.int .i64)) .nil)),[(0,false,.rows (ρr.t 9) u)]⟩,[⟨.cons (.slf u.cells 1) .nil,[(1,false,.rows (ρr.t 9) u)]⟩],delS2 u⟩:=by
 refine Told.of hent fun t r hr z vals hH hv hD=> ?_;obtain⟨⟨ii,jj,l⟩,rfl⟩:∃t':Int×(Int×List u.den),t'=t:=⟨t,rfl⟩;have hr:delS2 u (ii,(jj,l))=some r:=hr;unfold delS2 at hr;dsimp only at hr;obtain⟨j,hj,hr⟩:=ZAF.1 hr;obtain⟨i,hi,hr⟩:=ZAF.1 hr;obtain⟨hij,hr⟩:=aeZ.1 hr;rw[ZBW] at hij;injection hr with hr;subst hr;have hH:HRep z [(0,some ⟨false,.rows (ρr.t 9) u l⟩)]:=hH;have hv:AReps z [.slf u.cells 0,.p (.int .i64) ii,.p (.int .i64) jj] vals:=hv;obtain⟨v1,v2,v3,rfl,k1,k2,k3⟩:=pMZ hv;obtain rfl:=k2.v.int;obtain rfl:=k3.v.int;obtain⟨rfl,hjl⟩:=krZ hj;obtain⟨rfl,hile⟩:=krZ hi;have hg0:hget [(0,some (⟨false,.rows (ρr.t 9) u l⟩:Ent))] 0=some ⟨false,.rows (ρr.t 9) u l⟩:=rfl;obtain⟨i0,hi0,hs0⟩:=ZAH.1 hsz;have hfb:(0:Nat)<famBase/\(1:Nat)<famBase:=by simp[famBase]
 have fin:∀(w':World) (val:Value) (z':Z),z'.w=w'->HRep z' [(0,none),(1,some ⟨false,.rows (ρr.t 9) u (l.take i++l.drop j)⟩)]->Nx z z'->ARep z' (.slf u.cells 1) val->
  ∃vv z'',Ending.returned val= .returned vv/\z''.w=w'/\Nx z {z'' with D:=z.D}/\(∀k,z''.D k->k∈hkKeys [(0,false,BKd.rows (ρr.t 9) u)])/\
   OutS.on [⟨.cons (.slf u.cells 1) .nil,[(1,false,.rows (ρr.t 9) u)]⟩] (l.take i++l.drop j) fun o x=>HRep z'' (o.emb x).2/\ARep z'' (tupA (o.emb x).1) vv:=fun w' val z' e1 e2 e3 e4=>by
  refine⟨val,{z' with D:=fun k=>z'.D k\/k=0},rfl,e1,?_,fun k hk=> ?_,?_,?_⟩
  ·exact⟨e3.os,e3.tape,e3.output,e3.size,e3.block,e3.subM,e3.subC,e3.keepM,e3.ext,rfl⟩
  ·rcases hk with hk|hk
   ·rw[e3.dom] at hk;exact absurd hk (hD k)
   ·subst hk;simp[hkKeys]
  ·refine e2.forget (a:=0) hfb.1 (H2:=[(1,some ⟨false,.rows (ρr.t 9) u (l.take i++l.drop j)⟩)]) (fun q=> ?_) (fun q=> ?_)
   ·simp only[hget];cases hb:Nat.beq 0 q with
    |false=>rfl
    |true=>
     have:q=0:=(ZB5 hb).symm;subst this
     rfl
   ·simp only[hkey];cases hb:Nat.beq 0 q with
    |false=>simp
    |true=>
     have:q=0:=(ZB5 hb).symm;subst this
     rfl
  ·exact e4.less rfl rfl fun g h=>h
 have hok2:hkey (hset [(0,some (⟨false,.rows (ρr.t 9) u l⟩:Ent))] 0 none) 1=false/\1<famBase:=⟨rfl,hfb.2⟩;have nD:∀k,¬z.D k:=hD;cases k1 with
 |slfV _ _ A hρ=>
  have hl:l=[]:=(hH.virt hg0 hρ).1;subst hl;simp at hjl;omega
 |slf _ _ g sz n c hρ hn hs hm=>
 obtain⟨hlt,hC,_,cs,fr,a1,a2,a3,a4,a5,a6,a7⟩:=hH.real hg0 hρ;obtain rfl:l.length=n:=a4;have R1:RowsIn z.w z.M z.ρ u l cs.toList:=fun i x hx=>by obtain⟨us,q1,q2⟩:=a7 i x hx;exact⟨us,q1,fun j v hj=>by simpa using q2 j v hj⟩
 obtain⟨S1,S2,S3⟩:=R1.cut (by rw[ZA3 (xs:=cs)];omega) h0;generalize hCS:cs.toList.take (l.length*u.cells)=CS at S1 S2 S3;have hcsj:∀j x,CS[j]? =some x->cs[j]? =some x:=fun j x hj=>by
  rw[<-hCS,ZAn] at hj;split at hj
  ·simpa using hj
  ·cases hj
 have hcell:∀j x,CS[j]? =some x->z.w.cell? ⟨g,j,none⟩=some x:=fun j x hj=>by rw[bjZ a1];exact hcsj j x hj
 have hcsl:∀j,j<l.length*u.cells->cs[j]? =CS[j]? :=fun j hj=>by rw[<-hCS,ZAn,ZAT hj];simp
 have hth:=csZ (o:=0) (n:=l.length*u.cells) a1 a2.f (by omega);have hjk:j*u.cells<=l.length*u.cells:=ZAf _ hjl;have hik:i*u.cells<=l.length*u.cells:=ZAf _ (by omega);have RL:RowsIn z.w z.M z.ρ u (l.take i++l.drop j) (CS.take (i*u.cells)++CS.drop (j*u.cells)):=by
  refine RowsIn.app (S1.takeC i) ?_ (S1.dropC j);rw[ZAS,ZAS,S2,ZA8 hik,ZA8 (by omega)]
 have h3len:(l.take i++l.drop j).length=i+(l.length-j):=by simp;omega
 have hdk:(CS.drop (j*u.cells)).length=(l.length-j)*u.cells:=by rw[ZAv,S2,ZCI]
 have eil:(i+(l.length-j))*u.cells=i*u.cells+(l.length-j)*u.cells:=ZAo _ _ _;have ejl:(l.length-j)*u.cells=l.length*u.cells-j*u.cells:=ZCI _ _ _;have eij:(j-i)*u.cells=j*u.cells-i*u.cells:=ZCI _ _ _;have hijk:i*u.cells<=j*u.cells:=ZAf _ (by omega);generalize hZ:(Builtin.zeroCells zv.cells (j-i)).toList=ZC;have hZl:ZC.length=(j-i)*u.cells:=by rw[<-hZ,ZA3,size_zeroCells,hzl]
 have hd:=rIZ (k:=u.cells) L h0 z9 a9 v9 hzl hz1 hi0 hs0 g l.length c i j CS z.w hij hjl hn (by unfold maxLen at hm;omega) hZ.symm S2 hcell (fun j hj=>by have:=(hth j hj).2;simpa using this) S3;refine hd.mono ?_;rintro en w' ⟨rfl,rfl⟩;obtain⟨e1,e2,e3,e4⟩:=arZ (CS.drop (j*u.cells)) z.w.drew g (i*u.cells);obtain⟨f1,f2,f3,f4⟩:=arZ ZC (z.w.drew.setCells g (i*u.cells) (CS.drop (j*u.cells))) g ((i+(l.length-j))*u.cells);have hA:z.w.drew.heap[g]? =some (.cells cs (ρr.t 9) fr):=a1;have hB:=amZ ZC _ g ((i+(l.length-j))*u.cells) _ _ _ (amZ (CS.drop (j*u.cells)) _ g (i*u.cells) _ _ _ hA);have hBs:(setArr (setArr cs (i*u.cells) (CS.drop (j*u.cells))) ((i+(l.length-j))*u.cells) ZC).size=cs.size:=by rw[akZ,akZ]
 have hBg:∀q,q<(i+(l.length-j))*u.cells->(setArr (setArr cs (i*u.cells) (CS.drop (j*u.cells))) ((i+(l.length-j))*u.cells) ZC)[q]? =(CS.take (i*u.cells)++CS.drop (j*u.cells))[q]? :=fun q hq=>by
  have t1:(CS.take (i*u.cells)).length=i*u.cells:=by rw[ZAS,S2];omega
  rw[auZ _ _ _ _ (by rw[akZ,hZl];omega),hZl,ZAQ (by omega),auZ _ _ _ _ (by rw[hdk];omega),hdk];by_cases c1:q<i*u.cells
  ·rw[ZAQ (by omega),ZAL (by omega),ZAn,ZAT c1];exact hcsl q (by omega)
  ·rw[ZAT (by omega),ZAO (by omega),t1]
 generalize hWW:(z.w.drew.setCells g (i*u.cells) (CS.drop (j*u.cells))).setCells g ((i+(l.length-j))*u.cells) ZC=WW at*;generalize hCC:setArr (setArr cs (i*u.cells) (CS.drop (j*u.cells))) ((i+(l.length-j))*u.cells) ZC=CC at*;obtain⟨z',p1,p2,p3,p4⟩:=hH.move (id:=1) (n':=i+(l.length-j)) (w':=WW) (b:=.rows (ρr.t 9) u (l.take i++l.drop j)) hg0 hρ hok2 (nD 1)
  (f2.trans e2) ⟨f3.1.trans e3.1,ZBI (ZBI (ZBb _) e3.2) f3.2⟩ (f4.trans e4) (f1.trans e1) (fun b hb=>by rw[<-hWW];exact(alZ _ _ _ _ _ hb).trans (alZ _ _ _ _ _ hb)) (fun z' hz kk=>by
   refine⟨CC,fr,by rw[hz];exact hB,djZ a2 hBs,by rw[hBs];exact a3,h3len,by rw[h3len];omega,a6,fun q x hx=> ?_⟩;have hR:=(RL.eq (cs':=CC.toList) fun q hq=>by rw[h3len] at hq;simpa using hBg q hq).kp kk;obtain⟨us,q1,q2⟩:=hR q x hx;exact⟨us,q1,fun j y hj=>by simpa using q2 j y hj⟩)
 exact fin _ _ z' p1 p2 p3 (.slf _ _ _ _ _ _ p4 (by omega) hs hm)
end
end Go.Ab
namespace Go.Proofs
open Go.Shelf Go.RowKit Go.Lib
variable {P : Program} {ρ : Ren}
set_option maxHeartbeats 8000000 in
set_option maxRecDepth 1000000 in
theorem lqZ(L:Lays.n152 P ρ)(s:ByteArray)(r:Int)(w:World)(h:128<=r)(h3:r≠65533)(hv:Lib.validRune r=false):
 Calls P (ρ.f 152) #[.string s,.int .i32 r] w fun e w'=>e= .returned (.int .i64 (-1))/\w'=w:=by
 have mixed:=L.mixed;have t3:=L.t3;have a3:=L.a3;have z3:=L.z3;have v3:=L.v3;have t4:=L.t4;have a4:=L.a4;have z4:=L.z4;have v4:=L.v4;have t5:=L.t5;have a5:=L.a5;have z5:=L.z5;have v5:=L.v5;have t9:=L.t9;have a9:=L.a9;have z9:=L.z9;have v9:=L.v9;have t21:=L.t21;have a21:=L.a21;have z21:=L.z21;have v21:=L.v21;have e119:∀args w,(callFunc (ρ.f 119) args).run P w= .ok (.enter (ρ.f 119) args) w:=enters_of L.f119 (by kernel_rfl) rfl;have h0:(0:Int)<=r:=by omega
 have hd:¬(r<128):=by omega
 have hd':decide (r<128)=false:=decide_eq_false (by omega);have hq:(r==65533)=false:=beq_eq_false_iff_ne.2 h3
 go_enter L.f152,Body.n152_ntmps ρ
 go_wp2_with (go_at_fn (ρ.f 119);refine(Any.utf8_ValidRune {L with} _ _).mono ?_;rintro e w' ⟨rfl,hw⟩;rw[hw,hv])
 go_ret
 exact⟨rfl,rfl⟩
set_option maxHeartbeats 8000000 in
set_option maxRecDepth 1000000 in
theorem iNZ(L:Lays.n152 P ρ)(s:ByteArray)(w:World)(ha:∀(j:Nat) b,s.data.toList[j]? =some b->b.toNat<128):
 Calls P (ρ.f 152) #[.string s,.int .i32 65533] w fun e w'=>e= .returned (.int .i64 (-1))/\∃pos,w'=w.iter s pos:=by
 have HA:Aside (∀(j:Nat) b,s.data.toList[j]? =some b->b.toNat<128):=ha;clear ha;have mixed:=L.mixed;have t3:=L.t3;have a3:=L.a3;have z3:=L.z3;have v3:=L.v3;have t4:=L.t4;have a4:=L.a4;have z4:=L.z4;have v4:=L.v4;have t5:=L.t5;have a5:=L.a5;have z5:=L.z5;have v5:=L.v5;have t9:=L.t9;have a9:=L.a9;have z9:=L.z9;have v9:=L.v9;have t21:=L.t21;have a21:=L.a21;have z21:=L.z21;have v21:=L.v21
 go_enter L.f152,Body.n152_ntmps ρ
 go_wp2
 go_loopg [5,6] s.size (fun g _ _ wx=>∃i:Nat,i+g=s.size/\wx=w.iter s i)
 case atStart=>exact⟨0,by omega,rfl⟩
 case round=>
  obtain⟨i,hig,rfl⟩:=hrel;cases gk with
  |zero=>
   obtain rfl:i=s.size:=by omega
   have hnx:=run_next_end (P:=P) w s s.size
   go_wp2
   go_ret
   exact⟨rfl,_,rfl⟩
  |succ g=>
   have hi:i<s.size:=by omega
   obtain⟨x,hx⟩:∃x:UInt8,s[i]'hi=x:=⟨_,rfl⟩;have hx128:x.toNat<128:=HA.out i x (by rw[<-hx];exact Lib.data_getElem? s i hi);have hnx:=fun ty=>run_next_ascii (P:=P) w s i ty hi (by rw[hx];exact hx128);rw[hx] at hnx;clear hx;have hne:(((x.toNat:Nat):Int)==65533)=false:=beq_eq_false_iff_ne.2 (by omega)
   go_wp2
   go_roundg g
   case measure=>omega
   case rel=>exact⟨i+1,by omega,rfl⟩
set_option maxHeartbeats 8000000 in
set_option maxRecDepth 1000000 in
theorem hAZ(L:Lays.n152 P ρ)(s:ByteArray)(r:Int)(w:World)(h:128<=r)(h3:r≠65533)(hv:Lib.validRune r=true)(hs:s.size=2)(ha:∀(j:Nat) b,s.data.toList[j]? =some b->b.toNat<128)(hz:(Utf8.encode r).size≠2):
 Calls P (ρ.f 152) #[.string s,.int .i32 r] w fun e w'=>e= .returned (.int .i64 (-1))/\w'=w:=by
 have hval:Utf8.valid r=true:=by
  unfold Lib.validRune at hv;unfold Utf8.valid;simp at hv⊢;omega
 obtain⟨e1,e2,e3⟩:=encode_facts r hval h;have mixed:=L.mixed;have t3:=L.t3;have a3:=L.a3;have z3:=L.z3;have v3:=L.v3;have t4:=L.t4;have a4:=L.a4;have z4:=L.z4;have v4:=L.v4;have t5:=L.t5;have a5:=L.a5;have z5:=L.z5;have v5:=L.v5;have t9:=L.t9;have a9:=L.a9;have z9:=L.z9;have v9:=L.v9;have t21:=L.t21;have a21:=L.a21;have z21:=L.z21;have v21:=L.v21;have e119:∀args w,(callFunc (ρ.f 119) args).run P w= .ok (.enter (ρ.f 119) args) w:=enters_of L.f119 (by kernel_rfl) rfl;have h0:(0:Int)<=r:=by omega
 have hd:¬(r<128):=by omega
 have hd':decide (r<128)=false:=decide_eq_false (by omega);have hq:(r==65533)=false:=beq_eq_false_iff_ne.2 h3;have e137:∀args w,(callFunc (ρ.f 137) args).run P w= .ok (.enter (ρ.f 137) args) w:=enters_of L.f137 (by kernel_rfl) rfl;have hwr:wrap64 (((Utf8.encode r).size:Int)-1)=((Utf8.encode r).size:Int)-1:=by unfold wrap64;omega
 go_enter L.f152,Body.n152_ntmps ρ
 go_wp2_with (go_at_fn (ρ.f 119);refine(Any.utf8_ValidRune {L with} _ _).mono ?_;rintro e w' ⟨rfl,hw⟩;rw[hw,hv])
 go_step3
 go_wp2
 go_loopg [9] 1 (fun _ v9 wx=>v9= .int .i64 (((Utf8.encode r).size:Int)-1)/\wx=w)
 case atStart=>exact⟨rfl,rfl⟩
 case round=>
  obtain⟨rfl,rfl⟩:=hrel;have hlt:¬(((Utf8.encode r).size:Int)-1<(s.size:Int)):=by omega
  go_wp2
  go_ret
  exact⟨rfl,rfl⟩
set_option maxHeartbeats 8000000 in
set_option maxRecDepth 1000000 in
theorem gZZ(L:Lays.n152 P ρ)(s:ByteArray)(r:Int)(w:World)(h:128<=r)(h3:r≠65533)(hv:Lib.validRune r=true)(hs:s.size=2)(ha:∀(j:Nat) b,s.data.toList[j]? =some b->b.toNat<128)(hz:(Utf8.encode r).size=2):
 Calls P (ρ.f 152) #[.string s,.int .i32 r] w fun e w'=>e= .returned (.int .i64 (-1))/\Below w.heap.size w w'/\w.drawn<=w'.drawn:=by
 have hval:Utf8.valid r=true:=by
  unfold Lib.validRune at hv;unfold Utf8.valid;simp at hv⊢;omega
 obtain⟨e1,e2,e3⟩:=encode_facts r hval h;have mixed:=L.mixed;have t3:=L.t3;have a3:=L.a3;have z3:=L.z3;have v3:=L.v3;have t4:=L.t4;have a4:=L.a4;have z4:=L.z4;have v4:=L.v4;have t5:=L.t5;have a5:=L.a5;have z5:=L.z5;have v5:=L.v5;have t9:=L.t9;have a9:=L.a9;have z9:=L.z9;have v9:=L.v9;have t21:=L.t21;have a21:=L.a21;have z21:=L.z21;have v21:=L.v21;have e119:∀args w,(callFunc (ρ.f 119) args).run P w= .ok (.enter (ρ.f 119) args) w:=enters_of L.f119 (by kernel_rfl) rfl;have h0:(0:Int)<=r:=by omega
 have hd:¬(r<128):=by omega
 have hd':decide (r<128)=false:=decide_eq_false (by omega);have hq:(r==65533)=false:=beq_eq_false_iff_ne.2 h3;have e137:∀args w,(callFunc (ρ.f 137) args).run P w= .ok (.enter (ρ.f 137) args) w:=enters_of L.f137 (by kernel_rfl) rfl;obtain⟨x,hx⟩:∃x:UInt8,s[1]'(by omega)=x:=⟨_,rfl⟩;have hx128:x.toNat<128:=ha 1 x (by rw[<-hx];exact Lib.data_getElem? s 1 (by omega));obtain⟨y,hy⟩:∃y:UInt8,(Utf8.encode r)[1]'(by omega)=y:=⟨_,rfl⟩;have hy128:128<=y.toNat:=by
  have:=e3 (by omega);simp only[hz] at this;rw[<-hy];exact this
 have hne:(((x.toNat:Nat):Int)==((y.toNat:Nat):Int))=false:=beq_eq_false_iff_ne.2 (by omega);clear ha e3 e1 e2;obtain⟨rs,hE⟩:∃rs,Utf8.encode r=rs:=⟨_,rfl⟩;simp only[hE] at hz hy
 go_enter L.f152,Body.n152_ntmps ρ
 go_wp2_with (go_at_fn (ρ.f 119);refine(Any.utf8_ValidRune {L with} _ _).mono ?_;rintro e w' ⟨rfl,hw⟩;rw[hw,hv])
 go_step3
 go_wp2
 go_loopg [9] 1 (fun _ v9 wx=>v9= .int .i64 1/\wx=w)
 case atStart=>exact⟨rfl,rfl⟩
 case round=>
  obtain⟨rfl,rfl⟩:=hrel
  go_wp2
  go_step3
  go_wp2
  go_region_o
  all_goals(
   go_wp2
   go_region_with_o (go_at_fn (ρ.f 137);refine(Any.strings_IndexByte {L with} _ _ _).mono ?_;rintro e w' ⟨rfl,hw⟩;rw[hw])
   all_goals(
    go_wp2
    simp only[Exit.noGoto_ret,go_sem]
    go_ret
    exact⟨rfl,((Below.refl _ _).drew).drew,Nat.le_add_right _ 2⟩))
def Fwd(w w':World):Prop:=Below w.heap.size w w'/\w.drawn<=w'.drawn
theorem Fwd.refl(w:World):Fwd w w:=⟨Below.refl _ _,Nat.le_refl _⟩
theorem Fwd.trans{a b c:World}(h:Fwd a b)(k:Fwd b c):Fwd a c:=⟨h.1.trans (k.1.mono h.1.size),Nat.le_trans h.2 k.2⟩
theorem Fwd.alloc(w:World)(o:Obj):Fwd w (w.alloc o):=⟨(Below.refl _ _).alloc (Nat.le_refl _) o,Nat.le_refl _⟩
theorem jJZ(L:Lays.n152 P ρ)(s:ByteArray)(r:Int)(w:World)(h:128<=r)(hs:s.size=2)(ha:∀(j:Nat) b,s.data.toList[j]? =some b->b.toNat<128):
 Calls P (ρ.f 152) #[.string s,.int .i32 r] w fun e w'=>e= .returned (.int .i64 (-1))/\Fwd w w':=by
 by_cases h1:r=65533
 ·subst h1;exact(iNZ L s w ha).mono fun e w' ⟨e1,pos,e2⟩=>⟨e1,by rw[e2];exact Fwd.alloc _ _⟩
 ·cases hv:Lib.validRune r with
  |false=>exact(lqZ L s r w h h1 hv).mono fun e w' ⟨e1,e2⟩=>⟨e1,by rw[e2];exact Fwd.refl _⟩
  |true=>
   by_cases hz:(Utf8.encode r).size=2
   ·exact(gZZ L s r w h h1 hv hs ha hz).mono fun e w' ⟨e1,e2⟩=>⟨e1,e2⟩
   ·exact(hAZ L s r w h h1 hv hs ha hz).mono fun e w' ⟨e1,e2⟩=>⟨e1,by rw[e2];exact Fwd.refl _⟩
def decA(A:Nat->Nat)(C:Nat->Bool):Nat×Nat:=
 if A 0<0x80 then(A 0,1)
 else if A 0/32==6&&C 1 then
  if(A 0%32)*64+A 1%64>=0x80 then((A 0%32)*64+A 1%64,2) else(Utf8.runeError,1)
 else if A 0/16==14&&C 1&&C 2 then
  if(A 0%16)*4096+(A 1%64)*64+A 2%64>=0x800&&Utf8.valid ((A 0%16)*4096+(A 1%64)*64+A 2%64:Nat) then((A 0%16)*4096+(A 1%64)*64+A 2%64,3) else(Utf8.runeError,1)
 else if A 0/8==30&&C 1&&C 2&&C 3 then
  if(A 0%8)*262144+(A 1%64)*4096+(A 2%64)*64+A 3%64>=0x10000&&Utf8.valid ((A 0%8)*262144+(A 1%64)*4096+(A 2%64)*64+A 3%64:Nat) then((A 0%8)*262144+(A 1%64)*4096+(A 2%64)*64+A 3%64,4) else(Utf8.runeError,1)
 else(Utf8.runeError,1)
theorem qKZ(s:ByteArray)(i:Nat):Utf8.decode s i=decA (fun k=>(s.get! (i+k)).toNat) (fun k=>i+k<s.size&&(s.get! (i+k)).toNat/64==2):=rfl
theorem niZ(A:Nat->Nat)(C:Nat->Bool)(h:128<=A 0):∃c k,decA A C=(c,k)/\128<=c/\1<=k/\∀j,1<=j->j<k->C j=true:=by
 have e128:128<=Utf8.runeError:=by decide
 have one:∃c k,(Utf8.runeError,1)=(c,k)/\128<=c/\1<=k/\∀j,1<=j->j<k->C j=true:=⟨_,1,rfl,e128,Nat.le_refl _,fun j h1 h2=>by omega⟩;have hnl:¬A 0<128:=by omega
 unfold decA;rw[if_neg hnl];split
 ·rename_i h;rw[Bool.and_eq_true] at h;split
  ·rename_i hc;refine⟨_,2,rfl,hc,by omega,fun j h1 h2=> ?_⟩;obtain rfl:j=1:=by omega
   exact h.2
  ·exact one
 ·split
  ·rename_i h;rw[Bool.and_eq_true,Bool.and_eq_true] at h;split
   ·rename_i hc;rw[Bool.and_eq_true,decide_eq_true_eq] at hc;refine⟨_,3,rfl,by omega,by omega,fun j h1 h2=> ?_⟩;have:j=1\/j=2:=by omega
    rcases this with rfl|rfl
    ·exact h.1.2
    ·exact h.2
   ·exact one
  ·split
   ·rename_i h;rw[Bool.and_eq_true,Bool.and_eq_true,Bool.and_eq_true] at h;split
    ·rename_i hc;rw[Bool.and_eq_true,decide_eq_true_eq] at hc;refine⟨_,4,rfl,by omega,by omega,fun j h1 h2=> ?_⟩;have:j=1\/j=2\/j=3:=by omega
     rcases this with rfl|rfl|rfl
     ·exact h.1.1.2
     ·exact h.1.2
     ·exact h.2
    ·exact one
   ·exact one
theorem pAZ(s:ByteArray)(j:Nat)(hj:j<s.size):s.get! j=s[j]'hj:=by
 simp[ByteArray.get!,getElem!_pos,hj]
 rfl
theorem jNZ(s:ByteArray)(i:Nat)(hi:i<s.size)(hx:128<=(s[i]'hi).toNat):∃c k,Utf8.decode s i=(c,k)/\128<=c/\1<=k/\i+k<=s.size/\∀j (hj:j<s.size),i<=j->j<i+k->128<=(s[j]'hj).toNat:=by
 obtain⟨c,k,e1,e2,e3,e4⟩:=niZ (fun k=>(s.get! (i+k)).toNat) (fun k=>i+k<s.size&&(s.get! (i+k)).toNat/64==2) (by
  show 128<=(s.get! i).toNat;rw[pAZ s i hi];exact hx)
 rw[<-qKZ] at e1;refine⟨c,k,e1,e2,e3,?_,fun j hj h1 h2=> ?_⟩
 ·by_cases hk:k=1
  ·omega
  ·have:=e4 (k-1) (by omega) (by omega);rw[Bool.and_eq_true,decide_eq_true_eq] at this;omega
 ·by_cases hji:j=i
  ·subst hji;exact hx
  ·have:=e4 (j-i) (by omega) (by omega);rw[Bool.and_eq_true] at this;have h3:=this.2;have e:i+(j-i)=j:=by omega
   simp only[e] at h3;rw[pAZ s j hj] at h3;have:=beq_iff_eq.1 h3;omega
theorem eUZ(W:World)(g:Nat)(s:ByteArray)(pos c k:Nat)(ty:TypeId)(hg:W.heap[g]? =some (.stringIter s pos))(h:pos<s.size)(hd:Utf8.decode s pos=(c,k)):
 (Instr.next (.pointer (some ⟨g,0,none⟩)) true ty).run P W= .ok (.tuple #[.bool true,.int .i64 pos,.int .i32 c]) {W with heap:=W.heap.setIfInBounds g (.stringIter s (pos+k))}:=by
 have hgl:g<W.heap.size:=(Array.getElem?_eq_some_iff.1 hg).1;simp only[Instr.next,getObj,setObj,Sem.run_bind,Sem.run,hg,Result.andThen,h,if_true,hd];simp[goInt,Sem.run,hg]
theorem eWZ(W:World)(g:Nat)(s:ByteArray)(pos:Nat)(ty:TypeId)(hg:W.heap[g]? =some (.stringIter s pos))(h:¬pos<s.size):
 (Instr.next (.pointer (some ⟨g,0,none⟩)) true ty).run P W= .ok (.tuple #[.bool false]) W:=by
 simp[Instr.next,getObj,Sem.run,hg,h]
end Go.Proofs
namespace Go.Proofs
open Go.Shelf Go.RowKit Go.Lib
variable {P : Program} {ρ : Ren}
theorem NoAny.skip{s chars:List UInt8}{i k:Nat}(h:Lib.NoAny s chars i)(hac:∀(j:Nat) b,chars[j]? =some b->b.toNat<128)(hk:∀j b,i<=j->j<i+k->s[j]? =some b->128<=b.toNat):Lib.NoAny s chars (i+k):=by
 have:∀n,n<=k->Lib.NoAny s chars (i+n):=by
  intro n;induction n with
  |zero=>intro _;exact h
  |succ n ih=>
   intro hn;have h1:=ih (by omega);cases hb:s[i+n]? with
   |none=>
    intro j b hj hb';by_cases hji:j<i+n
    ·exact h1 j b hji hb'
    ·have:j=i+n:=by omega
     subst this;rw[hb] at hb';cases hb'
   |some b=>
    refine h1.succ hb ?_;have hb8:=hk (i+n) b (by omega) (by omega) hb;cases hc:chars.contains b with
    |false=>rfl
    |true=>
     obtain⟨j,hj⟩:=List.getElem?_of_mem (List.contains_iff_mem.1 hc);have:=hac j b hj;omega
 exact this k (Nat.le_refl _)
set_option maxHeartbeats 8000000 in
set_option maxRecDepth 1000000 in
theorem jCZ(L:Lays.n153 P ρ)(s chars:ByteArray)(w:World)(h2:chars.size=2)(h8:s.size<=8)(hac:∀(j:Nat) b,chars.data.toList[j]? =some b->b.toNat<128):
 Calls P (ρ.f 153) #[.string s,.string chars] w fun e w'=>e= .returned (.int .i64 (Lib.indexAny s.data.toList chars.data.toList))/\Fwd w w':=by
 have HA:Aside (∀(j:Nat) b,chars.data.toList[j]? =some b->b.toNat<128):=hac;clear hac;have hemp:chars.toList.isEmpty=false:=by
  rw[Lib.toList_data];cases h:chars.data.toList with
  |nil=>have:=Lib.size_eq chars;rw[h,List.length_nil] at this;omega
  |cons _ _=>rfl
 have hn1:((chars.size:Int)==1)=false:=beq_eq_false_iff_ne.2 (by omega);have h8z:decide ((8:Int)<(s.size:Int))=false:=decide_eq_false (by omega);have t3:=L.t3;have a3:=L.a3;have z3:=L.z3;have v3:=L.v3;have t4:=L.t4;have a4:=L.a4;have z4:=L.z4;have v4:=L.v4;have t5:=L.t5;have a5:=L.a5;have z5:=L.z5;have v5:=L.v5;have t9:=L.t9;have a9:=L.a9;have z9:=L.z9;have v9:=L.v9;have t21:=L.t21;have a21:=L.a21;have z21:=L.z21;have v21:=L.v21;have e152:∀args w,(callFunc (ρ.f 152) args).run P w= .ok (.enter (ρ.f 152) args) w:=enters_of L.f152 (by kernel_rfl) rfl;have e226:∀args w,(callFunc (ρ.f 226) args).run P w= .ok (.enter (ρ.f 226) args) w:=enters_of L.f226 (by kernel_rfl) rfl
 go_enter L.f153,Body.n153_ntmps ρ
 go_wp2_with (go_at_fn (ρ.f 226);refine(Any.strings_shouldUseASCIISet {L with} _ _).mono ?_;rintro e w' ⟨rfl,hw⟩;rw[hw,h8z])
 go_loopg [9,10] s.size (fun g _ _ wx=>∃i:Nat,s.size<=i+g/\i<=s.size/\wx.heap[w.heap.size]? =some (.stringIter s i)/\Fwd w wx/\Lib.NoAny s.data.toList chars.data.toList i)
 case atStart=>exact⟨0,by omega,by omega,World.iter_heap w s 0,Fwd.alloc _ _,Lib.NoAny.zero _ _⟩
 case round=>
  obtain⟨i,hig,hil,hit,hfw,hno⟩:=hrel;have HN:Aside (Lib.NoAny s.data.toList chars.data.toList i):=hno;have HF:Aside (Fwd w wr):=hfw;clear hno hfw;by_cases hi:i<s.size
  ·obtain⟨g,rfl⟩:∃g,gk=g+1:=⟨gk-1,by omega⟩;obtain⟨x,hx⟩:∃x:UInt8,s[i]'hi=x:=⟨_,rfl⟩;have hxl:s.data.toList[i]? =some x:=by rw[<-hx];exact Lib.data_getElem? s i hi
   have hgl:w.heap.size<wr.heap.size:=(Array.getElem?_eq_some_iff.1 hit).1;have step:∀k,∃W1:World,W1={wr with heap:=wr.heap.setIfInBounds w.heap.size (.stringIter s (i+k))}/\W1.heap[w.heap.size]? =some (.stringIter s (i+k))/\Fwd w W1:=fun k=>by
    refine⟨_,rfl,?_,⟨⟨HF.out.1.os,HF.out.1.tape,HF.out.1.output,?_,fun b hb=> ?_⟩,HF.out.2⟩⟩
    ·show(wr.heap.setIfInBounds w.heap.size (.stringIter s (i+k)))[w.heap.size]? =_;rw[Array.getElem?_setIfInBounds_self_of_lt hgl]
    ·show _<=(wr.heap.setIfInBounds _ _).size;rw[Array.size_setIfInBounds];exact HF.out.1.size
    ·show(wr.heap.setIfInBounds _ _)[b]? =_;rw[Array.getElem?_setIfInBounds_ne (by omega)];exact HF.out.1.block b hb
   by_cases hx8:x.toNat<128
   ·obtain⟨W1,hW1,hW2,hW3⟩:=step 1;have hnx:=fun ty=>eUZ (P:=P) wr w.heap.size s i x.toNat 1 ty hit hi (by rw[decode_ascii s i hi (by rw[hx];exact hx8),hx]);rw[<-hW1] at hnx;have Hx:Aside (s.data.toList[i]? =some x):=hxl;have HW:Aside (W1.heap[w.heap.size]? =some (.stringIter s (i+1))/\Fwd w W1):=⟨hW2,hW3⟩;clear hxl hx hW1 hW2 hW3 step hit;have hcon:=Lib.contains_iff_indexByte chars.data.toList x;have hback:((x.toNat:Int)).toNat.toUInt8=x:=by simp
    cases hin:chars.data.toList.contains x
    ·rw[hin] at hcon;have hlt:¬((0:Int)<=Lib.indexByte chars.data.toList x):=of_decide_eq_false hcon.symm;clear hcon
     go_wp2_with (go_at_fn (ρ.f 152);refine(Any.strings_IndexRune_ascii {L with} _ _ _ (by omega) (by omega)).mono ?_;rintro e w' ⟨rfl,hw⟩;rw[hw,hback])
     go_roundg g
     case measure=>omega
     case rel=>exact⟨i+1,by omega,by omega,HW.out.1,HW.out.2,HN.out.succ Hx.out hin⟩
    ·rw[hin] at hcon;have hge:(0:Int)<=Lib.indexByte chars.data.toList x:=of_decide_eq_true hcon.symm;clear hcon
     go_wp2_with (go_at_fn (ρ.f 152);refine(Any.strings_IndexRune_ascii {L with} _ _ _ (by omega) (by omega)).mono ?_;rintro e w' ⟨rfl,hw⟩;rw[hw,hback])
     go_ret
     exact⟨by rw[Lib.indexAny_hit HN.out Hx.out hin];rfl,HW.out.2⟩
   ·obtain⟨c,k,hd,hc,hk1,hk2,hk3⟩:=jNZ s i hi (by rw[hx];omega);obtain⟨W1,hW1,hW2,hW3⟩:=step k;have hnx:=fun ty=>eUZ (P:=P) wr w.heap.size s i c k ty hit hi hd;rw[<-hW1] at hnx;have HW:Aside (W1.heap[w.heap.size]? =some (.stringIter s (i+k))/\Fwd w W1):=⟨hW2,hW3⟩;have HK:Aside (∀j (hj:j<s.size),i<=j->j<i+k->128<=(s[j]'hj).toNat):=hk3;clear hxl hx hW1 hW2 hW3 step hit hk3 hd
    go_wp2_with (go_at_fn (ρ.f 152);refine(jJZ {L with} _ _ _ (by omega) h2 HA.out).mono ?_;rintro e w' ⟨rfl,hw⟩)
    go_roundg g
    case measure=>omega
    case rel=>
     have hgl1:w.heap.size<W1.heap.size:=(Array.getElem?_eq_some_iff.1 HW.out.1).1;refine⟨i+k,by omega,hk2,by rw[hw.1.block _ hgl1];exact HW.out.1,HW.out.2.trans hw,NoAny.skip HN.out HA.out fun j b h1 h3 hb=> ?_⟩;have hj:j<s.size:=by omega
     have:=HK.out j hj h1 h3;have hb2:s.data.toList[j]? =some (s[j]'hj):=Lib.data_getElem? s j hj;rw[hb] at hb2;injection hb2 with hb2;rw[hb2];exact this
  ·obtain rfl:i=s.size:=by omega
   have hnx:=fun ty=>eWZ (P:=P) wr w.heap.size s s.size ty hit hi
   go_wp2
   go_ret
   exact⟨by rw[Lib.indexAny_none (by rw[<-Lib.size_eq];exact HN.out)];rfl,HF.out⟩
theorem mAZ(L:Lays.n153 P ρ)(h116:(P.info? (ρ.t 116)).map (fun i=>(i.zero,i.size))=some (some (.agg (Array.replicate 256 (.bool false))),256))(s chars:ByteArray)(w:World)(h2:chars.size=2)(hs:s.size<4294967281)(hac:∀(j:Nat) b,chars.data.toList[j]? =some b->b.toNat<128):
 Calls P (ρ.f 153) #[.string s,.string chars] w fun e w'=>e= .returned (.int .i64 (Lib.indexAny s.data.toList chars.data.toList))/\Fwd w w':=by
 by_cases h8:s.size<=8
 ·exact jCZ L s chars w h2 h8 hac
 ·refine(Any.strings_IndexAny_long L (zero_of_info h116).1 (zero_of_info h116).2 s chars w (by omega) (by omega) hs (by omega) hac).mono fun e w' ⟨h1,h2⟩=>⟨h1,?_⟩;rw[h2];exact(Fwd.alloc _ _).trans (Fwd.alloc _ _)
set_option maxHeartbeats 1000000 in
theorem fHZ(L:Lays.n150 P ρ)(h116:(P.info? (ρ.t 116)).map (fun i=>(i.zero,i.size))=some (some (.agg (Array.replicate 256 (.bool false))),256))(s chars:ByteArray)(w:World)(h2:chars.size=2)(hs:s.size<4294967281)(hac:∀(j:Nat) b,chars.data.toList[j]? =some b->b.toNat<128):
 Calls P (ρ.f 150) #[.string s,.string chars] w fun e w'=>e= .returned (.bool (Lib.containsAny s.data.toList chars.data.toList))/\Fwd w w':=by
 have c:=mAZ {L with} h116 s chars w h2 hs hac;have t3:=L.t3;have a3:=L.a3;have z3:=L.z3;have v3:=L.v3;have t4:=L.t4;have a4:=L.a4;have z4:=L.z4;have v4:=L.v4;have t9:=L.t9;have a9:=L.a9;have z9:=L.z9;have v9:=L.v9;have e153:∀args w,(callFunc (ρ.f 153) args).run P w= .ok (.enter (ρ.f 153) args) w:=enters_of L.f153 (by kernel_rfl) rfl
 go_enter L.f150,Body.n150_ntmps ρ
 go_wp2_with (go_at_fn (ρ.f 153);refine c.mono ?_;rintro e w' ⟨rfl,hw⟩)
 go_ret
 exact⟨rfl,hw⟩
end Go.Proofs
namespace Go.Ab
open Go.Proofs Go.Shelf
def caS(t:List UInt8×List UInt8):Option Bool:=
 need (Nat.beq t.2.length 2&&t.2.all (fun b=>Nat.blt b.toNat 128)&&Nat.blt t.1.length 4294967281) (some (Go.Lib.containsAny t.1 t.2))
theorem e0Z{P:Program}{ρr:Ren}(L:Lays.n150 P ρr)(h116:(P.info? (ρr.t 116)).map (fun i=>(i.zero,i.size))=some (some (.agg (Array.replicate 256 (.bool false))),256))
 (hent:∃fn c,P.funcs[ρr.f 150]? =some fn/\fn.body=some c/\(fn.name== "runtime.NumGoroutine")=false):
 Told P ⟨ρr.f 150,⟨.cons (.p .str) (.cons (.p .str) .nil),[]⟩,[⟨.cons (.p .bool) .nil,[]⟩],caS⟩:=by
 refine Told.of hent fun t r hr z vals hH hv hD=> ?_;obtain⟨⟨s,c⟩,rfl⟩:∃t':List UInt8×List UInt8,t'=t:=⟨t,rfl⟩;have hr:caS (s,c)=some r:=hr;unfold caS at hr;obtain⟨hc,hr⟩:=aeZ.1 hr;injection hr with hr;subst hr;simp only[ZAB,ZBW,acZ,ZB4] at hc;obtain⟨⟨hc1,hc2⟩,hc3⟩:=hc;have hv:AReps z [.p .str s,.p .str c] vals:=hv;obtain⟨h1,h2⟩:=hv
 match vals,h1,h2 with
 |[a,b],_,h2=>
  have k1:ARep z (.p .str s) a:=h2 0 _ a rfl rfl;have k2:ARep z (.p .str c) b:=h2 1 _ b rfl rfl;obtain rfl:=k1.v.str;obtain rfl:=k2.v.str;refine(fHZ L h116 ⟨⟨s⟩⟩ ⟨⟨c⟩⟩ z.w (by simpa[ByteArray.size] using hc1) (by simpa[ByteArray.size] using hc3) (fun j b hj=>hc2 b (ZAN hj))).mono ?_;rintro en w' ⟨rfl,hw⟩
  let z':Z:={z with w:=w'}
  have hH':HRep z' []:=⟨fun id e h=>(by rw[bqZ] at h;cases h),fun i i' e e' g sz n g' sz' n' _ h=>(by rw[bqZ] at h;cases h),hH.fresh,hH.sub,fun i x h=>by simp[hget] at h,fun i h=>by simp[hkey] at h,fun i _ h=>by simp[hkey] at h,hH.nos⟩;have hN:Nx z z':=⟨hw.1.os,⟨hw.1.tape,hw.2⟩,hw.1.output,hw.1.size,fun b hb _=>hw.1.block b hb,fun _ h=>.inl h,fun _ h=>.inl h,fun _ _ h _=>h,fun _ _=>rfl,rfl⟩;exact⟨_,z',rfl,rfl,hN,fun k hk=>absurd hk (hD k),hH',.p _ _ _ ⟨[.bool (Go.Lib.containsAny s c)],rfl,rfl⟩⟩
end Go.Ab
namespace Go.Ab
theorem fOZ{P:Program}{f:FuncId}{fn:Func}(hf:P.funcs[f]? =some fn)(hname:(fn.name== "runtime.NumGoroutine")=false)(hb:fn.body.isNone=true)(hn:(Extern.findNext fn).isNone=true)(he:Extern.find fn=some Extern.BytealgCompare.compare):
 Told P ⟨f,⟨.cons (.p .str) (.cons (.p .str) .nil),[]⟩,[⟨.cons (.p (.int .i64)) .nil,[]⟩],fun t:List UInt8×List UInt8=>some (Go.Lib.compareBytes t.1 t.2)⟩:=by
 refine⟨fun t r hr z vals hH hv hD=>.inr ?_⟩;obtain⟨⟨l,c⟩,rfl⟩:∃t':List UInt8×List UInt8,t'=t:=⟨t,rfl⟩;have hr:some (Go.Lib.compareBytes l c)=some r:=hr;injection hr with hr;subst hr;have hv:AReps z [.p .str l,.p .str c] vals:=hv;obtain⟨h1,h2⟩:=hv
 match vals,h1,h2 with
 |[a,b],_,h2=>
  have k1:ARep z (.p .str l) a:=h2 0 _ a rfl rfl;have k2:ARep z (.p .str c) b:=h2 1 _ b rfl rfl;obtain rfl:=k1.v.str;obtain rfl:=k2.v.str;refine⟨.int .i64 (Go.Lib.compareBytes l c),z.w,?_,_,z,rfl,rfl,Nx.refl z,fun k hk=>absurd hk (hD k),hH,.p _ _ _ ⟨[.int .i64 (Go.Lib.compareBytes l c)],rfl,rfl⟩⟩;have hn':Extern.findNext fn=none:=by simpa using hn
  rw[run_callFunc_extern hf hname hb hn' he,Go.Lib.run_compareString]
  rfl
end Go.Ab
namespace Go.Ab
open Go.Proofs Go.Shelf Go.Sort
section
variable {α : Type} [Inhabited α]
def encV(v:α->Int×Int)(a:α):List Value:=encII (v a)
def sortA(lt:α->α->Bool)(l:List α):List α:=(pdq lt l.toArray 0 l.toArray.size (Lib.bitLen l.toArray.size) true true).toList
theorem kMZ{lt:α->α->Bool}(hO:SWO lt)(l:List α):PermIn 0 l.toArray.size l.toArray (pdq lt l.toArray 0 l.toArray.size (Lib.bitLen l.toArray.size) true true)/\SortedIn lt 0 l.toArray.size (pdq lt l.toArray 0 l.toArray.size (Lib.bitLen l.toArray.size) true true):=
 pdq_sorts lt hO l.toArray 0 l.toArray.size (Lib.bitLen l.toArray.size) true true (ZBS _) (ZAM _) (Or.inl rfl)
theorem esZ{lt:α->α->Bool}(hO:SWO lt)(l:List α):(sortA lt l).length=l.length:=by
 have:=(kMZ hO l).1.1;unfold sortA;simpa using this
variable {P : Program} {ρr : Ren}
theorem qMZ(v:α->Int×Int)(l:List α){i j:Nat}{x:α}{w:Value}(hx:l[i]? =some x)(hv:(encII (v x))[j]? =some w):i*2+j<l.length*2/\(flatK (encV v) 2 l.toArray)[i*2+j]! =w:=by
 have hi:=(ZAC.1 hx).1;have hj:j<2:=(ZAC.1 hv).1;have hlt:i*2+j<l.length*2:=by omega
 refine⟨hlt,?_⟩;rw[get_flatK _ _ _ _ (by simpa using hlt)];have h1:(i*2+j)/2=i:=by omega
 have h2:(i*2+j)%2=j:=by omega
 rw[h1,h2];have h3:l.toArray[i]! =x:=by simp[hx]
 rw[h3];show(encII (v x))[j]! =w;simp[List.getElem!_eq_getElem?_getD,hv]
theorem jlZ(v:α->Int×Int){g:FuncId}(hcb:Bodied P g){cf:α->α->Int}{cspec:(Shp.D ⟨.cons (.p tyII) (.cons (.p tyII) .nil),[]⟩)->Option (OutS [⟨.cons (.p (.int .i64)) .nil,[]⟩])}
 (hc:Told P ⟨g,⟨.cons (.p tyII) (.cons (.p tyII) .nil),[]⟩,[⟨.cons (.p (.int .i64)) .nil,[]⟩],cspec⟩)(hcs:∀x y,cspec (v x,v y)=some (cf x y))(blk off size:Nat)(w:World):
 CmpLays P g #[] (encV v) 2 cf blk off size w:=by
 intro m os dk _ x y;generalize sortWorldK (encV v) 2 w blk off m dk os=W;have h:=hc.spec (v x,v y) (cf x y) (hcs x y) ⟨W,fun _=>False,fun _=>False,fun _=>.no,fun _=>False⟩ [.agg (encII (v x)).toArray,.agg (encII (v y)).toArray]
  ⟨fun id e h=>absurd ((bqZ id).symm.trans h) (fun h=>by cases h),fun i i' e e' g sz n g' sz' n' _ h=>absurd ((bqZ i).symm.trans h) (fun h=>by cases h),fun id _=>.inl rfl,fun g h=>h,fun i x h=>by simp[Shp.emb,embH,hget] at h,fun i h=>by simp[Shp.emb,embH,hkey] at h,fun _ _ _ h=>h,fun _ _ _=>rfl⟩
  ⟨rfl,fun i a vv h1 h2=>by
   match i with
   |0=>
    have h1:some (AV.p tyII (v x))=some a:=h1;have h2:some (Value.agg (encII (v x)).toArray)=some vv:=h2;injection h1 with h1;injection h2 with h2;subst h1;subst h2;exact qNZ (v x)
   |1=>
    have h1:some (AV.p tyII (v y))=some a:=h1;have h2:some (Value.agg (encII (v y)).toArray)=some vv:=h2;injection h1 with h1;injection h2 with h2;subst h1;subst h2;exact qNZ (v y)
   |i+2=>simp at h2⟩ (fun _ h=>h)
 refine(h.calls hcb).mono ?_;rintro en w' ⟨vr,z',rfl,rfl,hn,_,ho⟩;obtain⟨_,ho⟩:=ho;have ho:ARep z' (.p (.int .i64) (cf x y)) vr:=ho;refine⟨by rw[ho.v.int],oHZ hn.os hn.tape.1 hn.tape.2 hn.output hn.size fun b hb=>hn.block b hb fun h=>h⟩
theorem lCZ(v:α->Int×Int){lift:List (Int×Int)->Option (List α)}(hl:∀l t,lift l=some t->t.map v=l)(L:SlLaysF0.n6 P ρr)(aE:∀w,(isAgg (ρr.t 24)).run P w= .ok true w)(zE:∀w,(Go.sizeOf (ρr.t 24)).run P w= .ok 2 w){g:FuncId}{e:TypeId}{cf:α->α->Int}{cspec:(Shp.D ⟨.cons (.p tyII) (.cons (.p tyII) .nil),[]⟩)->Option (OutS [⟨.cons (.p (.int .i64)) .nil,[]⟩])}
 (hO:SWO (ltOf cf))(hcb:Bodied P g)(hc:Told P ⟨g,⟨.cons (.p tyII) (.cons (.p tyII) .nil),[]⟩,[⟨.cons (.p (.int .i64)) .nil,[]⟩],cspec⟩)(hcs:∀x y,cspec (v x,v y)=some (cf x y))
 (hent:∃fn c,P.funcs[ρr.f 6]? =some fn/\fn.body=some c/\(fn.name== "runtime.NumGoroutine")=false)(eg:∀args w,(callFunc g args).run P w= .ok (.enter g args) w):
 Told P ⟨ρr.f 6,⟨.cons (.slf 2 0) (.cons (.fn g .nil .nil) .nil),[(0,false,.rows e tyII)]⟩,[⟨.nil,[(0,false,.rows e tyII)]⟩],fun l=>need (Nat.blt (List.length (α:=Int×Int) l) 4611686018427387904) ((lift l).map fun t=>(sortA (ltOf cf) t).map v)⟩:=by
 refine Told.of hent fun t r hr z vals hH hv hD=> ?_;obtain⟨t,rfl⟩:∃t':List (Int×Int),t'=t:=⟨t,rfl⟩;have hr:need (Nat.blt t.length 4611686018427387904) ((lift t).map fun t=>(sortA (ltOf cf) t).map v)=some r:=hr;obtain⟨hr0,hr⟩:=aeZ.1 hr;rw[ZBW] at hr0;obtain⟨t',hlt',hr2⟩:=ZAH.1 hr;obtain rfl:=hl _ _ hlt';subst hr2;clear hlt' hr;generalize t'=t at*;rw[ZBB] at hr0;have hH:HRep z [(0,some ⟨false,.rows e tyII (t.map v)⟩)]:=hH;have hv:AReps z [.slf 2 0,.fn g [] []] vals:=hv;obtain⟨v1,v2,rfl,h1,h2⟩:=r9Z hv;have hg:hget [(0,some (⟨false,.rows e tyII (t.map v)⟩:Ent))] 0=some ⟨false,.rows e tyII (t.map v)⟩:=rfl;cases h2 with
 |fn _ _ _ va vc ha hc' _ _=>
 have ha:va=#[]:=ZBt ha;have hc':vc=#[]:=ZBt hc';subst ha;subst hc';have htup:∀z':Z,ARep z' (.tup []) (.tuple #[]):=fun z'=>.tup [] #[] rfl fun i x v h=>by simp at h
 cases h1 with
 |slfV _ _ A hρ=>
  have hB:t=[]:=List.map_eq_nil_iff.1 (hH.virt hg hρ).1;subst hB;refine(AnyF.slices_SortFunc_none L A 0 (.func (.func g) #[] #[]) z.w).mono ?_;rintro en w' ⟨rfl,rfl⟩;refine⟨_,z,rfl,rfl,Nx.refl z,fun k hk=>absurd hk (hD k),?_⟩;have e0:sortA (ltOf cf) ([]:List α)=[]:=ZAR (esZ hO []);show HRep z [(0,some ⟨false,.rows e tyII ((sortA (ltOf cf) ([]:List α)).map v)⟩)]/\ARep z (.tup []) _;rw[e0];exact⟨hH,htup z⟩
 |slf _ _ g0 sz n c hρ hn hs hm=>
  obtain⟨hlt,hC,_,cs,fr,b1,b2,b3,b4,b5,b6,b7⟩:=hH.real hg hρ;have hC:=hC rfl;have b4:t.length=n:=by have:=b4;rw[ZBB] at this;exact this
  have b5:t.length*2<=sz:=by have:=b5;rw[ZBB] at this;exact this
  have hrow:∀(i:Nat) x,t[i]? =some x->∀(j:Nat) w,(encII (v x))[j]? =some w->cs[i*2+j]? =some w:=fun i x hx j w hv=>by
   obtain⟨u,q1,q2⟩:=b7 i (v x) (by rw[ZAW,hx];rfl);rw[clII.1 q1] at q2;exact q2 j w hv
  have hcell:∀k,k<t.length*2->cs[k]? =some ((flatK (encV v) 2 t.toArray)[k]!):=fun k hk=>by
   have hi:k/2<t.length:=by omega
   have h1:t[k/2]? =some t[k/2]:=ZAD hi;have h2:(encII (v t[k/2]))[k%2]? =some ((encII (v t[k/2]))[k%2]'(by show k%2<2;omega)):=ZAD _;have e1:=hrow _ _ h1 _ _ h2;have e2:=(qMZ v t h1 h2).2;have e3:k/2*2+k%2=k:=by omega
   rw[e3] at e1 e2;rw[e1,e2]
  have hHolds:HoldsK (encV v) 2 z.w g0 0 t.toArray:=by
   intro j hj;rw[size_flatK] at hj;have hj:j<t.length*2:=by simpa using hj
   refine⟨?_,?_⟩
   ·simp only[World.cell?,b1,ZAj];exact hcell j hj
   ·simp only[World.frozen?,b1,ZAj];have hjs:j<cs.size:=by omega
    rcases b2.f with h|h
    ·rw[h];simp only[ZBw,ZA6];omega
    ·simp only[ZBw,ZA6];left;omega
  have hsz:t.toArray.size<4611686018427387904:=by
   simpa using hr0
  have hS:=AnyQ.slices_SortFunc_eq L 2 aE zE (encV v) (fun _=>rfl) (fun x w hv=>by simp[encV,encII] at hv;rcases hv with rfl|rfl<;>rfl) cf hO g #[] g0 0 c t.toArray z.w eg (jlZ v hcb hc hcs g0 0 t.toArray.size z.w) hHolds hlt hsz
  rw[show t.toArray.size=n by simpa using b4] at hS;refine hS.mono ?_;rintro en w' ⟨rfl,m,os,rfl⟩;have hlen:(sortA (ltOf cf) t).length=t.length:=esZ hO t;have hsort:pdq (ltOf cf) t.toArray 0 n (Lib.bitLen n) true true=(sortA (ltOf cf) t).toArray:=by
   unfold sortA;rw[show t.toArray.size=n by simpa using b4]
  rw[hsort];generalize sortA (ltOf cf) t=l' at hlen⊢;have hw1:∀b,b<z.w.heap.size->(sortWorldK (encV v) 2 z.w g0 0 m l'.toArray os).heap[b]? =if b=g0 then some (.cells (putCells id 0 (flatK (encV v) 2 l'.toArray) cs) e fr) else z.w.heap[b]? :=fun b hb=>by
   show((putRowK (encV v) 2 (Sort.ahead z.w m) g0 0 l'.toArray).heap++os)[b]? =_;have hs1:b<(putRowK (encV v) 2 (Sort.ahead z.w m) g0 0 l'.toArray).heap.size:=by
    show b<(Sort.putRow id (Sort.ahead z.w m) g0 0 _).heap.size;rw[Go.Sort.size_putRow];exact hb
   rw[ZBR hs1];show(z.w.heap.modify g0 (onCells (putCells id 0 (flatK (encV v) 2 l'.toArray))))[b]? =_;rw[ZBv];by_cases h:b=g0
   ·subst h;rw[ZAT rfl,ZAT rfl,b1];rfl
   ·rw[ZAQ (ZBd h),ZAQ h]
  have hw2:z.w.heap.size<=(sortWorldK (encV v) 2 z.w g0 0 m l'.toArray os).heap.size:=by
   show _<=((Sort.putRow id (Sort.ahead z.w m) g0 0 _).heap++os).size;rw[ZBH,Go.Sort.size_putRow];exact ZBn _ _
  have hw3:(sortWorldK (encV v) 2 z.w g0 0 m l'.toArray os).os=z.w.os/\(sortWorldK (encV v) 2 z.w g0 0 m l'.toArray os).tape=z.w.tape/\(sortWorldK (encV v) 2 z.w g0 0 m l'.toArray os).output=z.w.output/\(sortWorldK (encV v) 2 z.w g0 0 m l'.toArray os).drawn=z.w.drawn+m:=⟨rfl,rfl,rfl,rfl⟩;generalize sortWorldK (encV v) 2 z.w g0 0 m l'.toArray os=w' at*;have hM:z.M g0:=hH.sub _ hC;have hnx:Nx z {z with w:=w'}:=⟨hw3.1,⟨hw3.2.1,by show _<=w'.drawn;rw[hw3.2.2.2];exact ZBn _ _⟩,hw3.2.2.1,hw2,fun b hb hcb=>by
   show w'.heap[b]? =_;rw[hw1 b hb,ZAQ (fun h=>by subst h;exact hcb hC)],fun _ h=>.inl h,fun _ h=>.inl h,fun _ _ h _=>h,fun _ _=>rfl,rfl⟩
  have hkp:=hnx.kp hH.sub;refine⟨_,{z with w:=w'},rfl,rfl,hnx,fun k hk=>absurd hk (hD k),?_⟩;show HRep {z with w:=w'} [(0,some ⟨false,.rows e tyII (l'.map v)⟩)]/\ARep _ (.tup []) _;refine⟨⟨fun id e' he=> ?_,fun i i' e1 e2 a sa na a' sa' na' hii h1 h2=> ?_,fun id hid=> ?_,hH.sub,fun i x h=> ?_,hH.key,hH.dyn,hH.nos⟩,htup _⟩
  ·by_cases hid:id=0
   ·subst hid;rw[fIZ,ZAT rfl] at he;injection he with he;subst he;unfold ERep;show match z.ρ 0 with|.no=>False|.virt=>_|.real g sz n=>_
    rw[hρ];refine⟨Nat.lt_of_lt_of_le hlt hw2,fun _=>hC,(fun h=>by cases h),putCells id 0 (flatK (encV v) 2 l'.toArray) cs,fr,?_,?_,?_,?_,?_,b6,fun i x hx=>⟨encII x,clII.2 rfl,fun j w hv=> ?_⟩⟩
    ·show w'.heap[g0]? =_;rw[hw1 g0 hlt,ZAT rfl]
    ·unfold okR at b2⊢;simpa[putCells] using b2
    ·simpa[putCells] using b3
    ·rw[ZBB];exact hlen.trans b4
    ·show(l'.map v).length*2<=sz;rw[ZBB,hlen];exact b5
    ·rw[ZAW] at hx;obtain⟨y,hy,rfl⟩:=ZAH.1 hx;obtain⟨q1,q2⟩:=qMZ v l' hy hv;show(putCells id 0 (flatK (encV v) 2 l'.toArray) cs)[i*2+j]? =some w;rw[iyZ (by rw[b3];omega),ZAT (by rw[size_flatK];simpa using q1),q2]
   ·rw[fIZ,ZAQ hid] at he;cases he
  ·have key:∀j ee,hgetX [(0,some (⟨false,.rows e tyII (l'.map v)⟩:Ent))] j=some ee->j=0:=fun j ee h=>by
    by_cases hj:j=0
    ·exact hj
    ·rw[fIZ,ZAQ hj] at h;cases h
   exact absurd ((key i _ h1).trans (key i' _ h2).symm) hii
  ·refine hH.fresh id ?_;have h0:=cAZ;by_cases hd:dynBase<=id
   ·have hne:∀l:List tyII.den,hget [(0,some (⟨false,.rows e tyII l⟩:Ent))] (rt id)=none:=fun l=>by
     have:=(buZ hd).1;have hf:0<famBase:=by simp[famBase]
     simp only[hget,afZ (show 0≠rt id by omega)];rfl
    rw[awZ hd,hne] at hid;rw[awZ hd];rw[hne];exact hid
   ·unfold hkeyX at hid⊢;rw[ZAQ hd] at hid⊢;split
    ·rfl
    ·rename_i hf;rw[ZAQ hf] at hid;exact hid
  ·by_cases hi:i=0
   ·subst hi;have h:some (⟨false,.rows e tyII (l'.map v)⟩:Ent)=some x:=h;injection h with h;subst h;show 0<famBase;simp[famBase]
   ·simp only[hget,afZ (ZBd hi)] at h;cases h
end
def okP(x:Int×Int):Bool:=decide (-4611686018427387904<=x.1/\x.1<=4611686018427387903)
abbrev PartV:={x:Int×Int//okP x=true}
instance:Inhabited PartV:=⟨⟨(0,0),by decide⟩⟩
def liftP(l:List (Int×Int)):Option (List PartV):=if h:∀x∈l,okP x=true then some (l.attach.map fun x=>⟨x.1,h x.1 x.2⟩) else none
theorem o0Z(l:List (Int×Int))(t:List PartV)(h:liftP l=some t):t.map (fun x=>x.1)=l:=by
 unfold liftP at h;split at h
 ·injection h with h;subst h;rw[List.map_map];exact List.attach_map_subtype_val l
 ·cases h
def cfP(x y:PartV):Int:=x.1.1-y.1.1
theorem swoP:SWO (ltOf cfP) where
 irrefl x:=by
  refine ZAG ?_;unfold cfP;omega
 trans x y z h1 h2:=by
  have h1:cfP x y<0:=of_decide_eq_true h1;have h2:cfP y z<0:=of_decide_eq_true h2;refine ZAJ ?_;unfold cfP at*;omega
 ntrans x y z h1 h2:=by
  have h1:¬cfP x y<0:=of_decide_eq_false h1;have h2:¬cfP y z<0:=of_decide_eq_false h2;refine ZAG ?_;unfold cfP at*;omega
def sortP(l:List (Int×Int)):Option (List (Int×Int)):=(liftP l).map fun t=>(sortA (ltOf cfP) t).map fun x=>x.1
end Go.Ab
